/- The statement's own function: heliographlaw04.WritePrints. -/
import Derived.Test.YtajdjclhkoenfaaDoorWq
set_option linter.unusedSimpArgs false
set_option linter.unusedVariables false
namespace Go.Proofs.YtajdjclhkoenfaaDoor
open Go.RowKit

theorem PrintV_form (l : List Tok) : ∃ s e, PrintV l = .tuple #[.string s, .int .i64 e] := by
  unfold PrintV
  split
  · exact ⟨_, _, rfl⟩
  · exact ⟨_, _, rfl⟩
def tokA : List Tok := elemToks ⟨#[97]⟩ [] []
def tokB : List Tok := elemToks ⟨#[97]⟩ [⟨⟨#[98]⟩, ⟨#[60]⟩⟩] [⟨3, emptyS, [], ⟨#[120]⟩⟩]
theorem printA : PrintV tokA = .tuple #[.string ⟨#[60, 97, 47, 62]⟩, .int .i64 0] := by kernel_rfl
theorem printB : PrintV tokB = .tuple #[.string ⟨#[60, 97, 32, 98, 61, 39, 38, 108, 116, 59, 39, 62, 120, 60, 47, 97, 62]⟩, .int .i64 0] := by kernel_rfl

set_option maxRecDepth 100000 in
set_option maxHeartbeats 4000000 in
theorem live04_spec (h : Hp) : CallsV Tryd.prog 16 #[] h (.bool true) := by
  refine callsH_of (args := []) Tryd.func16 rfl Tryd.ntmps16 rfl fun w => ?_
  repeat' (first | ((with_reducible apply GC.seq)) | ((with_reducible apply GC.region)) | ((with_reducible apply GO.nil)) | ((with_reducible apply QS.n)) | ((with_reducible apply GO.assign); exact rfl; exact rfl))
  refine GO.call (vs := [_, _, _]) (caps := []) (Rin := []) (Rfr := []) rfl rfl rfl fN (Element_spec ⟨#[97]⟩ none none 0 0 0 0 [] [] h (by decide) SlH.nil SlH.nil (by omega) (by omega) (by simp)) (List.Perm.refl _) (fun _ _ hr => by obtain ⟨_, _, hr, _⟩ := hr; cases hr) (fun _ _ _ _ hr => by obtain ⟨_, _, hr, _⟩ := hr; cases hr) ?_
  rintro v h1 R1 hle1 ⟨A1, c1, hv, sl1, rfl⟩
  cases hv
  have p1 := Print_spec A1 _ c1 h1 tokA sl1 (by decide)
  rw [printA] at p1
  repeat' (first | ((with_reducible apply GC.seq)) | ((with_reducible apply GC.region)) | ((with_reducible apply GO.nil)) | ((with_reducible apply QS.n)) | ((with_reducible apply GO.callV (f := 14) (vs := [_]) (caps := [])); exact rfl; exact rfl; exact rfl; exact fN; exact p1) | ((with_reducible apply GO.move); exact rfl; exact rfl) | ((with_reducible apply GO.assign); exact rfl; exact rfl) | ((with_reducible apply GO.extract); exact rfl; exact rfl; exact rfl))
  refine GO.build (vs := [(0, .string ⟨#[98]⟩), (1, .string ⟨#[60]⟩)]) (v := .agg #[.string ⟨#[98]⟩, .string ⟨#[60]⟩]) rfl rfl (fun w => by kernel_rfl) ?_
  repeat' (first | ((with_reducible apply GO.buildSlice1); exact rfl; exact rfl; exact fU; exact fS; exact fZ; exact rfl; exact rfl; intro _))
  refine GO.giveRow fun h2 hle2 hc2 hn2 => ?_
  refine GO.build (vs := [(0, .int .u8 3), (3, .string ⟨#[120]⟩)]) (v := .agg #[.int .u8 3, .string emptyS, .slice none 0 0, .string ⟨#[120]⟩]) rfl rfl (fun w => by kernel_rfl) ?_
  repeat' (first | ((with_reducible apply GO.buildSlice1); exact rfl; exact rfl; exact fU; exact fS; exact fZ; exact rfl; exact rfl; intro _))
  refine GO.giveRow fun h3 hle3 hc3 hn3 => ?_
  rename_i b1 b2
  have sB : SlH kAttr h3 (some ⟨b1, 0, none⟩) 1 1 [⟨⟨#[98]⟩, ⟨#[60]⟩⟩] := ⟨rfl, by omega, _, ⟨_, _, rfl, ⟨rfl, by decide, by decide⟩, rfl⟩, hc2.mono hle3⟩
  have sT : SlH kTok h3 (some ⟨b2, 0, none⟩) 1 1 [⟨3, emptyS, [], ⟨#[120]⟩⟩] := ⟨rfl, by omega, _, ⟨_, _, rfl, ⟨none, 0, 0, rfl, SlH.nil, by decide, by decide, by decide, by decide, by decide⟩, rfl⟩, hc3⟩
  refine GO.call (vs := [_, _, _]) (caps := []) (Rin := []) (Rfr := []) rfl rfl rfl fN (Element_spec ⟨#[97]⟩ _ _ 1 1 1 1 _ _ h3 (by decide) sB sT (by omega) (by omega) (by simp)) (List.Perm.refl _) (fun _ _ hr => by obtain ⟨_, _, hr, _⟩ := hr; cases hr) (fun _ _ _ _ hr => by obtain ⟨_, _, hr, _⟩ := hr; cases hr) ?_
  rintro v h4 R4 hle4 ⟨A4, c4, hv, sl4, rfl⟩
  cases hv
  have p4 := Print_spec A4 _ c4 h4 tokB sl4 (by decide)
  rw [printB] at p4
  repeat' (first | ((with_reducible apply GC.seq)) | ((with_reducible apply GC.region)) | ((with_reducible apply GO.nil)) | ((with_reducible apply QS.n)) | ((with_reducible apply GC.ret)) | ((with_reducible apply GO.want); exact rfl; exact rfl; (first | exact rfl | assumption)) | ((with_reducible apply GO.callV (f := 14) (vs := [_]) (caps := [])); exact rfl; exact rfl; exact rfl; exact fN; exact p4) | ((with_reducible apply GO.move); exact rfl; exact rfl) | ((with_reducible apply GO.assign); exact rfl; exact rfl) | ((with_reducible apply GO.pick_t); exact rfl; exact rfl; (first | exact rfl | assumption); exact rfl) | ((with_reducible apply GO.extract); exact rfl; exact rfl; exact rfl) | ((with_reducible apply GO.eql); exact rfl; exact rfl; exact rfl) | ((with_reducible apply GO.str_eql); exact rfl; exact rfl; exact rfl))
  exact FnQ.retV rfl rfl (Hp.le_trans hle1 (Hp.le_trans hle2 (Hp.le_trans hle3 hle4))) (congrArg Value.bool (decide_eq_true rfl))

set_option maxRecDepth 100000 in
set_option maxHeartbeats 4000000 in
theorem WritePrints_spec (A : Option Addr) (n c : Nat) (h : Hp) (hu : U8 h) (l0 : List Tok) (sl0 : SlH kTok h A n c l0) (hc : c ≤ big) : CallsV Tryd.prog 3 #[.slice A n c] h (.bool true) := by
  refine callsH_of (args := [_]) Tryd.func3 rfl Tryd.ntmps3 rfl fun w => ?_
  have hnc := sl0.cap
  have sl := sl0.take (m := min n 70) (by omega)
  generalize l0.take (min n 70) = l at *
  have hm : min n 70 ≤ big := by unfold big; omega
  obtain ⟨s, e, hPV⟩ := PrintV_form l
  have p1 := Print_spec A _ c h l sl hm
  have p2 := PrintR_spec A _ c h hu l sl hm
  rw [hPV] at p1 p2
  have q1 : decide (s = s) = true := decide_eq_true rfl
  have q2 : decide (e = e) = true := decide_eq_true rfl
  have q3 : (RightA l == RightA l) = true := by simp
  have q4 : (WholeA l == WholeA l) = true := by simp
  repeat' (first | ((with_reducible apply GC.seq)) | ((with_reducible apply GC.region)) | ((with_reducible apply GO.nil)) | ((with_reducible apply QS.n)) | ((with_reducible apply GC.ret)) | ((with_reducible apply GO.want); exact rfl; exact rfl; (first | exact rfl | assumption)) | ((with_reducible apply GO.callV (f := 13) (vs := [_]) (caps := [])); exact rfl; exact rfl; exact rfl; exact fN; exact few_spec _ _ _ _ hnc hc) | ((with_reducible apply GO.callV (f := 14) (vs := [_]) (caps := [])); exact rfl; exact rfl; exact rfl; exact fN; exact p1) | ((with_reducible apply GO.callV (f := 15) (vs := [_]) (caps := [])); exact rfl; exact rfl; exact rfl; exact fN; exact p2) | ((with_reducible apply GO.callV (f := 16) (vs := []) (caps := [])); exact rfl; exact rfl; exact rfl; exact fN; exact live04_spec _) | ((with_reducible apply GO.callV (f := 17) (vs := [_]) (caps := [])); exact rfl; exact rfl; exact rfl; exact fN; exact Right_spec _ _ _ _ _ sl hm) | ((with_reducible apply GO.callV (f := 18) (vs := [_]) (caps := [])); exact rfl; exact rfl; exact rfl; exact fN; exact RightR_spec _ _ _ _ hu _ sl hm) | ((with_reducible apply GO.callV (f := 19) (vs := [_]) (caps := [])); exact rfl; exact rfl; exact rfl; exact fN; exact Whole_spec _ _ _ _ _ sl hm) | ((with_reducible apply GO.callV (f := 20) (vs := [_]) (caps := [])); exact rfl; exact rfl; exact rfl; exact fN; exact WholeR_spec _ _ _ _ hu _ sl hm) | ((with_reducible apply GO.move); exact rfl; exact rfl) | ((with_reducible apply GO.assign); exact rfl; exact rfl) | ((with_reducible apply GO.pick_t); exact rfl; exact rfl; (first | exact rfl | assumption); exact rfl) | ((with_reducible apply GO.extract); exact rfl; exact rfl; exact rfl) | ((with_reducible apply GO.eql); exact rfl; exact rfl; exact rfl) | ((with_reducible apply GO.str_eql); exact rfl; exact rfl; exact rfl) | ((with_reducible apply GO.bool_eql); exact rfl; exact rfl; exact rfl; exact fU))
  exact FnQ.retV rfl rfl (Hp.le_refl _) (congrArg Value.bool q4)
end Go.Proofs.YtajdjclhkoenfaaDoor
