/- Whole documents, as the reference looks at them. -/
import Derived.Test.YtajdjclhkoenfaaDoorWk
set_option linter.unusedSimpArgs false
set_option linter.unusedVariables false
namespace Go.Proofs.YtajdjclhkoenfaaDoor
open Go.RowKit

theorem walkStep_kind {st st' : List ByteArray} {p3 : Bool} {t : Tok} (hs : walkStep st p3 t = some st') :
    (t.kind = 1 ∧ st'.length = st.length + 1) ∨ (t.kind = 2 ∧ st'.length + 1 = st.length) ∨ (t.kind = 3 ∧ st' = st ∧ st ≠ []) := by
  unfold walkStep at hs
  split at hs
  · cases hs
  split at hs
  · rename_i h1; cases hs; exact .inl ⟨h1.1, by simp⟩
  split at hs
  · rename_i h1
    cases hs
    refine .inr (.inl ⟨h1.1, ?_⟩)
    have : st ≠ [] := fun h0 => by rw [h0] at h1; simp at h1
    have := List.length_pos_iff.2 this
    simp; omega
  split at hs
  · rename_i h1; cases hs; exact .inr (.inr ⟨h1.1.1, rfl, h1.1.2⟩)
  · cases hs

set_option maxRecDepth 100000 in
set_option maxHeartbeats 4000000 in
theorem WholeR_spec (A : Option Addr) (n c : Nat) (h : Hp) (hu : U8 h) (l : List Tok) (sl : SlH kTok h A n c l) (hn : n ≤ big) : CallsV Tryd.prog 20 #[.slice A n c] h (.bool (WholeA l)) := by
  have hn0 := hn
  unfold big at hn
  have hl := sl.len
  refine callsH_of (args := [_]) Tryd.func20 rfl Tryd.ntmps20 rfl fun w => ?_
  cases hr : RightA l with
  | false =>
    have hr' : (!RightA l) = true := by rw [hr]; rfl
    repeat' (first | ((with_reducible apply GC.seq)) | ((with_reducible apply GC.region)) | ((with_reducible apply GO.nil)) | ((with_reducible apply QS.n)) | ((with_reducible apply GC.ret)) | ((with_reducible apply QS.r)) | ((with_reducible apply GC.condT); exact rfl; (first | exact rfl | assumption)) | ((with_reducible apply GO.pass); exact rfl; exact rfl; exact rfl; exact rfl; (first | exact rfl | assumption)) | ((with_reducible apply GO.callV (f := 18) (vs := [_]) (caps := [])); exact rfl; exact rfl; exact rfl; exact fN; exact RightR_spec _ _ _ _ hu _ sl hn0) | ((with_reducible apply GO.move); exact rfl; exact rfl) | ((with_reducible apply GO.assign); exact rfl; exact rfl) | ((with_reducible apply GO.pick_t); exact rfl; exact rfl; (first | exact rfl | assumption); exact rfl) | ((with_reducible apply GO.not_); exact rfl; exact rfl))
    exact FnQ.retV rfl rfl (Hp.le_refl _) (by rw [WholeA, hr, Bool.and_false]; rfl)
  | true =>
  have hr' : (!RightA l) = false := by rw [hr]; rfl
  by_cases h0 : (n : Int) = 0
  · have d0 := decide_eq_true h0
    repeat' (first | ((with_reducible apply GC.seq)) | ((with_reducible apply GC.region)) | ((with_reducible apply GO.nil)) | ((with_reducible apply QS.n)) | ((with_reducible apply GC.ret)) | ((with_reducible apply QS.r)) | ((with_reducible apply GC.condT); exact rfl; (first | exact rfl | assumption)) | ((with_reducible apply GO.want); exact rfl; exact rfl; (first | exact rfl | assumption)) | ((with_reducible apply GO.callV (f := 18) (vs := [_]) (caps := [])); exact rfl; exact rfl; exact rfl; exact fN; exact RightR_spec _ _ _ _ hu _ sl hn0) | ((with_reducible apply GO.move); exact rfl; exact rfl) | ((with_reducible apply GO.assign); exact rfl; exact rfl) | ((with_reducible apply GO.pick_f); exact rfl; exact rfl; (first | exact rfl | assumption); exact rfl) | ((with_reducible apply GO.eql); exact rfl; exact rfl; exact rfl) | ((with_reducible apply GO.not_); exact rfl; exact rfl) | ((with_reducible apply GO.len_sl); exact rfl; exact rfl; exact fU))
    exact FnQ.retV rfl rfl (Hp.le_refl _) (by rw [WholeA, hl, d0]; rfl)
  have d0 := decide_eq_false h0
  repeat' (first | ((with_reducible apply GC.seq)) | ((with_reducible apply GC.region)) | ((with_reducible apply GC.block)) | ((with_reducible apply GO.nil)) | ((with_reducible apply QS.n)) | ((with_reducible apply GC.skip)) | ((with_reducible apply GC.condF); exact rfl; (first | exact rfl | assumption)) | ((with_reducible apply GO.want); exact rfl; exact rfl; (first | exact rfl | assumption)) | ((with_reducible apply GO.callV (f := 18) (vs := [_]) (caps := [])); exact rfl; exact rfl; exact rfl; exact fN; exact RightR_spec _ _ _ _ hu _ sl hn0) | ((with_reducible apply GO.move); exact rfl; exact rfl) | ((with_reducible apply GO.assign); exact rfl; exact rfl) | ((with_reducible apply GO.pick_f); exact rfl; exact rfl; (first | exact rfl | assumption); exact rfl) | ((with_reducible apply GO.eql); exact rfl; exact rfl; exact rfl) | ((with_reducible apply GO.not_); exact rfl; exact rfl) | ((with_reducible apply GO.len_sl); exact rfl; exact rfl; exact fU))
  have hW : WholeA l = firstZ n (walkItems 0 [] false l) := by rw [WholeA, hl, d0, hr]; rfl
  have hF : finW [] false l = some [] := by
    rw [RightA_fin] at hr
    simp only [Bool.and_eq_true] at hr
    exact of_decide_eq_true hr.2
  refine GC.loop (α := Nat × List ByteArray) (fun x => [(0, .slice A n c), (3, .int .i64 x.2.length), (4, .int .i64 x.1)]) (fun _ => [])
    (fun x h' => h' = h ∧ x.1 ≤ n ∧ x.2.length ≤ x.1 ∧ finW x.2 (prev3 l x.1) (l.drop x.1) = some [] ∧ (x.1 < n → firstZ n (walkItems x.1 x.2 (prev3 l x.1) (l.drop x.1)) = WholeA l) ∧ (x.1 = n → WholeA l = true)) (fun x => n - x.1) (0, [])
    ⟨rfl, by simp, by simp, by simpa [prev3] using hF, fun _ => by simpa [prev3] using hW.symm, fun h1 => (h0 (by simp only at h1; omega)).elim⟩ ⟨rfl, rfl, rfl, trivial⟩ (List.Sublist.refl _) ?_
  rintro ⟨k, st⟩ h' hle ⟨rfl, hk, hst, hfin, hz, hend⟩
  simp only at hk hst hfin hz hend ⊢
  by_cases hlt : (k : Int) < n
  · have hlt' := decide_eq_true hlt
    have hkl : k < l.length := by omega
    obtain ⟨cs, ⟨Aa, na, ca, rfl, sa, ht1, ht2, hna, hk0, hk255⟩, hcell⟩ := sl.elem (List.getElem?_eq_getElem hkl)
    have hA := sl.some_ (by decide) (by omega)
    have g0 := hcell 0 _ rfl
    have hp1 : prev3 l (k + 1) = decide (l[k].kind = 3) := by simp [prev3, hkl]
    replace hz := hz (by omega)
    rw [List.drop_eq_getElem_cons hkl, walkItems] at hz
    rw [List.drop_eq_getElem_cons hkl, finW] at hfin
    obtain ⟨t, ht⟩ : ∃ t, l[k] = t := ⟨_, rfl⟩
    rw [ht] at hp1 g0 hfin hz
    rw [← hp1] at hz hfin
    cases hs : walkStep st (prev3 l k) t with
    | none => rw [hs] at hfin; cases hfin
    | some st' =>
      rw [hs] at hfin hz
      simp only at hfin hz
      rw [firstZ] at hz
      simp only [List.getD_cons_succ, List.getD_cons_zero, valInt] at hz
      have hfin2 : k + 1 = n → st' = [] := fun h1 => by
        rw [List.drop_of_length_le (by omega), finW] at hfin
        exact Option.some.inj hfin
      rcases walkStep_kind hs with ⟨k1, hl1⟩ | ⟨k2, hl2⟩ | ⟨k3, rfl, hne⟩
      · have d1 := decide_eq_true k1
        have d2 : decide (t.kind = 2) = false := decide_eq_false (by omega)
        have dz : decide ((st.length : Int) + 1 = 0) = false := decide_eq_false (by omega)
        have dz' : decide ((st'.length : Int) = 0) = false := decide_eq_false (by omega)
        rw [dz', cond_false] at hz
        repeat' (first | ((with_reducible apply GC.seq)) | ((with_reducible apply GC.region)) | ((with_reducible apply GC.block)) | ((with_reducible apply GO.nil)) | ((with_reducible apply QS.n)) | ((with_reducible apply QB.n)) | ((with_reducible apply GC.skip)) | ((with_reducible apply GC.condT); exact rfl; (first | exact rfl | assumption)) | ((with_reducible apply GC.condF); exact rfl; (first | exact rfl | assumption)) | ((with_reducible apply GO.pass); exact rfl; exact rfl; exact rfl; exact rfl; (first | exact rfl | assumption)) | ((with_reducible apply GO.move); exact rfl; exact rfl) | ((with_reducible apply GO.assign); exact rfl; exact rfl) | ((with_reducible apply GO.pick_f); exact rfl; exact rfl; (first | exact rfl | assumption); exact rfl) | ((with_reducible apply GO.eql); exact rfl; exact rfl; exact rfl) | ((with_reducible apply GO.lss); exact rfl; exact rfl; exact rfl) | ((with_reducible apply GO.add); exact rfl; exact rfl; exact rfl; (first | exact InR.i64 (by omega) (by omega) | exact InR.u8 (by omega) (by omega) | exact InR.i32 (by omega) (by omega) | exact InR.u32 (by omega) (by omega) | exact InR.u16 (by omega) (by omega) | exact InR.u64 (by omega) (by omega))) | ((with_reducible apply GO.len_sl); exact rfl; exact rfl; exact fU) | ((with_reducible apply GO.fld_at); exact rfl; exact rfl; exact fF) | ((with_reducible apply GO.load_h); exact rfl; exact rfl; exact fG; (first | assumption | exact Hp.cell_up (by assumption) (by assumption))) | ((with_reducible apply GO.indexAddr); exact rfl; exact rfl; exact rfl; (first | with_reducible exact rfl | exact (Int.toNat_of_nonneg (by omega)).symm); exact fU; exact fS; (first | exact rfl | assumption); (first | omega | assumption)))
        refine QL.n (Hp.le_refl _) (k + 1, st') (by simp only; omega) ⟨rfl, by simp only; omega, by simp only; omega, hfin, fun _ => hz, fun h1 => ?_⟩ ⟨rfl, ?_, rfl, trivial⟩ (List.Sublist.refl _)
        · have := hfin2 h1; subst this; simp at hl1
        · simp only [hl1]; rfl
      · have d1 : decide (t.kind = 1) = false := decide_eq_false (by omega)
        have d2 := decide_eq_true k2
        by_cases hzero : st'.length = 0
        · have dz : decide ((st.length : Int) - 1 = 0) = true := decide_eq_true (by omega)
          have dz' : decide ((st'.length : Int) = 0) = true := decide_eq_true (by omega)
          rw [dz', cond_true] at hz
          by_cases hlast : (k : Int) < (n : Int) - 1
          · have dl := decide_eq_true hlast
            repeat' (first | ((with_reducible apply GC.seq)) | ((with_reducible apply GC.region)) | ((with_reducible apply GC.block)) | ((with_reducible apply GO.nil)) | ((with_reducible apply QS.n)) | ((with_reducible apply GC.skip)) | ((with_reducible apply GC.ret)) | ((with_reducible apply QS.r)) | ((with_reducible apply QB.r)) | ((with_reducible apply QL.r)) | ((with_reducible apply GC.condT); exact rfl; (first | exact rfl | assumption)) | ((with_reducible apply GC.condF); exact rfl; (first | exact rfl | assumption)) | ((with_reducible apply GO.want); exact rfl; exact rfl; (first | exact rfl | assumption)) | ((with_reducible apply GO.move); exact rfl; exact rfl) | ((with_reducible apply GO.assign); exact rfl; exact rfl) | ((with_reducible apply GO.pick_t); exact rfl; exact rfl; (first | exact rfl | assumption); exact rfl) | ((with_reducible apply GO.eql); exact rfl; exact rfl; exact rfl) | ((with_reducible apply GO.lss); exact rfl; exact rfl; exact rfl) | ((with_reducible apply GO.sub); exact rfl; exact rfl; exact rfl; (first | exact InR.i64 (by omega) (by omega) | exact InR.u8 (by omega) (by omega) | exact InR.i32 (by omega) (by omega) | exact InR.u32 (by omega) (by omega) | exact InR.u16 (by omega) (by omega) | exact InR.u64 (by omega) (by omega))) | ((with_reducible apply GO.len_sl); exact rfl; exact rfl; exact fU) | ((with_reducible apply GO.fld_at); exact rfl; exact rfl; exact fF) | ((with_reducible apply GO.load_h); exact rfl; exact rfl; exact fG; (first | assumption | exact Hp.cell_up (by assumption) (by assumption))) | ((with_reducible apply GO.indexAddr); exact rfl; exact rfl; exact rfl; (first | with_reducible exact rfl | exact (Int.toNat_of_nonneg (by omega)).symm); exact fU; exact fS; (first | exact rfl | assumption); (first | omega | assumption)))
            exact FnQ.retV rfl rfl (Hp.le_refl _) (by rw [← hz, decide_eq_false (by omega)])
          · have dl := decide_eq_false hlast
            repeat' (first | ((with_reducible apply GC.seq)) | ((with_reducible apply GC.region)) | ((with_reducible apply GC.block)) | ((with_reducible apply GO.nil)) | ((with_reducible apply QS.n)) | ((with_reducible apply QB.n)) | ((with_reducible apply GC.skip)) | ((with_reducible apply GC.condT); exact rfl; (first | exact rfl | assumption)) | ((with_reducible apply GC.condF); exact rfl; (first | exact rfl | assumption)) | ((with_reducible apply GO.want); exact rfl; exact rfl; (first | exact rfl | assumption)) | ((with_reducible apply GO.move); exact rfl; exact rfl) | ((with_reducible apply GO.assign); exact rfl; exact rfl) | ((with_reducible apply GO.pick_t); exact rfl; exact rfl; (first | exact rfl | assumption); exact rfl) | ((with_reducible apply GO.eql); exact rfl; exact rfl; exact rfl) | ((with_reducible apply GO.lss); exact rfl; exact rfl; exact rfl) | ((with_reducible apply GO.add); exact rfl; exact rfl; exact rfl; (first | exact InR.i64 (by omega) (by omega) | exact InR.u8 (by omega) (by omega) | exact InR.i32 (by omega) (by omega) | exact InR.u32 (by omega) (by omega) | exact InR.u16 (by omega) (by omega) | exact InR.u64 (by omega) (by omega))) | ((with_reducible apply GO.sub); exact rfl; exact rfl; exact rfl; (first | exact InR.i64 (by omega) (by omega) | exact InR.u8 (by omega) (by omega) | exact InR.i32 (by omega) (by omega) | exact InR.u32 (by omega) (by omega) | exact InR.u16 (by omega) (by omega) | exact InR.u64 (by omega) (by omega))) | ((with_reducible apply GO.len_sl); exact rfl; exact rfl; exact fU) | ((with_reducible apply GO.fld_at); exact rfl; exact rfl; exact fF) | ((with_reducible apply GO.load_h); exact rfl; exact rfl; exact fG; (first | assumption | exact Hp.cell_up (by assumption) (by assumption))) | ((with_reducible apply GO.indexAddr); exact rfl; exact rfl; exact rfl; (first | with_reducible exact rfl | exact (Int.toNat_of_nonneg (by omega)).symm); exact fU; exact fS; (first | exact rfl | assumption); (first | omega | assumption)))
            refine QL.n (Hp.le_refl _) (k + 1, st') (by simp only; omega) ⟨rfl, by simp only; omega, by simp only; omega, hfin, fun h1 => ?_, fun h1 => ?_⟩ ⟨rfl, ?_, rfl, trivial⟩ (List.Sublist.refl _)
            · simp only at h1; omega
            · rw [← hz, decide_eq_true (by omega)]
            · simp only [lk_cons, show ((st'.length : Nat) : Int) = (st.length : Int) - 1 by omega]; rfl
        · have dz : decide ((st.length : Int) - 1 = 0) = false := decide_eq_false (by omega)
          have dz' : decide ((st'.length : Int) = 0) = false := decide_eq_false (by omega)
          rw [dz', cond_false] at hz
          repeat' (first | ((with_reducible apply GC.seq)) | ((with_reducible apply GC.region)) | ((with_reducible apply GC.block)) | ((with_reducible apply GO.nil)) | ((with_reducible apply QS.n)) | ((with_reducible apply QB.n)) | ((with_reducible apply GC.skip)) | ((with_reducible apply GC.condT); exact rfl; (first | exact rfl | assumption)) | ((with_reducible apply GC.condF); exact rfl; (first | exact rfl | assumption)) | ((with_reducible apply GO.pass); exact rfl; exact rfl; exact rfl; exact rfl; (first | exact rfl | assumption)) | ((with_reducible apply GO.move); exact rfl; exact rfl) | ((with_reducible apply GO.assign); exact rfl; exact rfl) | ((with_reducible apply GO.pick_f); exact rfl; exact rfl; (first | exact rfl | assumption); exact rfl) | ((with_reducible apply GO.eql); exact rfl; exact rfl; exact rfl) | ((with_reducible apply GO.lss); exact rfl; exact rfl; exact rfl) | ((with_reducible apply GO.add); exact rfl; exact rfl; exact rfl; (first | exact InR.i64 (by omega) (by omega) | exact InR.u8 (by omega) (by omega) | exact InR.i32 (by omega) (by omega) | exact InR.u32 (by omega) (by omega) | exact InR.u16 (by omega) (by omega) | exact InR.u64 (by omega) (by omega))) | ((with_reducible apply GO.sub); exact rfl; exact rfl; exact rfl; (first | exact InR.i64 (by omega) (by omega) | exact InR.u8 (by omega) (by omega) | exact InR.i32 (by omega) (by omega) | exact InR.u32 (by omega) (by omega) | exact InR.u16 (by omega) (by omega) | exact InR.u64 (by omega) (by omega))) | ((with_reducible apply GO.len_sl); exact rfl; exact rfl; exact fU) | ((with_reducible apply GO.fld_at); exact rfl; exact rfl; exact fF) | ((with_reducible apply GO.load_h); exact rfl; exact rfl; exact fG; (first | assumption | exact Hp.cell_up (by assumption) (by assumption))) | ((with_reducible apply GO.indexAddr); exact rfl; exact rfl; exact rfl; (first | with_reducible exact rfl | exact (Int.toNat_of_nonneg (by omega)).symm); exact fU; exact fS; (first | exact rfl | assumption); (first | omega | assumption)))
          refine QL.n (Hp.le_refl _) (k + 1, st') (by simp only; omega) ⟨rfl, by simp only; omega, by simp only; omega, hfin, fun _ => hz, fun h1 => ?_⟩ ⟨rfl, ?_, rfl, trivial⟩ (List.Sublist.refl _)
          · have := hfin2 h1; subst this; exact (hzero rfl).elim
          · simp only [show ((st'.length : Nat) : Int) = (st.length : Int) - 1 by omega]; rfl
      · have d1 : decide (t.kind = 1) = false := decide_eq_false (by omega)
        have d2 : decide (t.kind = 2) = false := decide_eq_false (by omega)
        have hpos := List.length_pos_iff.2 hne
        have dz' : decide ((st'.length : Int) = 0) = false := decide_eq_false (by omega)
        rw [dz', cond_false] at hz
        repeat' (first | ((with_reducible apply GC.seq)) | ((with_reducible apply GC.region)) | ((with_reducible apply GC.block)) | ((with_reducible apply GO.nil)) | ((with_reducible apply QS.n)) | ((with_reducible apply QB.n)) | ((with_reducible apply GC.skip)) | ((with_reducible apply GC.condT); exact rfl; (first | exact rfl | assumption)) | ((with_reducible apply GC.condF); exact rfl; (first | exact rfl | assumption)) | ((with_reducible apply GO.pass); exact rfl; exact rfl; exact rfl; exact rfl; (first | exact rfl | assumption)) | ((with_reducible apply GO.move); exact rfl; exact rfl) | ((with_reducible apply GO.assign); exact rfl; exact rfl) | ((with_reducible apply GO.pick_f); exact rfl; exact rfl; (first | exact rfl | assumption); exact rfl) | ((with_reducible apply GO.eql); exact rfl; exact rfl; exact rfl) | ((with_reducible apply GO.lss); exact rfl; exact rfl; exact rfl) | ((with_reducible apply GO.add); exact rfl; exact rfl; exact rfl; (first | exact InR.i64 (by omega) (by omega) | exact InR.u8 (by omega) (by omega) | exact InR.i32 (by omega) (by omega) | exact InR.u32 (by omega) (by omega) | exact InR.u16 (by omega) (by omega) | exact InR.u64 (by omega) (by omega))) | ((with_reducible apply GO.len_sl); exact rfl; exact rfl; exact fU) | ((with_reducible apply GO.fld_at); exact rfl; exact rfl; exact fF) | ((with_reducible apply GO.load_h); exact rfl; exact rfl; exact fG; (first | assumption | exact Hp.cell_up (by assumption) (by assumption))) | ((with_reducible apply GO.indexAddr); exact rfl; exact rfl; exact rfl; (first | with_reducible exact rfl | exact (Int.toNat_of_nonneg (by omega)).symm); exact fU; exact fS; (first | exact rfl | assumption); (first | omega | assumption)))
        refine QL.n (Hp.le_refl _) (k + 1, st') (by simp only; omega) ⟨rfl, by simp only; omega, by simp only; omega, hfin, fun _ => hz, fun h1 => ?_⟩ ⟨rfl, rfl, rfl, trivial⟩ (List.Sublist.refl _)
        have := hfin2 h1; subst this; exact (hne rfl).elim
  · have hlt' := decide_eq_false hlt
    repeat' (first | ((with_reducible apply GC.seq)) | ((with_reducible apply GC.region)) | ((with_reducible apply GO.nil)) | ((with_reducible apply QS.n)) | ((with_reducible apply GC.ret)) | ((with_reducible apply GC.exit)) | ((with_reducible apply QS.ex)) | ((with_reducible apply QL.ex)) | ((with_reducible apply QB.ex)) | ((with_reducible apply GC.condF); exact rfl; (first | exact rfl | assumption)) | ((with_reducible apply GO.move); exact rfl; exact rfl) | ((with_reducible apply GO.assign); exact rfl; exact rfl) | ((with_reducible apply GO.lss); exact rfl; exact rfl; exact rfl) | ((with_reducible apply GO.len_sl); exact rfl; exact rfl; exact fU))
    exact FnQ.retV rfl rfl hle (by rw [hend (by omega)])
end Go.Proofs.YtajdjclhkoenfaaDoor
