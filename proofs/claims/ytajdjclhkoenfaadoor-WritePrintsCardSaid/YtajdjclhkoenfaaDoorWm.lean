/- Texts with entities. -/
import Derived.Test.YtajdjclhkoenfaaDoorWl
import Derived.Laws.BytesArg
set_option linter.unusedSimpArgs false
set_option linter.unusedVariables false
namespace Go.Proofs.YtajdjclhkoenfaaDoor
open Go.RowKit

def entN : List (Int × ByteArray) := [(38, ⟨#[97, 109, 112]⟩), (60, ⟨#[108, 116]⟩), (62, ⟨#[103, 116]⟩), (39, ⟨#[97, 112, 111, 115]⟩), (34, ⟨#[113, 117, 111, 116]⟩)]
def entV : List (Int × Value) := entN.map fun p => (p.1, Value.string p.2)
def numsS (s : ByteArray) : List Int := s.data.toList.map fun b => (b.toNat : Int)
def escN (c : Int) : List Int := match getM entN c with
  | some nm => 38 :: (numsS nm ++ [59])
  | none => [c]
def escL (s : ByteArray) (k : Nat) : List Int := (List.range k).flatMap fun i => escN (bt s i)
def escS (s : ByteArray) : ByteArray := strOfNums (escL s s.size)
theorem getM_map {κ : Type} [DecidableEq κ] {β γ : Type} (f : β → γ) (k : κ) : ∀ (l : List (κ × β)), getM (l.map fun p => (p.1, f p.2)) k = (getM l k).map f
  | [] => rfl
  | (a, x) :: r => by
    simp only [List.map_cons, getM]
    by_cases h : a = k
    · simp [h]
    · simp only [if_neg h]; exact getM_map f k r
theorem getM_mem {κ : Type} [DecidableEq κ] {β : Type} {k : κ} {v : β} : ∀ {l : List (κ × β)}, getM l k = some v → (k, v) ∈ l
  | [], h => by cases h
  | (a, x) :: r, h => by
    simp only [getM] at h
    by_cases hk : a = k
    · rw [if_pos hk] at h; cases h; subst hk; simp
    · rw [if_neg hk] at h; exact List.mem_cons_of_mem _ (getM_mem h)
theorem ent_small {c : Int} {nm : ByteArray} (h : getM entN c = some nm) : nm.size ≤ 4 := by
  have := getM_mem h
  simp [entN] at this
  rcases this with ⟨_, rfl⟩ | ⟨_, rfl⟩ | ⟨_, rfl⟩ | ⟨_, rfl⟩ | ⟨_, rfl⟩ <;> decide
theorem numsS_length (s : ByteArray) : (numsS s).length = s.size := by rw [numsS, List.length_map, Lib.size_eq]
theorem escN_len (c : Int) : (escN c).length ≤ 6 ∧ 1 ≤ (escN c).length := by
  unfold escN
  cases h : getM entN c with
  | none => simp
  | some nm => have := ent_small h; have h2 := numsS_length nm; simp; omega
theorem escL_succ (s : ByteArray) (k : Nat) : escL s (k + 1) = escL s k ++ escN (bt s k) := by simp [escL, List.range_succ]
theorem escL_len (s : ByteArray) : ∀ k, (escL s k).length ≤ 6 * k
  | 0 => by simp [escL]
  | k + 1 => by have := escL_len s k; have := escN_len (bt s k); rw [escL_succ, List.length_append]; omega
theorem strCells_nums (s : ByteArray) : Lib.strCells s = (numsS s).map (Value.int .u8) := by simp [Lib.strCells, numsS]
theorem escS_size (s : ByteArray) : (escS s).size ≤ 6 * s.size := by rw [escS, strOfNums_size]; exact escL_len s _

theorem entities_spec (h : Hp) : CallsH Tryd.prog 81 #[] h [] (fun e h' R' => ∃ b, e = .returned (.map (some b)) ∧ h' = h ∧ R' = [mapR b (Value.int .u8) entV]) := by
  refine callsH_of (args := []) Tryd.func81 rfl Tryd.ntmps81 rfl fun w => ?_
  repeat' (first | ((with_reducible apply GC.seq)) | ((with_reducible apply GC.region)) | ((with_reducible apply GO.nil)) | ((with_reducible apply QS.n)) | ((with_reducible apply GC.ret)) | ((with_reducible apply GO.move); exact rfl; exact rfl) | ((with_reducible apply GO.assign); exact rfl; exact rfl) | ((with_reducible apply GO.makeMap_i); exact rfl; exact fU; exact fU; intro _) | ((with_reducible apply GO.insert_i); exact rfl; exact rfl; exact rfl; (first | exact pk0 | exact pk1 | exact pk2 | exact pk3 | exact pk4 | exact pk5); exact fU; exact fU; exact rfl))
  exact FnQ.ret1 rfl rfl (View.now ⟨_, rfl, rfl, rfl⟩)

set_option maxRecDepth 100000 in
set_option maxHeartbeats 4000000 in
theorem Escape_spec (s : ByteArray) (h : Hp) (hs : s.size ≤ 1048576) : CallsV Tryd.prog 45 #[.string s] h (.string (escS s)) := by
  refine callsH_of (args := [_]) Tryd.func45 rfl Tryd.ntmps45 rfl fun w => ?_
  repeat' (first | ((with_reducible apply GC.seq)) | ((with_reducible apply GC.region)) | ((with_reducible apply GO.nil)) | ((with_reducible apply QS.n)) | ((with_reducible apply GO.assign); exact rfl; exact rfl))
  refine GO.call (vs := []) (caps := []) (Rin := []) (Rfr := []) rfl rfl rfl fN (entities_spec h) (List.Perm.refl _) (fun _ _ hr => by obtain ⟨_, hr, _⟩ := hr; cases hr) (fun _ _ _ _ hr => by obtain ⟨_, hr, _⟩ := hr; cases hr) ?_
  rintro v h1 R1 hle1 ⟨mb, hv, rfl, rfl⟩
  cases hv
  repeat' (first | ((with_reducible apply GC.seq)) | ((with_reducible apply GC.region)) | ((with_reducible apply GC.block)) | ((with_reducible apply GO.nil)) | ((with_reducible apply QS.n)) | ((with_reducible apply GO.move); exact rfl; exact rfl) | ((with_reducible apply GO.assign); exact rfl; exact rfl) | ((with_reducible apply GO.len_str); exact rfl; exact rfl; exact fU))
  refine GC.nilRow 5 1 ?_
  refine GC.loop (α := Nat × Option Addr × Nat) (fun x => [(0, .string s), (3, .map (some mb)), (4, .slice x.2.1 (escL s x.1).length x.2.2), (10, .int .i64 s.size), (11, .int .i64 x.1)])
    (fun x => [row x.2.1 (escL s x.1).length x.2.2 5 1 ((escL s x.1).map (Value.int .u8)), mapR mb (Value.int .u8) entV]) (fun x h' => h' = h1 ∧ x.1 ≤ s.size) (fun x => s.size - x.1) (0, none, 0) ⟨rfl, by simp⟩ ⟨rfl, rfl, rfl, rfl, rfl, trivial⟩ (List.Sublist.refl _) ?_
  rintro ⟨k, A1, c1⟩ h' hle ⟨rfl, hk⟩
  simp only at hk ⊢
  have hel := escL_len s k
  by_cases hlt : (k : Int) < s.size
  · have hlt' := decide_eq_true hlt
    have htn : ((k : Int)).toNat = k := rfl
    have hgm : getM entV (bt s ((k : Int)).toNat) = (getM entN (bt s k)).map Value.string := by rw [htn]; exact getM_map _ _ _
    cases hg : getM entN (bt s k) with
    | none =>
      have d1 : (getM entV (bt s ((k : Int)).toNat)).isSome = false := by rw [hgm, hg]; rfl
      have he : escL s (k + 1) = escL s k ++ [bt s k] := by rw [escL_succ, escN, hg]
      repeat' (first | ((with_reducible apply GC.seq)) | ((with_reducible apply GC.region)) | ((with_reducible apply GC.block)) | ((with_reducible apply GO.nil)) | ((with_reducible apply QS.n)) | ((with_reducible apply QB.n)) | ((with_reducible apply GC.skip)) | ((with_reducible apply GC.condT); exact rfl; (first | exact rfl | assumption)) | ((with_reducible apply GC.condF); exact rfl; (first | exact rfl | assumption)) | ((with_reducible apply GO.move); exact rfl; exact rfl) | ((with_reducible apply GO.assign); exact rfl; exact rfl) | ((with_reducible apply GO.extract); exact rfl; exact rfl; exact rfl) | ((with_reducible apply GO.lss); exact rfl; exact rfl; exact rfl) | ((with_reducible apply GO.add); exact rfl; exact rfl; exact rfl; (first | exact InR.i64 (by omega) (by omega) | exact InR.u8 (by omega) (by omega) | exact InR.i32 (by omega) (by omega) | exact InR.u32 (by omega) (by omega) | exact InR.u16 (by omega) (by omega) | exact InR.u64 (by omega) (by omega))) | ((with_reducible apply GO.index_str); exact rfl; exact rfl; exact rfl; exact fU; (first | omega | assumption)) | ((with_reducible apply GO.append); exact rfl; exact rfl; exact rfl; (first | exact pk0 | exact pk1 | exact pk2 | exact pk3 | exact pk4 | exact pk5); exact fU; exact fE; exact rfl; decide; (exact SrcOk.ofR (by (first | exact pk0 | exact pk1 | exact pk2 | exact pk3 | exact pk4 | exact pk5)) rfl rfl (by simp)); (first | omega | assumption); (first | omega | assumption); intro _ _ _) | ((with_reducible apply GO.buildSlice1); exact rfl; exact rfl; exact fU; exact fS; exact fZ; exact rfl; exact rfl; intro _) | ((with_reducible apply GO.lookupOk_i); exact rfl; exact rfl; exact rfl; (first | exact pk0 | exact pk1 | exact pk2 | exact pk3 | exact pk4 | exact pk5); exact fU; exact fU; exact fZ))
      rename_i nb A2 c2 hc2
      refine QL.n hle (k + 1, A2, c2) (by simp only; omega) ⟨rfl, by simp only; omega⟩ ⟨rfl, rfl, ?_, rfl, rfl, trivial⟩ ?_
      · simp only [he, List.length_append, List.length_cons, List.length_nil]; rfl
      · simp only [he, List.map_append, List.length_append, List.length_cons, List.length_nil]
        exact List.Sublist.cons _ (List.Sublist.refl _)
    | some nm =>
      have hnm := ent_small hg
      have d1 : (getM entV (bt s ((k : Int)).toNat)).isSome = true := by rw [hgm, hg]; rfl
      have d2 : (getM entV (bt s ((k : Int)).toNat)).getD (.string emptyS) = .string nm := by rw [hgm, hg]; rfl
      have he : escL s (k + 1) = escL s k ++ (38 :: (numsS nm ++ [59])) := by rw [escL_succ, escN, hg]
      repeat' (first | ((with_reducible apply GC.seq)) | ((with_reducible apply GC.region' [8]); exact rfl) | ((with_reducible apply GC.block)) | ((with_reducible apply GO.nil)) | ((with_reducible apply QS.n)) | ((with_reducible apply GC.skip)) | ((with_reducible apply GC.condT); exact rfl; (first | exact rfl | assumption)) | ((with_reducible apply GO.move); exact rfl; exact rfl) | ((with_reducible apply GO.assign); exact rfl; exact rfl) | ((with_reducible apply GO.extract); exact rfl; exact rfl; exact rfl) | ((with_reducible apply GO.lss); exact rfl; exact rfl; exact rfl) | ((with_reducible apply GO.index_str); exact rfl; exact rfl; exact rfl; exact fU; (first | omega | assumption)) | ((with_reducible apply GO.lookupOk_i); exact rfl; exact rfl; exact rfl; (first | exact pk0 | exact pk1 | exact pk2 | exact pk3 | exact pk4 | exact pk5); exact fU; exact fU; exact fZ))
      skip
      refine GC.sub (e' := [(0, .string s), (3, .map (some mb)), (4, .slice A1 (escL s k).length c1), (6, .string nm), (10, .int .i64 s.size), (11, .int .i64 k)]) ⟨rfl, rfl, rfl, congrArg some d2, rfl, rfl, trivial⟩ (List.Sublist.refl _) ?_
      have hnl := numsS_length nm
      repeat' (first | ((with_reducible apply GC.region)) | ((with_reducible apply GO.nil)) | ((with_reducible apply QS.n)) | ((with_reducible apply QB.n)) | ((with_reducible apply GO.move); exact rfl; exact rfl) | ((with_reducible apply GO.assign); exact rfl; exact rfl) | ((with_reducible apply GO.add); exact rfl; exact rfl; exact rfl; (first | exact InR.i64 (by omega) (by omega) | exact InR.u8 (by omega) (by omega) | exact InR.i32 (by omega) (by omega) | exact InR.u32 (by omega) (by omega) | exact InR.u16 (by omega) (by omega) | exact InR.u64 (by omega) (by omega))) | ((with_reducible apply GO.append_str); exact rfl; exact rfl; exact rfl; (first | exact pk0 | exact pk1 | exact pk2 | exact pk3 | exact pk4 | exact pk5); exact fU; exact fU; exact fE; (first | omega | assumption); intro _ _ _) | ((with_reducible apply GO.append); exact rfl; exact rfl; exact rfl; (first | exact pk0 | exact pk1 | exact pk2 | exact pk3 | exact pk4 | exact pk5); exact fU; exact fE; exact rfl; decide; (exact SrcOk.ofR (by (first | exact pk0 | exact pk1 | exact pk2 | exact pk3 | exact pk4 | exact pk5)) rfl rfl (by simp)); (first | omega | assumption); (first | omega | assumption); intro _ _ _) | ((with_reducible apply GO.buildSlice1); exact rfl; exact rfl; exact fU; exact fS; exact fZ; exact rfl; exact rfl; intro _))
      rename_i A3 c3 hc3 b3 A4 c4 hc4
      have he2 : (escL s (k + 1)).map (Value.int .u8) = (((escL s k).map (Value.int .u8) ++ [.int .u8 38]) ++ Lib.strCells nm) ++ [.int .u8 59] := by rw [he, strCells_nums]; simp
      have he3 : (escL s (k + 1)).length = (escL s k).length + 1 + nm.size + 1 := by rw [he]; simp [hnl]; omega
      refine QL.n hle (k + 1, A4, c4) (by simp only; omega) ⟨rfl, by simp only; omega⟩ ⟨rfl, rfl, ?_, rfl, rfl, trivial⟩ ?_
      · simp only [he3]; rfl
      · simp only [he2, he3]
        exact List.Sublist.cons _ (List.Sublist.cons _ (List.Sublist.refl _))
  · have hlt' := decide_eq_false hlt
    have hks : k = s.size := by omega
    subst hks
    repeat' (first | ((with_reducible apply GC.seq)) | ((with_reducible apply GC.region)) | ((with_reducible apply GO.nil)) | ((with_reducible apply QS.n)) | ((with_reducible apply GC.ret)) | ((with_reducible apply GC.exit)) | ((with_reducible apply QS.ex)) | ((with_reducible apply QL.ex)) | ((with_reducible apply QB.ex)) | ((with_reducible apply GC.condF); exact rfl; (first | exact rfl | assumption)) | ((with_reducible apply GO.move); exact rfl; exact rfl) | ((with_reducible apply GO.assign); exact rfl; exact rfl) | ((with_reducible apply GO.lss); exact rfl; exact rfl; exact rfl) | ((with_reducible apply GO.conv_bytes); exact rfl; exact rfl; exact fU; exact fU; exact fU; (first | exact pk0 | exact pk1 | exact pk2 | exact pk3 | exact pk4 | exact pk5)))
    exact FnQ.retV rfl rfl hle rfl
end Go.Proofs.YtajdjclhkoenfaaDoor
