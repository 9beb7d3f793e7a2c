/- Texts with entities, as the reference writes them. -/
import Derived.Test.YtajdjclhkoenfaaDoorWn
set_option linter.unusedSimpArgs false
set_option linter.unusedVariables false
namespace Go.Proofs.YtajdjclhkoenfaaDoor
open Go.RowKit

def kPair : Kd (ByteArray × ByteArray) where
  n := 2
  ok := fun h x cs => cs = [.string x.1, .string x.2]
  mono := fun _ h => h
  len := fun h => by rw [h]; rfl
  one := fun h u hu => by
    rw [h] at hu
    simp at hu
    rcases hu with rfl | rfl <;> rfl
def pairsR : List (ByteArray × ByteArray) := [(⟨#[38]⟩, ⟨#[38, 97, 109, 112, 59]⟩), (⟨#[60]⟩, ⟨#[38, 108, 116, 59]⟩), (⟨#[62]⟩, ⟨#[38, 103, 116, 59]⟩), (⟨#[39]⟩, ⟨#[38, 97, 112, 111, 115, 59]⟩), (⟨#[34]⟩, ⟨#[38, 113, 117, 111, 116, 59]⟩)]
def scanC (x : ByteArray) (j : Nat) : ByteArray := (pairsR.take j).foldl (fun c p => if p.1 = x then p.2 else c) x
theorem scanC_succ (x : ByteArray) {j : Nat} {p : ByteArray × ByteArray} (h : pairsR[j]? = some p) : scanC x (j + 1) = if p.1 = x then p.2 else scanC x j := by
  unfold scanC
  rw [List.take_add_one, h, List.foldl_append]
  rfl
theorem scanC_all : ∀ n : Fin 256, scanC ⟨#[UInt8.ofNat n.val]⟩ 5 = strOfNums (escN (n.val : Int)) := by decide +kernel
theorem extract_one (s : ByteArray) (k : Nat) (hk : k < s.size) : s.extract k (k + 1) = ⟨#[UInt8.ofNat (bt s k).toNat]⟩ := by
  have hb : bt s k = ((s[k]'hk).toNat : Int) := by unfold bt; rw [dif_pos hk]
  rw [hb]
  apply ByteArray.ext
  apply Array.ext'
  rw [Lib.extract_data]
  have hl : k < s.data.toList.length := by rw [← Lib.size_eq]; exact hk
  rw [Nat.add_sub_cancel_left, List.drop_eq_getElem_cons hl]
  simp
  rfl
theorem scanC_bt (s : ByteArray) (k : Nat) (hk : k < s.size) : scanC (s.extract k (k + 1)) 5 = strOfNums (escN (bt s k)) := by
  have hr := bt_range s k
  rw [extract_one s k hk]
  have := scanC_all ⟨(bt s k).toNat, by omega⟩
  simp only at this
  rw [this]
  congr 2
  omega
theorem strOfNums_append (a b : List Int) : strOfNums a ++ strOfNums b = strOfNums (a ++ b) := by
  apply ByteArray.ext
  simp [strOfNums]
theorem pairs_small : ∀ p ∈ pairsR, p.2.size ≤ 6 := by decide
theorem scanC_size (x : ByteArray) (hx : x.size ≤ 6) : ∀ j, (scanC x j).size ≤ 6
  | 0 => by simpa [scanC] using hx
  | j + 1 => by
    cases h : pairsR[j]? with
    | none =>
      have : scanC x (j + 1) = scanC x j := by unfold scanC; rw [List.take_add_one, h]; simp
      rw [this]; exact scanC_size x hx j
    | some p =>
      rw [scanC_succ x h]
      split
      · exact pairs_small p (List.mem_of_getElem? h)
      · exact scanC_size x hx j

set_option maxRecDepth 100000 in
set_option maxHeartbeats 1000000 in
theorem entitiesR_spec (h : Hp) : CallsH Tryd.prog 82 #[] h [] (RetSl kPair pairsR) := by
  refine callsH_of (args := []) Tryd.func82 rfl Tryd.ntmps82 rfl fun w => ?_
  repeat' (first | ((with_reducible apply GC.seq)) | ((with_reducible apply GC.region)) | ((with_reducible apply GO.nil)) | ((with_reducible apply QS.n)) | ((with_reducible apply GO.assign); exact rfl; exact rfl))
  refine GO.build (vs := [(0, .string ⟨#[38]⟩), (1, .string ⟨#[38, 97, 109, 112, 59]⟩)]) (v := .agg #[.string ⟨#[38]⟩, .string ⟨#[38, 97, 109, 112, 59]⟩]) rfl rfl (fun w => by kernel_rfl) ?_
  refine GO.build (vs := [(0, .string ⟨#[60]⟩), (1, .string ⟨#[38, 108, 116, 59]⟩)]) (v := .agg #[.string ⟨#[60]⟩, .string ⟨#[38, 108, 116, 59]⟩]) rfl rfl (fun w => by kernel_rfl) ?_
  refine GO.build (vs := [(0, .string ⟨#[62]⟩), (1, .string ⟨#[38, 103, 116, 59]⟩)]) (v := .agg #[.string ⟨#[62]⟩, .string ⟨#[38, 103, 116, 59]⟩]) rfl rfl (fun w => by kernel_rfl) ?_
  refine GO.build (vs := [(0, .string ⟨#[39]⟩), (1, .string ⟨#[38, 97, 112, 111, 115, 59]⟩)]) (v := .agg #[.string ⟨#[39]⟩, .string ⟨#[38, 97, 112, 111, 115, 59]⟩]) rfl rfl (fun w => by kernel_rfl) ?_
  refine GO.build (vs := [(0, .string ⟨#[34]⟩), (1, .string ⟨#[38, 113, 117, 111, 116, 59]⟩)]) (v := .agg #[.string ⟨#[34]⟩, .string ⟨#[38, 113, 117, 111, 116, 59]⟩]) rfl rfl (fun w => by kernel_rfl) ?_
  refine GO.buildSlice (cs := pairsR.flatMap fun p => [.string p.1, .string p.2]) rfl rfl fU fS fZ rfl rfl (by kernel_rfl) rfl (fun b => ?_)
  repeat' (first | ((with_reducible apply GO.nil)) | ((with_reducible apply QS.n)) | ((with_reducible apply GC.ret)) | ((with_reducible apply GO.assign); exact rfl; exact rfl))
  refine FnQ.ret1 rfl rfl (View.giveRow fun h' hle hcells hcap => View.now ⟨_, _, rfl, ⟨rfl, hcap, _, ?_, hcells⟩, rfl⟩)
  exact ⟨_, _, rfl, rfl, _, _, rfl, rfl, _, _, rfl, rfl, _, _, rfl, rfl, _, _, rfl, rfl, rfl⟩

set_option maxRecDepth 100000 in
set_option maxHeartbeats 4000000 in
theorem EscapeR_spec (s : ByteArray) (h : Hp) (hs : s.size ≤ 1048576) : CallsV Tryd.prog 47 #[.string s] h (.string (escS s)) := by
  refine callsH_of (args := [_]) Tryd.func47 rfl Tryd.ntmps47 rfl fun w => ?_
  repeat' (first | ((with_reducible apply GC.seq)) | ((with_reducible apply GC.region)) | ((with_reducible apply GO.nil)) | ((with_reducible apply QS.n)) | ((with_reducible apply GO.assign); exact rfl; exact rfl))
  refine GO.call (vs := []) (caps := []) (Rin := []) (Rfr := []) rfl rfl rfl fN (entitiesR_spec h) (List.Perm.refl _) (fun _ _ hr => by obtain ⟨_, _, hr, _⟩ := hr; cases hr) (fun _ _ _ _ hr => by obtain ⟨_, _, hr, _⟩ := hr; cases hr) ?_
  rintro v h1 R1 hle1 ⟨A, c, hv, sl, rfl⟩
  cases hv
  repeat' (first | ((with_reducible apply GC.seq)) | ((with_reducible apply GC.region)) | ((with_reducible apply GC.block)) | ((with_reducible apply GO.nil)) | ((with_reducible apply QS.n)) | ((with_reducible apply GO.assign); exact rfl; exact rfl))
  refine GC.loop (α := Nat) (fun k => [(0, .string s), (3, .string (strOfNums (escL s k))), (4, .slice A pairsR.length c), (5, .int .i64 k)]) (fun _ => []) (fun k h' => h1.le h' ∧ k ≤ s.size) (fun k => s.size - k) 0 ⟨Hp.le_refl _, by omega⟩ ⟨rfl, rfl, rfl, rfl, trivial⟩ (List.Sublist.refl _) ?_
  rintro k h' hle ⟨_, hk⟩
  have hel := escL_len s k
  have hel2 := strOfNums_size (escL s k)
  by_cases hlt : (k : Int) < s.size
  · have hlt' := decide_eq_true hlt
    have hx : s.extract ((k : Int)).toNat ((k : Int) + 1).toNat = s.extract k (k + 1) := rfl
    have hx1 : (s.extract k (k + 1)).size ≤ 6 := by simp [ByteArray.size_extract]; omega
    repeat' (first | ((with_reducible apply GC.seq)) | ((with_reducible apply GC.region)) | ((with_reducible apply GC.block)) | ((with_reducible apply GO.nil)) | ((with_reducible apply QS.n)) | ((with_reducible apply GC.skip)) | ((with_reducible apply GC.condT); exact rfl; (first | exact rfl | assumption)) | ((with_reducible apply GO.move); exact rfl; exact rfl) | ((with_reducible apply GO.assign); exact rfl; exact rfl) | ((with_reducible apply GO.lss); exact rfl; exact rfl; exact rfl) | ((with_reducible apply GO.add); exact rfl; exact rfl; exact rfl; (first | exact InR.i64 (by omega) (by omega) | exact InR.u8 (by omega) (by omega) | exact InR.i32 (by omega) (by omega) | exact InR.u32 (by omega) (by omega) | exact InR.u16 (by omega) (by omega) | exact InR.u64 (by omega) (by omega))) | ((with_reducible apply GO.len_str); exact rfl; exact rfl; exact fU) | ((with_reducible apply GO.slice_str); exact rfl; exact rfl; exact rfl; exact rfl; exact fU; (exact ⟨by omega, by omega, by omega⟩)))
    refine GC.loop (α := Nat) (fun j => [(0, .string s), (3, .string (strOfNums (escL s k))), (4, .slice A pairsR.length c), (5, .int .i64 k), (6, .string (scanC (s.extract k (k + 1)) j)), (7, .int .i64 j)]) (fun _ => []) (fun j h2 => j ≤ 5) (fun j => 5 - j) 0 (by omega) ⟨rfl, rfl, rfl, rfl, rfl, rfl, trivial⟩ (List.Sublist.refl _) ?_
    rintro j h2 hle2 hj
    have hsz := scanC_size _ hx1 j
    by_cases hj5 : (j : Int) < pairsR.length
    · have hj5' := decide_eq_true hj5
      have hjl : j < pairsR.length := by omega
      have h5 : pairsR.length = 5 := rfl
      have sl2 := (sl.mono hle).mono hle2
      obtain ⟨cs, rfl, hcell⟩ := sl2.elem (List.getElem?_eq_getElem hjl)
      have hA := sl2.some_ (by decide) (by decide)
      have g0 := hcell 0 _ rfl
      have g1 := hcell 1 _ rfl
      have hsc := scanC_succ (s.extract k (k + 1)) (List.getElem?_eq_getElem hjl)
      by_cases heq : pairsR[j].1 = s.extract k (k + 1)
      · have d1 : decide (pairsR[j].1 = s.extract ((k : Int)).toNat ((k : Int) + 1).toNat) = true := decide_eq_true heq
        rw [if_pos heq] at hsc
        repeat' (first | ((with_reducible apply GC.seq)) | ((with_reducible apply GC.region)) | ((with_reducible apply GC.block)) | ((with_reducible apply GO.nil)) | ((with_reducible apply QS.n)) | ((with_reducible apply QB.n)) | ((with_reducible apply GC.skip)) | ((with_reducible apply GC.condT); exact rfl; (first | exact rfl | assumption)) | ((with_reducible apply GO.move); exact rfl; exact rfl) | ((with_reducible apply GO.assign); exact rfl; exact rfl) | ((with_reducible apply GO.lss); exact rfl; exact rfl; exact rfl) | ((with_reducible apply GO.add); exact rfl; exact rfl; exact rfl; (first | exact InR.i64 (by omega) (by omega) | exact InR.u8 (by omega) (by omega) | exact InR.i32 (by omega) (by omega) | exact InR.u32 (by omega) (by omega) | exact InR.u16 (by omega) (by omega) | exact InR.u64 (by omega) (by omega))) | ((with_reducible apply GO.len_sl); exact rfl; exact rfl; exact fU) | ((with_reducible apply GO.load_h); exact rfl; exact rfl; exact fG; (first | assumption | exact Hp.cell_up (by assumption) (by assumption))) | ((with_reducible apply GO.indexAddr); exact rfl; exact rfl; exact rfl; (first | with_reducible exact rfl | exact (Int.toNat_of_nonneg (by omega)).symm); exact fU; exact fS; (first | exact rfl | assumption); (first | omega | assumption)) | ((with_reducible apply GO.indexAddr_at); exact rfl; exact rfl; exact rfl; exact fU; exact fS; decide) | ((with_reducible apply GB.region (n := 11) []); exact rfl; exact rfl; exact fM; decide +kernel; decide +kernel) | ((with_reducible apply GB.first); exact rfl; exact rfl; exact rfl; decide +kernel; decide +kernel; ((intro _ _ _); (repeat (first | ((with_reducible apply GO.move); exact rfl; exact rfl) | ((with_reducible apply GO.assign); exact rfl; exact rfl) | ((with_reducible apply GO.pick_t); exact rfl; exact rfl; (first | exact rfl | assumption); exact rfl) | ((with_reducible apply GO.pick_f); exact rfl; exact rfl; (first | exact rfl | assumption); exact rfl) | ((with_reducible apply GO.extract); exact rfl; exact rfl; exact rfl) | ((with_reducible apply GO.eql); exact rfl; exact rfl; exact rfl) | ((with_reducible apply GO.neq); exact rfl; exact rfl; exact rfl) | ((with_reducible apply GO.str_eql); exact rfl; exact rfl; exact rfl) | ((with_reducible apply GO.str_neq); exact rfl; exact rfl; exact rfl) | ((with_reducible apply GO.lss); exact rfl; exact rfl; exact rfl) | ((with_reducible apply GO.leq); exact rfl; exact rfl; exact rfl) | ((with_reducible apply GO.gtr); exact rfl; exact rfl; exact rfl) | ((with_reducible apply GO.geq); exact rfl; exact rfl; exact rfl) | ((with_reducible apply GO.add); exact rfl; exact rfl; exact rfl; (first | exact InR.i64 (by omega) (by omega) | exact InR.u8 (by omega) (by omega) | exact InR.i32 (by omega) (by omega) | exact InR.u32 (by omega) (by omega) | exact InR.u16 (by omega) (by omega) | exact InR.u64 (by omega) (by omega))) | ((with_reducible apply GO.sub); exact rfl; exact rfl; exact rfl; (first | exact InR.i64 (by omega) (by omega) | exact InR.u8 (by omega) (by omega) | exact InR.i32 (by omega) (by omega) | exact InR.u32 (by omega) (by omega) | exact InR.u16 (by omega) (by omega) | exact InR.u64 (by omega) (by omega))) | ((with_reducible apply GO.str_add); exact rfl; exact rfl; exact rfl; (first | omega | assumption)) | ((with_reducible apply GO.not_); exact rfl; exact rfl) | ((with_reducible apply GO.bool_eql); exact rfl; exact rfl; exact rfl; exact fU) | ((with_reducible apply GO.sl_nil); exact rfl; exact rfl; exact rfl; exact fU) | ((with_reducible apply GO.ptr_nil); exact rfl; exact rfl; exact rfl; exact fU) | ((with_reducible apply GO.len_str); exact rfl; exact rfl; exact fU) | ((with_reducible apply GO.len_sl); exact rfl; exact rfl; exact fU) | ((with_reducible apply GO.index_str); exact rfl; exact rfl; exact rfl; exact fU; (first | omega | assumption)) | ((with_reducible apply GO.conv_int); exact rfl; exact rfl; exact fU; exact fU; (first | exact InR.i64 (by omega) (by omega) | exact InR.u8 (by omega) (by omega) | exact InR.i32 (by omega) (by omega) | exact InR.u32 (by omega) (by omega) | exact InR.u16 (by omega) (by omega) | exact InR.u64 (by omega) (by omega))) | ((with_reducible apply GO.nilCheck); exact rfl; exact rfl) | ((with_reducible apply GO.slice_str); exact rfl; exact rfl; exact rfl; exact rfl; exact fU; (exact ⟨by omega, by omega, by omega⟩)) | ((with_reducible apply GO.makeFunc); exact rfl; exact rfl; exact rfl) | ((with_reducible apply GO.makeIface); exact rfl; exact rfl; exact fU; exact rfl) | ((with_reducible apply GO.fld_at); exact rfl; exact rfl; exact fF) | ((with_reducible apply GO.fld); exact rfl; exact rfl; exact fF) | ((with_reducible apply GO.load_h); exact rfl; exact rfl; exact fG; (first | assumption | exact Hp.cell_up (by assumption) (by assumption))) | ((with_reducible apply GO.load_hA); exact rfl; exact rfl; exact fG; exact fS; assumption; exact rfl) | ((with_reducible apply GO.indexAddr); exact rfl; exact rfl; exact rfl; (first | with_reducible exact rfl | exact (Int.toNat_of_nonneg (by omega)).symm); exact fU; exact fS; (first | exact rfl | assumption); (first | omega | assumption)) | ((with_reducible apply GO.indexAddr_at); exact rfl; exact rfl; exact rfl; exact fU; exact fS; decide) | ((with_reducible apply GO.indexAddr_a); exact rfl; exact rfl; exact rfl; exact fU; exact fS; decide) | ((with_reducible apply GO.slice_to); exact rfl; exact rfl; exact rfl; exact fU; exact fS; (exact ⟨by omega, by omega⟩); (first | omega | assumption)) | ((with_reducible apply GO.slice_from); exact rfl; exact rfl; exact rfl; exact rfl; exact fU; exact fS; (exact ⟨by omega, by omega, by omega⟩); (first | omega | assumption)) | ((with_reducible apply GO.conv_bytes); exact rfl; exact rfl; exact fU; exact fU; exact fU; (first | exact pk0 | exact pk1 | exact pk2 | exact pk3 | exact pk4 | exact pk5)))); (with_reducible apply GO.nil); (with_reducible apply QV.n); exact rfl; exact rfl)) | ((with_reducible apply GB.done); decide +kernel))
        exact QL.n hle2 (j + 1) (by omega) (by omega) ⟨rfl, rfl, rfl, rfl, by rw [hsc]; rfl, rfl, trivial⟩ (List.Sublist.refl _)
      · have d1 : decide (pairsR[j].1 = s.extract ((k : Int)).toNat ((k : Int) + 1).toNat) = false := decide_eq_false heq
        rw [if_neg heq] at hsc
        repeat' (first | ((with_reducible apply GC.seq)) | ((with_reducible apply GC.region)) | ((with_reducible apply GC.block)) | ((with_reducible apply GO.nil)) | ((with_reducible apply QS.n)) | ((with_reducible apply QB.n)) | ((with_reducible apply GC.skip)) | ((with_reducible apply GC.condT); exact rfl; (first | exact rfl | assumption)) | ((with_reducible apply GC.condF); exact rfl; (first | exact rfl | assumption)) | ((with_reducible apply GO.move); exact rfl; exact rfl) | ((with_reducible apply GO.assign); exact rfl; exact rfl) | ((with_reducible apply GO.lss); exact rfl; exact rfl; exact rfl) | ((with_reducible apply GO.add); exact rfl; exact rfl; exact rfl; (first | exact InR.i64 (by omega) (by omega) | exact InR.u8 (by omega) (by omega) | exact InR.i32 (by omega) (by omega) | exact InR.u32 (by omega) (by omega) | exact InR.u16 (by omega) (by omega) | exact InR.u64 (by omega) (by omega))) | ((with_reducible apply GO.len_sl); exact rfl; exact rfl; exact fU) | ((with_reducible apply GB.region (n := 11) []); exact rfl; exact rfl; exact fM; decide +kernel; decide +kernel) | ((with_reducible apply GB.first); exact rfl; exact rfl; exact rfl; decide +kernel; decide +kernel; ((intro _ _ _); (repeat (first | ((with_reducible apply GO.move); exact rfl; exact rfl) | ((with_reducible apply GO.assign); exact rfl; exact rfl) | ((with_reducible apply GO.pick_t); exact rfl; exact rfl; (first | exact rfl | assumption); exact rfl) | ((with_reducible apply GO.pick_f); exact rfl; exact rfl; (first | exact rfl | assumption); exact rfl) | ((with_reducible apply GO.extract); exact rfl; exact rfl; exact rfl) | ((with_reducible apply GO.eql); exact rfl; exact rfl; exact rfl) | ((with_reducible apply GO.neq); exact rfl; exact rfl; exact rfl) | ((with_reducible apply GO.str_eql); exact rfl; exact rfl; exact rfl) | ((with_reducible apply GO.str_neq); exact rfl; exact rfl; exact rfl) | ((with_reducible apply GO.lss); exact rfl; exact rfl; exact rfl) | ((with_reducible apply GO.leq); exact rfl; exact rfl; exact rfl) | ((with_reducible apply GO.gtr); exact rfl; exact rfl; exact rfl) | ((with_reducible apply GO.geq); exact rfl; exact rfl; exact rfl) | ((with_reducible apply GO.add); exact rfl; exact rfl; exact rfl; (first | exact InR.i64 (by omega) (by omega) | exact InR.u8 (by omega) (by omega) | exact InR.i32 (by omega) (by omega) | exact InR.u32 (by omega) (by omega) | exact InR.u16 (by omega) (by omega) | exact InR.u64 (by omega) (by omega))) | ((with_reducible apply GO.sub); exact rfl; exact rfl; exact rfl; (first | exact InR.i64 (by omega) (by omega) | exact InR.u8 (by omega) (by omega) | exact InR.i32 (by omega) (by omega) | exact InR.u32 (by omega) (by omega) | exact InR.u16 (by omega) (by omega) | exact InR.u64 (by omega) (by omega))) | ((with_reducible apply GO.str_add); exact rfl; exact rfl; exact rfl; (first | omega | assumption)) | ((with_reducible apply GO.not_); exact rfl; exact rfl) | ((with_reducible apply GO.bool_eql); exact rfl; exact rfl; exact rfl; exact fU) | ((with_reducible apply GO.sl_nil); exact rfl; exact rfl; exact rfl; exact fU) | ((with_reducible apply GO.ptr_nil); exact rfl; exact rfl; exact rfl; exact fU) | ((with_reducible apply GO.len_str); exact rfl; exact rfl; exact fU) | ((with_reducible apply GO.len_sl); exact rfl; exact rfl; exact fU) | ((with_reducible apply GO.index_str); exact rfl; exact rfl; exact rfl; exact fU; (first | omega | assumption)) | ((with_reducible apply GO.conv_int); exact rfl; exact rfl; exact fU; exact fU; (first | exact InR.i64 (by omega) (by omega) | exact InR.u8 (by omega) (by omega) | exact InR.i32 (by omega) (by omega) | exact InR.u32 (by omega) (by omega) | exact InR.u16 (by omega) (by omega) | exact InR.u64 (by omega) (by omega))) | ((with_reducible apply GO.nilCheck); exact rfl; exact rfl) | ((with_reducible apply GO.slice_str); exact rfl; exact rfl; exact rfl; exact rfl; exact fU; (exact ⟨by omega, by omega, by omega⟩)) | ((with_reducible apply GO.makeFunc); exact rfl; exact rfl; exact rfl) | ((with_reducible apply GO.makeIface); exact rfl; exact rfl; exact fU; exact rfl) | ((with_reducible apply GO.fld_at); exact rfl; exact rfl; exact fF) | ((with_reducible apply GO.fld); exact rfl; exact rfl; exact fF) | ((with_reducible apply GO.load_h); exact rfl; exact rfl; exact fG; (first | assumption | exact Hp.cell_up (by assumption) (by assumption))) | ((with_reducible apply GO.load_hA); exact rfl; exact rfl; exact fG; exact fS; assumption; exact rfl) | ((with_reducible apply GO.indexAddr); exact rfl; exact rfl; exact rfl; (first | with_reducible exact rfl | exact (Int.toNat_of_nonneg (by omega)).symm); exact fU; exact fS; (first | exact rfl | assumption); (first | omega | assumption)) | ((with_reducible apply GO.indexAddr_at); exact rfl; exact rfl; exact rfl; exact fU; exact fS; decide) | ((with_reducible apply GO.indexAddr_a); exact rfl; exact rfl; exact rfl; exact fU; exact fS; decide) | ((with_reducible apply GO.slice_to); exact rfl; exact rfl; exact rfl; exact fU; exact fS; (exact ⟨by omega, by omega⟩); (first | omega | assumption)) | ((with_reducible apply GO.slice_from); exact rfl; exact rfl; exact rfl; exact rfl; exact fU; exact fS; (exact ⟨by omega, by omega, by omega⟩); (first | omega | assumption)) | ((with_reducible apply GO.conv_bytes); exact rfl; exact rfl; exact fU; exact fU; exact fU; (first | exact pk0 | exact pk1 | exact pk2 | exact pk3 | exact pk4 | exact pk5)))); (with_reducible apply GO.nil); (with_reducible apply QV.n); exact rfl; exact rfl)) | ((with_reducible apply GB.done); decide +kernel))
        exact QL.n hle2 (j + 1) (by omega) (by omega) ⟨rfl, rfl, rfl, rfl, by rw [hsc]; rfl, rfl, trivial⟩ (List.Sublist.refl _)
    · have hj5' := decide_eq_false hj5
      have hj6 : j = 5 := by have : pairsR.length = 5 := rfl; omega
      subst hj6
      rw [scanC_bt s k (by omega)] at hsz
      rw [scanC_bt s k (by omega)]
      repeat' (first | ((with_reducible apply GC.seq)) | ((with_reducible apply GC.region)) | ((with_reducible apply GO.nil)) | ((with_reducible apply QS.n)) | ((with_reducible apply QB.n)) | ((with_reducible apply GC.exit)) | ((with_reducible apply QS.ex)) | ((with_reducible apply QL.ex)) | ((with_reducible apply QB.ex)) | ((with_reducible apply GC.condF); exact rfl; (first | exact rfl | assumption)) | ((with_reducible apply GO.move); exact rfl; exact rfl) | ((with_reducible apply GO.assign); exact rfl; exact rfl) | ((with_reducible apply GO.lss); exact rfl; exact rfl; exact rfl) | ((with_reducible apply GO.add); exact rfl; exact rfl; exact rfl; (first | exact InR.i64 (by omega) (by omega) | exact InR.u8 (by omega) (by omega) | exact InR.i32 (by omega) (by omega) | exact InR.u32 (by omega) (by omega) | exact InR.u16 (by omega) (by omega) | exact InR.u64 (by omega) (by omega))) | ((with_reducible apply GO.str_add); exact rfl; exact rfl; exact rfl; (first | omega | assumption)) | ((with_reducible apply GO.len_sl); exact rfl; exact rfl; exact fU))
      exact QL.n (Hp.le_trans hle hle2) (k + 1) (by omega) ⟨Hp.le_trans hle hle2, by omega⟩ ⟨rfl, by rw [escL_succ, ← strOfNums_append]; rfl, rfl, rfl, trivial⟩ (List.Sublist.refl _)
  · have hlt' := decide_eq_false hlt
    have hks : k = s.size := by omega
    subst hks
    repeat' (first | ((with_reducible apply GC.seq)) | ((with_reducible apply GC.region)) | ((with_reducible apply GO.nil)) | ((with_reducible apply QS.n)) | ((with_reducible apply GC.ret)) | ((with_reducible apply GC.exit)) | ((with_reducible apply QS.ex)) | ((with_reducible apply QL.ex)) | ((with_reducible apply QB.ex)) | ((with_reducible apply GC.condF); exact rfl; (first | exact rfl | assumption)) | ((with_reducible apply GO.move); exact rfl; exact rfl) | ((with_reducible apply GO.assign); exact rfl; exact rfl) | ((with_reducible apply GO.lss); exact rfl; exact rfl; exact rfl) | ((with_reducible apply GO.len_str); exact rfl; exact rfl; exact fU))
    exact FnQ.retV rfl rfl (Hp.le_trans hle1 hle) rfl
end Go.Proofs.YtajdjclhkoenfaaDoor
