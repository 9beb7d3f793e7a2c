/- Tokens as text, as the reference prints them. -/
import Derived.Test.YtajdjclhkoenfaaDoorWp
set_option linter.unusedSimpArgs false
set_option linter.unusedVariables false
namespace Go.Proofs.YtajdjclhkoenfaaDoor
open Go.RowKit

def prev1 (l : List Tok) : Nat → Bool
  | 0 => false
  | k + 1 => (l[k]?.map fun t => decide (t.kind = 1)).getD false
theorem right_first {l : List Tok} (h : RightA l = true) (t : Tok) (ht : l[0]? = some t) : t.kind = 1 := by
  rw [RightA_fin, Bool.and_eq_true] at h
  have h2 := of_decide_eq_true h.2
  cases l with
  | nil => simp at ht
  | cons a r =>
    simp at ht
    subst ht
    rw [finW] at h2
    cases hs : walkStep [] false a with
    | none => rw [hs] at h2; cases h2
    | some st' =>
      rcases walkStep_kind hs with ⟨h3, _⟩ | ⟨_, h3⟩ | ⟨_, _, h3⟩
      · exact h3
      · simp at h3
      · exact (h3 rfl).elim
theorem ofByts (s : ByteArray) : (⟨(byts s).toArray⟩ : ByteArray) = s := by cases s; simp [byts]

set_option maxRecDepth 100000 in
set_option maxHeartbeats 4000000 in
theorem PrintR_spec (A : Option Addr) (n c : Nat) (h : Hp) (hu : U8 h) (l : List Tok) (sl : SlH kTok h A n c l) (hn : n ≤ big) : CallsV Tryd.prog 15 #[.slice A n c] h (PrintV l) := by
  have hn0 := hn
  unfold big at hn
  have hl := sl.len
  refine callsH_of (args := [_]) Tryd.func15 rfl Tryd.ntmps15 rfl fun w => ?_
  cases hr : RightA l with
  | false =>
    have hr' : (!RightA l) = true := by rw [hr]; rfl
    repeat' (first | ((with_reducible apply GC.seq)) | ((with_reducible apply GC.region)) | ((with_reducible apply GO.nil)) | ((with_reducible apply QS.n)) | ((with_reducible apply GC.ret)) | ((with_reducible apply QS.r)) | ((with_reducible apply GC.condT); exact rfl; (first | exact rfl | assumption)) | ((with_reducible apply GO.callV (f := 18) (vs := [_]) (caps := [])); exact rfl; exact rfl; exact rfl; exact fN; exact RightR_spec _ _ _ _ hu _ sl hn0) | ((with_reducible apply GO.move); exact rfl; exact rfl) | ((with_reducible apply GO.assign); exact rfl; exact rfl) | ((with_reducible apply GO.not_); exact rfl; exact rfl))
    refine FnQ.ret2 rfl rfl rfl (View.first (Hp.le_refl _) ⟨?_, rfl, rfl⟩)
    rw [PrintV, hr]; rfl
  | true =>
  have hr' : (!RightA l) = false := by rw [hr]; rfl
  obtain ⟨hl64, hall, hnext⟩ := right_all hr
  have hfirst := right_first hr
  have hPV : PrintV l = .tuple #[.string ⟨(pr false l).toArray⟩, .int .i64 0] := by rw [PrintV, hr]; rfl
  rw [hPV]
  repeat' (first | ((with_reducible apply GC.seq)) | ((with_reducible apply GC.region)) | ((with_reducible apply GC.block)) | ((with_reducible apply GO.nil)) | ((with_reducible apply QS.n)) | ((with_reducible apply GC.skip)) | ((with_reducible apply GC.condF); exact rfl; (first | exact rfl | assumption)) | ((with_reducible apply GO.callV (f := 18) (vs := [_]) (caps := [])); exact rfl; exact rfl; exact rfl; exact fN; exact RightR_spec _ _ _ _ hu _ sl hn0) | ((with_reducible apply GO.move); exact rfl; exact rfl) | ((with_reducible apply GO.assign); exact rfl; exact rfl) | ((with_reducible apply GO.not_); exact rfl; exact rfl))
  refine GC.loop (α := Nat × ByteArray) (fun x => [(0, .slice A n c), (4, .string x.2), (5, .int .i64 x.1)]) (fun _ => [])
    (fun x h' => x.1 ≤ n ∧ byts x.2 ++ pr (prev1 l x.1) (l.drop x.1) = pr false l ∧ x.2.size ≤ 30000 * x.1) (fun x => n - x.1) (0, emptyS) ⟨by simp, by simp [byts, prev1], by simp [ByteArray.size]⟩ ⟨rfl, rfl, rfl, trivial⟩ (List.Sublist.refl _) ?_
  rintro ⟨k, X⟩ h' hle ⟨hk, hpr, hlen⟩
  simp only at hk hpr hlen ⊢
  by_cases hlt : (k : Int) < n
  · have hlt' := decide_eq_true hlt
    have hkl : k < l.length := by omega
    have sl2 := sl.mono hle
    obtain ⟨cs, ⟨Aa, na, ca, rfl, sa, ht1, ht2, hna, hk0, hk255⟩, hcell⟩ := sl2.elemAt (List.getElem?_eq_getElem hkl)
    have hA := sl2.some_ (by decide) (by omega)
    have hkind := right_kinds (hall _ (List.getElem_mem hkl))
    have hnx := hnext k _ (List.getElem?_eq_getElem hkl)
    have hp1 : prev1 l (k + 1) = decide (l[k].kind = 1) := by simp [prev1, hkl]
    have hk00 : k = 0 → l[k].kind = 1 := fun h0 => hfirst _ (by subst h0; exact List.getElem?_eq_getElem hkl)
    rw [List.drop_eq_getElem_cons hkl, pr] at hpr
    obtain ⟨t, ht⟩ : ∃ t, l[k] = t := ⟨_, rfl⟩
    rw [ht] at sa ht1 ht2 hk0 hk255 hcell hpr hkind hnx hp1 hk00
    have sak := sa.len
    have hu' := (hu.mono hle)
    repeat' (first | ((with_reducible apply GC.seq)) | ((with_reducible apply GC.region' [16]); exact rfl) | ((with_reducible apply GC.block' [2]); exact rfl) | ((with_reducible apply GO.nil)) | ((with_reducible apply QS.n)) | ((with_reducible apply GC.skip)) | ((with_reducible apply GC.condT); exact rfl; (first | exact rfl | assumption)) | ((with_reducible apply GO.move); exact rfl; exact rfl) | ((with_reducible apply GO.lss); exact rfl; exact rfl; exact rfl) | ((with_reducible apply GO.len_sl); exact rfl; exact rfl; exact fU) | ((with_reducible apply GO.load_hA); exact rfl; exact rfl; exact fG; exact fS; assumption; exact rfl) | ((with_reducible apply GO.alloc); exact rfl; exact fZ; exact rfl; intro _) | ((with_reducible apply GO.store_b); exact rfl; exact rfl; exact fS; (first | exact pk0 | exact pk1 | exact pk2 | exact pk3 | exact pk4 | exact pk5); exact rfl; exact rfl; exact rfl; exact rfl; exact rfl) | ((with_reducible apply GO.indexAddr); exact rfl; exact rfl; exact rfl; (first | with_reducible exact rfl | exact (Int.toNat_of_nonneg (by omega)).symm); exact fU; exact fS; (first | exact rfl | assumption); (first | omega | assumption)))
    rename_i vb
    refine GC.freeze 0 rfl fun h3 hle3 hc => ?_
    have hca : ∀ j u, ([.int .u8 t.kind, .string t.name, .slice Aa na ca, .string t.text] : List Value)[j]? = some u → h3.cell ((⟨vb, 0, none⟩ : Addr).add j) = some u := CellsOf.all hc
    obtain ⟨c0, c1, c2, c3'⟩ := hc
    replace c3' : h3.cell ⟨vb, 3, none⟩ = some (.string t.text) := c3'
    have hle23 := Hp.le_trans hle hle3
    rcases hkind with ⟨k1, hs1, hs8, hsa⟩ | ⟨k2, hs1⟩ | ⟨k3, hs1⟩
    · have d3 : decide (t.kind = 3) = false := decide_eq_false (by omega)
      have d2 : decide (t.kind = 2) = false := decide_eq_false (by omega)
      have hk1 := hnx k1
      rw [if_neg (by omega), if_neg (by omega)] at hpr
      have e1 : (⟨#[60]⟩ ++ t.name : ByteArray).size = 1 + t.name.size := by rw [ByteArray.size_append]; rfl
      have e0 : (⟨#[60]⟩ : ByteArray).size = 1 := rfl
      repeat' (first | ((with_reducible apply GC.seq)) | ((with_reducible apply GC.region)) | ((with_reducible apply GC.block)) | ((with_reducible apply GO.nil)) | ((with_reducible apply QS.n)) | ((with_reducible apply GC.condF); exact rfl; (first | exact rfl | assumption)) | ((with_reducible apply GO.pass); exact rfl; exact rfl; exact rfl; exact rfl; (first | exact rfl | assumption)) | ((with_reducible apply GO.move); exact rfl; exact rfl) | ((with_reducible apply GO.assign); exact rfl; exact rfl) | ((with_reducible apply GO.pick_f); exact rfl; exact rfl; (first | exact rfl | assumption); exact rfl) | ((with_reducible apply GO.eql); exact rfl; exact rfl; exact rfl) | ((with_reducible apply GO.str_add); exact rfl; exact rfl; exact rfl; (first | omega | assumption)) | ((with_reducible apply GO.fld); exact rfl; exact rfl; exact fF) | ((with_reducible apply GO.load_h); exact rfl; exact rfl; exact fG; (first | assumption | exact Hp.cell_up (by assumption) (by assumption))))
      obtain ⟨Y, hYb⟩ : ∃ Y : ByteArray, Y = X ++ (⟨#[60]⟩ ++ t.name) := ⟨_, rfl⟩
      have hYl : Y.size = X.size + (1 + t.name.size) := by rw [hYb, ByteArray.size_append, e1]
      have hYp : byts Y ++ (t.attrs.flatMap attrB ++ ((if nextEnd (l.drop (k + 1)) then [47] else []) ++ 62 :: pr true (l.drop (k + 1)))) = pr false l := by
        rw [hYb, ← hpr, byts_append, byts_append]; simp [byts]
      refine GC.loop (α := Nat × ByteArray) (fun x => [(0, .slice A n c), (4, .string x.2), (5, .int .i64 k), (6, .pointer (some ⟨vb, 0, none⟩)), (7, .int .i64 x.1)]) (fun _ => [])
        (fun x h' => h3.le h' ∧ x.1 ≤ na ∧ byts x.2 ++ ((t.attrs.drop x.1).flatMap attrB ++ ((if nextEnd (l.drop (k + 1)) then [47] else []) ++ 62 :: pr true (l.drop (k + 1)))) = pr false l ∧ x.2.size ≤ Y.size + 3200 * x.1) (fun x => na - x.1) (0, Y) ⟨Hp.le_refl _, by simp, by simpa using hYp, by simp⟩ ⟨rfl, by rw [hYb]; rfl, rfl, rfl, rfl, trivial⟩ (List.Sublist.refl _) ?_
      rintro ⟨j, Z⟩ h4 hle4 ⟨_, hj, hZp, hZl⟩
      simp only at hj hZp hZl ⊢
      have b2 := Hp.cell_mono hle4 c2
      by_cases hjn : (j : Int) < na
      · have hjn' := decide_eq_true hjn
        have hjl : j < t.attrs.length := by omega
        have sa4 := (sa.mono hle3).mono hle4
        obtain ⟨cs2, ⟨rfl, hb1, hb2⟩, hcell2⟩ := sa4.elem (List.getElem?_eq_getElem hjl)
        have hA2 := sa4.some_ (by decide) (by omega)
        obtain ⟨hs2, hs3⟩ := hsa _ (List.getElem_mem hjl)
        rw [List.drop_eq_getElem_cons hjl, List.flatMap_cons] at hZp
        generalize t.attrs[j] = at0 at *
        have a0 := hcell2 0 _ rfl
        have a1 := hcell2 1 _ rfl
        have hes := escS_size at0.value
        have e2 : (⟨#[32]⟩ : ByteArray).size = 1 := rfl
        have e3 : (⟨#[61, 39]⟩ : ByteArray).size = 2 := rfl
        have e4 : (⟨#[39]⟩ : ByteArray).size = 1 := rfl
        have e5 : (⟨#[32]⟩ ++ at0.name : ByteArray).size = 1 + at0.name.size := by rw [ByteArray.size_append]; rfl
        have e6 : (⟨#[32]⟩ ++ at0.name ++ ⟨#[61, 39]⟩ : ByteArray).size = 1 + at0.name.size + 2 := by rw [ByteArray.size_append, e5]; rfl
        have e7 : (⟨#[32]⟩ ++ at0.name ++ ⟨#[61, 39]⟩ ++ escS at0.value : ByteArray).size = 1 + at0.name.size + 2 + (escS at0.value).size := by rw [ByteArray.size_append, e6]
        have e8 : (⟨#[32]⟩ ++ at0.name ++ ⟨#[61, 39]⟩ ++ escS at0.value ++ ⟨#[39]⟩ : ByteArray).size = 1 + at0.name.size + 2 + (escS at0.value).size + 1 := by rw [ByteArray.size_append, e7]; rfl
        have f0 : ∀ h5 : Hp, CallsV Tryd.prog 47 #[.string at0.value] h5 (.string (escS at0.value)) := fun h5 => EscapeR_spec _ _ (by omega)
        repeat' (first | ((with_reducible apply GC.seq)) | ((with_reducible apply GC.region)) | ((with_reducible apply GC.block)) | ((with_reducible apply GO.nil)) | ((with_reducible apply QS.n)) | ((with_reducible apply QB.n)) | ((with_reducible apply GC.skip)) | ((with_reducible apply GC.condT); exact rfl; (first | exact rfl | assumption)) | ((with_reducible apply GO.move); exact rfl; exact rfl) | ((with_reducible apply GO.assign); exact rfl; exact rfl) | ((with_reducible apply GO.lss); exact rfl; exact rfl; exact rfl) | ((with_reducible apply GO.add); exact rfl; exact rfl; exact rfl; (first | exact InR.i64 (by omega) (by omega) | exact InR.u8 (by omega) (by omega) | exact InR.i32 (by omega) (by omega) | exact InR.u32 (by omega) (by omega) | exact InR.u16 (by omega) (by omega) | exact InR.u64 (by omega) (by omega))) | ((with_reducible apply GO.len_sl); exact rfl; exact rfl; exact fU) | ((with_reducible apply GO.fld); exact rfl; exact rfl; exact fF) | ((with_reducible apply GO.load_h); exact rfl; exact rfl; exact fG; (first | assumption | exact Hp.cell_up (by assumption) (by assumption))) | ((with_reducible apply GB.region (n := 20) []); exact rfl; exact rfl; exact fM; decide +kernel; decide +kernel) | ((with_reducible apply GB.first); exact rfl; exact rfl; exact rfl; decide +kernel; decide +kernel; ((intro _ _ _); (repeat (first | ((with_reducible apply GO.callV (f := 47) (vs := [_]) (caps := [])); exact rfl; exact rfl; exact rfl; exact fN; exact f0 _) | ((with_reducible apply GO.move); exact rfl; exact rfl) | ((with_reducible apply GO.assign); exact rfl; exact rfl) | ((with_reducible apply GO.pick_t); exact rfl; exact rfl; (first | exact rfl | assumption); exact rfl) | ((with_reducible apply GO.pick_f); exact rfl; exact rfl; (first | exact rfl | assumption); exact rfl) | ((with_reducible apply GO.extract); exact rfl; exact rfl; exact rfl) | ((with_reducible apply GO.eql); exact rfl; exact rfl; exact rfl) | ((with_reducible apply GO.neq); exact rfl; exact rfl; exact rfl) | ((with_reducible apply GO.str_eql); exact rfl; exact rfl; exact rfl) | ((with_reducible apply GO.str_neq); exact rfl; exact rfl; exact rfl) | ((with_reducible apply GO.lss); exact rfl; exact rfl; exact rfl) | ((with_reducible apply GO.leq); exact rfl; exact rfl; exact rfl) | ((with_reducible apply GO.gtr); exact rfl; exact rfl; exact rfl) | ((with_reducible apply GO.geq); exact rfl; exact rfl; exact rfl) | ((with_reducible apply GO.add); exact rfl; exact rfl; exact rfl; (first | exact InR.i64 (by omega) (by omega) | exact InR.u8 (by omega) (by omega) | exact InR.i32 (by omega) (by omega) | exact InR.u32 (by omega) (by omega) | exact InR.u16 (by omega) (by omega) | exact InR.u64 (by omega) (by omega))) | ((with_reducible apply GO.sub); exact rfl; exact rfl; exact rfl; (first | exact InR.i64 (by omega) (by omega) | exact InR.u8 (by omega) (by omega) | exact InR.i32 (by omega) (by omega) | exact InR.u32 (by omega) (by omega) | exact InR.u16 (by omega) (by omega) | exact InR.u64 (by omega) (by omega))) | ((with_reducible apply GO.str_add); exact rfl; exact rfl; exact rfl; (first | omega | assumption)) | ((with_reducible apply GO.not_); exact rfl; exact rfl) | ((with_reducible apply GO.bool_eql); exact rfl; exact rfl; exact rfl; exact fU) | ((with_reducible apply GO.sl_nil); exact rfl; exact rfl; exact rfl; exact fU) | ((with_reducible apply GO.ptr_nil); exact rfl; exact rfl; exact rfl; exact fU) | ((with_reducible apply GO.len_str); exact rfl; exact rfl; exact fU) | ((with_reducible apply GO.len_sl); exact rfl; exact rfl; exact fU) | ((with_reducible apply GO.index_str); exact rfl; exact rfl; exact rfl; exact fU; (first | omega | assumption)) | ((with_reducible apply GO.conv_int); exact rfl; exact rfl; exact fU; exact fU; (first | exact InR.i64 (by omega) (by omega) | exact InR.u8 (by omega) (by omega) | exact InR.i32 (by omega) (by omega) | exact InR.u32 (by omega) (by omega) | exact InR.u16 (by omega) (by omega) | exact InR.u64 (by omega) (by omega))) | ((with_reducible apply GO.nilCheck); exact rfl; exact rfl) | ((with_reducible apply GO.slice_str); exact rfl; exact rfl; exact rfl; exact rfl; exact fU; (exact ⟨by omega, by omega, by omega⟩)) | ((with_reducible apply GO.makeFunc); exact rfl; exact rfl; exact rfl) | ((with_reducible apply GO.makeIface); exact rfl; exact rfl; exact fU; exact rfl) | ((with_reducible apply GO.fld_at); exact rfl; exact rfl; exact fF) | ((with_reducible apply GO.fld); exact rfl; exact rfl; exact fF) | ((with_reducible apply GO.load_h); exact rfl; exact rfl; exact fG; (first | assumption | exact Hp.cell_up (by assumption) (by assumption))) | ((with_reducible apply GO.load_hA); exact rfl; exact rfl; exact fG; exact fS; assumption; exact rfl) | ((with_reducible apply GO.indexAddr); exact rfl; exact rfl; exact rfl; (first | with_reducible exact rfl | exact (Int.toNat_of_nonneg (by omega)).symm); exact fU; exact fS; (first | exact rfl | assumption); (first | omega | assumption)) | ((with_reducible apply GO.indexAddr_at); exact rfl; exact rfl; exact rfl; exact fU; exact fS; decide) | ((with_reducible apply GO.indexAddr_a); exact rfl; exact rfl; exact rfl; exact fU; exact fS; decide))); (with_reducible apply GO.nil); (with_reducible apply QV.n); exact rfl; exact rfl)) | ((with_reducible apply GB.done); decide +kernel))
        refine QL.n hle4 (j + 1, Z ++ (⟨#[32]⟩ ++ at0.name ++ ⟨#[61, 39]⟩ ++ escS at0.value ++ ⟨#[39]⟩)) (by simp only; omega) ⟨hle4, by simp only; omega, ?_, ?_⟩ ⟨rfl, rfl, rfl, rfl, rfl, trivial⟩ (List.Sublist.refl _)
        · simp only; rw [← hZp]; simp [byts_append, attrB, byts]
        · simp only [ByteArray.size_append, e2, e3, e4]; omega
      · have hjn' := decide_eq_false hjn
        have hjj : j = na := by omega
        rw [List.drop_of_length_le (by omega), List.flatMap_nil, List.nil_append] at hZp
        have hkt : ((k : Int) + 1).toNat = k + 1 := by omega
        have hk1' : ((k : Int) + 1).toNat < l.length := by omega
        have sl4 := (sl2.mono hle3).mono hle4
        obtain ⟨cs2, ⟨Ab, nb, cb, rfl, _⟩, hcell2⟩ := sl4.elem (List.getElem?_eq_getElem hk1')
        have g0 := hcell2 0 _ rfl
        have hne : nextEnd (l.drop (k + 1)) = decide (l[((k : Int) + 1).toNat].kind = 2) := by rw [← hkt, List.drop_eq_getElem_cons hk1']; rfl
        have e3 : (⟨#[47]⟩ : ByteArray).size = 1 := rfl
        have e4 : (⟨#[62]⟩ : ByteArray).size = 1 := rfl
        have e5 : (Z ++ ⟨#[47]⟩ : ByteArray).size = Z.size + 1 := by rw [ByteArray.size_append]; rfl
        have hp1t : prev1 l (k + 1) = true := by rw [hp1, decide_eq_true k1]
        rw [show pr true (l.drop (k + 1)) = pr (prev1 l (k + 1)) (l.drop (k + 1)) by rw [hp1t]] at hZp
        by_cases hend : l[((k : Int) + 1).toNat].kind = 2
        · have d4 := decide_eq_true hend
          rw [hne, d4, if_pos rfl] at hZp
          repeat' (first | ((with_reducible apply GC.seq)) | ((with_reducible apply GC.region)) | ((with_reducible apply GO.nil)) | ((with_reducible apply QS.n)) | ((with_reducible apply QB.n)) | ((with_reducible apply GC.exit)) | ((with_reducible apply QS.ex)) | ((with_reducible apply QL.ex)) | ((with_reducible apply QB.ex)) | ((with_reducible apply GC.condT); exact rfl; (first | exact rfl | assumption)) | ((with_reducible apply GC.condF); exact rfl; (first | exact rfl | assumption)) | ((with_reducible apply GO.move); exact rfl; exact rfl) | ((with_reducible apply GO.assign); exact rfl; exact rfl) | ((with_reducible apply GO.eql); exact rfl; exact rfl; exact rfl) | ((with_reducible apply GO.lss); exact rfl; exact rfl; exact rfl) | ((with_reducible apply GO.add); exact rfl; exact rfl; exact rfl; (first | exact InR.i64 (by omega) (by omega) | exact InR.u8 (by omega) (by omega) | exact InR.i32 (by omega) (by omega) | exact InR.u32 (by omega) (by omega) | exact InR.u16 (by omega) (by omega) | exact InR.u64 (by omega) (by omega))) | ((with_reducible apply GO.str_add); exact rfl; exact rfl; exact rfl; (first | omega | assumption)) | ((with_reducible apply GO.len_sl); exact rfl; exact rfl; exact fU) | ((with_reducible apply GO.fld_at); exact rfl; exact rfl; exact fF) | ((with_reducible apply GO.fld); exact rfl; exact rfl; exact fF) | ((with_reducible apply GO.load_h); exact rfl; exact rfl; exact fG; (first | assumption | exact Hp.cell_up (by assumption) (by assumption))) | ((with_reducible apply GO.indexAddr); exact rfl; exact rfl; exact rfl; (first | with_reducible exact rfl | exact (Int.toNat_of_nonneg (by omega)).symm); exact fU; exact fS; (first | exact rfl | assumption); (first | omega | assumption)))
          refine QL.n (Hp.le_trans hle23 hle4) (k + 1, Z ++ ⟨#[47]⟩ ++ ⟨#[62]⟩) (by simp only; omega) ⟨by simp only; omega, ?_, ?_⟩ ⟨rfl, rfl, rfl, trivial⟩ (List.Sublist.refl _)
          · simp only; rw [← hZp]; simp [byts]
          · simp only [ByteArray.size_append, e3, e4]; omega
        · have d4 := decide_eq_false hend
          rw [hne, d4, if_neg (by simp), List.nil_append] at hZp
          repeat' (first | ((with_reducible apply GC.seq)) | ((with_reducible apply GC.region)) | ((with_reducible apply GO.nil)) | ((with_reducible apply QS.n)) | ((with_reducible apply QB.n)) | ((with_reducible apply GC.skip)) | ((with_reducible apply GC.exit)) | ((with_reducible apply QS.ex)) | ((with_reducible apply QL.ex)) | ((with_reducible apply QB.ex)) | ((with_reducible apply GC.condF); exact rfl; (first | exact rfl | assumption)) | ((with_reducible apply GO.move); exact rfl; exact rfl) | ((with_reducible apply GO.assign); exact rfl; exact rfl) | ((with_reducible apply GO.eql); exact rfl; exact rfl; exact rfl) | ((with_reducible apply GO.lss); exact rfl; exact rfl; exact rfl) | ((with_reducible apply GO.add); exact rfl; exact rfl; exact rfl; (first | exact InR.i64 (by omega) (by omega) | exact InR.u8 (by omega) (by omega) | exact InR.i32 (by omega) (by omega) | exact InR.u32 (by omega) (by omega) | exact InR.u16 (by omega) (by omega) | exact InR.u64 (by omega) (by omega))) | ((with_reducible apply GO.str_add); exact rfl; exact rfl; exact rfl; (first | omega | assumption)) | ((with_reducible apply GO.len_sl); exact rfl; exact rfl; exact fU) | ((with_reducible apply GO.fld_at); exact rfl; exact rfl; exact fF) | ((with_reducible apply GO.fld); exact rfl; exact rfl; exact fF) | ((with_reducible apply GO.load_h); exact rfl; exact rfl; exact fG; (first | assumption | exact Hp.cell_up (by assumption) (by assumption))) | ((with_reducible apply GO.indexAddr); exact rfl; exact rfl; exact rfl; (first | with_reducible exact rfl | exact (Int.toNat_of_nonneg (by omega)).symm); exact fU; exact fS; (first | exact rfl | assumption); (first | omega | assumption)))
          refine QL.n (Hp.le_trans hle23 hle4) (k + 1, Z ++ ⟨#[62]⟩) (by simp only; omega) ⟨by simp only; omega, ?_, ?_⟩ ⟨rfl, rfl, rfl, trivial⟩ (List.Sublist.refl _)
          · simp only; rw [← hZp]; simp [byts]
          · simp only [ByteArray.size_append, e3, e4]; omega
    · have d3 : decide (t.kind = 3) = false := decide_eq_false (by omega)
      have d2 := decide_eq_true k2
      have hp1' : prev1 l (k + 1) = false := by rw [hp1, decide_eq_false (by omega)]
      have hkpos : k ≠ 0 := fun h0 => by have := hk00 h0; omega
      have hk1 : ((k : Int) - 1).toNat < l.length := by omega
      have sl3 := sl2.mono hle3
      obtain ⟨cs2, ⟨Ab, nb, cb, rfl, _⟩, hcell2⟩ := sl3.elem (List.getElem?_eq_getElem hk1)
      have g0 := hcell2 0 _ rfl
      have hpk : prev1 l k = decide (l[((k : Int) - 1).toNat].kind = 1) := by
        obtain ⟨k', rfl⟩ : ∃ k', k = k' + 1 := ⟨k - 1, by omega⟩
        have hkk : (((k' + 1 : Nat) : Int) - 1).toNat = k' := by omega
        simp only [prev1]
        rw [List.getElem?_eq_getElem (by omega)]
        simp only [hkk, Option.map_some, Option.getD_some]
      rw [if_neg (by omega), if_pos k2, show pr false (l.drop (k + 1)) = pr (prev1 l (k + 1)) (l.drop (k + 1)) by rw [hp1'], hpk] at hpr
      have e1 : (⟨#[60, 47]⟩ ++ t.name ++ ⟨#[62]⟩ : ByteArray).size = 2 + t.name.size + 1 := by rw [ByteArray.size_append, ByteArray.size_append]; rfl
      have e2 : (⟨#[60, 47]⟩ ++ t.name : ByteArray).size = 2 + t.name.size := by rw [ByteArray.size_append]; rfl
      have e3 : (⟨#[60, 47]⟩ : ByteArray).size = 2 := rfl
      have e4 : (⟨#[62]⟩ : ByteArray).size = 1 := rfl
      by_cases hpb : l[((k : Int) - 1).toNat].kind = 1
      · have d4 := decide_eq_true hpb
        rw [d4, if_pos rfl] at hpr
        repeat' (first | ((with_reducible apply GC.seq)) | ((with_reducible apply GC.region)) | ((with_reducible apply GC.block)) | ((with_reducible apply GO.nil)) | ((with_reducible apply QS.n)) | ((with_reducible apply QB.n)) | ((with_reducible apply GC.skip)) | ((with_reducible apply GC.condT); exact rfl; (first | exact rfl | assumption)) | ((with_reducible apply GC.condF); exact rfl; (first | exact rfl | assumption)) | ((with_reducible apply GO.want); exact rfl; exact rfl; (first | exact rfl | assumption)) | ((with_reducible apply GO.move); exact rfl; exact rfl) | ((with_reducible apply GO.assign); exact rfl; exact rfl) | ((with_reducible apply GO.pick_t); exact rfl; exact rfl; (first | exact rfl | assumption); exact rfl) | ((with_reducible apply GO.eql); exact rfl; exact rfl; exact rfl) | ((with_reducible apply GO.add); exact rfl; exact rfl; exact rfl; (first | exact InR.i64 (by omega) (by omega) | exact InR.u8 (by omega) (by omega) | exact InR.i32 (by omega) (by omega) | exact InR.u32 (by omega) (by omega) | exact InR.u16 (by omega) (by omega) | exact InR.u64 (by omega) (by omega))) | ((with_reducible apply GO.sub); exact rfl; exact rfl; exact rfl; (first | exact InR.i64 (by omega) (by omega) | exact InR.u8 (by omega) (by omega) | exact InR.i32 (by omega) (by omega) | exact InR.u32 (by omega) (by omega) | exact InR.u16 (by omega) (by omega) | exact InR.u64 (by omega) (by omega))) | ((with_reducible apply GO.fld_at); exact rfl; exact rfl; exact fF) | ((with_reducible apply GO.fld); exact rfl; exact rfl; exact fF) | ((with_reducible apply GO.load_h); exact rfl; exact rfl; exact fG; (first | assumption | exact Hp.cell_up (by assumption) (by assumption))) | ((with_reducible apply GO.indexAddr); exact rfl; exact rfl; exact rfl; (first | with_reducible exact rfl | exact (Int.toNat_of_nonneg (by omega)).symm); exact fU; exact fS; (first | exact rfl | assumption); (first | omega | assumption)))
        exact QL.n hle23 (k + 1, X) (by simp only; omega) ⟨by simp only; omega, hpr, by simp only; omega⟩ ⟨rfl, rfl, rfl, trivial⟩ (List.Sublist.refl _)
      · have d4 := decide_eq_false hpb
        rw [d4, if_neg (by simp)] at hpr
        repeat' (first | ((with_reducible apply GC.seq)) | ((with_reducible apply GC.region)) | ((with_reducible apply GC.block)) | ((with_reducible apply GO.nil)) | ((with_reducible apply QS.n)) | ((with_reducible apply QB.n)) | ((with_reducible apply GC.condT); exact rfl; (first | exact rfl | assumption)) | ((with_reducible apply GC.condF); exact rfl; (first | exact rfl | assumption)) | ((with_reducible apply GO.want); exact rfl; exact rfl; (first | exact rfl | assumption)) | ((with_reducible apply GO.move); exact rfl; exact rfl) | ((with_reducible apply GO.assign); exact rfl; exact rfl) | ((with_reducible apply GO.pick_t); exact rfl; exact rfl; (first | exact rfl | assumption); exact rfl) | ((with_reducible apply GO.eql); exact rfl; exact rfl; exact rfl) | ((with_reducible apply GO.add); exact rfl; exact rfl; exact rfl; (first | exact InR.i64 (by omega) (by omega) | exact InR.u8 (by omega) (by omega) | exact InR.i32 (by omega) (by omega) | exact InR.u32 (by omega) (by omega) | exact InR.u16 (by omega) (by omega) | exact InR.u64 (by omega) (by omega))) | ((with_reducible apply GO.sub); exact rfl; exact rfl; exact rfl; (first | exact InR.i64 (by omega) (by omega) | exact InR.u8 (by omega) (by omega) | exact InR.i32 (by omega) (by omega) | exact InR.u32 (by omega) (by omega) | exact InR.u16 (by omega) (by omega) | exact InR.u64 (by omega) (by omega))) | ((with_reducible apply GO.str_add); exact rfl; exact rfl; exact rfl; (first | omega | assumption)) | ((with_reducible apply GO.fld_at); exact rfl; exact rfl; exact fF) | ((with_reducible apply GO.fld); exact rfl; exact rfl; exact fF) | ((with_reducible apply GO.load_h); exact rfl; exact rfl; exact fG; (first | assumption | exact Hp.cell_up (by assumption) (by assumption))) | ((with_reducible apply GO.indexAddr); exact rfl; exact rfl; exact rfl; (first | with_reducible exact rfl | exact (Int.toNat_of_nonneg (by omega)).symm); exact fU; exact fS; (first | exact rfl | assumption); (first | omega | assumption)))
        refine QL.n hle23 (k + 1, X ++ (⟨#[60, 47]⟩ ++ t.name ++ ⟨#[62]⟩)) (by simp only; omega) ⟨by simp only; omega, ?_, ?_⟩ ⟨rfl, rfl, rfl, trivial⟩ (List.Sublist.refl _)
        · simp only; rw [← hpr, byts_append, byts_append, byts_append]; simp [byts]
        · simp only [ByteArray.size_append, e3, e4]; omega
    · have d3 := decide_eq_true k3
      have hp1' : prev1 l (k + 1) = false := by rw [hp1, decide_eq_false (by omega)]
      rw [if_pos k3, show pr false (l.drop (k + 1)) = pr (prev1 l (k + 1)) (l.drop (k + 1)) by rw [hp1']] at hpr
      have hes := escS_size t.text
      repeat' (first | ((with_reducible apply GC.seq)) | ((with_reducible apply GC.region)) | ((with_reducible apply GC.block)) | ((with_reducible apply GO.nil)) | ((with_reducible apply QS.n)) | ((with_reducible apply QB.n)) | ((with_reducible apply GC.condT); exact rfl; (first | exact rfl | assumption)) | ((with_reducible apply GO.callV (f := 47) (vs := [_]) (caps := [])); exact rfl; exact rfl; exact rfl; exact fN; exact EscapeR_spec _ _ (by omega)) | ((with_reducible apply GO.move); exact rfl; exact rfl) | ((with_reducible apply GO.assign); exact rfl; exact rfl) | ((with_reducible apply GO.eql); exact rfl; exact rfl; exact rfl) | ((with_reducible apply GO.add); exact rfl; exact rfl; exact rfl; (first | exact InR.i64 (by omega) (by omega) | exact InR.u8 (by omega) (by omega) | exact InR.i32 (by omega) (by omega) | exact InR.u32 (by omega) (by omega) | exact InR.u16 (by omega) (by omega) | exact InR.u64 (by omega) (by omega))) | ((with_reducible apply GO.str_add); exact rfl; exact rfl; exact rfl; (first | omega | assumption)) | ((with_reducible apply GO.fld); exact rfl; exact rfl; exact fF) | ((with_reducible apply GO.load_h); exact rfl; exact rfl; exact fG; (first | assumption | exact Hp.cell_up (by assumption) (by assumption))))
      refine QL.n hle23 (k + 1, X ++ escS t.text) (by simp only; omega) ⟨by simp only; omega, ?_, ?_⟩ ⟨rfl, rfl, rfl, trivial⟩ (List.Sublist.refl _)
      · simp only; rw [← hpr, byts_append, List.append_assoc]
      · simp only [ByteArray.size_append]; omega
  · have hlt' := decide_eq_false hlt
    rw [List.drop_of_length_le (by omega), pr, List.append_nil] at hpr
    repeat' (first | ((with_reducible apply GC.seq)) | ((with_reducible apply GC.region)) | ((with_reducible apply GO.nil)) | ((with_reducible apply QS.n)) | ((with_reducible apply GC.ret)) | ((with_reducible apply GC.exit)) | ((with_reducible apply QS.ex)) | ((with_reducible apply QL.ex)) | ((with_reducible apply QB.ex)) | ((with_reducible apply GC.condF); exact rfl; (first | exact rfl | assumption)) | ((with_reducible apply GO.move); exact rfl; exact rfl) | ((with_reducible apply GO.assign); exact rfl; exact rfl) | ((with_reducible apply GO.lss); exact rfl; exact rfl; exact rfl) | ((with_reducible apply GO.len_sl); exact rfl; exact rfl; exact fU))
    exact FnQ.ret2 rfl rfl rfl (View.first hle ⟨by rw [← hpr, ofByts], rfl, rfl⟩)
end Go.Proofs.YtajdjclhkoenfaaDoor
