/- The reference's own look at a token. -/
import Derived.Test.YtajdjclhkoenfaaDoorWe
set_option linter.unusedSimpArgs false
set_option linter.unusedVariables false
namespace Go.Proofs.YtajdjclhkoenfaaDoor
open Go.RowKit

def smallR (s : ByteArray) : Bool := decide ((s.size : Int) ≤ 512) && charsR s
set_option maxRecDepth 100000 in
set_option maxHeartbeats 1000000 in
theorem small_spec (s : ByteArray) (h : Hp) (hu : U8 h) (hs : s.size ≤ big) : CallsV Tryd.prog 86 #[.string s] h (.bool (smallR s)) := by
  have hs' := hs
  unfold big at hs'
  refine callsH_of (args := [_]) Tryd.func86 rfl Tryd.ntmps86 rfl fun w => ?_
  repeat' (first | ((with_reducible apply GC.seq)) | ((with_reducible apply GC.region)) | ((with_reducible apply GO.nil)) | ((with_reducible apply QS.n)) | ((with_reducible apply GC.ret)) | ((with_reducible apply GO.want); exact rfl; exact rfl; (first | exact rfl | assumption)) | ((with_reducible apply GO.pass); exact rfl; exact rfl; exact rfl; exact rfl; (first | exact rfl | assumption)) | ((with_reducible apply GO.callV (f := 96) (vs := [_]) (caps := [])); exact rfl; exact rfl; exact rfl; exact fN; exact CharsR_spec _ _ hu hs) | ((with_reducible apply GO.move); exact rfl; exact rfl) | ((with_reducible apply GO.assign); exact rfl; exact rfl) | ((with_reducible apply GO.pick_t); exact rfl; exact rfl; (first | exact rfl | assumption); exact rfl) | ((with_reducible apply GO.pick_f); exact rfl; exact rfl; (first | exact rfl | assumption); exact rfl) | ((with_reducible apply GO.leq); exact rfl; exact rfl; exact rfl) | ((with_reducible apply GO.len_str); exact rfl; exact rfl; exact fU) | ((with_reducible apply GO.guard); exact rfl; exact rfl; exact rfl; exact rfl; all_goals intro _))
  all_goals (refine FnQ.retV rfl rfl (Hp.le_refl _) ?_; refine congrArg Value.bool ?_; (try (simp only [Bool.not_true, Bool.not_false, Bool.not_eq_true', Bool.not_eq_false', Int.toNat_natCast, Int.reduceAdd] at *)); (try (simp only [smallR, *, Bool.and_true, Bool.true_and, Bool.or_true, Bool.true_or, Bool.or_false, Bool.false_or, Bool.and_false, Bool.false_and, Bool.not_true, Bool.not_false, Bool.not_not])); (try rfl))

def attrsR : List ByteArray → List Attr → Bool
  | _, [] => true
  | seen, a :: r => (nameB a.name && smallR a.value) && (!(seen.any fun k => decide (k = a.name)) && attrsR (seen ++ [a.name]) r)
def oneR (t : Tok) : Bool :=
  if t.kind = 1 then ((nameB t.name && decide (t.text = emptyS)) && !decide (8 < (t.attrs.length : Int))) && attrsR [] t.attrs
  else if t.kind = 2 then (nameB t.name && decide (t.text = emptyS)) && decide ((t.attrs.length : Int) = 0)
  else if t.kind = 3 then ((decide (t.name = emptyS) && decide ((t.attrs.length : Int) = 0)) && !decide (t.text = emptyS)) && smallR t.text
  else false
theorem seen_snoc {l : List Attr} {k : Nat} (hk : k < l.length) : (l.take (k + 1)).map (·.name) = (l.take k).map (·.name) ++ [l[k].name] := by
  simp only [List.map_take]
  rw [List.take_add_one]
  simp [hk]
set_option maxRecDepth 100000 in
set_option maxHeartbeats 4000000 in
theorem one_spec (t : Tok) (A : Option Addr) (n c : Nat) (h : Hp) (hu : U8 h) (sa : SlH kAttr h A n c t.attrs) (hn : n ≤ big) (h1 : t.name.size ≤ big) (h2 : t.text.size ≤ big) :
    CallsV Tryd.prog 49 #[.agg #[.int .u8 t.kind, .string t.name, .slice A n c, .string t.text]] h (.bool (oneR t)) := by
  unfold big at hn
  refine callsH_of (args := [_]) Tryd.func49 rfl Tryd.ntmps49 rfl fun w => ?_
  refine GC.seq ?_
  repeat' (first | ((with_reducible apply GC.seq)) | ((with_reducible apply GC.region' [1]); exact rfl) | ((with_reducible apply GO.nil)) | ((with_reducible apply QS.n)) | ((with_reducible apply GO.assign); exact rfl; exact rfl) | ((with_reducible apply GO.box); exact rfl; exact rfl; exact rfl; intro _))
  rename_i tb
  refine GC.freeze 0 rfl fun hh hle hc => ?_
  obtain ⟨c0, c1, c2, c3⟩ := hc
  replace sa := sa.mono hle
  replace hu := hu.mono hle
  have c3' : hh.cell ⟨tb, 3, none⟩ = some (.string t.text) := c3
  have hl := sa.len
  repeat' (first | ((with_reducible apply GC.seq)) | ((with_reducible apply GC.region)) | ((with_reducible apply GC.block)) | ((with_reducible apply GO.nil)) | ((with_reducible apply QS.n)) | ((with_reducible apply GO.assign); exact rfl; exact rfl) | ((with_reducible apply GO.eql); exact rfl; exact rfl; exact rfl) | ((with_reducible apply GO.fld); exact rfl; exact rfl; exact fF) | ((with_reducible apply GO.load_h); exact rfl; exact rfl; exact fG; (first | assumption | exact Hp.cell_up (by assumption) (by assumption))))
  by_cases k1 : t.kind = 1
  · have d1 := decide_eq_true k1
    repeat' (first | ((with_reducible apply GC.seq)) | ((with_reducible apply GC.condT); exact rfl; (first | exact rfl | assumption)))
    refine GC.join 23 (!((nameB t.name && decide (t.text = emptyS)) && !decide (8 < (n : Int)))) [(1, .pointer (some ⟨tb, 0, none⟩))] ?_ ?_
    · repeat' (first | ((with_reducible apply GC.region)) | ((with_reducible apply GO.nil)) | ((with_reducible apply GO.want); exact rfl; exact rfl; (first | exact rfl | assumption)) | ((with_reducible apply GO.pass); exact rfl; exact rfl; exact rfl; exact rfl; (first | exact rfl | assumption)) | ((with_reducible apply GO.callV (f := 85) (vs := [_]) (caps := [])); exact rfl; exact rfl; exact rfl; exact fN; exact NameR_spec _ _ h1) | ((with_reducible apply GO.move); exact rfl; exact rfl) | ((with_reducible apply GO.pick_t); exact rfl; exact rfl; (first | exact rfl | assumption); exact rfl) | ((with_reducible apply GO.pick_f); exact rfl; exact rfl; (first | exact rfl | assumption); exact rfl) | ((with_reducible apply GO.str_neq); exact rfl; exact rfl; exact rfl) | ((with_reducible apply GO.gtr); exact rfl; exact rfl; exact rfl) | ((with_reducible apply GO.not_); exact rfl; exact rfl) | ((with_reducible apply GO.len_sl); exact rfl; exact rfl; exact fU) | ((with_reducible apply GO.fld); exact rfl; exact rfl; exact fF) | ((with_reducible apply GO.load_h); exact rfl; exact rfl; exact fG; (first | assumption | exact Hp.cell_up (by assumption) (by assumption))) | ((with_reducible apply GO.guard); exact rfl; exact rfl; exact rfl; exact rfl; all_goals intro _))
      all_goals (refine QJ.n rfl ⟨rfl, trivial⟩ ?_; (try (simp only [Bool.not_true, Bool.not_false, Bool.not_eq_true', Bool.not_eq_false', Int.toNat_natCast, Int.reduceAdd] at *)); (try (simp only [emptyS, *, Bool.and_true, Bool.true_and, Bool.or_true, Bool.true_or, Bool.or_false, Bool.false_or, Bool.and_false, Bool.false_and, Bool.not_true, Bool.not_false, Bool.not_not])); (try rfl))
    repeat' (first | ((with_reducible apply QS.n)))
    refine GC.cond rfl (fun hf => ?_) (fun hf => ?_)
    · repeat' (first | ((with_reducible apply GC.seq)) | ((with_reducible apply GC.region)) | ((with_reducible apply GO.nil)) | ((with_reducible apply QS.n)) | ((with_reducible apply GC.ret)) | ((with_reducible apply QS.r)) | ((with_reducible apply QB.r)) | ((with_reducible apply GO.assign); exact rfl; exact rfl))
      refine FnQ.retV rfl rfl hle ?_
      rw [oneR, if_pos k1, hl, (Bool.not_eq_true' _).mp hf]; rfl
    have hf' := (Bool.not_eq_false' _).mp hf
    repeat' (first | ((with_reducible apply GC.seq)) | ((with_reducible apply GC.region)) | ((with_reducible apply GC.block)) | ((with_reducible apply GO.nil)) | ((with_reducible apply QS.n)) | ((with_reducible apply GC.skip)) | ((with_reducible apply GO.assign); exact rfl; exact rfl))
    refine GC.loop (α := Nat) (fun k => [(1, .pointer (some ⟨tb, 0, none⟩)), (3, .int .i64 k)]) (fun _ => []) (fun k h' => k ≤ n ∧ attrsR ((t.attrs.take k).map (·.name)) (t.attrs.drop k) = attrsR [] t.attrs) (fun k => n - k) 0 ⟨by omega, by simp⟩ ⟨rfl, rfl, trivial⟩ (List.nil_sublist _) ?_
    rintro k h' hle2 ⟨hk, hall⟩
    have sa' := sa.mono hle2
    have hu' := hu.mono hle2
    have e0 := Hp.cell_mono hle2 c0
    have e1 := Hp.cell_mono hle2 c1
    have e2 := Hp.cell_mono hle2 c2
    have e3 := Hp.cell_mono hle2 c3'
    by_cases hlt : (k : Int) < n
    · have hlt' := decide_eq_true hlt
      have hkl : k < t.attrs.length := by omega
      obtain ⟨cs, ⟨rfl, hb1, hb2⟩, hcell⟩ := sa'.elem (List.getElem?_eq_getElem hkl)
      have hA := sa'.some_ (by decide) (by omega)
      have g0 := hcell 0 _ rfl
      have g1 := hcell 1 _ rfl
      rw [List.drop_eq_getElem_cons hkl, attrsR] at hall
      repeat' (first | ((with_reducible apply GC.seq)) | ((with_reducible apply GC.region' [8]); exact rfl) | ((with_reducible apply GC.block)) | ((with_reducible apply GO.nil)) | ((with_reducible apply QS.n)) | ((with_reducible apply GC.skip)) | ((with_reducible apply GC.condT); exact rfl; (first | exact rfl | assumption)) | ((with_reducible apply GO.move); exact rfl; exact rfl) | ((with_reducible apply GO.lss); exact rfl; exact rfl; exact rfl) | ((with_reducible apply GO.len_sl); exact rfl; exact rfl; exact fU) | ((with_reducible apply GO.fld); exact rfl; exact rfl; exact fF) | ((with_reducible apply GO.load_h); exact rfl; exact rfl; exact fG; (first | assumption | exact Hp.cell_up (by assumption) (by assumption))))
      refine GC.join 48 (!(nameB t.attrs[k].name && smallR t.attrs[k].value)) [(1, .pointer (some ⟨tb, 0, none⟩)), (3, .int .i64 k)] ?_ ?_
      · repeat' (first | ((with_reducible apply GC.region)) | ((with_reducible apply GO.nil)) | ((with_reducible apply GO.want); exact rfl; exact rfl; (first | exact rfl | assumption)) | ((with_reducible apply GO.pass); exact rfl; exact rfl; exact rfl; exact rfl; (first | exact rfl | assumption)) | ((with_reducible apply GO.callV (f := 85) (vs := [_]) (caps := [])); exact rfl; exact rfl; exact rfl; exact fN; exact NameR_spec _ _ hb1) | ((with_reducible apply GO.callV (f := 86) (vs := [_]) (caps := [])); exact rfl; exact rfl; exact rfl; exact fN; exact small_spec _ _ hu' hb2) | ((with_reducible apply GO.move); exact rfl; exact rfl) | ((with_reducible apply GO.pick_t); exact rfl; exact rfl; (first | exact rfl | assumption); exact rfl) | ((with_reducible apply GO.pick_f); exact rfl; exact rfl; (first | exact rfl | assumption); exact rfl) | ((with_reducible apply GO.not_); exact rfl; exact rfl) | ((with_reducible apply GO.fld_at); exact rfl; exact rfl; exact fF) | ((with_reducible apply GO.fld); exact rfl; exact rfl; exact fF) | ((with_reducible apply GO.load_h); exact rfl; exact rfl; exact fG; (first | assumption | exact Hp.cell_up (by assumption) (by assumption))) | ((with_reducible apply GO.indexAddr); exact rfl; exact rfl; exact rfl; (first | with_reducible exact rfl | exact (Int.toNat_of_nonneg (by omega)).symm); exact fU; exact fS; (first | exact rfl | assumption); (first | omega | assumption)) | ((with_reducible apply GO.guard); exact rfl; exact rfl; exact rfl; exact rfl; all_goals intro _))
        all_goals (refine QJ.n rfl ⟨rfl, rfl, trivial⟩ ?_; (try (simp only [Bool.not_true, Bool.not_false, Bool.not_eq_true', Bool.not_eq_false', Int.toNat_natCast, Int.reduceAdd] at *)); (try (simp only [*, Bool.and_true, Bool.true_and, Bool.or_true, Bool.true_or, Bool.or_false, Bool.false_or, Bool.and_false, Bool.false_and, Bool.not_true, Bool.not_false, Bool.not_not])); (try rfl))
      repeat' (first | ((with_reducible apply QS.n)))
      refine GC.cond rfl (fun hg => ?_) (fun hg => ?_)
      · repeat' (first | ((with_reducible apply GC.seq)) | ((with_reducible apply GC.region)) | ((with_reducible apply GO.nil)) | ((with_reducible apply QS.n)) | ((with_reducible apply GC.ret)) | ((with_reducible apply QS.r)) | ((with_reducible apply QB.r)) | ((with_reducible apply QL.r)) | ((with_reducible apply GO.assign); exact rfl; exact rfl))
        refine FnQ.retV rfl rfl (Hp.le_trans hle hle2) ?_
        rw [oneR, if_pos k1, ← hall, (Bool.not_eq_true' _).mp hg]; simp
      have hg' := (Bool.not_eq_false' _).mp hg
      rw [hg', Bool.true_and] at hall
      repeat' (first | ((with_reducible apply GC.seq)) | ((with_reducible apply GC.region)) | ((with_reducible apply GC.block)) | ((with_reducible apply GO.nil)) | ((with_reducible apply QS.n)) | ((with_reducible apply GC.skip)) | ((with_reducible apply GO.assign); exact rfl; exact rfl))
      refine GC.loop (α := Nat) (fun j => [(1, .pointer (some ⟨tb, 0, none⟩)), (3, .int .i64 k), (4, .int .i64 j)]) (fun _ => []) (fun j h2 => j ≤ k ∧ ((t.attrs.take j).map (·.name)).any (fun x => decide (x = t.attrs[k].name)) = false) (fun j => k - j) 0 ⟨by omega, by simp⟩ ⟨rfl, rfl, rfl, trivial⟩ (List.nil_sublist _) ?_
      rintro j h3 hle3 ⟨hj, hany⟩
      have sa2 := sa'.mono hle3
      have f2 := Hp.cell_mono hle3 e2
      have i0 := Hp.cell_mono hle3 g0
      by_cases hjk : (j : Int) < k
      · have hjk' := decide_eq_true hjk
        have hjl : j < t.attrs.length := by omega
        obtain ⟨cs2, ⟨rfl, hb3, hb4⟩, hcell2⟩ := sa2.elem (List.getElem?_eq_getElem hjl)
        have j0 := hcell2 0 _ rfl
        repeat' (first | ((with_reducible apply GC.seq)) | ((with_reducible apply GC.region)) | ((with_reducible apply GC.block)) | ((with_reducible apply GO.nil)) | ((with_reducible apply QS.n)) | ((with_reducible apply GC.skip)) | ((with_reducible apply GC.condT); exact rfl; (first | exact rfl | assumption)) | ((with_reducible apply GO.move); exact rfl; exact rfl) | ((with_reducible apply GO.lss); exact rfl; exact rfl; exact rfl) | ((with_reducible apply GB.region (n := 13) []); exact rfl; exact rfl; exact fM; decide +kernel; decide +kernel) | ((with_reducible apply GB.first); exact rfl; exact rfl; exact rfl; decide +kernel; decide +kernel; ((intro _ _ _); (repeat (first | ((with_reducible apply GO.move); exact rfl; exact rfl) | ((with_reducible apply GO.assign); exact rfl; exact rfl) | ((with_reducible apply GO.pick_t); exact rfl; exact rfl; (first | exact rfl | assumption); exact rfl) | ((with_reducible apply GO.pick_f); exact rfl; exact rfl; (first | exact rfl | assumption); exact rfl) | ((with_reducible apply GO.extract); exact rfl; exact rfl; exact rfl) | ((with_reducible apply GO.eql); exact rfl; exact rfl; exact rfl) | ((with_reducible apply GO.neq); exact rfl; exact rfl; exact rfl) | ((with_reducible apply GO.str_eql); exact rfl; exact rfl; exact rfl) | ((with_reducible apply GO.str_neq); exact rfl; exact rfl; exact rfl) | ((with_reducible apply GO.lss); exact rfl; exact rfl; exact rfl) | ((with_reducible apply GO.leq); exact rfl; exact rfl; exact rfl) | ((with_reducible apply GO.gtr); exact rfl; exact rfl; exact rfl) | ((with_reducible apply GO.geq); exact rfl; exact rfl; exact rfl) | ((with_reducible apply GO.add); exact rfl; exact rfl; exact rfl; (first | exact InR.i64 (by omega) (by omega) | exact InR.u8 (by omega) (by omega) | exact InR.i32 (by omega) (by omega) | exact InR.u32 (by omega) (by omega) | exact InR.u16 (by omega) (by omega) | exact InR.u64 (by omega) (by omega))) | ((with_reducible apply GO.sub); exact rfl; exact rfl; exact rfl; (first | exact InR.i64 (by omega) (by omega) | exact InR.u8 (by omega) (by omega) | exact InR.i32 (by omega) (by omega) | exact InR.u32 (by omega) (by omega) | exact InR.u16 (by omega) (by omega) | exact InR.u64 (by omega) (by omega))) | ((with_reducible apply GO.str_add); exact rfl; exact rfl; exact rfl; (first | omega | assumption)) | ((with_reducible apply GO.not_); exact rfl; exact rfl) | ((with_reducible apply GO.bool_eql); exact rfl; exact rfl; exact rfl; exact fU) | ((with_reducible apply GO.sl_nil); exact rfl; exact rfl; exact rfl; exact fU) | ((with_reducible apply GO.ptr_nil); exact rfl; exact rfl; exact rfl; exact fU) | ((with_reducible apply GO.len_str); exact rfl; exact rfl; exact fU) | ((with_reducible apply GO.len_sl); exact rfl; exact rfl; exact fU) | ((with_reducible apply GO.index_str); exact rfl; exact rfl; exact rfl; exact fU; (first | omega | assumption)) | ((with_reducible apply GO.conv_int); exact rfl; exact rfl; exact fU; exact fU; (first | exact InR.i64 (by omega) (by omega) | exact InR.u8 (by omega) (by omega) | exact InR.i32 (by omega) (by omega) | exact InR.u32 (by omega) (by omega) | exact InR.u16 (by omega) (by omega) | exact InR.u64 (by omega) (by omega))) | ((with_reducible apply GO.nilCheck); exact rfl; exact rfl) | ((with_reducible apply GO.slice_str); exact rfl; exact rfl; exact rfl; exact rfl; exact fU; (exact ⟨by omega, by omega, by omega⟩)) | ((with_reducible apply GO.makeFunc); exact rfl; exact rfl; exact rfl) | ((with_reducible apply GO.makeIface); exact rfl; exact rfl; exact fU; exact rfl) | ((with_reducible apply GO.fld_at); exact rfl; exact rfl; exact fF) | ((with_reducible apply GO.fld); exact rfl; exact rfl; exact fF) | ((with_reducible apply GO.load_h); exact rfl; exact rfl; exact fG; (first | assumption | exact Hp.cell_up (by assumption) (by assumption))) | ((with_reducible apply GO.load_hA); exact rfl; exact rfl; exact fG; exact fS; assumption; exact rfl) | ((with_reducible apply GO.indexAddr); exact rfl; exact rfl; exact rfl; (first | with_reducible exact rfl | exact (Int.toNat_of_nonneg (by omega)).symm); exact fU; exact fS; (first | exact rfl | assumption); (first | omega | assumption)) | ((with_reducible apply GO.indexAddr_at); exact rfl; exact rfl; exact rfl; exact fU; exact fS; decide) | ((with_reducible apply GO.indexAddr_a); exact rfl; exact rfl; exact rfl; exact fU; exact fS; decide))); (with_reducible apply GO.nil); (with_reducible apply QV.n); exact rfl; exact rfl)) | ((with_reducible apply GB.done); decide +kernel))
        refine GC.cond rfl (fun hq => ?_) (fun hq => ?_)
        · repeat' (first | ((with_reducible apply GC.seq)) | ((with_reducible apply GC.region)) | ((with_reducible apply GO.nil)) | ((with_reducible apply QS.n)) | ((with_reducible apply GC.ret)) | ((with_reducible apply QS.r)) | ((with_reducible apply QB.r)) | ((with_reducible apply QL.r)) | ((with_reducible apply GO.assign); exact rfl; exact rfl))
          refine FnQ.retV rfl rfl (Hp.le_trans hle (Hp.le_trans hle2 hle3)) ?_
          have : ((t.attrs.take k).map (·.name)).any (fun x => decide (x = t.attrs[k].name)) = true := by
            rw [List.any_eq_true]
            exact ⟨t.attrs[j].name, List.mem_map.2 ⟨t.attrs[j], List.mem_take_iff_getElem.2 ⟨j, by omega, rfl⟩, rfl⟩, hq⟩
          rw [oneR, if_pos k1, ← hall, this]; simp
        · repeat' (first | ((with_reducible apply GC.region)) | ((with_reducible apply GO.nil)) | ((with_reducible apply QS.n)) | ((with_reducible apply QB.n)) | ((with_reducible apply GC.skip)) | ((with_reducible apply GO.move); exact rfl; exact rfl) | ((with_reducible apply GO.assign); exact rfl; exact rfl) | ((with_reducible apply GO.add); exact rfl; exact rfl; exact rfl; (first | exact InR.i64 (by omega) (by omega) | exact InR.u8 (by omega) (by omega) | exact InR.i32 (by omega) (by omega) | exact InR.u32 (by omega) (by omega) | exact InR.u16 (by omega) (by omega) | exact InR.u64 (by omega) (by omega))))
          refine QL.n hle3 (j + 1) (by omega) ⟨by omega, ?_⟩ ⟨rfl, rfl, rfl, trivial⟩ (List.Sublist.refl _)
          rw [seen_snoc hjl, List.any_append, hany]
          simpa using hq
      · have hjk' := decide_eq_false hjk
        have hjk2 : j = k := by omega
        subst hjk2
        repeat' (first | ((with_reducible apply GC.seq)) | ((with_reducible apply GC.region)) | ((with_reducible apply GO.nil)) | ((with_reducible apply QS.n)) | ((with_reducible apply QB.n)) | ((with_reducible apply GC.exit)) | ((with_reducible apply QS.ex)) | ((with_reducible apply QL.ex)) | ((with_reducible apply QB.ex)) | ((with_reducible apply GC.condF); exact rfl; (first | exact rfl | assumption)) | ((with_reducible apply GO.move); exact rfl; exact rfl) | ((with_reducible apply GO.assign); exact rfl; exact rfl) | ((with_reducible apply GO.lss); exact rfl; exact rfl; exact rfl) | ((with_reducible apply GO.add); exact rfl; exact rfl; exact rfl; (first | exact InR.i64 (by omega) (by omega) | exact InR.u8 (by omega) (by omega) | exact InR.i32 (by omega) (by omega) | exact InR.u32 (by omega) (by omega) | exact InR.u16 (by omega) (by omega) | exact InR.u64 (by omega) (by omega))))
        refine QL.n (Hp.le_trans hle2 hle3) (j + 1) (by omega) ⟨by omega, ?_⟩ ⟨rfl, rfl, trivial⟩ (List.Sublist.refl _)
        rw [seen_snoc hkl, ← hall, hany]; rfl
    · have hlt' := decide_eq_false hlt
      repeat' (first | ((with_reducible apply GC.seq)) | ((with_reducible apply GC.region)) | ((with_reducible apply GO.nil)) | ((with_reducible apply QS.n)) | ((with_reducible apply GC.ret)) | ((with_reducible apply GC.exit)) | ((with_reducible apply QS.r)) | ((with_reducible apply QB.r)) | ((with_reducible apply QS.ex)) | ((with_reducible apply QL.ex)) | ((with_reducible apply QB.ex)) | ((with_reducible apply GC.condF); exact rfl; (first | exact rfl | assumption)) | ((with_reducible apply GO.move); exact rfl; exact rfl) | ((with_reducible apply GO.assign); exact rfl; exact rfl) | ((with_reducible apply GO.lss); exact rfl; exact rfl; exact rfl) | ((with_reducible apply GO.len_sl); exact rfl; exact rfl; exact fU) | ((with_reducible apply GO.fld); exact rfl; exact rfl; exact fF) | ((with_reducible apply GO.load_h); exact rfl; exact rfl; exact fG; (first | assumption | exact Hp.cell_up (by assumption) (by assumption))))
      refine FnQ.retV rfl rfl (Hp.le_trans hle hle2) ?_
      rw [List.drop_of_length_le (by omega), attrsR] at hall
      rw [oneR, if_pos k1, ← hall, hl, hf']; rfl
  have d1 := decide_eq_false k1
  by_cases k2 : t.kind = 2
  · have d2 := decide_eq_true k2
    repeat' (first | ((with_reducible apply GC.seq)) | ((with_reducible apply GC.region)) | ((with_reducible apply GO.nil)) | ((with_reducible apply QS.n)) | ((with_reducible apply GC.ret)) | ((with_reducible apply QS.r)) | ((with_reducible apply QB.r)) | ((with_reducible apply GC.condT); exact rfl; (first | exact rfl | assumption)) | ((with_reducible apply GC.condF); exact rfl; (first | exact rfl | assumption)) | ((with_reducible apply GO.want); exact rfl; exact rfl; (first | exact rfl | assumption)) | ((with_reducible apply GO.pass); exact rfl; exact rfl; exact rfl; exact rfl; (first | exact rfl | assumption)) | ((with_reducible apply GO.callV (f := 85) (vs := [_]) (caps := [])); exact rfl; exact rfl; exact rfl; exact fN; exact NameR_spec _ _ h1) | ((with_reducible apply GO.move); exact rfl; exact rfl) | ((with_reducible apply GO.assign); exact rfl; exact rfl) | ((with_reducible apply GO.pick_t); exact rfl; exact rfl; (first | exact rfl | assumption); exact rfl) | ((with_reducible apply GO.pick_f); exact rfl; exact rfl; (first | exact rfl | assumption); exact rfl) | ((with_reducible apply GO.eql); exact rfl; exact rfl; exact rfl) | ((with_reducible apply GO.str_eql); exact rfl; exact rfl; exact rfl) | ((with_reducible apply GO.len_sl); exact rfl; exact rfl; exact fU) | ((with_reducible apply GO.fld); exact rfl; exact rfl; exact fF) | ((with_reducible apply GO.load_h); exact rfl; exact rfl; exact fG; (first | assumption | exact Hp.cell_up (by assumption) (by assumption))) | ((with_reducible apply GO.guard); exact rfl; exact rfl; exact rfl; exact rfl; all_goals intro _))
    all_goals (refine FnQ.retV rfl rfl hle ?_; refine congrArg Value.bool ?_; rw [oneR, if_neg k1, if_pos k2, hl]; (try (simp only [Bool.not_true, Bool.not_false, Bool.not_eq_true', Bool.not_eq_false', Int.toNat_natCast, Int.reduceAdd] at *)); (try (simp only [emptyS, *, Bool.and_true, Bool.true_and, Bool.or_true, Bool.true_or, Bool.or_false, Bool.false_or, Bool.and_false, Bool.false_and, Bool.not_true, Bool.not_false, Bool.not_not])); (try rfl))
  have d2 := decide_eq_false k2
  by_cases k3 : t.kind = 3
  · have d3 := decide_eq_true k3
    repeat' (first | ((with_reducible apply GC.seq)) | ((with_reducible apply GC.region)) | ((with_reducible apply GO.nil)) | ((with_reducible apply QS.n)) | ((with_reducible apply GC.ret)) | ((with_reducible apply QS.r)) | ((with_reducible apply QB.r)) | ((with_reducible apply GC.condT); exact rfl; (first | exact rfl | assumption)) | ((with_reducible apply GC.condF); exact rfl; (first | exact rfl | assumption)) | ((with_reducible apply GO.want); exact rfl; exact rfl; (first | exact rfl | assumption)) | ((with_reducible apply GO.pass); exact rfl; exact rfl; exact rfl; exact rfl; (first | exact rfl | assumption)) | ((with_reducible apply GO.callV (f := 86) (vs := [_]) (caps := [])); exact rfl; exact rfl; exact rfl; exact fN; exact small_spec _ _ hu h2) | ((with_reducible apply GO.move); exact rfl; exact rfl) | ((with_reducible apply GO.assign); exact rfl; exact rfl) | ((with_reducible apply GO.pick_t); exact rfl; exact rfl; (first | exact rfl | assumption); exact rfl) | ((with_reducible apply GO.pick_f); exact rfl; exact rfl; (first | exact rfl | assumption); exact rfl) | ((with_reducible apply GO.eql); exact rfl; exact rfl; exact rfl) | ((with_reducible apply GO.str_eql); exact rfl; exact rfl; exact rfl) | ((with_reducible apply GO.str_neq); exact rfl; exact rfl; exact rfl) | ((with_reducible apply GO.len_sl); exact rfl; exact rfl; exact fU) | ((with_reducible apply GO.fld); exact rfl; exact rfl; exact fF) | ((with_reducible apply GO.load_h); exact rfl; exact rfl; exact fG; (first | assumption | exact Hp.cell_up (by assumption) (by assumption))) | ((with_reducible apply GO.guard); exact rfl; exact rfl; exact rfl; exact rfl; all_goals intro _))
    all_goals (refine FnQ.retV rfl rfl hle ?_; refine congrArg Value.bool ?_; rw [oneR, if_neg k1, if_neg k2, if_pos k3, hl]; (try (simp only [Bool.not_true, Bool.not_false, Bool.not_eq_true', Bool.not_eq_false', Int.toNat_natCast, Int.reduceAdd] at *)); (try (simp only [emptyS, *, Bool.and_true, Bool.true_and, Bool.or_true, Bool.true_or, Bool.or_false, Bool.false_or, Bool.and_false, Bool.false_and, Bool.not_true, Bool.not_false, Bool.not_not])); (try rfl))
  · have d3 := decide_eq_false k3
    repeat' (first | ((with_reducible apply GC.seq)) | ((with_reducible apply GC.region)) | ((with_reducible apply GO.nil)) | ((with_reducible apply QS.n)) | ((with_reducible apply QB.n)) | ((with_reducible apply GC.skip)) | ((with_reducible apply GC.ret)) | ((with_reducible apply GC.condF); exact rfl; (first | exact rfl | assumption)) | ((with_reducible apply GO.assign); exact rfl; exact rfl) | ((with_reducible apply GO.eql); exact rfl; exact rfl; exact rfl))
    refine FnQ.retV rfl rfl hle ?_
    rw [oneR, if_neg k1, if_neg k2, if_neg k3]
end Go.Proofs.YtajdjclhkoenfaaDoor
