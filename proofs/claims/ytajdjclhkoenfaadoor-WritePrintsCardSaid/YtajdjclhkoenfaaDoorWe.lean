/- The reference's own names, characters and tokens. -/
import Derived.Test.YtajdjclhkoenfaaDoorWd
set_option linter.unusedSimpArgs false
set_option linter.unusedVariables false
namespace Go.Proofs.YtajdjclhkoenfaaDoor
open Go.RowKit

theorem empty_size (s : ByteArray) : (!decide (s = emptyS)) = decide (1 ≤ (s.size : Int)) := by
  by_cases h : s = emptyS
  · subst h; rfl
  · have h2 : s.size ≠ 0 := fun h0 => h (by
      apply ByteArray.ext
      have : s.data.size = 0 := h0
      exact Array.eq_empty_of_size_eq_zero this)
    rw [decide_eq_false h, decide_eq_true (by omega)]
    rfl

set_option maxRecDepth 100000 in
set_option maxHeartbeats 4000000 in
theorem NameR_spec (s : ByteArray) (h : Hp) (hs : s.size ≤ big) : CallsV Tryd.prog 85 #[.string s] h (.bool (nameB s)) := by
  unfold big at hs
  refine callsH_of (args := [_]) Tryd.func85 rfl Tryd.ntmps85 rfl fun w => ?_
  repeat' (first | ((with_reducible apply GC.seq)) | ((with_reducible apply GC.region)) | ((with_reducible apply GC.block)) | ((with_reducible apply GO.nil)) | ((with_reducible apply QS.n)) | ((with_reducible apply GO.assign); exact rfl; exact rfl))
  refine GC.loop (α := Nat) (fun k => [(0, .string s), (3, .int .i64 k)]) (fun _ => []) (fun k h' => h' = h ∧ k ≤ s.size ∧ ∀ j, j < k → nameC j (bt s j) = true) (fun k => s.size - k) 0 ⟨rfl, by omega, by omega⟩ ⟨rfl, rfl, trivial⟩ (List.Sublist.refl _) ?_
  rintro k h' hle ⟨rfl, hk, hall⟩
  by_cases hlt : (k : Int) < s.size
  · have hlt' := decide_eq_true hlt
    have htn : ((k : Int)).toNat = k := rfl
    repeat' (first | ((with_reducible apply GC.seq)) | ((with_reducible apply GC.region' [5]); exact rfl) | ((with_reducible apply GC.block)) | ((with_reducible apply GO.nil)) | ((with_reducible apply QS.n)) | ((with_reducible apply GC.skip)) | ((with_reducible apply GC.condT); exact rfl; (first | exact rfl | assumption)) | ((with_reducible apply GO.move); exact rfl; exact rfl) | ((with_reducible apply GO.assign); exact rfl; exact rfl) | ((with_reducible apply GO.lss); exact rfl; exact rfl; exact rfl) | ((with_reducible apply GO.len_str); exact rfl; exact rfl; exact fU) | ((with_reducible apply GO.index_str); exact rfl; exact rfl; exact rfl; exact fU; (first | omega | assumption)))
    refine GC.join 5 (nameF (bt s k)) [(0, .string s), (3, .int .i64 k), (4, .int .u8 (bt s k))] ?_ ?_
    · repeat' (first | ((with_reducible apply GC.region)) | ((with_reducible apply GO.nil)) | ((with_reducible apply GO.want); exact rfl; exact rfl; (first | exact rfl | assumption)) | ((with_reducible apply GO.passU); exact rfl; exact rfl; exact rfl; exact rfl) | ((with_reducible apply GO.pass); exact rfl; exact rfl; exact rfl; exact rfl; (first | exact rfl | assumption)) | ((with_reducible apply GO.move); exact rfl; exact rfl) | ((with_reducible apply GO.assign); exact rfl; exact rfl) | ((with_reducible apply GO.pick_t); exact rfl; exact rfl; (first | exact rfl | assumption); exact rfl) | ((with_reducible apply GO.pick_f); exact rfl; exact rfl; (first | exact rfl | assumption); exact rfl) | ((with_reducible apply GO.eql); exact rfl; exact rfl; exact rfl) | ((with_reducible apply GO.leq); exact rfl; exact rfl; exact rfl) | ((with_reducible apply GO.geq); exact rfl; exact rfl; exact rfl) | ((with_reducible apply GO.guard); exact rfl; exact rfl; exact rfl; exact rfl; all_goals intro _))
      all_goals (refine QJ.n rfl ⟨rfl, rfl, rfl, trivial⟩ ?_; (try (simp only [Bool.not_true, Bool.not_false, Bool.not_eq_true', Bool.not_eq_false', Int.toNat_natCast, Int.reduceAdd] at *)); (try (simp only [nameF, *, Bool.and_true, Bool.true_and, Bool.or_true, Bool.true_or, Bool.or_false, Bool.false_or, Bool.and_false, Bool.false_and, Bool.not_true, Bool.not_false, Bool.not_not])); (try rfl))
    repeat' (first | ((with_reducible apply GC.seq)) | ((with_reducible apply QS.n)))
    have hk0 : decide (0 < (k : Int)) = !decide ((k : Int) = 0) := by
      by_cases h0 : (k : Int) = 0
      · rw [decide_eq_true h0, decide_eq_false (by omega)]; rfl
      · rw [decide_eq_false h0, decide_eq_true (by omega)]; rfl
    refine GC.join 59 (!(nameC k (bt s k))) [(0, .string s), (3, .int .i64 k)] ?_ ?_
    · repeat' (first | ((with_reducible apply GC.region)) | ((with_reducible apply GO.nil)) | ((with_reducible apply GO.want); exact rfl; exact rfl; (first | exact rfl | assumption)) | ((with_reducible apply GO.passU); exact rfl; exact rfl; exact rfl; exact rfl) | ((with_reducible apply GO.pass); exact rfl; exact rfl; exact rfl; exact rfl; (first | exact rfl | assumption)) | ((with_reducible apply GO.move); exact rfl; exact rfl) | ((with_reducible apply GO.pick_t); exact rfl; exact rfl; (first | exact rfl | assumption); exact rfl) | ((with_reducible apply GO.pick_f); exact rfl; exact rfl; (first | exact rfl | assumption); exact rfl) | ((with_reducible apply GO.eql); exact rfl; exact rfl; exact rfl) | ((with_reducible apply GO.leq); exact rfl; exact rfl; exact rfl) | ((with_reducible apply GO.geq); exact rfl; exact rfl; exact rfl) | ((with_reducible apply GO.not_); exact rfl; exact rfl) | ((with_reducible apply GO.guard); exact rfl; exact rfl; exact rfl; exact rfl; all_goals intro _))
      all_goals (refine QJ.n rfl ⟨rfl, rfl, trivial⟩ ?_; unfold nameC; rw [hk0]; clear hk0; (try (simp only [Bool.not_true, Bool.not_false, Bool.not_eq_true', Bool.not_eq_false', Int.toNat_natCast, Int.reduceAdd] at *)); (try (simp only [nameD, *, Bool.and_true, Bool.true_and, Bool.or_true, Bool.true_or, Bool.or_false, Bool.false_or, Bool.and_false, Bool.false_and, Bool.not_true, Bool.not_false, Bool.not_not])); (try rfl))
    repeat' (first | ((with_reducible apply QS.n)))
    refine GC.cond rfl (fun hg => ?_) (fun hg => ?_)
    · repeat' (first | ((with_reducible apply GC.seq)) | ((with_reducible apply GC.region)) | ((with_reducible apply GO.nil)) | ((with_reducible apply QS.n)) | ((with_reducible apply GC.ret)) | ((with_reducible apply QS.r)) | ((with_reducible apply QB.r)) | ((with_reducible apply QL.r)) | ((with_reducible apply GO.assign); exact rfl; exact rfl))
      refine FnQ.retV rfl rfl hle ?_
      have : nameB s = false := by
        unfold nameB
        have h2 : (List.range s.size).all (fun i => nameC i (bt s i)) = false := by
          rw [List.all_eq_false]
          exact ⟨k, by simp; omega, by rw [(Bool.not_eq_true' _).mp hg]; simp⟩
        rw [h2]; rfl
      rw [this]
    · repeat' (first | ((with_reducible apply GC.region)) | ((with_reducible apply GO.nil)) | ((with_reducible apply QS.n)) | ((with_reducible apply QB.n)) | ((with_reducible apply GC.skip)) | ((with_reducible apply GO.move); exact rfl; exact rfl) | ((with_reducible apply GO.assign); exact rfl; exact rfl) | ((with_reducible apply GO.add); exact rfl; exact rfl; exact rfl; (first | exact InR.i64 (by omega) (by omega) | exact InR.u8 (by omega) (by omega) | exact InR.i32 (by omega) (by omega) | exact InR.u32 (by omega) (by omega) | exact InR.u16 (by omega) (by omega) | exact InR.u64 (by omega) (by omega))))
      refine QL.n hle (k + 1) (by omega) ⟨rfl, by omega, fun j hj => ?_⟩ ⟨rfl, rfl, trivial⟩ (List.Sublist.refl _)
      by_cases hjk : j = k
      · subst hjk; exact (Bool.not_eq_false' _).mp hg
      · exact hall j (by omega)
  · have hlt' := decide_eq_false hlt
    have h2 : (List.range s.size).all (fun i => nameC i (bt s i)) = true := by
      rw [List.all_eq_true]
      intro j hj
      exact hall j (by simp at hj; omega)
    repeat' (first | ((with_reducible apply GC.seq)) | ((with_reducible apply GC.region)) | ((with_reducible apply GO.nil)) | ((with_reducible apply QS.n)) | ((with_reducible apply GC.ret)) | ((with_reducible apply GC.exit)) | ((with_reducible apply QS.ex)) | ((with_reducible apply QL.ex)) | ((with_reducible apply QB.ex)) | ((with_reducible apply GC.condF); exact rfl; (first | exact rfl | assumption)) | ((with_reducible apply GO.want); exact rfl; exact rfl; (first | exact rfl | assumption)) | ((with_reducible apply GO.pass); exact rfl; exact rfl; exact rfl; exact rfl; (first | exact rfl | assumption)) | ((with_reducible apply GO.move); exact rfl; exact rfl) | ((with_reducible apply GO.assign); exact rfl; exact rfl) | ((with_reducible apply GO.pick_t); exact rfl; exact rfl; (first | exact rfl | assumption); exact rfl) | ((with_reducible apply GO.pick_f); exact rfl; exact rfl; (first | exact rfl | assumption); exact rfl) | ((with_reducible apply GO.lss); exact rfl; exact rfl; exact rfl) | ((with_reducible apply GO.leq); exact rfl; exact rfl; exact rfl) | ((with_reducible apply GO.geq); exact rfl; exact rfl; exact rfl) | ((with_reducible apply GO.len_str); exact rfl; exact rfl; exact fU) | ((with_reducible apply GO.guard); exact rfl; exact rfl; exact rfl; exact rfl; all_goals intro _))
    all_goals (refine FnQ.retV rfl rfl hle ?_; refine congrArg Value.bool ?_; rw [nameB, h2, empty_size]; (try (simp only [Bool.not_true, Bool.not_false, Bool.not_eq_true', Bool.not_eq_false', Int.toNat_natCast, Int.reduceAdd] at *)); (try (simp only [*, Bool.and_true, Bool.true_and, Bool.or_true, Bool.true_or, Bool.or_false, Bool.false_or, Bool.and_false, Bool.false_and, Bool.not_true, Bool.not_false, Bool.not_not])); (try rfl))

/-! ### characters -/
def U8 (h : Hp) : Prop := (∀ c, c < 256 → h.cell ⟨0, c, none⟩ = some (.int .u8 (Lib.firstT c))) ∧ (∀ i, i < 16 → h.cell ⟨1, 2 * i, none⟩ = some (.int .u8 (Lib.accLo i)) ∧ h.cell ⟨1, 2 * i + 1, none⟩ = some (.int .u8 (Lib.accHi i)))
theorem U8.mono {h h' : Hp} (hl : h.le h') (u : U8 h) : U8 h' := ⟨fun c hc => Hp.cell_mono hl (u.1 c hc), fun i hi => ⟨Hp.cell_mono hl (u.2 i hi).1, Hp.cell_mono hl (u.2 i hi).2⟩⟩
theorem cell_of {h : Hp} {w : World} (hp : ∀ k o, h k = some o → w.heap[k]? = some o) {a : Addr} {v : Value} (hc : h.cell a = some v) : w.cell? a = some v := by
  unfold Hp.cell at hc
  unfold World.cell?
  cases hb : h a.block with
  | none => rw [hb] at hc; cases hc
  | some o => rw [hp _ _ hb]; rw [hb] at hc; exact hc
theorem ValidString_V (s : ByteArray) (h : Hp) (hu : U8 h) (hs : s.size ≤ big) : CallsV Tryd.prog 127 #[.string s] h (.bool (Lib.validD s.data.toList)) :=
  CallsV.below fun w hp => Any.utf8_ValidString Tryd.laysValid s w (by unfold big at hs; omega) ⟨fun c hc => cell_of hp (hu.1 c hc), fun i hi => ⟨cell_of hp (hu.2 i hi).1, cell_of hp (hu.2 i hi).2⟩⟩
def okB (s : ByteArray) (p : Nat) : Bool := !charBad (rune s p)
def charsR (s : ByteArray) : Bool := Lib.validD s.data.toList && charsFrom okB s s.size 0
set_option maxRecDepth 100000 in
set_option maxHeartbeats 4000000 in
theorem CharsR_spec (s : ByteArray) (h : Hp) (hu : U8 h) (hs : s.size ≤ big) : CallsV Tryd.prog 96 #[.string s] h (.bool (charsR s)) := by
  have hs0 := hs
  unfold big at hs
  refine callsH_of (args := [_]) Tryd.func96 rfl Tryd.ntmps96 rfl fun w => ?_
  repeat' (first | ((with_reducible apply GC.seq)) | ((with_reducible apply GC.region)) | ((with_reducible apply GO.nil)) | ((with_reducible apply QS.n)) | ((with_reducible apply GO.callV (f := 127) (vs := [_]) (caps := [])); exact rfl; exact rfl; exact rfl; exact fN; exact ValidString_V _ _ hu hs0) | ((with_reducible apply GO.move); exact rfl; exact rfl) | ((with_reducible apply GO.assign); exact rfl; exact rfl) | ((with_reducible apply GO.not_); exact rfl; exact rfl))
  refine GC.cond rfl (fun hf => ?_) (fun hf => ?_)
  · repeat' (first | ((with_reducible apply GC.seq)) | ((with_reducible apply GC.region)) | ((with_reducible apply GO.nil)) | ((with_reducible apply QS.n)) | ((with_reducible apply GC.ret)) | ((with_reducible apply QS.r)) | ((with_reducible apply GO.assign); exact rfl; exact rfl))
    exact FnQ.retV rfl rfl (Hp.le_refl _) (by rw [charsR, (Bool.not_eq_true' _).mp hf]; rfl)
  have hf' := (Bool.not_eq_false' _).mp hf
  repeat' (first | ((with_reducible apply GC.seq)) | ((with_reducible apply GC.region)) | ((with_reducible apply GC.block)) | ((with_reducible apply GO.nil)) | ((with_reducible apply QS.n)) | ((with_reducible apply GC.skip)) | ((with_reducible apply GO.move); exact rfl; exact rfl) | ((with_reducible apply GO.range_str); exact rfl; exact rfl; exact fU; intro _))
  rename_i b
  refine GC.loop (α := Nat) (fun p => [(0, .string s), (9, .pointer (some ⟨b, 0, none⟩))]) (fun p => [strIt b s p]) (fun p h' => h' = h ∧ charsFrom okB s s.size p = charsR s) (fun p => s.size - p) 0 ⟨rfl, by rw [charsR, hf']; rfl⟩ ⟨rfl, rfl, trivial⟩ (List.Sublist.refl _) ?_
  rintro p h' hle ⟨rfl, hall⟩
  by_cases hlt : p < s.size
  · have hrr := rune_range s p
    have hst := charsFrom_step (ok := okB) (n := s.size) hlt (by omega)
    have hw := Lib.decode_width_pos s p hlt
    repeat' (first | ((with_reducible apply GC.seq)) | ((with_reducible apply GC.region' [6]); exact rfl) | ((with_reducible apply GC.block)) | ((with_reducible apply GO.nil)) | ((with_reducible apply QS.n)) | ((with_reducible apply GC.skip)) | ((with_reducible apply GC.condT); exact rfl; (first | exact rfl | assumption)) | ((with_reducible apply GO.assign); exact rfl; exact rfl) | ((with_reducible apply GO.extract); exact rfl; exact rfl; exact rfl) | ((with_reducible apply GO.next_str); exact rfl; exact rfl; (first | exact pk0 | exact pk1 | exact pk2 | exact pk3 | exact pk4 | exact pk5); (first | omega | assumption); exact rfl))
    refine GC.join 34 (charBad (rune s p)) [(0, .string s), (9, .pointer (some ⟨b, 0, none⟩))] ?_ ?_
    · repeat' (first | ((with_reducible apply GC.region)) | ((with_reducible apply GO.nil)) | ((with_reducible apply GO.want); exact rfl; exact rfl; (first | exact rfl | assumption)) | ((with_reducible apply GO.pass); exact rfl; exact rfl; exact rfl; exact rfl; (first | exact rfl | assumption)) | ((with_reducible apply GO.move); exact rfl; exact rfl) | ((with_reducible apply GO.pick_t); exact rfl; exact rfl; (first | exact rfl | assumption); exact rfl) | ((with_reducible apply GO.pick_f); exact rfl; exact rfl; (first | exact rfl | assumption); exact rfl) | ((with_reducible apply GO.eql); exact rfl; exact rfl; exact rfl) | ((with_reducible apply GO.neq); exact rfl; exact rfl; exact rfl) | ((with_reducible apply GO.lss); exact rfl; exact rfl; exact rfl) | ((with_reducible apply GO.guard); exact rfl; exact rfl; exact rfl; exact rfl; all_goals intro _))
      all_goals (refine QJ.n rfl ⟨rfl, rfl, trivial⟩ ?_)
      all_goals (unfold charBad rune; (try (simp only [Bool.not_true, Bool.not_false, Bool.not_eq_true', Bool.not_eq_false', Int.toNat_natCast, Int.reduceAdd] at *)); (try (simp only [*, Bool.and_true, Bool.true_and, Bool.or_true, Bool.true_or, Bool.or_false, Bool.false_or, Bool.and_false, Bool.false_and, Bool.not_true, Bool.not_false, Bool.not_not])); (try rfl))
    repeat' (first | ((with_reducible apply QS.n)))
    refine GC.cond rfl (fun hg => ?_) (fun hg => ?_)
    · repeat' (first | ((with_reducible apply GC.seq)) | ((with_reducible apply GC.region)) | ((with_reducible apply GO.nil)) | ((with_reducible apply QS.n)) | ((with_reducible apply GC.ret)) | ((with_reducible apply QS.r)) | ((with_reducible apply QB.r)) | ((with_reducible apply QL.r)) | ((with_reducible apply GO.assign); exact rfl; exact rfl))
      refine FnQ.retV rfl rfl hle ?_
      rw [← hall, hst, okB, hg]; rfl
    repeat' (first | ((with_reducible apply QB.n)) | ((with_reducible apply GC.skip)))
    refine QL.n hle (p + (Utf8.decode s p).2) (by omega) ⟨rfl, ?_⟩ ⟨rfl, rfl, trivial⟩ (List.Sublist.refl _)
    rw [← hall, hst, okB, hg]; rfl
  · have hend := charsFrom_end (ok := okB) (n := s.size) (Nat.not_lt.1 hlt)
    repeat' (first | ((with_reducible apply GC.seq)) | ((with_reducible apply GC.region)) | ((with_reducible apply GO.nil)) | ((with_reducible apply QS.n)) | ((with_reducible apply GC.ret)) | ((with_reducible apply GC.exit)) | ((with_reducible apply QS.ex)) | ((with_reducible apply QL.ex)) | ((with_reducible apply QB.ex)) | ((with_reducible apply GC.condF); exact rfl; (first | exact rfl | assumption)) | ((with_reducible apply GO.assign); exact rfl; exact rfl) | ((with_reducible apply GO.extract); exact rfl; exact rfl; exact rfl) | ((with_reducible apply GO.next_str_end); exact rfl; exact rfl; (first | exact pk0 | exact pk1 | exact pk2 | exact pk3 | exact pk4 | exact pk5); (first | omega | assumption)))
    exact FnQ.retV rfl rfl hle (by rw [← hall, hend])
end Go.Proofs.YtajdjclhkoenfaaDoor
