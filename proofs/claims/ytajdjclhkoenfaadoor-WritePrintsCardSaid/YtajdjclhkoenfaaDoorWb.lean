/- Names. -/
import Derived.Test.YtajdjclhkoenfaaDoorWa
set_option linter.unusedSimpArgs false
set_option linter.unusedVariables false
namespace Go.Proofs.YtajdjclhkoenfaaDoor
open Go.RowKit

def nameF (c : Int) : Bool := (decide (97 ≤ c) && decide (c ≤ 122)) || ((decide (65 ≤ c) && decide (c ≤ 90)) || decide (c = 95))
def nameD (c : Int) : Bool := (((decide (48 ≤ c) && decide (c ≤ 57)) || decide (c = 45)) || decide (c = 46)) || decide (c = 58)
def nameC (i : Nat) (c : Int) : Bool := nameF c || (decide (0 < (i : Int)) && nameD c)
def nameB (s : ByteArray) : Bool := (List.range s.size).all (fun i => nameC i (bt s i)) && (!decide (s = emptyS) && decide ((s.size : Int) ≤ 32))

set_option maxRecDepth 100000 in
set_option maxHeartbeats 1000000 in
theorem Name_spec (s : ByteArray) (h : Hp) (hs : s.size ≤ big) : CallsV Tryd.prog 112 #[.string s] h (.bool (nameB s)) := by
  unfold big at hs
  refine callsH_of (args := [_]) Tryd.func112 rfl Tryd.ntmps112 rfl fun w => ?_
  repeat' (first | ((with_reducible apply GC.seq)) | ((with_reducible apply GC.region)) | ((with_reducible apply GC.block)) | ((with_reducible apply GO.nil)) | ((with_reducible apply QS.n)) | ((with_reducible apply GO.move); exact rfl; exact rfl) | ((with_reducible apply GO.assign); exact rfl; exact rfl) | ((with_reducible apply GO.len_str); exact rfl; exact rfl; exact fU))
  refine GC.loop (α := Nat) (fun k => [(0, .string s), (6, .int .i64 s.size), (7, .int .i64 k)]) (fun _ => []) (fun k h' => h' = h ∧ k ≤ s.size ∧ ∀ j, j < k → nameC j (bt s j) = true) (fun k => s.size - k) 0 ⟨rfl, by omega, by omega⟩ ⟨rfl, rfl, rfl, trivial⟩ (List.Sublist.refl _) ?_
  rintro k h' hle ⟨rfl, hk, hall⟩
  by_cases hlt : (k : Int) < s.size
  · have hlt' := decide_eq_true hlt
    have htn : ((k : Int)).toNat = k := rfl
    repeat' (first | ((with_reducible apply GC.seq)) | ((with_reducible apply GC.region)) | ((with_reducible apply GC.block' [2]); exact rfl) | ((with_reducible apply GO.nil)) | ((with_reducible apply QS.n)) | ((with_reducible apply GC.skip)) | ((with_reducible apply GC.condT); exact rfl; (first | exact rfl | assumption)) | ((with_reducible apply GO.move); exact rfl; exact rfl) | ((with_reducible apply GO.assign); exact rfl; exact rfl) | ((with_reducible apply GO.lss); exact rfl; exact rfl; exact rfl) | ((with_reducible apply GO.index_str); exact rfl; exact rfl; exact rfl; exact fU; (first | omega | assumption)))
    refine GC.block (GC.seq ?_)
    refine GC.join 13 (nameF (bt s k)) [(0, .string s), (3, .int .i64 k), (4, .int .u8 (bt s k)), (6, .int .i64 s.size), (7, .int .i64 k)] ?_ ?_
    · repeat' (first | ((with_reducible apply GC.seq)) | ((with_reducible apply GC.region)) | ((with_reducible apply GO.nil)) | ((with_reducible apply QS.n)) | ((with_reducible apply GC.skip)) | ((with_reducible apply GC.condF); exact rfl; (first | exact rfl | assumption)) | ((with_reducible apply GO.want); exact rfl; exact rfl; (first | exact rfl | assumption)) | ((with_reducible apply GO.pass); exact rfl; exact rfl; exact rfl; exact rfl; (first | exact rfl | assumption)) | ((with_reducible apply GO.move); exact rfl; exact rfl) | ((with_reducible apply GO.assign); exact rfl; exact rfl) | ((with_reducible apply GO.pick_t); exact rfl; exact rfl; (first | exact rfl | assumption); exact rfl) | ((with_reducible apply GO.pick_f); exact rfl; exact rfl; (first | exact rfl | assumption); exact rfl) | ((with_reducible apply GO.eql); exact rfl; exact rfl; exact rfl) | ((with_reducible apply GO.leq); exact rfl; exact rfl; exact rfl) | ((with_reducible apply GO.geq); exact rfl; exact rfl; exact rfl) | ((with_reducible apply GO.guard); exact rfl; exact rfl; exact rfl; exact rfl; all_goals intro _) | ((with_reducible apply GC.cond); exact rfl; all_goals intro _))
      all_goals (refine QJ.n rfl ⟨rfl, rfl, rfl, rfl, rfl, trivial⟩ ?_; (try (simp only [Bool.not_true, Bool.not_false, Bool.not_eq_true', Bool.not_eq_false', Int.toNat_natCast, Int.reduceAdd] at *)); (try (simp only [nameF, *, Bool.and_true, Bool.true_and, Bool.or_true, Bool.true_or, Bool.or_false, Bool.false_or, Bool.and_false, Bool.false_and, Bool.not_true, Bool.not_false, Bool.not_not])); (try rfl))
    repeat' (first | ((with_reducible apply QS.n)))
    refine GC.cond rfl (fun hf => ?_) (fun hf => ?_)
    · repeat' (first | ((with_reducible apply GC.region)) | ((with_reducible apply GO.nil)) | ((with_reducible apply QS.n)) | ((with_reducible apply QB.n)) | ((with_reducible apply GC.skip)) | ((with_reducible apply GO.move); exact rfl; exact rfl) | ((with_reducible apply GO.add); exact rfl; exact rfl; exact rfl; (first | exact InR.i64 (by omega) (by omega) | exact InR.u8 (by omega) (by omega) | exact InR.i32 (by omega) (by omega) | exact InR.u32 (by omega) (by omega) | exact InR.u16 (by omega) (by omega) | exact InR.u64 (by omega) (by omega))))
      refine QL.n hle (k + 1) (by omega) ⟨rfl, by omega, fun j hj => ?_⟩ ⟨rfl, rfl, rfl, trivial⟩ (List.Sublist.refl _)
      by_cases hjk : j = k
      · subst hjk; simp [nameC, hf]
      · exact hall j (by omega)
    · repeat' (first | ((with_reducible apply GC.seq)))
      refine GC.join 28 (decide (0 < (k : Int)) && nameD (bt s k)) [(0, .string s), (6, .int .i64 s.size), (7, .int .i64 k)] ?_ ?_
      · repeat' (first | ((with_reducible apply GC.region)) | ((with_reducible apply GO.nil)) | ((with_reducible apply GO.want); exact rfl; exact rfl; (first | exact rfl | assumption)) | ((with_reducible apply GO.passU); exact rfl; exact rfl; exact rfl; exact rfl) | ((with_reducible apply GO.pass); exact rfl; exact rfl; exact rfl; exact rfl; (first | exact rfl | assumption)) | ((with_reducible apply GO.move); exact rfl; exact rfl) | ((with_reducible apply GO.assign); exact rfl; exact rfl) | ((with_reducible apply GO.pick_t); exact rfl; exact rfl; (first | exact rfl | assumption); exact rfl) | ((with_reducible apply GO.pick_f); exact rfl; exact rfl; (first | exact rfl | assumption); exact rfl) | ((with_reducible apply GO.eql); exact rfl; exact rfl; exact rfl) | ((with_reducible apply GO.leq); exact rfl; exact rfl; exact rfl) | ((with_reducible apply GO.gtr); exact rfl; exact rfl; exact rfl) | ((with_reducible apply GO.geq); exact rfl; exact rfl; exact rfl) | ((with_reducible apply GO.guard); exact rfl; exact rfl; exact rfl; exact rfl; all_goals intro _))
        all_goals (refine QJ.n rfl ⟨rfl, rfl, rfl, trivial⟩ ?_; (try (simp only [Bool.not_true, Bool.not_false, Bool.not_eq_true', Bool.not_eq_false', Int.toNat_natCast, Int.reduceAdd] at *)); (try (simp only [nameD, *, Bool.and_true, Bool.true_and, Bool.or_true, Bool.true_or, Bool.or_false, Bool.false_or, Bool.and_false, Bool.false_and, Bool.not_true, Bool.not_false, Bool.not_not])); (try rfl))
      repeat' (first | ((with_reducible apply QS.n)))
      refine GC.cond rfl (fun hg => ?_) (fun hg => ?_)
      · repeat' (first | ((with_reducible apply GC.region)) | ((with_reducible apply GO.nil)) | ((with_reducible apply QS.n)) | ((with_reducible apply QB.n)) | ((with_reducible apply GC.skip)) | ((with_reducible apply GO.move); exact rfl; exact rfl) | ((with_reducible apply GO.add); exact rfl; exact rfl; exact rfl; (first | exact InR.i64 (by omega) (by omega) | exact InR.u8 (by omega) (by omega) | exact InR.i32 (by omega) (by omega) | exact InR.u32 (by omega) (by omega) | exact InR.u16 (by omega) (by omega) | exact InR.u64 (by omega) (by omega))))
        refine QL.n hle (k + 1) (by omega) ⟨rfl, by omega, fun j hj => ?_⟩ ⟨rfl, rfl, rfl, trivial⟩ (List.Sublist.refl _)
        by_cases hjk : j = k
        · subst hjk; simp only [nameC, hf, hg]; rfl
        · exact hall j (by omega)
      · repeat' (first | ((with_reducible apply GC.seq)) | ((with_reducible apply GC.region)) | ((with_reducible apply GO.nil)) | ((with_reducible apply QS.n)) | ((with_reducible apply GC.ret)) | ((with_reducible apply QS.r)) | ((with_reducible apply QB.r)) | ((with_reducible apply QL.r)) | ((with_reducible apply GO.assign); exact rfl; exact rfl))
        refine FnQ.retV rfl rfl hle ?_
        have : nameB s = false := by
          unfold nameB
          have h2 : (List.range s.size).all (fun i => nameC i (bt s i)) = false := by
            rw [List.all_eq_false]
            exact ⟨k, by simp; omega, by simp only [nameC, hf, hg]; simp⟩
          rw [h2]; rfl
        rw [this]
  · have hlt' := decide_eq_false hlt
    repeat' (first | ((with_reducible apply GC.seq)) | ((with_reducible apply GC.region' [11]); exact rfl) | ((with_reducible apply GO.nil)) | ((with_reducible apply QS.n)) | ((with_reducible apply GC.exit)) | ((with_reducible apply QS.ex)) | ((with_reducible apply QL.ex)) | ((with_reducible apply QB.ex)) | ((with_reducible apply GC.condF); exact rfl; (first | exact rfl | assumption)) | ((with_reducible apply GO.lss); exact rfl; exact rfl; exact rfl))
    have h2 : (List.range s.size).all (fun i => nameC i (bt s i)) = true := by
      rw [List.all_eq_true]
      intro j hj
      exact hall j (by simp at hj; omega)
    refine GC.join 2 (nameB s) [] ?_ ?_
    · repeat' (first | ((with_reducible apply GC.region)) | ((with_reducible apply GO.nil)) | ((with_reducible apply GO.want); exact rfl; exact rfl; (first | exact rfl | assumption)) | ((with_reducible apply GO.pass); exact rfl; exact rfl; exact rfl; exact rfl; (first | exact rfl | assumption)) | ((with_reducible apply GO.move); exact rfl; exact rfl) | ((with_reducible apply GO.assign); exact rfl; exact rfl) | ((with_reducible apply GO.pick_t); exact rfl; exact rfl; (first | exact rfl | assumption); exact rfl) | ((with_reducible apply GO.pick_f); exact rfl; exact rfl; (first | exact rfl | assumption); exact rfl) | ((with_reducible apply GO.str_neq); exact rfl; exact rfl; exact rfl) | ((with_reducible apply GO.leq); exact rfl; exact rfl; exact rfl) | ((with_reducible apply GO.len_str); exact rfl; exact rfl; exact fU) | ((with_reducible apply GO.guard); exact rfl; exact rfl; exact rfl; exact rfl; all_goals intro _))
      all_goals (refine QJ.n rfl trivial ?_; (try (simp only [Bool.not_true, Bool.not_false, Bool.not_eq_true', Bool.not_eq_false', Int.toNat_natCast, Int.reduceAdd] at *)); (try (simp only [nameB, *, Bool.and_true, Bool.true_and, Bool.or_true, Bool.true_or, Bool.or_false, Bool.false_or, Bool.and_false, Bool.false_and, Bool.not_true, Bool.not_false, Bool.not_not])); (try rfl))
    repeat' (first | ((with_reducible apply QS.n)) | ((with_reducible apply GC.ret)))
    exact FnQ.retV rfl rfl hle rfl
end Go.Proofs.YtajdjclhkoenfaaDoor
