/- Characters. -/
import Derived.Test.YtajdjclhkoenfaaDoorGh
import Derived.Test.YtajdjclhkoenfaaDoorWb
set_option linter.unusedSimpArgs false
set_option linter.unusedVariables false
namespace Go.Proofs.YtajdjclhkoenfaaDoor
open Go.RowKit

def charBad (r : Int) : Bool := (decide (r = 65534) || decide (r = 65535)) || (((decide (r < 32) && !decide (r = 9)) && !decide (r = 10)) && !decide (r = 13))
def fffd : List UInt8 := [239, 191, 189]
def rune (s : ByteArray) (p : Nat) : Int := ((Utf8.decode s p).1 : Nat)
def charTorn (s : ByteArray) (p : Nat) : Bool := decide (rune s p = 65533) && !Lib.hasPrefix (s.extract p s.size).data.toList fffd
def charsFrom (ok : ByteArray → Nat → Bool) (s : ByteArray) : Nat → Nat → Bool
  | 0, _ => true
  | n + 1, p => if p < s.size then ok s p && charsFrom ok s n (p + (Utf8.decode s p).2) else true
def okA (s : ByteArray) (p : Nat) : Bool := !charTorn s p && !charBad (rune s p)
def charsA (s : ByteArray) : Bool := charsFrom okA s s.size 0
theorem rune_range (s : ByteArray) (p : Nat) : 0 ≤ rune s p ∧ rune s p ≤ 2147483647 := ⟨by unfold rune; omega, by unfold rune; have := decode_le s p; omega⟩
theorem charsFrom_end {ok : ByteArray → Nat → Bool} {s : ByteArray} {n p : Nat} (h : s.size ≤ p) : charsFrom ok s n p = true := by
  cases n with
  | zero => rfl
  | succ n => rw [charsFrom, if_neg (by omega)]
theorem charsFrom_fuel {ok : ByteArray → Nat → Bool} {s : ByteArray} : ∀ {n m p : Nat}, s.size ≤ p + n → s.size ≤ p + m → charsFrom ok s n p = charsFrom ok s m p
  | 0, m, p, h1, h2 => by rw [charsFrom_end (by omega), charsFrom_end (by omega)]
  | n + 1, 0, p, h1, h2 => by rw [charsFrom_end (by omega), charsFrom_end (by omega)]
  | n + 1, m + 1, p, h1, h2 => by
    rw [charsFrom, charsFrom]
    by_cases hp : p < s.size
    · have := Lib.decode_width_pos s p hp
      rw [if_pos hp, if_pos hp, charsFrom_fuel (n := n) (m := m) (by omega) (by omega)]
    · rw [if_neg hp, if_neg hp]
theorem charsFrom_step {ok : ByteArray → Nat → Bool} {s : ByteArray} {n p : Nat} (hp : p < s.size) (hn : s.size ≤ p + n) : charsFrom ok s n p = (ok s p && charsFrom ok s n (p + (Utf8.decode s p).2)) := by
  have hw := Lib.decode_width_pos s p hp
  cases n with
  | zero => omega
  | succ n =>
    rw [charsFrom, if_pos hp, charsFrom_fuel (n := n) (m := n + 1) (by omega) (by omega)]

theorem hasPrefix_V (s p : ByteArray) (h : Hp) : CallsV Tryd.prog 110 #[.string s, .string p] h (.bool (Lib.hasPrefix s.data.toList p.data.toList)) := CallsV.same fun w => Tryd.strings_HasPrefix s p w

set_option maxRecDepth 100000 in
set_option maxHeartbeats 1000000 in
theorem Chars_spec (s : ByteArray) (h : Hp) (hs : s.size ≤ big) : CallsV Tryd.prog 79 #[.string s] h (.bool (charsA s)) := by
  unfold big at hs
  refine callsH_of (args := [_]) Tryd.func79 rfl Tryd.ntmps79 rfl fun w => ?_
  repeat' (first | ((with_reducible apply GC.seq)) | ((with_reducible apply GC.region)) | ((with_reducible apply GC.block)) | ((with_reducible apply GO.nil)) | ((with_reducible apply QS.n)) | ((with_reducible apply GO.move); exact rfl; exact rfl) | ((with_reducible apply GO.assign); exact rfl; exact rfl) | ((with_reducible apply GO.range_str); exact rfl; exact rfl; exact fU; intro _))
  rename_i b
  refine GC.loop (α := Nat) (fun p => [(0, .string s), (3, .int .i32 65534), (7, .pointer (some ⟨b, 0, none⟩))]) (fun p => [strIt b s p]) (fun p h' => h' = h ∧ charsFrom okA s s.size p = charsA s) (fun p => s.size - p) 0 ⟨rfl, rfl⟩ ⟨rfl, rfl, rfl, trivial⟩ (List.Sublist.refl _) ?_
  rintro p h' hle ⟨rfl, hall⟩
  by_cases hlt : p < s.size
  · have hrr := rune_range s p
    have hst := charsFrom_step (ok := okA) (n := s.size) hlt (by omega)
    have hw := Lib.decode_width_pos s p hlt
    repeat' (first | ((with_reducible apply GC.seq)) | ((with_reducible apply GC.region)) | ((with_reducible apply GO.nil)) | ((with_reducible apply QS.n)) | ((with_reducible apply GC.skip)) | ((with_reducible apply GC.condT); exact rfl; (first | exact rfl | assumption)) | ((with_reducible apply GO.extract); exact rfl; exact rfl; exact rfl) | ((with_reducible apply GO.next_str); exact rfl; exact rfl; (first | exact pk0 | exact pk1 | exact pk2 | exact pk3 | exact pk4 | exact pk5); (first | omega | assumption); exact rfl))
    refine GC.block ?_
    repeat' (first | ((with_reducible apply GC.seq)) | ((with_reducible apply GC.region' [5]); exact rfl) | ((with_reducible apply GO.nil)) | ((with_reducible apply QS.n)) | ((with_reducible apply GO.assign); exact rfl; exact rfl) | ((with_reducible apply GO.extract); exact rfl; exact rfl; exact rfl))
    refine GC.join 20 (charTorn s p) [(0, .string s), (3, .int .i32 65534), (5, .int .i32 (rune s p)), (7, .pointer (some ⟨b, 0, none⟩))] ?_ ?_
    · repeat' (first | ((with_reducible apply GC.region)) | ((with_reducible apply GO.nil)) | ((with_reducible apply GO.want); exact rfl; exact rfl; (first | exact rfl | assumption)) | ((with_reducible apply GO.pass); exact rfl; exact rfl; exact rfl; exact rfl; (first | exact rfl | assumption)) | ((with_reducible apply GO.callV (f := 110) (vs := [_, _]) (caps := [])); exact rfl; exact rfl; exact rfl; exact fN; exact hasPrefix_V _ _ _) | ((with_reducible apply GO.move); exact rfl; exact rfl) | ((with_reducible apply GO.pick_t); exact rfl; exact rfl; (first | exact rfl | assumption); exact rfl) | ((with_reducible apply GO.pick_f); exact rfl; exact rfl; (first | exact rfl | assumption); exact rfl) | ((with_reducible apply GO.eql); exact rfl; exact rfl; exact rfl) | ((with_reducible apply GO.not_); exact rfl; exact rfl) | ((with_reducible apply GO.slice_str); exact rfl; exact rfl; exact rfl; exact rfl; exact fU; (exact ⟨by omega, by omega, by omega⟩)) | ((with_reducible apply GO.guard); exact rfl; exact rfl; exact rfl; exact rfl; all_goals intro _))
      all_goals (refine QJ.n rfl ⟨rfl, rfl, rfl, rfl, trivial⟩ ?_)
      all_goals (unfold charTorn rune; (try (simp only [Bool.not_true, Bool.not_false, Bool.not_eq_true', Bool.not_eq_false', Int.toNat_natCast, Int.reduceAdd] at *)); (try (simp only [*, Bool.and_true, Bool.true_and, Bool.or_true, Bool.true_or, Bool.or_false, Bool.false_or, Bool.and_false, Bool.false_and, Bool.not_true, Bool.not_false, Bool.not_not])); (try rfl))
    repeat' (first | ((with_reducible apply QS.n)))
    refine GC.cond rfl (fun hf => ?_) (fun hf => ?_)
    · repeat' (first | ((with_reducible apply GC.seq)) | ((with_reducible apply GC.region)) | ((with_reducible apply GO.nil)) | ((with_reducible apply QS.n)) | ((with_reducible apply GC.ret)) | ((with_reducible apply QS.r)) | ((with_reducible apply QB.r)) | ((with_reducible apply QL.r)) | ((with_reducible apply GO.assign); exact rfl; exact rfl))
      refine FnQ.retV rfl rfl hle ?_
      rw [← hall, hst, okA, hf]; rfl
    repeat' (first | ((with_reducible apply GC.seq)) | ((with_reducible apply QS.n)) | ((with_reducible apply GC.skip)))
    refine GC.join 45 (charBad (rune s p)) [(0, .string s), (3, .int .i32 65534), (7, .pointer (some ⟨b, 0, none⟩))] ?_ ?_
    · repeat' (first | ((with_reducible apply GC.region)) | ((with_reducible apply GO.nil)) | ((with_reducible apply GO.want); exact rfl; exact rfl; (first | exact rfl | assumption)) | ((with_reducible apply GO.passU); exact rfl; exact rfl; exact rfl; exact rfl) | ((with_reducible apply GO.pass); exact rfl; exact rfl; exact rfl; exact rfl; (first | exact rfl | assumption)) | ((with_reducible apply GO.move); exact rfl; exact rfl) | ((with_reducible apply GO.pick_t); exact rfl; exact rfl; (first | exact rfl | assumption); exact rfl) | ((with_reducible apply GO.pick_f); exact rfl; exact rfl; (first | exact rfl | assumption); exact rfl) | ((with_reducible apply GO.eql); exact rfl; exact rfl; exact rfl) | ((with_reducible apply GO.neq); exact rfl; exact rfl; exact rfl) | ((with_reducible apply GO.lss); exact rfl; exact rfl; exact rfl) | ((with_reducible apply GO.add); exact rfl; exact rfl; exact rfl; (first | exact InR.i64 (by omega) (by omega) | exact InR.u8 (by omega) (by omega) | exact InR.i32 (by omega) (by omega) | exact InR.u32 (by omega) (by omega) | exact InR.u16 (by omega) (by omega) | exact InR.u64 (by omega) (by omega))) | ((with_reducible apply GO.guard); exact rfl; exact rfl; exact rfl; exact rfl; all_goals intro _))
      all_goals (refine QJ.n rfl ⟨rfl, rfl, rfl, trivial⟩ ?_)
      all_goals ((try (simp only [Bool.not_true, Bool.not_false, Bool.not_eq_true', Bool.not_eq_false', Int.toNat_natCast, Int.reduceAdd] at *)); (try (simp only [charBad, *, Bool.and_true, Bool.true_and, Bool.or_true, Bool.true_or, Bool.or_false, Bool.false_or, Bool.and_false, Bool.false_and, Bool.not_true, Bool.not_false, Bool.not_not])); (try rfl))
    repeat' (first | ((with_reducible apply QS.n)))
    refine GC.cond rfl (fun hg => ?_) (fun hg => ?_)
    · repeat' (first | ((with_reducible apply GC.seq)) | ((with_reducible apply GC.region)) | ((with_reducible apply GO.nil)) | ((with_reducible apply QS.n)) | ((with_reducible apply GC.ret)) | ((with_reducible apply QS.r)) | ((with_reducible apply QB.r)) | ((with_reducible apply QL.r)) | ((with_reducible apply GO.assign); exact rfl; exact rfl))
      refine FnQ.retV rfl rfl hle ?_
      rw [← hall, hst, okA, hg, Bool.and_comm]; simp
    repeat' (first | ((with_reducible apply QB.n)) | ((with_reducible apply GC.skip)))
    refine QL.n hle (p + (Utf8.decode s p).2) (by omega) ⟨rfl, ?_⟩ ⟨rfl, rfl, rfl, trivial⟩ (List.Sublist.refl _)
    rw [← hall, hst, okA, hf, hg]; rfl
  · have hend := charsFrom_end (ok := okA) (n := s.size) (Nat.not_lt.1 hlt)
    repeat' (first | ((with_reducible apply GC.seq)) | ((with_reducible apply GC.region)) | ((with_reducible apply GO.nil)) | ((with_reducible apply QS.n)) | ((with_reducible apply GC.ret)) | ((with_reducible apply GC.exit)) | ((with_reducible apply QS.ex)) | ((with_reducible apply QL.ex)) | ((with_reducible apply QB.ex)) | ((with_reducible apply GC.condF); exact rfl; (first | exact rfl | assumption)) | ((with_reducible apply GO.assign); exact rfl; exact rfl) | ((with_reducible apply GO.extract); exact rfl; exact rfl; exact rfl) | ((with_reducible apply GO.next_str_end); exact rfl; exact rfl; (first | exact pk0 | exact pk1 | exact pk2 | exact pk3 | exact pk4 | exact pk5); (first | omega | assumption)))
    exact FnQ.retV rfl rfl hle (by rw [← hall, hend])
end Go.Proofs.YtajdjclhkoenfaaDoor
