/- Plain laws: the program's look at a token and the reference's are one. -/
import Derived.Lib.ValidAsc
import Derived.Lib.MapLaws
import Derived.Test.YtajdjclhkoenfaaDoorWh
set_option linter.unusedSimpArgs false
set_option linter.unusedVariables false
namespace Go.Proofs.YtajdjclhkoenfaaDoor
open Go.RowKit

theorem take_prefix {l q : List UInt8} {n : Nat} (h : l.take n = q) : Lib.hasPrefix l q = true := by
  unfold Lib.hasPrefix
  rw [List.isPrefixOf_iff_prefix, ← h]
  exact List.take_prefix n l
theorem fffd_decode {l : List UInt8} (h : Lib.hasPrefix l fffd = true) : Lib.decodeL l = (65533, 3) := by
  unfold Lib.hasPrefix at h
  rw [List.isPrefixOf_iff_prefix] at h
  obtain ⟨t, rfl⟩ := h
  rw [Lib.decodeL_N]
  simp only [fffd, List.cons_append, List.nil_append, List.length_cons, List.getD_cons_zero, List.getD_cons_succ]
  unfold Lib.decodeN
  simp
theorem torn_eq (s : ByteArray) (p : Nat) (hp : p < s.size) : charTorn s p = decide ((Lib.decodeL (s.data.toList.drop p)).1 = 65533 ∧ (Lib.decodeL (s.data.toList.drop p)).2 = 1) := by
  have hl : s.data.toList.length = s.size := (Lib.size_eq s).symm
  have hne : s.data.toList.drop p ≠ [] := fun h0 => by have := List.drop_eq_nil_iff.1 h0; omega
  have hx : (s.extract p s.size).data.toList = s.data.toList.drop p := Lib.ext_list s p
  have hr : rune s p = ((Lib.decodeL (s.data.toList.drop p)).1 : Nat) := by rw [Lib.decodeL_drop]; rfl
  unfold charTorn
  rw [hx, hr]
  generalize s.data.toList.drop p = l at *
  by_cases h1 : (Lib.decodeL l).1 = 65533
  · by_cases h2 : (Lib.decodeL l).2 = 1
    · have hn : Lib.hasPrefix l fffd = false := by
        cases hq : Lib.hasPrefix l fffd with
        | false => rfl
        | true => rw [fffd_decode hq] at h2; simp at h2
      rw [hn, h1, h2]; rfl
    · have he := Lib.encode_decode l hne (fun h => h2 h.2)
      have hq : Lib.hasPrefix l fffd = true := take_prefix (by rw [← he, h1]; decide)
      have hd : decide ((Lib.decodeL l).1 = 65533 ∧ (Lib.decodeL l).2 = 1) = false := decide_eq_false (fun h => h2 h.2)
      rw [hq, hd]
      simp
  · have hd : decide (((Lib.decodeL l).1 : Nat) = (65533 : Int)) = false := decide_eq_false (fun h => h1 (by omega))
    have hd2 : decide ((Lib.decodeL l).1 = 65533 ∧ (Lib.decodeL l).2 = 1) = false := decide_eq_false (fun h => h1 h.1)
    rw [hd, hd2]
    rfl
theorem chars_eq (s : ByteArray) : charsR s = charsA s := by
  have hl : s.data.toList.length = s.size := (Lib.size_eq s).symm
  have key : ∀ (n p : Nat), s.size ≤ p + n → (Lib.validD (s.data.toList.drop p) && charsFrom okB s n p) = charsFrom okA s n p := by
    intro n
    induction n with
    | zero =>
      intro p hp
      rw [List.drop_of_length_le (by omega)]
      rfl
    | succ n ih =>
      intro p hp
      by_cases hlt : p < s.size
      · have hw := Lib.decode_width_pos s p hlt
        have hne : s.data.toList.drop p ≠ [] := fun h0 => by have := List.drop_eq_nil_iff.1 h0; omega
        rw [charsFrom, charsFrom, if_pos hlt, if_pos hlt, ← ih _ (by omega), okA, okB, torn_eq s p hlt, Lib.validD_step _ hne, List.drop_drop]
        have hd2 := Lib.decodeL_drop s p
        by_cases ht : (Lib.decodeL (s.data.toList.drop p)).1 = 65533 ∧ (Lib.decodeL (s.data.toList.drop p)).2 = 1
        · rw [if_pos ht, decide_eq_true ht]; rfl
        · rw [if_neg ht, decide_eq_false ht, hd2]
          cases charBad (rune s p) <;> simp
      · rw [charsFrom_end (by omega), charsFrom_end (by omega), List.drop_of_length_le (by omega)]; rfl
  exact key s.size 0 (by omega)
theorem small_eq (s : ByteArray) : smallR s = fitsA s := by rw [smallR, fitsA, chars_eq]
theorem attrs_eq : ∀ (l : List Attr) (seen : List ByteArray), seen.length ≤ 8 → attrsOk seen l = (decide (seen.length + l.length ≤ 8) && attrsR seen l)
  | [], seen, hs => by simp [attrsOk, attrsR, hs]
  | a :: r, seen, hs => by
    rw [attrsOk, attrsR, small_eq]
    by_cases h8 : seen.length = 8
    · have h1 : decide (8 ≤ (seen.length : Int)) = true := decide_eq_true (by omega)
      have h2 : decide (seen.length + (a :: r).length ≤ 8) = false := decide_eq_false (by simp; omega)
      rw [h1, h2]; simp
    · have h1 : decide (8 ≤ (seen.length : Int)) = false := decide_eq_false (by omega)
      rw [attrs_eq r (seen ++ [a.name]) (by simp; omega), h1]
      have h3 : (seen ++ [a.name]).length + r.length = seen.length + (a :: r).length := by simp; omega
      rw [h3]
      cases (seen.any fun k => decide (k = a.name)) <;> cases nameB a.name <;> cases fitsA a.value <;> simp
theorem one_eq (t : Tok) : oneR t = rightA t := by
  unfold oneR rightA
  by_cases k1 : t.kind = 1
  · rw [if_pos k1, if_neg (by omega), if_neg (by omega), if_pos k1, attrs_eq t.attrs [] (by simp)]
    have h3 : decide (([] : List ByteArray).length + t.attrs.length ≤ 8) = !decide (8 < (t.attrs.length : Int)) := by
      by_cases h : t.attrs.length ≤ 8
      · rw [decide_eq_true (by simpa using h), decide_eq_false (by omega)]; rfl
      · rw [decide_eq_false (by simpa using h), decide_eq_true (by omega)]; rfl
    rw [h3]
    cases nameB t.name <;> cases decide (t.text = emptyS) <;> cases decide (8 < (t.attrs.length : Int)) <;> cases attrsR [] t.attrs <;> rfl
  · rw [if_neg k1]
    by_cases k2 : t.kind = 2
    · rw [if_pos k2, if_neg (by omega), if_pos k2]
    · rw [if_neg k2, if_neg k2, small_eq, if_neg k1]
end Go.Proofs.YtajdjclhkoenfaaDoor
