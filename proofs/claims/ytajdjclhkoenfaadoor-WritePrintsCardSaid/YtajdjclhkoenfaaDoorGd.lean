/- Memory: blocks and rows of one's own, memory that stays, and the rules for operations on them. -/
import Derived.Test.YtajdjclhkoenfaaDoorGc
import Derived.Maps.AppendAt
set_option linter.unusedSimpArgs false
set_option linter.unusedVariables false
namespace Go.Proofs.YtajdjclhkoenfaaDoor
open Go.RowKit

/-! ### Addresses in a slice -/
def at_ (A : Option Addr) (j : Nat) : Addr := (A.getD ⟨0, 0, none⟩).add j
theorem add_add_ (a : Addr) (i j : Nat) : (a.add i).add j = a.add (i + j) := by
  unfold Addr.add
  by_cases hi : i = 0 <;> by_cases hj : j = 0 <;> simp [hi, hj, Nat.add_assoc]
theorem block_add (a : Addr) (n : Nat) : (a.add n).block = a.block := by unfold Addr.add; split <;> rfl
theorem at_add (A : Option Addr) (i j : Nat) : (at_ A i).add j = at_ A (i + j) := add_add_ _ _ _
theorem add0 (g o j : Nat) : (⟨g, o, none⟩ : Addr).add j = ⟨g, o + j, none⟩ := by unfold Addr.add; split <;> simp_all
theorem at_own (g j : Nat) : at_ (some ⟨g, 0, none⟩) j = ⟨g, j, none⟩ := by simp [at_, add0]

/-! ### Kinds of data -/
structure Kd (α : Type) where
  n : Nat
  ok : Hp → α → List Value → Prop
  mono : ∀ {h h' : Hp} {x : α} {cs : List Value}, h.le h' → ok h x cs → ok h' x cs
  len : ∀ {h : Hp} {x : α} {cs : List Value}, ok h x cs → cs.length = n
  one : ∀ {h : Hp} {x : α} {cs : List Value}, ok h x cs → ∀ u ∈ cs, u.oneCell' = true
def Flat {α : Type} (K : Kd α) (h : Hp) : List α → List Value → Prop
  | [], xs => xs = []
  | x :: l, xs => ∃ cs r, xs = cs ++ r ∧ K.ok h x cs ∧ Flat K h l r
section
variable {α : Type} {K : Kd α} {h h' : Hp}
theorem Flat.nil : Flat K h [] [] := rfl
theorem Flat.mono (hl : h.le h') : ∀ {l : List α} {xs : List Value}, Flat K h l xs → Flat K h' l xs
  | [], _, hf => hf
  | _ :: _, _, ⟨cs, r, e, ho, hr⟩ => ⟨cs, r, e, K.mono hl ho, Flat.mono hl hr⟩
theorem Flat.length : ∀ {l : List α} {xs : List Value}, Flat K h l xs → xs.length = l.length * K.n
  | [], _, hf => by cases hf; simp
  | _ :: l, _, ⟨cs, r, e, ho, hr⟩ => by rw [e, List.length_append, K.len ho, hr.length, List.length_cons, Nat.add_mul, Nat.one_mul, Nat.add_comm]
theorem Flat.append : ∀ {l l' : List α} {xs ys : List Value}, Flat K h l xs → Flat K h l' ys → Flat K h (l ++ l') (xs ++ ys)
  | [], _, _, _, hf, hg => by cases hf; exact hg
  | _ :: _, _, _, _, ⟨cs, r, e, ho, hr⟩, hg => ⟨cs, r ++ _, by rw [e, List.append_assoc], ho, hr.append hg⟩
theorem Flat.single {x : α} {cs : List Value} (ho : K.ok h x cs) : Flat K h [x] cs := ⟨cs, [], by simp, ho, rfl⟩
theorem Flat.snoc {l : List α} {x : α} {xs cs : List Value} (hf : Flat K h l xs) (ho : K.ok h x cs) : Flat K h (l ++ [x]) (xs ++ cs) := hf.append (Flat.single ho)
theorem Flat.one : ∀ {l : List α} {xs : List Value}, Flat K h l xs → ∀ u ∈ xs, u.oneCell' = true
  | [], _, hf, u, hu => by cases hf; cases hu
  | _ :: _, _, ⟨cs, r, e, ho, hr⟩, u, hu => by
    subst e
    rcases List.mem_append.1 hu with hu | hu
    · exact K.one ho u hu
    · exact hr.one u hu
theorem Flat.elem : ∀ {l : List α} {xs : List Value}, Flat K h l xs → ∀ {i : Nat} {x : α}, l[i]? = some x → ∃ cs, K.ok h x cs ∧ (xs.drop (i * K.n)).take K.n = cs
  | [], _, _, i, x, hi => by simp at hi
  | y :: l, _, ⟨cs, r, e, ho, hr⟩, 0, x, hi => by
    simp at hi; subst hi
    exact ⟨cs, ho, by subst e; rw [Nat.zero_mul, List.drop_zero, ← K.len ho, List.take_left]⟩
  | y :: l, _, ⟨cs, r, e, ho, hr⟩, i + 1, x, hi => by
    obtain ⟨cs', ho', he⟩ := hr.elem (i := i) (by simpa using hi)
    refine ⟨cs', ho', ?_⟩
    subst e
    rw [← he, Nat.add_mul, Nat.one_mul, Nat.add_comm, ← K.len ho, ← List.drop_drop, List.drop_left]
theorem Flat.at_ {l : List α} {xs : List Value} (hf : Flat K h l xs) {i : Nat} {x : α} (hi : l[i]? = some x) : ∃ cs, K.ok h x cs ∧ ∀ j u, cs[j]? = some u → xs[i * K.n + j]? = some u := by
  obtain ⟨cs, ho, he⟩ := hf.elem hi
  refine ⟨cs, ho, fun j u hu => ?_⟩
  rw [← he, List.getElem?_take] at hu
  split at hu
  · rwa [List.getElem?_drop] at hu
  · cases hu
theorem Flat.take : ∀ {l : List α} {xs : List Value} (m : Nat), Flat K h l xs → Flat K h (l.take m) (xs.take (m * K.n))
  | [], _, m, hf => by cases hf; simp [Flat]
  | _ :: _, _, 0, _ => by simp [Flat]
  | _ :: _, _, m + 1, ⟨cs, r, e, ho, hr⟩ => by
    refine ⟨cs, r.take (m * K.n), ?_, ho, hr.take m⟩
    rw [e, Nat.add_mul, Nat.one_mul, Nat.add_comm, List.take_append, K.len ho]
    simp [List.take_of_length_le (show cs.length ≤ K.n + m * K.n by rw [K.len ho]; omega)]
theorem Flat.drop : ∀ {l : List α} {xs : List Value} (m : Nat), Flat K h l xs → Flat K h (l.drop m) (xs.drop (m * K.n))
  | [], _, m, hf => by cases hf; simp [Flat]
  | _ :: _, _, 0, hf => by simpa using hf
  | _ :: _, _, m + 1, ⟨cs, r, e, ho, hr⟩ => by
    have h1 : (m + 1) * K.n = cs.length + m * K.n := by rw [K.len ho, Nat.add_mul, Nat.one_mul, Nat.add_comm]
    rw [e, h1, List.drop_append, List.drop_of_length_le (show cs.length ≤ cs.length + m * K.n by omega)]
    simpa using hr.drop m
theorem Flat.split : ∀ {l l' : List α} {xs : List Value}, Flat K h (l ++ l') xs → ∃ ys zs, xs = ys ++ zs ∧ Flat K h l ys ∧ Flat K h l' zs
  | [], _, xs, hf => ⟨[], xs, rfl, rfl, hf⟩
  | _ :: _, _, _, ⟨cs, r, e, ho, hr⟩ => by
    obtain ⟨ys, zs, e2, h1, h2⟩ := hr.split
    exact ⟨cs ++ ys, zs, by rw [e, e2, List.append_assoc], ⟨cs, ys, rfl, ho, h1⟩, h2⟩
end
/-- The slice with address A (length n) holds these cells, in memory that stays. -/
def CellsAt (h : Hp) (A : Option Addr) (xs : List Value) : Prop := (xs ≠ [] → A.isSome = true) ∧ ∀ j u, xs[j]? = some u → h.cell (at_ A j) = some u
/-- The slice '.slice A n c' reads as l, in memory that stays. -/
structure SlH {α : Type} (K : Kd α) (h : Hp) (A : Option Addr) (n c : Nat) (l : List α) : Prop where
  len : l.length = n
  cap : n ≤ c
  cells : ∃ xs, Flat K h l xs ∧ CellsAt h A xs
theorem CellsAt.mono {h h' : Hp} (hl : h.le h') {A : Option Addr} {xs : List Value} (hc : CellsAt h A xs) : CellsAt h' A xs := ⟨hc.1, fun j u hu => Hp.cell_mono hl (hc.2 j u hu)⟩
section
variable {α : Type} {K : Kd α} {h h' : Hp} {A : Option Addr} {n c : Nat} {l : List α}
theorem SlH.mono (hl : h.le h') (s : SlH K h A n c l) : SlH K h' A n c l :=
  ⟨s.len, s.cap, let ⟨xs, h1, h2⟩ := s.cells; ⟨xs, h1.mono hl, h2.mono hl⟩⟩
theorem SlH.nil : SlH K h none 0 c [] := ⟨rfl, Nat.zero_le _, [], rfl, by simp, fun j u hu => by simp at hu⟩
theorem SlH.elem (s : SlH K h A n c l) {i : Nat} {x : α} (hi : l[i]? = some x) : ∃ cs, K.ok h x cs ∧ ∀ j u, cs[j]? = some u → h.cell (at_ A (i * K.n + j)) = some u := by
  obtain ⟨xs, h1, h2⟩ := s.cells
  obtain ⟨cs, ho, he⟩ := h1.elem hi
  refine ⟨cs, ho, fun j u hu => h2.2 _ _ ?_⟩
  rw [← he, List.getElem?_take] at hu
  split at hu
  · rwa [List.getElem?_drop] at hu
  · cases hu
theorem SlH.elemAt (s : SlH K h A n c l) {i : Nat} {x : α} (hi : l[i]? = some x) : ∃ cs, K.ok h x cs ∧ ∀ j u, cs[j]? = some u → h.cell ((at_ A (i * K.n)).add j) = some u := by
  obtain ⟨cs, h1, h2⟩ := s.elem hi
  exact ⟨cs, h1, fun j u hu => by rw [at_add]; exact h2 j u hu⟩
theorem SlH.some_ (s : SlH K h A n c l) (hK : 0 < K.n) (hn : 0 < n) : A.isSome = true := by
  obtain ⟨xs, h1, h2⟩ := s.cells
  refine h2.1 fun he => ?_
  have := h1.length
  rw [he, s.len] at this
  have h3 : 0 < n * K.n := Nat.mul_pos hn hK
  simp at this
  omega
theorem SlH.take {m : Nat} (s : SlH K h A n c l) (hm : m ≤ n) : SlH K h A m c (l.take m) := by
  obtain ⟨xs, h1, h2⟩ := s.cells
  refine ⟨by rw [List.length_take, s.len]; omega, Nat.le_trans hm s.cap, _, h1.take m, fun hne => h2.1 fun he => hne (by rw [he]; simp), fun j u hu => h2.2 j u ?_⟩
  rw [List.getElem?_take] at hu
  split at hu
  · exact hu
  · cases hu
/-- The address of a slice whose first m elements are cut off. -/
def cutA (A : Option Addr) (c m sz : Nat) : Option Addr := if c = m then A else A.map (·.add (m * sz))
theorem SlH.drop {m : Nat} (s : SlH K h A n c l) (hm : m ≤ n) : SlH K h (cutA A c m K.n) (n - m) (c - m) (l.drop m) := by
  obtain ⟨xs, h1, h2⟩ := s.cells
  have hcap := s.cap
  have hlen := s.len
  by_cases hcm : c = m
  · have hl : l.drop m = [] := List.drop_eq_nil_of_le (by omega)
    rw [hl]
    exact ⟨by simp; omega, by omega, [], rfl, by simp, fun j u hu => by simp at hu⟩
  · refine ⟨by rw [List.length_drop, hlen], by omega, _, h1.drop m, ?_, ?_⟩
    · intro hne
      have := h2.1 fun he => hne (by rw [he]; simp)
      simp [cutA, hcm, this]
    · intro j u hu
      rw [List.getElem?_drop] at hu
      have hsome : A.isSome = true := h2.1 fun he => by rw [he] at hu; simp at hu
      obtain ⟨ad, rfl⟩ := Option.isSome_iff_exists.1 hsome
      have := h2.2 _ _ hu
      simpa [cutA, hcm, at_, add_add_] using this
end

theorem perm_erase {β : Type} : ∀ {l : List β} {i : Nat} (h : i < l.length), (l[i] :: l.eraseIdx i).Perm l
  | x :: l, 0, h => List.Perm.refl _
  | x :: l, i + 1, h => by
    have := perm_erase (l := l) (i := i) (by simpa using h)
    exact (List.Perm.swap _ _ _).trans (this.cons x)
theorem perm_set {β : Type} : ∀ {l : List β} {i : Nat} (h : i < l.length) (y : β), (l.set i y).Perm (y :: l.eraseIdx i)
  | x :: l, 0, h, y => List.Perm.refl _
  | x :: l, i + 1, h, y => by
    have := perm_set (l := l) (i := i) (by simpa using h) y
    exact (this.cons x).trans (List.Perm.swap _ _ _)

/-! ### Resources -/
def blk (b : Nat) (T : TypeId) (cs : List Value) : Res where
  ids := [b]
  holds := fun w => w.heap[b]? = some (.cells cs.toArray T (0, 0))
  loc := fun w w' hk hw => (hk b (by simp)).trans hw
def row (A : Option Addr) (n c : Nat) (e : TypeId) (sz : Nat) (xs : List Value) : Res where
  ids := (Value.slice A n c).ownBlock.toList
  holds := fun w => w.ownsRow 0 e sz (.slice A n c) n xs
  loc := fun w w' hk hw => by
    refine ⟨hw.1, ?_⟩
    rcases hw.2 with hn | ⟨g, cap, cur, hv, hb, hg, r⟩
    · exact .inl hn
    · refine .inr ⟨g, cap, cur, hv, hb, ?_, r⟩
      rw [hk g (by rw [hv]; simp [Value.ownBlock])]
      exact hg
def other (b : Nat) (o : Obj) : Res where
  ids := [b]
  holds := fun w => w.heap[b]? = some o
  loc := fun w w' hk hw => (hk b (by simp)).trans hw

section
variable {w0 w : World} {S : List Nat} {h0 h : Hp} {R : List Res}
/-- A new block. -/
theorem Sat.alloc (s : Sat w0 S h0 h R w) (o : Obj) : Sat w0 S h0 h (other w.heap.size o :: R) (w.alloc o) := by
  have hlt : ∀ k ∈ idsOf R, k < w.heap.size := fun k hk => (s.own k hk).2.1
  refine s.step [] (by simp) rfl rfl rfl (by simp) (fun k hk _ => Below.heap_alloc w o k hk) ?_ ?_ ?_
  · intro r hr
    rcases List.mem_cons.1 hr with rfl | hr
    · exact heap_alloc_new w o
    · exact r.loc w _ (fun k hk => Below.heap_alloc w o k (hlt k (mem_idsOf.2 ⟨r, hr, hk⟩))) (s.res r hr)
  · rw [idsOf_cons]
    refine List.nodup_append.2 ⟨by simp [other], s.nodup, fun a ha b hb e => ?_⟩
    simp [other] at ha
    subst e; subst ha
    exact absurd (hlt _ hb) (by omega)
  · intro k hk
    rw [idsOf_cons] at hk
    rcases List.mem_append.1 hk with hk | hk
    · simp [other] at hk; subst hk; exact .inr ⟨Nat.le_refl _, by simp⟩
    · exact .inl hk
/-- Some resource is put in another one's place, with the same block (or a new one). -/
theorem Sat.turn {r r' : Res} {w' : World} (s : Sat w0 S h0 h (r :: R) w) (hos : w'.os = w.os) (htape : w'.tape = w.tape) (hout : w'.output = w.output) (hsize : w.heap.size ≤ w'.heap.size)
    (hkeep : ∀ k, k < w.heap.size → k ∉ r.ids → w'.heap[k]? = w.heap[k]?) (hr : r'.holds w') (hnd : r'.ids.Nodup) (hids : ∀ k ∈ r'.ids, k ∈ r.ids ∨ (w.heap.size ≤ k ∧ k < w'.heap.size)) : Sat w0 S h0 h (r' :: R) w' := by
  have hnd0 := s.nodup
  rw [idsOf_cons] at hnd0
  obtain ⟨n1, n2, n3⟩ := List.nodup_append.1 hnd0
  have hlt : ∀ k ∈ idsOf R, k < w.heap.size := fun k hk => (s.own k (by rw [idsOf_cons]; exact List.mem_append_right _ hk)).2.1
  refine s.step r.ids (fun k hk => by rw [idsOf_cons]; exact List.mem_append_left _ hk) hos htape hout hsize hkeep ?_ ?_ ?_
  · intro q hq
    rcases List.mem_cons.1 hq with rfl | hq
    · exact hr
    · exact q.loc w _ (fun k hk => hkeep k (hlt k (mem_idsOf.2 ⟨q, hq, hk⟩)) (fun hx => n3 k hx k (mem_idsOf.2 ⟨q, hq, hk⟩) rfl)) (s.res q (List.mem_cons_of_mem _ hq))
  · rw [idsOf_cons]
    refine List.nodup_append.2 ⟨hnd, n2, fun a ha b hb e => ?_⟩
    subst e
    rcases hids a ha with h1 | h1
    · exact n3 a h1 a hb rfl
    · exact absurd (hlt a hb) (by omega)
  · intro k hk
    rw [idsOf_cons] at hk
    rcases List.mem_append.1 hk with hk | hk
    · rcases hids k hk with h1 | h1
      · exact .inl (by rw [idsOf_cons]; exact List.mem_append_left _ h1)
      · exact .inr h1
    · exact .inl (by rw [idsOf_cons]; exact List.mem_append_right _ hk)
theorem Sat.head {r : Res} (s : Sat w0 S h0 h (r :: R) w) : r.holds w := s.res r (List.mem_cons_self ..)
theorem Sat.tail {r : Res} (s : Sat w0 S h0 h (r :: R) w) : Sat w0 S h0 h R w := s.weaken (List.sublist_cons_self _ _)
/-- An empty row costs nothing. -/
theorem Sat.nilRow (s : Sat w0 S h0 h R w) (e : TypeId) (sz : Nat) : Sat w0 S h0 h (row none 0 0 e sz [] :: R) w :=
  s.step [] (by simp) rfl rfl rfl (Nat.le_refl _) (fun _ _ _ => rfl)
    (fun r hr => by
      rcases List.mem_cons.1 hr with rfl | hr
      · exact World.ownsRow_nil w 0 e sz
      · exact s.res r hr)
    (by rw [idsOf_cons]; simpa [row, Value.ownBlock] using s.nodup) (fun k hk => .inl (by rw [idsOf_cons] at hk; simpa [row, Value.ownBlock] using hk))
/-- A block of one's own becomes memory that stays. -/
def Hp.with_ (h : Hp) (k : Nat) (o : Obj) : Hp := fun i => if i = k then some o else h i
theorem Sat.give {r : Res} {k : Nat} {o : Obj} (s : Sat w0 S h0 h (r :: R) w) (hk : r.ids = [k]) (ho : w.heap[k]? = some o) : h.le (h.with_ k o) ∧ Sat w0 S h0 (h.with_ k o) R w := by
  have hown := s.own k (by rw [idsOf_cons, hk]; simp)
  have hnd := s.nodup
  rw [idsOf_cons, hk] at hnd
  have hle : h.le (h.with_ k o) := fun i x hx => by
    unfold Hp.with_
    rw [if_neg (fun e => by rw [e, hown.1] at hx; cases hx)]
    exact hx
  refine ⟨hle, { s.tail with hp := ?_, hext := Hp.le_trans s.hext hle, hnew := ?_, own := ?_ }⟩
  · intro i x hx
    unfold Hp.with_ at hx
    by_cases hi : i = k
    · subst hi; rw [if_pos rfl] at hx; cases hx; exact ho
    · rw [if_neg hi] at hx; exact s.hp i x hx
  · intro i x hx
    unfold Hp.with_ at hx
    by_cases hi : i = k
    · subst hi; exact .inr hown.2.2
    · rw [if_neg hi] at hx; exact s.hnew i x hx
  · intro i hi
    obtain ⟨a, b, c⟩ := s.tail.own i hi
    refine ⟨?_, b, c⟩
    unfold Hp.with_
    rw [if_neg (fun e => by subst e; exact (List.nodup_append.1 hnd).2.2 i (by simp) i hi rfl)]
    exact a
end

/-! ### Rules -/
section
variable {C : Ctx} {ops : Array Oper} {Q : Post} {l : List Oper} {e : Env} {R : List Res} {h : Hp} {ds : List Deferred} {d ty : Nat} {pos : String} {after : Array Edge}

theorem GO.alloc {T : TypeId} {z : Value} {cs : List Value} (hn : Nat.blt d C.n = true) (hz : ∀ w, (zeroValue T).run C.P w = .ok z w) (hc : z.cells = cs.toArray)
    (k : ∀ b, GO C ops Q l ((d, .pointer (some ⟨b, 0, none⟩)) :: e) (blk b T cs :: R) h ds) : GO C ops Q (⟨some d, .alloc T, ty, pos, after, none⟩ :: l) e R h ds :=
  GO.gen rfl rfl hn (fun _ hc => nomatch hc) fun a w ha hs =>
    ⟨.pointer (some ⟨w.heap.size, 0, none⟩), w.alloc (.cells z.cells T), _, h, by simp [execOp, Instr.alloc, hz, newVar, newRow, newObj, Sem.run], hs.alloc _, by
      have := k w.heap.size
      rw [hc]
      exact this⟩
theorem GO.box {T : TypeId} {x : Operand} {v : Value} {cs : List Value} (hn : Nat.blt d C.n = true) (hx : opE e x = some v) (hc : v.cells = cs.toArray)
    (k : ∀ b, GO C ops Q l ((d, .pointer (some ⟨b, 0, none⟩)) :: e) (blk b T cs :: R) h ds) : GO C ops Q (⟨some d, .box T x, ty, pos, after, none⟩ :: l) e R h ds :=
  GO.gen rfl rfl hn (fun _ hc => nomatch hc) fun a w ha hs =>
    ⟨.pointer (some ⟨w.heap.size, 0, none⟩), w.alloc (.cells v.cells T), _, h, by simp [execOp, ha.eval hx, Instr.box, newVar, newRow, newObj, Sem.run], hs.alloc _, by
      have := k w.heap.size
      rw [hc]
      exact this⟩
theorem GO.fieldAddr {S0 : TypeId} {x : Operand} {f off k : Nat} {ad : Addr} {fs : Array Field} {fl : Field} (hn : Nat.blt d C.n = true) (hx : opE e x = some (.pointer (some ad))) (hS : C.P.underlying S0 = some (.struct fs)) (hf : fs[f]? = some fl)
    (hsz : ∀ w, (sizeOf fl.type).run C.P w = .ok (k + 1) w) (ho : fl.offset = off) (kk : GO C ops Q l ((d, .pointer (some (ad.add off))) :: e) R h ds) :
    GO C ops Q (⟨some d, .fieldAddr S0 x f, ty, pos, after, none⟩ :: l) e R h ds :=
  GO.pure rfl rfl hn (fun _ hc => nomatch hc) (fun a w ha => by
    simp only [execOp, ha.eval hx]
    simp [Instr.fieldAt, run_underlying hS, hf, Instr.sureAddr, fieldPlace, hsz, ho]) kk
theorem GO.fieldAddr_at {S0 : TypeId} {x : Operand} {f off k j : Nat} {A : Option Addr} {fs : Array Field} {fl : Field} (hn : Nat.blt d C.n = true) (hx : opE e x = some (.pointer (some (at_ A j)))) (hS : C.P.underlying S0 = some (.struct fs)) (hf : fs[f]? = some fl)
    (hsz : ∀ w, (sizeOf fl.type).run C.P w = .ok (k + 1) w) (ho : fl.offset = off) (kk : GO C ops Q l ((d, .pointer (some (at_ A (j + off)))) :: e) R h ds) :
    GO C ops Q (⟨some d, .fieldAddr S0 x f, ty, pos, after, none⟩ :: l) e R h ds := by
  refine GO.fieldAddr hn hx hS hf hsz ho ?_
  rw [at_add]
  exact kk
def FldOk (P : Program) (S0 f off : Nat) : Prop := ∃ (fs : Array Field) (fl : Field) (k : Nat), P.underlying S0 = some (.struct fs) ∧ fs[f]? = some fl ∧ (∀ w, (sizeOf fl.type).run P w = .ok (k + 1) w) ∧ fl.offset = off
theorem GO.fld {S0 : TypeId} {x : Operand} {f off : Nat} {ad : Addr} (hn : Nat.blt d C.n = true) (hx : opE e x = some (.pointer (some ad))) (hF : FldOk C.P S0 f off) (kk : GO C ops Q l ((d, .pointer (some (ad.add off))) :: e) R h ds) :
    GO C ops Q (⟨some d, .fieldAddr S0 x f, ty, pos, after, none⟩ :: l) e R h ds :=
  have ⟨_, _, _, h1, h2, h3, h4⟩ := hF
  GO.fieldAddr hn hx h1 h2 h3 h4 kk
theorem GO.fld_at {S0 : TypeId} {x : Operand} {f off j : Nat} {A : Option Addr} (hn : Nat.blt d C.n = true) (hx : opE e x = some (.pointer (some (at_ A j)))) (hF : FldOk C.P S0 f off) (kk : GO C ops Q l ((d, .pointer (some (at_ A (j + off)))) :: e) R h ds) :
    GO C ops Q (⟨some d, .fieldAddr S0 x f, ty, pos, after, none⟩ :: l) e R h ds :=
  have ⟨_, _, _, h1, h2, h3, h4⟩ := hF
  GO.fieldAddr_at hn hx h1 h2 h3 h4 kk
theorem pk0 {α : Type} {a : α} {R : List α} : (a :: R)[0]? = some a := rfl
theorem pk1 {α : Type} {a b : α} {R : List α} : (b :: a :: R)[1]? = some a := rfl
theorem pk2 {α : Type} {a b c : α} {R : List α} : (b :: c :: a :: R)[2]? = some a := rfl
theorem pk3 {α : Type} {a b c d : α} {R : List α} : (b :: c :: d :: a :: R)[3]? = some a := rfl
theorem pk4 {α : Type} {a b c d x : α} {R : List α} : (b :: c :: d :: x :: a :: R)[4]? = some a := rfl
theorem pk5 {α : Type} {a b c d x y : α} {R : List α} : (b :: c :: d :: x :: y :: a :: R)[5]? = some a := rfl
theorem GO.indexAddr {T E : TypeId} {x i : Operand} {A : Option Addr} {n c sz k : Nat} {kd : IntKind} {z : Int} (hn : Nat.blt d C.n = true) (hx : opE e x = some (.slice A n c)) (hi : opE e i = some (.int kd z)) (hz : z = (k : Int))
    (hT : C.P.underlying T = some (.slice E)) (hE : ∀ w, (sizeOf E).run C.P w = .ok sz w) (hA : A.isSome = true) (hk : k < n) (kk : GO C ops Q l ((d, .pointer (some (at_ A (k * sz)))) :: e) R h ds) :
    GO C ops Q (⟨some d, .indexAddr T x i, ty, pos, after, none⟩ :: l) e R h ds :=
  GO.pure rfl rfl hn (fun _ hc => nomatch hc) (fun a w ha => by
    obtain ⟨ad, rfl⟩ := Option.isSome_iff_exists.1 hA
    subst hz
    simp only [execOp, ha.eval hx, ha.eval hi]
    simp [Instr.indexAt, run_underlying hT, asIntOf, hE, hk, at_]) kk

theorem own_some {w : World} {e : TypeId} {sz n c : Nat} {A : Option Addr} {xs : List Value} (hw : w.ownsRow 0 e sz (.slice A n c) n xs) (hn : 0 < n) : A.isSome = true := by
  rcases hw.2 with ⟨h1, h2⟩ | ⟨g, cap, cur, h1, _⟩
  · omega
  · injection h1 with h1; subst h1; rfl
theorem GO.indexAddr_r {j : Nat} {T E E' : TypeId} {x i : Operand} {A : Option Addr} {n c sz sz' k : Nat} {kd : IntKind} {z : Int} {xs : List Value} (hn : Nat.blt d C.n = true) (hx : opE e x = some (.slice A n c)) (hi : opE e i = some (.int kd z)) (hz : z = (k : Int))
    (hT : C.P.underlying T = some (.slice E)) (hE : ∀ w, (sizeOf E).run C.P w = .ok sz w) (hr : R[j]? = some (row A n c E' sz' xs)) (hk : k < n) (kk : GO C ops Q l ((d, .pointer (some (at_ A (k * sz)))) :: e) R h ds) :
    GO C ops Q (⟨some d, .indexAddr T x i, ty, pos, after, none⟩ :: l) e R h ds := fun a w ha hs => by
  have hw : w.ownsRow 0 E' sz' (.slice A n c) n xs := hs.res _ (List.mem_of_getElem? hr)
  exact GO.indexAddr hn hx hi hz hT hE (own_some hw (by omega)) hk kk a w ha hs

/-! loads -/
theorem GO.load_h {T : TypeId} {x : Operand} {ad : Addr} {v : Value} (hn : Nat.blt d C.n = true) (hx : opE e x = some (.pointer (some ad))) (hg : ∀ w, (isAgg T).run C.P w = .ok false w) (hc : h.cell ad = some v)
    (k : GO C ops Q l ((d, v) :: e) R h ds) : GO C ops Q (⟨some d, .load T x, ty, pos, after, none⟩ :: l) e R h ds :=
  GO.gen rfl rfl hn (fun _ hc => nomatch hc) fun a w ha hs =>
    ⟨v, w, R, h, by
      simp only [execOp, ha.eval hx]
      simp [Instr.loadAt, Instr.sureAddr, loadVar, hg, load, Sem.run, hs.cell hc], hs, k⟩
theorem GO.load_hA {T : TypeId} {m : Nat} {x : Operand} {ad : Addr} {vs : List Value} (hn : Nat.blt d C.n = true) (hx : opE e x = some (.pointer (some ad))) (hg : ∀ w, (isAgg T).run C.P w = .ok true w) (hsz : ∀ w, (sizeOf T).run C.P w = .ok m w)
    (hc : ∀ j u, vs[j]? = some u → h.cell (ad.add j) = some u) (hm : vs.length = m) (k : GO C ops Q l ((d, .agg vs.toArray) :: e) R h ds) : GO C ops Q (⟨some d, .load T x, ty, pos, after, none⟩ :: l) e R h ds :=
  GO.gen rfl rfl hn (fun _ hc => nomatch hc) fun a w ha hs =>
    ⟨_, w, R, h, by
      simp only [execOp, ha.eval hx]
      simp [Instr.loadAt, Instr.sureAddr, loadVar, hg, hsz, ← hm, run_loadCells_list w ad vs (fun j u hu => hs.cell (hc j u hu))], hs, k⟩
theorem cell_blk {w : World} {b : Nat} {T : TypeId} {cs : List Value} (hw : w.heap[b]? = some (.cells cs.toArray T (0, 0))) (j : Nat) : w.cell? ⟨b, j, none⟩ = cs[j]? := by
  rw [cell_of_row w b j cs.toArray T (0, 0) hw]; simp
theorem GO.load_b {i : Nat} {T T' : TypeId} {x : Operand} {b off : Nat} {cs : List Value} {v : Value} (hn : Nat.blt d C.n = true) (hx : opE e x = some (.pointer (some ⟨b, off, none⟩))) (hg : ∀ w, (isAgg T).run C.P w = .ok false w)
    (hr : R[i]? = some (blk b T' cs)) (hv : cs[off]? = some v) (k : GO C ops Q l ((d, v) :: e) R h ds) : GO C ops Q (⟨some d, .load T x, ty, pos, after, none⟩ :: l) e R h ds :=
  GO.gen rfl rfl hn (fun _ hc => nomatch hc) fun a w ha hs =>
    ⟨v, w, R, h, by
      have hw : w.heap[b]? = some (.cells cs.toArray T' (0, 0)) := hs.res _ (List.mem_of_getElem? hr)
      have h1 : w.cell? ⟨b, off, none⟩ = some v := (cell_blk hw off).trans hv
      simp only [execOp, ha.eval hx]
      simp [Instr.loadAt, Instr.sureAddr, loadVar, hg, load, Sem.run, h1], hs, k⟩
theorem GO.load_bA {i m : Nat} {T T' : TypeId} {x : Operand} {b off : Nat} {cs vs : List Value} (hn : Nat.blt d C.n = true) (hx : opE e x = some (.pointer (some ⟨b, off, none⟩))) (hg : ∀ w, (isAgg T).run C.P w = .ok true w)
    (hsz : ∀ w, (sizeOf T).run C.P w = .ok m w) (hr : R[i]? = some (blk b T' cs)) (hv : (cs.drop off).take m = vs) (hm : vs.length = m) (k : GO C ops Q l ((d, .agg vs.toArray) :: e) R h ds) : GO C ops Q (⟨some d, .load T x, ty, pos, after, none⟩ :: l) e R h ds :=
  GO.gen rfl rfl hn (fun _ hc => nomatch hc) fun a w ha hs =>
    ⟨_, w, R, h, by
      have hw : w.heap[b]? = some (.cells cs.toArray T' (0, 0)) := hs.res _ (List.mem_of_getElem? hr)
      have h1 : ∀ j u, vs[j]? = some u → w.cell? ((⟨b, off, none⟩ : Addr).add j) = some u := fun j u hu => by
        rw [add0, cell_blk hw]
        rw [← hv, List.getElem?_take] at hu
        split at hu
        · rwa [List.getElem?_drop] at hu
        · cases hu
      subst hm
      simp only [execOp, ha.eval hx]
      simp [Instr.loadAt, Instr.sureAddr, loadVar, hg, hsz, run_loadCells_list w _ vs h1], hs, k⟩
/-- A cell of a row of one's own. -/
theorem GO.load_r {i j : Nat} {T E : TypeId} {x : Operand} {A : Option Addr} {n c sz : Nat} {xs : List Value} {v : Value} (hn : Nat.blt d C.n = true) (hx : opE e x = some (.pointer (some (at_ A j)))) (hg : ∀ w, (isAgg T).run C.P w = .ok false w)
    (hr : R[i]? = some (row A n c E sz xs)) (hv : xs[j]? = some v) (k : GO C ops Q l ((d, v) :: e) R h ds) : GO C ops Q (⟨some d, .load T x, ty, pos, after, none⟩ :: l) e R h ds :=
  GO.gen rfl rfl hn (fun _ hc => nomatch hc) fun a w ha hs =>
    ⟨v, w, R, h, by
      have hw : w.ownsRow 0 E sz (.slice A n c) n xs := hs.res _ (List.mem_of_getElem? hr)
      have h1 : w.cell? (at_ A j) = some v := by
        rcases hw.2 with ⟨h1, h2⟩ | ⟨g, cap, cur, h1, _⟩
        · have := hw.1; rw [h2, Nat.zero_mul] at this; rw [List.eq_nil_of_length_eq_zero this] at hv; simp at hv
        · injection h1 with h1 _ _
          subst h1
          exact hw.cells (g := g) rfl j v hv
      simp only [execOp, ha.eval hx]
      simp [Instr.loadAt, Instr.sureAddr, loadVar, hg, load, Sem.run, h1], hs, k⟩

/-! stores -/
def setAt (cs : List Value) (off : Nat) (vs : List Value) : List Value := cs.take off ++ vs ++ cs.drop (off + vs.length)
theorem run_storeVar_at {P : Program} {w : World} {T T' : TypeId} {b off m : Nat} {cs : List Value} {v : Value} {vs : List Value} (hw : w.heap[b]? = some (.cells cs.toArray T' (0, 0)))
    (hsz : (sizeOf T).run P w = .ok m w) (hv : v.cells = vs.toArray) (hm : vs.length = m) (hfit : off + m ≤ cs.length) (h1 : ∀ u ∈ vs, u.oneCell' = true) :
    (storeVar T ⟨b, off, none⟩ v).run P w = .ok () (w.setRow b (setAt cs off vs).toArray) := by
  have h2 : ¬ v.cells.size ≠ m := by rw [hv]; simp [hm]
  have h3 := run_storeCells_at P b off T' vs 0 cs.toArray w hw (by simp; omega) h1
  simp only [Nat.add_zero] at h3
  have h4 : v.cells.toList = vs := by rw [hv]
  simp only [storeVar, Sem.run_bind, hsz, Result.andThen_ok]
  rw [if_neg h2]
  simp only [Sem.run_pure, Sem.run_bind, Result.andThen_ok, h4, h3]
  rfl
theorem GO.store_b {i m : Nat} {T T' : TypeId} {x y : Operand} {b off : Nat} {cs vs : List Value} {v : Value} (hx : opE e x = some (.pointer (some ⟨b, off, none⟩))) (hy : opE e y = some v)
    (hsz : ∀ w, (sizeOf T).run C.P w = .ok m w) (hr : R[i]? = some (blk b T' cs)) (hv : v.cells = vs.toArray) (hm : vs.length = m) (hfit : Nat.ble (off + m) cs.length = true) (h1 : vs.all (·.oneCell') = true) {R' : List Res} (hR : R.set i (blk b T' (setAt cs off vs)) = R')
    (k : GO C ops Q l e R' h ds) : GO C ops Q (⟨none, .store T x y, ty, pos, after, none⟩ :: l) e R h ds :=
  GO.skipOp rfl rfl (fun _ hc => nomatch hc) fun a w ha hs => by
    have hi := (List.getElem?_eq_some_iff.1 hr).1
    have hfit' : off + m ≤ cs.length := by simpa using hfit
    have hw : w.heap[b]? = some (.cells cs.toArray T' (0, 0)) := hs.res _ (List.mem_of_getElem? hr)
    have hrun := run_storeVar_at (P := C.P) hw (hsz w) hv hm hfit' (fun u hu => List.all_eq_true.1 h1 u hu)
    refine ⟨w.setRow b (setAt cs off vs).toArray, R', h, ?_, ?_, k⟩
    · simp only [execOp, ha.eval hx, ha.eval hy]
      simp [Instr.storeAt, Instr.sureAddr, hrun]
    · have hp : (blk b T' cs :: R.eraseIdx i).Perm R := by
        have h2 : R[i] = blk b T' cs := (List.getElem?_eq_some_iff.1 hr).2
        rw [← h2]
        exact (perm_erase hi)
      have hs2 := (hs.perm hp).turn (r' := blk b T' (setAt cs off vs)) (w' := w.setRow b (setAt cs off vs).toArray) rfl rfl rfl (by simp) (fun k _ hk => setRow_other w b k _ (fun e => hk (by simp [blk, e])))
        (setRow_heap w b cs.toArray _ T' (0, 0) hw) (by simp [blk]) (fun k hk => .inl hk)
      refine hs2.perm ?_
      rw [← hR]
      refine (perm_set hi _)
theorem GO.store_r {i j m : Nat} {T E : TypeId} {x y : Operand} {A : Option Addr} {n c sz : Nat} {xs vs : List Value} {v : Value} (hx : opE e x = some (.pointer (some (at_ A j)))) (hy : opE e y = some v)
    (hsz : ∀ w, (sizeOf T).run C.P w = .ok m w) (hr : R[i]? = some (row A n c E sz xs)) (hv : v.cells = vs.toArray) (hm : vs.length = m) (hfit : j + m ≤ xs.length) (h1 : vs.all (·.oneCell') = true) (hm0 : 0 < m)
    (k : GO C ops Q l e (R.set i (row A n c E sz (setAt xs j vs))) h ds) : GO C ops Q (⟨none, .store T x y, ty, pos, after, none⟩ :: l) e R h ds :=
  GO.skipOp rfl rfl (fun _ hc => nomatch hc) fun a w ha hs => by
    have hi := (List.getElem?_eq_some_iff.1 hr).1
    have hw : w.ownsRow 0 E sz (.slice A n c) n xs := hs.res _ (List.mem_of_getElem? hr)
    rcases hw.2 with ⟨h1, h2⟩ | ⟨g, cap, cur, he, hb, hg, hnc, hcm, hcs, htake⟩
    · exfalso
      have := hw.1; rw [h2, Nat.zero_mul] at this; omega
    · injection he with he1 _ he3
      subst he1
      subst he3
      have hlen := hw.1
      have hfit' : j + m ≤ cur.toList.length := by
        rw [Array.length_toList, hcs]
        have : n * sz ≤ c * sz := Nat.mul_le_mul_right _ hnc
        omega
      have hrun := run_storeVar_at (P := C.P) (cs := cur.toList) (off := j) (by simpa using hg) (hsz w) hv hm hfit' (fun u hu => List.all_eq_true.1 h1 u hu)
      have hat : at_ (some ⟨g, 0, none⟩) j = ⟨g, j, none⟩ := at_own g j
      refine ⟨w.setRow g (setAt cur.toList j vs).toArray, _, h, ?_, ?_, k⟩
      · simp only [execOp, ha.eval hx, ha.eval hy, hat]
        simp [Instr.storeAt, Instr.sureAddr, hrun]
      · have hp : (row (some ⟨g, 0, none⟩) n c E sz xs :: R.eraseIdx i).Perm R := by
          have h2 : R[i] = row (some ⟨g, 0, none⟩) n c E sz xs := (List.getElem?_eq_some_iff.1 hr).2
          rw [← h2]
          exact (perm_erase hi)
        have hlen2 : (setAt cur.toList j vs).length = cur.toList.length := by simp [setAt]; rw [hm]; simp at hfit'; omega
        have htk : (setAt cur.toList j vs).take (n * sz) = setAt xs j vs := by
          have hxs : xs = cur.toList.take (n * sz) := htake.symm
          apply List.ext_getElem?
          intro q
          simp only [setAt, List.append_assoc, List.getElem?_take, List.getElem?_append, List.length_take, List.getElem?_drop]
          rw [hxs]
          simp only [List.getElem?_take, List.length_take, List.getElem?_append, List.getElem?_drop]
          have h5 : j ≤ cur.toList.length := by omega
          have h6 : j + m ≤ n * sz := by omega
          have h7 : n * sz ≤ cur.toList.length := by rw [Array.length_toList, hcs]; exact Nat.mul_le_mul_right _ hnc
          rw [hm]
          simp only [Nat.min_eq_left h5, Nat.min_eq_left h7, Nat.min_eq_left (show j ≤ n * sz by omega)]
          by_cases c1 : q < j
          · simp [c1, show q < n * sz by omega]
          · by_cases c2 : q - j < m
            · simp [c1, c2, show q < n * sz by omega, hm]
            · by_cases c3 : q < n * sz
              · simp [c1, c2, c3, hm, show j + m + (q - j - m) = q by omega]
              · simp [c1, c2, c3, hm, show j + m + (q - j - m) = q by omega]
        have hs2 := (hs.perm hp).turn (r' := row (some ⟨g, 0, none⟩) n c E sz (setAt xs j vs)) (w' := w.setRow g (setAt cur.toList j vs).toArray) rfl rfl rfl (by simp) (fun k _ hk => setRow_other w g k _ (fun e => hk (by simp [row, Value.ownBlock, e])))
          ⟨by rw [← htk, List.length_take, hlen2, Array.length_toList, hcs, Nat.min_eq_left (Nat.mul_le_mul_right _ hnc)], .inr ⟨g, c, _, rfl, hb, setRow_heap w g cur _ E (0, 0) hg, hnc, hcm, by simp only [List.size_toArray, hlen2, Array.length_toList, hcs], by simpa using htk⟩⟩
          (by simp [row, Value.ownBlock]) (fun k hk => .inl hk)
        exact hs2.perm (perm_set hi _)
end
end Go.Proofs.YtajdjclhkoenfaaDoor
