/- The base of our own calculus: symbolic states of a Go activation (slots, blocks of its own, memory that stays as it is) and the rules for the forms of code. -/
import Derived.WalkKit
import Derived.WalkSpells
import Derived.WalkLawsBesides
import Derived.RangeFuncCalls
import Derived.Deep.LoopGhost
import Derived.Shelf.Abstract
namespace Go.Proofs.YtajdjclhkoenfaaDoor
open Go.RowKit

/-! ### Slots -/
abbrev Env := List (Nat × Value)
def lk : Env → Nat → Option Value
  | [], _ => none
  | (j, v) :: r, i => bif Nat.beq i j then some v else lk r i
def opE (e : Env) : Operand → Option Value
  | .tmp t => lk e t
  | .const v => some v
  | .global g => some (.pointer (some ⟨g, 0, none⟩))
  | .func f => some (.func (.func f) #[] #[])
def opsE (e : Env) : List Operand → Option (List Value)
  | [] => some []
  | x :: r => match opE e x with
    | none => none
    | some v => match opsE e r with
      | none => none
      | some vs => some (v :: vs)
structure Agree (n : Nat) (ds : List Deferred) (e : Env) (a : Act) : Prop where
  size : a.tmps.size = n
  defers : a.defers = ds
  slots : ∀ i v, lk e i = some v → a.tmps.getD i undef = v

theorem lk_cons (e : Env) (j : Nat) (v : Value) (i : Nat) : lk ((j, v) :: e) i = if i = j then some v else lk e i := by
  show (bif Nat.beq i j then some v else lk e i) = _
  by_cases h : i = j
  · subst h; simp
  · have : Nat.beq i j = false := by
      cases hb : Nat.beq i j with
      | false => rfl
      | true => exact absurd (Nat.eq_of_beq_eq_true hb) h
    simp [this, h]

theorem Agree.eval {n : Nat} {ds : List Deferred} {e : Env} {a : Act} (h : Agree n ds e a) {x : Operand} {v : Value} (hx : opE e x = some v) : a.eval x = v := by
  cases x with
  | tmp t => exact h.slots _ _ hx
  | const c => exact Option.some.inj hx
  | global g => exact Option.some.inj hx
  | func f => exact Option.some.inj hx

theorem Agree.evals {n : Nat} {ds : List Deferred} {e : Env} {a : Act} (h : Agree n ds e a) : ∀ {l : List Operand} {vs : List Value}, opsE e l = some vs → l.map a.eval = vs
  | [], vs, hx => by simp [opsE] at hx; simp [hx]
  | x :: r, vs, hx => by
    simp only [opsE] at hx
    cases h1 : opE e x with
    | none => rw [h1] at hx; cases hx
    | some v =>
      cases h2 : opsE e r with
      | none => rw [h1, h2] at hx; cases hx
      | some ws =>
        rw [h1, h2] at hx
        cases hx
        rw [List.map_cons, h.eval h1, h.evals h2]

theorem Agree.put {n : Nat} {ds : List Deferred} {e : Env} {a : Act} (h : Agree n ds e a) {d : Nat} (hd : Nat.blt d n = true) (v : Value) : Agree n ds ((d, v) :: e) (a.put (some d) v) := by
  have hdn : d < n := by simpa [Nat.blt_eq] using hd
  refine ⟨by simp [Act.put, h.size], by simp [Act.put, h.defers], fun i u hi => ?_⟩
  rw [lk_cons] at hi
  simp only [Act.put]
  by_cases hid : i = d
  · subst hid
    rw [if_pos rfl] at hi
    cases hi
    simp [Array.getD_eq_getD_getElem?, h.size, hdn]
  · rw [if_neg hid] at hi
    rw [← h.slots i u hi]
    simp [Array.getD_eq_getD_getElem?, Array.getElem?_setIfInBounds_ne (Ne.symm hid)]

/-- The slots that e' names hold in e what e' says. -/
def Sub (e' e : Env) : Prop := ∀ i v, lk e' i = some v → lk e i = some v
def SubL : Env → Env → Prop
  | [], _ => True
  | (i, v) :: r, e => lk e i = some v ∧ SubL r e
theorem SubL.sub : ∀ {e' e : Env}, SubL e' e → Sub e' e
  | [], _, _ => fun _ _ h => by simp [lk] at h
  | (j, u) :: r, e, h => fun i v hi => by
    rw [lk_cons] at hi
    by_cases hij : i = j
    · subst hij; rw [if_pos rfl] at hi; cases hi; exact h.1
    · rw [if_neg hij] at hi; exact (SubL.sub h.2) i v hi
theorem Agree.sub {n : Nat} {ds : List Deferred} {e e' : Env} {a : Act} (h : Agree n ds e a) (hs : Sub e' e) : Agree n ds e' a := ⟨h.size, h.defers, fun i v hi => h.slots i v (hs i v hi)⟩

/-! ### Memory that stays -/
abbrev Hp := Nat → Option Obj
def Hp.le (h h' : Hp) : Prop := ∀ k o, h k = some o → h' k = some o
theorem Hp.le_refl (h : Hp) : h.le h := fun _ _ x => x
theorem Hp.le_trans {a b c : Hp} (h : a.le b) (k : b.le c) : a.le c := fun i o x => k i o (h i o x)
def Hp.cell (h : Hp) (a : Addr) : Option Value :=
  match h a.block with
  | some (.cells c _ _) => if a.spot.isSome then none else c[a.off]?
  | _ => none
theorem Hp.cell_mono {h h' : Hp} (hl : h.le h') {a : Addr} {v : Value} (hc : h.cell a = some v) : h'.cell a = some v := by
  unfold Hp.cell at hc ⊢
  cases hb : h a.block with
  | none => rw [hb] at hc; cases hc
  | some o => rw [hl _ _ hb]; rw [hb] at hc; exact hc

/-! ### Blocks of one's own -/
structure Res where
  ids : List Nat
  holds : World → Prop
  loc : ∀ w w' : World, (∀ k, k ∈ ids → w'.heap[k]? = w.heap[k]?) → holds w → holds w'
def idsOf (R : List Res) : List Nat := R.flatMap (·.ids)
theorem idsOf_cons (r : Res) (R : List Res) : idsOf (r :: R) = r.ids ++ idsOf R := rfl
theorem idsOf_append (R R' : List Res) : idsOf (R ++ R') = idsOf R ++ idsOf R' := by simp [idsOf]
theorem mem_idsOf {R : List Res} {k : Nat} : k ∈ idsOf R ↔ ∃ r ∈ R, k ∈ r.ids := by simp [idsOf]

/-- What is known of a world in the middle of a call: w0: the world in which the call began; S: the blocks that were handed over for writing; h0: the memory that stays, as it was known then; h: as it is known now; R: the blocks of one's own. -/
structure Sat (w0 : World) (S : List Nat) (h0 h : Hp) (R : List Res) (w : World) : Prop where
  os : w.os = w0.os
  tape : w.tape = w0.tape
  output : w.output = w0.output
  size : w0.heap.size ≤ w.heap.size
  frame : ∀ k, k < w0.heap.size → k ∉ S → w.heap[k]? = w0.heap[k]?
  hp : ∀ k o, h k = some o → w.heap[k]? = some o
  hext : h0.le h
  hnew : ∀ k o, h k = some o → h0 k = some o ∨ w0.heap.size ≤ k ∨ k ∈ S
  res : ∀ r ∈ R, r.holds w
  nodup : (idsOf R).Nodup
  own : ∀ k ∈ idsOf R, h k = none ∧ k < w.heap.size ∧ (w0.heap.size ≤ k ∨ k ∈ S)

theorem Sat.cell {w0 : World} {S : List Nat} {h0 h : Hp} {R : List Res} {w : World} (s : Sat w0 S h0 h R w) {a : Addr} {v : Value} (hc : h.cell a = some v) : w.cell? a = some v := by
  unfold Hp.cell at hc
  unfold World.cell?
  cases hb : h a.block with
  | none => rw [hb] at hc; cases hc
  | some o => rw [s.hp _ _ hb]; rw [hb] at hc; exact hc

/-- A step that touches blocks of one's own alone, and new ones. -/
theorem Sat.step {w0 : World} {S : List Nat} {h0 h : Hp} {R R' : List Res} {w w' : World} (s : Sat w0 S h0 h R w) (T : List Nat)
    (hT : ∀ k ∈ T, k ∈ idsOf R)
    (hos : w'.os = w.os) (htape : w'.tape = w.tape) (hout : w'.output = w.output) (hsize : w.heap.size ≤ w'.heap.size)
    (hkeep : ∀ k, k < w.heap.size → k ∉ T → w'.heap[k]? = w.heap[k]?)
    (hres : ∀ r ∈ R', r.holds w') (hnodup : (idsOf R').Nodup)
    (hown : ∀ k ∈ idsOf R', k ∈ idsOf R ∨ (w.heap.size ≤ k ∧ k < w'.heap.size)) : Sat w0 S h0 h R' w' where
  os := hos.trans s.os
  tape := htape.trans s.tape
  output := hout.trans s.output
  size := Nat.le_trans s.size hsize
  frame := fun k hk hS => by
    refine (hkeep k (Nat.lt_of_lt_of_le hk s.size) fun hkT => ?_).trans (s.frame k hk hS)
    rcases (s.own k (hT k hkT)).2.2 with h1 | h1
    · omega
    · exact hS h1
  hp := fun k o hk => by
    have hw := s.hp k o hk
    have hlt : k < w.heap.size := (Array.getElem?_eq_some_iff.1 hw).1
    refine (hkeep k hlt fun hkT => ?_).trans hw
    rw [(s.own k (hT k hkT)).1] at hk
    cases hk
  hext := s.hext
  hnew := s.hnew
  res := hres
  nodup := hnodup
  own := fun k hk => by
    rcases hown k hk with h1 | ⟨h1, h2⟩
    · obtain ⟨a, b, c⟩ := s.own k h1
      exact ⟨a, Nat.lt_of_lt_of_le b hsize, c⟩
    · refine ⟨?_, h2, .inl (Nat.le_trans s.size h1)⟩
      cases hh : h k with
      | none => rfl
      | some o =>
        have := (Array.getElem?_eq_some_iff.1 (s.hp k o hh)).1
        omega

/-- Other blocks of one's own are kept by a step that does not touch them. -/
theorem Res.kept {r : Res} {w w' : World} (hr : r.holds w) (hlt : ∀ k ∈ r.ids, k < w.heap.size) {T : List Nat} (hkeep : ∀ k, k < w.heap.size → k ∉ T → w'.heap[k]? = w.heap[k]?)
    (hd : ∀ k ∈ r.ids, k ∉ T) : r.holds w' := r.loc w w' (fun k hk => hkeep k (hlt k hk) (hd k hk)) hr

theorem Sat.drew {w0 : World} {S : List Nat} {h0 h : Hp} {R : List Res} {w : World} (s : Sat w0 S h0 h R w) : Sat w0 S h0 h R w.drew :=
  s.step [] (by simp) rfl rfl rfl (Nat.le_refl _) (fun _ _ _ => rfl) (fun r hr => r.loc w _ (fun _ _ => rfl) (s.res r hr)) s.nodup (fun _ hk => .inl hk)
theorem Sat.drewN {w0 : World} {S : List Nat} {h0 h : Hp} {R : List Res} {w : World} (s : Sat w0 S h0 h R w) (n : Nat) : Sat w0 S h0 h R (w.drewN n) :=
  s.step [] (by simp) rfl rfl rfl (Nat.le_refl _) (fun _ _ _ => rfl) (fun r hr => r.loc w _ (fun _ _ => rfl) (s.res r hr)) s.nodup (fun _ hk => .inl hk)
/-- A step that touches nothing that was there. -/
theorem Sat.below {w0 : World} {S : List Nat} {h0 h : Hp} {R : List Res} {w w' : World} (s : Sat w0 S h0 h R w) (hb : Below w.heap.size w w') : Sat w0 S h0 h R w' :=
  s.step [] (by simp) hb.os hb.tape hb.output hb.size (fun k hk _ => hb.block k hk)
    (fun r hr => r.loc w _ (fun k hk => hb.block k (s.own k (mem_idsOf.2 ⟨r, hr, hk⟩)).2.1) (s.res r hr)) s.nodup (fun _ hk => .inl hk)
theorem sub_flatMap {α β : Type} {f : α → List β} {l l' : List α} (h : l'.Sublist l) : (l'.flatMap f).Sublist (l.flatMap f) := by
  induction h with
  | slnil => exact List.Sublist.slnil
  | cons a _ ih => rw [List.flatMap_cons]; exact ih.trans (List.sublist_append_right _ _)
  | cons_cons a _ ih => rw [List.flatMap_cons, List.flatMap_cons]; exact List.Sublist.append (List.Sublist.refl _) ih
/-- Resources may be dropped, or change places. -/
theorem Sat.weaken {w0 : World} {S : List Nat} {h0 h : Hp} {R R' : List Res} {w : World} (s : Sat w0 S h0 h R w) (hp : R'.Sublist R) : Sat w0 S h0 h R' w :=
  have hm : ∀ k, k ∈ idsOf R' → k ∈ idsOf R := fun k hk => by
    obtain ⟨r, hr, hk⟩ := mem_idsOf.1 hk
    exact mem_idsOf.2 ⟨r, hp.subset hr, hk⟩
  { s with res := fun r hr => s.res r (hp.subset hr), nodup := s.nodup.sublist (sub_flatMap hp), own := fun k hk => s.own k (hm k hk) }
theorem Sat.perm {w0 : World} {S : List Nat} {h0 h : Hp} {R R' : List Res} {w : World} (s : Sat w0 S h0 h R w) (hp : R'.Perm R) : Sat w0 S h0 h R' w :=
  have hm : ∀ k, k ∈ idsOf R' → k ∈ idsOf R := fun k hk => by
    obtain ⟨r, hr, hk⟩ := mem_idsOf.1 hk
    exact mem_idsOf.2 ⟨r, hp.subset hr, hk⟩
  { s with res := fun r hr => s.res r (hp.subset hr), nodup := (hp.flatMap_right _).nodup_iff.2 s.nodup, own := fun k hk => s.own k (hm k hk) }

/-! ### Code -/
structure Ctx where
  P : Program
  n : Nat
  w0 : World
  S : List Nat
  h0 : Hp
  rnd : Option Nat := none
def Ctx.F (C : Ctx) : Fence := { fn := fun _ => True, depth := none, alive := false, round := C.rnd }
abbrev Post := Exit → Env → List Res → Hp → List Deferred → Prop
def Lift (C : Ctx) (Q : Post) : Exit → Act → World → Prop := fun ex a w => ∃ e R h ds, Agree C.n ds e a ∧ Sat C.w0 C.S C.h0 h R w ∧ Q ex e R h ds
def GC (C : Ctx) (Q : Post) (c : Code) (e : Env) (R : List Res) (h : Hp) (ds : List Deferred) : Prop :=
  ∀ a w, Agree C.n ds e a → Sat C.w0 C.S C.h0 h R w → c.wpIn C.F 9 C.P (Lift C Q) a w
def GO (C : Ctx) (ops : Array Oper) (Q : Post) (l : List Oper) (e : Env) (R : List Res) (h : Hp) (ds : List Deferred) : Prop :=
  ∀ a w, Agree C.n ds e a → Sat C.w0 C.S C.h0 h R w → wpListIn C.F 9 C.P ops (Lift C Q) l a w

def QS (nxt : Env → List Res → Hp → List Deferred → Prop) (Q : Post) : Post
  | .normal => nxt
  | .exit id => Q (.exit id)
  | .goto l => Q (.goto l)
  | .ret => Q .ret
  | .panic ch => Q (.panic ch)
  | .outgrown => Q .outgrown
def QB (id : Nat) (Q : Post) : Post
  | .normal => Q .normal
  | .exit id' => bif Nat.beq id' id then Q .normal else Q (.exit id')
  | .goto l => Q (.goto l)
  | .ret => Q .ret
  | .panic ch => Q (.panic ch)
  | .outgrown => Q .outgrown

section
variable {C : Ctx} {Q : Post} {e : Env} {R : List Res} {h : Hp} {ds : List Deferred}

theorem GC.skip (k : Q .normal e R h ds) : GC C Q .skip e R h ds := fun _ _ ha hs => wpIn_skip ⟨e, R, h, ds, ha, hs, k⟩
theorem GC.ret (k : Q .ret e R h ds) : GC C Q .ret e R h ds := fun _ _ ha hs => wpIn_ret ⟨e, R, h, ds, ha, hs, k⟩
theorem GC.label {l : Nat} (k : Q .normal e R h ds) : GC C Q (.label l) e R h ds := fun _ _ ha hs => wpIn_label ⟨e, R, h, ds, ha, hs, k⟩
theorem GC.exit {id : Nat} (k : Q (.exit id) e R h ds) : GC C Q (.exit id) e R h ds := fun _ _ ha hs => wpIn_exit ⟨e, R, h, ds, ha, hs, k⟩
theorem GC.goto_ {l : Nat} (k : Q (.goto l) e R h ds) : GC C Q (.goto l) e R h ds := fun _ _ ha hs => wpIn_goto ⟨e, R, h, ds, ha, hs, k⟩
theorem GC.seq {x y : Code} (k : GC C (QS (GC C Q y) Q) x e R h ds) : GC C Q (.seq x y) e R h ds := fun a w ha hs => by
  refine wpIn_seq (wpIn_mono (k a w ha hs) ?_)
  rintro ex a' w' ⟨e', R', h', ds', ha', hs', q⟩
  cases ex with
  | normal => exact q a' w' ha' hs'
  | exit id => exact ⟨e', R', h', ds', ha', hs', q⟩
  | goto l => exact ⟨e', R', h', ds', ha', hs', q⟩
  | ret => exact ⟨e', R', h', ds', ha', hs', q⟩
  | panic ch => exact ⟨e', R', h', ds', ha', hs', q⟩
  | outgrown => exact ⟨e', R', h', ds', ha', hs', q⟩
theorem GC.cond {c : Operand} {x y : Code} {b : Bool} (hc : opE e c = some (.bool b)) (ht : b = true → GC C Q x e R h ds) (hf : b = false → GC C Q y e R h ds) : GC C Q (.cond c x y) e R h ds := fun a w ha hs =>
  wpIn_cond_split (ha.eval hc) (fun hb => ht hb a w ha hs) (fun hb => hf hb a w ha hs)
theorem GC.cond_t {c : Operand} {x y : Code} (hc : opE e c = some (.bool true)) (ht : GC C Q x e R h ds) : GC C Q (.cond c x y) e R h ds := GC.cond hc (fun _ => ht) (fun hb => by cases hb)
theorem GC.cond_f {c : Operand} {x y : Code} (hc : opE e c = some (.bool false)) (hf : GC C Q y e R h ds) : GC C Q (.cond c x y) e R h ds := GC.cond hc (fun hb => by cases hb) (fun _ => hf)
theorem GC.condT {c : Operand} {x y : Code} {b : Bool} (hc : opE e c = some (.bool b)) (hb : b = true) (ht : GC C Q x e R h ds) : GC C Q (.cond c x y) e R h ds := GC.cond hc (fun _ => ht) (fun hx => by rw [hb] at hx; cases hx)
theorem GC.condF {c : Operand} {x y : Code} {b : Bool} (hc : opE e c = some (.bool b)) (hb : b = false) (hf : GC C Q y e R h ds) : GC C Q (.cond c x y) e R h ds := GC.cond hc (fun hx => by rw [hb] at hx; cases hx) (fun _ => hf)
theorem GC.block {id : Nat} {c : Code} (k : GC C (QB id Q) c e R h ds) : GC C Q (.block id c) e R h ds := fun a w ha hs => by
  refine wpIn_block (wpIn_mono (k a w ha hs) ?_)
  rintro ex a' w' ⟨e', R', h', ds', ha', hs', q⟩
  cases ex with
  | normal => exact ⟨e', R', h', ds', ha', hs', q⟩
  | exit id' =>
    show (if id' = id then Lift C Q .normal a' w' else Lift C Q (.exit id') a' w')
    by_cases hid : id' = id
    · subst hid
      rw [if_pos rfl]
      exact ⟨e', R', h', ds', ha', hs', by simpa [QB] using q⟩
    · rw [if_neg hid]
      have hb : Nat.beq id' id = false := by
        cases hb : Nat.beq id' id with
        | false => rfl
        | true => exact absurd (Nat.eq_of_beq_eq_true hb) hid
      exact ⟨e', R', h', ds', ha', hs', by simpa [QB, hb] using q⟩
  | goto l => exact ⟨e', R', h', ds', ha', hs', q⟩
  | ret => exact ⟨e', R', h', ds', ha', hs', q⟩
  | panic ch => exact ⟨e', R', h', ds', ha', hs', q⟩
  | outgrown => exact ⟨e', R', h', ds', ha', hs', q⟩
theorem GC.region {id : Nat} {l : List Oper} (k : GO C l.toArray Q l e R h ds) : GC C Q (.region id l.toArray false) e R h ds := fun a w ha hs => wpIn_region_lit (k a w ha hs)
theorem GO.nil {ops : Array Oper} (k : Q .normal e R h ds) : GO C ops Q [] e R h ds := fun _ _ ha hs => ⟨e, R, h, ds, ha, hs, k⟩

/-- What is not wanted any more is forgotten. -/
theorem GC.sub {c : Code} {e' : Env} {R' : List Res} (hs : SubL e' e) (hR : R'.Sublist R) (k : GC C Q c e' R' h ds) : GC C Q c e R h ds := fun a w ha hw => k a w (ha.sub hs.sub) (hw.weaken hR)
theorem GC.perm {c : Code} {R' : List Res} (hR : R'.Perm R) (k : GC C Q c e R' h ds) : GC C Q c e R h ds := fun a w ha hw => k a w ha (hw.perm hR)
theorem GO.perm {ops : Array Oper} {l : List Oper} {R' : List Res} (hR : R'.Perm R) (k : GO C ops Q l e R' h ds) : GO C ops Q l e R h ds := fun a w ha hw => k a w ha (hw.perm hR)
theorem GC.mono {c : Code} {Q' : Post} (k : GC C Q c e R h ds) (hq : ∀ ex e R h ds, Q ex e R h ds → Q' ex e R h ds) : GC C Q' c e R h ds := fun a w ha hw =>
  wpIn_mono (k a w ha hw) fun _ _ _ ⟨e', R', h', ds', x, y, q⟩ => ⟨e', R', h', ds', x, y, hq _ _ _ _ _ q⟩
/-- A place where ways meet: what is known there, for all of them. -/
theorem GC.cut {c : Code} {Q' : Post} (hq : ∀ ex e R h ds, Q' ex e R h ds → Q ex e R h ds) (k : GC C Q' c e R h ds) : GC C Q c e R h ds := k.mono hq

/-- A loop: x: what the proof knows at a round's head; μ falls. -/
def QL {α : Type} (E : α → Env) (Rs : α → List Res) (Φ : α → Hp → Prop) (μ : α → Nat) (x : α) (hL : Hp) (ds : List Deferred) (Q : Post) : Post :=
  QS (fun e' R' h' ds' => ds' = ds ∧ hL.le h' ∧ ∃ x', μ x' < μ x ∧ Φ x' h' ∧ SubL (E x') e' ∧ (Rs x').Sublist R') Q
theorem wpIn_loop_ghost {F : Fence} {n : Nat} {P : Program} {Q : Exit → Act → World → Prop} {a : Act} {w : World} {c : Code} (I : Nat → Act → World → Prop) (n₀ : Nat) (h₀ : I n₀ a w)
    (round : ∀ n' a w, I n' a w → c.wpIn F n P (Exit.then (fun a' w' => ∃ n₁, n₁ < n' ∧ I n₁ a' w') Q) a w) : (Code.loop c).wpIn F n P Q a w := by
  refine wpIn_loop (fun a w => ∃ n, I n a w) (fun a w => leastOf (fun n => I n a w)) ⟨n₀, h₀⟩ ?_
  intro a w hI
  refine wpIn_mono (round _ a w (leastOf_spec hI).1) ?_
  intro e a' w' hq
  cases e with
  | normal =>
    obtain ⟨n', hlt, hI'⟩ := hq
    exact show (∃ n, I n a' w') ∧ leastOf (fun n => I n a' w') < leastOf (fun n => I n a w) from ⟨⟨n', hI'⟩, Nat.lt_of_le_of_lt ((leastOf_spec ⟨n', hI'⟩).2 n' hI') hlt⟩
  | exit id => exact hq
  | goto l => exact hq
  | ret => exact hq
  | panic ch => exact hq
  | outgrown => exact hq
theorem GC.loop {α : Type} {c : Code} (E : α → Env) (Rs : α → List Res) (Φ : α → Hp → Prop) (μ : α → Nat) (x0 : α) (h0 : Φ x0 h) (hE : SubL (E x0) e) (hR : (Rs x0).Sublist R)
    (round : ∀ x h', h.le h' → Φ x h' → GC C (QL E Rs Φ μ x h ds Q) c (E x) (Rs x) h' ds) : GC C Q (.loop c) e R h ds := fun a w ha hs => by
  refine wpIn_loop_ghost (fun m a w => ∃ x h', μ x = m ∧ h.le h' ∧ Φ x h' ∧ Agree C.n ds (E x) a ∧ Sat C.w0 C.S C.h0 h' (Rs x) w) (μ x0) ⟨x0, h, rfl, Hp.le_refl h, h0, ha.sub hE.sub, hs.weaken hR⟩ ?_
  rintro m a w ⟨x, h', rfl, hle, hx, ha, hs⟩
  refine wpIn_mono (round x h' hle hx a w ha hs) ?_
  rintro ex a' w' ⟨e', R', h'', ds', ha', hs', q⟩
  cases ex with
  | normal =>
    obtain ⟨rfl, hle2, x', hlt, hΦ, hsub, hsl⟩ := q
    exact ⟨μ x', hlt, x', h'', rfl, hle2, hΦ, ha'.sub hsub.sub, hs'.weaken hsl⟩
  | exit id => exact ⟨e', R', h'', ds', ha', hs', q⟩
  | goto l => exact ⟨e', R', h'', ds', ha', hs', q⟩
  | ret => exact ⟨e', R', h'', ds', ha', hs', q⟩
  | panic ch => exact ⟨e', R', h'', ds', ha', hs', q⟩
  | outgrown => exact ⟨e', R', h'', ds', ha', hs', q⟩
end
end Go.Proofs.YtajdjclhkoenfaaDoor
