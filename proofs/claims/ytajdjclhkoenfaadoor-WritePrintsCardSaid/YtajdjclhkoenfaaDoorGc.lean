/- Contracts of functions, and the rule for a call. -/
import Derived.Test.YtajdjclhkoenfaaDoorGb
set_option linter.unusedSimpArgs false
set_option linter.unusedVariables false
namespace Go.Proofs.YtajdjclhkoenfaaDoor
open Go.RowKit

/-- The call, begun where 'h' stays and Rin is handed over for writing, ends so. -/
def CallsH (P : Program) (f : FuncId) (args : Array Value) (h : Hp) (Rin : List Res) (Rp : Ending → Hp → List Res → Prop) : Prop :=
  ∀ w, Sat w (idsOf Rin) h h Rin w → Calls P f args w fun e w' => ∃ h' R', Sat w (idsOf Rin) h h' R' w' ∧ Rp e h' R'
/-- A call that hands back a value that is known, and leaves nothing behind. -/
def IsV (h : Hp) (v : Value) : Ending → Hp → List Res → Prop := fun e h' R' => e = .returned v ∧ h' = h ∧ R' = []
def CallsV (P : Program) (f : FuncId) (args : Array Value) (h : Hp) (v : Value) : Prop := CallsH P f args h [] (IsV h v)

theorem CallsH.mono {P : Program} {f : FuncId} {args : Array Value} {h : Hp} {Rin : List Res} {Rp Rp' : Ending → Hp → List Res → Prop} (c : CallsH P f args h Rin Rp) (hm : ∀ e h' R', h.le h' → Rp e h' R' → Rp' e h' R') : CallsH P f args h Rin Rp' :=
  fun w hw => (c w hw).mono fun e w' ⟨h', R', hs, hr⟩ => ⟨h', R', hs, hm _ _ _ hs.hext hr⟩

theorem Sat.shrink {w0 : World} {S : List Nat} {h0 h h' : Hp} {R : List Res} {w : World} (s : Sat w0 S h0 h R w) (h1 : h0.le h') (h2 : h'.le h) : Sat w0 S h0 h' R w :=
  { s with
    hp := fun k o hk => s.hp k o (h2 k o hk)
    hext := h1
    hnew := fun k o hk => by
      rcases s.hnew k o (h2 k o hk) with hx | hx
      · exact .inl hx
      · exact .inr hx
    own := fun k hk => by
      obtain ⟨a, b, c⟩ := s.own k hk
      refine ⟨?_, b, c⟩
      cases hh : h' k with
      | none => rfl
      | some o => rw [h2 _ _ hh] at a; cases a }

/-- Ways meet: slot d holds β, and ek still holds. -/
def QJ (d : Nat) (β : Bool) (ek : Env) (R : List Res) (h : Hp) (ds : List Deferred) : Post := fun ex e1 R1 h1 ds1 => ex = .normal ∧ (∃ b, lk e1 d = some (.bool b) ∧ b = β) ∧ SubL ek e1 ∧ R1 = R ∧ h1 = h ∧ ds1 = ds
theorem QJ.n {d : Nat} {β b : Bool} {ek e1 : Env} {R : List Res} {h : Hp} {ds : List Deferred} (hd : lk e1 d = some (.bool b)) (hs : SubL ek e1) (hb : b = β) : QJ d β ek R h ds .normal e1 R h ds := ⟨rfl, ⟨b, hd, hb⟩, hs, rfl, rfl, rfl⟩
theorem GC.join {C : Ctx} {Q : Post} {c : Code} {e : Env} {R : List Res} {h : Hp} {ds : List Deferred} (d : Nat) (β : Bool) (ek : Env) (k1 : GC C (QJ d β ek R h ds) c e R h ds) (k2 : Q .normal ((d, .bool β) :: ek) R h ds) : GC C Q c e R h ds := fun a w ha hs =>
  wpIn_mono (k1 a w ha hs) fun ex a' w' ⟨e1, R1, h1, ds1, x, y, q⟩ => by
    obtain ⟨rfl, ⟨b, hd, rfl⟩, hsub, rfl, rfl, rfl⟩ := q
    exact ⟨_, R1, h1, ds1, x.sub (e' := (d, .bool b) :: ek) (SubL.sub ⟨hd, hsub⟩), y, k2⟩
/-- Ways meet: ek still holds. -/
def QK (ek : Env) (R : List Res) (h : Hp) (ds : List Deferred) : Post := fun ex e1 R1 h1 ds1 => ex = .normal ∧ SubL ek e1 ∧ R1 = R ∧ h1 = h ∧ ds1 = ds
theorem QK.n {ek e1 : Env} {R : List Res} {h : Hp} {ds : List Deferred} (hs : SubL ek e1) : QK ek R h ds .normal e1 R h ds := ⟨rfl, hs, rfl, rfl, rfl⟩
theorem GC.meet {C : Ctx} {Q : Post} {c : Code} {e : Env} {R : List Res} {h : Hp} {ds : List Deferred} (ek : Env) (k1 : GC C (QK ek R h ds) c e R h ds) (k2 : Q .normal ek R h ds) : GC C Q c e R h ds := fun a w ha hs =>
  wpIn_mono (k1 a w ha hs) fun ex a' w' ⟨e1, R1, h1, ds1, x, y, q⟩ => by
    obtain ⟨rfl, hsub, rfl, rfl, rfl⟩ := q
    exact ⟨_, R1, h1, ds1, x.sub hsub.sub, y, k2⟩
/-- Ways meet in one of many states: x: what the proof knows there. -/
def QX {α : Type} (E : α → Env) (Rs : α → List Res) (Φ : α → Hp → Prop) (h : Hp) (ds : List Deferred) (Q : Post) : Post :=
  QS (fun e' R' h' ds' => ds' = ds ∧ h.le h' ∧ ∃ x, Φ x h' ∧ SubL (E x) e' ∧ (Rs x).Sublist R') Q
section
variable {α : Type} {E : α → Env} {Rs : α → List Res} {Φ : α → Hp → Prop} {h h' : Hp} {ds : List Deferred} {Q : Post} {e' : Env} {R' : List Res}
theorem QX.n (hle : h.le h') (x : α) (hΦ : Φ x h') (hE : SubL (E x) e') (hR : (Rs x).Sublist R') : QX E Rs Φ h ds Q .normal e' R' h' ds := ⟨rfl, hle, x, hΦ, hE, hR⟩
theorem QX.r (k : Q .ret e' R' h' ds) : QX E Rs Φ h ds Q .ret e' R' h' ds := k
theorem QX.ex {id : Nat} (k : Q (.exit id) e' R' h' ds) : QX E Rs Φ h ds Q (.exit id) e' R' h' ds := k
theorem QX.g {id : Nat} (k : Q (.goto id) e' R' h' ds) : QX E Rs Φ h ds Q (.goto id) e' R' h' ds := k
theorem QX.p {ch : List PanicEntry} (k : Q (.panic ch) e' R' h' ds) : QX E Rs Φ h ds Q (.panic ch) e' R' h' ds := k
theorem GC.meetX {C : Ctx} {c : Code} {e : Env} {R : List Res} (E : α → Env) (Rs : α → List Res) (Φ : α → Hp → Prop) (k1 : GC C (QX E Rs Φ h ds Q) c e R h ds) (k2 : ∀ x h', h.le h' → Φ x h' → Q .normal (E x) (Rs x) h' ds) : GC C Q c e R h ds := fun a w ha hs =>
  wpIn_mono (k1 a w ha hs) fun ex a' w' ⟨e1, R1, h1, ds1, x, y, q⟩ => by
    cases ex with
    | normal =>
      obtain ⟨rfl, hle, v, hΦ, hE, hR⟩ := q
      exact ⟨E v, Rs v, h1, _, x.sub hE.sub, y.weaken hR, k2 v h1 hle hΦ⟩
    | exit id => exact ⟨e1, R1, h1, ds1, x, y, q⟩
    | goto l => exact ⟨e1, R1, h1, ds1, x, y, q⟩
    | ret => exact ⟨e1, R1, h1, ds1, x, y, q⟩
    | panic ch => exact ⟨e1, R1, h1, ds1, x, y, q⟩
    | outgrown => exact ⟨e1, R1, h1, ds1, x, y, q⟩
end
theorem GC.region' {C : Ctx} {Q : Post} {e : Env} {R : List Res} {h : Hp} {ds : List Deferred} (stops : List Nat) {id : Nat} {l : List Oper} (hs : stops.elem id = false) (k : GO C l.toArray Q l e R h ds) : GC C Q (.region id l.toArray false) e R h ds := GC.region k
theorem GC.block' {C : Ctx} {Q : Post} {e : Env} {R : List Res} {h : Hp} {ds : List Deferred} (stops : List Nat) {id : Nat} {c : Code} (hs : stops.elem id = false) (k : GC C (QB id Q) c e R h ds) : GC C Q (.block id c) e R h ds := GC.block k
def ResV (C : Ctx) (fn : Func) (e : Env) (R : List Res) (h : Hp) (ds : List Deferred) (v : Value) : Prop :=
  ∀ a w, Agree C.n ds e a → Sat C.w0 C.S C.h0 h R w → (results fn a.tmps).run C.P w = .ok v w
/-- What is known may be looked at otherwise before it is handed over. -/
def View (C : Ctx) (h : Hp) (R : List Res) (P : Hp → List Res → Prop) : Prop := ∀ w, Sat C.w0 C.S C.h0 h R w → ∃ h' R', Sat C.w0 C.S C.h0 h' R' w ∧ P h' R'
theorem View.now {C : Ctx} {h : Hp} {R : List Res} {P : Hp → List Res → Prop} (k : P h R) : View C h R P := fun w hs => ⟨h, R, hs, k⟩
theorem View.drop {C : Ctx} {h : Hp} {R : List Res} {P : Hp → List Res → Prop} (k : P h []) : View C h R P := fun w hs => ⟨h, [], hs.weaken (List.nil_sublist _), k⟩
theorem View.tail {C : Ctx} {h : Hp} {r : Res} {R : List Res} {P : Hp → List Res → Prop} (k : View C h R P) : View C h (r :: R) P := fun w hs => k w (hs.weaken (List.sublist_cons_self _ _))
theorem View.perm {C : Ctx} {h : Hp} {R R' : List Res} {P : Hp → List Res → Prop} (hp : R'.Perm R) (k : View C h R' P) : View C h R P := fun w hs => k w (hs.perm hp)
theorem View.first {C : Ctx} {h : Hp} {R : List Res} {P : Hp → List Res → Prop} (hle : C.h0.le h) (k : P C.h0 []) : View C h R P := fun w hs => ⟨C.h0, [], (hs.shrink (Hp.le_refl _) hle).weaken (List.nil_sublist _), k⟩
def FnQ (C : Ctx) (fn : Func) (Rp : Ending → Hp → List Res → Prop) : Post := fun ex e R h ds =>
  match ex with
  | .normal | .ret => ds = [] ∧ ∃ v, ResV C fn e R h ds v ∧ View C h R (Rp (.returned v))
  | .panic ch => ds = [] ∧ View C h R (Rp (.panicked ch))
  | _ => False

def envFrom : Nat → List Value → Env
  | _, [] => []
  | i, v :: r => (i, v) :: envFrom (i + 1) r
theorem lk_envFrom : ∀ (l : List Value) (k i : Nat) (v : Value), lk (envFrom k l) i = some v → k ≤ i ∧ l[i - k]? = some v
  | [], k, i, v, h => by simp [envFrom, lk] at h
  | x :: r, k, i, v, h => by
    rw [envFrom, lk_cons] at h
    by_cases hik : i = k
    · subst hik; rw [if_pos rfl] at h; cases h; simp
    · rw [if_neg hik] at h
      obtain ⟨h1, h2⟩ := lk_envFrom r (k + 1) i v h
      refine ⟨by omega, ?_⟩
      rw [show i - k = (i - (k + 1)) + 1 by omega]
      simpa using h2
theorem Agree.start {n : Nat} {args : List Value} (hn : args.length ≤ n) : Agree n [] (envFrom 0 args) { tmps := args.toArray ++ Array.replicate (n - args.toArray.size) undef, defers := [] } := by
  refine ⟨by simp; omega, rfl, fun i v hi => ?_⟩
  obtain ⟨_, h2⟩ := lk_envFrom args 0 i v hi
  simp only [Nat.sub_zero] at h2
  have hlt : i < args.length := (List.getElem?_eq_some_iff.1 h2).1
  have h3 := (List.getElem?_eq_some_iff.1 h2).2
  simp [Array.getD_eq_getD_getElem?, Array.getElem?_append, hlt, h3]

theorem callsH_of {P : Program} {f : FuncId} {fn : Func} {c : Code} {n : Nat} {args : List Value} {h : Hp} {Rin : List Res} {Rp : Ending → Hp → List Res → Prop}
    (hf : P.funcs[f]? = some fn) (hb : fn.body = some c) (hn : fn.ntmps = n) (hsz : Nat.ble args.length n = true)
    (hg : ∀ w, GC ⟨P, n, w, idsOf Rin, h, none⟩ (FnQ ⟨P, n, w, idsOf Rin, h, none⟩ fn Rp) c (envFrom 0 args) Rin h []) : CallsH P f args.toArray h Rin Rp := fun w hw => by
  refine calls_of_wp hf hb ?_
  have hle : args.length ≤ n := by simpa using hsz
  have h1 := hg w _ w (Agree.start hle) hw
  have h2 := wpIn_wide.1 h1
  rw [hn]
  refine wp_mono h2 ?_
  rintro ex a' w' ⟨e, R, h', ds, ha, hs, q⟩
  have fin : ∀ (hq : ds = [] ∧ ∃ v, ResV ⟨P, n, w, idsOf Rin, h, none⟩ fn e R h' ds v ∧ View ⟨P, n, w, idsOf Rin, h, none⟩ h' R (Rp (.returned v))),
      a'.defers = [] ∧ ∃ v, (results fn a'.tmps).run P w' = .ok v w' ∧ ∃ h1 R', Sat w (idsOf Rin) h h1 R' w' ∧ Rp (.returned v) h1 R' := by
    rintro ⟨rfl, v, hv, hx⟩
    exact ⟨ha.defers, v, hv a' w' ha hs, hx w' hs⟩
  cases ex with
  | normal => exact fin q
  | ret => exact fin q
  | panic ch =>
    obtain ⟨rfl, hx⟩ := q
    exact ⟨ha.defers, hx w' hs⟩
  | exit id => exact q.elim
  | goto l => exact q.elim
  | outgrown => exact q.elim

section
variable {Q : Post} {e : Env} {R : List Res} {h : Hp} {ds : List Deferred} {nxt : Env → List Res → Hp → List Deferred → Prop}
theorem QS.n (k : nxt e R h ds) : QS nxt Q .normal e R h ds := k
theorem QS.r (k : Q .ret e R h ds) : QS nxt Q .ret e R h ds := k
theorem QS.ex {id : Nat} (k : Q (.exit id) e R h ds) : QS nxt Q (.exit id) e R h ds := k
theorem QS.g {id : Nat} (k : Q (.goto id) e R h ds) : QS nxt Q (.goto id) e R h ds := k
theorem QS.p {ch : List PanicEntry} (k : Q (.panic ch) e R h ds) : QS nxt Q (.panic ch) e R h ds := k
theorem QB.n {id : Nat} (k : Q .normal e R h ds) : QB id Q .normal e R h ds := k
theorem QB.r {id : Nat} (k : Q .ret e R h ds) : QB id Q .ret e R h ds := k
theorem QB.g {id l : Nat} (k : Q (.goto l) e R h ds) : QB id Q (.goto l) e R h ds := k
theorem QB.p {id : Nat} {ch : List PanicEntry} (k : Q (.panic ch) e R h ds) : QB id Q (.panic ch) e R h ds := k
theorem QB.ex {id : Nat} (k : Q .normal e R h ds) : QB id Q (.exit id) e R h ds := by simpa [QB] using k
theorem QB.ey {id id' : Nat} (hne : Nat.beq id' id = false) (k : Q (.exit id') e R h ds) : QB id Q (.exit id') e R h ds := by simpa [QB, hne] using k
section
variable {α : Type} {E : α → Env} {Rs : α → List Res} {Φ : α → Hp → Prop} {μ : α → Nat} {x : α} {hL : Hp}
theorem QL.n (hle : hL.le h) (x' : α) (hμ : μ x' < μ x) (hΦ : Φ x' h) (hE : SubL (E x') e) (hR : (Rs x').Sublist R) : QL E Rs Φ μ x hL ds Q .normal e R h ds := ⟨rfl, hle, x', hμ, hΦ, hE, hR⟩
theorem QL.r (k : Q .ret e R h ds) : QL E Rs Φ μ x hL ds Q .ret e R h ds := k
theorem QL.ex {id : Nat} (k : Q (.exit id) e R h ds) : QL E Rs Φ μ x hL ds Q (.exit id) e R h ds := k
theorem QL.g {id : Nat} (k : Q (.goto id) e R h ds) : QL E Rs Φ μ x hL ds Q (.goto id) e R h ds := k
theorem QL.p {ch : List PanicEntry} (k : Q (.panic ch) e R h ds) : QL E Rs Φ μ x hL ds Q (.panic ch) e R h ds := k
end
end

section
variable {C : Ctx} {fn : Func} {Rp : Ending → Hp → List Res → Prop} {e : Env} {R : List Res} {h : Hp} {ds : List Deferred}
theorem FnQ.ret1 {t : Tmp} {v : Value} (hr : fn.results = #[.tmp t]) (hv : lk e t = some v) (hp : View C h R (Rp (.returned v))) : FnQ C fn Rp .ret e R h [] :=
  ⟨rfl, v, fun a w ha hs => by rw [results_tmp hr]; rw [ha.slots _ _ hv], hp⟩
theorem FnQ.ret2 {t u : Tmp} {v v2 : Value} (hr : fn.results = #[.tmp t, .tmp u]) (hv : lk e t = some v) (hv2 : lk e u = some v2) (hp : View C h R (Rp (.returned (.tuple #[v, v2])))) : FnQ C fn Rp .ret e R h [] :=
  ⟨rfl, _, fun a w ha hs => by rw [results_tmp2 hr]; rw [ha.slots _ _ hv, ha.slots _ _ hv2], hp⟩
theorem FnQ.ret3 {t u s : Tmp} {v v2 v3 : Value} (hr : fn.results = #[.tmp t, .tmp u, .tmp s]) (hv : lk e t = some v) (hv2 : lk e u = some v2) (hv3 : lk e s = some v3) (hp : View C h R (Rp (.returned (.tuple #[v, v2, v3])))) : FnQ C fn Rp .ret e R h [] :=
  ⟨rfl, _, fun a w ha hs => by
    have h3 : (results fn a.tmps).run C.P w = .ok (.tuple #[a.tmps.getD t undef, a.tmps.getD u undef, a.tmps.getD s undef]) w := by simp [results, hr]
    rw [h3, ha.slots _ _ hv, ha.slots _ _ hv2, ha.slots _ _ hv3], hp⟩
theorem FnQ.ret0 (hr : fn.results = #[]) (hp : View C h R (Rp (.returned (.tuple #[])))) : FnQ C fn Rp .ret e R h [] := ⟨rfl, _, fun a w ha hs => results_none hr _ _ _, hp⟩
theorem FnQ.end0 (hr : fn.results = #[]) (hp : View C h R (Rp (.returned (.tuple #[])))) : FnQ C fn Rp .normal e R h [] := ⟨rfl, _, fun a w ha hs => results_none hr _ _ _, hp⟩
theorem FnQ.pan {ch : List PanicEntry} (hp : View C h R (Rp (.panicked ch))) : FnQ C fn Rp (.panic ch) e R h [] := ⟨rfl, hp⟩
/-- One result, and nothing left behind. -/
theorem FnQ.retV {t : Tmp} {v v' : Value} (hr : fn.results = #[.tmp t]) (hv : lk e t = some v') (hle : C.h0.le h) (hvv : v' = v) : FnQ C fn (IsV C.h0 v) .ret e R h [] :=
  FnQ.ret1 hr hv (View.first hle ⟨by rw [hvv], rfl, rfl⟩)
theorem FnQ.retV2 {t u : Tmp} {v v2 v' v2' : Value} (hr : fn.results = #[.tmp t, .tmp u]) (hv : lk e t = some v') (hv2 : lk e u = some v2') (hle : C.h0.le h) (h1 : v' = v) (h2 : v2' = v2) : FnQ C fn (IsV C.h0 (.tuple #[v, v2])) .ret e R h [] :=
  FnQ.ret2 hr hv hv2 (View.first hle ⟨by rw [h1, h2], rfl, rfl⟩)
end

/-! ### a call -/
theorem Sat.forCall {w0 : World} {S : List Nat} {h0 h : Hp} {R Rin Rfr : List Res} {w : World} (s : Sat w0 S h0 h R w) (hp : (Rin ++ Rfr).Perm R) : Sat w (idsOf Rin) h h Rin w := by
  have s2 := s.perm hp
  exact { os := rfl, tape := rfl, output := rfl, size := Nat.le_refl _, frame := fun _ _ _ => rfl, hp := s.hp, hext := Hp.le_refl _, hnew := fun _ _ hk => .inl hk
          res := fun r hr => s2.res r (List.mem_append_left _ hr)
          nodup := by have := s2.nodup; rw [idsOf_append] at this; exact (List.nodup_append.1 this).1
          own := fun k hk => by
            obtain ⟨a, b, c⟩ := s2.own k (by rw [idsOf_append]; exact List.mem_append_left _ hk)
            exact ⟨a, b, .inr hk⟩ }
theorem Sat.afterCall {w0 : World} {S : List Nat} {h0 h h' : Hp} {R Rin Rfr R' : List Res} {w w' : World} (s : Sat w0 S h0 h R w) (hp : (Rin ++ Rfr).Perm R) (s' : Sat w (idsOf Rin) h h' R' w') : Sat w0 S h0 h' (R' ++ Rfr) w' := by
  have s2 := s.perm hp
  have hnd := s2.nodup
  rw [idsOf_append] at hnd
  obtain ⟨n1, n2, n3⟩ := List.nodup_append.1 hnd
  have oin : ∀ k ∈ idsOf Rin, h k = none ∧ k < w.heap.size ∧ (w0.heap.size ≤ k ∨ k ∈ S) := fun k hk => s2.own k (by rw [idsOf_append]; exact List.mem_append_left _ hk)
  have ofr : ∀ k ∈ idsOf Rfr, h k = none ∧ k < w.heap.size ∧ (w0.heap.size ≤ k ∨ k ∈ S) := fun k hk => s2.own k (by rw [idsOf_append]; exact List.mem_append_right _ hk)
  have notin : ∀ k ∈ idsOf Rfr, k ∉ idsOf Rin := fun k hk hk2 => n3 k hk2 k hk rfl
  exact
    { os := s'.os.trans s.os, tape := s'.tape.trans s.tape, output := s'.output.trans s.output, size := Nat.le_trans s.size s'.size
      frame := fun k hk hS => (s'.frame k (Nat.lt_of_lt_of_le hk s.size) (fun hin => by
        rcases (oin k hin).2.2 with h1 | h1
        · omega
        · exact hS h1)).trans (s.frame k hk hS)
      hp := s'.hp
      hext := Hp.le_trans s.hext s'.hext
      hnew := fun k o hk => by
        rcases s'.hnew k o hk with h1 | h1 | h1
        · exact s.hnew k o h1
        · exact .inr (.inl (Nat.le_trans s.size h1))
        · exact .inr (oin k h1).2.2
      res := fun r hr => by
        rcases List.mem_append.1 hr with hr | hr
        · exact s'.res r hr
        · exact r.loc w w' (fun k hk => s'.frame k (ofr k (mem_idsOf.2 ⟨r, hr, hk⟩)).2.1 (notin k (mem_idsOf.2 ⟨r, hr, hk⟩))) (s2.res r (List.mem_append_right _ hr))
      nodup := by
        rw [idsOf_append]
        refine List.nodup_append.2 ⟨s'.nodup, n2, fun k hk k2 hk2 e => ?_⟩
        subst e
        rcases (s'.own k hk).2.2 with h1 | h1
        · have := (ofr k hk2).2.1; omega
        · exact notin k hk2 h1
      own := fun k hk => by
        rw [idsOf_append] at hk
        rcases List.mem_append.1 hk with hk | hk
        · obtain ⟨a, b, c⟩ := s'.own k hk
          refine ⟨a, b, ?_⟩
          rcases c with c | c
          · exact .inl (Nat.le_trans s.size c)
          · exact (oin k c).2.2
        · obtain ⟨a, b, c⟩ := ofr k hk
          refine ⟨?_, Nat.lt_of_lt_of_le b s'.size, c⟩
          cases hh : h' k with
          | none => rfl
          | some o =>
            rcases s'.hnew k o hh with h1 | h1 | h1
            · rw [h1] at a; cases a
            · omega
            · exact absurd h1 (notin k hk) }

section
variable {C : Ctx} {ops : Array Oper} {Q : Post} {l : List Oper} {e : Env} {R : List Res} {h : Hp} {ds : List Deferred} {ty : Nat} {pos : String} {after : Array Edge}
def putE : Option Tmp → Value → Env → Env
  | some d, v, e => (d, v) :: e
  | none, _, e => e
def dstOk (n : Nat) : Option Tmp → Bool
  | some d => Nat.blt d n
  | none => true
theorem Agree.putE {n : Nat} {ds : List Deferred} {e : Env} {a : Act} (ha : Agree n ds e a) {o : Option Tmp} (ho : dstOk n o = true) (v : Value) : Agree n ds (putE o v e) (a.put o v) := by
  cases o with
  | none => exact ha
  | some d => exact ha.put ho v
theorem GO.call {dst : Option Tmp} {cal : Operand} {args : List Operand} {ats : Array TypeId} {f : FuncId} {caps : List Value} {vs : List Value} {Rin Rfr : List Res} {Rp : Ending → Hp → List Res → Prop}
    (hn : dstOk C.n dst = true) (hc : opE e cal = some (.func (.func f) #[] caps.toArray)) (ha : opsE e args = some vs) (hent : ∀ args w, (callFunc f args).run C.P w = .ok (.enter f args) w)
    (spec : CallsH C.P f (vs ++ caps).toArray h Rin Rp) (hR : (Rin ++ Rfr).Perm R) (hout : ∀ h' R', ¬ Rp .outgrown h' R')
    (kp : ∀ ch h' R', h.le h' → Rp (.panicked ch) h' R' → Q (.panic ch) e (R' ++ Rfr) h' ds)
    (k : ∀ v h' R', h.le h' → Rp (.returned v) h' R' → GO C ops Q l (putE dst v e) (R' ++ Rfr) h' ds) :
    GO C ops Q (⟨dst, .call ⟨.value cal, args.toArray, ats⟩, ty, pos, after, none⟩ :: l) e R h ds := fun a w hag hs => by
  refine wpListIn_plain rfl fun K hK => ⟨fun _ _ => trivial, ?_⟩
  rw [Oper.semAt_eq _ _ _ (fun c hc => by cases hc)]
  have hrun : (execOp a.eval (⟨dst, .call ⟨.value cal, args.toArray, ats⟩, ty, pos, after, none⟩ : Oper)).run C.P w = .ok (.enter f (vs ++ caps).toArray) w := by
    simp only [execOp, resolve, hag.eval hc]
    have h2 : args.toArray.map a.eval = vs.toArray := by simp [hag.evals ha]
    rw [h2]
    simp [Deferred.ofValue, invoke, hent, go_sem]
  rw [hrun]
  refine ⟨fun hd => by simp [Ctx.F] at hd, ?_⟩
  have hcall : CallsIn Fence.wide (9 - 1) C.P f (vs ++ caps).toArray w _ := callsIn_wide.2 (spec w (hs.forCall hR))
  have hcall2 : CallsIn C.F (9 - 1) C.P f (vs ++ caps).toArray w _ := hcall
  refine hcall2.mono ?_
  rintro en w' ⟨h', R', hs', hr⟩
  have hsat := hs.afterCall hR hs'
  cases en with
  | returned v => exact hK _ _ (k v h' R' hs'.hext hr _ _ (hag.putE hn v) hsat)
  | panicked ch => exact ⟨e, R' ++ Rfr, h', ds, hag, hsat, kp ch h' R' hs'.hext hr⟩
  | outgrown => exact (hout _ _ hr).elim
/-- A call whose value is known. -/
theorem GO.callV {dst : Option Tmp} {cal : Operand} {args : List Operand} {ats : Array TypeId} {f : FuncId} {caps : List Value} {vs : List Value} {v : Value}
    (hn : dstOk C.n dst = true) (hc : opE e cal = some (.func (.func f) #[] caps.toArray)) (ha : opsE e args = some vs) (hent : ∀ args w, (callFunc f args).run C.P w = .ok (.enter f args) w)
    (spec : CallsV C.P f (vs ++ caps).toArray h v) (k : GO C ops Q l (putE dst v e) R h ds) :
    GO C ops Q (⟨dst, .call ⟨.value cal, args.toArray, ats⟩, ty, pos, after, none⟩ :: l) e R h ds :=
  GO.call hn hc ha hent spec (Rfr := R) (by simp) (fun h' R' hr => by cases hr.1) (fun ch h' R' _ hr => by cases hr.1)
    (fun v' h' R' _ hr => by obtain ⟨h1, rfl, rfl⟩ := hr; cases h1; exact k)
end
end Go.Proofs.YtajdjclhkoenfaaDoor
