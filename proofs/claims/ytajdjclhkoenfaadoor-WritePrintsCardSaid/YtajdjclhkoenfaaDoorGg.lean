/- Regions that draw the order of their operations: an operation that leaves what was there alone may be taken first; of the others all orders are gone through. -/
import Derived.Test.YtajdjclhkoenfaaDoorGf
import Derived.OrdersIn
set_option linter.unusedSimpArgs false
set_option linter.unusedVariables false
set_option linter.unusedSectionVars false
namespace Go.Proofs.YtajdjclhkoenfaaDoor
open Go.RowKit

def noDefer (ops : Array Oper) : Bool := ops.all fun o => match o.op with | .defer _ => false | _ => true
theorem noDefer_spec {ops : Array Oper} (h : noDefer ops = true) (j : Nat) (o : Oper) (c : Call) (ho : ops[j]? = some o) : o.op ≠ .defer c := by
  intro heq
  have := Array.all_eq_true_iff_forall_mem.1 h o (Array.mem_of_getElem? ho)
  simp [heq] at this
theorem below_trans {a b c : World} (h : Below a.heap.size a b) (k : Below b.heap.size b c) : Below a.heap.size a c :=
  ⟨k.os.trans h.os, k.tape.trans h.tape, k.output.trans h.output, Nat.le_trans h.size k.size, fun i hi => (k.block i (Nat.lt_of_lt_of_le hi h.size)).trans (h.block i hi)⟩

section
variable {F : Fence} {n : Nat} {P : Program} {ops : Array Oper} {md : Region.Mode} {C : World → Prop} {QN : Act → World → Prop}
abbrev NoQ : Exit → Act → World → Prop := fun _ _ _ => False

def UponB (F : Fence) (n : Nat) (P : Program) (w : World) (v : Value) : Result Next → Prop
  | .ok (.value u) w' => u = v ∧ Below w.heap.size w w'
  | .ok .skip w' => v = undef ∧ Below w.heap.size w w'
  | .ok (.enter f args) w' => (F.depth.isSome = true → 1 ≤ n) ∧ CallsIn F (n - 1) P f args w' fun e w'' => e = .returned v ∧ Below w.heap.size w w''
  | .ok (.row row args) w' => (F.depth.isSome = true → 1 ≤ n) ∧ RowsIn F (n - 1) P row args w' fun u w'' => u = v ∧ Below w.heap.size w w''
  | .ok (.round l f tmps assign body) w' => (F.depth.isSome = true → 1 ≤ n) ∧ RoundIn F (n - 1) P l f tmps assign body w' fun e w'' => e = .returned v ∧ Below w.heap.size w w''
  | _ => False
def YieldsB (F : Fence) (n : Nat) (P : Program) (ops : Array Oper) (C : World → Prop) (o : Oper) (v : Value) (a : Act) : Prop :=
  (Region.wanted o (yielded ops a.tmps) = true ∧ ∀ w, C w → UponB F n P w v ((execOp a.eval o).run P w)) ∨ (Region.wanted o (yielded ops a.tmps) = false ∧ v = undef)
def wpAnyE (F : Fence) (n : Nat) (P : Program) (md : Region.Mode) (ops : Array Oper) (C : World → Prop) (QN : Act → World → Prop) : Nat → Array Bool → Act → World → Prop
  | 0, listed, a, w => ∀ w', Below w.heap.size w w' → C w' ∧ Region.ready md ops listed = [] ∧ QN a w'
  | fuel + 1, listed, a, w => ∀ w', Below w.heap.size w w' → C w' ∧ (Region.ready md ops listed = [] → QN a w') ∧
    ∀ i ∈ Region.ready md ops listed, wpOpIn F n P ops NoQ i (wpAnyE F n P md ops C QN fuel (listed.setIfInBounds i true)) a w'
theorem wpAnyE_below : ∀ {fuel : Nat} {listed : Array Bool} {a : Act} {w w' : World}, wpAnyE F n P md ops C QN fuel listed a w → Below w.heap.size w w' → wpAnyE F n P md ops C QN fuel listed a w'
  | 0, _, _, _, _, h, hb => fun w2 hb2 => h w2 (below_trans hb hb2)
  | _ + 1, _, _, _, _, h, hb => fun w2 hb2 => h w2 (below_trans hb hb2)

theorem Oper.wpIn_mono2 {o : Oper} {a : Act} {w : World} {K K' : Act → World → Prop} {Q Q' : Exit → Act → World → Prop} (h : ∀ a w, K a w → K' a w) (hq : ∀ ex a w, ex ≠ .normal → Q ex a w → Q' ex a w)
    (hh : o.wpIn F n P a w K Q) : o.wpIn F n P a w K' Q' := by
  unfold Oper.wpIn at *
  refine ⟨hh.1, ?_⟩
  have hh := hh.2
  generalize (o.semAt F.round a.eval).run P w = r at *
  cases r with
  | ok x w' =>
    cases x <;> simp only [Oper.uponIn] at hh ⊢
    case value => exact h _ _ hh
    case skip => exact h _ _ hh
    case defer => exact h _ _ hh
    case enter =>
      refine ⟨hh.1, CallsIn.mono hh.2 fun e w'' he => ?_⟩
      cases e with
      | returned v => exact h _ _ he
      | panicked ch => exact hq _ _ _ (by simp) he
      | outgrown => obtain ⟨a0, w0, h0⟩ := he; exact ⟨a0, w0, hq _ _ _ (by simp) h0⟩
    case row => exact ⟨hh.1, RowsIn.mono hh.2 fun _ _ he => h _ _ he⟩
    case round =>
      refine ⟨hh.1, RoundIn.mono hh.2 fun e w'' he => ?_⟩
      cases e with
      | returned v => exact h _ _ he
      | panicked ch => exact hq _ _ _ (by simp) he
      | outgrown => obtain ⟨a0, w0, h0⟩ := he; exact ⟨a0, w0, hq _ _ _ (by simp) h0⟩
  | halt x w' =>
    cases x <;> simp only [Oper.uponIn] at hh ⊢
    case panic => exact hq _ _ _ (by simp) hh
theorem wpOpIn_mono2 {i : Nat} {a : Act} {w : World} {K K' : Act → World → Prop} {Q Q' : Exit → Act → World → Prop} (h : ∀ a w, K a w → K' a w) (hq : ∀ ex a w, ex ≠ .normal → Q ex a w → Q' ex a w)
    (hh : wpOpIn F n P ops Q i K a w) : wpOpIn F n P ops Q' i K' a w := by
  unfold wpOpIn at *
  split
  · rename_i ho; simp only [ho] at hh; exact h _ _ hh
  · rename_i o ho
    simp only [ho] at hh
    split
    · rename_i hw; simp only [hw, if_true] at hh; exact Oper.wpIn_mono2 h hq hh
    · rename_i hw; simp only [hw] at hh; exact ⟨hh.1, h _ _ hh.2⟩
theorem wpAnyIn_of_E {Q : Exit → Act → World → Prop} (hQ : ∀ a w, QN a w → Q .normal a w) : ∀ {fuel : Nat} {listed : Array Bool} {a : Act} {w : World}, wpAnyE F n P md ops C QN fuel listed a w → wpAnyIn F n P md ops Q fuel listed a w
  | 0, _, _, w, h => ⟨(h w (Below.refl _ _)).2.1, hQ _ _ (h w (Below.refl _ _)).2.2⟩
  | _ + 1, _, _, w, h => ⟨fun h0 => hQ _ _ ((h w (Below.refl _ _)).2.1 h0), fun i hi => wpOpIn_mono2 (fun _ _ hk => wpAnyIn_of_E hQ hk) (fun _ _ _ _ hf => hf.elim) ((h w (Below.refl _ _)).2.2 i hi)⟩

theorem YieldsB.wpOpIn {i : Nat} {o : Oper} {v : Value} {a : Act} {w : World} {K : Act → World → Prop} (hF : ∀ f, F.fn f) (hnd : ∀ c, o.op ≠ .defer c) (hi : ops[i]? = some o) (hy : YieldsB F n P ops C o v a) (hw : C w)
    (hK : ∀ w', Below w.heap.size w w' → K (a.put o.dst v) w') : wpOpIn F n P ops NoQ i K a w := by
  unfold Go.wpOpIn
  simp only [hi]
  rcases hy with ⟨hwt, hv⟩ | ⟨hwt, rfl⟩
  · rw [if_pos hwt]
    refine ⟨fun f _ => hF f, ?_⟩
    rw [Oper.semAt_eq _ _ _ hnd]
    have h1 := hv w hw
    generalize (execOp a.eval o).run P w = r at *
    cases r with
    | ok x w' =>
      cases x <;> simp only [UponB] at h1 <;> simp only [Oper.uponIn]
      case value u => obtain ⟨rfl, hb⟩ := h1; exact hK _ hb
      case skip => obtain ⟨rfl, hb⟩ := h1; exact hK _ hb
      case enter f args => exact ⟨h1.1, h1.2.mono fun e w'' ⟨he, hb⟩ => by subst he; exact hK _ hb⟩
      case row => exact ⟨h1.1, h1.2.mono fun u w'' ⟨he, hb⟩ => by subst he; exact hK _ hb⟩
      case round => exact ⟨h1.1, h1.2.mono fun e w'' ⟨he, hb⟩ => by subst he; exact hK _ hb⟩
    | halt x w' => simp only [UponB] at h1
  · rw [if_neg (by simp [hwt])]
    exact ⟨fun f _ => hF f, hK _ (Below.refl _ _)⟩
theorem YieldsB.of_same {o : Oper} {v : Value} {a a' : Act} (hy : YieldsB F n P ops C o v a) (he : execOp a'.eval o = execOp a.eval o)
    (hw : Region.wanted o (yielded ops a'.tmps) = Region.wanted o (yielded ops a.tmps)) : YieldsB F n P ops C o v a' := by
  unfold YieldsB at *
  rw [he, hw]
  exact hy
theorem put_defers (a : Act) (x : Option Tmp) (v : Value) (d : List Deferred) : ({ a with defers := d } : Act).put x v = { a.put x v with defers := d } := by cases x <;> rfl
theorem wpOpIn_put {j : Nat} {oi oj : Oper} {v : Value} (hF : ∀ f, F.fn f) (hj : ops[j]? = some oj) (hap : oi.apart ops oj = true) (hdj : ∀ c, oj.op ≠ .defer c)
    (hsi : ∀ cs b, oi.op ≠ .select cs b) (hsj : ∀ cs b, oj.op ≠ .select cs b) {K : Act → World → Prop} {a : Act} {w : World}
    (hy : YieldsB F n P ops C oi v a) (h : wpOpIn F n P ops NoQ j K (a.put oi.dst v) w) :
    wpOpIn F n P ops NoQ j (fun a' w' => YieldsB F n P ops C oi v a' ∧ K (a'.put oi.dst v) w') a w := by
  obtain ⟨h1, h2, h3⟩ := Oper.apart_spec hap
  have keep : ∀ (a : Act) (ds : List Deferred), YieldsB F n P ops C oi v a → ∀ u, YieldsB F n P ops C oi v ({ a with defers := ds }.put oj.dst u) := fun a ds hy u => by
    have h4 := hy.of_same (a' := a.put oj.dst u) (execOp_put oi hsi a oj.dst u h3) (wanted_put oi a oj.dst u h3)
    rw [put_defers]
    exact h4
  unfold Go.wpOpIn at *
  simp only [hj] at *
  rw [wanted_put oj a oi.dst v h1] at h
  split
  · rename_i hw
    rw [if_pos hw] at h
    refine ⟨fun f _ => hF f, ?_⟩
    have h := h.2
    rw [Oper.semAt_eq _ _ _ hdj] at h ⊢
    rw [execOp_put oj hsj a oi.dst v h1] at h
    have pc : ∀ u, (a.put oi.dst v).put oj.dst u = (a.put oj.dst u).put oi.dst v := fun u => Act.put_comm a v u h2
    have k1 : ∀ u, YieldsB F n P ops C oi v (a.put oj.dst u) := fun u => keep a a.defers hy u
    generalize (execOp a.eval oj).run P w = r at *
    cases r with
    | ok x w' =>
      cases x <;> simp only [Oper.uponIn] at h ⊢
      case value u => exact ⟨k1 _, by rw [← pc]; exact h⟩
      case skip => exact ⟨k1 _, by rw [← pc]; exact h⟩
      case defer d =>
        refine ⟨keep a _ hy _, ?_⟩
        have e1 : (({ a with defers := d :: a.defers } : Act).put oj.dst undef).put oi.dst v = ({ a.put oi.dst v with defers := d :: (a.put oi.dst v).defers } : Act).put oj.dst undef := by
          have e2 : ({ a with defers := d :: a.defers } : Act).put oi.dst v = { a.put oi.dst v with defers := d :: (a.put oi.dst v).defers } := by cases oi.dst <;> rfl
          rw [← Act.put_comm { a with defers := d :: a.defers } v undef h2, e2]
        rw [e1]; exact h
      case enter f args =>
        refine ⟨h.1, h.2.mono fun e w'' he => ?_⟩
        cases e with
        | returned u => exact ⟨k1 _, by rw [← pc]; exact he⟩
        | panicked ch => exact he.elim
        | outgrown => obtain ⟨_, _, he⟩ := he; exact he.elim
      case row => exact ⟨h.1, h.2.mono fun u w'' he => ⟨k1 _, by rw [← pc]; exact he⟩⟩
      case round =>
        refine ⟨h.1, h.2.mono fun e w'' he => ?_⟩
        cases e with
        | returned u => exact ⟨k1 _, by rw [← pc]; exact he⟩
        | panicked ch => exact he.elim
        | outgrown => obtain ⟨_, _, he⟩ := he; exact he.elim
    | halt x w' =>
      cases x <;> simp only [Oper.uponIn] at h ⊢
      case panic => exact h.elim
  · rename_i hw
    rw [if_neg hw] at h
    exact ⟨fun f _ => hF f, keep a a.defers hy _, by rw [← Act.put_comm a v undef h2]; exact h.2⟩

theorem wpAnyE_first {i : Nat} {oi : Oper} {v : Value} (hF : ∀ f, F.fn f) (hi : ops[i]? = some oi) (hsel : ∀ (j : Nat) (o : Oper) cs b, ops[j]? = some o → o.op ≠ .select cs b) (hdef : ∀ (j : Nat) (o : Oper) c, ops[j]? = some o → o.op ≠ .defer c)
    (hC : ∀ w w', C w → Below w.heap.size w w' → C w') :
    ∀ (fuel : Nat) (listed : Array Bool) (a : Act) (w : World),
      (∀ j oj, ops[j]? = some oj → j ≠ i → listed.getD j true = false → (∀ e ∈ oj.after, Region.binds md e = true → e.on ≠ i) → oi.apart ops oj = true) →
      i ∈ Region.ready md ops listed → YieldsB F n P ops C oi v a →
      wpAnyE F n P md ops C QN fuel (listed.setIfInBounds i true) (a.put oi.dst v) w → wpAnyE F n P md ops C QN (fuel + 1) listed a w := by
  intro fuel
  induction fuel with
  | zero =>
    intro listed a w _ hr hy H w' hb
    have Hc := (H w' hb).1
    refine ⟨Hc, fun h => (by rw [h] at hr; cases hr), fun j hj => ?_⟩
    by_cases hji : j = i
    · subst hji; exact hy.wpOpIn hF (fun c => hdef j oi c hi) hi Hc fun w2 hb2 => wpAnyE_below H (below_trans hb hb2)
    · have := ready_mono hj hji
      rw [(H w' hb).2.1] at this
      cases this
  | succ fuel ih =>
    intro listed a w hfree hr hy H w' hb
    have Hc := (H w' hb).1
    refine ⟨Hc, fun h => (by rw [h] at hr; cases hr), fun j hj => ?_⟩
    by_cases hji : j = i
    · subst hji; exact hy.wpOpIn hF (fun c => hdef j oi c hi) hi Hc fun w2 hb2 => wpAnyE_below H (below_trans hb hb2)
    · have h1 := (H w' hb).2.2 j (ready_mono hj hji)
      obtain ⟨hjun, oj, hoj, hall⟩ := mem_ready.1 hj
      have hnot : ∀ e ∈ oj.after, Region.binds md e = true → e.on ≠ i := fun e he hb heq => by
        have h1 := hall e he hb
        have h0 := (mem_ready.1 hr).1
        rw [heq] at h1
        rcases Nat.lt_or_ge i listed.size with h' | h'
        · simp [h'] at h0 h1; rw [h0] at h1; cases h1
        · simp [Array.getElem?_eq_none h'] at h1
      have h2 := wpOpIn_put hF hoj (hfree j oj hoj hji hjun hnot) (fun c => hdef j oj c hoj) (fun cs b => hsel i oi cs b hi) (fun cs b => hsel j oj cs b hoj) hy h1
      have hfree' : ∀ k ok, ops[k]? = some ok → k ≠ i → (listed.setIfInBounds j true).getD k true = false →
          (∀ e ∈ ok.after, Region.binds md e = true → e.on ≠ i) → oi.apart ops ok = true := fun k ok hk hki hun hno => by
        refine hfree k ok hk hki ?_ hno
        by_cases hjk : j = k
        · subst hjk; exact hjun
        · rw [getD_set_ne true hjk] at hun; exact hun
      refine wpOpIn_mono2 (fun a' w2 h3 => ih (listed.setIfInBounds j true) a' w2 hfree' (ready_mono hr (Ne.symm hji)) h3.1 ?_) (fun _ _ _ _ hf => hf) h2
      rw [Array.setIfInBounds_comm _ _ hji]
      exact h3.2
end

/-! ### In our calculus -/
section
variable {C : Ctx} {ops : Array Oper} {Q : Post} {e : Env} {R : List Res} {h hE : Hp} {ds : List Deferred} {fuel : Nat} {listed : Array Bool}
def CW (C : Ctx) (hE : Hp) (w : World) : Prop := ∃ h' R', hE.le h' ∧ Sat C.w0 C.S C.h0 h' R' w
def GA (C : Ctx) (ops : Array Oper) (Q : Post) (hE : Hp) (fuel : Nat) (listed : Array Bool) (e : Env) (R : List Res) (h : Hp) (ds : List Deferred) : Prop :=
  Region.noSelect ops = true → noDefer ops = true → hE.le h → ∀ a w, Agree C.n ds e a → Sat C.w0 C.S C.h0 h R w → wpAnyE C.F 9 C.P .any ops (CW C hE) (Lift C Q .normal) fuel listed a w
/-- What stands behind one operation. -/
def QA (hE : Hp) (nxt : Env → List Res → Hp → List Deferred → Prop) : Post := fun ex e R h ds => ex = .normal ∧ hE.le h ∧ nxt e R h ds
theorem QA.n {nxt : Env → List Res → Hp → List Deferred → Prop} (hle : hE.le h) (k : nxt e R h ds) : QA hE nxt .normal e R h ds := ⟨rfl, hle, k⟩
/-- One known value, and nothing turned. -/
def QV (d : Nat) (v : Value) (ds0 : List Deferred) : Post := fun ex e R h ds => ex = .normal ∧ ds = ds0 ∧ lk e d = some v
theorem QV.n {d : Nat} {v v' : Value} (hv : lk e d = some v') (hvv : v' = v) : QV d v ds .normal e R h ds := ⟨rfl, rfl, by rw [hv, hvv]⟩

theorem CW.below {w w' : World} (hc : CW C hE w) (hb : Below w.heap.size w w') : CW C hE w' := let ⟨h', R', hl, hs⟩ := hc; ⟨h', R', hl, hs.below hb⟩
def fullHp (w : World) : Hp := fun k => w.heap[k]?
theorem Sat.full (w : World) : Sat w [] (fullHp w) (fullHp w) [] w :=
  { os := rfl, tape := rfl, output := rfl, size := Nat.le_refl _, frame := fun _ _ _ => rfl, hp := fun _ _ h => h, hext := Hp.le_refl _, hnew := fun _ _ h => .inl h, res := by simp, nodup := by simp [idsOf], own := by simp [idsOf] }
theorem Sat.toBelow {w : World} {h h' : Hp} {R : List Res} {w' : World} (s : Sat w [] h h' R w') : Below w.heap.size w w' := ⟨s.os, s.tape, s.output, s.size, fun k hk => s.frame k hk (by simp)⟩

theorem GA.region {id n : Nat} {l : List Oper} (hn : l.length = n) (hm : C.P.follows .mixedOrders = true) (h1 : Region.noSelect l.toArray = true) (h2 : noDefer l.toArray = true)
    (k : GA C l.toArray Q h n (Array.replicate n false) e R h ds) : GC C Q (.region id l.toArray true) e R h ds := fun a w ha hs => by
  subst hn
  refine wpIn_region_any hm (wpAnyIn_of_E (C := CW C h) (QN := Lift C Q .normal) (fun _ _ hq => hq) ?_)
  have hd : Sat C.w0 C.S C.h0 h R { w with drawn := w.drawn + 1 } := hs.drew
  simpa using k h1 h2 (Hp.le_refl _) a _ ha hd
theorem GA.done (hr : Region.ready .any ops listed = []) (k : Q .normal e R h ds) : GA C ops Q hE fuel listed e R h ds := fun h1 h2 hle a w ha hs => by
  cases fuel with
  | zero => exact fun w' hb => ⟨⟨h, R, hle, hs.below hb⟩, hr, e, R, h, ds, ha, hs.below hb, k⟩
  | succ fuel => exact fun w' hb => ⟨⟨h, R, hle, hs.below hb⟩, fun _ => ⟨e, R, h, ds, ha, hs.below hb, k⟩, fun i hi => by rw [hr] at hi; cases hi⟩
/-- All of them, one after the other. -/
def GAall (C : Ctx) (ops : Array Oper) (Q : Post) (hE : Hp) (fuel : Nat) (listed : Array Bool) (e : Env) (R : List Res) (h : Hp) (ds : List Deferred) : List Nat → Prop
  | [] => True
  | i :: r => (∀ o, ops[i]? = some o → GO C ops (QA hE (GA C ops Q hE fuel (listed.setIfInBounds i true))) [o] e R h ds) ∧ GAall C ops Q hE fuel listed e R h ds r
theorem GAall.mem : ∀ {rs : List Nat}, GAall C ops Q hE fuel listed e R h ds rs → ∀ i ∈ rs, ∀ o, ops[i]? = some o → GO C ops (QA hE (GA C ops Q hE fuel (listed.setIfInBounds i true))) [o] e R h ds
  | j :: r, hk, i, hi, o, ho => by
    rcases List.mem_cons.1 hi with rfl | hi
    · exact hk.1 o ho
    · exact hk.2.mem i hi o ho
theorem GA.branch {rs : List Nat} (hr : Region.ready .any ops listed = rs) (hne : rs.isEmpty = false) (k : GAall C ops Q hE fuel listed e R h ds rs) : GA C ops Q hE (fuel + 1) listed e R h ds := fun h1 h2 hle a w ha hs => by
  intro w' hb
  refine ⟨⟨h, R, hle, hs.below hb⟩, fun h0 => (by rw [hr] at h0; rw [h0] at hne; cases hne), fun i hi => ?_⟩
  rw [hr] at hi
  have hi2 : i ∈ Region.ready .any ops listed := by rw [hr]; exact hi
  obtain ⟨_, o, ho, _⟩ := mem_ready.1 hi2
  have h3 := k.mem i hi o ho a w' ha (hs.below hb)
  unfold wpOpIn
  simp only [ho]
  unfold wpListIn at h3
  have hk : ∀ a2 w2, wpListIn C.F 9 C.P ops (Lift C (QA hE (GA C ops Q hE fuel (listed.setIfInBounds i true)))) [] a2 w2 → wpAnyE C.F 9 C.P .any ops (CW C hE) (Lift C Q .normal) fuel (listed.setIfInBounds i true) a2 w2 := by
    rintro a2 w2 ⟨e2, R2, hh2, ds2, ha2, hs2, _, hle2, hg⟩
    exact hg h1 h2 hle2 a2 w2 ha2 hs2 
  split
  · rename_i hw
    rw [if_pos hw] at h3
    refine Oper.wpIn_mono2 hk ?_ h3
    rintro ex a2 w2 hnx ⟨e2, R2, hh2, ds2, ha2, hs2, hx, hle2, hg⟩
    exact hnx hx
  · rename_i hw
    rw [if_neg hw] at h3
    exact ⟨h3.1, hk _ _ h3.2⟩
def nth : List Oper → Nat → Option Oper
  | [], _ => none
  | o :: _, 0 => some o
  | _ :: l, i + 1 => nth l i
theorem nth_list : ∀ (l : List Oper) (i : Nat), nth l i = l[i]?
  | [], _ => by simp [nth]
  | _ :: _, 0 => by simp [nth]
  | _ :: l, i + 1 => by simp [nth, nth_list l i]
theorem nth_eq {l : List Oper} {i : Nat} {o : Oper} (h : nth l i = some o) : l.toArray[i]? = some o := by
  rw [nth_list] at h
  rw [List.getElem?_toArray]
  exact h
theorem GA.first {lo : List Oper} {i d : Nat} {o : Oper} {v : Value} (ho0 : nth lo i = some o) (hd : o.dst = some d) (hn : Nat.blt d C.n = true) (hr : (Region.ready .any lo.toArray listed).contains i = true) (hf : Region.free .any lo.toArray listed i = true)
    (hy : ∀ w1 h', hE.le h' → GO ⟨C.P, C.n, w1, [], h', C.rnd⟩ lo.toArray (QV d v ds) [o] e [] h' ds)
    (k : GA C lo.toArray Q hE fuel (listed.setIfInBounds i true) ((d, v) :: e) R h ds) : GA C lo.toArray Q hE (fuel + 1) listed e R h ds := fun h1 h2 hle a w ha hs => by
  have ho := nth_eq ho0
  generalize lo.toArray = ops at *
  have hsel := Region.noSelect_spec h1
  have hdef : ∀ (j : Nat) (o : Oper) c, ops[j]? = some o → o.op ≠ .defer c := fun j o c => noDefer_spec h2 j o c
  have hdn : d < a.tmps.size := by rw [ha.size]; simpa [Nat.blt_eq] using hn
  have hput : ∀ {u : Value} {e1 : Env} {ds1 : List Deferred}, Agree C.n ds1 e1 (a.put o.dst u) → lk e1 d = some v → u = v := by
    intro u e1 ds1 hag hl
    have h3 := hag.slots _ _ hl
    rw [hd] at h3
    simpa [Act.put, Array.getD_eq_getD_getElem?, hdn] using h3
  have hyb : YieldsB C.F 9 C.P ops (CW C hE) o v a := by
    unfold YieldsB
    by_cases hw : Region.wanted o (yielded ops a.tmps) = true
    · refine .inl ⟨hw, fun w1 hc => ?_⟩
      obtain ⟨h', R', hl', hs'⟩ := hc
      have hl2 : hE.le (fullHp w1) := fun k o hk => hs'.hp k o (hl' k o hk)
      have h3 := hy w1 (fullHp w1) hl2 a w1 ha (Sat.full w1)
      unfold wpListIn at h3
      rw [if_pos hw] at h3
      have h4 := h3.2
      rw [Oper.semAt_eq _ _ _ (fun c => hdef i o c ho)] at h4
      generalize (execOp a.eval o).run C.P w1 = r at *
      cases r with
      | ok x w' =>
        cases x <;> simp only [Oper.uponIn] at h4 <;> simp only [UponB]
        case value u =>
          obtain ⟨e1, R1, hh1, ds1, ha1, hs1, hx, hds, hl⟩ := h4
          exact ⟨hput ha1 hl, hs1.toBelow⟩
        case skip =>
          obtain ⟨e1, R1, hh1, ds1, ha1, hs1, hx, hds, hl⟩ := h4
          exact ⟨(hput ha1 hl).symm, hs1.toBelow⟩
        case defer dd =>
          obtain ⟨e1, R1, hh1, ds1, ha1, hs1, hx, hds, hl⟩ := h4
          have h5 := ha1.defers
          rw [put_defers] at h5
          have h6 : dd :: a.defers = ds1 := h5
          rw [ha.defers, hds] at h6
          exact absurd h6 (by simp)
        case enter f args =>
          refine ⟨h4.1, h4.2.mono fun en w'' he => ?_⟩
          cases en with
          | returned u =>
            obtain ⟨e1, R1, hh1, ds1, ha1, hs1, hx, hds, hl⟩ := he
            exact ⟨by rw [hput ha1 hl], hs1.toBelow⟩
          | panicked ch =>
            obtain ⟨e1, R1, hh1, ds1, ha1, hs1, hx, hds, hl⟩ := he
            cases hx
          | outgrown =>
            obtain ⟨_, _, e1, R1, hh1, ds1, ha1, hs1, hx, hds, hl⟩ := he
            cases hx
        case row =>
          refine ⟨h4.1, h4.2.mono fun u w'' he => ?_⟩
          obtain ⟨e1, R1, hh1, ds1, ha1, hs1, hx, hds, hl⟩ := he
          exact ⟨hput ha1 hl, hs1.toBelow⟩
        case round =>
          refine ⟨h4.1, h4.2.mono fun en w'' he => ?_⟩
          cases en with
          | returned u =>
            obtain ⟨e1, R1, hh1, ds1, ha1, hs1, hx, hds, hl⟩ := he
            exact ⟨by rw [hput ha1 hl], hs1.toBelow⟩
          | panicked ch =>
            obtain ⟨e1, R1, hh1, ds1, ha1, hs1, hx, hds, hl⟩ := he
            cases hx
          | outgrown =>
            obtain ⟨_, _, e1, R1, hh1, ds1, ha1, hs1, hx, hds, hl⟩ := he
            cases hx
      | halt x w' =>
        cases x <;> simp only [Oper.uponIn] at h4
        case panic =>
          obtain ⟨e1, R1, hh1, ds1, ha1, hs1, hx, hds, hl⟩ := h4
          cases hx
    · refine .inr ⟨by simpa using hw, ?_⟩
      have h3 := hy w (fullHp w) (fun k o hk => hs.hp k o (hle k o hk)) a w ha (Sat.full w)
      unfold wpListIn at h3
      rw [if_neg hw] at h3
      obtain ⟨_, e1, R1, hh1, ds1, ha1, hs1, hx, hds, hl⟩ := h3
      exact (hput ha1 hl).symm
  refine wpAnyE_first (fun _ => trivial) ho hsel hdef (fun _ _ hc hb => hc.below hb) fuel listed a w (Region.free_spec ho hf) (by simpa using hr) hyb ?_
  rw [hd]
  exact k h1 h2 hle _ w (ha.put hn v) hs
theorem GAall.nil : GAall C ops Q hE fuel listed e R h ds [] := trivial
theorem GAall.cons {lo : List Oper} {i : Nat} {rs : List Nat} {o : Oper} (ho0 : nth lo i = some o) (k : GO C lo.toArray (QA hE (GA C lo.toArray Q hE fuel (listed.setIfInBounds i true))) [o] e R h ds) (k2 : GAall C lo.toArray Q hE fuel listed e R h ds rs) : GAall C lo.toArray Q hE fuel listed e R h ds (i :: rs) :=
  ⟨fun o' ho' => by rw [nth_eq ho0] at ho'; cases ho'; exact k, k2⟩
theorem Hp.cell_up {h h' : Hp} {a : Addr} {v : Value} (hc : h.cell a = some v) (hl : h.le h') : h'.cell a = some v := Hp.cell_mono hl hc
/-- The cells of a block, from a place on. -/
def CellsOf (h : Hp) (b : Nat) : Nat → List Value → Prop
  | _, [] => True
  | k, [v] => h.cell ⟨b, k, none⟩ = some v
  | k, v :: r => h.cell ⟨b, k, none⟩ = some v ∧ CellsOf h b (k + 1) r
theorem CellsOf.of {h : Hp} {b : Nat} : ∀ {cs : List Value} {k : Nat}, (∀ j u, cs[j]? = some u → h.cell ⟨b, k + j, none⟩ = some u) → CellsOf h b k cs
  | [], _, _ => trivial
  | [v], k, hx => hx 0 v rfl
  | v :: u :: r, k, hx => ⟨hx 0 v rfl, CellsOf.of fun j x hj => by have := hx (j + 1) x hj; rwa [show k + (j + 1) = k + 1 + j by omega] at this⟩
/-- The same, with the number of the operation that is looked at next. -/
def GB (j : Nat) (C : Ctx) (ops : Array Oper) (Q : Post) (hE : Hp) (fuel : Nat) (listed : Array Bool) (e : Env) (R : List Res) (h : Hp) (ds : List Deferred) : Prop := GA C ops Q hE fuel listed e R h ds
section
variable {lo : List Oper} {j d : Nat} {o : Oper} {v : Value}
theorem GB.region {id n : Nat} {l : List Oper} (stops : List Nat) (hst : stops.elem id = false) (hn : l.length = n) (hm : C.P.follows .mixedOrders = true) (h1 : Region.noSelect l.toArray = true) (h2 : noDefer l.toArray = true)
    (k : GB 0 C l.toArray Q h n (Array.replicate n false) e R h ds) : GC C Q (.region id l.toArray true) e R h ds := GA.region hn hm h1 h2 k
theorem GB.first (ho : nth lo j = some o) (hd : o.dst = some d) (hn : Nat.blt d C.n = true) (hr : (Region.ready .any lo.toArray listed).contains j = true) (hf : Region.free .any lo.toArray listed j = true)
    (hy : ∀ w1 h', hE.le h' → GO ⟨C.P, C.n, w1, [], h', C.rnd⟩ lo.toArray (QV d v ds) [o] e [] h' ds)
    (k : GB (j + 1) C lo.toArray Q hE fuel (listed.setIfInBounds j true) ((d, v) :: e) R h ds) : GB j C lo.toArray Q hE (fuel + 1) listed e R h ds := GA.first ho hd hn hr hf hy k
theorem GB.single (ho : nth lo j = some o) (hr : Region.ready .any lo.toArray listed = [j]) (k : GO C lo.toArray (QA hE (GB 0 C lo.toArray Q hE fuel (listed.setIfInBounds j true))) [o] e R h ds) : GB j C lo.toArray Q hE (fuel + 1) listed e R h ds :=
  GA.branch hr rfl (GAall.cons ho k GAall.nil)
theorem GB.two {j2 : Nat} {o2 : Oper} (ho : nth lo j = some o) (ho2 : nth lo j2 = some o2) (hr : Region.ready .any lo.toArray listed = [j, j2]) (k : GO C lo.toArray (QA hE (GB 0 C lo.toArray Q hE fuel (listed.setIfInBounds j true))) [o] e R h ds)
    (k2 : GO C lo.toArray (QA hE (GB 0 C lo.toArray Q hE fuel (listed.setIfInBounds j2 true))) [o2] e R h ds) : GB j C lo.toArray Q hE (fuel + 1) listed e R h ds :=
  GA.branch hr rfl (GAall.cons ho k (GAall.cons ho2 k2 GAall.nil))
theorem GB.next (hj : Nat.blt j lo.length = true) (k : GB (j + 1) C lo.toArray Q hE fuel listed e R h ds) : GB j C lo.toArray Q hE fuel listed e R h ds := k
theorem GB.wrap (hr : (Region.ready .any ops listed).length = 1) (k : GB 0 C ops Q hE fuel listed e R h ds) : GB j C ops Q hE fuel listed e R h ds := k
theorem GB.done (hr : Region.ready .any ops listed = []) (k : Q .normal e R h ds) : GB j C ops Q hE fuel listed e R h ds := GA.done hr k
end
theorem CellsOf.all {h : Hp} {b : Nat} {cs : List Value} (hc : CellsOf h b 0 cs) : ∀ j u, cs[j]? = some u → h.cell ((⟨b, 0, none⟩ : Addr).add j) = some u := by
  have key : ∀ (cs : List Value) (k : Nat), CellsOf h b k cs → ∀ j u, cs[j]? = some u → h.cell ⟨b, k + j, none⟩ = some u := by
    intro cs
    induction cs with
    | nil => intro k _ j u hj; simp at hj
    | cons v r ih =>
      intro k hk j u hj
      cases r with
      | nil =>
        cases j with
        | zero => simp at hj; subst hj; exact hk
        | succ j => simp at hj
      | cons v2 r2 =>
        cases j with
        | zero => simp at hj; subst hj; exact hk.1
        | succ j =>
          have := ih (k + 1) hk.2 j u (by simpa using hj)
          rwa [show k + 1 + j = k + (j + 1) by omega] at this
  intro j u hj
  rw [add0]
  exact key cs 0 hc j u hj
theorem Sat.freeze {w0 w : World} {S : List Nat} {h0 : Hp} {i b : Nat} {T : TypeId} {cs : List Value} (s : Sat w0 S h0 h R w) (hr : R[i]? = some (blk b T cs)) : ∃ h', h.le h' ∧ CellsOf h' b 0 cs ∧ Sat w0 S h0 h' (R.eraseIdx i) w := by
  have hi := (List.getElem?_eq_some_iff.1 hr).1
  have hp : (blk b T cs :: R.eraseIdx i).Perm R := by
    have h2 : R[i] = blk b T cs := (List.getElem?_eq_some_iff.1 hr).2
    rw [← h2]
    exact perm_erase hi
  have s2 := s.perm hp
  have hw : w.heap[b]? = some (.cells cs.toArray T (0, 0)) := s2.res _ (List.mem_cons_self)
  obtain ⟨h1, h2⟩ := s2.give rfl hw
  refine ⟨_, h1, CellsOf.of fun j u hj => ?_, h2⟩
  rw [Nat.zero_add]
  unfold Hp.cell Hp.with_
  simpa using hj
theorem GC.freeze (i : Nat) {b : Nat} {T : TypeId} {cs : List Value} {c : Code} (hr : R[i]? = some (blk b T cs)) (k : ∀ h', h.le h' → CellsOf h' b 0 cs → GC C Q c e (R.eraseIdx i) h' ds) : GC C Q c e R h ds := fun a w ha hs => by
  obtain ⟨h', hle, hc, hs'⟩ := hs.freeze hr
  exact k h' hle hc a w ha hs'
theorem GO.freeze (i : Nat) {b : Nat} {T : TypeId} {cs : List Value} {l : List Oper} (hr : R[i]? = some (blk b T cs)) (k : ∀ h', h.le h' → CellsOf h' b 0 cs → GO C ops Q l e (R.eraseIdx i) h' ds) : GO C ops Q l e R h ds := fun a w ha hs => by
  obtain ⟨h', hle, hc, hs'⟩ := hs.freeze hr
  exact k h' hle hc a w ha hs'
end
end Go.Proofs.YtajdjclhkoenfaaDoor
