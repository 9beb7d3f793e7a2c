/- A range over a function: what the function does with 'yield', and the statement's rule. -/
import Derived.Test.YtajdjclhkoenfaaDoorGh
import Derived.RangeFuncIn
import Derived.RangeFuncRecord
import Derived.RangeFuncLeaves
set_option linter.unusedSimpArgs false
set_option linter.unusedVariables false
set_option linter.unusedSectionVars false
namespace Go.Proofs.YtajdjclhkoenfaaDoor
open Go.RowKit

def Fw : Fence := { fn := fun _ => True, depth := none, alive := false, round := none }
theorem wpIn_any {F : Fence} {n m : Nat} {P : Program} {c : Code} {Q : Exit → Act → World → Prop} {a : Act} {w : World} (hd : F.depth = none) (h : c.wpIn F n P Q a w) : c.wpIn F m P Q a w :=
  fun b k cs h1 h2 _ => h b k cs h1 h2 (fun d hx => by rw [hd] at hx; cases hx)
/-- 'yield' is called: the round ends, and says whether it goes on. -/
def YieldsTo (P : Program) (L : Nat) (args : List Value) (h : Hp) (R : List Res) (post : Bool → Hp → List Res → Prop) : Prop :=
  ∀ w, Sat w (idsOf R) h h R w → ∃ f tmps assign body, (Instr.yield L args.toArray).run P w = .ok (.round L f tmps assign body) w ∧
    RoundIn Fw 8 P L f tmps assign body w fun e w' => ∃ b h' R', e = .returned (.bool b) ∧ Sat w (idsOf R) h h' R' w' ∧ post b h' R'
/-- The function hands the items of xs to 'yield', one after the other, till one round says no more. -/
def IterH (P : Program) (gf : FuncId) (caps : List Value) (h : Hp) (xs : List (List Value)) : Prop :=
  ∀ (L : Nat) (J : Nat → Hp → List Res → Prop) (E : Hp → List Res → Prop) (h1 : Hp) (R1 : List Res), h.le h1 →
    (∀ k h' h'' R', h'.le h'' → J k h' R' → J k h'' R') →
    (∀ k x h' R', xs[k]? = some x → h1.le h' → J k h' R' → YieldsTo P L x h' R' fun b h'' R'' => (b = true ∧ J (k + 1) h'' R'') ∨ (b = false ∧ E h'' R'')) →
    J 0 h1 R1 → CallsH P gf (.func (.yield L) #[] #[] :: caps).toArray h1 R1 fun e h' R' => e = .returned (.tuple #[]) ∧ (J xs.length h' R' ∨ E h' R')

section
variable {C : Ctx} {ops : Array Oper} {Q : Post} {l : List Oper} {e : Env} {R : List Res} {h : Hp} {ds : List Deferred} {d ty : Nat} {pos : String} {after : Array Edge}
theorem GO.yield {cal : Operand} {args : List Operand} {ats : Array TypeId} {L : Nat} {vs : List Value} {Rin Rfr : List Res} {post : Bool → Hp → List Res → Prop}
    (hn : Nat.blt d C.n = true) (hrnd : C.rnd = none) (hc : opE e cal = some (.func (.yield L) #[] #[])) (ha : opsE e args = some vs) (spec : YieldsTo C.P L vs h Rin post) (hR : (Rin ++ Rfr).Perm R)
    (k : ∀ b h' R', h.le h' → post b h' R' → GO C ops Q l ((d, .bool b) :: e) (R' ++ Rfr) h' ds) :
    GO C ops Q (⟨some d, .call ⟨.value cal, args.toArray, ats⟩, ty, pos, after, none⟩ :: l) e R h ds := fun a w hag hs => by
  refine wpListIn_plain rfl fun K hK => ⟨fun _ _ => trivial, ?_⟩
  rw [Oper.semAt_eq _ _ _ (fun c hc => by cases hc)]
  obtain ⟨f, tmps, assign, body, hy, hround⟩ := spec w (hs.forCall hR)
  have hrun : (execOp a.eval (⟨some d, .call ⟨.value cal, args.toArray, ats⟩, ty, pos, after, none⟩ : Oper)).run C.P w = .ok (.round L f tmps assign body) w := by
    simp only [execOp, resolve, hag.eval hc]
    have h2 : args.toArray.map a.eval = vs.toArray := by simp [hag.evals ha]
    rw [h2]
    simp [Deferred.ofValue, invoke, hy, go_sem]
  rw [hrun]
  have hF : C.F = Fw := by unfold Ctx.F Fw; rw [hrnd]
  refine ⟨fun hd => by simp [Ctx.F] at hd, ?_⟩
  rw [hF]
  refine hround.mono ?_
  rintro en w' ⟨b, h', R', rfl, hs', hr⟩
  have hsat := hs.afterCall hR hs'
  exact hK _ _ (k b h' R' hs'.hext hr _ _ (hag.put hn _) hsat)

theorem Sat.putHead {w0 w : World} {S : List Nat} {h0 : Hp} {b : Nat} {o o' : Obj} (s : Sat w0 S h0 h (other b o :: R) w) : Sat w0 S h0 h (other b o' :: R) (w.putObj b o') := by
  have hw : w.heap[b]? = some o := s.res _ List.mem_cons_self
  have hlt := (Array.getElem?_eq_some_iff.1 hw).1
  exact s.turn (r' := other b o') rfl rfl rfl (by simp [World.putObj]) (fun k _ hk => World.putObj_heap_other (by simp [other] at hk; omega)) (World.putObj_heap_same hlt) (by simp [other]) (fun k hk => .inl hk)
/-- The record of a loop and its block, behind everything else. -/
def tailR (D L : Nat) (r : Loop) : List Res := [other D (.deferred (some [])), other L (.loop r)]
theorem tail_perm (R0 : List Res) (D L : Nat) (r : Loop) : (other L (.loop r) :: (R0 ++ [other D (.deferred (some []))])).Perm (R0 ++ tailR D L r) := by
  have h1 : R0 ++ tailR D L r = (R0 ++ [other D (.deferred (some []))]) ++ [other L (.loop r)] := by simp [tailR]
  rw [h1]
  exact (List.perm_append_comm (l₁ := R0 ++ [other D (.deferred (some []))]) (l₂ := [other L (.loop r)])).symm
theorem idsOf_tail (R0 : List Res) (D L : Nat) (r r' : Loop) : idsOf (R0 ++ tailR D L r) = idsOf (R0 ++ tailR D L r') := by simp [idsOf, tailR, other]
theorem Sat.putTail {w0 w : World} {S : List Nat} {h0 : Hp} {D L : Nat} {r r' : Loop} (s : Sat w0 S h0 h (R ++ tailR D L r) w) : Sat w0 S h0 h (R ++ tailR D L r') (w.putObj L (.loop r')) :=
  ((s.perm (tail_perm R D L r)).putHead (o' := .loop r')).perm (tail_perm R D L r').symm
theorem Sat.tailLoop {w0 w : World} {S : List Nat} {h0 : Hp} {D L : Nat} {r : Loop} (s : Sat w0 S h0 h (R ++ tailR D L r) w) : w.heap[L]? = some (.loop r) := s.res (other L (.loop r)) (by simp [tailR])

def zipE : List Tmp → List Value → Env → Env
  | p :: ps, v :: vs, e => zipE ps vs ((p, v) :: e)
  | _, _, e => e
theorem Agree.zip {n : Nat} : ∀ {ps : List Tmp} {vs : List Value} {e : Env} {a : Act}, Agree n ds e a → (∀ p ∈ ps, Nat.blt p n = true) → Agree n ds (zipE ps vs e) { a with tmps := (ps.zip vs).foldl (fun t (p, v) => t.setIfInBounds p v) a.tmps }
  | [], vs, e, a, ha, _ => by cases vs <;> simpa [zipE] using ha
  | p :: ps, [], e, a, ha, _ => by simpa [zipE] using ha
  | p :: ps, v :: vs, e, a, ha, hp => by
    have := Agree.zip (ps := ps) (vs := vs) (ha.put (hp p (by simp)) v) (fun q hq => hp q (List.mem_cons_of_mem _ hq))
    simpa [zipE, Act.put] using this
def QR (J0 : Nat → Hp → List Res → Prop) (E0 : Code → Hp → List Res → Prop) (k : Nat) (tl : List Res) : Post := fun ex e R h ds =>
  ∃ R', (R' ++ tl).Sublist R ∧ match ex with
    | .normal => J0 (k + 1) h R'
    | .ret => E0 .ret h R'
    | .exit id => E0 (.exit id) h R'
    | .goto t => E0 (.goto t) h R'
    | _ => False
theorem GC.rangeFunc {g : Operand} {ps : List Tmp} {assign body : Code} {gf : FuncId} {caps : List Value} {xs : List (List Value)}
    (hrnd : C.rnd = none) (hg : opE e g = some (.func (.func gf) #[] caps.toArray)) (eg : ∀ args w, (callFunc gf args).run C.P w = .ok (.enter gf args) w)
    (it : IterH C.P gf caps h xs) (hps : ∀ x ∈ xs, x.length = ps.length) (hpb : ∀ p ∈ ps, Nat.blt p C.n = true)
    (J0 : Nat → Hp → List Res → Prop) (hJm : ∀ k h' h'' R', h'.le h'' → J0 k h' R' → J0 k h'' R') (E0 : Code → Hp → List Res → Prop) (hJ : J0 0 h R) (env2 : List Value → Env)
    (hassign : ∀ w' S' L R' h' x, x ∈ xs → GC ⟨C.P, C.n, w', S', h', some L⟩ (QK (env2 x) R' h' []) assign (zipE ps x e) R' h' [])
    (round : ∀ L D r w' S' k x h' R', xs[k]? = some x → h.le h' → J0 k h' R' → GC ⟨C.P, C.n, w', S', h', some L⟩ (QR J0 E0 k (tailR D L r)) body (env2 x) (R' ++ tailR D L r) h' [])
    (done : ∀ D h' R', h.le h' → J0 xs.length h' R' → Q .normal e (R' ++ [other D (.deferred (some []))]) h' (⟨.collected D, #[]⟩ :: ds))
    (jump : ∀ D c h' R', h.le h' → E0 c h' R' → GC C Q c e (R' ++ [other D (.deferred (some []))]) h' (⟨.collected D, #[]⟩ :: ds)) :
    GC C Q (.rangeFunc g ps.toArray assign body) e R h ds := fun a w ha hs => by
  refine wpIn_rangeFunc fun fn hfn => ?_
  have hF : C.F = Fw := by unfold Ctx.F Fw; rw [hrnd]
  have hro : C.F.round = none := by rw [hF]; rfl
  rw [hro]
  obtain ⟨rec, hrec⟩ : ∃ rec : Loop, rec = { state := .ready, pending := none, fn, tmps := a.tmps, params := ps.toArray, assign, body, defers := w.heap.size } := ⟨_, rfl⟩
  obtain ⟨w1, hw1⟩ : ∃ w1, (w.alloc (.deferred (some []))).alloc (.loop rec) = w1 := ⟨_, rfl⟩
  have s1 : Sat C.w0 C.S C.h0 h (R ++ tailR w.heap.size (w.heap.size + 1) rec) w1 := by
    have s2 := (hs.alloc (.deferred (some []))).alloc (.loop rec)
    rw [World.size_alloc, hw1] at s2
    refine s2.perm ?_
    refine (tail_perm R _ _ rec).symm.trans ?_
    exact List.Perm.cons _ ((List.perm_append_comm (l₁ := R) (l₂ := [other w.heap.size (.deferred (some []))])))
  refine ⟨w.heap.size + 1, [{ target := .collected w.heap.size, args := #[] }], w1, { target := .fn (.func gf) caps.toArray, args := #[.func (.yield (w.heap.size + 1)) #[] #[]] }, w1, gf,
    (.func (.yield (w.heap.size + 1)) #[] #[] :: caps).toArray, w1, ?_, ?_, ?_, ?_, fun hd => by simp [Ctx.F] at hd, ?_⟩
  · rw [← hw1, hrec]; exact run_enterLoop_outer _ _ _ _ _
  · simp only [resolve, ha.eval hg]
    simp [go_sem]
  · intro f' hf'; rw [hF]; trivial
  · simp [invoke, go_sem, eg]
  generalize hD : w.heap.size = D at *
  generalize hL : D + 1 = L at *
  let J : Nat → Hp → List Res → Prop := fun k h' R' => ∃ R0, R' = R0 ++ tailR D L rec ∧ h.le h' ∧ J0 k h' R0
  let E : Hp → List Res → Prop := fun h' R' => ∃ c R0, R' = R0 ++ tailR D L { rec with state := .done, pending := some c } ∧ h.le h' ∧ E0 c h' R0
  have hcall := it L J E h (R ++ tailR D L rec) (Hp.le_refl _) (fun k h' h'' R' hl ⟨R0, hr, hle, hj⟩ => ⟨R0, hr, Hp.le_trans hle hl, hJm k h' h'' R0 hl hj⟩) ?_ ⟨R, rfl, Hp.le_refl _, hJ⟩
  · have hc := hcall w1 (s1.forCall (Rfr := []) (by simp))
    have hc1 : CallsIn Fence.wide (9 - 1) C.P gf _ w1 _ := callsIn_wide.2 hc
    have hc2 : CallsIn C.F (9 - 1) C.P gf _ w1 _ := hc1
    refine hc2.mono ?_
    rintro en w3 ⟨h', R', hs', rfl, hJE⟩
    have hsat := s1.afterCall (Rfr := []) (by simp) hs'
    rw [List.append_nil] at hsat
    have hag : Agree C.n (⟨.collected D, #[]⟩ :: ds) e { a with defers := [{ target := .collected D, args := #[] }] ++ a.defers } := ⟨ha.size, by simp [ha.defers], ha.slots⟩
    rcases hJE with ⟨R0, rfl, hl, hj⟩ | ⟨c, R0, rfl, hl, he⟩
    · have hrun := run_endLoop (P := C.P) hsat.tailLoop (by rw [hrec]; simp)
      have hpn : rec.pending = none := by rw [hrec]
      have s3 := ((hsat.putTail (r' := { rec with state := .exhausted })).perm (tail_perm R0 D L _)).tail
      rw [hpn] at hrun s3
      exact ⟨none, _, hrun, e, _, h', _, hag, s3, done D h' R0 hl hj⟩
    · have hrun := run_endLoop (P := C.P) hsat.tailLoop (by simp)
      have s3 := ((hsat.putTail (r' := { rec with state := .exhausted, pending := some c })).perm (tail_perm R0 D L _)).tail
      exact ⟨some c, _, hrun, jump D c h' R0 hl he _ _ hag s3⟩
  · rintro k x h' R' hx hle ⟨R0, rfl, hl, hj⟩ w2 s2
    have hxm : x ∈ xs := List.mem_of_getElem? hx
    have hloop := s2.tailLoop
    refine ⟨rec.fn, _, rec.assign, rec.body, run_yield hloop (by rw [hrec]; simpa using hps x hxm), roundIn_of_wpIn trivial ?_⟩
    have hag0 : Agree C.n [] e { tmps := a.tmps, defers := [] } := ⟨ha.size, rfl, ha.slots⟩
    have hag1 := hag0.zip (ps := ps) (vs := x) hpb
    have htm : (rec.params.zip x.toArray).foldl (fun tmps (t, a) => tmps.setIfInBounds t a) rec.tmps = (ps.zip x).foldl (fun t (p, v) => t.setIfInBounds p v) a.tmps := by
      rw [hrec]
      simp only [List.zip_toArray, List.foldl_toArray]
    rw [htm]
    have hasg : rec.assign = assign := by rw [hrec]
    have hbod : rec.body = body := by rw [hrec]
    rw [hasg, hbod]
    have g1 := hassign w2 (idsOf (R0 ++ tailR D L rec)) L (R0 ++ tailR D L rec) h' x hxm _ w2 hag1 s2
    have g2 : assign.wpIn (Fw.inRound L) 9 C.P _ _ w2 := g1
    refine wpIn_any (n := 9) rfl (wpIn_mono g2 ?_)
    rintro ex a2 w3 ⟨e2, R2, h2, ds2, ha2, hs2, rfl, hsub, rfl, rfl, rfl⟩
    have hl3 := hs2.tailLoop
    refine ⟨_, run_beginRound hl3 (by rw [hrec]), ?_⟩
    have hs3 := hs2.putTail (r' := { rec with state := .busy })
    have hbusy : ∀ (j : Option Code) (w4 : World) (Ra : List Res) (hb : Hp), Sat w2 (idsOf (R0 ++ tailR D L rec)) h2 hb (Ra ++ tailR D L { rec with state := .busy }) w4 →
        (Instr.endRound L j).run C.P w4 = .ok (.bool j.isNone) (w4.putObj L (.loop { rec with state := if j.isNone then .ready else .done, pending := j })) ∧
        Sat w2 (idsOf (R0 ++ tailR D L rec)) h2 hb (Ra ++ tailR D L { rec with state := if j.isNone then .ready else .done, pending := j }) (w4.putObj L (.loop { rec with state := if j.isNone then .ready else .done, pending := j })) := fun j w4 Ra hb s4 =>
      ⟨run_endRound (r := { rec with state := .busy }) j s4.tailLoop, s4.putTail⟩
    have g3 := round L D { rec with state := .busy } w2 (idsOf (R0 ++ tailR D L rec)) k x h2 R0 hx (Hp.le_trans (Hp.le_refl _) hl) hj a2 _ (ha2.sub hsub.sub) hs3
    have g4 : body.wpIn (Fw.inRound L) 9 C.P _ _ _ := g3
    refine wpIn_any (n := 9) rfl (wpIn_mono g4 ?_)
    rintro ex a4 w4 ⟨e4, R4, h4, ds4, ha4, hs4, Ra, hsl, hq⟩
    have hs5 := hs4.weaken hsl
    have hl4 := Hp.le_trans hl hs4.hext
    cases ex with
    | normal =>
      obtain ⟨hr, hs6⟩ := hbusy none w4 Ra h4 hs5
      refine ⟨_, _, hr, true, h4, _, rfl, hs6, .inl ⟨rfl, Ra, ?_, hl4, hq⟩⟩
      rw [hrec]; rfl
    | ret =>
      obtain ⟨hr, hs6⟩ := hbusy (some .ret) w4 Ra h4 hs5
      exact ⟨_, _, hr, false, h4, _, rfl, hs6, .inr ⟨rfl, _, Ra, rfl, hl4, hq⟩⟩
    | exit id =>
      obtain ⟨hr, hs6⟩ := hbusy (some (.exit id)) w4 Ra h4 hs5
      exact ⟨_, _, hr, false, h4, _, rfl, hs6, .inr ⟨rfl, _, Ra, rfl, hl4, hq⟩⟩
    | goto t =>
      obtain ⟨hr, hs6⟩ := hbusy (some (.goto t)) w4 Ra h4 hs5
      exact ⟨_, _, hr, false, h4, _, rfl, hs6, .inr ⟨rfl, _, Ra, rfl, hl4, hq⟩⟩
    | panic ch => exact hq.elim
    | outgrown => exact hq.elim
end

/-! ### a function that holds one range over a function -/
def mark (D : Nat) : Deferred := ⟨.collected D, #[]⟩
def FnM (C : Ctx) (fn : Func) (Rp : Ending → Hp → List Res → Prop) : Post := fun ex e R h ds =>
  match ex with
  | .normal | .ret => (ds = [] ∧ ∃ v, ResV C fn e R h ds v ∧ View C h R (Rp (.returned v))) ∨
      ∃ D R0, ds = [mark D] ∧ (R0 ++ [other D (.deferred (some []))]).Sublist R ∧ ∃ v, ResV C fn e R0 h ds v ∧ View C h R0 (Rp (.returned v))
  | _ => False
theorem callsH_of_mark {P : Program} {f : FuncId} {fn : Func} {c : Code} {n : Nat} {args : List Value} {h : Hp} {Rin : List Res} {Rp : Ending → Hp → List Res → Prop}
    (hf : P.funcs[f]? = some fn) (hb : fn.body = some c) (hn : fn.ntmps = n) (hsz : Nat.ble args.length n = true)
    (hg : ∀ w, GC ⟨P, n, w, idsOf Rin, h, none⟩ (FnM ⟨P, n, w, idsOf Rin, h, none⟩ fn Rp) c (envFrom 0 args) Rin h []) : CallsH P f args.toArray h Rin Rp := fun w hw => by
  refine callsIn_wide.1 (callsIn_of_wp_marks (F := Fence.wide) (n := 9) hf hb trivial ?_)
  have hle : args.length ≤ n := by simpa using hsz
  have h1 := hg w _ w (Agree.start hle) hw
  have h2 : c.wpIn Fence.wide 9 P _ _ w := h1
  rw [hn]
  refine wpIn_mono h2 ?_
  rintro ex a' w' ⟨e, R, h', ds, ha, hs, q⟩
  have fin : ∀ (hq : (ds = [] ∧ ∃ v, ResV ⟨P, n, w, idsOf Rin, h, none⟩ fn e R h' ds v ∧ View ⟨P, n, w, idsOf Rin, h, none⟩ h' R (Rp (.returned v))) ∨
      ∃ D R0, ds = [mark D] ∧ (R0 ++ [other D (.deferred (some []))]).Sublist R ∧ ∃ v, ResV ⟨P, n, w, idsOf Rin, h, none⟩ fn e R0 h' ds v ∧ View ⟨P, n, w, idsOf Rin, h, none⟩ h' R0 (Rp (.returned v))),
      LeavesInM Fence.wide 9 P fn a'.tmps (fun e w' => ∃ h' R', Sat w (idsOf Rin) h h' R' w' ∧ Rp e h' R') a'.defers .returning w' := by
    rintro (⟨rfl, v, hv, hx⟩ | ⟨D, R0, rfl, hsl, v, hv, hx⟩)
    · rw [ha.defers]
      exact ⟨v, hv a' w' ha hs, hx w' hs⟩
    · rw [ha.defers]
      have s1 := (hs.weaken hsl).perm (List.perm_append_comm (l₁ := R0) (l₂ := [other D (.deferred (some []))])).symm
      have hd : w'.heap[D]? = some (.deferred (some [])) := s1.res (other D _) (by simp)
      have s2 := s1.putHead (o' := .deferred none)
      have s3 := s2.tail
      exact ⟨by simp, .inl ⟨D, _, rfl, run_takeDeferred hd, v, hv a' _ ha s3, hx _ s3⟩⟩
  cases ex with
  | normal => exact fin q
  | ret => exact fin q
  | panic ch => exact q.elim
  | exit id => exact q.elim
  | goto l => exact q.elim
  | outgrown => exact q.elim
section
variable {C : Ctx} {fn : Func} {Rp : Ending → Hp → List Res → Prop} {e : Env} {R : List Res} {h : Hp} {ds : List Deferred}
theorem FnM.retV {t : Tmp} {v v' : Value} {D : Nat} {R0 : List Res} (hr : fn.results = #[.tmp t]) (hv : lk e t = some v') (hle : C.h0.le h) (hR : (R0 ++ [other D (.deferred (some []))]).Sublist R) (hvv : v' = v) : FnM C fn (IsV C.h0 v) .ret e R h [mark D] :=
  .inr ⟨D, R0, rfl, hR, v', fun a w ha hs => by rw [results_tmp hr]; rw [ha.slots _ _ hv], View.first hle ⟨by rw [hvv], rfl, rfl⟩⟩
theorem FnM.retV0 {t : Tmp} {v v' : Value} (hr : fn.results = #[.tmp t]) (hv : lk e t = some v') (hle : C.h0.le h) (hvv : v' = v) : FnM C fn (IsV C.h0 v) .ret e R h [] :=
  .inl ⟨rfl, v', fun a w ha hs => by rw [results_tmp hr]; rw [ha.slots _ _ hv], View.first hle ⟨by rw [hvv], rfl, rfl⟩⟩
end

/-! ### the head of a row of one's own -/
section
variable {C : Ctx} {Q : Post} {e : Env} {R : List Res} {h : Hp} {ds : List Deferred}
theorem Sat.rowTake {w0 w : World} {S : List Nat} {h0 : Hp} {i : Nat} {A : Option Addr} {n m c sz : Nat} {E : TypeId} {xs : List Value} (s : Sat w0 S h0 h R w) (hr : R[i]? = some (row A n c E sz xs)) (hm : m ≤ n) : Sat w0 S h0 h (R.set i (row A m c E sz (xs.take (m * sz)))) w := by
  have hi := (List.getElem?_eq_some_iff.1 hr).1
  have hr2 : R[i] = row A n c E sz xs := (List.getElem?_eq_some_iff.1 hr).2
  have hown : w.ownsRow 0 E sz (.slice A n c) n xs := s.res _ (List.mem_of_getElem? hr)
  have hmm : m * sz ≤ n * sz := Nat.mul_le_mul_right _ hm
  have hnew : (row A m c E sz (xs.take (m * sz))).holds w := by
    refine ⟨by rw [List.length_take, hown.1]; omega, ?_⟩
    rcases hown.2 with ⟨h1, h2⟩ | ⟨g, cap, cur, h1, hb, hg, hnc, hcm, hcs, htake⟩
    · cases h1; exact .inl ⟨by rw [Nat.le_zero.1 hm], Nat.le_zero.1 hm⟩
    · cases h1
      exact .inr ⟨g, c, cur, rfl, hb, hg, by omega, hcm, hcs, by rw [← htake, List.take_take, Nat.min_eq_left hmm]⟩
  have hids : (row A m c E sz (xs.take (m * sz))).ids = (row A n c E sz xs).ids := by cases A <;> rfl
  have heq : idsOf (R.set i (row A m c E sz (xs.take (m * sz)))) = idsOf R := by
    unfold idsOf
    rw [List.flatMap_def, List.flatMap_def, List.map_set]
    congr 1
    refine List.ext_getElem? fun j => ?_
    rw [List.getElem?_set]
    split
    · rename_i hij
      subst hij
      rw [if_pos (by simpa using hi), List.getElem?_map, hr, hids]
      rfl
    · rfl
  exact { s with
    res := fun r hx => by
      rcases List.mem_or_eq_of_mem_set hx with hx | rfl
      · exact s.res r hx
      · exact hnew
    nodup := by rw [heq]; exact s.nodup
    own := by rw [heq]; exact s.own }
theorem GC.rowTake (i m : Nat) {A : Option Addr} {n c sz : Nat} {E : TypeId} {xs : List Value} {c0 : Code} (hr : R[i]? = some (row A n c E sz xs)) (hm : m ≤ n) (k : GC C Q c0 e (R.set i (row A m c E sz (xs.take (m * sz)))) h ds) : GC C Q c0 e R h ds := fun a w ha hs => k a w ha (hs.rowTake hr hm)
theorem ResV.cell {fn : Func} {t b off i : Nat} {T T' : TypeId} {cs : List Value} {v : Value} (hr : fn.results = #[.cell t T]) (hp : lk e t = some (.pointer (some ⟨b, off, none⟩))) (hg : ∀ w, (isAgg T).run C.P w = .ok false w) (hR : R[i]? = some (blk b T' cs)) (hv : cs[off]? = some v) : ResV C fn e R h ds v := fun a w ha hs => by
  have hw : w.heap[b]? = some (.cells cs.toArray T' (0, 0)) := hs.res _ (List.mem_of_getElem? hR)
  have h1 : w.cell? ⟨b, off, none⟩ = some v := (cell_blk hw off).trans hv
  have h2 : a.tmps[t]?.getD undef = _ := (Array.getD_eq_getD_getElem? ..).symm.trans (ha.slots _ _ hp)
  simp [results, hr, h2, asAddr, loadVar, hg, load, Sem.run, h1]
end
end Go.Proofs.YtajdjclhkoenfaaDoor
