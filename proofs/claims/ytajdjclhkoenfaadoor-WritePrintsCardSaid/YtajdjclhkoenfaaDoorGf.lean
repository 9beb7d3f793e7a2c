/- Maps, and ranges over strings and maps. -/
import Derived.Test.YtajdjclhkoenfaaDoorGe
set_option linter.unusedSimpArgs false
set_option linter.unusedVariables false
set_option linter.unusedSectionVars false
namespace Go.Proofs.YtajdjclhkoenfaaDoor
open Go.RowKit

/-! ### lists of pairs -/
section
variable {κ : Type} [DecidableEq κ] {β : Type}
def getM : List (κ × β) → κ → Option β
  | [], _ => none
  | (a, x) :: r, k => if a = k then some x else getM r k
def putM : List (κ × β) → κ → β → List (κ × β)
  | [], k, v => [(k, v)]
  | (a, x) :: r, k, v => if a = k then (a, v) :: r else (a, x) :: putM r k v
theorem getM_putM (es : List (κ × β)) (k j : κ) (v : β) : getM (putM es k v) j = if k = j then some v else getM es j := by
  induction es with
  | nil => simp [putM, getM]
  | cons p r ih =>
    obtain ⟨a, x⟩ := p
    by_cases h : a = k
    · subst h
      simp only [putM, if_true, getM]
      by_cases h2 : a = j <;> simp [h2]
    · simp only [putM, if_neg h, getM, ih]
      by_cases h2 : a = j
      · subst h2; simp [Ne.symm h]
      · simp [h2]
theorem putM_none {es : List (κ × β)} {k : κ} {v : β} (h : getM es k = none) : putM es k v = es ++ [(k, v)] := by
  induction es with
  | nil => rfl
  | cons p r ih =>
    obtain ⟨a, x⟩ := p
    simp only [getM] at h
    by_cases h1 : a = k
    · rw [if_pos h1] at h; cases h
    · rw [if_neg h1] at h; simp [putM, h1, ih h]
end

structure KeyT (P : Program) (t : TypeId) {κ : Type} [DecidableEq κ] (mk : κ → Value) where
  desc : TypeDesc
  under : P.underlying t = some desc
  check : ∀ x em w, (Instr.checkKey em 10000 t (mk x)).run P w = .ok () w
  same : ∀ a b, Instr.sameNow desc (mk a) (mk b) = some (decide (a = b))
  bits : ∀ a, Instr.sameBits 10000 (mk a) (mk a) = true
theorem ba_beq (a b : ByteArray) : (a == b) = decide (a = b) := by
  rw [beq_toListBytes, strOp_eql]
def KeyT.string {P : Program} {t : TypeId} (ht : P.underlying t = some .string) : KeyT P t Value.string where
  desc := .string
  under := ht
  check := fun x em w => by rw [Instr.checkKey]; simp [run_underlying ht]
  same := fun a b => by simp only [Instr.sameNow, ba_beq]
  bits := fun a => by simp [Instr.sameBits, ba_beq]
def KeyT.int {P : Program} {t : TypeId} {k : IntKind} (ht : P.underlying t = some (.int k)) : KeyT P t (Value.int k) where
  desc := .int k
  under := ht
  check := fun x em w => by rw [Instr.checkKey]; simp [run_underlying ht]
  same := fun a b => by simp [Instr.sameNow]; rfl
  bits := fun a => by simp [Instr.sameBits]

def MapIs {κ : Type} (mk : κ → Value) (ents : Array MapEntry) (clock : Nat) (es : List (κ × Value)) : Prop :=
  ents.toList.map (fun e => (e.key, e.val)) = es.map (fun p => (mk p.1, p.2)) ∧ (ents.toList.map (·.born)).Nodup ∧ ∀ e ∈ ents.toList, e.born < clock
def mapR {κ : Type} (b : Nat) (mk : κ → Value) (es : List (κ × Value)) : Res where
  ids := [b]
  holds := fun w => ∃ ents clock, w.heap[b]? = some (.map ents clock) ∧ MapIs mk ents clock es
  loc := fun w w' hk ⟨ents, clock, h1, h2⟩ => ⟨ents, clock, (hk b (by simp)).trans h1, h2⟩

section
variable {P : Program} {t : TypeId} {κ : Type} [DecidableEq κ] {mk : κ → Value}
theorem run_checkKey (K : KeyT P t mk) (x : κ) (em : Bool) (w : World) : (Instr.checkKey em 10000 t (mk x)).run P w = .ok () w := K.check x em w
theorem findNow_eq (K : KeyT P t mk) (k : κ) : ∀ (es : List (κ × Value)) (l : List MapEntry) (i : Nat), l.map (fun e => (e.key, e.val)) = es.map (fun p => (mk p.1, p.2)) →
    Instr.findNow K.desc (mk k) l i = some ((getM (es.zipIdx i |>.map fun p => (p.1.1, (p.2, p.1.2))) k))
  | [], l, i, h => by
    have : l = [] := by simpa using h
    subst this; rfl
  | (a, x) :: es, [], i, h => by simp at h
  | (a, x) :: es, e :: l, i, h => by
    simp only [List.map_cons, List.cons.injEq, Prod.mk.injEq] at h
    obtain ⟨⟨h1, h2⟩, h3⟩ := h
    simp only [Instr.findNow, h1, K.same, List.zipIdx_cons, List.map_cons, getM]
    by_cases hk : k = a
    · subst hk; simp [h2]
    · simp only [hk, decide_false]
      rw [if_neg (Ne.symm hk)]
      exact findNow_eq K k es l (i + 1) h3
theorem getM_zip (k : κ) : ∀ (es : List (κ × Value)) (i : Nat), (getM (es.zipIdx i |>.map fun p => (p.1.1, (p.2, p.1.2))) k).map (·.2) = getM es k
  | [], i => rfl
  | (a, x) :: es, i => by
    simp only [List.zipIdx_cons, List.map_cons, getM]
    by_cases h : a = k
    · simp [h]
    · simp only [if_neg h]; exact getM_zip k es (i + 1)
theorem run_findKey (K : KeyT P t mk) (k : κ) {es : List (κ × Value)} {ents : Array MapEntry} (h : ents.toList.map (fun e => (e.key, e.val)) = es.map (fun p => (mk p.1, p.2))) (w : World) :
    (Instr.findKey t (mk k) ents.toList).run P w = .ok (getM (es.zipIdx 0 |>.map fun p => (p.1.1, (p.2, p.1.2))) k) w := by
  unfold Instr.findKey
  simp only [Sem.run_bind, run_underlying K.under, Result.andThen_ok, findNow_eq K k es ents.toList 0 h]
  rfl
theorem getM_zip_at (k : κ) : ∀ (es : List (κ × Value)) (i j : Nat) (v : Value), getM (es.zipIdx i |>.map fun p => (p.1.1, (p.2, p.1.2))) k = some (j, v) → i ≤ j ∧ es[j - i]? = some (k, v) ∧ ∀ v', putM es k v' = es.set (j - i) (k, v')
  | [], i, j, v, h => by simp [getM] at h
  | (a, x) :: es, i, j, v, h => by
    simp only [List.zipIdx_cons, List.map_cons, getM] at h
    by_cases hak : a = k
    · rw [if_pos hak] at h
      cases h
      subst hak
      simp [putM]
    · rw [if_neg hak] at h
      obtain ⟨h1, h2, h3⟩ := getM_zip_at k es (i + 1) j v h
      obtain ⟨q, rfl⟩ : ∃ q, j = i + 1 + q := ⟨j - (i + 1), by omega⟩
      have e1 : i + 1 + q - i = q + 1 := by omega
      have e2 : i + 1 + q - (i + 1) = q := by omega
      rw [e2] at h2 h3
      rw [e1]
      exact ⟨by omega, by simpa using h2, fun v' => by simp [putM, hak, h3]⟩
theorem getM_zip_none (k : κ) (es : List (κ × Value)) (i : Nat) (h : getM (es.zipIdx i |>.map fun p => (p.1.1, (p.2, p.1.2))) k = none) : getM es k = none := by
  have := getM_zip k es i
  rw [h] at this
  exact this.symm
end

section
variable {C : Ctx} {ops : Array Oper} {Q : Post} {l : List Oper} {e : Env} {R : List Res} {h : Hp} {ds : List Deferred} {d ty : Nat} {pos : String} {after : Array Edge} {κ : Type} [DecidableEq κ] {mk : κ → Value}
theorem GO.makeMap {T : TypeId} (mk : κ → Value) (hn : Nat.blt d C.n = true) (k : ∀ b, GO C ops Q l ((d, .map (some b)) :: e) (mapR b mk [] :: R) h ds) : GO C ops Q (⟨some d, .makeMap T none, ty, pos, after, none⟩ :: l) e R h ds :=
  GO.gen rfl rfl hn (fun _ hc => nomatch hc) fun a w ha hs =>
    ⟨.map (some w.heap.size), w.alloc (.map #[] 0), mapR w.heap.size mk [] :: R, h, by simp [execOp, Instr.makeMap, newObj, Sem.run],
      (hs.alloc (.map #[] 0)).turn (r' := mapR w.heap.size mk []) (w' := w.alloc (.map #[] 0)) rfl rfl rfl (Nat.le_refl _) (fun _ _ _ => rfl) ⟨#[], 0, heap_alloc_new w _, by simp, by simp, by simp⟩ (by simp [mapR]) (fun k hk => .inl hk), k _⟩
theorem GO.makeMap_s {T kt et : TypeId} (hn : Nat.blt d C.n = true) (hT : C.P.underlying T = some (.map kt et)) (hk : C.P.underlying kt = some .string) (k : ∀ b, GO C ops Q l ((d, .map (some b)) :: e) (mapR b Value.string [] :: R) h ds) : GO C ops Q (⟨some d, .makeMap T none, ty, pos, after, none⟩ :: l) e R h ds := GO.makeMap Value.string hn k
theorem GO.makeMap_i {T kt et : TypeId} {q : IntKind} (hn : Nat.blt d C.n = true) (hT : C.P.underlying T = some (.map kt et)) (hk : C.P.underlying kt = some (.int q)) (k : ∀ b, GO C ops Q l ((d, .map (some b)) :: e) (mapR b (Value.int q) [] :: R) h ds) : GO C ops Q (⟨some d, .makeMap T none, ty, pos, after, none⟩ :: l) e R h ds := GO.makeMap (Value.int q) hn k
theorem GO.lookup {i : Nat} {T kt et : TypeId} {x y : Operand} {b : Nat} {es : List (κ × Value)} {key : κ} {z : Value} (hn : Nat.blt d C.n = true) (hx : opE e x = some (.map (some b))) (hy : opE e y = some (mk key)) (hr : R[i]? = some (mapR b mk es)) (hT : C.P.underlying T = some (.map kt et))
    (K : KeyT C.P kt mk) (hz : ∀ w, (zeroValue et).run C.P w = .ok z w) (k : GO C ops Q l ((d, (getM es key).getD z) :: e) R h ds) : GO C ops Q (⟨some d, .lookup T x y false, ty, pos, after, none⟩ :: l) e R h ds :=
  GO.gen rfl rfl hn (fun _ hc => nomatch hc) fun a w ha hs => by
    obtain ⟨ents, clock, hw, hm⟩ := hs.res _ (List.mem_of_getElem? hr)
    refine ⟨_, w, R, h, ?_, hs, k⟩
    simp only [execOp, ha.eval hx, ha.eval hy]
    have h1 : (getObj b).run C.P w = .ok (.map ents clock) w := by simp [getObj, Sem.run, hw]
    simp only [Instr.lookup, Sem.run_bind, run_underlying hT, Result.andThen_ok, h1, Sem.run_pure, run_checkKey K, run_findKey K key hm.1]
    have h2 := getM_zip key es 0
    cases hg : getM (es.zipIdx 0 |>.map fun p => (p.1.1, (p.2, p.1.2))) key with
    | none => rw [hg] at h2; simp [hz, ← h2]
    | some p => rw [hg] at h2; simp [← h2]
theorem GO.lookupOk {i : Nat} {T kt et : TypeId} {x y : Operand} {b : Nat} {es : List (κ × Value)} {key : κ} {z : Value} (hn : Nat.blt d C.n = true) (hx : opE e x = some (.map (some b))) (hy : opE e y = some (mk key)) (hr : R[i]? = some (mapR b mk es)) (hT : C.P.underlying T = some (.map kt et))
    (K : KeyT C.P kt mk) (hz : ∀ w, (zeroValue et).run C.P w = .ok z w) (k : GO C ops Q l ((d, .tuple #[(getM es key).getD z, .bool (getM es key).isSome]) :: e) R h ds) : GO C ops Q (⟨some d, .lookup T x y true, ty, pos, after, none⟩ :: l) e R h ds :=
  GO.gen rfl rfl hn (fun _ hc => nomatch hc) fun a w ha hs => by
    obtain ⟨ents, clock, hw, hm⟩ := hs.res _ (List.mem_of_getElem? hr)
    refine ⟨_, w, R, h, ?_, hs, k⟩
    simp only [execOp, ha.eval hx, ha.eval hy]
    have h1 : (getObj b).run C.P w = .ok (.map ents clock) w := by simp [getObj, Sem.run, hw]
    simp only [Instr.lookup, Sem.run_bind, run_underlying hT, Result.andThen_ok, h1, Sem.run_pure, run_checkKey K, run_findKey K key hm.1]
    have h2 := getM_zip key es 0
    cases hg : getM (es.zipIdx 0 |>.map fun p => (p.1.1, (p.2, p.1.2))) key with
    | none => rw [hg] at h2; simp [hz, ← h2]
    | some p => rw [hg] at h2; simp [← h2]
theorem run_mapUpdate_is {P : Program} {T kt et : TypeId} {b : Nat} {es : List (κ × Value)} {key : κ} {v : Value} {w : World} {ents : Array MapEntry} {clock : Nat} (hT : P.underlying T = some (.map kt et)) (K : KeyT P kt mk) (hw : w.heap[b]? = some (.map ents clock)) (hm : MapIs mk ents clock es) :
    ∃ ents' clock', (Instr.mapUpdate T (.map (some b)) (mk key) v).run P w = .ok () (w.putObj b (.map ents' clock')) ∧ MapIs mk ents' clock' (putM es key v) := by
  have h1 : (getObj b).run P w = .ok (.map ents clock) w := by simp [getObj, Sem.run, hw]
  have h3 : ∀ o, (setObj b o).run P w = .ok () (w.putObj b o) := fun o => by simp [setObj, Sem.run, hw, World.putObj]
  simp only [Instr.mapUpdate, Sem.run_bind, run_underlying hT, Result.andThen_ok, h1, run_checkKey K, run_findKey K key hm.1]
  cases hg : getM (es.zipIdx 0 |>.map fun p => (p.1.1, (p.2, p.1.2))) key with
  | none =>
    refine ⟨_, _, h3 _, ?_⟩
    rw [putM_none (getM_zip_none key es 0 hg)]
    refine ⟨by simp [hm.1], ?_, ?_⟩
    · simp only [Array.toList_push, List.map_append, List.map_cons, List.map_nil]
      refine List.nodup_append.2 ⟨hm.2.1, by simp, fun a ha c hc hac => ?_⟩
      simp at hc
      subst hac
      obtain ⟨q, hq, rfl⟩ := List.mem_map.1 ha
      have := hm.2.2 q hq
      omega
    · intro q hq
      simp only [Array.toList_push, List.mem_append, List.mem_singleton] at hq
      rcases hq with hq | rfl
      · have := hm.2.2 q hq; omega
      · simp
  | some p =>
    obtain ⟨j, u⟩ := p
    obtain ⟨_, h4, h5⟩ := getM_zip_at key es 0 j u hg
    simp only [Nat.sub_zero] at h4 h5
    have hj : j < es.length := (List.getElem?_eq_some_iff.1 h4).1
    have hlen : ents.toList.length = es.length := by have := congrArg List.length hm.1; simpa using this
    have hje : j < ents.size := by simpa [← hlen] using hj
    have hkey : ents[j].key = mk key := by
      have := congrArg (fun l => l[j]?) hm.1
      simp only [List.getElem?_map, h4, Option.map_some] at this
      rw [Array.getElem?_toList, Array.getElem?_eq_getElem hje] at this
      simp at this
      exact this.1
    have hstay : (Instr.keyThatStays (mk key) (mk key)).run P w = .ok (mk key) w := by
      simp [Instr.keyThatStays, K.bits]
    have h6 : (((ents[j]?).map (·.key)).getD (mk key)) = mk key := by simp [hje, hkey]
    simp only [h6, Sem.run_bind, hstay, Result.andThen_ok]
    refine ⟨_, _, h3 _, ?_⟩
    rw [h5]
    refine ⟨?_, ?_, ?_⟩
    · apply List.ext_getElem?
      intro q
      have hq := congrArg (fun l => l[q]?) hm.1
      simp only [List.getElem?_map] at hq ⊢
      rw [Array.getElem?_toList] at hq ⊢
      rw [Array.getElem?_modify, List.getElem?_set]
      by_cases hqj : j = q
      · subst hqj
        simp [hje, hj]
      · simp only [if_neg hqj]
        exact hq
    · have : (ents.modify j fun e => { e with key := mk key, val := v }).toList.map (·.born) = ents.toList.map (·.born) := by
        apply List.ext_getElem?
        intro q
        simp only [List.getElem?_map]
        rw [Array.getElem?_toList, Array.getElem?_toList, Array.getElem?_modify]
        by_cases hqj : j = q
        · subst hqj; simp [hje]
        · simp [hqj]
      rw [this]
      exact hm.2.1
    · intro q hq
      obtain ⟨i, hi⟩ := List.mem_iff_getElem?.1 hq
      rw [Array.getElem?_toList, Array.getElem?_modify] at hi
      by_cases hij : j = i
      · subst hij
        rw [if_pos rfl, Array.getElem?_eq_getElem hje] at hi
        simp at hi
        subst hi
        exact hm.2.2 ents[j] (by simp)
      · rw [if_neg hij] at hi
        exact hm.2.2 q (List.mem_iff_getElem?.2 ⟨i, by rw [Array.getElem?_toList]; exact hi⟩)
theorem grownBy_putObj_ (w : World) (b : Nat) (o : Obj) : w.grownBy (w.putObj b o) (some b) := grownBy_putObj' w b o
theorem GO.mapUpdate_aux {i : Nat} {T kt et : TypeId} {b : Nat} {es : List (κ × Value)} {key : κ} {v : Value} {w : World} (s : Sat C.w0 C.S C.h0 h R w) (hr : R[i]? = some (mapR b mk es)) (hT : C.P.underlying T = some (.map kt et)) (K : KeyT C.P kt mk) :
    ∃ w', (Instr.mapUpdate T (.map (some b)) (mk key) v).run C.P w = .ok () w' ∧ Sat C.w0 C.S C.h0 h (R.set i (mapR b mk (putM es key v))) w' := by
  obtain ⟨ents, clock, hw, hm⟩ := s.res _ (List.mem_of_getElem? hr)
  obtain ⟨ents', clock', hrun, hm'⟩ := run_mapUpdate_is (key := key) (v := v) hT K hw hm
  exact ⟨_, hrun, s.turnAt hr ⟨_, grownBy_putObj_ w b _, fun k hk => by cases hk; simp [mapR]⟩ ⟨ents', clock', World.putObj_heap_same (Array.getElem?_eq_some_iff.1 hw).1, hm'⟩ (by simp [mapR]) (fun k hk => .inl hk)⟩
theorem GO.mapUpdate {i : Nat} {T kt et : TypeId} {x y z : Operand} {b : Nat} {es : List (κ × Value)} {key : κ} {v : Value} (hx : opE e x = some (.map (some b))) (hy : opE e y = some (mk key)) (hz : opE e z = some v) (hr : R[i]? = some (mapR b mk es)) (hT : C.P.underlying T = some (.map kt et))
    (K : KeyT C.P kt mk) {R' : List Res} (hR : R.set i (mapR b mk (putM es key v)) = R') (k : GO C ops Q l e R' h ds) : GO C ops Q (⟨none, .mapUpdate T x y z, ty, pos, after, none⟩ :: l) e R h ds :=
  GO.skipOp rfl rfl (fun _ hc => nomatch hc) fun a w ha hs => by
    subst hR
    obtain ⟨w', hrun, hs'⟩ := GO.mapUpdate_aux (key := key) (v := v) hs hr hT K
    exact ⟨w', _, h, by simp only [execOp, ha.eval hx, ha.eval hy, ha.eval hz]; simp [hrun], hs', k⟩
theorem GO.insert {i : Nat} {T kt et : TypeId} {x y z : Operand} {b : Nat} {es : List (κ × Value)} {key : κ} {v : Value} (hx : opE e x = some (.map (some b))) (hy : opE e y = some (mk key)) (hz : opE e z = some v) (hr : R[i]? = some (mapR b mk es)) (hT : C.P.underlying T = some (.map kt et))
    (K : KeyT C.P kt mk) {R' : List Res} (hR : R.set i (mapR b mk (putM es key v)) = R') (k : GO C ops Q l e R' h ds) : GO C ops Q (⟨none, .insert T x y z, ty, pos, after, none⟩ :: l) e R h ds :=
  GO.skipOp rfl rfl (fun _ hc => nomatch hc) fun a w ha hs => by
    subst hR
    obtain ⟨w', hrun, hs'⟩ := GO.mapUpdate_aux (key := key) (v := v) hs hr hT K
    exact ⟨w', _, h, by simp only [execOp, ha.eval hx, ha.eval hy, ha.eval hz]; simp [hrun], hs', k⟩
theorem GO.len_map {i : Nat} {x : Operand} {t kt et : TypeId} {b : Nat} {es : List (κ × Value)} (hn : Nat.blt d C.n = true) (hx : opE e x = some (.map (some b))) (hr : R[i]? = some (mapR b mk es)) (ht : C.P.underlying t = some (.map kt et)) (k : GO C ops Q l ((d, .int .i64 es.length) :: e) R h ds) :
    GO C ops Q (⟨some d, .call ⟨.builtin .len, #[x], #[t]⟩, ty, pos, after, none⟩ :: l) e R h ds :=
  GO.gen rfl rfl hn (fun _ hc => nomatch hc) fun a w ha hs => by
    obtain ⟨ents, clock, hw, hm⟩ := hs.res _ (List.mem_of_getElem? hr)
    refine ⟨_, w, R, h, ?_, hs, k⟩
    have h1 : (getObj b).run C.P w = .ok (.map ents clock) w := by simp [getObj, Sem.run, hw]
    have h2 : ents.size = es.length := by have := congrArg List.length hm.1; simpa using this
    simp only [execOp, resolve]
    simp [ha.eval hx, invoke, builtin, Builtin.len_, run_underlying ht, goInt, h1, h2]

/-! ### range over a string -/
def strIt (b : Nat) (s : ByteArray) (pos : Nat) : Res := other b (.stringIter s pos)
theorem GO.range_str {T : TypeId} {x : Operand} {s : ByteArray} (hn : Nat.blt d C.n = true) (hx : opE e x = some (.string s)) (hT : C.P.underlying T = some .string) (k : ∀ b, GO C ops Q l ((d, .pointer (some ⟨b, 0, none⟩)) :: e) (strIt b s 0 :: R) h ds) :
    GO C ops Q (⟨some d, .range T x, ty, pos, after, none⟩ :: l) e R h ds :=
  GO.gen rfl rfl hn (fun _ hc => nomatch hc) fun a w ha hs =>
    ⟨.pointer (some ⟨w.heap.size, 0, none⟩), w.alloc (.stringIter s 0), _, h, by simp [execOp, ha.eval hx, Instr.range, run_underlying hT, newObj, Sem.run], hs.alloc _, k _⟩
theorem GO.next_str_end {i : Nat} {x : Operand} {b p : Nat} {s : ByteArray} (hn : Nat.blt d C.n = true) (hx : opE e x = some (.pointer (some ⟨b, 0, none⟩))) (hr : R[i]? = some (strIt b s p)) (hp : s.size ≤ p) (k : GO C ops Q l ((d, .tuple #[.bool false]) :: e) R h ds) :
    GO C ops Q (⟨some d, .next x true, ty, pos, after, none⟩ :: l) e R h ds :=
  GO.gen rfl rfl hn (fun _ hc => nomatch hc) fun a w ha hs => by
    have hw : w.heap[b]? = some (.stringIter s p) := hs.res _ (List.mem_of_getElem? hr)
    refine ⟨_, w, R, h, ?_, hs, k⟩
    have h1 : (getObj b).run C.P w = .ok (.stringIter s p) w := by simp [getObj, Sem.run, hw]
    simp only [execOp, ha.eval hx]
    simp [Instr.next, h1, Nat.not_lt.2 hp]
theorem GO.next_str {i : Nat} {x : Operand} {b p : Nat} {s : ByteArray} (hn : Nat.blt d C.n = true) (hx : opE e x = some (.pointer (some ⟨b, 0, none⟩))) (hr : R[i]? = some (strIt b s p)) (hp : p < s.size) {R' : List Res} (hR : R.set i (strIt b s (p + (Utf8.decode s p).2)) = R')
    (k : GO C ops Q l ((d, .tuple #[.bool true, .int .i64 p, .int .i32 (Utf8.decode s p).1]) :: e) R' h ds) : GO C ops Q (⟨some d, .next x true, ty, pos, after, none⟩ :: l) e R h ds :=
  GO.gen rfl rfl hn (fun _ hc => nomatch hc) fun a w ha hs => by
    have hw : w.heap[b]? = some (.stringIter s p) := hs.res _ (List.mem_of_getElem? hr)
    have hlt := (Array.getElem?_eq_some_iff.1 hw).1
    refine ⟨_, w.putObj b (.stringIter s (p + (Utf8.decode s p).2)), R', h, ?_, ?_, k⟩
    · have h1 : (getObj b).run C.P w = .ok (.stringIter s p) w := by simp [getObj, Sem.run, hw]
      have h3 : ∀ o, (setObj b o).run C.P w = .ok () (w.putObj b o) := fun o => by simp [setObj, Sem.run, hw, World.putObj]
      simp only [execOp, ha.eval hx]
      simp [Instr.next, h1, hp, h3, goInt]
    · rw [← hR]
      exact hs.turnAt hr ⟨_, grownBy_putObj_ w b _, fun k hk => by cases hk; simp [strIt, other]⟩ (World.putObj_heap_same hlt) (by simp [strIt, other]) (fun k hk => .inl hk)
end

/-! ### the same at keys that are strings, or numbers -/
section
variable {C : Ctx} {ops : Array Oper} {Q : Post} {l : List Oper} {e : Env} {R : List Res} {h : Hp} {ds : List Deferred} {d ty : Nat} {pos : String} {after : Array Edge}
theorem GO.lookup_i {q : IntKind} {i : Nat} {T kt et : TypeId} {x y : Operand} {b : Nat} {es : List (Int × Value)} {key : Int} {z : Value} (hn : Nat.blt d C.n = true) (hx : opE e x = some (.map (some b))) (hy : opE e y = some (Value.int q key)) (hr : R[i]? = some (mapR b (Value.int q) es)) (hT : C.P.underlying T = some (.map kt et))
    (hk : C.P.underlying kt = some (.int q)) (hz : ∀ w, (zeroValue et).run C.P w = .ok z w) (k : GO C ops Q l ((d, (getM es key).getD z) :: e) R h ds) : GO C ops Q (⟨some d, .lookup T x y false, ty, pos, after, none⟩ :: l) e R h ds := GO.lookup hn hx hy hr hT (KeyT.int hk) hz k
theorem GO.lookupOk_i {q : IntKind} {i : Nat} {T kt et : TypeId} {x y : Operand} {b : Nat} {es : List (Int × Value)} {key : Int} {z : Value} (hn : Nat.blt d C.n = true) (hx : opE e x = some (.map (some b))) (hy : opE e y = some (Value.int q key)) (hr : R[i]? = some (mapR b (Value.int q) es)) (hT : C.P.underlying T = some (.map kt et))
    (hk : C.P.underlying kt = some (.int q)) (hz : ∀ w, (zeroValue et).run C.P w = .ok z w) (k : GO C ops Q l ((d, .tuple #[(getM es key).getD z, .bool (getM es key).isSome]) :: e) R h ds) : GO C ops Q (⟨some d, .lookup T x y true, ty, pos, after, none⟩ :: l) e R h ds := GO.lookupOk hn hx hy hr hT (KeyT.int hk) hz k
theorem GO.mapUpdate_i {q : IntKind} {i : Nat} {T kt et : TypeId} {x y z : Operand} {b : Nat} {es : List (Int × Value)} {key : Int} {v : Value} (hx : opE e x = some (.map (some b))) (hy : opE e y = some (Value.int q key)) (hz : opE e z = some v) (hr : R[i]? = some (mapR b (Value.int q) es)) (hT : C.P.underlying T = some (.map kt et))
    (hk : C.P.underlying kt = some (.int q)) {R' : List Res} (hR : R.set i (mapR b (Value.int q) (putM es key v)) = R') (k : GO C ops Q l e R' h ds) : GO C ops Q (⟨none, .mapUpdate T x y z, ty, pos, after, none⟩ :: l) e R h ds := GO.mapUpdate hx hy hz hr hT (KeyT.int hk) hR k
theorem GO.insert_i {q : IntKind} {i : Nat} {T kt et : TypeId} {x y z : Operand} {b : Nat} {es : List (Int × Value)} {key : Int} {v : Value} (hx : opE e x = some (.map (some b))) (hy : opE e y = some (Value.int q key)) (hz : opE e z = some v) (hr : R[i]? = some (mapR b (Value.int q) es)) (hT : C.P.underlying T = some (.map kt et))
    (hk : C.P.underlying kt = some (.int q)) {R' : List Res} (hR : R.set i (mapR b (Value.int q) (putM es key v)) = R') (k : GO C ops Q l e R' h ds) : GO C ops Q (⟨none, .insert T x y z, ty, pos, after, none⟩ :: l) e R h ds := GO.insert hx hy hz hr hT (KeyT.int hk) hR k
theorem GO.lookup_s {i : Nat} {T kt et : TypeId} {x y : Operand} {b : Nat} {es : List (ByteArray × Value)} {key : ByteArray} {z : Value} (hn : Nat.blt d C.n = true) (hx : opE e x = some (.map (some b))) (hy : opE e y = some (Value.string key)) (hr : R[i]? = some (mapR b (Value.string) es)) (hT : C.P.underlying T = some (.map kt et))
    (hk : C.P.underlying kt = some .string) (hz : ∀ w, (zeroValue et).run C.P w = .ok z w) (k : GO C ops Q l ((d, (getM es key).getD z) :: e) R h ds) : GO C ops Q (⟨some d, .lookup T x y false, ty, pos, after, none⟩ :: l) e R h ds := GO.lookup hn hx hy hr hT (KeyT.string hk) hz k
theorem GO.lookupOk_s {i : Nat} {T kt et : TypeId} {x y : Operand} {b : Nat} {es : List (ByteArray × Value)} {key : ByteArray} {z : Value} (hn : Nat.blt d C.n = true) (hx : opE e x = some (.map (some b))) (hy : opE e y = some (Value.string key)) (hr : R[i]? = some (mapR b (Value.string) es)) (hT : C.P.underlying T = some (.map kt et))
    (hk : C.P.underlying kt = some .string) (hz : ∀ w, (zeroValue et).run C.P w = .ok z w) (k : GO C ops Q l ((d, .tuple #[(getM es key).getD z, .bool (getM es key).isSome]) :: e) R h ds) : GO C ops Q (⟨some d, .lookup T x y true, ty, pos, after, none⟩ :: l) e R h ds := GO.lookupOk hn hx hy hr hT (KeyT.string hk) hz k
theorem GO.mapUpdate_s {i : Nat} {T kt et : TypeId} {x y z : Operand} {b : Nat} {es : List (ByteArray × Value)} {key : ByteArray} {v : Value} (hx : opE e x = some (.map (some b))) (hy : opE e y = some (Value.string key)) (hz : opE e z = some v) (hr : R[i]? = some (mapR b (Value.string) es)) (hT : C.P.underlying T = some (.map kt et))
    (hk : C.P.underlying kt = some .string) {R' : List Res} (hR : R.set i (mapR b (Value.string) (putM es key v)) = R') (k : GO C ops Q l e R' h ds) : GO C ops Q (⟨none, .mapUpdate T x y z, ty, pos, after, none⟩ :: l) e R h ds := GO.mapUpdate hx hy hz hr hT (KeyT.string hk) hR k
theorem GO.insert_s {i : Nat} {T kt et : TypeId} {x y z : Operand} {b : Nat} {es : List (ByteArray × Value)} {key : ByteArray} {v : Value} (hx : opE e x = some (.map (some b))) (hy : opE e y = some (Value.string key)) (hz : opE e z = some v) (hr : R[i]? = some (mapR b (Value.string) es)) (hT : C.P.underlying T = some (.map kt et))
    (hk : C.P.underlying kt = some .string) {R' : List Res} (hR : R.set i (mapR b (Value.string) (putM es key v)) = R') (k : GO C ops Q l e R' h ds) : GO C ops Q (⟨none, .insert T x y z, ty, pos, after, none⟩ :: l) e R h ds := GO.insert hx hy hz hr hT (KeyT.string hk) hR k
end
end Go.Proofs.YtajdjclhkoenfaaDoor
