/- Contracts of the library's functions in our own words; pointers that are compared, or turned to unsafe ones and back. -/
import Derived.Test.YtajdjclhkoenfaaDoorGs
import Derived.Test.YtajdjclhkoenfaaDoorShelf
import Derived.Lib.Builder
import Derived.Lib.UnsafeStr
import Derived.Lib.RuneCount
import Derived.Laws.Externs
set_option linter.unusedSimpArgs false
set_option linter.unusedVariables false
namespace Go.Proofs.YtajdjclhkoenfaaDoor
open Go.RowKit

section
variable {P : Program} {f : FuncId} {args : Array Value} {h : Hp} {v : Value}
theorem CallsV.below (c : ∀ w, (∀ k o, h k = some o → w.heap[k]? = some o) → Calls P f args w fun e w' => e = .returned v ∧ Below w.heap.size w w') : CallsV P f args h v := fun w hw =>
  (c w hw.hp).mono fun e w' ⟨he, hb⟩ => ⟨h, [], hw.below hb, he, rfl, rfl⟩
theorem CallsV.same (c : ∀ w, Calls P f args w fun e w' => e = .returned v ∧ w' = w) : CallsV P f args h v := CallsV.below fun w _ => (c w).mono fun e w' ⟨he, hw⟩ => ⟨he, by rw [hw]; exact Below.refl _ _⟩
theorem CallsV.draws (c : ∀ w, Calls P f args w fun e w' => e = .returned v ∧ ∃ n, w' = w.drewN n) : CallsV P f args h v := CallsV.below fun w _ => (c w).mono fun e w' ⟨he, n, hw⟩ => ⟨he, by
  subst hw
  exact ((Sat.full w).drewN n).toBelow⟩
theorem CallsV.belowAll (c : ∀ w, Calls P f args w fun e w' => e = .returned v ∧ Below w.heap.size w w') : CallsV P f args h v := CallsV.below fun w _ => c w
end

section
variable {C : Ctx} {ops : Array Oper} {Q : Post} {l : List Oper} {e : Env} {R : List Res} {h : Hp} {ds : List Deferred} {d ty : Nat} {pos : String} {after : Array Edge}
theorem GO.ptr_self {t t' E : TypeId} {x y : Operand} {A : Addr} {sz : Nat} (hn : Nat.blt d C.n = true) (hx : opE e x = some (.pointer (some A))) (hy : opE e y = some (.pointer (some A))) (ht : C.P.underlying t = some (.pointer E)) (hj : (C.P.info? E).map (·.size) = some sz)
    (k : GO C ops Q l ((d, .bool false) :: e) R h ds) : GO C ops Q (⟨some d, .binOp .neq t x y t', ty, pos, after, none⟩ :: l) e R h ds :=
  have ⟨j, hj1, _⟩ := Option.map_eq_some_iff.1 hj
  GO.cmpV hn hx hy (fun w => by simp [eqGuard]) (fun w => Lib.run_neq_ptr_same w A ht hj1) k
theorem GO.to_unsafe {i : Nat} {s t E T : TypeId} {x : Operand} {b : Nat} {cs : List Value} {sz : Nat} (hn : Nat.blt d C.n = true) (hx : opE e x = some (.pointer (some ⟨b, 0, none⟩))) (hs : C.P.underlying s = some (.pointer E)) (ht : C.P.underlying t = some .unsafePointer)
    (hj : (C.P.info? E).map (·.size) = some sz) (hjs : sz ≠ 0) (hr : R[i]? = some (blk b T cs)) (hc : 0 < cs.length) (k : GO C ops Q l ((d, .pointer (some ⟨b, 0, none⟩)) :: e) R h ds) : GO C ops Q (⟨some d, .convert s t x, ty, pos, after, none⟩ :: l) e R h ds :=
  GO.gen rfl rfl hn (fun _ hc => nomatch hc) fun a w ha hs2 => ⟨_, w, R, h, by
    have hw : w.heap[b]? = some (.cells cs.toArray T (0, 0)) := hs2.res _ (List.mem_of_getElem? hr)
    simp only [execOp, ha.eval hx]
    have ⟨j, hj1, hj2⟩ := Option.map_eq_some_iff.1 hj
    have := Lib.run_to_unsafe (P := C.P) w (cells := cs.length) ⟨b, 0, none⟩ hs ht hj1 (by rw [hj2]; exact hjs) (e := T) (by simp [World.shape?, hw]) hc
    simp [this], hs2, k⟩
theorem GO.from_unsafe {i : Nat} {s t U T : TypeId} {x : Operand} {b : Nat} {cs : List Value} {sz : Nat} (hn : Nat.blt d C.n = true) (hx : opE e x = some (.pointer (some ⟨b, 0, none⟩))) (hs : C.P.underlying s = some .unsafePointer) (ht : C.P.underlying t = some (.pointer U))
    (hj : (C.P.info? U).map (·.size) = some sz) (hr : R[i]? = some (blk b T cs)) (hl : liesAt C.P C.P.depth T (cs.length / C.P.cellsOf T) 0 U 1 = true) (k : GO C ops Q l ((d, .pointer (some ⟨b, 0, none⟩)) :: e) R h ds) : GO C ops Q (⟨some d, .convert s t x, ty, pos, after, none⟩ :: l) e R h ds :=
  GO.gen rfl rfl hn (fun _ hc => nomatch hc) fun a w ha hs2 => ⟨_, w, R, h, by
    have hw : w.heap[b]? = some (.cells cs.toArray T (0, 0)) := hs2.res _ (List.mem_of_getElem? hr)
    simp only [execOp, ha.eval hx]
    have ⟨j, hj1, hj2⟩ := Option.map_eq_some_iff.1 hj
    have := Lib.run_from_unsafe (P := C.P) w (cells := cs.length) ⟨b, 0, none⟩ hs ht hj1 (e := T) (by simp [World.shape?, hw]) hl
    simp [this], hs2, k⟩
theorem GO.extern {cal : Operand} {args : List Operand} {ats : Array TypeId} {f : FuncId} {vs : List Value} {v : Value} (hn : Nat.blt d C.n = true) (hc : opE e cal = some (.func (.func f) #[] #[])) (ha : opsE e args = some vs) (hent : ∀ w, (callFunc f vs.toArray).run C.P w = .ok (.value v) w)
    (k : GO C ops Q l ((d, v) :: e) R h ds) : GO C ops Q (⟨some d, .call ⟨.value cal, args.toArray, ats⟩, ty, pos, after, none⟩ :: l) e R h ds :=
  GO.pure rfl rfl hn (fun _ hc => nomatch hc) (fun a w hag => by
    simp only [execOp, resolve, hag.eval hc]
    have h2 : args.toArray.map a.eval = vs.toArray := by simp [hag.evals ha]
    rw [h2]
    simp [Deferred.ofValue, invoke, hent, go_sem]) k
theorem GO.sliceData {i : Nat} {E T : TypeId} {sz : Nat} {xs : List Value} {ats : Array TypeId} {x : Operand} {A : Option Addr} {n c : Nat} (hn : Nat.blt d C.n = true) (hx : opE e x = some (.slice A n c)) (ht : C.P.underlying ty = some (.pointer T)) (hr : R[i]? = some (row A n c E sz xs))
    (k : ∀ A', (n ≠ 0 → A' = A) → GO C ops Q l ((d, .pointer A') :: e) R h ds) : GO C ops Q (⟨some d, .call ⟨.builtin .unsafeSliceData, #[x], ats⟩, ty, pos, after, none⟩ :: l) e R h ds :=
  GO.gen rfl rfl hn (fun _ hc => nomatch hc) fun a w ha hs => by
    have hown : w.ownsRow 0 E sz (.slice A n c) n xs := hs.res _ (List.mem_of_getElem? hr)
    rcases hown.2 with ⟨h1, h2⟩ | ⟨g, cap, cur, h1, hb, hg, hnc, hcm, hcs, htake⟩
    · cases h1
      refine ⟨_, w, R, h, ?_, hs, k none (fun _ => rfl)⟩
      simp only [execOp, resolve]
      simp [ha.eval hx, invoke, builtin, Lib.run_unsafeSliceData_nil]
    · cases h1
      by_cases hc : c = 0
      · subst hc
        refine ⟨_, _, R, h, ?_, (hs.alloc (.view ⟨g, 0, none⟩ T)).tail, k (some ⟨w.heap.size, 0, none⟩) (fun hx => absurd (by omega : n = 0) hx)⟩
        simp only [execOp, resolve]
        have := Lib.run_unsafeSliceData_zero (P := C.P) w ats ty T ht ⟨g, 0, none⟩ n (E, cur.size) (by simp [World.shape?, hg])
        simp [ha.eval hx, invoke, builtin, this]
      · refine ⟨_, w, R, h, ?_, hs, k (some ⟨g, 0, none⟩) (fun _ => rfl)⟩
        simp only [execOp, resolve]
        simp [ha.eval hx, invoke, builtin, Lib.run_unsafeSliceData_row w _ _ ⟨g, 0, none⟩ n c hc]
/-- The bytes of a row of one's own as a string; the row is given up. -/
theorem GO.unsafeString {i : Nat} {E pt it : TypeId} {bs : List UInt8} {x y : Operand} {A A' : Option Addr} {c : Nat} (hn : Nat.blt d C.n = true) (hx : opE e x = some (.pointer A')) (hy : opE e y = some (.int .i64 (bs.length : Nat))) (hA : bs.length ≠ 0 → A' = A)
    (hp : C.P.underlying pt = some (.pointer E)) (hc1 : C.P.cellsOf E = 1) (hmax : bs.length ≤ 9223372036854775807) (hr : R[i]? = some (row A bs.length c E 1 (Lib.byteCells bs)))
    (k : GO C ops Q l ((d, .string ⟨bs.toArray⟩) :: e) (R.eraseIdx i) h ds) : GO C ops Q (⟨some d, .call ⟨.builtin .unsafeString, #[x, y], #[pt, it]⟩, ty, pos, after, none⟩ :: l) e R h ds :=
  GO.gen rfl rfl hn (fun _ hc => nomatch hc) fun a w ha hs => by
    have hi := (List.getElem?_eq_some_iff.1 hr).1
    have hp2 : (row A bs.length c E 1 (Lib.byteCells bs) :: R.eraseIdx i).Perm R := by
      have h2 : R[i] = row A bs.length c E 1 (Lib.byteCells bs) := (List.getElem?_eq_some_iff.1 hr).2
      rw [← h2]
      exact perm_erase hi
    have s2 := hs.perm hp2
    have hown : w.ownsRow 0 E 1 (.slice A bs.length c) bs.length (Lib.byteCells bs) := s2.res _ List.mem_cons_self
    by_cases h0 : bs = []
    · subst h0
      refine ⟨_, w, _, h, ?_, s2.tail, k⟩
      simp only [execOp, resolve]
      have := Lib.run_unsafeString_none (P := C.P) w pt it ty A'
      have hy' : a.eval y = .int .i64 0 := ha.eval hy
      simp [ha.eval hx, hy', invoke, builtin, this]
      rfl
    · have hl : bs.length ≠ 0 := by simpa using h0
      have := hA hl
      subst this
      rcases hown.2 with ⟨h1, h2⟩ | ⟨g, cap, cur, h1, hb, hg, hnc, hcm, hcs, htake⟩
      · exact absurd h2 hl
      · cases h1
        refine ⟨_, w.freeze ⟨g, 0, none⟩ bs.length, _, h, ?_, ?_, k⟩
        · simp only [execOp, resolve]
          have := Lib.run_unsafeString_row (P := C.P) w pt it ty E hp hc1 g cur.size (by simp [World.shape?, hg]) bs h0 (by rw [hcs]; omega) hmax (fun j u hj => by
            have h5 : (Lib.byteCells bs)[j]? = some (.int .u8 u.toNat) := by simp [Lib.byteCells, hj]
            rw [← htake, List.getElem?_take] at h5
            have h6 : cur[j]? = some (.int .u8 u.toNat) := by
              split at h5
              · simpa using h5
              · cases h5
            unfold World.cell? Addr.add
            by_cases hj0 : j = 0
            · subst hj0; simp [hg, h6]
            · simp [hj0, hg, h6])
          simp [ha.eval hx, ha.eval hy, invoke, builtin, this]
        · have hfz : ∀ k, k ≠ g → (w.freeze ⟨g, 0, none⟩ bs.length).heap[k]? = w.heap[k]? := fun k hk => by
            unfold World.freeze
            rw [if_neg hl]
            simp [Array.getElem?_modify, Ne.symm hk]
          have hnd := s2.nodup
          rw [idsOf_cons] at hnd
          have hg1 : (row (some ⟨g, 0, none⟩) bs.length c E 1 (Lib.byteCells bs)).ids = [g] := by simp [row, Value.ownBlock]
          refine s2.step [g] (by rw [idsOf_cons, hg1]; simp) ?_ ?_ ?_ ?_ (fun k _ hk => hfz k (by simpa using hk)) ?_ s2.tail.nodup (fun k hk => .inl (by rw [idsOf_cons]; exact List.mem_append_right _ hk))
          · unfold World.freeze; rw [if_neg hl]
          · unfold World.freeze; rw [if_neg hl]
          · unfold World.freeze; rw [if_neg hl]
          · unfold World.freeze; rw [if_neg hl]; simp
          · intro r hr2
            refine r.loc w _ (fun k hk => hfz k fun e => ?_) (s2.tail.res r hr2)
            subst e
            exact (List.nodup_append.1 hnd).2.2 k (by rw [hg1]; simp) k (mem_idsOf.2 ⟨r, hr2, hk⟩) rfl
end

/-! ### a map of truths as a list of names -/
def setR (b : Nat) (seen : List ByteArray) : Res := mapR b Value.string (seen.map fun k => (k, Value.bool true))
theorem getM_set (seen : List ByteArray) (key : ByteArray) : (getM (seen.map fun k => (k, Value.bool true)) key).getD (.bool false) = .bool (seen.any fun k => decide (k = key)) := by
  induction seen with
  | nil => rfl
  | cons k r ih =>
    simp only [List.map_cons, getM, List.any_cons]
    by_cases h : k = key
    · simp [h]
    · simp [h, ih]
theorem getM_set_none {seen : List ByteArray} {key : ByteArray} (h : (seen.any fun k => decide (k = key)) = false) : getM (seen.map fun k => (k, Value.bool true)) key = none := by
  induction seen with
  | nil => rfl
  | cons k r ih =>
    simp only [List.any_cons, Bool.or_eq_false_iff, decide_eq_false_iff_not] at h
    simp only [List.map_cons, getM, if_neg h.1]
    exact ih h.2
section
variable {C : Ctx} {ops : Array Oper} {Q : Post} {l : List Oper} {e : Env} {R : List Res} {h : Hp} {ds : List Deferred} {d ty : Nat} {pos : String} {after : Array Edge}
theorem GO.lookup_set {i : Nat} {T kt et : TypeId} {x y : Operand} {b : Nat} {seen : List ByteArray} {key : ByteArray} (hn : Nat.blt d C.n = true) (hx : opE e x = some (.map (some b))) (hy : opE e y = some (.string key)) (hr : R[i]? = some (setR b seen)) (hT : C.P.underlying T = some (.map kt et))
    (K : KeyT C.P kt Value.string) (hz : ∀ w, (zeroValue et).run C.P w = .ok (.bool false) w) (k : GO C ops Q l ((d, .bool (seen.any fun k => decide (k = key))) :: e) R h ds) : GO C ops Q (⟨some d, .lookup T x y false, ty, pos, after, none⟩ :: l) e R h ds :=
  GO.lookup hn hx hy hr hT K hz (by rw [getM_set]; exact k)
theorem GO.mapUpdate_set {i : Nat} {T kt et : TypeId} {x y z : Operand} {b : Nat} {seen : List ByteArray} {key : ByteArray} (hx : opE e x = some (.map (some b))) (hy : opE e y = some (.string key)) (hz : opE e z = some (.bool true)) (hr : R[i]? = some (setR b seen)) (hT : C.P.underlying T = some (.map kt et))
    (K : KeyT C.P kt Value.string) (hnew : (seen.any fun k => decide (k = key)) = false) {R' : List Res} (hR : R.set i (setR b (seen ++ [key])) = R') (k : GO C ops Q l e R' h ds) : GO C ops Q (⟨none, .mapUpdate T x y z, ty, pos, after, none⟩ :: l) e R h ds :=
  GO.mapUpdate hx hy hz hr hT K (by
    rw [putM_none (getM_set_none hnew), ← hR]
    simp [setR]) k
theorem GO.len_set {i : Nat} {x : Operand} {t kt et : TypeId} {b : Nat} {seen : List ByteArray} (hn : Nat.blt d C.n = true) (hx : opE e x = some (.map (some b))) (hr : R[i]? = some (setR b seen)) (ht : C.P.underlying t = some (.map kt et)) (k : GO C ops Q l ((d, .int .i64 seen.length) :: e) R h ds) :
    GO C ops Q (⟨some d, .call ⟨.builtin .len, #[x], #[t]⟩, ty, pos, after, none⟩ :: l) e R h ds :=
  GO.len_map hn hx hr ht (by simpa using k)
end
/-! ### an element of an array behind a pointer -/
section
variable {C : Ctx} {ops : Array Oper} {Q : Post} {l : List Oper} {e : Env} {R : List Res} {h : Hp} {ds : List Deferred} {d ty : Nat} {pos : String} {after : Array Edge}
theorem GO.indexAddr_a {T E n sz : Nat} {x i : Operand} {ad : Addr} {kd : IntKind} {z : Int} (hn : Nat.blt d C.n = true) (hx : opE e x = some (.pointer (some ad))) (hi : opE e i = some (.int kd z))
    (hT : C.P.underlying T = some (.array n E)) (hE : ∀ w, (sizeOf E).run C.P w = .ok sz w) (hk : 0 ≤ z ∧ z < (n : Int)) (kk : GO C ops Q l ((d, .pointer (some (ad.add (z.toNat * sz)))) :: e) R h ds) :
    GO C ops Q (⟨some d, .indexAddr T x i, ty, pos, after, none⟩ :: l) e R h ds :=
  GO.pure rfl rfl hn (fun _ hc => nomatch hc) (fun a w ha => by
    simp only [execOp, ha.eval hx, ha.eval hi]
    simp [Instr.indexAt, run_underlying hT, asIntOf, hE, hk, Instr.sureAddr]) kk
theorem GO.indexAddr_at {T E n sz m : Nat} {x i : Operand} {A : Option Addr} {kd : IntKind} {z : Int} (hn : Nat.blt d C.n = true) (hx : opE e x = some (.pointer (some (at_ A m)))) (hi : opE e i = some (.int kd z))
    (hT : C.P.underlying T = some (.array n E)) (hE : ∀ w, (sizeOf E).run C.P w = .ok sz w) (hk : 0 ≤ z ∧ z < (n : Int)) (kk : GO C ops Q l ((d, .pointer (some (at_ A (m + z.toNat * sz)))) :: e) R h ds) :
    GO C ops Q (⟨some d, .indexAddr T x i, ty, pos, after, none⟩ :: l) e R h ds :=
  GO.indexAddr_a hn hx hi hT hE hk (by rw [at_add]; exact kk)
end
end Go.Proofs.YtajdjclhkoenfaaDoor
