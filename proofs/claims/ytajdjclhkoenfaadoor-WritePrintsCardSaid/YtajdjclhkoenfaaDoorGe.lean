/- Slices, appends, makes. -/
import Derived.Test.YtajdjclhkoenfaaDoorGd
import Derived.Lib.AppendStr
import Derived.Laws.BytesArg
set_option linter.unusedSimpArgs false
set_option linter.unusedVariables false
namespace Go.Proofs.YtajdjclhkoenfaaDoor
open Go.RowKit

/-- What the program's tables say of an element type. -/
def ElT (P : Program) (e : TypeId) (z : Value) (sz bytes : Nat) : Prop := (P.info? e).map (fun i => (i.zero, i.size, i.bytes)) = some (some z, sz, bytes)

section
variable {C : Ctx} {ops : Array Oper} {Q : Post} {l : List Oper} {e : Env} {R : List Res} {h : Hp} {ds : List Deferred} {d ty : Nat} {pos : String} {after : Array Edge}

theorem GO.len_sl {x : Operand} {t E : TypeId} {A : Option Addr} {n c : Nat} (hn : Nat.blt d C.n = true) (hx : opE e x = some (.slice A n c)) (ht : C.P.underlying t = some (.slice E)) (k : GO C ops Q l ((d, .int .i64 n) :: e) R h ds) :
    GO C ops Q (⟨some d, .call ⟨.builtin .len, #[x], #[t]⟩, ty, pos, after, none⟩ :: l) e R h ds :=
  GO.pure rfl rfl hn (fun _ hc => nomatch hc) (fun a w ha => by
    simp only [execOp, resolve]
    simp [ha.eval hx, invoke, builtin, Builtin.len_, run_underlying ht, goInt]) k

/-- A bound of a cut. -/
def bndE (e : Env) (o : Option Operand) (dflt : Int) : Option Int :=
  match o with
  | none => some dflt
  | some x => match opE e x with
    | some (.int _ n) => some n
    | _ => none
theorem run_sliceBound {P : Program} {w : World} {k : IntKind} {n : Int} {y : Nat} {code : BoundsCode} (h : 0 ≤ n ∧ n ≤ y) : (Instr.sliceBound (.int k n) y code).run P w = .ok n.toNat w := by
  simp [Instr.sliceBound, asIntOf, h.1, h.2]
theorem run_bounds {P : Program} {w : World} {n : Nat} {ds : List Deferred} {e : Env} {a : Act} (ha : Agree n ds e a) {isS : Bool} {len cap : Nat} {lo hi : Option Operand} {i j : Int} (h1 : bndE e lo 0 = some i) (h2 : bndE e hi len = some j)
    (hb : 0 ≤ i ∧ i ≤ j ∧ j ≤ len) (hc : len ≤ cap) : (Instr.sliceBounds isS len cap (lo.map a.eval) (hi.map a.eval) none).run P w = .ok (i.toNat, j.toNat, cap) w := by
  have hv : ∀ {o : Option Operand} {dflt m : Int}, bndE e o dflt = some m → (o = none ∧ m = dflt) ∨ ∃ x kd, o = some x ∧ a.eval x = .int kd m := by
    intro o dflt m hm
    cases o with
    | none => simp [bndE] at hm; exact .inl ⟨rfl, hm.symm⟩
    | some x =>
      simp only [bndE] at hm
      split at hm
      · rename_i kd q hq
        cases hm
        exact .inr ⟨x, kd, rfl, ha.eval hq⟩
      · cases hm
  unfold Instr.sliceBounds
  rcases hv h2 with ⟨rfl, rfl⟩ | ⟨y, kd, rfl, hy⟩
  · rcases hv h1 with ⟨rfl, rfl⟩ | ⟨x, kd2, rfl, hx⟩
    · simp
    · simp [hx, run_sliceBound (show 0 ≤ i ∧ i ≤ ((len : Nat) : Int) from ⟨hb.1, hb.2.1⟩)]
  · have hj : 0 ≤ j ∧ j ≤ ((cap : Nat) : Int) := ⟨by omega, by omega⟩
    rcases hv h1 with ⟨rfl, rfl⟩ | ⟨x, kd2, rfl, hx⟩
    · simp [hy, run_sliceBound hj]
    · have hi2 : 0 ≤ i ∧ i ≤ ((j.toNat : Nat) : Int) := ⟨hb.1, by omega⟩
      simp [hy, hx, run_sliceBound hj, run_sliceBound hi2]
theorem GO.slice_str {x : Operand} {lo hi : Option Operand} {t : TypeId} {s : ByteArray} {i j : Int} (hn : Nat.blt d C.n = true) (hx : opE e x = some (.string s)) (h1 : bndE e lo 0 = some i) (h2 : bndE e hi s.size = some j) (ht : C.P.underlying t = some .string)
    (hb : 0 ≤ i ∧ i ≤ j ∧ j ≤ s.size) (k : GO C ops Q l ((d, .string (s.extract i.toNat j.toNat)) :: e) R h ds) : GO C ops Q (⟨some d, .slice t x lo hi none, ty, pos, after, none⟩ :: l) e R h ds :=
  GO.pure rfl rfl hn (fun _ hc => nomatch hc) (fun a w ha => by
    simp only [execOp, ha.eval hx]
    simp [Instr.sliceAt, Instr.slice, run_underlying ht, run_bounds ha h1 h2 hb (Nat.le_refl _)]) k
/-- '[:j]' -/
theorem GO.slice_to {x : Operand} {hi : Option Operand} {t E : TypeId} {A : Option Addr} {n c sz : Nat} {j : Int} (hn : Nat.blt d C.n = true) (hx : opE e x = some (.slice A n c)) (h2 : bndE e hi n = some j) (ht : C.P.underlying t = some (.slice E)) (hE : ∀ w, (sizeOf E).run C.P w = .ok sz w)
    (hb : 0 ≤ j ∧ j ≤ n) (hc : n ≤ c) (k : GO C ops Q l ((d, .slice A j.toNat c) :: e) R h ds) : GO C ops Q (⟨some d, .slice t x none hi none, ty, pos, after, none⟩ :: l) e R h ds :=
  GO.pure rfl rfl hn (fun _ hc => nomatch hc) (fun a w ha => by
    have hr := run_bounds (P := C.P) (w := w) (isS := true) (cap := c) ha (lo := none) (i := 0) rfl h2 ⟨Int.le_refl _, hb.1, hb.2⟩ hc
    simp only [Option.map_none] at hr
    have h3 : (A.map fun x => x.add (0 * sz)) = A := by cases A <;> simp [Addr.add]
    simp only [execOp, ha.eval hx, Option.map_none]
    simp [Instr.sliceAt, Instr.slice, run_underlying ht, hr, hE]
    cases A <;> simp [Addr.add]) k
/-- '[i:j]' -/
theorem GO.slice_from {x : Operand} {lo hi : Option Operand} {t E : TypeId} {A : Option Addr} {n c sz : Nat} {i j : Int} (hn : Nat.blt d C.n = true) (hx : opE e x = some (.slice A n c)) (h1 : bndE e lo 0 = some i) (h2 : bndE e hi n = some j) (ht : C.P.underlying t = some (.slice E)) (hE : ∀ w, (sizeOf E).run C.P w = .ok sz w)
    (hb : 0 ≤ i ∧ i ≤ j ∧ j ≤ n) (hc : n ≤ c) (k : GO C ops Q l ((d, .slice (cutA A c i.toNat sz) (j.toNat - i.toNat) (c - i.toNat)) :: e) R h ds) : GO C ops Q (⟨some d, .slice t x lo hi none, ty, pos, after, none⟩ :: l) e R h ds :=
  GO.pure rfl rfl hn (fun _ hc => nomatch hc) (fun a w ha => by
    have hr := run_bounds (P := C.P) (w := w) (isS := true) (cap := c) ha h1 h2 hb hc
    simp only [execOp, ha.eval hx, Option.map_none]
    simp [Instr.sliceAt, Instr.slice, run_underlying ht, hr, hE, cutA]) k

/-! ### a slice laid in one piece -/
def partsE (e : Env) : List (Nat × Operand) → Option (List (Nat × Value))
  | [] => some []
  | (i, x) :: r => match opE e x with
    | none => none
    | some v => match partsE e r with
      | none => none
      | some vs => some ((i, v) :: vs)
theorem Agree.parts {n : Nat} {ds : List Deferred} {e : Env} {a : Act} (h : Agree n ds e a) : ∀ {l : List (Nat × Operand)} {vs : List (Nat × Value)}, partsE e l = some vs → l.map (fun p => (p.1, a.eval p.2)) = vs
  | [], vs, hx => by simp [partsE] at hx; simp [hx]
  | (i, x) :: r, vs, hx => by
    simp only [partsE] at hx
    cases h1 : opE e x with
    | none => rw [h1] at hx; cases hx
    | some v =>
      cases h2 : partsE e r with
      | none => rw [h1, h2] at hx; cases hx
      | some ws =>
        rw [h1, h2] at hx
        cases hx
        rw [List.map_cons, h.eval h1, h.parts h2]
theorem Sat.newRow {w0 w : World} {S : List Nat} {h0 h : Hp} {R : List Res} (s : Sat w0 S h0 h R w) {E : TypeId} {sz len : Nat} {cs : List Value} (hl : cs.length = len * sz) (hm : len ≤ maxLen) :
    Sat w0 S h0 h (row (some ⟨w.heap.size, 0, none⟩) len len E sz cs :: R) (w.alloc (.cells cs.toArray E)) :=
  (s.alloc (.cells cs.toArray E)).turn (r' := row (some ⟨w.heap.size, 0, none⟩) len len E sz cs) (w' := w.alloc (.cells cs.toArray E)) rfl rfl rfl (Nat.le_refl _) (fun _ _ _ => rfl)
    ⟨by rw [hl], .inr ⟨w.heap.size, len, cs.toArray, rfl, Nat.zero_le _, heap_alloc_new w _, Nat.le_refl _, hm, by simp [hl], by simp [← hl]⟩⟩ (by simp [row, Value.ownBlock]) (fun k hk => .inl (by simpa [row, Value.ownBlock, other] using hk))
theorem GO.buildSlice {T E : TypeId} {len sz : Nat} {parts : List (Nat × Operand)} {vs : List (Nat × Value)} {z : Value} {cs : List Value} (hn : Nat.blt d C.n = true) (hp : partsE e parts = some vs) (hT : C.P.underlying T = some (.slice E)) (hE : ∀ w, (sizeOf E).run C.P w = .ok sz w) (hz : ∀ w, (zeroValue E).run C.P w = .ok z w)
    (hsm : Nat.ble (len * sz) 1000 = true) (hsm2 : Nat.ble len 1000 = true)
    (hf : Instr.fill (fun i => some (i * sz, sz)) (if len * sz = 0 then #[] else (Array.range (len * sz)).map (z.cells[· % z.cells.size]!)) vs = some cs.toArray) (hl : cs.length = len * sz)
    (k : ∀ b, GO C ops Q l ((d, .slice (some ⟨b, 0, none⟩) len len) :: e) (row (some ⟨b, 0, none⟩) len len E sz cs :: R) h ds) : GO C ops Q (⟨some d, .buildSlice T len parts.toArray, ty, pos, after, none⟩ :: l) e R h ds :=
  GO.gen rfl rfl hn (fun _ hc => nomatch hc) fun a w ha hs => by
    have hsm' : len * sz ≤ 1000 := by simpa using hsm
    have hsm2' : len ≤ 1000 := by simpa using hsm2
    have h1 : ¬ (len * sz > 2 ^ 24) := by omega
    have h2 := ha.parts hp
    refine ⟨.slice (some ⟨w.heap.size, 0, none⟩) len len, w.alloc (.cells cs.toArray E), row (some ⟨w.heap.size, 0, none⟩) len len E sz cs :: R, h, ?_, hs.newRow hl (by unfold maxLen; omega), k w.heap.size⟩
    by_cases h0 : len * sz = 0
    · rw [if_pos h0] at hf
      simp only [execOp]
      simp only [Instr.buildSlice, Sem.run_bind, run_underlying hT, Result.andThen_ok, hE, if_neg h1]
      have h3 : Array.range 0 = #[] := rfl
      simp [h0, h2, hf, h3, newRow, newObj, Sem.run]
    · rw [if_neg h0] at hf
      simp only [execOp]
      simp only [Instr.buildSlice, Sem.run_bind, run_underlying hT, Result.andThen_ok, hE, if_neg h1]
      simp [h0, h2, hf, hz, newRow, newObj, Sem.run]

theorem GO.buildSlice0 {T E : TypeId} {sz : Nat} (hn : Nat.blt d C.n = true) (hT : C.P.underlying T = some (.slice E)) (hE : ∀ w, (sizeOf E).run C.P w = .ok sz w)
    (k : ∀ b, GO C ops Q l ((d, .slice (some ⟨b, 0, none⟩) 0 0) :: e) (row (some ⟨b, 0, none⟩) 0 0 E sz [] :: R) h ds) : GO C ops Q (⟨some d, .buildSlice T 0 #[], ty, pos, after, none⟩ :: l) e R h ds :=
  GO.gen rfl rfl hn (fun _ hc => nomatch hc) fun a w ha hs => by
    refine ⟨.slice (some ⟨w.heap.size, 0, none⟩) 0 0, w.alloc (.cells [].toArray E), row (some ⟨w.heap.size, 0, none⟩) 0 0 E sz [] :: R, h, ?_, hs.newRow (by simp) (by unfold maxLen; omega), k w.heap.size⟩
    simp only [execOp]
    simp only [Instr.buildSlice, Sem.run_bind, run_underlying hT, Result.andThen_ok, hE]
    have h3 : Array.range 0 = #[] := rfl
    simp [h3, newRow, newObj, Sem.run, Instr.fill]
theorem foldl_set_at : ∀ (cs : List Value) (k off : Nat) (arr : Array Value), ((cs.zipIdx k).foldl (fun (a : Array Value) (p : Value × Nat) => a.setIfInBounds (off + p.2) p.1) arr).size = arr.size ∧
    ∀ q, off + k + cs.length ≤ arr.size → ((cs.zipIdx k).foldl (fun (a : Array Value) (p : Value × Nat) => a.setIfInBounds (off + p.2) p.1) arr)[q]? = if off + k ≤ q ∧ q < off + k + cs.length then cs[q - (off + k)]? else arr[q]?
  | [], k, off, arr => ⟨by simp, fun q hq => by
      rw [if_neg (show ¬ (off + k ≤ q ∧ q < off + k + ([] : List Value).length) from by rintro ⟨a, b⟩; simp at b; omega)]
      rfl⟩
  | c :: cs, k, off, arr => by
    obtain ⟨h1, h2⟩ := foldl_set_at cs (k + 1) off (arr.setIfInBounds (off + k) c)
    simp only [List.zipIdx_cons, List.foldl_cons]
    refine ⟨by rw [h1]; simp, fun q hq => ?_⟩
    simp only [List.length_cons] at hq
    rw [h2 q (by simp; omega)]
    simp only [List.length_cons]
    by_cases hqk : q = off + k
    · subst hqk
      rw [if_neg (by omega), if_pos (by omega)]
      have : off + k < arr.size := by omega
      simp [this]
    · by_cases hr : off + (k + 1) ≤ q ∧ q < off + (k + 1) + cs.length
      · rw [if_pos hr, if_pos (by omega)]
        rw [show q - (off + k) = (q - (off + (k + 1))) + 1 by omega]
        simp
      · rw [if_neg hr, if_neg (by omega)]
        rw [Array.getElem?_setIfInBounds_ne (by omega)]
theorem fill_one (sz : Nat) (zs : Array Value) (v : Value) (cs : List Value) (hz : zs.size = sz) (hv : v.cells = cs.toArray) (hl : cs.length = sz) :
    Instr.fill (fun i => some (i * sz, sz)) ((Array.range (1 * sz)).map (zs[· % zs.size]!)) [(0, v)] = some cs.toArray := by
  have h1 : ¬ (v.cells.size ≠ sz ∨ 0 * sz + v.cells.size > ((Array.range (1 * sz)).map (zs[· % zs.size]!)).size) := by rw [hv]; simp [hl]
  simp only [Instr.fill]
  rw [if_neg (by simpa using h1)]
  congr 1
  rw [hv]
  have h2 := foldl_set_at cs 0 (0 * sz) ((Array.range (1 * sz)).map (zs[· % zs.size]!))
  apply Array.ext_getElem?
  intro q
  have h3 := h2.2 q (by simp [hl])
  rw [← Array.foldl_toList]
  simp only [Array.toList_zipIdx]
  refine Eq.trans h3 ?_
  by_cases hq : q < cs.length
  · rw [if_pos (by omega)]; simp
  · rw [if_neg (by omega)]
    simp [hl] at hq
    simp [hl, hq]
/-- a slice of one -/
theorem GO.buildSlice1 {T E : TypeId} {sz : Nat} {x : Operand} {v z : Value} {cs : List Value} (hn : Nat.blt d C.n = true) (hx : opE e x = some v) (hT : C.P.underlying T = some (.slice E)) (hE : ∀ w, (sizeOf E).run C.P w = .ok sz w) (hz : ∀ w, (zeroValue E).run C.P w = .ok z w)
    (hv : v.cells = cs.toArray) (hsm : (Nat.beq cs.length sz && Nat.beq z.cells.size sz && Nat.blt 0 sz && Nat.ble sz 1000) = true)
    (k : ∀ b, GO C ops Q l ((d, .slice (some ⟨b, 0, none⟩) 1 1) :: e) (row (some ⟨b, 0, none⟩) 1 1 E sz cs :: R) h ds) : GO C ops Q (⟨some d, .buildSlice T 1 #[(0, x)], ty, pos, after, none⟩ :: l) e R h ds := by
  have h0 : ((cs.length = sz ∧ z.cells.size = sz) ∧ 0 < sz) ∧ sz ≤ 1000 := by simpa using hsm
  obtain ⟨⟨⟨h1, h2⟩, h3⟩, h4⟩ := h0
  refine GO.buildSlice (parts := [(0, x)]) (vs := [(0, v)]) (cs := cs) hn (by simp [partsE, hx]) hT hE hz (by simpa using h4) rfl ?_ (by omega) k
  rw [if_neg (by omega)]
  exact fill_one sz z.cells v cs h2 hv h1

/-! ### append to a row of one's own -/
theorem own_form {w : World} {e : TypeId} {sz n : Nat} {v : Value} {xs : List Value} (h : w.ownsRow 0 e sz v n xs) : ∃ A c, v = .slice A n c ∧ n ≤ c := by
  rcases h.2 with ⟨rfl, rfl⟩ | ⟨g, cap, cur, rfl, _, _, hn, _⟩
  · exact ⟨none, 0, rfl, Nat.le_refl _⟩
  · exact ⟨_, cap, rfl, hn⟩
theorem Sat.turnAt {w0 w w' : World} {S : List Nat} {h0 h : Hp} {R : List Res} (s : Sat w0 S h0 h R w) {i : Nat} {r r' : Res} (hr : R[i]? = some r) (hg : ∃ b, w.grownBy w' b ∧ (∀ k, b = some k → k ∈ r.ids)) (hh : r'.holds w') (hnd : r'.ids.Nodup)
    (hids : ∀ k ∈ r'.ids, k ∈ r.ids ∨ (w.heap.size ≤ k ∧ k < w'.heap.size)) : Sat w0 S h0 h (R.set i r') w' := by
  have hi := (List.getElem?_eq_some_iff.1 hr).1
  have hp : (r :: R.eraseIdx i).Perm R := by
    have h2 : R[i] = r := (List.getElem?_eq_some_iff.1 hr).2
    rw [← h2]
    exact perm_erase hi
  obtain ⟨b, hg, hb⟩ := hg
  refine ((s.perm hp).turn hg.os hg.tape hg.output hg.size (fun k hk hkr => hg.block k hk (fun e => hkr (hb k e.symm))) hh hnd hids).perm (perm_set hi _)
/-- The cells that are appended can be read. -/
def SrcOk (C : Ctx) (h : Hp) (R : List Res) (A : Option Addr) (m sz : Nat) (news : List Value) : Prop :=
  news.length = m * sz ∧ (∀ u ∈ news, u.oneCell' = true) ∧ (A = none → m = 0) ∧ ∀ w, Sat C.w0 C.S C.h0 h R w → ∀ j u, news[j]? = some u → w.cell? (at_ A j) = some u
theorem GO.append {i : Nat} {s x : Operand} {t E : TypeId} {A A2 : Option Addr} {n c m c2 sz bytes : Nat} {xs news : List Value} {z : Value} {dd : Option Tmp} (hn : dstOk C.n dd = true) (hs : opE e s = some (.slice A n c)) (hx : opE e x = some (.slice A2 m c2))
    (hr : R[i]? = some (row A n c E sz xs)) (ht : C.P.underlying t = some (.slice E)) (hel : ElT C.P E z sz bytes) (hz : z.cells.size = sz) (hsz : 0 < sz) (hsrc : SrcOk C h R A2 m sz news) (h63 : n + m ≤ 140737488355328) (hby : (n + m) * bytes ≤ 140737488355328)
    (k : ∀ A' c', n + m ≤ c' → GO C ops Q l (putE dd (.slice A' (n + m) c') e) (R.set i (row A' (n + m) c' E sz (xs ++ news))) h ds) :
    GO C ops Q (⟨dd, .call ⟨.builtin .append, #[s, x], #[t, t]⟩, ty, pos, after, none⟩ :: l) e R h ds := fun a w ha hsat => by
  obtain ⟨i0, hi0, hz0, hz1, hz2⟩ := info_parts hel
  have hown : w.ownsRow 0 E sz (.slice A n c) n xs := hsat.res _ (List.mem_of_getElem? hr)
  have hm63 : n + m ≤ maxLen := by unfold maxLen; omega
  have key : ∃ v' w', (Builtin.append_ #[t, t] ty #[.slice A n c, .slice A2 m c2]).run C.P w = .ok v' w' ∧ w'.ownsRow 0 E sz v' (n + m) (xs ++ news) ∧ w.grownBy w' (Value.slice A n c).ownBlock ∧
      (v'.ownBlock = (Value.slice A n c).ownBlock ∨ v'.ownBlock = some w.heap.size) := by
    cases A2 with
    | none =>
      have hm := hsrc.2.2.1 rfl
      subst hm
      have hnews : news = [] := List.eq_nil_of_length_eq_zero (by simpa using hsrc.1)
      subst hnews
      refine ⟨.slice A n c, w, ?_, by simpa using hown, World.grownBy.refl w _, .inl rfl⟩
      rcases hown.2 with ⟨h1, h2⟩ | ⟨g, cap, cur, h1, _, _, hnc, _⟩
      · cases h1
        simp [Builtin.append_, run_underlying ht, sizeOf, typeInfo, hi0, Builtin.lenOf, Builtin.firstCells]
      · cases h1
        simp [Builtin.append_, run_underlying ht, sizeOf, typeInfo, hi0, Builtin.lenOf, Builtin.firstCells, hnc, storeCells]
    | some ad =>
      have hc : ∀ j u, news[j]? = some u → w.cell? (ad.add j) = some u := hsrc.2.2.2 w hsat
      obtain ⟨v', w', hrun, h2, h3, _, h5⟩ := run_append_own_at (P := C.P) w 0 t ty E i0 z sz bytes ht hi0 hz0 hz1 hz2 hz hsz (.slice A n c) n xs hown ad m c2 news hsrc.1 hc hsrc.2.1 hm63 hby (Nat.zero_le _)
      exact ⟨v', w', hrun, h2, h3, h5⟩
  obtain ⟨v', w', hrun, h2, h3, h4⟩ := key
  obtain ⟨A', c', rfl, hc'⟩ := own_form h2
  refine wpListIn_plain rfl fun K hK => ⟨fun _ _ => trivial, ?_⟩
  rw [Oper.semAt_eq _ _ _ (fun c hc => by cases hc)]
  have hr2 : (execOp a.eval (⟨dd, .call ⟨.builtin .append, #[s, x], #[t, t]⟩, ty, pos, after, none⟩ : Oper)).run C.P w = .ok (.value (.slice A' (n + m) c')) w' := by
    simp only [execOp, resolve]
    simp [ha.eval hs, ha.eval hx, invoke, builtin, hrun]
  rw [hr2]
  refine hK _ _ (k A' c' hc' _ _ (ha.putE hn _) (hsat.turnAt hr ⟨_, h3, fun k hk => by simp [row, hk]⟩ h2 (by simp [row]; cases hA : (Value.slice A' (n + m) c').ownBlock <;> simp [hA]) ?_))
  intro q hq
  simp only [row, Option.mem_toList] at hq ⊢
  rcases h4 with h5 | h5
  · rw [h5] at hq
    exact .inl hq
  · rw [h5] at hq
    cases hq
    refine .inr ⟨Nat.le_refl _, ?_⟩
    have := h2.lt w.heap.size h5
    exact this.2
theorem SrcOk.ofH {α : Type} {K : Kd α} {A : Option Addr} {m sz : Nat} {xs : List α} {news : List Value} {h1 : Hp} (hf : Flat K h1 xs news) (hc : CellsAt h1 A news) (hl : xs.length = m) (hK : K.n = sz) (hsz : 0 < sz) (hle : h1.le h) : SrcOk C h R A m sz news := by
  subst hK
  refine ⟨by rw [hf.length, hl], fun u hu => hf.one u hu, fun hA => ?_, fun w hs j u hu => hs.cell (Hp.cell_mono hle (hc.2 j u hu))⟩
  subst hA
  rcases Nat.eq_zero_or_pos m with h0 | h0
  · exact h0
  · have : news ≠ [] := fun he => by
      have h3 := hf.length
      rw [he, hl] at h3
      have := Nat.mul_pos h0 hsz
      simp at h3; omega
    have := hc.1 this
    simp at this
theorem SrcOk.ofR {j : Nat} {A : Option Addr} {m c E sz : Nat} {news : List Value} (hr : R[j]? = some (row A m c E sz news)) (h1 : news.all (·.oneCell') = true) (hl : news.length = m * sz) (hA : A = none → m = 0) : SrcOk C h R A m sz news := by
  refine ⟨hl, fun u hu => List.all_eq_true.1 h1 u hu, hA, fun w hs j u hu => ?_⟩
  have hw : w.ownsRow 0 E sz (.slice A m c) m news := hs.res _ (List.mem_of_getElem? hr)
  rcases hw.2 with ⟨h1, h2⟩ | ⟨g, cap, cur, h1, _⟩
  · rw [h2, Nat.zero_mul] at hl; rw [List.eq_nil_of_length_eq_zero hl] at hu; simp at hu
  · injection h1 with h1 _ _
    subst h1
    exact hw.cells (g := g) rfl j u hu
/-- append(bytes, text...) -/
theorem GO.append_str {i : Nat} {s x : Operand} {t u E : TypeId} {A : Option Addr} {n c : Nat} {xs : List Value} {sx : ByteArray} {dd : Option Tmp} (hn : dstOk C.n dd = true) (hs : opE e s = some (.slice A n c)) (hx : opE e x = some (.string sx))
    (hr : R[i]? = some (row A n c E 1 xs)) (ht : C.P.underlying t = some (.slice E)) (hu : C.P.underlying u = some .string) (hel : ElT C.P E (.int .u8 0) 1 1) (h63 : n + sx.size ≤ 140737488355328)
    (k : ∀ A' c', n + sx.size ≤ c' → GO C ops Q l (putE dd (.slice A' (n + sx.size) c') e) (R.set i (row A' (n + sx.size) c' E 1 (xs ++ Lib.strCells sx))) h ds) :
    GO C ops Q (⟨dd, .call ⟨.builtin .append, #[s, x], #[t, u]⟩, ty, pos, after, none⟩ :: l) e R h ds := fun a w ha hsat => by
  obtain ⟨i0, hi0, hz0, hz1, hz2⟩ := info_parts hel
  have hown : w.ownsRow 0 E 1 (.slice A n c) n xs := hsat.res _ (List.mem_of_getElem? hr)
  have hm63 : n + sx.size ≤ maxLen := by unfold maxLen; omega
  have key : ∃ v' w', (Builtin.append_ #[t, u] ty #[.slice A n c, .string sx]).run C.P w = .ok v' w' ∧ w'.ownsRow 0 E 1 v' (n + sx.size) (xs ++ Lib.strCells sx) ∧ w.grownBy w' (Value.slice A n c).ownBlock ∧
      (v'.ownBlock = (Value.slice A n c).ownBlock ∨ ∃ q, v'.ownBlock = some q ∧ w.heap.size ≤ q) := by
    obtain ⟨v', w', hrun, h2, h3, _⟩ := Lib.run_append_own_string (P := C.P) w 0 t u ty E i0 ht hu hi0 hz0 hz1 hz2 (.slice A n c) n xs hown sx hm63 h63 (Nat.zero_le _)
    refine ⟨v', w', hrun, h2, h3, ?_⟩
    rcases hown.2 with ⟨h4, h5⟩ | ⟨g, cap, cur, h4, hb, hg, hnc, hcm, hcs, htake⟩
    · cases h4
      have hx0 : xs = [] := List.eq_nil_of_length_eq_zero (by simpa using hown.1)
      subst hx0
      obtain ⟨v2, w2, hrun2, h6, h7, _⟩ := Lib.run_append_own_string (P := C.P) w w.heap.size t u ty E i0 ht hu hi0 hz0 hz1 hz2 (.slice none 0 0) 0 [] (World.ownsRow_nil _ _ _ _) sx hm63 h63 (Nat.le_refl _)
      rw [hrun] at hrun2
      injection hrun2 with e1 e2
      subst e1; subst e2
      cases hq : v'.ownBlock with
      | none => exact .inl rfl
      | some q => exact .inr ⟨q, rfl, (h6.lt q hq).1⟩
    · cases h4
      have hcs' : cur.size = c := by simpa using hcs
      by_cases hroom : n + sx.size ≤ c
      · have hr2 := Lib.run_append_room_string (P := C.P) w t u ty E i0 ht hu hi0 hz1 g n c cur hg sx hroom (by omega)
        rw [hrun] at hr2
        injection hr2 with e1 e2
        subst e1
        exact .inl rfl
      · have holds : ∀ j u, xs[j]? = some u → w.cell? ((⟨g, 0, none⟩ : Addr).add j) = some u := hown.cells (g := g) rfl
        have hr2 := Lib.run_append_grow_string (P := C.P) w t u ty E i0 (.int .u8 0) ht hu hi0 hz0 ⟨g, 0, none⟩ n c xs (by rw [hz1]; simpa using hown.1) holds sx (by omega) (by unfold maxLen at hm63; omega) (by rw [hz2]; exact growslice_fits (by omega) (by omega))
        rw [hrun] at hr2
        injection hr2 with e1 e2
        subst e1
        exact .inr ⟨w.heap.size, rfl, Nat.le_refl _⟩
  obtain ⟨v', w', hrun, h2, h3, h4⟩ := key
  obtain ⟨A', c', rfl, hc'⟩ := own_form h2
  refine wpListIn_plain rfl fun K hK => ⟨fun _ _ => trivial, ?_⟩
  rw [Oper.semAt_eq _ _ _ (fun c hc => by cases hc)]
  have hr2 : (execOp a.eval (⟨dd, .call ⟨.builtin .append, #[s, x], #[t, u]⟩, ty, pos, after, none⟩ : Oper)).run C.P w = .ok (.value (.slice A' (n + sx.size) c')) w' := by
    simp only [execOp, resolve]
    simp [ha.eval hs, ha.eval hx, invoke, builtin, hrun]
  rw [hr2]
  refine hK _ _ (k A' c' hc' _ _ (ha.putE hn _) (hsat.turnAt hr ⟨_, h3, fun k hk => by simp [row, hk]⟩ h2 (by simp [row]; cases hA : (Value.slice A' (n + sx.size) c').ownBlock <;> simp [hA]) ?_))
  intro q hq
  simp only [row, Option.mem_toList] at hq ⊢
  rcases h4 with h5 | ⟨q2, h5, h6⟩
  · rw [h5] at hq
    exact .inl hq
  · rw [h5] at hq
    cases hq
    exact .inr ⟨h6, (h2.lt q h5).2⟩
/-- string(bytes) of a row of one's own. -/
theorem GO.conv_bytes {i : Nat} {s t E : TypeId} {x : Operand} {A : Option Addr} {n c : Nat} {ns : List Int} (hn : Nat.blt d C.n = true) (hx : opE e x = some (.slice A n c)) (hs : C.P.underlying s = some (.slice E)) (hE : C.P.underlying E = some (.int .u8)) (ht : C.P.underlying t = some .string)
    (hr : R[i]? = some (row A n c E 1 (ns.map (Value.int .u8)))) (k : GO C ops Q l ((d, .string (strOfNums ns)) :: e) R h ds) : GO C ops Q (⟨some d, .convert s t x, ty, pos, after, none⟩ :: l) e R h ds :=
  GO.gen rfl rfl hn (fun _ hc => nomatch hc) fun a w ha hsat => by
    have hown : w.ownsRow 0 E 1 (.slice A n c) n (ns.map (Value.int .u8)) := hsat.res _ (List.mem_of_getElem? hr)
    have hl : ns.length = n := by have := hown.1; simpa using this
    refine ⟨.string (strOfNums ns), w, R, h, ?_, hsat, k⟩
    simp only [execOp, ha.eval hx]
    have hrun : (convert s t (.slice A n c)).run C.P w = .ok (.string (strOfNums ns)) w := by
      rcases hown.2 with ⟨h1, h2⟩ | ⟨g, cap, cur, h1, _⟩
      · cases h1
        have : ns = [] := List.eq_nil_of_length_eq_zero hl
        subst this
        exact run_convert_bytes_nil w s E hs hE 0 0 t ht
      · cases h1
        refine run_convert_bytes_arg w s E hs hE g 0 n c ns hl (fun j hj => ?_) t ht
        have h3 := hown.cells (g := g) rfl j (.int .u8 (ns.getD j 0)) (by simp [List.getElem?_eq_getElem (show j < ns.length by omega), List.getD_eq_getElem?_getD])
        rw [add0] at h3
        exact h3
    simp [hrun]
end
/-! ### other things that are made -/
section
variable {C : Ctx} {ops : Array Oper} {Q : Post} {l : List Oper} {e : Env} {R : List Res} {h : Hp} {ds : List Deferred} {d ty : Nat} {pos : String} {after : Array Edge}
theorem GO.make0 {T E : TypeId} {x y : Operand} {kd kd2 : IntKind} {c sz bytes : Nat} {z : Value} (hn : Nat.blt d C.n = true) (hx : opE e x = some (.int kd 0)) {m : Int} (hy : opE e y = some (.int kd2 m)) (hm : m = (c : Int)) (hT : C.P.underlying T = some (.slice E)) (hel : ElT C.P E z sz bytes)
    (hby : bytes * c ≤ 281474976710656) (h63 : c ≤ 140737488355328) (k : ∀ b, GO C ops Q l ((d, .slice (some ⟨b, 0, none⟩) 0 c) :: e) (row (some ⟨b, 0, none⟩) 0 c E sz [] :: R) h ds) :
    GO C ops Q (⟨some d, .makeSlice T x y, ty, pos, after, none⟩ :: l) e R h ds :=
  GO.gen rfl rfl hn (fun _ hc => nomatch hc) fun a w ha hs => by
    obtain ⟨i0, hi0, hz0, hz1, hz2⟩ := info_parts hel
    subst hm
    have hrun := run_make w T E i0 z hT hi0 hz0 kd kd2 0 (c : Int) (Int.le_refl _) (by omega) (by rw [hz2, ← Int.natCast_mul]; omega) (by omega)
    simp only [Int.toNat_zero, Int.toNat_natCast] at hrun
    refine ⟨.slice (some ⟨w.heap.size, 0, none⟩) 0 c, w.alloc (.cells (madeCells z.cells (c * i0.size)) E), row (some ⟨w.heap.size, 0, none⟩) 0 c E sz [] :: R, h, by simp only [execOp, ha.eval hx, ha.eval hy]; simp [hrun], ?_, k _⟩
    refine (hs.alloc (.cells (madeCells z.cells (c * i0.size)) E)).turn (r' := row (some ⟨w.heap.size, 0, none⟩) 0 c E sz []) rfl rfl rfl (by simp) (fun _ _ _ => rfl) ?_ (by simp [row, Value.ownBlock]) (fun k hk => .inl (by simpa [row, Value.ownBlock, other] using hk))
    exact World.ownsRow_made w _ c (Nat.zero_le _) (by unfold maxLen; omega) (by simp [madeCells, hz1])
/-- A struct or an array laid in one piece. -/
theorem GO.build {T : TypeId} {parts : List (Nat × Operand)} {vs : List (Nat × Value)} {v : Value} (hn : Nat.blt d C.n = true) (hp : partsE e parts = some vs) (hr : ∀ w, (Instr.build T vs.toArray).run C.P w = .ok v w)
    (k : GO C ops Q l ((d, v) :: e) R h ds) : GO C ops Q (⟨some d, .build T parts.toArray, ty, pos, after, none⟩ :: l) e R h ds :=
  GO.pure rfl rfl hn (fun _ hc => nomatch hc) (fun a w ha => by
    have h1 : parts.toArray.map (fun x => match x with | (i, x) => (i, a.eval x)) = vs.toArray := by rw [← ha.parts hp]; simp
    simp only [execOp, h1]
    simp [hr]) k
theorem GO.nilCheck {x : Operand} {ad : Addr} (hn : Nat.blt d C.n = true) (hx : opE e x = some (.pointer (some ad))) (k : GO C ops Q l ((d, .pointer (some ad)) :: e) R h ds) :
    GO C ops Q (⟨some d, .nilCheck x, ty, pos, after, none⟩ :: l) e R h ds :=
  GO.pure rfl rfl hn (fun _ hc => nomatch hc) (fun a w ha => by simp [execOp, ha.eval hx]) k
theorem GO.makeIface {T : TypeId} {x : Operand} {v : Value} {d0 : TypeDesc} (hn : Nat.blt d C.n = true) (hx : opE e x = some v) (hT : C.P.underlying T = some d0) (hd : (match d0 with | .interface _ => true | _ => false) = false)
    (k : GO C ops Q l ((d, .iface T v) :: e) R h ds) : GO C ops Q (⟨some d, .makeInterface T x, ty, pos, after, none⟩ :: l) e R h ds :=
  GO.pure rfl rfl hn (fun _ hc => nomatch hc) (fun a w ha => by
    simp only [execOp, ha.eval hx]
    cases d0 <;> simp_all [Instr.makeInterface, run_underlying hT]) k
theorem GO.makeFunc {fn : Fn} {first caps : List Operand} {vs ws : List Value} (hn : Nat.blt d C.n = true) (h1 : opsE e first = some vs) (h2 : opsE e caps = some ws) (k : GO C ops Q l ((d, .func fn vs.toArray ws.toArray) :: e) R h ds) :
    GO C ops Q (⟨some d, .makeFunc fn first.toArray caps.toArray, ty, pos, after, none⟩ :: l) e R h ds :=
  GO.pure rfl rfl hn (fun _ hc => nomatch hc) (fun a w ha => by
    simp [execOp, Instr.makeFunc, ha.evals h1, ha.evals h2]) k
/-- a comparison whose value is known. -/
theorem GO.cmpV {op : BinOp} {t t' : TypeId} {x y : Operand} {a b v : Value} (hn : Nat.blt d C.n = true) (hx : opE e x = some a) (hy : opE e y = some b) (hg : ∀ w, (eqGuard op t x y a b).run C.P w = .ok () w) (hv : ∀ w, (binOp op t a b).run C.P w = .ok v w)
    (k : GO C ops Q l ((d, v) :: e) R h ds) : GO C ops Q (⟨some d, .binOp op t x y t', ty, pos, after, none⟩ :: l) e R h ds :=
  GO.pure rfl rfl hn (fun _ hc => nomatch hc) (fun ac w ha => by
    simp only [execOp, ha.eval hx, ha.eval hy]
    simp [hg, hv]) k
theorem GO.bool_eql {t t' : TypeId} {x y : Operand} {a b : Bool} (hn : Nat.blt d C.n = true) (hx : opE e x = some (.bool a)) (hy : opE e y = some (.bool b)) (ht : C.P.underlying t = some .bool)
    (k : GO C ops Q l ((d, .bool (a == b)) :: e) R h ds) : GO C ops Q (⟨some d, .binOp .eql t x y t', ty, pos, after, none⟩ :: l) e R h ds :=
  GO.cmpV hn hx hy (fun w => by simp [eqGuard]) (fun w => by
    have h1 := run_equalIn_bool' (P := C.P) w 9999 t a b ht
    show ((Op.equal t (.bool a) (.bool b)) >>= fun r => Sem.pure (Value.bool r)).run C.P w = _
    simp only [Sem.run_bind, Op.equal, Op.maxDepth]
    rw [h1]
    rfl) k
/-- a slice against nil -/
theorem GO.sl_nil {t t' E : TypeId} {x y : Operand} {A : Option Addr} {n c : Nat} (hn : Nat.blt d C.n = true) (hx : opE e x = some (.slice A n c)) (hy : opE e y = some (.slice none 0 0)) (ht : C.P.underlying t = some (.slice E))
    (k : GO C ops Q l ((d, .bool A.isNone) :: e) R h ds) : GO C ops Q (⟨some d, .binOp .eql t x y t', ty, pos, after, none⟩ :: l) e R h ds :=
  GO.cmpV hn hx hy (fun w => by simp [eqGuard]) (fun w => by
    have h1 : (Op.equalIn 10000 t (.slice A n c) (.slice none 0 0)).run C.P w = .ok A.isNone w := by
      rw [Op.equalIn]
      cases A <;> simp [run_underlying ht]
    show ((Op.equal t (.slice A n c) (.slice none 0 0)) >>= fun r => Sem.pure (Value.bool r)).run C.P w = _
    simp only [Sem.run_bind, Op.equal, Op.maxDepth]
    rw [h1]
    rfl) k
theorem GO.ptr_nil {t t' E : TypeId} {x y : Operand} {A : Option Addr} (hn : Nat.blt d C.n = true) (hx : opE e x = some (.pointer A)) (hy : opE e y = some (.pointer none)) (ht : C.P.underlying t = some (.pointer E))
    (k : GO C ops Q l ((d, .bool A.isNone) :: e) R h ds) : GO C ops Q (⟨some d, .binOp .eql t x y t', ty, pos, after, none⟩ :: l) e R h ds :=
  GO.cmpV hn hx hy (fun w => by simp [eqGuard]) (fun w => by
    have h1 : (Op.equalIn 10000 t (.pointer A) (.pointer none)).run C.P w = .ok A.isNone w := by
      rw [Op.equalIn]
      cases A <;> simp [run_underlying ht]
    show ((Op.equal t (.pointer A) (.pointer none)) >>= fun r => Sem.pure (Value.bool r)).run C.P w = _
    simp only [Sem.run_bind, Op.equal, Op.maxDepth]
    rw [h1]
    rfl) k
end

/-! ### giving a row away -/
section
variable {C : Ctx} {Q : Post} {e : Env} {R : List Res} {h : Hp} {ds : List Deferred}
theorem Sat.giveRow {w0 w : World} {S : List Nat} {h0 h : Hp} {R : List Res} {A : Option Addr} {n c sz : Nat} {E : TypeId} {xs : List Value} (s : Sat w0 S h0 h (row A n c E sz xs :: R) w) :
    ∃ h', h.le h' ∧ CellsAt h' A xs ∧ n ≤ c ∧ Sat w0 S h0 h' R w := by
  have hown : w.ownsRow 0 E sz (.slice A n c) n xs := s.head
  rcases hown.2 with ⟨h1, h2⟩ | ⟨g, cap, cur, h1, hb, hg, hnc, hcm, hcs, htake⟩
  · cases h1
    have hx0 : xs = [] := List.eq_nil_of_length_eq_zero (by simpa using hown.1)
    subst hx0
    exact ⟨h, Hp.le_refl _, ⟨by simp, fun j u hu => by simp at hu⟩, Nat.le_refl _, s.tail⟩
  · cases h1
    obtain ⟨hle, hs'⟩ := s.give (k := g) (by simp [row, Value.ownBlock]) hg
    refine ⟨_, hle, ⟨fun _ => rfl, fun j u hu => ?_⟩, hnc, hs'⟩
    rw [at_own]
    unfold Hp.cell Hp.with_
    rw [if_pos rfl]
    rw [← htake, List.getElem?_take] at hu
    split at hu
    · simpa using hu
    · cases hu
theorem GC.giveRow {c0 : Code} {A : Option Addr} {n c sz : Nat} {E : TypeId} {xs : List Value} (k : ∀ h', h.le h' → CellsAt h' A xs → n ≤ c → GC C Q c0 e R h' ds) : GC C Q c0 e (row A n c E sz xs :: R) h ds := fun a w ha hs => by
  obtain ⟨h', hle, hc, hn, hs'⟩ := hs.giveRow
  exact k h' hle hc hn a w ha hs'
theorem GO.giveRow {ops : Array Oper} {l : List Oper} {A : Option Addr} {n c sz : Nat} {E : TypeId} {xs : List Value} (k : ∀ h', h.le h' → CellsAt h' A xs → n ≤ c → GO C ops Q l e R h' ds) : GO C ops Q l e (row A n c E sz xs :: R) h ds := fun a w ha hs => by
  obtain ⟨h', hle, hc, hn, hs'⟩ := hs.giveRow
  exact k h' hle hc hn a w ha hs'
theorem View.giveRow {A : Option Addr} {n c sz : Nat} {E : TypeId} {xs : List Value} {P : Hp → List Res → Prop} (k : ∀ h', h.le h' → CellsAt h' A xs → n ≤ c → View C h' R P) : View C h (row A n c E sz xs :: R) P := fun w hs => by
  obtain ⟨h', hle, hc, hn, hs'⟩ := hs.giveRow
  exact k h' hle hc hn w hs'
theorem GO.nilRow {ops : Array Oper} {l : List Oper} (E : TypeId) (sz : Nat) (k : GO C ops Q l e (row none 0 0 E sz [] :: R) h ds) : GO C ops Q l e R h ds := fun a w ha hs => k a w ha (hs.nilRow E sz)
theorem GC.nilRow {c0 : Code} (E : TypeId) (sz : Nat) (k : GC C Q c0 e (row none 0 0 E sz [] :: R) h ds) : GC C Q c0 e R h ds := fun a w ha hs => k a w ha (hs.nilRow E sz)
end
end Go.Proofs.YtajdjclhkoenfaaDoor
