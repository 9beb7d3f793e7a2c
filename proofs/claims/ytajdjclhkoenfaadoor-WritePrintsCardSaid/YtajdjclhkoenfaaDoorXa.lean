/- Arguments as data: from what the row says of an argument's reading to our own kinds of data. -/
import Derived.Test.YtajdjclhkoenfaaDoorWa
import Derived.Test.YtajdjclhkoenfaaDoorGh
import Derived.Deep.Slices
import Derived.ChangeArms
import GoSem.ClaimJoined
set_option linter.unusedSimpArgs false
set_option linter.unusedVariables false
namespace Go.Proofs.YtajdjclhkoenfaaDoor
open Go.RowKit

def Sized {H : Type} (P : Program) (t : TypeId) (d : DataW H) : Prop := ∀ n ∈ d.weights P t, n ≤ reachBytes
def Reads (P : Program) {α : Type} (K : Kd α) (E : TypeId) : Prop := ∀ (H : Type) (enc : TypeId × Value → H) (w : World) (base : Nat) (sp : Nat → Bool) (held : Bool) (fuel : Nat) (cs : List Value) (x : DataW H × List MemPlace),
  (∀ b, sp b = true) → DataW.trod enc P w base sp held fuel E cs = some x → Sized P E x.1 → ∃ y, K.ok (fullHp w) y cs
theorem fullHp_cell (w : World) (a : Addr) : (fullHp w).cell a = w.cell? a := rfl
theorem flat_map {α : Type} {K : Kd α} {h : Hp} {Y : Nat → α} {CS : Nat → List Value} : ∀ (L : List Nat), (∀ i ∈ L, K.ok h (Y i) (CS i)) → Flat K h (L.map Y) (L.flatMap CS)
  | [], _ => rfl
  | i :: L, hk => ⟨CS i, L.flatMap CS, rfl, hk i (by simp), flat_map L fun j hj => hk j (List.mem_cons_of_mem _ hj)⟩
theorem flatMap_at {CS : Nat → List Value} {n : Nat} : ∀ (len : Nat), (∀ i, i < len → (CS i).length = n) → ∀ j u, ((List.range len).flatMap CS)[j]? = some u → ∃ i k, i < len ∧ j = i * n + k ∧ (CS i)[k]? = some u
  | 0, _, j, u, h => by simp at h
  | len + 1, hl, j, u, h => by
    have hlen : ∀ m, m ≤ len + 1 → ((List.range m).flatMap CS).length = m * n := by
      intro m hm
      induction m with
      | zero => simp
      | succ m ih => rw [List.range_succ, List.flatMap_append, List.length_append, ih (by omega)]; simp [hl m (by omega), Nat.add_mul]
    rw [List.range_succ, List.flatMap_append] at h
    by_cases hj : j < len * n
    · rw [List.getElem?_append_left (by rw [hlen len (by omega)]; exact hj)] at h
      obtain ⟨i, k, h1, h2, h3⟩ := flatMap_at len (fun i hi => hl i (by omega)) j u h
      exact ⟨i, k, by omega, h2, h3⟩
    · rw [List.getElem?_append_right (by rw [hlen len (by omega)]; omega), hlen len (by omega)] at h
      refine ⟨len, j - len * n, by omega, by omega, ?_⟩
      simpa using h
theorem weightsAll_mem {H : Type} {P : Program} {e : TypeId} {n : Nat} : ∀ {l : List (DataW H)} {d : DataW H}, d ∈ l → n ∈ d.weights P e → n ∈ DataW.weightsAll P e l
  | x :: r, d, hd, hn => by
    rw [DataW.weightsAll]
    rcases List.mem_cons.1 hd with rfl | hd
    · exact List.mem_append_left _ hn
    · exact List.mem_append_right _ (weightsAll_mem hd hn)
theorem open_sl {α : Type} {K : Kd α} {P : Program} {T E : TypeId} (hT : P.underlying T = some (.slice E)) (hE : Reads P K E) (hn : P.cellsOf E = K.n) {H : Type} {enc : TypeId × Value → H} {w : World} {base : Nat} {sp : Nat → Bool} {held : Bool} {fuel : Nat} {cs : List Value} {x : DataW H × List MemPlace}
    (hsp : ∀ b, sp b = true) (h : DataW.trod enc P w base sp held fuel T cs = some x) (hsz : Sized P T x.1) : ∃ A n c l, cs = [.slice A n c] ∧ SlH K (fullHp w) A n c l ∧ c * P.bytesOf E ≤ reachBytes := by
  rcases Go.Deep.open_slice hT h with ⟨rfl, rfl⟩ | ⟨a, len, cap, m, nf, D, Pl, rfl, hb, hl, hm, hmm, rfl, hx⟩
  · exact ⟨none, 0, 0, [], rfl, SlH.nil, by simp⟩
  rw [hsp, if_pos rfl] at hmm
  subst hmm
  simp only [Sized, DataW.weights, hT] at hsz
  have h0 := hsz _ (List.mem_cons_self)
  simp only [List.length_map, List.length_range] at h0
  have hcap : len + (m - len) = m := by omega
  rw [hcap] at h0
  have each : ∀ i, i < len → ∃ q : α × List Value, K.ok (fullHp w) q.1 q.2 ∧ ∀ k u, q.2[k]? = some u → w.cell? ((a.add (i * K.n)).add k) = some u := by
    intro i hi
    obtain ⟨cs', h1, h2⟩ := hx i (by omega)
    rw [hn] at h1
    obtain ⟨_, hlen, hcell⟩ := World.cells?_some h1
    obtain ⟨y, hy⟩ := hE H enc w base sp held nf cs' _ hsp h2 (fun q hq => hsz q (List.mem_cons_of_mem _ (List.mem_append_left _ (weightsAll_mem (List.mem_map.2 ⟨i, List.mem_range.2 hi, rfl⟩) hq))))
    refine ⟨(y, cs'), hy, fun k u hk => ?_⟩
    have hkl : k < K.n := by rw [← hlen]; exact (List.getElem?_eq_some_iff.1 hk).1
    rw [hcell k hkl]; exact hk
  have hinh : ∀ i, i < len → Nonempty (α × List Value) := fun i hi => ⟨(each i hi).choose⟩
  by_cases hl0 : len = 0
  · subst hl0
    exact ⟨some a, 0, m, [], rfl, ⟨rfl, by omega, [], rfl, by simp, fun j u hu => by simp at hu⟩, h0⟩
  haveI : Inhabited (α × List Value) := Classical.inhabited_of_nonempty (hinh 0 (by omega))
  obtain ⟨f, hf⟩ := Go.Deep.choose_lt each
  refine ⟨some a, len, m, (List.range len).map fun i => (f i).1, rfl, ⟨by simp, hl, (List.range len).flatMap fun i => (f i).2, ?_, ?_⟩, h0⟩
  · exact flat_map (Y := fun i => (f i).1) (CS := fun i => (f i).2) _ fun i hi => (hf i (List.mem_range.1 hi)).1
  · refine ⟨fun _ => rfl, fun j u hu => ?_⟩
    obtain ⟨i, k, h1, h2, h3⟩ := flatMap_at (CS := fun i => (f i).2) (n := K.n) len (fun i hi => K.len (hf i hi).1) j u hu
    have := (hf i h1).2 k u h3
    rw [fullHp_cell, h2]
    rw [add_add_] at this
    exact this

set_option maxRecDepth 100000 in
theorem reads_attr : Reads Tryd.prog kAttr 45 := by
  intro H enc w base sp held fuel cs x hsp h hsz
  obtain ⟨xs, n, rfl, rfl, hlen, hxl, hf⟩ := DataW.trod_struct Tryd.underlying45 h
  rw [show Tryd.prog.cellsOf 45 = 2 by kernel_rfl] at hlen
  have cS : Tryd.prog.cellsOf 9 = 1 := by kernel_rfl
  match xs, hxl, cs, hlen with
  | [y0, y1], _, [v0, v1], _ =>
    have f0 := hf 0 _ rfl
    have f1 := hf 1 _ rfl
    simp only [List.getElem_toArray, List.getElem_cons_zero, List.getElem_cons_succ, cS, List.drop_zero, List.drop_succ_cons, List.take_succ_cons, List.take_zero, List.getElem?_cons_zero, List.getElem?_cons_succ] at f0 f1
    obtain ⟨s0, e0, rfl, _⟩ := DataW.trod_string Tryd.underlying9 f0
    obtain ⟨s1, e1, rfl, _⟩ := DataW.trod_string Tryd.underlying9 f1
    simp only [List.cons.injEq, and_true] at e0 e1
    subst e0; subst e1
    simp only [Sized, DataW.weights, Tryd.underlying45, List.map_cons, List.map_nil, DataW.weightsEach, List.append_nil, List.cons_append, List.nil_append, List.mem_cons, List.not_mem_nil, or_false] at hsz
    have z0 := hsz _ (.inl rfl)
    have z1 := hsz _ (.inr rfl)
    rw [← Lib.size_eq] at z0 z1
    unfold reachBytes at z0 z1
    refine ⟨⟨s0, s1⟩, rfl, ?_, ?_⟩
    · show s0.size ≤ big; unfold big; omega
    · show s1.size ≤ big; unfold big; omega
set_option maxRecDepth 100000 in
theorem reads_tok : Reads Tryd.prog kTok 38 := by
  intro H enc w base sp held fuel cs x hsp h hsz
  obtain ⟨xs, n, rfl, rfl, hlen, hxl, hf⟩ := DataW.trod_struct Tryd.underlying38 h
  rw [show Tryd.prog.cellsOf 38 = 4 by kernel_rfl] at hlen
  have cS : Tryd.prog.cellsOf 9 = 1 := by kernel_rfl
  have cK : Tryd.prog.cellsOf 35 = 1 := by kernel_rfl
  have cA : Tryd.prog.cellsOf 36 = 1 := by kernel_rfl
  match xs, hxl, cs, hlen with
  | [y0, y1, y2, y3], _, [v0, v1, v2, v3], _ =>
    have f0 := hf 0 _ rfl
    have f1 := hf 1 _ rfl
    have f2 := hf 2 _ rfl
    have f3 := hf 3 _ rfl
    simp only [List.getElem_toArray, List.getElem_cons_zero, List.getElem_cons_succ, cS, cK, cA, List.drop_zero, List.drop_succ_cons, List.take_succ_cons, List.take_zero, List.getElem?_cons_zero, List.getElem?_cons_succ] at f0 f1 f2 f3
    obtain ⟨k0, e0, rfl, wf0⟩ := DataW.trod_int Tryd.underlying35 f0
    obtain ⟨s1, e1, rfl, _⟩ := DataW.trod_string Tryd.underlying9 f1
    obtain ⟨s3, e3, rfl, _⟩ := DataW.trod_string Tryd.underlying9 f3
    simp only [List.cons.injEq, and_true] at e0 e1 e3
    subst e0; subst e1; subst e3
    simp only [Sized, DataW.weights, Tryd.underlying38, List.map_cons, List.map_nil, DataW.weightsEach, List.append_nil, List.cons_append, List.nil_append, List.mem_cons, List.mem_append, List.not_mem_nil, or_false] at hsz
    have z1 := hsz _ (.inl rfl)
    have z3 := hsz _ (.inr (.inr rfl))
    obtain ⟨A, m, c, l, e2, sl, hc⟩ := open_sl Tryd.underlying36 reads_attr (by kernel_rfl) hsp f2 (fun q hq => hsz q (.inr (.inl hq)))
    rw [show Tryd.prog.bytesOf 45 = 32 by kernel_rfl] at hc
    simp only [List.cons.injEq, and_true] at e2
    subst e2
    rw [← Lib.size_eq] at z1 z3
    unfold reachBytes at z1 z3 hc
    have hmc := sl.cap
    simp [Lit.wf, IntKind.min, IntKind.max, IntKind.signed, IntKind.bits] at wf0
    refine ⟨⟨k0, s1, l, s3⟩, A, m, c, rfl, sl, ?_, ?_, ?_, ?_, ?_⟩
    · show s1.size ≤ big; unfold big; omega
    · show s3.size ≤ big; unfold big; omega
    · unfold big; omega
    · exact wf0.1
    · exact wf0.2
theorem Sized.of_all {H : Type} {P : Program} {t : TypeId} {d : DataW H} (h : (DataW.weightsEach P [t] [d]).all (· ≤ reachBytes) = true) : Sized P t d := fun n hn => by
  have := List.all_eq_true.1 h n (by simp [DataW.weightsEach, hn])
  simpa using this
/-- A call that hands back a value, in our words, is one in the kit's. -/
theorem CallsV.calls {P : Program} {f : FuncId} {args : Array Value} {v : Value} {w : World} (c : CallsV P f args (fullHp w) v) : Calls P f args w fun e w' => e = .returned v ∧ Below w.heap.size w w' :=
  (c w (Sat.full w)).mono fun e w' ⟨h', R', hs, he, _, hR⟩ => by subst hR; exact ⟨he, hs.toBelow⟩
end Go.Proofs.YtajdjclhkoenfaaDoor
