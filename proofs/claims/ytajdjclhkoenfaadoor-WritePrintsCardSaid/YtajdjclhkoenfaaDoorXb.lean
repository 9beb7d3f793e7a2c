/- The row of heliographlaw04.WritePrints: for every tokens that can be read as data (where utf8's two tables hold what the program's text lays) the call returns true and leaves its argument as it was. -/
import Derived.Test.YtajdjclhkoenfaaDoorXa
import Derived.Test.YtajdjclhkoenfaaDoorWr
import Derived.Test.YtajdjclhkoenfaaDoorRows
import Derived.Lib.LaidIn
import Derived.Lib.LaidU8T
import Derived.PinnedBridge
import Derived.ProofKit
import Derived.SizedLaws
import Derived.Deep.DeepHandedRow
import Derived.Deep.DeepWitnessRowRef
set_option linter.unusedVariables false
namespace Go.Proofs.YtajdjclhkoenfaaDoor
open Go.Shelf Go.ChangeShapes Go.WideShapes Go.ChangeAt Go.RowKit Go.Lib

theorem Tryd_own : ownKnob Tryd.prog.godebug = none := by kernel_rfl
theorem Tryd_laidOut : laidOutB Tryd.prog = true := by kernel_rfl
/-- A start that fits: the settled world, the two tables holding what their initialisers lay. -/
noncomputable def laidU8 (os : Os) : World :=
  let w0 := World.holding Tryd.prog os ⟨#[], #[], []⟩
  let put (h : Array Obj) (g : Nat) (cs : Array Value) : Array Obj := h.modify g fun
    | .cells _ t frozen => .cells cs t frozen
    | o => o
  let h1 := put w0.heap 0 (Lib.firstTab.map fun z => Value.int .u8 z).toArray
  let h2 := put h1 1 ((List.range 16).flatMap fun i => [Value.int .u8 (Lib.accLo i), Value.int .u8 (Lib.accHi i)]).toArray
  { w0 with heap := h2 }
theorem u8_of_laid {W : World} {l : List (String × DataW Unit)} (hL : laidMet Tryd.prog l W) (h1 : ("unicode/utf8.first", Rows.laid_unicode_utf8_first) ∈ l) (h2 : ("unicode/utf8.acceptRanges", Rows.laid_unicode_utf8_acceptRanges) ∈ l) : U8 (fullHp W) := by
  have hr1 := Lib.laidMet.reads hL h1
  have hr2 := Lib.laidMet.reads hL h2
  rw [show Rows.laid_unicode_utf8_first = Lib.firstData from Pinned.utf8First_eq] at hr1
  rw [show Rows.laid_unicode_utf8_acceptRanges = Lib.acceptData by kernel_rfl] at hr2
  have := utf8Tabs_of_readsT (U8Types.of196 Tryd.laysValid) ⟨by kernel_rfl, by kernel_rfl, by kernel_rfl, by kernel_rfl, by kernel_rfl, by kernel_rfl, by kernel_rfl⟩ hr1 hr2
  exact this
theorem laidB_met (os : Os) (args : Array Value) : laidMet Tryd.prog Rows.writePrintsRow.laid ((laidU8 os).forCall (fun _ _ => 0) ⟨#[], args, []⟩).memory :=
  (LaidIn.of_run (l := Rows.writePrintsRow.laid) [0, 1] 8 (by kernel_rfl) (by kernel_rfl) (by kernel_rfl) (by kernel_rfl)).met

theorem writePrints_witness (os : Os) {H : Type} (enc : TypeId × Value → H) :
    (OpenSpec.ofChange Rows.writePrintsSpec).preRow enc Tryd.prog Tryd.f3 Rows.writePrintsRow.domain false Rows.writePrintsRow.laid ((laidU8 os).forCall (fun _ _ => 0) ⟨#[], #[.slice none 0 0], []⟩).memory #[.slice none 0 0] := by
  have hw : (DataW.whole enc Tryd.prog ((laidU8 os).forCall (fun _ _ => 0) ⟨#[], #[.slice none 0 0], []⟩).memory Tryd.f3.params.toList (OpenSpec.ofChange Rows.writePrintsSpec).vars false #[Value.slice none 0 0].toList 8).map (fun x => (x.1, x.2.1)) =
      some ([.nil], []) := by kernel_rfl
  obtain ⟨⟨x1, x2, x3⟩, hx, hx1⟩ := Option.map_eq_some_iff.1 hw
  simp only [Prod.mk.injEq] at hx1
  obtain ⟨rfl, rfl⟩ := hx1
  exact OpenSpec.preRow_of_cond 8 hx (by kernel_rfl) (fun k hk => by cases hk) (by kernel_rfl) (laidB_met os _)

set_option maxRecDepth 100000 in
set_option maxHeartbeats 2000000 in
theorem writePrints_lifted (os : Os) (started : os.Started) (H : Type) (enc : TypeId × Value → H) (F : Stop.Interp) :
    ReturnsInHanded {} Tryd.checked os 3 .any ((OpenSpec.ofChange Rows.writePrintsSpec).preRow enc Tryd.prog Tryd.f3 Rows.writePrintsRow.domain false Rows.writePrintsRow.laid)
      (((OpenSpec.ofChange Rows.writePrintsSpec).at F).post enc Tryd.prog Tryd.f3 false true false false) := by
  refine returnsInHanded_of_row (C := Tryd.checked) (s := OpenSpec.ofChange Rows.writePrintsSpec) Tryd_own started (by kernel_rfl) Tryd.func3
    (witness_row_atRef (enc := enc) (C := Tryd.checked) false (laidU8 os) #[.slice none 0 0] rfl (by kernel_rfl) (by kernel_rfl) (by kernel_rfl) (writePrints_witness os enc)) ?_
  intro W base args ds gs before hval0 hW _ _ hsz hL _ _
  have hW' := hW
  obtain ⟨p, q, hA0, hV0, rfl, _, _⟩ := hW
  have hA : DataW.TrodAll enc Tryd.prog W 0 (fun _ => true) true Tryd.f3.params.toList args.toList ds p := hA0
  rw [Tryd.params3] at hA
  obtain ⟨v0, d0, rfl, rfl, h0⟩ := trodAll_one hA
  obtain ⟨rfl, rfl⟩ := trodVars_none hV0
  clear hA0 hV0
  have hu := u8_of_laid hL (by simp [Rows.writePrintsRow]) (by simp [Rows.writePrintsRow])
  have h0' := h0
  obtain ⟨fuel, hf⟩ := h0'
  have hlt : ∀ x ∈ p, x.block < W.heap.size := fun x hx => by simpa using hW'.lt x (by simpa using hx)
  obtain ⟨a0, n0, c0, rfl⟩ := okWide_slice Tryd.underlying22 (hval0 0 22 v0 rfl rfl)
  obtain ⟨A, n, c, l, e0, sl, hc⟩ := open_sl Tryd.underlying22 reads_tok (by kernel_rfl) (fun _ => rfl) hf (Sized.of_all hsz)
  simp only [Value.cells, List.cons.injEq, and_true, Value.slice.injEq] at e0
  obtain ⟨rfl, rfl, rfl⟩ := e0
  rw [show Tryd.prog.bytesOf 38 = 64 by kernel_rfl] at hc
  unfold reachBytes at hc
  refine (WritePrints_spec _ _ _ (fullHp W) hu l sl (by unfold big; omega)).calls.mono ?_
  rintro e W' ⟨rfl, bel⟩
  refine ⟨_, rfl, [d0], [], _, [], p, [], hW', trodAll_mk1 (shut_bool Tryd.underlying4 _), trodAll_mk1 (Below.trod Tryd_laidOut (by kernel_rfl) (of_decide_eq_true (by kernel_rfl)) h0 bel hlt), rfl, bel.frame _, fun h => by cases h⟩
end Go.Proofs.YtajdjclhkoenfaaDoor
