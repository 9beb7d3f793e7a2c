/- What the loaded program says of its types and functions. -/
import Derived.Test.YtajdjclhkoenfaaDoorGg
import Derived.Test.YtajdjclhkoenfaaDoorProg
import Derived.KernelRfl
import Derived.Laws.Externs
namespace Go.Proofs.YtajdjclhkoenfaaDoor
theorem Tryd_mixed : Tryd.prog.follows .mixedOrders = true := by kernel_rfl
class CU (t : TypeId) (d : outParam TypeDesc) : Prop where
  eq : Tryd.prog.underlying t = some d
class CS (t : TypeId) (n : outParam Nat) : Prop where
  eq : ∀ w, (sizeOf t).run Tryd.prog w = .ok n w
class CG (t : TypeId) (b : outParam Bool) : Prop where
  eq : ∀ w, (isAgg t).run Tryd.prog w = .ok b w
class CZ (t : TypeId) (v : outParam Value) : Prop where
  eq : ∀ w, (zeroValue t).run Tryd.prog w = .ok v w
class CE (t : TypeId) (z : outParam Value) (s b : outParam Nat) : Prop where
  eq : ElT Tryd.prog t z s b
class CF (t f : Nat) (off : outParam Nat) : Prop where
  eq : FldOk Tryd.prog t f off
class CN (f : FuncId) : Prop where
  eq : ∀ args w, (callFunc f args).run Tryd.prog w = .ok (.enter f args) w
theorem fM : Tryd.prog.follows .mixedOrders = true := Tryd_mixed
theorem fU {t : TypeId} {d : TypeDesc} [i : CU t d] : Tryd.prog.underlying t = some d := i.eq
theorem fS {t : TypeId} {n : Nat} [i : CS t n] : ∀ w, (sizeOf t).run Tryd.prog w = .ok n w := i.eq
theorem fG {t : TypeId} {b : Bool} [i : CG t b] : ∀ w, (isAgg t).run Tryd.prog w = .ok b w := i.eq
theorem fZ {t : TypeId} {v : Value} [i : CZ t v] : ∀ w, (zeroValue t).run Tryd.prog w = .ok v w := i.eq
theorem fE {t : TypeId} {z : Value} {s b : Nat} [i : CE t z s b] : ElT Tryd.prog t z s b := i.eq
theorem fF {t f off : Nat} [i : CF t f off] : FldOk Tryd.prog t f off := i.eq
theorem fN {f : FuncId} [i : CN f] : ∀ args w, (callFunc f args).run Tryd.prog w = .ok (.enter f args) w := i.eq
def fKs {t : TypeId} [CU t .string] : KeyT Tryd.prog t Value.string := KeyT.string fU
def fKi {t : TypeId} {k : IntKind} [CU t (.int k)] : KeyT Tryd.prog t (Value.int k) := KeyT.int fU

instance : CU 0 (Go.TypeDesc.tuple #[]) := ⟨Tryd.underlying0⟩
instance : CS 0 1 := ⟨Tryd.sizeOf0⟩
instance : CG 0 false := ⟨Tryd.isAgg0⟩
instance : CZ 0 ((Go.Value.tuple #[])) := ⟨Tryd.zeroValue0⟩
instance : CU 1 (Go.TypeDesc.func #[] #[] false) := ⟨Tryd.underlying1⟩
instance : CS 1 1 := ⟨Tryd.sizeOf1⟩
instance : CG 1 false := ⟨Tryd.isAgg1⟩
instance : CZ 1 (Go.Value.nilFunc) := ⟨Tryd.zeroValue1⟩
instance : CU 2 (Go.TypeDesc.int Go.IntKind.i64) := ⟨Tryd.underlying2⟩
instance : CS 2 1 := ⟨Tryd.sizeOf2⟩
instance : CG 2 false := ⟨Tryd.isAgg2⟩
instance : CZ 2 ((Go.Value.int Go.IntKind.i64 0)) := ⟨Tryd.zeroValue2⟩
instance : CU 3 (Go.TypeDesc.int Go.IntKind.i64) := ⟨Tryd.underlying3⟩
instance : CS 3 1 := ⟨Tryd.sizeOf3⟩
instance : CG 3 false := ⟨Tryd.isAgg3⟩
instance : CZ 3 ((Go.Value.int Go.IntKind.i64 0)) := ⟨Tryd.zeroValue3⟩
instance : CU 4 Go.TypeDesc.bool := ⟨Tryd.underlying4⟩
instance : CS 4 1 := ⟨Tryd.sizeOf4⟩
instance : CG 4 false := ⟨Tryd.isAgg4⟩
instance : CZ 4 ((Go.Value.bool false)) := ⟨Tryd.zeroValue4⟩
instance : CU 5 (Go.TypeDesc.int Go.IntKind.u8) := ⟨Tryd.underlying5⟩
instance : CS 5 1 := ⟨Tryd.sizeOf5⟩
instance : CG 5 false := ⟨Tryd.isAgg5⟩
instance : CZ 5 ((Go.Value.int Go.IntKind.u8 0)) := ⟨Tryd.zeroValue5⟩
instance : CU 6 (Go.TypeDesc.int Go.IntKind.u8) := ⟨Tryd.underlying6⟩
instance : CS 6 1 := ⟨Tryd.sizeOf6⟩
instance : CG 6 false := ⟨Tryd.isAgg6⟩
instance : CZ 6 ((Go.Value.int Go.IntKind.u8 0)) := ⟨Tryd.zeroValue6⟩
instance : CU 7 (Go.TypeDesc.struct #[Go.Field.mk "x" 2 0 false "" "runtime" 0, Go.Field.mk "y" 3 1 false "" "runtime" 8, Go.Field.mk "signed" 4 2 false "" "runtime" 16, Go.Field.mk "code" 6 3 false "" "runtime" 17]) := ⟨Tryd.underlying7⟩
instance : CS 7 4 := ⟨Tryd.sizeOf7⟩
instance : CG 7 true := ⟨Tryd.isAgg7⟩
instance : CZ 7 ((Go.Value.agg #[Go.Value.int Go.IntKind.i64 0, Go.Value.int Go.IntKind.i64 0, Go.Value.bool false, Go.Value.int Go.IntKind.u8 0])) := ⟨Tryd.zeroValue7⟩
instance : CF 7 0 0 := ⟨_, _, _, Tryd.underlying7, rfl, Tryd.sizeOf2, rfl⟩
instance : CF 7 1 1 := ⟨_, _, _, Tryd.underlying7, rfl, Tryd.sizeOf3, rfl⟩
instance : CF 7 2 2 := ⟨_, _, _, Tryd.underlying7, rfl, Tryd.sizeOf4, rfl⟩
instance : CF 7 3 3 := ⟨_, _, _, Tryd.underlying7, rfl, Tryd.sizeOf6, rfl⟩
instance : CU 8 (Go.TypeDesc.struct #[Go.Field.mk "x" 2 0 false "" "runtime" 0, Go.Field.mk "y" 3 1 false "" "runtime" 8, Go.Field.mk "signed" 4 2 false "" "runtime" 16, Go.Field.mk "code" 6 3 false "" "runtime" 17]) := ⟨Tryd.underlying8⟩
instance : CS 8 4 := ⟨Tryd.sizeOf8⟩
instance : CG 8 true := ⟨Tryd.isAgg8⟩
instance : CZ 8 ((Go.Value.agg #[Go.Value.int Go.IntKind.i64 0, Go.Value.int Go.IntKind.i64 0, Go.Value.bool false, Go.Value.int Go.IntKind.u8 0])) := ⟨Tryd.zeroValue8⟩
instance : CF 8 0 0 := ⟨_, _, _, Tryd.underlying8, rfl, Tryd.sizeOf2, rfl⟩
instance : CF 8 1 1 := ⟨_, _, _, Tryd.underlying8, rfl, Tryd.sizeOf3, rfl⟩
instance : CF 8 2 2 := ⟨_, _, _, Tryd.underlying8, rfl, Tryd.sizeOf4, rfl⟩
instance : CF 8 3 3 := ⟨_, _, _, Tryd.underlying8, rfl, Tryd.sizeOf6, rfl⟩
instance : CU 9 Go.TypeDesc.string := ⟨Tryd.underlying9⟩
instance : CS 9 1 := ⟨Tryd.sizeOf9⟩
instance : CG 9 false := ⟨Tryd.isAgg9⟩
instance : CZ 9 ((Go.Value.string (ByteArray.mk #[]))) := ⟨Tryd.zeroValue9⟩
instance : CU 10 Go.TypeDesc.string := ⟨Tryd.underlying10⟩
instance : CS 10 1 := ⟨Tryd.sizeOf10⟩
instance : CG 10 false := ⟨Tryd.isAgg10⟩
instance : CZ 10 ((Go.Value.string (ByteArray.mk #[]))) := ⟨Tryd.zeroValue10⟩
instance : CU 11 Go.TypeDesc.string := ⟨Tryd.underlying11⟩
instance : CS 11 1 := ⟨Tryd.sizeOf11⟩
instance : CG 11 false := ⟨Tryd.isAgg11⟩
instance : CZ 11 ((Go.Value.string (ByteArray.mk #[]))) := ⟨Tryd.zeroValue11⟩
instance : CU 12 (Go.TypeDesc.int Go.IntKind.u64) := ⟨Tryd.underlying12⟩
instance : CS 12 1 := ⟨Tryd.sizeOf12⟩
instance : CG 12 false := ⟨Tryd.isAgg12⟩
instance : CZ 12 ((Go.Value.int Go.IntKind.u64 0)) := ⟨Tryd.zeroValue12⟩
instance : CU 13 (Go.TypeDesc.struct #[Go.Field.mk "msg" 9 0 false "" "runtime" 0, Go.Field.mk "addr" 12 1 false "" "runtime" 16]) := ⟨Tryd.underlying13⟩
instance : CS 13 2 := ⟨Tryd.sizeOf13⟩
instance : CG 13 true := ⟨Tryd.isAgg13⟩
instance : CZ 13 ((Go.Value.agg #[Go.Value.string (ByteArray.mk #[]), Go.Value.int Go.IntKind.u64 0])) := ⟨Tryd.zeroValue13⟩
instance : CF 13 0 0 := ⟨_, _, _, Tryd.underlying13, rfl, Tryd.sizeOf9, rfl⟩
instance : CF 13 1 1 := ⟨_, _, _, Tryd.underlying13, rfl, Tryd.sizeOf12, rfl⟩
instance : CU 14 (Go.TypeDesc.struct #[Go.Field.mk "msg" 9 0 false "" "runtime" 0, Go.Field.mk "addr" 12 1 false "" "runtime" 16]) := ⟨Tryd.underlying14⟩
instance : CS 14 2 := ⟨Tryd.sizeOf14⟩
instance : CG 14 true := ⟨Tryd.isAgg14⟩
instance : CZ 14 ((Go.Value.agg #[Go.Value.string (ByteArray.mk #[]), Go.Value.int Go.IntKind.u64 0])) := ⟨Tryd.zeroValue14⟩
instance : CF 14 0 0 := ⟨_, _, _, Tryd.underlying14, rfl, Tryd.sizeOf9, rfl⟩
instance : CF 14 1 1 := ⟨_, _, _, Tryd.underlying14, rfl, Tryd.sizeOf12, rfl⟩
instance : CU 15 (Go.TypeDesc.pointer 236) := ⟨Tryd.underlying15⟩
instance : CS 15 1 := ⟨Tryd.sizeOf15⟩
instance : CG 15 false := ⟨Tryd.isAgg15⟩
instance : CZ 15 ((Go.Value.pointer none)) := ⟨Tryd.zeroValue15⟩
instance : CU 16 (Go.TypeDesc.pointer 239) := ⟨Tryd.underlying16⟩
instance : CS 16 1 := ⟨Tryd.sizeOf16⟩
instance : CG 16 false := ⟨Tryd.isAgg16⟩
instance : CZ 16 ((Go.Value.pointer none)) := ⟨Tryd.zeroValue16⟩
instance : CU 17 (Go.TypeDesc.pointer 246) := ⟨Tryd.underlying17⟩
instance : CS 17 1 := ⟨Tryd.sizeOf17⟩
instance : CG 17 false := ⟨Tryd.isAgg17⟩
instance : CZ 17 ((Go.Value.pointer none)) := ⟨Tryd.zeroValue17⟩
instance : CU 18 (Go.TypeDesc.struct #[Go.Field.mk "typ" 17 0 false "" "internal/runtime/maps" 0]) := ⟨Tryd.underlying18⟩
instance : CS 18 1 := ⟨Tryd.sizeOf18⟩
instance : CG 18 true := ⟨Tryd.isAgg18⟩
instance : CZ 18 ((Go.Value.agg #[Go.Value.pointer none])) := ⟨Tryd.zeroValue18⟩
instance : CF 18 0 0 := ⟨_, _, _, Tryd.underlying18, rfl, Tryd.sizeOf17, rfl⟩
instance : CU 19 (Go.TypeDesc.struct #[Go.Field.mk "typ" 17 0 false "" "internal/runtime/maps" 0]) := ⟨Tryd.underlying19⟩
instance : CS 19 1 := ⟨Tryd.sizeOf19⟩
instance : CG 19 true := ⟨Tryd.isAgg19⟩
instance : CZ 19 ((Go.Value.agg #[Go.Value.pointer none])) := ⟨Tryd.zeroValue19⟩
instance : CF 19 0 0 := ⟨_, _, _, Tryd.underlying19, rfl, Tryd.sizeOf17, rfl⟩
instance : CU 20 (Go.TypeDesc.interface #[]) := ⟨Tryd.underlying20⟩
instance : CS 20 1 := ⟨Tryd.sizeOf20⟩
instance : CG 20 false := ⟨Tryd.isAgg20⟩
instance : CZ 20 (Go.Value.nilIface) := ⟨Tryd.zeroValue20⟩
instance : CU 21 (Go.TypeDesc.int Go.IntKind.i32) := ⟨Tryd.underlying21⟩
instance : CS 21 1 := ⟨Tryd.sizeOf21⟩
instance : CG 21 false := ⟨Tryd.isAgg21⟩
instance : CZ 21 ((Go.Value.int Go.IntKind.i32 0)) := ⟨Tryd.zeroValue21⟩
instance : CU 22 (Go.TypeDesc.slice 38) := ⟨Tryd.underlying22⟩
instance : CS 22 1 := ⟨Tryd.sizeOf22⟩
instance : CG 22 false := ⟨Tryd.isAgg22⟩
instance : CZ 22 ((Go.Value.slice none 0 0)) := ⟨Tryd.zeroValue22⟩
instance : CE 38 ((Go.Value.agg #[Go.Value.int Go.IntKind.u8 0, Go.Value.string (ByteArray.mk #[]), Go.Value.slice none 0 0, Go.Value.string (ByteArray.mk #[])])) 4 64 := ⟨by unfold ElT; kernel_rfl⟩
instance : CU 23 (Go.TypeDesc.func #[22] #[22] false) := ⟨Tryd.underlying23⟩
instance : CS 23 1 := ⟨Tryd.sizeOf23⟩
instance : CG 23 false := ⟨Tryd.isAgg23⟩
instance : CZ 23 (Go.Value.nilFunc) := ⟨Tryd.zeroValue23⟩
instance : CU 24 (Go.TypeDesc.int Go.IntKind.i64) := ⟨Tryd.underlying24⟩
instance : CS 24 1 := ⟨Tryd.sizeOf24⟩
instance : CG 24 false := ⟨Tryd.isAgg24⟩
instance : CZ 24 ((Go.Value.int Go.IntKind.i64 0)) := ⟨Tryd.zeroValue24⟩
instance : CU 25 (Go.TypeDesc.tuple #[9, 24]) := ⟨Tryd.underlying25⟩
instance : CS 25 1 := ⟨Tryd.sizeOf25⟩
instance : CG 25 false := ⟨Tryd.isAgg25⟩
instance : CZ 25 ((Go.Value.tuple #[Go.Value.string (ByteArray.mk #[]), Go.Value.int Go.IntKind.i64 0])) := ⟨Tryd.zeroValue25⟩
instance : CU 26 (Go.TypeDesc.func #[22] #[9, 24] false) := ⟨Tryd.underlying26⟩
instance : CS 26 1 := ⟨Tryd.sizeOf26⟩
instance : CG 26 false := ⟨Tryd.isAgg26⟩
instance : CZ 26 (Go.Value.nilFunc) := ⟨Tryd.zeroValue26⟩
instance : CU 27 (Go.TypeDesc.func #[] #[4] false) := ⟨Tryd.underlying27⟩
instance : CS 27 1 := ⟨Tryd.sizeOf27⟩
instance : CG 27 false := ⟨Tryd.isAgg27⟩
instance : CZ 27 (Go.Value.nilFunc) := ⟨Tryd.zeroValue27⟩
instance : CU 28 (Go.TypeDesc.func #[22] #[4] false) := ⟨Tryd.underlying28⟩
instance : CS 28 1 := ⟨Tryd.sizeOf28⟩
instance : CG 28 false := ⟨Tryd.isAgg28⟩
instance : CZ 28 (Go.Value.nilFunc) := ⟨Tryd.zeroValue28⟩
instance : CU 29 (Go.TypeDesc.slice 5) := ⟨Tryd.underlying29⟩
instance : CS 29 1 := ⟨Tryd.sizeOf29⟩
instance : CG 29 false := ⟨Tryd.isAgg29⟩
instance : CZ 29 ((Go.Value.slice none 0 0)) := ⟨Tryd.zeroValue29⟩
instance : CE 5 ((Go.Value.int Go.IntKind.u8 0)) 1 1 := ⟨by unfold ElT; kernel_rfl⟩
instance : CU 30 (Go.TypeDesc.pointer 87) := ⟨Tryd.underlying30⟩
instance : CS 30 1 := ⟨Tryd.sizeOf30⟩
instance : CG 30 false := ⟨Tryd.isAgg30⟩
instance : CZ 30 ((Go.Value.pointer none)) := ⟨Tryd.zeroValue30⟩
instance : CU 31 (Go.TypeDesc.func #[] #[30] false) := ⟨Tryd.underlying31⟩
instance : CS 31 1 := ⟨Tryd.sizeOf31⟩
instance : CG 31 false := ⟨Tryd.isAgg31⟩
instance : CZ 31 (Go.Value.nilFunc) := ⟨Tryd.zeroValue31⟩
instance : CU 32 (Go.TypeDesc.tuple #[22, 24]) := ⟨Tryd.underlying32⟩
instance : CS 32 1 := ⟨Tryd.sizeOf32⟩
instance : CG 32 false := ⟨Tryd.isAgg32⟩
instance : CZ 32 ((Go.Value.tuple #[Go.Value.slice none 0 0, Go.Value.int Go.IntKind.i64 0])) := ⟨Tryd.zeroValue32⟩
instance : CU 33 (Go.TypeDesc.func #[29] #[22, 24] false) := ⟨Tryd.underlying33⟩
instance : CS 33 1 := ⟨Tryd.sizeOf33⟩
instance : CG 33 false := ⟨Tryd.isAgg33⟩
instance : CZ 33 (Go.Value.nilFunc) := ⟨Tryd.zeroValue33⟩
instance : CU 34 (Go.TypeDesc.func #[9, 36, 22] #[22] true) := ⟨Tryd.underlying34⟩
instance : CS 34 1 := ⟨Tryd.sizeOf34⟩
instance : CG 34 false := ⟨Tryd.isAgg34⟩
instance : CZ 34 (Go.Value.nilFunc) := ⟨Tryd.zeroValue34⟩
instance : CU 35 (Go.TypeDesc.int Go.IntKind.u8) := ⟨Tryd.underlying35⟩
instance : CS 35 1 := ⟨Tryd.sizeOf35⟩
instance : CG 35 false := ⟨Tryd.isAgg35⟩
instance : CZ 35 ((Go.Value.int Go.IntKind.u8 0)) := ⟨Tryd.zeroValue35⟩
instance : CU 36 (Go.TypeDesc.slice 45) := ⟨Tryd.underlying36⟩
instance : CS 36 1 := ⟨Tryd.sizeOf36⟩
instance : CG 36 false := ⟨Tryd.isAgg36⟩
instance : CZ 36 ((Go.Value.slice none 0 0)) := ⟨Tryd.zeroValue36⟩
instance : CE 45 ((Go.Value.agg #[Go.Value.string (ByteArray.mk #[]), Go.Value.string (ByteArray.mk #[])])) 2 32 := ⟨by unfold ElT; kernel_rfl⟩
instance : CU 37 (Go.TypeDesc.struct #[Go.Field.mk "Kind" 35 0 false "" "" 0, Go.Field.mk "Name" 9 1 false "" "" 8, Go.Field.mk "Attrs" 36 2 false "" "" 24, Go.Field.mk "Text" 9 3 false "" "" 48]) := ⟨Tryd.underlying37⟩
instance : CS 37 4 := ⟨Tryd.sizeOf37⟩
instance : CG 37 true := ⟨Tryd.isAgg37⟩
instance : CZ 37 ((Go.Value.agg #[Go.Value.int Go.IntKind.u8 0, Go.Value.string (ByteArray.mk #[]), Go.Value.slice none 0 0, Go.Value.string (ByteArray.mk #[])])) := ⟨Tryd.zeroValue37⟩
instance : CF 37 0 0 := ⟨_, _, _, Tryd.underlying37, rfl, Tryd.sizeOf35, rfl⟩
instance : CF 37 1 1 := ⟨_, _, _, Tryd.underlying37, rfl, Tryd.sizeOf9, rfl⟩
instance : CF 37 2 2 := ⟨_, _, _, Tryd.underlying37, rfl, Tryd.sizeOf36, rfl⟩
instance : CF 37 3 3 := ⟨_, _, _, Tryd.underlying37, rfl, Tryd.sizeOf9, rfl⟩
instance : CU 38 (Go.TypeDesc.struct #[Go.Field.mk "Kind" 35 0 false "" "" 0, Go.Field.mk "Name" 9 1 false "" "" 8, Go.Field.mk "Attrs" 36 2 false "" "" 24, Go.Field.mk "Text" 9 3 false "" "" 48]) := ⟨Tryd.underlying38⟩
instance : CS 38 4 := ⟨Tryd.sizeOf38⟩
instance : CG 38 true := ⟨Tryd.isAgg38⟩
instance : CZ 38 ((Go.Value.agg #[Go.Value.int Go.IntKind.u8 0, Go.Value.string (ByteArray.mk #[]), Go.Value.slice none 0 0, Go.Value.string (ByteArray.mk #[])])) := ⟨Tryd.zeroValue38⟩
instance : CF 38 0 0 := ⟨_, _, _, Tryd.underlying38, rfl, Tryd.sizeOf35, rfl⟩
instance : CF 38 1 1 := ⟨_, _, _, Tryd.underlying38, rfl, Tryd.sizeOf9, rfl⟩
instance : CF 38 2 2 := ⟨_, _, _, Tryd.underlying38, rfl, Tryd.sizeOf36, rfl⟩
instance : CF 38 3 3 := ⟨_, _, _, Tryd.underlying38, rfl, Tryd.sizeOf9, rfl⟩
instance : CU 39 (Go.TypeDesc.func #[] #[3] false) := ⟨Tryd.underlying39⟩
instance : CS 39 1 := ⟨Tryd.sizeOf39⟩
instance : CG 39 false := ⟨Tryd.isAgg39⟩
instance : CZ 39 (Go.Value.nilFunc) := ⟨Tryd.zeroValue39⟩
instance : CU 40 (Go.TypeDesc.func #[29] #[4] false) := ⟨Tryd.underlying40⟩
instance : CS 40 1 := ⟨Tryd.sizeOf40⟩
instance : CG 40 false := ⟨Tryd.isAgg40⟩
instance : CZ 40 (Go.Value.nilFunc) := ⟨Tryd.zeroValue40⟩
instance : CU 41 (Go.TypeDesc.pointer 94) := ⟨Tryd.underlying41⟩
instance : CS 41 1 := ⟨Tryd.sizeOf41⟩
instance : CG 41 false := ⟨Tryd.isAgg41⟩
instance : CZ 41 ((Go.Value.pointer none)) := ⟨Tryd.zeroValue41⟩
instance : CU 42 (Go.TypeDesc.func #[] #[41] false) := ⟨Tryd.underlying42⟩
instance : CS 42 1 := ⟨Tryd.sizeOf42⟩
instance : CG 42 false := ⟨Tryd.isAgg42⟩
instance : CZ 42 (Go.Value.nilFunc) := ⟨Tryd.zeroValue42⟩
instance : CU 43 (Go.TypeDesc.func #[22, 22] #[4] false) := ⟨Tryd.underlying43⟩
instance : CS 43 1 := ⟨Tryd.sizeOf43⟩
instance : CG 43 false := ⟨Tryd.isAgg43⟩
instance : CZ 43 (Go.Value.nilFunc) := ⟨Tryd.zeroValue43⟩
instance : CU 44 (Go.TypeDesc.struct #[Go.Field.mk "Name" 9 0 false "" "" 0, Go.Field.mk "Value" 9 1 false "" "" 16]) := ⟨Tryd.underlying44⟩
instance : CS 44 2 := ⟨Tryd.sizeOf44⟩
instance : CG 44 true := ⟨Tryd.isAgg44⟩
instance : CZ 44 ((Go.Value.agg #[Go.Value.string (ByteArray.mk #[]), Go.Value.string (ByteArray.mk #[])])) := ⟨Tryd.zeroValue44⟩
instance : CF 44 0 0 := ⟨_, _, _, Tryd.underlying44, rfl, Tryd.sizeOf9, rfl⟩
instance : CF 44 1 1 := ⟨_, _, _, Tryd.underlying44, rfl, Tryd.sizeOf9, rfl⟩
instance : CU 45 (Go.TypeDesc.struct #[Go.Field.mk "Name" 9 0 false "" "" 0, Go.Field.mk "Value" 9 1 false "" "" 16]) := ⟨Tryd.underlying45⟩
instance : CS 45 2 := ⟨Tryd.sizeOf45⟩
instance : CG 45 true := ⟨Tryd.isAgg45⟩
instance : CZ 45 ((Go.Value.agg #[Go.Value.string (ByteArray.mk #[]), Go.Value.string (ByteArray.mk #[])])) := ⟨Tryd.zeroValue45⟩
instance : CF 45 0 0 := ⟨_, _, _, Tryd.underlying45, rfl, Tryd.sizeOf9, rfl⟩
instance : CF 45 1 1 := ⟨_, _, _, Tryd.underlying45, rfl, Tryd.sizeOf9, rfl⟩
instance : CU 46 (Go.TypeDesc.func #[9, 5] #[4] false) := ⟨Tryd.underlying46⟩
instance : CS 46 1 := ⟨Tryd.sizeOf46⟩
instance : CG 46 false := ⟨Tryd.isAgg46⟩
instance : CZ 46 (Go.Value.nilFunc) := ⟨Tryd.zeroValue46⟩
instance : CU 47 (Go.TypeDesc.int Go.IntKind.u8) := ⟨Tryd.underlying47⟩
instance : CS 47 1 := ⟨Tryd.sizeOf47⟩
instance : CG 47 false := ⟨Tryd.isAgg47⟩
instance : CZ 47 ((Go.Value.int Go.IntKind.u8 0)) := ⟨Tryd.zeroValue47⟩
instance : CU 48 (Go.TypeDesc.struct #[Go.Field.mk "Kind" 47 0 false "" "" 0, Go.Field.mk "Type" 9 1 false "" "" 8, Go.Field.mk "From" 9 2 false "" "" 24, Go.Field.mk "To" 9 3 false "" "" 40, Go.Field.mk "Id" 9 4 false "" "" 56, Go.Field.mk "Payload" 22 5 false "" "" 72]) := ⟨Tryd.underlying48⟩
instance : CS 48 6 := ⟨Tryd.sizeOf48⟩
instance : CG 48 true := ⟨Tryd.isAgg48⟩
instance : CZ 48 ((Go.Value.agg #[Go.Value.int Go.IntKind.u8 0, Go.Value.string (ByteArray.mk #[]), Go.Value.string (ByteArray.mk #[]), Go.Value.string (ByteArray.mk #[]), Go.Value.string (ByteArray.mk #[]), Go.Value.slice none 0 0])) := ⟨Tryd.zeroValue48⟩
instance : CF 48 0 0 := ⟨_, _, _, Tryd.underlying48, rfl, Tryd.sizeOf47, rfl⟩
instance : CF 48 1 1 := ⟨_, _, _, Tryd.underlying48, rfl, Tryd.sizeOf9, rfl⟩
instance : CF 48 2 2 := ⟨_, _, _, Tryd.underlying48, rfl, Tryd.sizeOf9, rfl⟩
instance : CF 48 3 3 := ⟨_, _, _, Tryd.underlying48, rfl, Tryd.sizeOf9, rfl⟩
instance : CF 48 4 4 := ⟨_, _, _, Tryd.underlying48, rfl, Tryd.sizeOf9, rfl⟩
instance : CF 48 5 5 := ⟨_, _, _, Tryd.underlying48, rfl, Tryd.sizeOf22, rfl⟩
instance : CU 49 (Go.TypeDesc.struct #[Go.Field.mk "Kind" 47 0 false "" "" 0, Go.Field.mk "Type" 9 1 false "" "" 8, Go.Field.mk "From" 9 2 false "" "" 24, Go.Field.mk "To" 9 3 false "" "" 40, Go.Field.mk "Id" 9 4 false "" "" 56, Go.Field.mk "Payload" 22 5 false "" "" 72]) := ⟨Tryd.underlying49⟩
instance : CS 49 6 := ⟨Tryd.sizeOf49⟩
instance : CG 49 true := ⟨Tryd.isAgg49⟩
instance : CZ 49 ((Go.Value.agg #[Go.Value.int Go.IntKind.u8 0, Go.Value.string (ByteArray.mk #[]), Go.Value.string (ByteArray.mk #[]), Go.Value.string (ByteArray.mk #[]), Go.Value.string (ByteArray.mk #[]), Go.Value.slice none 0 0])) := ⟨Tryd.zeroValue49⟩
instance : CF 49 0 0 := ⟨_, _, _, Tryd.underlying49, rfl, Tryd.sizeOf47, rfl⟩
instance : CF 49 1 1 := ⟨_, _, _, Tryd.underlying49, rfl, Tryd.sizeOf9, rfl⟩
instance : CF 49 2 2 := ⟨_, _, _, Tryd.underlying49, rfl, Tryd.sizeOf9, rfl⟩
instance : CF 49 3 3 := ⟨_, _, _, Tryd.underlying49, rfl, Tryd.sizeOf9, rfl⟩
instance : CF 49 4 4 := ⟨_, _, _, Tryd.underlying49, rfl, Tryd.sizeOf9, rfl⟩
instance : CF 49 5 5 := ⟨_, _, _, Tryd.underlying49, rfl, Tryd.sizeOf22, rfl⟩
instance : CU 50 (Go.TypeDesc.tuple #[49, 24]) := ⟨Tryd.underlying50⟩
instance : CS 50 1 := ⟨Tryd.sizeOf50⟩
instance : CG 50 false := ⟨Tryd.isAgg50⟩
instance : CZ 50 ((Go.Value.tuple #[Go.Value.agg #[Go.Value.int Go.IntKind.u8 0, Go.Value.string (ByteArray.mk #[]), Go.Value.string (ByteArray.mk #[]), Go.Value.string (ByteArray.mk #[]), Go.Value.string (ByteArray.mk #[]), Go.Value.slice none 0 0], Go.Value.int Go.IntKind.i64 0])) := ⟨Tryd.zeroValue50⟩
instance : CU 51 (Go.TypeDesc.func #[22] #[49, 24] false) := ⟨Tryd.underlying51⟩
instance : CS 51 1 := ⟨Tryd.sizeOf51⟩
instance : CG 51 false := ⟨Tryd.isAgg51⟩
instance : CZ 51 (Go.Value.nilFunc) := ⟨Tryd.zeroValue51⟩
instance : CU 52 (Go.TypeDesc.func #[49, 49] #[4] false) := ⟨Tryd.underlying52⟩
instance : CS 52 1 := ⟨Tryd.sizeOf52⟩
instance : CG 52 false := ⟨Tryd.isAgg52⟩
instance : CZ 52 (Go.Value.nilFunc) := ⟨Tryd.zeroValue52⟩
instance : CU 53 (Go.TypeDesc.int Go.IntKind.u8) := ⟨Tryd.underlying53⟩
instance : CS 53 1 := ⟨Tryd.sizeOf53⟩
instance : CG 53 false := ⟨Tryd.isAgg53⟩
instance : CZ 53 ((Go.Value.int Go.IntKind.u8 0)) := ⟨Tryd.zeroValue53⟩
instance : CU 54 (Go.TypeDesc.int Go.IntKind.u8) := ⟨Tryd.underlying54⟩
instance : CS 54 1 := ⟨Tryd.sizeOf54⟩
instance : CG 54 false := ⟨Tryd.isAgg54⟩
instance : CZ 54 ((Go.Value.int Go.IntKind.u8 0)) := ⟨Tryd.zeroValue54⟩
instance : CU 55 (Go.TypeDesc.int Go.IntKind.u8) := ⟨Tryd.underlying55⟩
instance : CS 55 1 := ⟨Tryd.sizeOf55⟩
instance : CG 55 false := ⟨Tryd.isAgg55⟩
instance : CZ 55 ((Go.Value.int Go.IntKind.u8 0)) := ⟨Tryd.zeroValue55⟩
instance : CU 56 (Go.TypeDesc.struct #[Go.Field.mk "Verb" 53 0 false "" "" 0, Go.Field.mk "Node" 9 1 false "" "" 8, Go.Field.mk "Item" 9 2 false "" "" 24, Go.Field.mk "Jid" 9 3 false "" "" 40, Go.Field.mk "Role" 54 4 false "" "" 56, Go.Field.mk "Access" 55 5 false "" "" 57, Go.Field.mk "Max" 3 6 false "" "" 64, Go.Field.mk "Depth" 3 7 false "" "" 72, Go.Field.mk "Parent" 9 8 false "" "" 80, Go.Field.mk "Collection" 4 9 false "" "" 96, Go.Field.mk "Text" 9 10 false "" "" 104]) := ⟨Tryd.underlying56⟩
instance : CS 56 11 := ⟨Tryd.sizeOf56⟩
instance : CG 56 true := ⟨Tryd.isAgg56⟩
instance : CZ 56 ((Go.Value.agg #[Go.Value.int Go.IntKind.u8 0, Go.Value.string (ByteArray.mk #[]), Go.Value.string (ByteArray.mk #[]), Go.Value.string (ByteArray.mk #[]), Go.Value.int Go.IntKind.u8 0, Go.Value.int Go.IntKind.u8 0, Go.Value.int Go.IntKind.i64 0, Go.Value.int Go.IntKind.i64 0, Go.Value.string (ByteArray.mk #[]), Go.Value.bool false, Go.Value.string (ByteArray.mk #[])])) := ⟨Tryd.zeroValue56⟩
instance : CF 56 0 0 := ⟨_, _, _, Tryd.underlying56, rfl, Tryd.sizeOf53, rfl⟩
instance : CF 56 1 1 := ⟨_, _, _, Tryd.underlying56, rfl, Tryd.sizeOf9, rfl⟩
instance : CF 56 2 2 := ⟨_, _, _, Tryd.underlying56, rfl, Tryd.sizeOf9, rfl⟩
instance : CF 56 3 3 := ⟨_, _, _, Tryd.underlying56, rfl, Tryd.sizeOf9, rfl⟩
instance : CF 56 4 4 := ⟨_, _, _, Tryd.underlying56, rfl, Tryd.sizeOf54, rfl⟩
instance : CF 56 5 5 := ⟨_, _, _, Tryd.underlying56, rfl, Tryd.sizeOf55, rfl⟩
instance : CF 56 6 6 := ⟨_, _, _, Tryd.underlying56, rfl, Tryd.sizeOf3, rfl⟩
instance : CF 56 7 7 := ⟨_, _, _, Tryd.underlying56, rfl, Tryd.sizeOf3, rfl⟩
instance : CF 56 8 8 := ⟨_, _, _, Tryd.underlying56, rfl, Tryd.sizeOf9, rfl⟩
instance : CF 56 9 9 := ⟨_, _, _, Tryd.underlying56, rfl, Tryd.sizeOf4, rfl⟩
instance : CF 56 10 10 := ⟨_, _, _, Tryd.underlying56, rfl, Tryd.sizeOf9, rfl⟩
instance : CU 57 (Go.TypeDesc.struct #[Go.Field.mk "Verb" 53 0 false "" "" 0, Go.Field.mk "Node" 9 1 false "" "" 8, Go.Field.mk "Item" 9 2 false "" "" 24, Go.Field.mk "Jid" 9 3 false "" "" 40, Go.Field.mk "Role" 54 4 false "" "" 56, Go.Field.mk "Access" 55 5 false "" "" 57, Go.Field.mk "Max" 3 6 false "" "" 64, Go.Field.mk "Depth" 3 7 false "" "" 72, Go.Field.mk "Parent" 9 8 false "" "" 80, Go.Field.mk "Collection" 4 9 false "" "" 96, Go.Field.mk "Text" 9 10 false "" "" 104]) := ⟨Tryd.underlying57⟩
instance : CS 57 11 := ⟨Tryd.sizeOf57⟩
instance : CG 57 true := ⟨Tryd.isAgg57⟩
instance : CZ 57 ((Go.Value.agg #[Go.Value.int Go.IntKind.u8 0, Go.Value.string (ByteArray.mk #[]), Go.Value.string (ByteArray.mk #[]), Go.Value.string (ByteArray.mk #[]), Go.Value.int Go.IntKind.u8 0, Go.Value.int Go.IntKind.u8 0, Go.Value.int Go.IntKind.i64 0, Go.Value.int Go.IntKind.i64 0, Go.Value.string (ByteArray.mk #[]), Go.Value.bool false, Go.Value.string (ByteArray.mk #[])])) := ⟨Tryd.zeroValue57⟩
instance : CF 57 0 0 := ⟨_, _, _, Tryd.underlying57, rfl, Tryd.sizeOf53, rfl⟩
instance : CF 57 1 1 := ⟨_, _, _, Tryd.underlying57, rfl, Tryd.sizeOf9, rfl⟩
instance : CF 57 2 2 := ⟨_, _, _, Tryd.underlying57, rfl, Tryd.sizeOf9, rfl⟩
instance : CF 57 3 3 := ⟨_, _, _, Tryd.underlying57, rfl, Tryd.sizeOf9, rfl⟩
instance : CF 57 4 4 := ⟨_, _, _, Tryd.underlying57, rfl, Tryd.sizeOf54, rfl⟩
instance : CF 57 5 5 := ⟨_, _, _, Tryd.underlying57, rfl, Tryd.sizeOf55, rfl⟩
instance : CF 57 6 6 := ⟨_, _, _, Tryd.underlying57, rfl, Tryd.sizeOf3, rfl⟩
instance : CF 57 7 7 := ⟨_, _, _, Tryd.underlying57, rfl, Tryd.sizeOf3, rfl⟩
instance : CF 57 8 8 := ⟨_, _, _, Tryd.underlying57, rfl, Tryd.sizeOf9, rfl⟩
instance : CF 57 9 9 := ⟨_, _, _, Tryd.underlying57, rfl, Tryd.sizeOf4, rfl⟩
instance : CF 57 10 10 := ⟨_, _, _, Tryd.underlying57, rfl, Tryd.sizeOf9, rfl⟩
instance : CU 58 (Go.TypeDesc.func #[57] #[22, 24] false) := ⟨Tryd.underlying58⟩
instance : CS 58 1 := ⟨Tryd.sizeOf58⟩
instance : CG 58 false := ⟨Tryd.isAgg58⟩
instance : CZ 58 (Go.Value.nilFunc) := ⟨Tryd.zeroValue58⟩
instance : CU 59 (Go.TypeDesc.func #[57, 57] #[4] false) := ⟨Tryd.underlying59⟩
instance : CS 59 1 := ⟨Tryd.sizeOf59⟩
instance : CG 59 false := ⟨Tryd.isAgg59⟩
instance : CZ 59 (Go.Value.nilFunc) := ⟨Tryd.zeroValue59⟩
instance : CU 60 (Go.TypeDesc.tuple #[57, 24]) := ⟨Tryd.underlying60⟩
instance : CS 60 1 := ⟨Tryd.sizeOf60⟩
instance : CG 60 false := ⟨Tryd.isAgg60⟩
instance : CZ 60 ((Go.Value.tuple #[Go.Value.agg #[Go.Value.int Go.IntKind.u8 0, Go.Value.string (ByteArray.mk #[]), Go.Value.string (ByteArray.mk #[]), Go.Value.string (ByteArray.mk #[]), Go.Value.int Go.IntKind.u8 0, Go.Value.int Go.IntKind.u8 0, Go.Value.int Go.IntKind.i64 0, Go.Value.int Go.IntKind.i64 0, Go.Value.string (ByteArray.mk #[]), Go.Value.bool false, Go.Value.string (ByteArray.mk #[])], Go.Value.int Go.IntKind.i64 0])) := ⟨Tryd.zeroValue60⟩
instance : CU 61 (Go.TypeDesc.func #[22] #[57, 24] false) := ⟨Tryd.underlying61⟩
instance : CS 61 1 := ⟨Tryd.sizeOf61⟩
instance : CG 61 false := ⟨Tryd.isAgg61⟩
instance : CZ 61 (Go.Value.nilFunc) := ⟨Tryd.zeroValue61⟩
instance : CU 62 (Go.TypeDesc.func #[57, 45] #[4] false) := ⟨Tryd.underlying62⟩
instance : CS 62 1 := ⟨Tryd.sizeOf62⟩
instance : CG 62 false := ⟨Tryd.isAgg62⟩
instance : CZ 62 (Go.Value.nilFunc) := ⟨Tryd.zeroValue62⟩
instance : CU 63 (Go.TypeDesc.func #[57] #[4] false) := ⟨Tryd.underlying63⟩
instance : CS 63 1 := ⟨Tryd.sizeOf63⟩
instance : CG 63 false := ⟨Tryd.isAgg63⟩
instance : CZ 63 (Go.Value.nilFunc) := ⟨Tryd.zeroValue63⟩
instance : CU 64 (Go.TypeDesc.func #[57, 22] #[4] false) := ⟨Tryd.underlying64⟩
instance : CS 64 1 := ⟨Tryd.sizeOf64⟩
instance : CG 64 false := ⟨Tryd.isAgg64⟩
instance : CZ 64 (Go.Value.nilFunc) := ⟨Tryd.zeroValue64⟩
instance : CU 65 (Go.TypeDesc.func #[67] #[22] false) := ⟨Tryd.underlying65⟩
instance : CS 65 1 := ⟨Tryd.sizeOf65⟩
instance : CG 65 false := ⟨Tryd.isAgg65⟩
instance : CZ 65 (Go.Value.nilFunc) := ⟨Tryd.zeroValue65⟩
instance : CU 66 (Go.TypeDesc.struct #[Go.Field.mk "To" 9 0 false "" "" 0, Go.Field.mk "Node" 9 1 false "" "" 16, Go.Field.mk "Item" 9 2 false "" "" 32, Go.Field.mk "Text" 9 3 false "" "" 48, Go.Field.mk "Gone" 4 4 false "" "" 64]) := ⟨Tryd.underlying66⟩
instance : CS 66 5 := ⟨Tryd.sizeOf66⟩
instance : CG 66 true := ⟨Tryd.isAgg66⟩
instance : CZ 66 ((Go.Value.agg #[Go.Value.string (ByteArray.mk #[]), Go.Value.string (ByteArray.mk #[]), Go.Value.string (ByteArray.mk #[]), Go.Value.string (ByteArray.mk #[]), Go.Value.bool false])) := ⟨Tryd.zeroValue66⟩
instance : CF 66 0 0 := ⟨_, _, _, Tryd.underlying66, rfl, Tryd.sizeOf9, rfl⟩
instance : CF 66 1 1 := ⟨_, _, _, Tryd.underlying66, rfl, Tryd.sizeOf9, rfl⟩
instance : CF 66 2 2 := ⟨_, _, _, Tryd.underlying66, rfl, Tryd.sizeOf9, rfl⟩
instance : CF 66 3 3 := ⟨_, _, _, Tryd.underlying66, rfl, Tryd.sizeOf9, rfl⟩
instance : CF 66 4 4 := ⟨_, _, _, Tryd.underlying66, rfl, Tryd.sizeOf4, rfl⟩
instance : CU 67 (Go.TypeDesc.struct #[Go.Field.mk "To" 9 0 false "" "" 0, Go.Field.mk "Node" 9 1 false "" "" 16, Go.Field.mk "Item" 9 2 false "" "" 32, Go.Field.mk "Text" 9 3 false "" "" 48, Go.Field.mk "Gone" 4 4 false "" "" 64]) := ⟨Tryd.underlying67⟩
instance : CS 67 5 := ⟨Tryd.sizeOf67⟩
instance : CG 67 true := ⟨Tryd.isAgg67⟩
instance : CZ 67 ((Go.Value.agg #[Go.Value.string (ByteArray.mk #[]), Go.Value.string (ByteArray.mk #[]), Go.Value.string (ByteArray.mk #[]), Go.Value.string (ByteArray.mk #[]), Go.Value.bool false])) := ⟨Tryd.zeroValue67⟩
instance : CF 67 0 0 := ⟨_, _, _, Tryd.underlying67, rfl, Tryd.sizeOf9, rfl⟩
instance : CF 67 1 1 := ⟨_, _, _, Tryd.underlying67, rfl, Tryd.sizeOf9, rfl⟩
instance : CF 67 2 2 := ⟨_, _, _, Tryd.underlying67, rfl, Tryd.sizeOf9, rfl⟩
instance : CF 67 3 3 := ⟨_, _, _, Tryd.underlying67, rfl, Tryd.sizeOf9, rfl⟩
instance : CF 67 4 4 := ⟨_, _, _, Tryd.underlying67, rfl, Tryd.sizeOf4, rfl⟩
instance : CU 68 (Go.TypeDesc.tuple #[9, 4]) := ⟨Tryd.underlying68⟩
instance : CS 68 1 := ⟨Tryd.sizeOf68⟩
instance : CG 68 false := ⟨Tryd.isAgg68⟩
instance : CZ 68 ((Go.Value.tuple #[Go.Value.string (ByteArray.mk #[]), Go.Value.bool false])) := ⟨Tryd.zeroValue68⟩
instance : CU 69 (Go.TypeDesc.func #[38, 9] #[9, 4] false) := ⟨Tryd.underlying69⟩
instance : CS 69 1 := ⟨Tryd.sizeOf69⟩
instance : CG 69 false := ⟨Tryd.isAgg69⟩
instance : CZ 69 (Go.Value.nilFunc) := ⟨Tryd.zeroValue69⟩
instance : CU 70 (Go.TypeDesc.func #[49] #[22, 24] false) := ⟨Tryd.underlying70⟩
instance : CS 70 1 := ⟨Tryd.sizeOf70⟩
instance : CG 70 false := ⟨Tryd.isAgg70⟩
instance : CZ 70 (Go.Value.nilFunc) := ⟨Tryd.zeroValue70⟩
instance : CU 71 (Go.TypeDesc.func #[49] #[4] false) := ⟨Tryd.underlying71⟩
instance : CS 71 1 := ⟨Tryd.sizeOf71⟩
instance : CG 71 false := ⟨Tryd.isAgg71⟩
instance : CZ 71 (Go.Value.nilFunc) := ⟨Tryd.zeroValue71⟩
instance : CU 72 (Go.TypeDesc.pointer 74) := ⟨Tryd.underlying72⟩
instance : CS 72 1 := ⟨Tryd.sizeOf72⟩
instance : CG 72 false := ⟨Tryd.isAgg72⟩
instance : CZ 72 ((Go.Value.pointer none)) := ⟨Tryd.zeroValue72⟩
instance : CU 73 (Go.TypeDesc.struct #[Go.Field.mk "addr" 72 0 false "" "strings" 0, Go.Field.mk "buf" 29 1 false "" "strings" 8]) := ⟨Tryd.underlying73⟩
instance : CS 73 2 := ⟨Tryd.sizeOf73⟩
instance : CG 73 true := ⟨Tryd.isAgg73⟩
instance : CZ 73 ((Go.Value.agg #[Go.Value.pointer none, Go.Value.slice none 0 0])) := ⟨Tryd.zeroValue73⟩
instance : CF 73 0 0 := ⟨_, _, _, Tryd.underlying73, rfl, Tryd.sizeOf72, rfl⟩
instance : CF 73 1 1 := ⟨_, _, _, Tryd.underlying73, rfl, Tryd.sizeOf29, rfl⟩
instance : CU 74 (Go.TypeDesc.struct #[Go.Field.mk "addr" 72 0 false "" "strings" 0, Go.Field.mk "buf" 29 1 false "" "strings" 8]) := ⟨Tryd.underlying74⟩
instance : CS 74 2 := ⟨Tryd.sizeOf74⟩
instance : CG 74 true := ⟨Tryd.isAgg74⟩
instance : CZ 74 ((Go.Value.agg #[Go.Value.pointer none, Go.Value.slice none 0 0])) := ⟨Tryd.zeroValue74⟩
instance : CF 74 0 0 := ⟨_, _, _, Tryd.underlying74, rfl, Tryd.sizeOf72, rfl⟩
instance : CF 74 1 1 := ⟨_, _, _, Tryd.underlying74, rfl, Tryd.sizeOf29, rfl⟩
instance : CU 75 (Go.TypeDesc.interface #[("Error", 80)]) := ⟨Tryd.underlying75⟩
instance : CS 75 1 := ⟨Tryd.sizeOf75⟩
instance : CG 75 false := ⟨Tryd.isAgg75⟩
instance : CZ 75 (Go.Value.nilIface) := ⟨Tryd.zeroValue75⟩
instance : CU 76 (Go.TypeDesc.interface #[("Error", 80)]) := ⟨Tryd.underlying76⟩
instance : CS 76 1 := ⟨Tryd.sizeOf76⟩
instance : CG 76 false := ⟨Tryd.isAgg76⟩
instance : CZ 76 (Go.Value.nilIface) := ⟨Tryd.zeroValue76⟩
instance : CU 77 (Go.TypeDesc.tuple #[3, 76]) := ⟨Tryd.underlying77⟩
instance : CS 77 1 := ⟨Tryd.sizeOf77⟩
instance : CG 77 false := ⟨Tryd.isAgg77⟩
instance : CZ 77 ((Go.Value.tuple #[Go.Value.int Go.IntKind.i64 0, Go.Value.nilIface])) := ⟨Tryd.zeroValue77⟩
instance : CU 78 (Go.TypeDesc.func #[9] #[3, 76] false) := ⟨Tryd.underlying78⟩
instance : CS 78 1 := ⟨Tryd.sizeOf78⟩
instance : CG 78 false := ⟨Tryd.isAgg78⟩
instance : CZ 78 (Go.Value.nilFunc) := ⟨Tryd.zeroValue78⟩
instance : CU 79 (Go.TypeDesc.func #[9] #[9] false) := ⟨Tryd.underlying79⟩
instance : CS 79 1 := ⟨Tryd.sizeOf79⟩
instance : CG 79 false := ⟨Tryd.isAgg79⟩
instance : CZ 79 (Go.Value.nilFunc) := ⟨Tryd.zeroValue79⟩
instance : CU 80 (Go.TypeDesc.func #[] #[9] false) := ⟨Tryd.underlying80⟩
instance : CS 80 1 := ⟨Tryd.sizeOf80⟩
instance : CG 80 false := ⟨Tryd.isAgg80⟩
instance : CZ 80 (Go.Value.nilFunc) := ⟨Tryd.zeroValue80⟩
instance : CU 81 (Go.TypeDesc.func #[138] #[] false) := ⟨Tryd.underlying81⟩
instance : CS 81 1 := ⟨Tryd.sizeOf81⟩
instance : CG 81 false := ⟨Tryd.isAgg81⟩
instance : CZ 81 (Go.Value.nilFunc) := ⟨Tryd.zeroValue81⟩
instance : CU 82 (Go.TypeDesc.func #[138] #[] false) := ⟨Tryd.underlying82⟩
instance : CS 82 1 := ⟨Tryd.sizeOf82⟩
instance : CG 82 false := ⟨Tryd.isAgg82⟩
instance : CZ 82 (Go.Value.nilFunc) := ⟨Tryd.zeroValue82⟩
instance : CU 83 (Go.TypeDesc.func #[22] #[82] false) := ⟨Tryd.underlying83⟩
instance : CS 83 1 := ⟨Tryd.sizeOf83⟩
instance : CG 83 false := ⟨Tryd.isAgg83⟩
instance : CZ 83 (Go.Value.nilFunc) := ⟨Tryd.zeroValue83⟩
instance : CU 84 (Go.TypeDesc.slice 9) := ⟨Tryd.underlying84⟩
instance : CS 84 1 := ⟨Tryd.sizeOf84⟩
instance : CG 84 false := ⟨Tryd.isAgg84⟩
instance : CZ 84 ((Go.Value.slice none 0 0)) := ⟨Tryd.zeroValue84⟩
instance : CE 9 ((Go.Value.string (ByteArray.mk #[]))) 1 16 := ⟨by unfold ElT; kernel_rfl⟩
instance : CU 85 (Go.TypeDesc.func #[38] #[4] false) := ⟨Tryd.underlying85⟩
instance : CS 85 1 := ⟨Tryd.sizeOf85⟩
instance : CG 85 false := ⟨Tryd.isAgg85⟩
instance : CZ 85 (Go.Value.nilFunc) := ⟨Tryd.zeroValue85⟩
instance : CU 86 (Go.TypeDesc.struct #[Go.Field.mk "wait" 29 0 false "" "heliograph/xml" 0, Go.Field.mk "quote" 5 1 false "" "heliograph/xml" 24, Go.Field.mk "open" 84 2 false "" "heliograph/xml" 32, Go.Field.mk "rooted" 4 3 false "" "heliograph/xml" 56, Go.Field.mk "begun" 4 4 false "" "heliograph/xml" 57, Go.Field.mk "broken" 24 5 false "" "heliograph/xml" 64]) := ⟨Tryd.underlying86⟩
instance : CS 86 6 := ⟨Tryd.sizeOf86⟩
instance : CG 86 true := ⟨Tryd.isAgg86⟩
instance : CZ 86 ((Go.Value.agg #[Go.Value.slice none 0 0, Go.Value.int Go.IntKind.u8 0, Go.Value.slice none 0 0, Go.Value.bool false, Go.Value.bool false, Go.Value.int Go.IntKind.i64 0])) := ⟨Tryd.zeroValue86⟩
instance : CF 86 0 0 := ⟨_, _, _, Tryd.underlying86, rfl, Tryd.sizeOf29, rfl⟩
instance : CF 86 1 1 := ⟨_, _, _, Tryd.underlying86, rfl, Tryd.sizeOf5, rfl⟩
instance : CF 86 2 2 := ⟨_, _, _, Tryd.underlying86, rfl, Tryd.sizeOf84, rfl⟩
instance : CF 86 3 3 := ⟨_, _, _, Tryd.underlying86, rfl, Tryd.sizeOf4, rfl⟩
instance : CF 86 4 4 := ⟨_, _, _, Tryd.underlying86, rfl, Tryd.sizeOf4, rfl⟩
instance : CF 86 5 5 := ⟨_, _, _, Tryd.underlying86, rfl, Tryd.sizeOf24, rfl⟩
instance : CU 87 (Go.TypeDesc.struct #[Go.Field.mk "wait" 29 0 false "" "heliograph/xml" 0, Go.Field.mk "quote" 5 1 false "" "heliograph/xml" 24, Go.Field.mk "open" 84 2 false "" "heliograph/xml" 32, Go.Field.mk "rooted" 4 3 false "" "heliograph/xml" 56, Go.Field.mk "begun" 4 4 false "" "heliograph/xml" 57, Go.Field.mk "broken" 24 5 false "" "heliograph/xml" 64]) := ⟨Tryd.underlying87⟩
instance : CS 87 6 := ⟨Tryd.sizeOf87⟩
instance : CG 87 true := ⟨Tryd.isAgg87⟩
instance : CZ 87 ((Go.Value.agg #[Go.Value.slice none 0 0, Go.Value.int Go.IntKind.u8 0, Go.Value.slice none 0 0, Go.Value.bool false, Go.Value.bool false, Go.Value.int Go.IntKind.i64 0])) := ⟨Tryd.zeroValue87⟩
instance : CF 87 0 0 := ⟨_, _, _, Tryd.underlying87, rfl, Tryd.sizeOf29, rfl⟩
instance : CF 87 1 1 := ⟨_, _, _, Tryd.underlying87, rfl, Tryd.sizeOf5, rfl⟩
instance : CF 87 2 2 := ⟨_, _, _, Tryd.underlying87, rfl, Tryd.sizeOf84, rfl⟩
instance : CF 87 3 3 := ⟨_, _, _, Tryd.underlying87, rfl, Tryd.sizeOf4, rfl⟩
instance : CF 87 4 4 := ⟨_, _, _, Tryd.underlying87, rfl, Tryd.sizeOf4, rfl⟩
instance : CF 87 5 5 := ⟨_, _, _, Tryd.underlying87, rfl, Tryd.sizeOf24, rfl⟩
instance : CU 88 (Go.TypeDesc.struct #[Go.Field.mk "e" 24 0 false "" "heliograph/xml" 0]) := ⟨Tryd.underlying88⟩
instance : CS 88 1 := ⟨Tryd.sizeOf88⟩
instance : CG 88 true := ⟨Tryd.isAgg88⟩
instance : CZ 88 ((Go.Value.agg #[Go.Value.int Go.IntKind.i64 0])) := ⟨Tryd.zeroValue88⟩
instance : CF 88 0 0 := ⟨_, _, _, Tryd.underlying88, rfl, Tryd.sizeOf24, rfl⟩
instance : CU 89 (Go.TypeDesc.struct #[Go.Field.mk "e" 24 0 false "" "heliograph/xml" 0]) := ⟨Tryd.underlying89⟩
instance : CS 89 1 := ⟨Tryd.sizeOf89⟩
instance : CG 89 true := ⟨Tryd.isAgg89⟩
instance : CZ 89 ((Go.Value.agg #[Go.Value.int Go.IntKind.i64 0])) := ⟨Tryd.zeroValue89⟩
instance : CF 89 0 0 := ⟨_, _, _, Tryd.underlying89, rfl, Tryd.sizeOf24, rfl⟩
instance : CU 90 (Go.TypeDesc.func #[22] #[] true) := ⟨Tryd.underlying90⟩
instance : CS 90 1 := ⟨Tryd.sizeOf90⟩
instance : CG 90 false := ⟨Tryd.isAgg90⟩
instance : CZ 90 (Go.Value.nilFunc) := ⟨Tryd.zeroValue90⟩
instance : CU 91 (Go.TypeDesc.func #[5, 90] #[] false) := ⟨Tryd.underlying91⟩
instance : CS 91 1 := ⟨Tryd.sizeOf91⟩
instance : CG 91 false := ⟨Tryd.isAgg91⟩
instance : CZ 91 (Go.Value.nilFunc) := ⟨Tryd.zeroValue91⟩
instance : CU 92 (Go.TypeDesc.func #[36] #[36] false) := ⟨Tryd.underlying92⟩
instance : CS 92 1 := ⟨Tryd.sizeOf92⟩
instance : CG 92 false := ⟨Tryd.isAgg92⟩
instance : CZ 92 (Go.Value.nilFunc) := ⟨Tryd.zeroValue92⟩
instance : CU 93 (Go.TypeDesc.struct #[Go.Field.mk "b" 29 0 false "" "heliograph/heliographref03" 0, Go.Field.mk "quote" 5 1 false "" "heliograph/heliographref03" 24, Go.Field.mk "open" 84 2 false "" "heliograph/heliographref03" 32, Go.Field.mk "rooted" 4 3 false "" "heliograph/heliographref03" 56, Go.Field.mk "any" 4 4 false "" "heliograph/heliographref03" 57, Go.Field.mk "broken" 24 5 false "" "heliograph/heliographref03" 64]) := ⟨Tryd.underlying93⟩
instance : CS 93 6 := ⟨Tryd.sizeOf93⟩
instance : CG 93 true := ⟨Tryd.isAgg93⟩
instance : CZ 93 ((Go.Value.agg #[Go.Value.slice none 0 0, Go.Value.int Go.IntKind.u8 0, Go.Value.slice none 0 0, Go.Value.bool false, Go.Value.bool false, Go.Value.int Go.IntKind.i64 0])) := ⟨Tryd.zeroValue93⟩
instance : CF 93 0 0 := ⟨_, _, _, Tryd.underlying93, rfl, Tryd.sizeOf29, rfl⟩
instance : CF 93 1 1 := ⟨_, _, _, Tryd.underlying93, rfl, Tryd.sizeOf5, rfl⟩
instance : CF 93 2 2 := ⟨_, _, _, Tryd.underlying93, rfl, Tryd.sizeOf84, rfl⟩
instance : CF 93 3 3 := ⟨_, _, _, Tryd.underlying93, rfl, Tryd.sizeOf4, rfl⟩
instance : CF 93 4 4 := ⟨_, _, _, Tryd.underlying93, rfl, Tryd.sizeOf4, rfl⟩
instance : CF 93 5 5 := ⟨_, _, _, Tryd.underlying93, rfl, Tryd.sizeOf24, rfl⟩
instance : CU 94 (Go.TypeDesc.struct #[Go.Field.mk "b" 29 0 false "" "heliograph/heliographref03" 0, Go.Field.mk "quote" 5 1 false "" "heliograph/heliographref03" 24, Go.Field.mk "open" 84 2 false "" "heliograph/heliographref03" 32, Go.Field.mk "rooted" 4 3 false "" "heliograph/heliographref03" 56, Go.Field.mk "any" 4 4 false "" "heliograph/heliographref03" 57, Go.Field.mk "broken" 24 5 false "" "heliograph/heliographref03" 64]) := ⟨Tryd.underlying94⟩
instance : CS 94 6 := ⟨Tryd.sizeOf94⟩
instance : CG 94 true := ⟨Tryd.isAgg94⟩
instance : CZ 94 ((Go.Value.agg #[Go.Value.slice none 0 0, Go.Value.int Go.IntKind.u8 0, Go.Value.slice none 0 0, Go.Value.bool false, Go.Value.bool false, Go.Value.int Go.IntKind.i64 0])) := ⟨Tryd.zeroValue94⟩
instance : CF 94 0 0 := ⟨_, _, _, Tryd.underlying94, rfl, Tryd.sizeOf29, rfl⟩
instance : CF 94 1 1 := ⟨_, _, _, Tryd.underlying94, rfl, Tryd.sizeOf5, rfl⟩
instance : CF 94 2 2 := ⟨_, _, _, Tryd.underlying94, rfl, Tryd.sizeOf84, rfl⟩
instance : CF 94 3 3 := ⟨_, _, _, Tryd.underlying94, rfl, Tryd.sizeOf4, rfl⟩
instance : CF 94 4 4 := ⟨_, _, _, Tryd.underlying94, rfl, Tryd.sizeOf4, rfl⟩
instance : CF 94 5 5 := ⟨_, _, _, Tryd.underlying94, rfl, Tryd.sizeOf24, rfl⟩
instance : CU 95 (Go.TypeDesc.func #[5] #[22, 24] false) := ⟨Tryd.underlying95⟩
instance : CS 95 1 := ⟨Tryd.sizeOf95⟩
instance : CG 95 false := ⟨Tryd.isAgg95⟩
instance : CZ 95 (Go.Value.nilFunc) := ⟨Tryd.zeroValue95⟩
instance : CU 96 (Go.TypeDesc.func #[22, 22, 98] #[4] false) := ⟨Tryd.underlying96⟩
instance : CS 96 1 := ⟨Tryd.sizeOf96⟩
instance : CG 96 false := ⟨Tryd.isAgg96⟩
instance : CZ 96 (Go.Value.nilFunc) := ⟨Tryd.zeroValue96⟩
instance : CU 97 (Go.TypeDesc.func #[36, 36] #[4] false) := ⟨Tryd.underlying97⟩
instance : CS 97 1 := ⟨Tryd.sizeOf97⟩
instance : CG 97 false := ⟨Tryd.isAgg97⟩
instance : CZ 97 (Go.Value.nilFunc) := ⟨Tryd.zeroValue97⟩
instance : CU 98 (Go.TypeDesc.func #[38, 38] #[4] false) := ⟨Tryd.underlying98⟩
instance : CS 98 1 := ⟨Tryd.sizeOf98⟩
instance : CG 98 false := ⟨Tryd.isAgg98⟩
instance : CZ 98 (Go.Value.nilFunc) := ⟨Tryd.zeroValue98⟩
instance : CU 99 (Go.TypeDesc.array 3 47) := ⟨Tryd.underlying99⟩
instance : CS 99 3 := ⟨Tryd.sizeOf99⟩
instance : CG 99 true := ⟨Tryd.isAgg99⟩
instance : CZ 99 ((Go.Value.agg #[Go.Value.int Go.IntKind.u8 0, Go.Value.int Go.IntKind.u8 0, Go.Value.int Go.IntKind.u8 0])) := ⟨Tryd.zeroValue99⟩
instance : CU 100 (Go.TypeDesc.func #[47] #[9] false) := ⟨Tryd.underlying100⟩
instance : CS 100 1 := ⟨Tryd.sizeOf100⟩
instance : CG 100 false := ⟨Tryd.isAgg100⟩
instance : CZ 100 (Go.Value.nilFunc) := ⟨Tryd.zeroValue100⟩
instance : CU 101 (Go.TypeDesc.pointer 9) := ⟨Tryd.underlying101⟩
instance : CS 101 1 := ⟨Tryd.sizeOf101⟩
instance : CG 101 false := ⟨Tryd.isAgg101⟩
instance : CZ 101 ((Go.Value.pointer none)) := ⟨Tryd.zeroValue101⟩
instance : CU 102 (Go.TypeDesc.map 9 101) := ⟨Tryd.underlying102⟩
instance : CS 102 1 := ⟨Tryd.sizeOf102⟩
instance : CG 102 false := ⟨Tryd.isAgg102⟩
instance : CZ 102 ((Go.Value.map none)) := ⟨Tryd.zeroValue102⟩
instance : CU 103 (Go.TypeDesc.func #[9, 36, 22] #[22] false) := ⟨Tryd.underlying103⟩
instance : CS 103 1 := ⟨Tryd.sizeOf103⟩
instance : CG 103 false := ⟨Tryd.isAgg103⟩
instance : CZ 103 (Go.Value.nilFunc) := ⟨Tryd.zeroValue103⟩
instance : CU 104 (Go.TypeDesc.int Go.IntKind.i64) := ⟨Tryd.underlying104⟩
instance : CS 104 1 := ⟨Tryd.sizeOf104⟩
instance : CG 104 false := ⟨Tryd.isAgg104⟩
instance : CZ 104 ((Go.Value.int Go.IntKind.i64 0)) := ⟨Tryd.zeroValue104⟩
instance : CU 105 (Go.TypeDesc.tuple #[104, 4]) := ⟨Tryd.underlying105⟩
instance : CS 105 1 := ⟨Tryd.sizeOf105⟩
instance : CG 105 false := ⟨Tryd.isAgg105⟩
instance : CZ 105 ((Go.Value.tuple #[Go.Value.int Go.IntKind.i64 0, Go.Value.bool false])) := ⟨Tryd.zeroValue105⟩
instance : CU 106 (Go.TypeDesc.func #[49] #[104, 4] false) := ⟨Tryd.underlying106⟩
instance : CS 106 1 := ⟨Tryd.sizeOf106⟩
instance : CG 106 false := ⟨Tryd.isAgg106⟩
instance : CZ 106 (Go.Value.nilFunc) := ⟨Tryd.zeroValue106⟩
instance : CU 107 (Go.TypeDesc.func #[49, 104] #[49] false) := ⟨Tryd.underlying107⟩
instance : CS 107 1 := ⟨Tryd.sizeOf107⟩
instance : CG 107 false := ⟨Tryd.isAgg107⟩
instance : CZ 107 (Go.Value.nilFunc) := ⟨Tryd.zeroValue107⟩
instance : CU 108 (Go.TypeDesc.func #[9, 9] #[45] false) := ⟨Tryd.underlying108⟩
instance : CS 108 1 := ⟨Tryd.sizeOf108⟩
instance : CG 108 false := ⟨Tryd.isAgg108⟩
instance : CZ 108 (Go.Value.nilFunc) := ⟨Tryd.zeroValue108⟩
instance : CU 109 (Go.TypeDesc.array 2 9) := ⟨Tryd.underlying109⟩
instance : CS 109 2 := ⟨Tryd.sizeOf109⟩
instance : CG 109 true := ⟨Tryd.isAgg109⟩
instance : CZ 109 ((Go.Value.agg #[Go.Value.string (ByteArray.mk #[]), Go.Value.string (ByteArray.mk #[])])) := ⟨Tryd.zeroValue109⟩
instance : CU 110 (Go.TypeDesc.func #[] #[109] false) := ⟨Tryd.underlying110⟩
instance : CS 110 1 := ⟨Tryd.sizeOf110⟩
instance : CG 110 false := ⟨Tryd.isAgg110⟩
instance : CZ 110 (Go.Value.nilFunc) := ⟨Tryd.zeroValue110⟩
instance : CU 111 (Go.TypeDesc.array 3 9) := ⟨Tryd.underlying111⟩
instance : CS 111 3 := ⟨Tryd.sizeOf111⟩
instance : CG 111 true := ⟨Tryd.isAgg111⟩
instance : CZ 111 ((Go.Value.agg #[Go.Value.string (ByteArray.mk #[]), Go.Value.string (ByteArray.mk #[]), Go.Value.string (ByteArray.mk #[])])) := ⟨Tryd.zeroValue111⟩
instance : CU 112 (Go.TypeDesc.func #[] #[111] false) := ⟨Tryd.underlying112⟩
instance : CS 112 1 := ⟨Tryd.sizeOf112⟩
instance : CG 112 false := ⟨Tryd.isAgg112⟩
instance : CZ 112 (Go.Value.nilFunc) := ⟨Tryd.zeroValue112⟩
instance : CU 113 (Go.TypeDesc.func #[3] #[9] false) := ⟨Tryd.underlying113⟩
instance : CS 113 1 := ⟨Tryd.sizeOf113⟩
instance : CG 113 false := ⟨Tryd.isAgg113⟩
instance : CZ 113 (Go.Value.nilFunc) := ⟨Tryd.zeroValue113⟩
instance : CU 114 (Go.TypeDesc.array 6 9) := ⟨Tryd.underlying114⟩
instance : CS 114 6 := ⟨Tryd.sizeOf114⟩
instance : CG 114 true := ⟨Tryd.isAgg114⟩
instance : CZ 114 ((Go.Value.agg #[Go.Value.string (ByteArray.mk #[]), Go.Value.string (ByteArray.mk #[]), Go.Value.string (ByteArray.mk #[]), Go.Value.string (ByteArray.mk #[]), Go.Value.string (ByteArray.mk #[]), Go.Value.string (ByteArray.mk #[])])) := ⟨Tryd.zeroValue114⟩
instance : CU 115 (Go.TypeDesc.func #[] #[114] false) := ⟨Tryd.underlying115⟩
instance : CS 115 1 := ⟨Tryd.sizeOf115⟩
instance : CG 115 false := ⟨Tryd.isAgg115⟩
instance : CZ 115 (Go.Value.nilFunc) := ⟨Tryd.zeroValue115⟩
instance : CU 116 (Go.TypeDesc.func #[53] #[9] false) := ⟨Tryd.underlying116⟩
instance : CS 116 1 := ⟨Tryd.sizeOf116⟩
instance : CG 116 false := ⟨Tryd.isAgg116⟩
instance : CZ 116 (Go.Value.nilFunc) := ⟨Tryd.zeroValue116⟩
instance : CU 117 (Go.TypeDesc.func #[9] #[22] false) := ⟨Tryd.underlying117⟩
instance : CS 117 1 := ⟨Tryd.sizeOf117⟩
instance : CG 117 false := ⟨Tryd.isAgg117⟩
instance : CZ 117 (Go.Value.nilFunc) := ⟨Tryd.zeroValue117⟩
instance : CU 118 (Go.TypeDesc.array 16 9) := ⟨Tryd.underlying118⟩
instance : CS 118 16 := ⟨Tryd.sizeOf118⟩
instance : CG 118 true := ⟨Tryd.isAgg118⟩
instance : CZ 118 ((Go.Value.agg #[Go.Value.string (ByteArray.mk #[]), Go.Value.string (ByteArray.mk #[]), Go.Value.string (ByteArray.mk #[]), Go.Value.string (ByteArray.mk #[]), Go.Value.string (ByteArray.mk #[]), Go.Value.string (ByteArray.mk #[]), Go.Value.string (ByteArray.mk #[]), Go.Value.string (ByteArray.mk #[]), Go.Value.string (ByteArray.mk #[]), Go.Value.string (ByteArray.mk #[]), Go.Value.string (ByteArray.mk #[]), Go.Value.string (ByteArray.mk #[]), Go.Value.string (ByteArray.mk #[]), Go.Value.string (ByteArray.mk #[]), Go.Value.string (ByteArray.mk #[]), Go.Value.string (ByteArray.mk #[])])) := ⟨Tryd.zeroValue118⟩
instance : CU 119 (Go.TypeDesc.func #[] #[118] false) := ⟨Tryd.underlying119⟩
instance : CS 119 1 := ⟨Tryd.sizeOf119⟩
instance : CG 119 false := ⟨Tryd.isAgg119⟩
instance : CZ 119 (Go.Value.nilFunc) := ⟨Tryd.zeroValue119⟩
instance : CU 120 (Go.TypeDesc.func #[84, 9] #[3] false) := ⟨Tryd.underlying120⟩
instance : CS 120 1 := ⟨Tryd.sizeOf120⟩
instance : CG 120 false := ⟨Tryd.isAgg120⟩
instance : CZ 120 (Go.Value.nilFunc) := ⟨Tryd.zeroValue120⟩
instance : CU 121 (Go.TypeDesc.func #[9] #[3] false) := ⟨Tryd.underlying121⟩
instance : CS 121 1 := ⟨Tryd.sizeOf121⟩
instance : CG 121 false := ⟨Tryd.isAgg121⟩
instance : CZ 121 (Go.Value.nilFunc) := ⟨Tryd.zeroValue121⟩
instance : CU 122 (Go.TypeDesc.tuple #[57, 4]) := ⟨Tryd.underlying122⟩
instance : CS 122 1 := ⟨Tryd.sizeOf122⟩
instance : CG 122 false := ⟨Tryd.isAgg122⟩
instance : CZ 122 ((Go.Value.tuple #[Go.Value.agg #[Go.Value.int Go.IntKind.u8 0, Go.Value.string (ByteArray.mk #[]), Go.Value.string (ByteArray.mk #[]), Go.Value.string (ByteArray.mk #[]), Go.Value.int Go.IntKind.u8 0, Go.Value.int Go.IntKind.u8 0, Go.Value.int Go.IntKind.i64 0, Go.Value.int Go.IntKind.i64 0, Go.Value.string (ByteArray.mk #[]), Go.Value.bool false, Go.Value.string (ByteArray.mk #[])], Go.Value.bool false])) := ⟨Tryd.zeroValue122⟩
instance : CU 123 (Go.TypeDesc.func #[57] #[57, 4] false) := ⟨Tryd.underlying123⟩
instance : CS 123 1 := ⟨Tryd.sizeOf123⟩
instance : CG 123 false := ⟨Tryd.isAgg123⟩
instance : CZ 123 (Go.Value.nilFunc) := ⟨Tryd.zeroValue123⟩
instance : CU 124 (Go.TypeDesc.func #[49] #[22] false) := ⟨Tryd.underlying124⟩
instance : CS 124 1 := ⟨Tryd.sizeOf124⟩
instance : CG 124 false := ⟨Tryd.isAgg124⟩
instance : CZ 124 (Go.Value.nilFunc) := ⟨Tryd.zeroValue124⟩
instance : CU 125 (Go.TypeDesc.struct #[Go.Field.mk "Local" 9 0 false "" "" 0, Go.Field.mk "Domain" 9 1 false "" "" 16, Go.Field.mk "Resource" 9 2 false "" "" 32]) := ⟨Tryd.underlying125⟩
instance : CS 125 3 := ⟨Tryd.sizeOf125⟩
instance : CG 125 true := ⟨Tryd.isAgg125⟩
instance : CZ 125 ((Go.Value.agg #[Go.Value.string (ByteArray.mk #[]), Go.Value.string (ByteArray.mk #[]), Go.Value.string (ByteArray.mk #[])])) := ⟨Tryd.zeroValue125⟩
instance : CF 125 0 0 := ⟨_, _, _, Tryd.underlying125, rfl, Tryd.sizeOf9, rfl⟩
instance : CF 125 1 1 := ⟨_, _, _, Tryd.underlying125, rfl, Tryd.sizeOf9, rfl⟩
instance : CF 125 2 2 := ⟨_, _, _, Tryd.underlying125, rfl, Tryd.sizeOf9, rfl⟩
instance : CU 126 (Go.TypeDesc.struct #[Go.Field.mk "Local" 9 0 false "" "" 0, Go.Field.mk "Domain" 9 1 false "" "" 16, Go.Field.mk "Resource" 9 2 false "" "" 32]) := ⟨Tryd.underlying126⟩
instance : CS 126 3 := ⟨Tryd.sizeOf126⟩
instance : CG 126 true := ⟨Tryd.isAgg126⟩
instance : CZ 126 ((Go.Value.agg #[Go.Value.string (ByteArray.mk #[]), Go.Value.string (ByteArray.mk #[]), Go.Value.string (ByteArray.mk #[])])) := ⟨Tryd.zeroValue126⟩
instance : CF 126 0 0 := ⟨_, _, _, Tryd.underlying126, rfl, Tryd.sizeOf9, rfl⟩
instance : CF 126 1 1 := ⟨_, _, _, Tryd.underlying126, rfl, Tryd.sizeOf9, rfl⟩
instance : CF 126 2 2 := ⟨_, _, _, Tryd.underlying126, rfl, Tryd.sizeOf9, rfl⟩
instance : CU 127 (Go.TypeDesc.tuple #[126, 24]) := ⟨Tryd.underlying127⟩
instance : CS 127 1 := ⟨Tryd.sizeOf127⟩
instance : CG 127 false := ⟨Tryd.isAgg127⟩
instance : CZ 127 ((Go.Value.tuple #[Go.Value.agg #[Go.Value.string (ByteArray.mk #[]), Go.Value.string (ByteArray.mk #[]), Go.Value.string (ByteArray.mk #[])], Go.Value.int Go.IntKind.i64 0])) := ⟨Tryd.zeroValue127⟩
instance : CU 128 (Go.TypeDesc.func #[9] #[126, 24] false) := ⟨Tryd.underlying128⟩
instance : CS 128 1 := ⟨Tryd.sizeOf128⟩
instance : CG 128 false := ⟨Tryd.isAgg128⟩
instance : CZ 128 (Go.Value.nilFunc) := ⟨Tryd.zeroValue128⟩
instance : CU 129 (Go.TypeDesc.func #[47, 9] #[4] false) := ⟨Tryd.underlying129⟩
instance : CS 129 1 := ⟨Tryd.sizeOf129⟩
instance : CG 129 false := ⟨Tryd.isAgg129⟩
instance : CZ 129 (Go.Value.nilFunc) := ⟨Tryd.zeroValue129⟩
instance : CU 130 (Go.TypeDesc.func #[9] #[4] false) := ⟨Tryd.underlying130⟩
instance : CS 130 1 := ⟨Tryd.sizeOf130⟩
instance : CG 130 false := ⟨Tryd.isAgg130⟩
instance : CZ 130 (Go.Value.nilFunc) := ⟨Tryd.zeroValue130⟩
instance : CU 131 (Go.TypeDesc.array 5 9) := ⟨Tryd.underlying131⟩
instance : CS 131 5 := ⟨Tryd.sizeOf131⟩
instance : CG 131 true := ⟨Tryd.isAgg131⟩
instance : CZ 131 ((Go.Value.agg #[Go.Value.string (ByteArray.mk #[]), Go.Value.string (ByteArray.mk #[]), Go.Value.string (ByteArray.mk #[]), Go.Value.string (ByteArray.mk #[]), Go.Value.string (ByteArray.mk #[])])) := ⟨Tryd.zeroValue131⟩
instance : CU 132 (Go.TypeDesc.array 2 131) := ⟨Tryd.underlying132⟩
instance : CS 132 10 := ⟨Tryd.sizeOf132⟩
instance : CG 132 true := ⟨Tryd.isAgg132⟩
instance : CZ 132 ((Go.Value.agg #[Go.Value.string (ByteArray.mk #[]), Go.Value.string (ByteArray.mk #[]), Go.Value.string (ByteArray.mk #[]), Go.Value.string (ByteArray.mk #[]), Go.Value.string (ByteArray.mk #[]), Go.Value.string (ByteArray.mk #[]), Go.Value.string (ByteArray.mk #[]), Go.Value.string (ByteArray.mk #[]), Go.Value.string (ByteArray.mk #[]), Go.Value.string (ByteArray.mk #[])])) := ⟨Tryd.zeroValue132⟩
instance : CU 133 (Go.TypeDesc.map 5 9) := ⟨Tryd.underlying133⟩
instance : CS 133 1 := ⟨Tryd.sizeOf133⟩
instance : CG 133 false := ⟨Tryd.isAgg133⟩
instance : CZ 133 ((Go.Value.map none)) := ⟨Tryd.zeroValue133⟩
instance : CU 134 (Go.TypeDesc.func #[] #[133] false) := ⟨Tryd.underlying134⟩
instance : CS 134 1 := ⟨Tryd.sizeOf134⟩
instance : CG 134 false := ⟨Tryd.isAgg134⟩
instance : CZ 134 (Go.Value.nilFunc) := ⟨Tryd.zeroValue134⟩
instance : CU 135 (Go.TypeDesc.pointer 5) := ⟨Tryd.underlying135⟩
instance : CS 135 1 := ⟨Tryd.sizeOf135⟩
instance : CG 135 false := ⟨Tryd.isAgg135⟩
instance : CZ 135 ((Go.Value.pointer none)) := ⟨Tryd.zeroValue135⟩
instance : CU 136 (Go.TypeDesc.slice 109) := ⟨Tryd.underlying136⟩
instance : CS 136 1 := ⟨Tryd.sizeOf136⟩
instance : CG 136 false := ⟨Tryd.isAgg136⟩
instance : CZ 136 ((Go.Value.slice none 0 0)) := ⟨Tryd.zeroValue136⟩
instance : CE 109 ((Go.Value.agg #[Go.Value.string (ByteArray.mk #[]), Go.Value.string (ByteArray.mk #[])])) 2 32 := ⟨by unfold ElT; kernel_rfl⟩
instance : CU 137 (Go.TypeDesc.func #[] #[136] false) := ⟨Tryd.underlying137⟩
instance : CS 137 1 := ⟨Tryd.sizeOf137⟩
instance : CG 137 false := ⟨Tryd.isAgg137⟩
instance : CZ 137 (Go.Value.nilFunc) := ⟨Tryd.zeroValue137⟩
instance : CU 138 (Go.TypeDesc.func #[3, 3] #[4] false) := ⟨Tryd.underlying138⟩
instance : CS 138 1 := ⟨Tryd.sizeOf138⟩
instance : CG 138 false := ⟨Tryd.isAgg138⟩
instance : CZ 138 (Go.Value.nilFunc) := ⟨Tryd.zeroValue138⟩
instance : CU 139 (Go.TypeDesc.func #[9, 90] #[] false) := ⟨Tryd.underlying139⟩
instance : CS 139 1 := ⟨Tryd.sizeOf139⟩
instance : CG 139 false := ⟨Tryd.isAgg139⟩
instance : CZ 139 (Go.Value.nilFunc) := ⟨Tryd.zeroValue139⟩
instance : CU 140 (Go.TypeDesc.func #[4, 24] #[] false) := ⟨Tryd.underlying140⟩
instance : CS 140 1 := ⟨Tryd.sizeOf140⟩
instance : CG 140 false := ⟨Tryd.isAgg140⟩
instance : CZ 140 (Go.Value.nilFunc) := ⟨Tryd.zeroValue140⟩
instance : CU 141 (Go.TypeDesc.func #[9] #[22, 24] false) := ⟨Tryd.underlying141⟩
instance : CS 141 1 := ⟨Tryd.sizeOf141⟩
instance : CG 141 false := ⟨Tryd.isAgg141⟩
instance : CZ 141 (Go.Value.nilFunc) := ⟨Tryd.zeroValue141⟩
instance : CU 142 (Go.TypeDesc.array 4 9) := ⟨Tryd.underlying142⟩
instance : CS 142 4 := ⟨Tryd.sizeOf142⟩
instance : CG 142 true := ⟨Tryd.isAgg142⟩
instance : CZ 142 ((Go.Value.agg #[Go.Value.string (ByteArray.mk #[]), Go.Value.string (ByteArray.mk #[]), Go.Value.string (ByteArray.mk #[]), Go.Value.string (ByteArray.mk #[])])) := ⟨Tryd.zeroValue142⟩
instance : CU 143 (Go.TypeDesc.func #[9] #[104, 4] false) := ⟨Tryd.underlying143⟩
instance : CS 143 1 := ⟨Tryd.sizeOf143⟩
instance : CG 143 false := ⟨Tryd.isAgg143⟩
instance : CZ 143 (Go.Value.nilFunc) := ⟨Tryd.zeroValue143⟩
instance : CU 144 (Go.TypeDesc.func #[104] #[9] false) := ⟨Tryd.underlying144⟩
instance : CS 144 1 := ⟨Tryd.sizeOf144⟩
instance : CG 144 false := ⟨Tryd.isAgg144⟩
instance : CZ 144 (Go.Value.nilFunc) := ⟨Tryd.zeroValue144⟩
instance : CU 145 (Go.TypeDesc.func #[49, 47, 9, 22] #[49] false) := ⟨Tryd.underlying145⟩
instance : CS 145 1 := ⟨Tryd.sizeOf145⟩
instance : CG 145 false := ⟨Tryd.isAgg145⟩
instance : CZ 145 (Go.Value.nilFunc) := ⟨Tryd.zeroValue145⟩
instance : CU 146 (Go.TypeDesc.array 4 45) := ⟨Tryd.underlying146⟩
instance : CS 146 8 := ⟨Tryd.sizeOf146⟩
instance : CG 146 true := ⟨Tryd.isAgg146⟩
instance : CZ 146 ((Go.Value.agg #[Go.Value.string (ByteArray.mk #[]), Go.Value.string (ByteArray.mk #[]), Go.Value.string (ByteArray.mk #[]), Go.Value.string (ByteArray.mk #[]), Go.Value.string (ByteArray.mk #[]), Go.Value.string (ByteArray.mk #[]), Go.Value.string (ByteArray.mk #[]), Go.Value.string (ByteArray.mk #[])])) := ⟨Tryd.zeroValue146⟩
instance : CU 147 (Go.TypeDesc.tuple #[9, 9, 4]) := ⟨Tryd.underlying147⟩
instance : CS 147 1 := ⟨Tryd.sizeOf147⟩
instance : CG 147 false := ⟨Tryd.isAgg147⟩
instance : CZ 147 ((Go.Value.tuple #[Go.Value.string (ByteArray.mk #[]), Go.Value.string (ByteArray.mk #[]), Go.Value.bool false])) := ⟨Tryd.zeroValue147⟩
instance : CU 148 (Go.TypeDesc.func #[9, 9] #[9, 9, 4] false) := ⟨Tryd.underlying148⟩
instance : CS 148 1 := ⟨Tryd.sizeOf148⟩
instance : CG 148 false := ⟨Tryd.isAgg148⟩
instance : CZ 148 (Go.Value.nilFunc) := ⟨Tryd.zeroValue148⟩
instance : CU 149 (Go.TypeDesc.func #[126] #[4] false) := ⟨Tryd.underlying149⟩
instance : CS 149 1 := ⟨Tryd.sizeOf149⟩
instance : CG 149 false := ⟨Tryd.isAgg149⟩
instance : CZ 149 (Go.Value.nilFunc) := ⟨Tryd.zeroValue149⟩
instance : CU 150 (Go.TypeDesc.func #[9, 9] #[4] false) := ⟨Tryd.underlying150⟩
instance : CS 150 1 := ⟨Tryd.sizeOf150⟩
instance : CG 150 false := ⟨Tryd.isAgg150⟩
instance : CZ 150 (Go.Value.nilFunc) := ⟨Tryd.zeroValue150⟩
instance : CU 151 Go.TypeDesc.unsafePointer := ⟨Tryd.underlying151⟩
instance : CS 151 1 := ⟨Tryd.sizeOf151⟩
instance : CG 151 false := ⟨Tryd.isAgg151⟩
instance : CZ 151 ((Go.Value.pointer none)) := ⟨Tryd.zeroValue151⟩
instance : CU 152 (Go.TypeDesc.func #[151] #[151] false) := ⟨Tryd.underlying152⟩
instance : CS 152 1 := ⟨Tryd.sizeOf152⟩
instance : CG 152 false := ⟨Tryd.isAgg152⟩
instance : CZ 152 (Go.Value.nilFunc) := ⟨Tryd.zeroValue152⟩
instance : CU 153 (Go.TypeDesc.map 9 4) := ⟨Tryd.underlying153⟩
instance : CS 153 1 := ⟨Tryd.sizeOf153⟩
instance : CG 153 false := ⟨Tryd.isAgg153⟩
instance : CZ 153 ((Go.Value.map none)) := ⟨Tryd.zeroValue153⟩
instance : CU 154 (Go.TypeDesc.func #[9] #[9, 24] false) := ⟨Tryd.underlying154⟩
instance : CS 154 1 := ⟨Tryd.sizeOf154⟩
instance : CG 154 false := ⟨Tryd.isAgg154⟩
instance : CZ 154 (Go.Value.nilFunc) := ⟨Tryd.zeroValue154⟩
instance : CU 155 (Go.TypeDesc.func #[9, 9] #[9, 4] false) := ⟨Tryd.underlying155⟩
instance : CS 155 1 := ⟨Tryd.sizeOf155⟩
instance : CG 155 false := ⟨Tryd.isAgg155⟩
instance : CZ 155 (Go.Value.nilFunc) := ⟨Tryd.zeroValue155⟩
instance : CU 156 (Go.TypeDesc.tuple #[9, 9]) := ⟨Tryd.underlying156⟩
instance : CS 156 1 := ⟨Tryd.sizeOf156⟩
instance : CG 156 false := ⟨Tryd.isAgg156⟩
instance : CZ 156 ((Go.Value.tuple #[Go.Value.string (ByteArray.mk #[]), Go.Value.string (ByteArray.mk #[])])) := ⟨Tryd.zeroValue156⟩
instance : CU 157 (Go.TypeDesc.func #[9] #[9, 9] false) := ⟨Tryd.underlying157⟩
instance : CS 157 1 := ⟨Tryd.sizeOf157⟩
instance : CG 157 false := ⟨Tryd.isAgg157⟩
instance : CZ 157 (Go.Value.nilFunc) := ⟨Tryd.zeroValue157⟩
instance : CU 158 (Go.TypeDesc.struct #[Go.Field.mk "name" 9 0 false "" "heliograph/fault" 0, Go.Field.mk "kind" 9 1 false "" "heliograph/fault" 16]) := ⟨Tryd.underlying158⟩
instance : CS 158 2 := ⟨Tryd.sizeOf158⟩
instance : CG 158 true := ⟨Tryd.isAgg158⟩
instance : CZ 158 ((Go.Value.agg #[Go.Value.string (ByteArray.mk #[]), Go.Value.string (ByteArray.mk #[])])) := ⟨Tryd.zeroValue158⟩
instance : CF 158 0 0 := ⟨_, _, _, Tryd.underlying158, rfl, Tryd.sizeOf9, rfl⟩
instance : CF 158 1 1 := ⟨_, _, _, Tryd.underlying158, rfl, Tryd.sizeOf9, rfl⟩
instance : CU 159 (Go.TypeDesc.struct #[Go.Field.mk "name" 9 0 false "" "heliograph/fault" 0, Go.Field.mk "kind" 9 1 false "" "heliograph/fault" 16]) := ⟨Tryd.underlying159⟩
instance : CS 159 2 := ⟨Tryd.sizeOf159⟩
instance : CG 159 true := ⟨Tryd.isAgg159⟩
instance : CZ 159 ((Go.Value.agg #[Go.Value.string (ByteArray.mk #[]), Go.Value.string (ByteArray.mk #[])])) := ⟨Tryd.zeroValue159⟩
instance : CF 159 0 0 := ⟨_, _, _, Tryd.underlying159, rfl, Tryd.sizeOf9, rfl⟩
instance : CF 159 1 1 := ⟨_, _, _, Tryd.underlying159, rfl, Tryd.sizeOf9, rfl⟩
instance : CU 160 (Go.TypeDesc.array 11 159) := ⟨Tryd.underlying160⟩
instance : CS 160 22 := ⟨Tryd.sizeOf160⟩
instance : CG 160 true := ⟨Tryd.isAgg160⟩
instance : CZ 160 ((Go.Value.agg #[Go.Value.string (ByteArray.mk #[]), Go.Value.string (ByteArray.mk #[]), Go.Value.string (ByteArray.mk #[]), Go.Value.string (ByteArray.mk #[]), Go.Value.string (ByteArray.mk #[]), Go.Value.string (ByteArray.mk #[]), Go.Value.string (ByteArray.mk #[]), Go.Value.string (ByteArray.mk #[]), Go.Value.string (ByteArray.mk #[]), Go.Value.string (ByteArray.mk #[]), Go.Value.string (ByteArray.mk #[]), Go.Value.string (ByteArray.mk #[]), Go.Value.string (ByteArray.mk #[]), Go.Value.string (ByteArray.mk #[]), Go.Value.string (ByteArray.mk #[]), Go.Value.string (ByteArray.mk #[]), Go.Value.string (ByteArray.mk #[]), Go.Value.string (ByteArray.mk #[]), Go.Value.string (ByteArray.mk #[]), Go.Value.string (ByteArray.mk #[]), Go.Value.string (ByteArray.mk #[]), Go.Value.string (ByteArray.mk #[])])) := ⟨Tryd.zeroValue160⟩
instance : CU 161 (Go.TypeDesc.func #[] #[160] false) := ⟨Tryd.underlying161⟩
instance : CS 161 1 := ⟨Tryd.sizeOf161⟩
instance : CG 161 false := ⟨Tryd.isAgg161⟩
instance : CZ 161 (Go.Value.nilFunc) := ⟨Tryd.zeroValue161⟩
instance : CU 162 (Go.TypeDesc.func #[104] #[4] false) := ⟨Tryd.underlying162⟩
instance : CS 162 1 := ⟨Tryd.sizeOf162⟩
instance : CG 162 false := ⟨Tryd.isAgg162⟩
instance : CZ 162 (Go.Value.nilFunc) := ⟨Tryd.zeroValue162⟩
instance : CU 163 (Go.TypeDesc.func #[2, 3] #[9] false) := ⟨Tryd.underlying163⟩
instance : CS 163 1 := ⟨Tryd.sizeOf163⟩
instance : CG 163 false := ⟨Tryd.isAgg163⟩
instance : CZ 163 (Go.Value.nilFunc) := ⟨Tryd.zeroValue163⟩
instance : CU 164 (Go.TypeDesc.func #[9, 9, 3, 3, 76] #[76] false) := ⟨Tryd.underlying164⟩
instance : CS 164 1 := ⟨Tryd.sizeOf164⟩
instance : CG 164 false := ⟨Tryd.isAgg164⟩
instance : CZ 164 (Go.Value.nilFunc) := ⟨Tryd.zeroValue164⟩
instance : CU 165 (Go.TypeDesc.func #[9, 166] #[3] false) := ⟨Tryd.underlying165⟩
instance : CS 165 1 := ⟨Tryd.sizeOf165⟩
instance : CG 165 false := ⟨Tryd.isAgg165⟩
instance : CZ 165 (Go.Value.nilFunc) := ⟨Tryd.zeroValue165⟩
instance : CU 166 (Go.TypeDesc.func #[21] #[4] false) := ⟨Tryd.underlying166⟩
instance : CS 166 1 := ⟨Tryd.sizeOf166⟩
instance : CG 166 false := ⟨Tryd.isAgg166⟩
instance : CZ 166 (Go.Value.nilFunc) := ⟨Tryd.zeroValue166⟩
instance : CU 167 (Go.TypeDesc.func #[126] #[126] false) := ⟨Tryd.underlying167⟩
instance : CS 167 1 := ⟨Tryd.sizeOf167⟩
instance : CG 167 false := ⟨Tryd.isAgg167⟩
instance : CZ 167 (Go.Value.nilFunc) := ⟨Tryd.zeroValue167⟩
instance : CU 168 (Go.TypeDesc.func #[126] #[9] false) := ⟨Tryd.underlying168⟩
instance : CS 168 1 := ⟨Tryd.sizeOf168⟩
instance : CG 168 false := ⟨Tryd.isAgg168⟩
instance : CZ 168 (Go.Value.nilFunc) := ⟨Tryd.zeroValue168⟩
instance : CU 169 (Go.TypeDesc.map 9 5) := ⟨Tryd.underlying169⟩
instance : CS 169 1 := ⟨Tryd.sizeOf169⟩
instance : CG 169 false := ⟨Tryd.isAgg169⟩
instance : CZ 169 ((Go.Value.map none)) := ⟨Tryd.zeroValue169⟩
instance : CU 170 (Go.TypeDesc.tuple #[5, 4]) := ⟨Tryd.underlying170⟩
instance : CS 170 1 := ⟨Tryd.sizeOf170⟩
instance : CG 170 false := ⟨Tryd.isAgg170⟩
instance : CZ 170 ((Go.Value.tuple #[Go.Value.int Go.IntKind.u8 0, Go.Value.bool false])) := ⟨Tryd.zeroValue170⟩
instance : CU 171 (Go.TypeDesc.func #[5] #[76] false) := ⟨Tryd.underlying171⟩
instance : CS 171 1 := ⟨Tryd.sizeOf171⟩
instance : CG 171 false := ⟨Tryd.isAgg171⟩
instance : CZ 171 (Go.Value.nilFunc) := ⟨Tryd.zeroValue171⟩
instance : CU 172 (Go.TypeDesc.func #[9, 9] #[9] false) := ⟨Tryd.underlying172⟩
instance : CS 172 1 := ⟨Tryd.sizeOf172⟩
instance : CG 172 false := ⟨Tryd.isAgg172⟩
instance : CZ 172 (Go.Value.nilFunc) := ⟨Tryd.zeroValue172⟩
instance : CU 173 (Go.TypeDesc.tuple #[45, 9]) := ⟨Tryd.underlying173⟩
instance : CS 173 1 := ⟨Tryd.sizeOf173⟩
instance : CG 173 false := ⟨Tryd.isAgg173⟩
instance : CZ 173 ((Go.Value.tuple #[Go.Value.agg #[Go.Value.string (ByteArray.mk #[]), Go.Value.string (ByteArray.mk #[])], Go.Value.string (ByteArray.mk #[])])) := ⟨Tryd.zeroValue173⟩
instance : CU 174 (Go.TypeDesc.func #[9] #[45, 9] false) := ⟨Tryd.underlying174⟩
instance : CS 174 1 := ⟨Tryd.sizeOf174⟩
instance : CG 174 false := ⟨Tryd.isAgg174⟩
instance : CZ 174 (Go.Value.nilFunc) := ⟨Tryd.zeroValue174⟩
instance : CU 175 (Go.TypeDesc.func #[36, 176] #[4] false) := ⟨Tryd.underlying175⟩
instance : CS 175 1 := ⟨Tryd.sizeOf175⟩
instance : CG 175 false := ⟨Tryd.isAgg175⟩
instance : CZ 175 (Go.Value.nilFunc) := ⟨Tryd.zeroValue175⟩
instance : CU 176 (Go.TypeDesc.func #[45] #[4] false) := ⟨Tryd.underlying176⟩
instance : CS 176 1 := ⟨Tryd.sizeOf176⟩
instance : CG 176 false := ⟨Tryd.isAgg176⟩
instance : CZ 176 (Go.Value.nilFunc) := ⟨Tryd.zeroValue176⟩
instance : CU 177 (Go.TypeDesc.func #[84] #[84] false) := ⟨Tryd.underlying177⟩
instance : CS 177 1 := ⟨Tryd.sizeOf177⟩
instance : CG 177 false := ⟨Tryd.isAgg177⟩
instance : CZ 177 (Go.Value.nilFunc) := ⟨Tryd.zeroValue177⟩
instance : CU 178 (Go.TypeDesc.tuple #[36, 4]) := ⟨Tryd.underlying178⟩
instance : CS 178 1 := ⟨Tryd.sizeOf178⟩
instance : CG 178 false := ⟨Tryd.isAgg178⟩
instance : CZ 178 ((Go.Value.tuple #[Go.Value.slice none 0 0, Go.Value.bool false])) := ⟨Tryd.zeroValue178⟩
instance : CU 179 (Go.TypeDesc.func #[9] #[36, 4] false) := ⟨Tryd.underlying179⟩
instance : CS 179 1 := ⟨Tryd.sizeOf179⟩
instance : CG 179 false := ⟨Tryd.isAgg179⟩
instance : CZ 179 (Go.Value.nilFunc) := ⟨Tryd.zeroValue179⟩
instance : CU 180 (Go.TypeDesc.func #[9] #[12] false) := ⟨Tryd.underlying180⟩
instance : CS 180 1 := ⟨Tryd.sizeOf180⟩
instance : CG 180 false := ⟨Tryd.isAgg180⟩
instance : CZ 180 (Go.Value.nilFunc) := ⟨Tryd.zeroValue180⟩
instance : CU 181 (Go.TypeDesc.array 256 5) := ⟨Tryd.underlying181⟩
instance : CS 181 256 := ⟨Tryd.sizeOf181⟩
instance : CG 181 true := ⟨Tryd.isAgg181⟩
instance : CZ 181 ((Go.Value.agg Go.Proofs.Tryd.zeroCells181)) := ⟨Tryd.zeroValue181⟩
instance : CU 182 (Go.TypeDesc.struct #[Go.Field.mk "lo" 5 0 false "" "unicode/utf8" 0, Go.Field.mk "hi" 5 1 false "" "unicode/utf8" 1]) := ⟨Tryd.underlying182⟩
instance : CS 182 2 := ⟨Tryd.sizeOf182⟩
instance : CG 182 true := ⟨Tryd.isAgg182⟩
instance : CZ 182 ((Go.Value.agg #[Go.Value.int Go.IntKind.u8 0, Go.Value.int Go.IntKind.u8 0])) := ⟨Tryd.zeroValue182⟩
instance : CF 182 0 0 := ⟨_, _, _, Tryd.underlying182, rfl, Tryd.sizeOf5, rfl⟩
instance : CF 182 1 1 := ⟨_, _, _, Tryd.underlying182, rfl, Tryd.sizeOf5, rfl⟩
instance : CU 183 (Go.TypeDesc.struct #[Go.Field.mk "lo" 5 0 false "" "unicode/utf8" 0, Go.Field.mk "hi" 5 1 false "" "unicode/utf8" 1]) := ⟨Tryd.underlying183⟩
instance : CS 183 2 := ⟨Tryd.sizeOf183⟩
instance : CG 183 true := ⟨Tryd.isAgg183⟩
instance : CZ 183 ((Go.Value.agg #[Go.Value.int Go.IntKind.u8 0, Go.Value.int Go.IntKind.u8 0])) := ⟨Tryd.zeroValue183⟩
instance : CF 183 0 0 := ⟨_, _, _, Tryd.underlying183, rfl, Tryd.sizeOf5, rfl⟩
instance : CF 183 1 1 := ⟨_, _, _, Tryd.underlying183, rfl, Tryd.sizeOf5, rfl⟩
instance : CU 184 (Go.TypeDesc.array 16 183) := ⟨Tryd.underlying184⟩
instance : CS 184 32 := ⟨Tryd.sizeOf184⟩
instance : CG 184 true := ⟨Tryd.isAgg184⟩
instance : CZ 184 ((Go.Value.agg #[Go.Value.int Go.IntKind.u8 0, Go.Value.int Go.IntKind.u8 0, Go.Value.int Go.IntKind.u8 0, Go.Value.int Go.IntKind.u8 0, Go.Value.int Go.IntKind.u8 0, Go.Value.int Go.IntKind.u8 0, Go.Value.int Go.IntKind.u8 0, Go.Value.int Go.IntKind.u8 0, Go.Value.int Go.IntKind.u8 0, Go.Value.int Go.IntKind.u8 0, Go.Value.int Go.IntKind.u8 0, Go.Value.int Go.IntKind.u8 0, Go.Value.int Go.IntKind.u8 0, Go.Value.int Go.IntKind.u8 0, Go.Value.int Go.IntKind.u8 0, Go.Value.int Go.IntKind.u8 0, Go.Value.int Go.IntKind.u8 0, Go.Value.int Go.IntKind.u8 0, Go.Value.int Go.IntKind.u8 0, Go.Value.int Go.IntKind.u8 0, Go.Value.int Go.IntKind.u8 0, Go.Value.int Go.IntKind.u8 0, Go.Value.int Go.IntKind.u8 0, Go.Value.int Go.IntKind.u8 0, Go.Value.int Go.IntKind.u8 0, Go.Value.int Go.IntKind.u8 0, Go.Value.int Go.IntKind.u8 0, Go.Value.int Go.IntKind.u8 0, Go.Value.int Go.IntKind.u8 0, Go.Value.int Go.IntKind.u8 0, Go.Value.int Go.IntKind.u8 0, Go.Value.int Go.IntKind.u8 0])) := ⟨Tryd.zeroValue184⟩
instance : CU 185 (Go.TypeDesc.int Go.IntKind.u64) := ⟨Tryd.underlying185⟩
instance : CS 185 1 := ⟨Tryd.sizeOf185⟩
instance : CG 185 false := ⟨Tryd.isAgg185⟩
instance : CZ 185 ((Go.Value.int Go.IntKind.u64 0)) := ⟨Tryd.zeroValue185⟩
instance : CU 186 (Go.TypeDesc.array 24 5) := ⟨Tryd.underlying186⟩
instance : CS 186 24 := ⟨Tryd.sizeOf186⟩
instance : CG 186 true := ⟨Tryd.isAgg186⟩
instance : CZ 186 ((Go.Value.agg #[Go.Value.int Go.IntKind.u8 0, Go.Value.int Go.IntKind.u8 0, Go.Value.int Go.IntKind.u8 0, Go.Value.int Go.IntKind.u8 0, Go.Value.int Go.IntKind.u8 0, Go.Value.int Go.IntKind.u8 0, Go.Value.int Go.IntKind.u8 0, Go.Value.int Go.IntKind.u8 0, Go.Value.int Go.IntKind.u8 0, Go.Value.int Go.IntKind.u8 0, Go.Value.int Go.IntKind.u8 0, Go.Value.int Go.IntKind.u8 0, Go.Value.int Go.IntKind.u8 0, Go.Value.int Go.IntKind.u8 0, Go.Value.int Go.IntKind.u8 0, Go.Value.int Go.IntKind.u8 0, Go.Value.int Go.IntKind.u8 0, Go.Value.int Go.IntKind.u8 0, Go.Value.int Go.IntKind.u8 0, Go.Value.int Go.IntKind.u8 0, Go.Value.int Go.IntKind.u8 0, Go.Value.int Go.IntKind.u8 0, Go.Value.int Go.IntKind.u8 0, Go.Value.int Go.IntKind.u8 0])) := ⟨Tryd.zeroValue186⟩
instance : CU 187 (Go.TypeDesc.int Go.IntKind.u64) := ⟨Tryd.underlying187⟩
instance : CS 187 1 := ⟨Tryd.sizeOf187⟩
instance : CG 187 false := ⟨Tryd.isAgg187⟩
instance : CZ 187 ((Go.Value.int Go.IntKind.u64 0)) := ⟨Tryd.zeroValue187⟩
instance : CU 188 (Go.TypeDesc.func #[187] #[3] false) := ⟨Tryd.underlying188⟩
instance : CS 188 1 := ⟨Tryd.sizeOf188⟩
instance : CG 188 false := ⟨Tryd.isAgg188⟩
instance : CZ 188 (Go.Value.nilFunc) := ⟨Tryd.zeroValue188⟩
instance : CU 189 (Go.TypeDesc.func #[29, 187] #[] false) := ⟨Tryd.underlying189⟩
instance : CS 189 1 := ⟨Tryd.sizeOf189⟩
instance : CG 189 false := ⟨Tryd.isAgg189⟩
instance : CZ 189 (Go.Value.nilFunc) := ⟨Tryd.zeroValue189⟩
instance : CU 190 (Go.TypeDesc.tuple #[29, 9]) := ⟨Tryd.underlying190⟩
instance : CS 190 1 := ⟨Tryd.sizeOf190⟩
instance : CG 190 false := ⟨Tryd.isAgg190⟩
instance : CZ 190 ((Go.Value.tuple #[Go.Value.slice none 0 0, Go.Value.string (ByteArray.mk #[])])) := ⟨Tryd.zeroValue190⟩
instance : CU 191 (Go.TypeDesc.func #[29, 187, 3, 4, 4] #[29, 9] false) := ⟨Tryd.underlying191⟩
instance : CS 191 1 := ⟨Tryd.sizeOf191⟩
instance : CG 191 false := ⟨Tryd.isAgg191⟩
instance : CZ 191 (Go.Value.nilFunc) := ⟨Tryd.zeroValue191⟩
instance : CU 192 (Go.TypeDesc.int Go.IntKind.i64) := ⟨Tryd.underlying192⟩
instance : CS 192 1 := ⟨Tryd.sizeOf192⟩
instance : CG 192 false := ⟨Tryd.isAgg192⟩
instance : CZ 192 ((Go.Value.int Go.IntKind.i64 0)) := ⟨Tryd.zeroValue192⟩
instance : CU 193 (Go.TypeDesc.tuple #[2, 76]) := ⟨Tryd.underlying193⟩
instance : CS 193 1 := ⟨Tryd.sizeOf193⟩
instance : CG 193 false := ⟨Tryd.isAgg193⟩
instance : CZ 193 ((Go.Value.tuple #[Go.Value.int Go.IntKind.i64 0, Go.Value.nilIface])) := ⟨Tryd.zeroValue193⟩
instance : CU 194 (Go.TypeDesc.func #[9, 3, 3] #[2, 76] false) := ⟨Tryd.underlying194⟩
instance : CS 194 1 := ⟨Tryd.sizeOf194⟩
instance : CG 194 false := ⟨Tryd.isAgg194⟩
instance : CZ 194 (Go.Value.nilFunc) := ⟨Tryd.zeroValue194⟩
instance : CU 195 (Go.TypeDesc.pointer 218) := ⟨Tryd.underlying195⟩
instance : CS 195 1 := ⟨Tryd.sizeOf195⟩
instance : CG 195 false := ⟨Tryd.isAgg195⟩
instance : CZ 195 ((Go.Value.pointer none)) := ⟨Tryd.zeroValue195⟩
instance : CU 196 (Go.TypeDesc.func #[9, 9] #[195] false) := ⟨Tryd.underlying196⟩
instance : CS 196 1 := ⟨Tryd.sizeOf196⟩
instance : CG 196 false := ⟨Tryd.isAgg196⟩
instance : CZ 196 (Go.Value.nilFunc) := ⟨Tryd.zeroValue196⟩
instance : CU 197 (Go.TypeDesc.func #[9, 9, 3] #[195] false) := ⟨Tryd.underlying197⟩
instance : CS 197 1 := ⟨Tryd.sizeOf197⟩
instance : CG 197 false := ⟨Tryd.isAgg197⟩
instance : CZ 197 (Go.Value.nilFunc) := ⟨Tryd.zeroValue197⟩
instance : CU 198 (Go.TypeDesc.func #[9, 166, 4] #[3] false) := ⟨Tryd.underlying198⟩
instance : CS 198 1 := ⟨Tryd.sizeOf198⟩
instance : CG 198 false := ⟨Tryd.isAgg198⟩
instance : CZ 198 (Go.Value.nilFunc) := ⟨Tryd.zeroValue198⟩
instance : CU 199 (Go.TypeDesc.func #[9, 9] #[3] false) := ⟨Tryd.underlying199⟩
instance : CS 199 1 := ⟨Tryd.sizeOf199⟩
instance : CG 199 false := ⟨Tryd.isAgg199⟩
instance : CZ 199 (Go.Value.nilFunc) := ⟨Tryd.zeroValue199⟩
instance : CU 200 (Go.TypeDesc.func #[9, 5] #[9] false) := ⟨Tryd.underlying200⟩
instance : CS 200 1 := ⟨Tryd.sizeOf200⟩
instance : CG 200 false := ⟨Tryd.isAgg200⟩
instance : CZ 200 (Go.Value.nilFunc) := ⟨Tryd.zeroValue200⟩
instance : CU 201 (Go.TypeDesc.array 256 4) := ⟨Tryd.underlying201⟩
instance : CS 201 256 := ⟨Tryd.sizeOf201⟩
instance : CG 201 true := ⟨Tryd.isAgg201⟩
instance : CZ 201 ((Go.Value.agg Go.Proofs.Tryd.zeroCells201)) := ⟨Tryd.zeroValue201⟩
instance : CU 202 (Go.TypeDesc.array 256 4) := ⟨Tryd.underlying202⟩
instance : CS 202 256 := ⟨Tryd.sizeOf202⟩
instance : CG 202 true := ⟨Tryd.isAgg202⟩
instance : CZ 202 ((Go.Value.agg Go.Proofs.Tryd.zeroCells202)) := ⟨Tryd.zeroValue202⟩
instance : CU 203 (Go.TypeDesc.tuple #[202, 4]) := ⟨Tryd.underlying203⟩
instance : CS 203 1 := ⟨Tryd.sizeOf203⟩
instance : CG 203 false := ⟨Tryd.isAgg203⟩
instance : CZ 203 ((Go.Value.tuple #[Go.Value.agg (List.toArray (List.append (List.append [Go.Value.bool false, Go.Value.bool false, Go.Value.bool false, Go.Value.bool false, Go.Value.bool false, Go.Value.bool false, Go.Value.bool false, Go.Value.bool false, Go.Value.bool false, Go.Value.bool false, Go.Value.bool false, Go.Value.bool false, Go.Value.bool false, Go.Value.bool false, Go.Value.bool false, Go.Value.bool false, Go.Value.bool false, Go.Value.bool false, Go.Value.bool false, Go.Value.bool false, Go.Value.bool false, Go.Value.bool false, Go.Value.bool false, Go.Value.bool false, Go.Value.bool false, Go.Value.bool false, Go.Value.bool false, Go.Value.bool false, Go.Value.bool false, Go.Value.bool false, Go.Value.bool false, Go.Value.bool false, Go.Value.bool false, Go.Value.bool false, Go.Value.bool false, Go.Value.bool false, Go.Value.bool false, Go.Value.bool false, Go.Value.bool false, Go.Value.bool false, Go.Value.bool false, Go.Value.bool false, Go.Value.bool false, Go.Value.bool false, Go.Value.bool false, Go.Value.bool false, Go.Value.bool false, Go.Value.bool false, Go.Value.bool false, Go.Value.bool false, Go.Value.bool false, Go.Value.bool false, Go.Value.bool false, Go.Value.bool false, Go.Value.bool false, Go.Value.bool false, Go.Value.bool false, Go.Value.bool false, Go.Value.bool false, Go.Value.bool false, Go.Value.bool false, Go.Value.bool false, Go.Value.bool false, Go.Value.bool false] [Go.Value.bool false, Go.Value.bool false, Go.Value.bool false, Go.Value.bool false, Go.Value.bool false, Go.Value.bool false, Go.Value.bool false, Go.Value.bool false, Go.Value.bool false, Go.Value.bool false, Go.Value.bool false, Go.Value.bool false, Go.Value.bool false, Go.Value.bool false, Go.Value.bool false, Go.Value.bool false, Go.Value.bool false, Go.Value.bool false, Go.Value.bool false, Go.Value.bool false, Go.Value.bool false, Go.Value.bool false, Go.Value.bool false, Go.Value.bool false, Go.Value.bool false, Go.Value.bool false, Go.Value.bool false, Go.Value.bool false, Go.Value.bool false, Go.Value.bool false, Go.Value.bool false, Go.Value.bool false, Go.Value.bool false, Go.Value.bool false, Go.Value.bool false, Go.Value.bool false, Go.Value.bool false, Go.Value.bool false, Go.Value.bool false, Go.Value.bool false, Go.Value.bool false, Go.Value.bool false, Go.Value.bool false, Go.Value.bool false, Go.Value.bool false, Go.Value.bool false, Go.Value.bool false, Go.Value.bool false, Go.Value.bool false, Go.Value.bool false, Go.Value.bool false, Go.Value.bool false, Go.Value.bool false, Go.Value.bool false, Go.Value.bool false, Go.Value.bool false, Go.Value.bool false, Go.Value.bool false, Go.Value.bool false, Go.Value.bool false, Go.Value.bool false, Go.Value.bool false, Go.Value.bool false, Go.Value.bool false]) (List.append [Go.Value.bool false, Go.Value.bool false, Go.Value.bool false, Go.Value.bool false, Go.Value.bool false, Go.Value.bool false, Go.Value.bool false, Go.Value.bool false, Go.Value.bool false, Go.Value.bool false, Go.Value.bool false, Go.Value.bool false, Go.Value.bool false, Go.Value.bool false, Go.Value.bool false, Go.Value.bool false, Go.Value.bool false, Go.Value.bool false, Go.Value.bool false, Go.Value.bool false, Go.Value.bool false, Go.Value.bool false, Go.Value.bool false, Go.Value.bool false, Go.Value.bool false, Go.Value.bool false, Go.Value.bool false, Go.Value.bool false, Go.Value.bool false, Go.Value.bool false, Go.Value.bool false, Go.Value.bool false, Go.Value.bool false, Go.Value.bool false, Go.Value.bool false, Go.Value.bool false, Go.Value.bool false, Go.Value.bool false, Go.Value.bool false, Go.Value.bool false, Go.Value.bool false, Go.Value.bool false, Go.Value.bool false, Go.Value.bool false, Go.Value.bool false, Go.Value.bool false, Go.Value.bool false, Go.Value.bool false, Go.Value.bool false, Go.Value.bool false, Go.Value.bool false, Go.Value.bool false, Go.Value.bool false, Go.Value.bool false, Go.Value.bool false, Go.Value.bool false, Go.Value.bool false, Go.Value.bool false, Go.Value.bool false, Go.Value.bool false, Go.Value.bool false, Go.Value.bool false, Go.Value.bool false, Go.Value.bool false] [Go.Value.bool false, Go.Value.bool false, Go.Value.bool false, Go.Value.bool false, Go.Value.bool false, Go.Value.bool false, Go.Value.bool false, Go.Value.bool false, Go.Value.bool false, Go.Value.bool false, Go.Value.bool false, Go.Value.bool false, Go.Value.bool false, Go.Value.bool false, Go.Value.bool false, Go.Value.bool false, Go.Value.bool false, Go.Value.bool false, Go.Value.bool false, Go.Value.bool false, Go.Value.bool false, Go.Value.bool false, Go.Value.bool false, Go.Value.bool false, Go.Value.bool false, Go.Value.bool false, Go.Value.bool false, Go.Value.bool false, Go.Value.bool false, Go.Value.bool false, Go.Value.bool false, Go.Value.bool false, Go.Value.bool false, Go.Value.bool false, Go.Value.bool false, Go.Value.bool false, Go.Value.bool false, Go.Value.bool false, Go.Value.bool false, Go.Value.bool false, Go.Value.bool false, Go.Value.bool false, Go.Value.bool false, Go.Value.bool false, Go.Value.bool false, Go.Value.bool false, Go.Value.bool false, Go.Value.bool false, Go.Value.bool false, Go.Value.bool false, Go.Value.bool false, Go.Value.bool false, Go.Value.bool false, Go.Value.bool false, Go.Value.bool false, Go.Value.bool false, Go.Value.bool false, Go.Value.bool false, Go.Value.bool false, Go.Value.bool false, Go.Value.bool false, Go.Value.bool false, Go.Value.bool false, Go.Value.bool false]))), Go.Value.bool false])) := ⟨Tryd.zeroValue203⟩
instance : CU 204 (Go.TypeDesc.func #[9] #[202, 4] false) := ⟨Tryd.underlying204⟩
instance : CS 204 1 := ⟨Tryd.sizeOf204⟩
instance : CG 204 false := ⟨Tryd.isAgg204⟩
instance : CZ 204 (Go.Value.nilFunc) := ⟨Tryd.zeroValue204⟩
instance : CU 205 (Go.TypeDesc.func #[9, 206] #[9] false) := ⟨Tryd.underlying205⟩
instance : CS 205 1 := ⟨Tryd.sizeOf205⟩
instance : CG 205 false := ⟨Tryd.isAgg205⟩
instance : CZ 205 (Go.Value.nilFunc) := ⟨Tryd.zeroValue205⟩
instance : CU 206 (Go.TypeDesc.pointer 202) := ⟨Tryd.underlying206⟩
instance : CS 206 1 := ⟨Tryd.sizeOf206⟩
instance : CG 206 false := ⟨Tryd.isAgg206⟩
instance : CZ 206 ((Go.Value.pointer none)) := ⟨Tryd.zeroValue206⟩
instance : CU 207 (Go.TypeDesc.func #[36, 176] #[3] false) := ⟨Tryd.underlying207⟩
instance : CS 207 1 := ⟨Tryd.sizeOf207⟩
instance : CG 207 false := ⟨Tryd.isAgg207⟩
instance : CZ 207 (Go.Value.nilFunc) := ⟨Tryd.zeroValue207⟩
instance : CU 208 (Go.TypeDesc.func #[3] #[3] false) := ⟨Tryd.underlying208⟩
instance : CS 208 1 := ⟨Tryd.sizeOf208⟩
instance : CG 208 false := ⟨Tryd.isAgg208⟩
instance : CZ 208 (Go.Value.nilFunc) := ⟨Tryd.zeroValue208⟩
instance : CU 209 (Go.TypeDesc.func #[4] #[3] false) := ⟨Tryd.underlying209⟩
instance : CS 209 1 := ⟨Tryd.sizeOf209⟩
instance : CG 209 false := ⟨Tryd.isAgg209⟩
instance : CZ 209 (Go.Value.nilFunc) := ⟨Tryd.zeroValue209⟩
instance : CU 210 (Go.TypeDesc.array 20 187) := ⟨Tryd.underlying210⟩
instance : CS 210 20 := ⟨Tryd.sizeOf210⟩
instance : CG 210 true := ⟨Tryd.isAgg210⟩
instance : CZ 210 ((Go.Value.agg #[Go.Value.int Go.IntKind.u64 0, Go.Value.int Go.IntKind.u64 0, Go.Value.int Go.IntKind.u64 0, Go.Value.int Go.IntKind.u64 0, Go.Value.int Go.IntKind.u64 0, Go.Value.int Go.IntKind.u64 0, Go.Value.int Go.IntKind.u64 0, Go.Value.int Go.IntKind.u64 0, Go.Value.int Go.IntKind.u64 0, Go.Value.int Go.IntKind.u64 0, Go.Value.int Go.IntKind.u64 0, Go.Value.int Go.IntKind.u64 0, Go.Value.int Go.IntKind.u64 0, Go.Value.int Go.IntKind.u64 0, Go.Value.int Go.IntKind.u64 0, Go.Value.int Go.IntKind.u64 0, Go.Value.int Go.IntKind.u64 0, Go.Value.int Go.IntKind.u64 0, Go.Value.int Go.IntKind.u64 0, Go.Value.int Go.IntKind.u64 0])) := ⟨Tryd.zeroValue210⟩
instance : CU 211 (Go.TypeDesc.int Go.IntKind.u32) := ⟨Tryd.underlying211⟩
instance : CS 211 1 := ⟨Tryd.sizeOf211⟩
instance : CG 211 false := ⟨Tryd.isAgg211⟩
instance : CZ 211 ((Go.Value.int Go.IntKind.u32 0)) := ⟨Tryd.zeroValue211⟩
instance : CU 212 (Go.TypeDesc.array 65 5) := ⟨Tryd.underlying212⟩
instance : CS 212 65 := ⟨Tryd.sizeOf212⟩
instance : CG 212 true := ⟨Tryd.isAgg212⟩
instance : CZ 212 ((Go.Value.agg Go.Proofs.Tryd.zeroCells212)) := ⟨Tryd.zeroValue212⟩
instance : CU 213 (Go.TypeDesc.func #[3] #[4] false) := ⟨Tryd.underlying213⟩
instance : CS 213 1 := ⟨Tryd.sizeOf213⟩
instance : CG 213 false := ⟨Tryd.isAgg213⟩
instance : CZ 213 (Go.Value.nilFunc) := ⟨Tryd.zeroValue213⟩
instance : CU 214 (Go.TypeDesc.func #[185] #[3] false) := ⟨Tryd.underlying214⟩
instance : CS 214 1 := ⟨Tryd.sizeOf214⟩
instance : CG 214 false := ⟨Tryd.isAgg214⟩
instance : CZ 214 (Go.Value.nilFunc) := ⟨Tryd.zeroValue214⟩
instance : CU 215 (Go.TypeDesc.tuple #[187, 76]) := ⟨Tryd.underlying215⟩
instance : CS 215 1 := ⟨Tryd.sizeOf215⟩
instance : CG 215 false := ⟨Tryd.isAgg215⟩
instance : CZ 215 ((Go.Value.tuple #[Go.Value.int Go.IntKind.u64 0, Go.Value.nilIface])) := ⟨Tryd.zeroValue215⟩
instance : CU 216 (Go.TypeDesc.func #[9, 3, 3] #[187, 76] false) := ⟨Tryd.underlying216⟩
instance : CS 216 1 := ⟨Tryd.sizeOf216⟩
instance : CG 216 false := ⟨Tryd.isAgg216⟩
instance : CZ 216 (Go.Value.nilFunc) := ⟨Tryd.zeroValue216⟩
instance : CU 217 (Go.TypeDesc.struct #[Go.Field.mk "Func" 9 0 false "" "" 0, Go.Field.mk "Num" 9 1 false "" "" 16, Go.Field.mk "Err" 76 2 false "" "" 32]) := ⟨Tryd.underlying217⟩
instance : CS 217 3 := ⟨Tryd.sizeOf217⟩
instance : CG 217 true := ⟨Tryd.isAgg217⟩
instance : CZ 217 ((Go.Value.agg #[Go.Value.string (ByteArray.mk #[]), Go.Value.string (ByteArray.mk #[]), Go.Value.nilIface])) := ⟨Tryd.zeroValue217⟩
instance : CF 217 0 0 := ⟨_, _, _, Tryd.underlying217, rfl, Tryd.sizeOf9, rfl⟩
instance : CF 217 1 1 := ⟨_, _, _, Tryd.underlying217, rfl, Tryd.sizeOf9, rfl⟩
instance : CF 217 2 2 := ⟨_, _, _, Tryd.underlying217, rfl, Tryd.sizeOf76, rfl⟩
instance : CU 218 (Go.TypeDesc.struct #[Go.Field.mk "Func" 9 0 false "" "" 0, Go.Field.mk "Num" 9 1 false "" "" 16, Go.Field.mk "Err" 76 2 false "" "" 32]) := ⟨Tryd.underlying218⟩
instance : CS 218 3 := ⟨Tryd.sizeOf218⟩
instance : CG 218 true := ⟨Tryd.isAgg218⟩
instance : CZ 218 ((Go.Value.agg #[Go.Value.string (ByteArray.mk #[]), Go.Value.string (ByteArray.mk #[]), Go.Value.nilIface])) := ⟨Tryd.zeroValue218⟩
instance : CF 218 0 0 := ⟨_, _, _, Tryd.underlying218, rfl, Tryd.sizeOf9, rfl⟩
instance : CF 218 1 1 := ⟨_, _, _, Tryd.underlying218, rfl, Tryd.sizeOf9, rfl⟩
instance : CF 218 2 2 := ⟨_, _, _, Tryd.underlying218, rfl, Tryd.sizeOf76, rfl⟩
instance : CU 219 (Go.TypeDesc.func #[9] #[76] false) := ⟨Tryd.underlying219⟩
instance : CS 219 1 := ⟨Tryd.sizeOf219⟩
instance : CG 219 false := ⟨Tryd.isAgg219⟩
instance : CZ 219 (Go.Value.nilFunc) := ⟨Tryd.zeroValue219⟩
instance : CU 220 (Go.TypeDesc.func #[9, 5] #[3] false) := ⟨Tryd.underlying220⟩
instance : CS 220 1 := ⟨Tryd.sizeOf220⟩
instance : CG 220 false := ⟨Tryd.isAgg220⟩
instance : CZ 220 (Go.Value.nilFunc) := ⟨Tryd.zeroValue220⟩
instance : CU 221 (Go.TypeDesc.func #[5] #[4] false) := ⟨Tryd.underlying221⟩
instance : CS 221 1 := ⟨Tryd.sizeOf221⟩
instance : CG 221 false := ⟨Tryd.isAgg221⟩
instance : CZ 221 (Go.Value.nilFunc) := ⟨Tryd.zeroValue221⟩
instance : CU 222 (Go.TypeDesc.tuple #[21, 3]) := ⟨Tryd.underlying222⟩
instance : CS 222 1 := ⟨Tryd.sizeOf222⟩
instance : CG 222 false := ⟨Tryd.isAgg222⟩
instance : CZ 222 ((Go.Value.tuple #[Go.Value.int Go.IntKind.i32 0, Go.Value.int Go.IntKind.i64 0])) := ⟨Tryd.zeroValue222⟩
instance : CU 223 (Go.TypeDesc.func #[9] #[21, 3] false) := ⟨Tryd.underlying223⟩
instance : CS 223 1 := ⟨Tryd.sizeOf223⟩
instance : CG 223 false := ⟨Tryd.isAgg223⟩
instance : CZ 223 (Go.Value.nilFunc) := ⟨Tryd.zeroValue223⟩
instance : CU 224 (Go.TypeDesc.func #[9, 21] #[4] false) := ⟨Tryd.underlying224⟩
instance : CS 224 1 := ⟨Tryd.sizeOf224⟩
instance : CG 224 false := ⟨Tryd.isAgg224⟩
instance : CZ 224 (Go.Value.nilFunc) := ⟨Tryd.zeroValue224⟩
instance : CU 225 (Go.TypeDesc.func #[211] #[3] false) := ⟨Tryd.underlying225⟩
instance : CS 225 1 := ⟨Tryd.sizeOf225⟩
instance : CG 225 false := ⟨Tryd.isAgg225⟩
instance : CZ 225 (Go.Value.nilFunc) := ⟨Tryd.zeroValue225⟩
instance : CU 226 (Go.TypeDesc.func #[5] #[5] false) := ⟨Tryd.underlying226⟩
instance : CS 226 1 := ⟨Tryd.sizeOf226⟩
instance : CG 226 false := ⟨Tryd.isAgg226⟩
instance : CZ 226 (Go.Value.nilFunc) := ⟨Tryd.zeroValue226⟩
instance : CU 227 (Go.TypeDesc.pointer 229) := ⟨Tryd.underlying227⟩
instance : CS 227 1 := ⟨Tryd.sizeOf227⟩
instance : CG 227 false := ⟨Tryd.isAgg227⟩
instance : CZ 227 ((Go.Value.pointer none)) := ⟨Tryd.zeroValue227⟩
instance : CU 228 (Go.TypeDesc.struct #[Go.Field.mk "s" 9 0 false "" "errors" 0]) := ⟨Tryd.underlying228⟩
instance : CS 228 1 := ⟨Tryd.sizeOf228⟩
instance : CG 228 true := ⟨Tryd.isAgg228⟩
instance : CZ 228 ((Go.Value.agg #[Go.Value.string (ByteArray.mk #[])])) := ⟨Tryd.zeroValue228⟩
instance : CF 228 0 0 := ⟨_, _, _, Tryd.underlying228, rfl, Tryd.sizeOf9, rfl⟩
instance : CU 229 (Go.TypeDesc.struct #[Go.Field.mk "s" 9 0 false "" "errors" 0]) := ⟨Tryd.underlying229⟩
instance : CS 229 1 := ⟨Tryd.sizeOf229⟩
instance : CG 229 true := ⟨Tryd.isAgg229⟩
instance : CZ 229 ((Go.Value.agg #[Go.Value.string (ByteArray.mk #[])])) := ⟨Tryd.zeroValue229⟩
instance : CF 229 0 0 := ⟨_, _, _, Tryd.underlying229, rfl, Tryd.sizeOf9, rfl⟩
instance : CU 230 (Go.TypeDesc.tuple #[211, 211]) := ⟨Tryd.underlying230⟩
instance : CS 230 1 := ⟨Tryd.sizeOf230⟩
instance : CG 230 false := ⟨Tryd.isAgg230⟩
instance : CZ 230 ((Go.Value.tuple #[Go.Value.int Go.IntKind.u32 0, Go.Value.int Go.IntKind.u32 0])) := ⟨Tryd.zeroValue230⟩
instance : CU 231 (Go.TypeDesc.func #[9] #[211, 211] false) := ⟨Tryd.underlying231⟩
instance : CS 231 1 := ⟨Tryd.sizeOf231⟩
instance : CG 231 false := ⟨Tryd.isAgg231⟩
instance : CZ 231 (Go.Value.nilFunc) := ⟨Tryd.zeroValue231⟩
instance : CU 232 (Go.TypeDesc.func #[9, 21] #[3] false) := ⟨Tryd.underlying232⟩
instance : CS 232 1 := ⟨Tryd.sizeOf232⟩
instance : CG 232 false := ⟨Tryd.isAgg232⟩
instance : CZ 232 (Go.Value.nilFunc) := ⟨Tryd.zeroValue232⟩
instance : CU 233 (Go.TypeDesc.array 32 5) := ⟨Tryd.underlying233⟩
instance : CS 233 32 := ⟨Tryd.sizeOf233⟩
instance : CG 233 true := ⟨Tryd.isAgg233⟩
instance : CZ 233 ((Go.Value.agg #[Go.Value.int Go.IntKind.u8 0, Go.Value.int Go.IntKind.u8 0, Go.Value.int Go.IntKind.u8 0, Go.Value.int Go.IntKind.u8 0, Go.Value.int Go.IntKind.u8 0, Go.Value.int Go.IntKind.u8 0, Go.Value.int Go.IntKind.u8 0, Go.Value.int Go.IntKind.u8 0, Go.Value.int Go.IntKind.u8 0, Go.Value.int Go.IntKind.u8 0, Go.Value.int Go.IntKind.u8 0, Go.Value.int Go.IntKind.u8 0, Go.Value.int Go.IntKind.u8 0, Go.Value.int Go.IntKind.u8 0, Go.Value.int Go.IntKind.u8 0, Go.Value.int Go.IntKind.u8 0, Go.Value.int Go.IntKind.u8 0, Go.Value.int Go.IntKind.u8 0, Go.Value.int Go.IntKind.u8 0, Go.Value.int Go.IntKind.u8 0, Go.Value.int Go.IntKind.u8 0, Go.Value.int Go.IntKind.u8 0, Go.Value.int Go.IntKind.u8 0, Go.Value.int Go.IntKind.u8 0, Go.Value.int Go.IntKind.u8 0, Go.Value.int Go.IntKind.u8 0, Go.Value.int Go.IntKind.u8 0, Go.Value.int Go.IntKind.u8 0, Go.Value.int Go.IntKind.u8 0, Go.Value.int Go.IntKind.u8 0, Go.Value.int Go.IntKind.u8 0, Go.Value.int Go.IntKind.u8 0])) := ⟨Tryd.zeroValue233⟩
instance : CU 234 (Go.TypeDesc.array 64 5) := ⟨Tryd.underlying234⟩
instance : CS 234 64 := ⟨Tryd.sizeOf234⟩
instance : CG 234 true := ⟨Tryd.isAgg234⟩
instance : CZ 234 ((Go.Value.agg #[Go.Value.int Go.IntKind.u8 0, Go.Value.int Go.IntKind.u8 0, Go.Value.int Go.IntKind.u8 0, Go.Value.int Go.IntKind.u8 0, Go.Value.int Go.IntKind.u8 0, Go.Value.int Go.IntKind.u8 0, Go.Value.int Go.IntKind.u8 0, Go.Value.int Go.IntKind.u8 0, Go.Value.int Go.IntKind.u8 0, Go.Value.int Go.IntKind.u8 0, Go.Value.int Go.IntKind.u8 0, Go.Value.int Go.IntKind.u8 0, Go.Value.int Go.IntKind.u8 0, Go.Value.int Go.IntKind.u8 0, Go.Value.int Go.IntKind.u8 0, Go.Value.int Go.IntKind.u8 0, Go.Value.int Go.IntKind.u8 0, Go.Value.int Go.IntKind.u8 0, Go.Value.int Go.IntKind.u8 0, Go.Value.int Go.IntKind.u8 0, Go.Value.int Go.IntKind.u8 0, Go.Value.int Go.IntKind.u8 0, Go.Value.int Go.IntKind.u8 0, Go.Value.int Go.IntKind.u8 0, Go.Value.int Go.IntKind.u8 0, Go.Value.int Go.IntKind.u8 0, Go.Value.int Go.IntKind.u8 0, Go.Value.int Go.IntKind.u8 0, Go.Value.int Go.IntKind.u8 0, Go.Value.int Go.IntKind.u8 0, Go.Value.int Go.IntKind.u8 0, Go.Value.int Go.IntKind.u8 0, Go.Value.int Go.IntKind.u8 0, Go.Value.int Go.IntKind.u8 0, Go.Value.int Go.IntKind.u8 0, Go.Value.int Go.IntKind.u8 0, Go.Value.int Go.IntKind.u8 0, Go.Value.int Go.IntKind.u8 0, Go.Value.int Go.IntKind.u8 0, Go.Value.int Go.IntKind.u8 0, Go.Value.int Go.IntKind.u8 0, Go.Value.int Go.IntKind.u8 0, Go.Value.int Go.IntKind.u8 0, Go.Value.int Go.IntKind.u8 0, Go.Value.int Go.IntKind.u8 0, Go.Value.int Go.IntKind.u8 0, Go.Value.int Go.IntKind.u8 0, Go.Value.int Go.IntKind.u8 0, Go.Value.int Go.IntKind.u8 0, Go.Value.int Go.IntKind.u8 0, Go.Value.int Go.IntKind.u8 0, Go.Value.int Go.IntKind.u8 0, Go.Value.int Go.IntKind.u8 0, Go.Value.int Go.IntKind.u8 0, Go.Value.int Go.IntKind.u8 0, Go.Value.int Go.IntKind.u8 0, Go.Value.int Go.IntKind.u8 0, Go.Value.int Go.IntKind.u8 0, Go.Value.int Go.IntKind.u8 0, Go.Value.int Go.IntKind.u8 0, Go.Value.int Go.IntKind.u8 0, Go.Value.int Go.IntKind.u8 0, Go.Value.int Go.IntKind.u8 0, Go.Value.int Go.IntKind.u8 0])) := ⟨Tryd.zeroValue234⟩
instance : CU 235 (Go.TypeDesc.struct #[Go.Field.mk "_interface" 17 0 false "" "runtime" 0, Go.Field.mk "concrete" 17 1 false "" "runtime" 8, Go.Field.mk "asserted" 17 2 false "" "runtime" 16, Go.Field.mk "missingMethod" 9 3 false "" "runtime" 24]) := ⟨Tryd.underlying235⟩
instance : CS 235 4 := ⟨Tryd.sizeOf235⟩
instance : CG 235 true := ⟨Tryd.isAgg235⟩
instance : CZ 235 ((Go.Value.agg #[Go.Value.pointer none, Go.Value.pointer none, Go.Value.pointer none, Go.Value.string (ByteArray.mk #[])])) := ⟨Tryd.zeroValue235⟩
instance : CF 235 0 0 := ⟨_, _, _, Tryd.underlying235, rfl, Tryd.sizeOf17, rfl⟩
instance : CF 235 1 1 := ⟨_, _, _, Tryd.underlying235, rfl, Tryd.sizeOf17, rfl⟩
instance : CF 235 2 2 := ⟨_, _, _, Tryd.underlying235, rfl, Tryd.sizeOf17, rfl⟩
instance : CF 235 3 3 := ⟨_, _, _, Tryd.underlying235, rfl, Tryd.sizeOf9, rfl⟩
instance : CU 236 (Go.TypeDesc.struct #[Go.Field.mk "_interface" 17 0 false "" "runtime" 0, Go.Field.mk "concrete" 17 1 false "" "runtime" 8, Go.Field.mk "asserted" 17 2 false "" "runtime" 16, Go.Field.mk "missingMethod" 9 3 false "" "runtime" 24]) := ⟨Tryd.underlying236⟩
instance : CS 236 4 := ⟨Tryd.sizeOf236⟩
instance : CG 236 true := ⟨Tryd.isAgg236⟩
instance : CZ 236 ((Go.Value.agg #[Go.Value.pointer none, Go.Value.pointer none, Go.Value.pointer none, Go.Value.string (ByteArray.mk #[])])) := ⟨Tryd.zeroValue236⟩
instance : CF 236 0 0 := ⟨_, _, _, Tryd.underlying236, rfl, Tryd.sizeOf17, rfl⟩
instance : CF 236 1 1 := ⟨_, _, _, Tryd.underlying236, rfl, Tryd.sizeOf17, rfl⟩
instance : CF 236 2 2 := ⟨_, _, _, Tryd.underlying236, rfl, Tryd.sizeOf17, rfl⟩
instance : CF 236 3 3 := ⟨_, _, _, Tryd.underlying236, rfl, Tryd.sizeOf9, rfl⟩
instance : CU 237 (Go.TypeDesc.array 0 16) := ⟨Tryd.underlying237⟩
instance : CS 237 0 := ⟨Tryd.sizeOf237⟩
instance : CG 237 true := ⟨Tryd.isAgg237⟩
instance : CZ 237 ((Go.Value.agg #[])) := ⟨Tryd.zeroValue237⟩
instance : CU 238 (Go.TypeDesc.struct #[Go.Field.mk "_" 237 0 false "" "runtime" 0]) := ⟨Tryd.underlying238⟩
instance : CS 238 0 := ⟨Tryd.sizeOf238⟩
instance : CG 238 true := ⟨Tryd.isAgg238⟩
instance : CZ 238 ((Go.Value.agg #[])) := ⟨Tryd.zeroValue238⟩
instance : CU 239 (Go.TypeDesc.struct #[Go.Field.mk "_" 237 0 false "" "runtime" 0]) := ⟨Tryd.underlying239⟩
instance : CS 239 0 := ⟨Tryd.sizeOf239⟩
instance : CG 239 true := ⟨Tryd.isAgg239⟩
instance : CZ 239 ((Go.Value.agg #[])) := ⟨Tryd.zeroValue239⟩
instance : CU 240 (Go.TypeDesc.int Go.IntKind.u8) := ⟨Tryd.underlying240⟩
instance : CS 240 1 := ⟨Tryd.sizeOf240⟩
instance : CG 240 false := ⟨Tryd.isAgg240⟩
instance : CZ 240 ((Go.Value.int Go.IntKind.u8 0)) := ⟨Tryd.zeroValue240⟩
instance : CU 241 (Go.TypeDesc.int Go.IntKind.u8) := ⟨Tryd.underlying241⟩
instance : CS 241 1 := ⟨Tryd.sizeOf241⟩
instance : CG 241 false := ⟨Tryd.isAgg241⟩
instance : CZ 241 ((Go.Value.int Go.IntKind.u8 0)) := ⟨Tryd.zeroValue241⟩
instance : CU 242 (Go.TypeDesc.func #[151, 151] #[4] false) := ⟨Tryd.underlying242⟩
instance : CS 242 1 := ⟨Tryd.sizeOf242⟩
instance : CG 242 false := ⟨Tryd.isAgg242⟩
instance : CZ 242 (Go.Value.nilFunc) := ⟨Tryd.zeroValue242⟩
instance : CU 243 (Go.TypeDesc.int Go.IntKind.i32) := ⟨Tryd.underlying243⟩
instance : CS 243 1 := ⟨Tryd.sizeOf243⟩
instance : CG 243 false := ⟨Tryd.isAgg243⟩
instance : CZ 243 ((Go.Value.int Go.IntKind.i32 0)) := ⟨Tryd.zeroValue243⟩
instance : CU 244 (Go.TypeDesc.int Go.IntKind.i32) := ⟨Tryd.underlying244⟩
instance : CS 244 1 := ⟨Tryd.sizeOf244⟩
instance : CG 244 false := ⟨Tryd.isAgg244⟩
instance : CZ 244 ((Go.Value.int Go.IntKind.i32 0)) := ⟨Tryd.zeroValue244⟩
instance : CU 245 (Go.TypeDesc.struct #[Go.Field.mk "Size_" 12 0 false "" "" 0, Go.Field.mk "PtrBytes" 12 1 false "" "" 8, Go.Field.mk "Hash" 211 2 false "" "" 16, Go.Field.mk "TFlag" 240 3 false "" "" 20, Go.Field.mk "Align_" 5 4 false "" "" 21, Go.Field.mk "FieldAlign_" 5 5 false "" "" 22, Go.Field.mk "Kind_" 241 6 false "" "" 23, Go.Field.mk "Equal" 242 7 false "" "" 24, Go.Field.mk "GCData" 135 8 false "" "" 32, Go.Field.mk "Str" 243 9 false "" "" 40, Go.Field.mk "PtrToThis" 244 10 false "" "" 44]) := ⟨Tryd.underlying245⟩
instance : CS 245 11 := ⟨Tryd.sizeOf245⟩
instance : CG 245 true := ⟨Tryd.isAgg245⟩
instance : CZ 245 ((Go.Value.agg #[Go.Value.int Go.IntKind.u64 0, Go.Value.int Go.IntKind.u64 0, Go.Value.int Go.IntKind.u32 0, Go.Value.int Go.IntKind.u8 0, Go.Value.int Go.IntKind.u8 0, Go.Value.int Go.IntKind.u8 0, Go.Value.int Go.IntKind.u8 0, Go.Value.nilFunc, Go.Value.pointer none, Go.Value.int Go.IntKind.i32 0, Go.Value.int Go.IntKind.i32 0])) := ⟨Tryd.zeroValue245⟩
instance : CF 245 0 0 := ⟨_, _, _, Tryd.underlying245, rfl, Tryd.sizeOf12, rfl⟩
instance : CF 245 1 1 := ⟨_, _, _, Tryd.underlying245, rfl, Tryd.sizeOf12, rfl⟩
instance : CF 245 2 2 := ⟨_, _, _, Tryd.underlying245, rfl, Tryd.sizeOf211, rfl⟩
instance : CF 245 3 3 := ⟨_, _, _, Tryd.underlying245, rfl, Tryd.sizeOf240, rfl⟩
instance : CF 245 4 4 := ⟨_, _, _, Tryd.underlying245, rfl, Tryd.sizeOf5, rfl⟩
instance : CF 245 5 5 := ⟨_, _, _, Tryd.underlying245, rfl, Tryd.sizeOf5, rfl⟩
instance : CF 245 6 6 := ⟨_, _, _, Tryd.underlying245, rfl, Tryd.sizeOf241, rfl⟩
instance : CF 245 7 7 := ⟨_, _, _, Tryd.underlying245, rfl, Tryd.sizeOf242, rfl⟩
instance : CF 245 8 8 := ⟨_, _, _, Tryd.underlying245, rfl, Tryd.sizeOf135, rfl⟩
instance : CF 245 9 9 := ⟨_, _, _, Tryd.underlying245, rfl, Tryd.sizeOf243, rfl⟩
instance : CF 245 10 10 := ⟨_, _, _, Tryd.underlying245, rfl, Tryd.sizeOf244, rfl⟩
instance : CU 246 (Go.TypeDesc.struct #[Go.Field.mk "Size_" 12 0 false "" "" 0, Go.Field.mk "PtrBytes" 12 1 false "" "" 8, Go.Field.mk "Hash" 211 2 false "" "" 16, Go.Field.mk "TFlag" 240 3 false "" "" 20, Go.Field.mk "Align_" 5 4 false "" "" 21, Go.Field.mk "FieldAlign_" 5 5 false "" "" 22, Go.Field.mk "Kind_" 241 6 false "" "" 23, Go.Field.mk "Equal" 242 7 false "" "" 24, Go.Field.mk "GCData" 135 8 false "" "" 32, Go.Field.mk "Str" 243 9 false "" "" 40, Go.Field.mk "PtrToThis" 244 10 false "" "" 44]) := ⟨Tryd.underlying246⟩
instance : CS 246 11 := ⟨Tryd.sizeOf246⟩
instance : CG 246 true := ⟨Tryd.isAgg246⟩
instance : CZ 246 ((Go.Value.agg #[Go.Value.int Go.IntKind.u64 0, Go.Value.int Go.IntKind.u64 0, Go.Value.int Go.IntKind.u32 0, Go.Value.int Go.IntKind.u8 0, Go.Value.int Go.IntKind.u8 0, Go.Value.int Go.IntKind.u8 0, Go.Value.int Go.IntKind.u8 0, Go.Value.nilFunc, Go.Value.pointer none, Go.Value.int Go.IntKind.i32 0, Go.Value.int Go.IntKind.i32 0])) := ⟨Tryd.zeroValue246⟩
instance : CF 246 0 0 := ⟨_, _, _, Tryd.underlying246, rfl, Tryd.sizeOf12, rfl⟩
instance : CF 246 1 1 := ⟨_, _, _, Tryd.underlying246, rfl, Tryd.sizeOf12, rfl⟩
instance : CF 246 2 2 := ⟨_, _, _, Tryd.underlying246, rfl, Tryd.sizeOf211, rfl⟩
instance : CF 246 3 3 := ⟨_, _, _, Tryd.underlying246, rfl, Tryd.sizeOf240, rfl⟩
instance : CF 246 4 4 := ⟨_, _, _, Tryd.underlying246, rfl, Tryd.sizeOf5, rfl⟩
instance : CF 246 5 5 := ⟨_, _, _, Tryd.underlying246, rfl, Tryd.sizeOf5, rfl⟩
instance : CF 246 6 6 := ⟨_, _, _, Tryd.underlying246, rfl, Tryd.sizeOf241, rfl⟩
instance : CF 246 7 7 := ⟨_, _, _, Tryd.underlying246, rfl, Tryd.sizeOf242, rfl⟩
instance : CF 246 8 8 := ⟨_, _, _, Tryd.underlying246, rfl, Tryd.sizeOf135, rfl⟩
instance : CF 246 9 9 := ⟨_, _, _, Tryd.underlying246, rfl, Tryd.sizeOf243, rfl⟩
instance : CF 246 10 10 := ⟨_, _, _, Tryd.underlying246, rfl, Tryd.sizeOf244, rfl⟩
theorem Tryd_ent2 : ∀ args w, (callFunc 2 args).run Tryd.prog w = .ok (.enter 2 args) w := enters_of Tryd.func2 (by kernel_rfl) rfl
instance : CN 2 := ⟨Tryd_ent2⟩
theorem Tryd_ent3 : ∀ args w, (callFunc 3 args).run Tryd.prog w = .ok (.enter 3 args) w := enters_of Tryd.func3 (by kernel_rfl) rfl
instance : CN 3 := ⟨Tryd_ent3⟩
theorem Tryd_ent4 : ∀ args w, (callFunc 4 args).run Tryd.prog w = .ok (.enter 4 args) w := enters_of Tryd.func4 (by kernel_rfl) rfl
instance : CN 4 := ⟨Tryd_ent4⟩
theorem Tryd_ent5 : ∀ args w, (callFunc 5 args).run Tryd.prog w = .ok (.enter 5 args) w := enters_of Tryd.func5 (by kernel_rfl) rfl
instance : CN 5 := ⟨Tryd_ent5⟩
theorem Tryd_ent6 : ∀ args w, (callFunc 6 args).run Tryd.prog w = .ok (.enter 6 args) w := enters_of Tryd.func6 (by kernel_rfl) rfl
instance : CN 6 := ⟨Tryd_ent6⟩
theorem Tryd_ent7 : ∀ args w, (callFunc 7 args).run Tryd.prog w = .ok (.enter 7 args) w := enters_of Tryd.func7 (by kernel_rfl) rfl
instance : CN 7 := ⟨Tryd_ent7⟩
theorem Tryd_ent8 : ∀ args w, (callFunc 8 args).run Tryd.prog w = .ok (.enter 8 args) w := enters_of Tryd.func8 (by kernel_rfl) rfl
instance : CN 8 := ⟨Tryd_ent8⟩
theorem Tryd_ent9 : ∀ args w, (callFunc 9 args).run Tryd.prog w = .ok (.enter 9 args) w := enters_of Tryd.func9 (by kernel_rfl) rfl
instance : CN 9 := ⟨Tryd_ent9⟩
theorem Tryd_ent10 : ∀ args w, (callFunc 10 args).run Tryd.prog w = .ok (.enter 10 args) w := enters_of Tryd.func10 (by kernel_rfl) rfl
instance : CN 10 := ⟨Tryd_ent10⟩
theorem Tryd_ent11 : ∀ args w, (callFunc 11 args).run Tryd.prog w = .ok (.enter 11 args) w := enters_of Tryd.func11 (by kernel_rfl) rfl
instance : CN 11 := ⟨Tryd_ent11⟩
theorem Tryd_ent12 : ∀ args w, (callFunc 12 args).run Tryd.prog w = .ok (.enter 12 args) w := enters_of Tryd.func12 (by kernel_rfl) rfl
instance : CN 12 := ⟨Tryd_ent12⟩
theorem Tryd_ent13 : ∀ args w, (callFunc 13 args).run Tryd.prog w = .ok (.enter 13 args) w := enters_of Tryd.func13 (by kernel_rfl) rfl
instance : CN 13 := ⟨Tryd_ent13⟩
theorem Tryd_ent14 : ∀ args w, (callFunc 14 args).run Tryd.prog w = .ok (.enter 14 args) w := enters_of Tryd.func14 (by kernel_rfl) rfl
instance : CN 14 := ⟨Tryd_ent14⟩
theorem Tryd_ent15 : ∀ args w, (callFunc 15 args).run Tryd.prog w = .ok (.enter 15 args) w := enters_of Tryd.func15 (by kernel_rfl) rfl
instance : CN 15 := ⟨Tryd_ent15⟩
theorem Tryd_ent16 : ∀ args w, (callFunc 16 args).run Tryd.prog w = .ok (.enter 16 args) w := enters_of Tryd.func16 (by kernel_rfl) rfl
instance : CN 16 := ⟨Tryd_ent16⟩
theorem Tryd_ent17 : ∀ args w, (callFunc 17 args).run Tryd.prog w = .ok (.enter 17 args) w := enters_of Tryd.func17 (by kernel_rfl) rfl
instance : CN 17 := ⟨Tryd_ent17⟩
theorem Tryd_ent18 : ∀ args w, (callFunc 18 args).run Tryd.prog w = .ok (.enter 18 args) w := enters_of Tryd.func18 (by kernel_rfl) rfl
instance : CN 18 := ⟨Tryd_ent18⟩
theorem Tryd_ent19 : ∀ args w, (callFunc 19 args).run Tryd.prog w = .ok (.enter 19 args) w := enters_of Tryd.func19 (by kernel_rfl) rfl
instance : CN 19 := ⟨Tryd_ent19⟩
theorem Tryd_ent20 : ∀ args w, (callFunc 20 args).run Tryd.prog w = .ok (.enter 20 args) w := enters_of Tryd.func20 (by kernel_rfl) rfl
instance : CN 20 := ⟨Tryd_ent20⟩
theorem Tryd_ent21 : ∀ args w, (callFunc 21 args).run Tryd.prog w = .ok (.enter 21 args) w := enters_of Tryd.func21 (by kernel_rfl) rfl
instance : CN 21 := ⟨Tryd_ent21⟩
theorem Tryd_ent22 : ∀ args w, (callFunc 22 args).run Tryd.prog w = .ok (.enter 22 args) w := enters_of Tryd.func22 (by kernel_rfl) rfl
instance : CN 22 := ⟨Tryd_ent22⟩
theorem Tryd_ent23 : ∀ args w, (callFunc 23 args).run Tryd.prog w = .ok (.enter 23 args) w := enters_of Tryd.func23 (by kernel_rfl) rfl
instance : CN 23 := ⟨Tryd_ent23⟩
theorem Tryd_ent24 : ∀ args w, (callFunc 24 args).run Tryd.prog w = .ok (.enter 24 args) w := enters_of Tryd.func24 (by kernel_rfl) rfl
instance : CN 24 := ⟨Tryd_ent24⟩
theorem Tryd_ent25 : ∀ args w, (callFunc 25 args).run Tryd.prog w = .ok (.enter 25 args) w := enters_of Tryd.func25 (by kernel_rfl) rfl
instance : CN 25 := ⟨Tryd_ent25⟩
theorem Tryd_ent26 : ∀ args w, (callFunc 26 args).run Tryd.prog w = .ok (.enter 26 args) w := enters_of Tryd.func26 (by kernel_rfl) rfl
instance : CN 26 := ⟨Tryd_ent26⟩
theorem Tryd_ent27 : ∀ args w, (callFunc 27 args).run Tryd.prog w = .ok (.enter 27 args) w := enters_of Tryd.func27 (by kernel_rfl) rfl
instance : CN 27 := ⟨Tryd_ent27⟩
theorem Tryd_ent28 : ∀ args w, (callFunc 28 args).run Tryd.prog w = .ok (.enter 28 args) w := enters_of Tryd.func28 (by kernel_rfl) rfl
instance : CN 28 := ⟨Tryd_ent28⟩
theorem Tryd_ent29 : ∀ args w, (callFunc 29 args).run Tryd.prog w = .ok (.enter 29 args) w := enters_of Tryd.func29 (by kernel_rfl) rfl
instance : CN 29 := ⟨Tryd_ent29⟩
theorem Tryd_ent30 : ∀ args w, (callFunc 30 args).run Tryd.prog w = .ok (.enter 30 args) w := enters_of Tryd.func30 (by kernel_rfl) rfl
instance : CN 30 := ⟨Tryd_ent30⟩
theorem Tryd_ent31 : ∀ args w, (callFunc 31 args).run Tryd.prog w = .ok (.enter 31 args) w := enters_of Tryd.func31 (by kernel_rfl) rfl
instance : CN 31 := ⟨Tryd_ent31⟩
theorem Tryd_ent32 : ∀ args w, (callFunc 32 args).run Tryd.prog w = .ok (.enter 32 args) w := enters_of Tryd.func32 (by kernel_rfl) rfl
instance : CN 32 := ⟨Tryd_ent32⟩
theorem Tryd_ent33 : ∀ args w, (callFunc 33 args).run Tryd.prog w = .ok (.enter 33 args) w := enters_of Tryd.func33 (by kernel_rfl) rfl
instance : CN 33 := ⟨Tryd_ent33⟩
theorem Tryd_ent34 : ∀ args w, (callFunc 34 args).run Tryd.prog w = .ok (.enter 34 args) w := enters_of Tryd.func34 (by kernel_rfl) rfl
instance : CN 34 := ⟨Tryd_ent34⟩
theorem Tryd_ent35 : ∀ args w, (callFunc 35 args).run Tryd.prog w = .ok (.enter 35 args) w := enters_of Tryd.func35 (by kernel_rfl) rfl
instance : CN 35 := ⟨Tryd_ent35⟩
theorem Tryd_ent36 : ∀ args w, (callFunc 36 args).run Tryd.prog w = .ok (.enter 36 args) w := enters_of Tryd.func36 (by kernel_rfl) rfl
instance : CN 36 := ⟨Tryd_ent36⟩
theorem Tryd_ent37 : ∀ args w, (callFunc 37 args).run Tryd.prog w = .ok (.enter 37 args) w := enters_of Tryd.func37 (by kernel_rfl) rfl
instance : CN 37 := ⟨Tryd_ent37⟩
theorem Tryd_ent38 : ∀ args w, (callFunc 38 args).run Tryd.prog w = .ok (.enter 38 args) w := enters_of Tryd.func38 (by kernel_rfl) rfl
instance : CN 38 := ⟨Tryd_ent38⟩
theorem Tryd_ent39 : ∀ args w, (callFunc 39 args).run Tryd.prog w = .ok (.enter 39 args) w := enters_of Tryd.func39 (by kernel_rfl) rfl
instance : CN 39 := ⟨Tryd_ent39⟩
theorem Tryd_ent40 : ∀ args w, (callFunc 40 args).run Tryd.prog w = .ok (.enter 40 args) w := enters_of Tryd.func40 (by kernel_rfl) rfl
instance : CN 40 := ⟨Tryd_ent40⟩
theorem Tryd_ent41 : ∀ args w, (callFunc 41 args).run Tryd.prog w = .ok (.enter 41 args) w := enters_of Tryd.func41 (by kernel_rfl) rfl
instance : CN 41 := ⟨Tryd_ent41⟩
theorem Tryd_ent42 : ∀ args w, (callFunc 42 args).run Tryd.prog w = .ok (.enter 42 args) w := enters_of Tryd.func42 (by kernel_rfl) rfl
instance : CN 42 := ⟨Tryd_ent42⟩
theorem Tryd_ent43 : ∀ args w, (callFunc 43 args).run Tryd.prog w = .ok (.enter 43 args) w := enters_of Tryd.func43 (by kernel_rfl) rfl
instance : CN 43 := ⟨Tryd_ent43⟩
theorem Tryd_ent44 : ∀ args w, (callFunc 44 args).run Tryd.prog w = .ok (.enter 44 args) w := enters_of Tryd.func44 (by kernel_rfl) rfl
instance : CN 44 := ⟨Tryd_ent44⟩
theorem Tryd_ent45 : ∀ args w, (callFunc 45 args).run Tryd.prog w = .ok (.enter 45 args) w := enters_of Tryd.func45 (by kernel_rfl) rfl
instance : CN 45 := ⟨Tryd_ent45⟩
theorem Tryd_ent46 : ∀ args w, (callFunc 46 args).run Tryd.prog w = .ok (.enter 46 args) w := enters_of Tryd.func46 (by kernel_rfl) rfl
instance : CN 46 := ⟨Tryd_ent46⟩
theorem Tryd_ent47 : ∀ args w, (callFunc 47 args).run Tryd.prog w = .ok (.enter 47 args) w := enters_of Tryd.func47 (by kernel_rfl) rfl
instance : CN 47 := ⟨Tryd_ent47⟩
theorem Tryd_ent48 : ∀ args w, (callFunc 48 args).run Tryd.prog w = .ok (.enter 48 args) w := enters_of Tryd.func48 (by kernel_rfl) rfl
instance : CN 48 := ⟨Tryd_ent48⟩
theorem Tryd_ent49 : ∀ args w, (callFunc 49 args).run Tryd.prog w = .ok (.enter 49 args) w := enters_of Tryd.func49 (by kernel_rfl) rfl
instance : CN 49 := ⟨Tryd_ent49⟩
theorem Tryd_ent50 : ∀ args w, (callFunc 50 args).run Tryd.prog w = .ok (.enter 50 args) w := enters_of Tryd.func50 (by kernel_rfl) rfl
instance : CN 50 := ⟨Tryd_ent50⟩
theorem Tryd_ent51 : ∀ args w, (callFunc 51 args).run Tryd.prog w = .ok (.enter 51 args) w := enters_of Tryd.func51 (by kernel_rfl) rfl
instance : CN 51 := ⟨Tryd_ent51⟩
theorem Tryd_ent52 : ∀ args w, (callFunc 52 args).run Tryd.prog w = .ok (.enter 52 args) w := enters_of Tryd.func52 (by kernel_rfl) rfl
instance : CN 52 := ⟨Tryd_ent52⟩
theorem Tryd_ent53 : ∀ args w, (callFunc 53 args).run Tryd.prog w = .ok (.enter 53 args) w := enters_of Tryd.func53 (by kernel_rfl) rfl
instance : CN 53 := ⟨Tryd_ent53⟩
theorem Tryd_ent54 : ∀ args w, (callFunc 54 args).run Tryd.prog w = .ok (.enter 54 args) w := enters_of Tryd.func54 (by kernel_rfl) rfl
instance : CN 54 := ⟨Tryd_ent54⟩
theorem Tryd_ent55 : ∀ args w, (callFunc 55 args).run Tryd.prog w = .ok (.enter 55 args) w := enters_of Tryd.func55 (by kernel_rfl) rfl
instance : CN 55 := ⟨Tryd_ent55⟩
theorem Tryd_ent56 : ∀ args w, (callFunc 56 args).run Tryd.prog w = .ok (.enter 56 args) w := enters_of Tryd.func56 (by kernel_rfl) rfl
instance : CN 56 := ⟨Tryd_ent56⟩
theorem Tryd_ent57 : ∀ args w, (callFunc 57 args).run Tryd.prog w = .ok (.enter 57 args) w := enters_of Tryd.func57 (by kernel_rfl) rfl
instance : CN 57 := ⟨Tryd_ent57⟩
theorem Tryd_ent58 : ∀ args w, (callFunc 58 args).run Tryd.prog w = .ok (.enter 58 args) w := enters_of Tryd.func58 (by kernel_rfl) rfl
instance : CN 58 := ⟨Tryd_ent58⟩
theorem Tryd_ent59 : ∀ args w, (callFunc 59 args).run Tryd.prog w = .ok (.enter 59 args) w := enters_of Tryd.func59 (by kernel_rfl) rfl
instance : CN 59 := ⟨Tryd_ent59⟩
theorem Tryd_ent60 : ∀ args w, (callFunc 60 args).run Tryd.prog w = .ok (.enter 60 args) w := enters_of Tryd.func60 (by kernel_rfl) rfl
instance : CN 60 := ⟨Tryd_ent60⟩
theorem Tryd_ent61 : ∀ args w, (callFunc 61 args).run Tryd.prog w = .ok (.enter 61 args) w := enters_of Tryd.func61 (by kernel_rfl) rfl
instance : CN 61 := ⟨Tryd_ent61⟩
theorem Tryd_ent62 : ∀ args w, (callFunc 62 args).run Tryd.prog w = .ok (.enter 62 args) w := enters_of Tryd.func62 (by kernel_rfl) rfl
instance : CN 62 := ⟨Tryd_ent62⟩
theorem Tryd_ent63 : ∀ args w, (callFunc 63 args).run Tryd.prog w = .ok (.enter 63 args) w := enters_of Tryd.func63 (by kernel_rfl) rfl
instance : CN 63 := ⟨Tryd_ent63⟩
theorem Tryd_ent64 : ∀ args w, (callFunc 64 args).run Tryd.prog w = .ok (.enter 64 args) w := enters_of Tryd.func64 (by kernel_rfl) rfl
instance : CN 64 := ⟨Tryd_ent64⟩
theorem Tryd_ent65 : ∀ args w, (callFunc 65 args).run Tryd.prog w = .ok (.enter 65 args) w := enters_of Tryd.func65 (by kernel_rfl) rfl
instance : CN 65 := ⟨Tryd_ent65⟩
theorem Tryd_ent66 : ∀ args w, (callFunc 66 args).run Tryd.prog w = .ok (.enter 66 args) w := enters_of Tryd.func66 (by kernel_rfl) rfl
instance : CN 66 := ⟨Tryd_ent66⟩
theorem Tryd_ent67 : ∀ args w, (callFunc 67 args).run Tryd.prog w = .ok (.enter 67 args) w := enters_of Tryd.func67 (by kernel_rfl) rfl
instance : CN 67 := ⟨Tryd_ent67⟩
theorem Tryd_ent68 : ∀ args w, (callFunc 68 args).run Tryd.prog w = .ok (.enter 68 args) w := enters_of Tryd.func68 (by kernel_rfl) rfl
instance : CN 68 := ⟨Tryd_ent68⟩
theorem Tryd_ent69 : ∀ args w, (callFunc 69 args).run Tryd.prog w = .ok (.enter 69 args) w := enters_of Tryd.func69 (by kernel_rfl) rfl
instance : CN 69 := ⟨Tryd_ent69⟩
theorem Tryd_ent70 : ∀ args w, (callFunc 70 args).run Tryd.prog w = .ok (.enter 70 args) w := enters_of Tryd.func70 (by kernel_rfl) rfl
instance : CN 70 := ⟨Tryd_ent70⟩
theorem Tryd_ent71 : ∀ args w, (callFunc 71 args).run Tryd.prog w = .ok (.enter 71 args) w := enters_of Tryd.func71 (by kernel_rfl) rfl
instance : CN 71 := ⟨Tryd_ent71⟩
theorem Tryd_ent72 : ∀ args w, (callFunc 72 args).run Tryd.prog w = .ok (.enter 72 args) w := enters_of Tryd.func72 (by kernel_rfl) rfl
instance : CN 72 := ⟨Tryd_ent72⟩
theorem Tryd_ent73 : ∀ args w, (callFunc 73 args).run Tryd.prog w = .ok (.enter 73 args) w := enters_of Tryd.func73 (by kernel_rfl) rfl
instance : CN 73 := ⟨Tryd_ent73⟩
theorem Tryd_ent74 : ∀ args w, (callFunc 74 args).run Tryd.prog w = .ok (.enter 74 args) w := enters_of Tryd.func74 (by kernel_rfl) rfl
instance : CN 74 := ⟨Tryd_ent74⟩
theorem Tryd_ent75 : ∀ args w, (callFunc 75 args).run Tryd.prog w = .ok (.enter 75 args) w := enters_of Tryd.func75 (by kernel_rfl) rfl
instance : CN 75 := ⟨Tryd_ent75⟩
theorem Tryd_ent76 : ∀ args w, (callFunc 76 args).run Tryd.prog w = .ok (.enter 76 args) w := enters_of Tryd.func76 (by kernel_rfl) rfl
instance : CN 76 := ⟨Tryd_ent76⟩
theorem Tryd_ent77 : ∀ args w, (callFunc 77 args).run Tryd.prog w = .ok (.enter 77 args) w := enters_of Tryd.func77 (by kernel_rfl) rfl
instance : CN 77 := ⟨Tryd_ent77⟩
theorem Tryd_ent78 : ∀ args w, (callFunc 78 args).run Tryd.prog w = .ok (.enter 78 args) w := enters_of Tryd.func78 (by kernel_rfl) rfl
instance : CN 78 := ⟨Tryd_ent78⟩
theorem Tryd_ent79 : ∀ args w, (callFunc 79 args).run Tryd.prog w = .ok (.enter 79 args) w := enters_of Tryd.func79 (by kernel_rfl) rfl
instance : CN 79 := ⟨Tryd_ent79⟩
theorem Tryd_ent80 : ∀ args w, (callFunc 80 args).run Tryd.prog w = .ok (.enter 80 args) w := enters_of Tryd.func80 (by kernel_rfl) rfl
instance : CN 80 := ⟨Tryd_ent80⟩
theorem Tryd_ent81 : ∀ args w, (callFunc 81 args).run Tryd.prog w = .ok (.enter 81 args) w := enters_of Tryd.func81 (by kernel_rfl) rfl
instance : CN 81 := ⟨Tryd_ent81⟩
theorem Tryd_ent82 : ∀ args w, (callFunc 82 args).run Tryd.prog w = .ok (.enter 82 args) w := enters_of Tryd.func82 (by kernel_rfl) rfl
instance : CN 82 := ⟨Tryd_ent82⟩
theorem Tryd_ent83 : ∀ args w, (callFunc 83 args).run Tryd.prog w = .ok (.enter 83 args) w := enters_of Tryd.func83 (by kernel_rfl) rfl
instance : CN 83 := ⟨Tryd_ent83⟩
theorem Tryd_ent84 : ∀ args w, (callFunc 84 args).run Tryd.prog w = .ok (.enter 84 args) w := enters_of Tryd.func84 (by kernel_rfl) rfl
instance : CN 84 := ⟨Tryd_ent84⟩
theorem Tryd_ent85 : ∀ args w, (callFunc 85 args).run Tryd.prog w = .ok (.enter 85 args) w := enters_of Tryd.func85 (by kernel_rfl) rfl
instance : CN 85 := ⟨Tryd_ent85⟩
theorem Tryd_ent86 : ∀ args w, (callFunc 86 args).run Tryd.prog w = .ok (.enter 86 args) w := enters_of Tryd.func86 (by kernel_rfl) rfl
instance : CN 86 := ⟨Tryd_ent86⟩
theorem Tryd_ent87 : ∀ args w, (callFunc 87 args).run Tryd.prog w = .ok (.enter 87 args) w := enters_of Tryd.func87 (by kernel_rfl) rfl
instance : CN 87 := ⟨Tryd_ent87⟩
theorem Tryd_ent88 : ∀ args w, (callFunc 88 args).run Tryd.prog w = .ok (.enter 88 args) w := enters_of Tryd.func88 (by kernel_rfl) rfl
instance : CN 88 := ⟨Tryd_ent88⟩
theorem Tryd_ent89 : ∀ args w, (callFunc 89 args).run Tryd.prog w = .ok (.enter 89 args) w := enters_of Tryd.func89 (by kernel_rfl) rfl
instance : CN 89 := ⟨Tryd_ent89⟩
theorem Tryd_ent90 : ∀ args w, (callFunc 90 args).run Tryd.prog w = .ok (.enter 90 args) w := enters_of Tryd.func90 (by kernel_rfl) rfl
instance : CN 90 := ⟨Tryd_ent90⟩
theorem Tryd_ent91 : ∀ args w, (callFunc 91 args).run Tryd.prog w = .ok (.enter 91 args) w := enters_of Tryd.func91 (by kernel_rfl) rfl
instance : CN 91 := ⟨Tryd_ent91⟩
theorem Tryd_ent92 : ∀ args w, (callFunc 92 args).run Tryd.prog w = .ok (.enter 92 args) w := enters_of Tryd.func92 (by kernel_rfl) rfl
instance : CN 92 := ⟨Tryd_ent92⟩
theorem Tryd_ent93 : ∀ args w, (callFunc 93 args).run Tryd.prog w = .ok (.enter 93 args) w := enters_of Tryd.func93 (by kernel_rfl) rfl
instance : CN 93 := ⟨Tryd_ent93⟩
theorem Tryd_ent94 : ∀ args w, (callFunc 94 args).run Tryd.prog w = .ok (.enter 94 args) w := enters_of Tryd.func94 (by kernel_rfl) rfl
instance : CN 94 := ⟨Tryd_ent94⟩
theorem Tryd_ent95 : ∀ args w, (callFunc 95 args).run Tryd.prog w = .ok (.enter 95 args) w := enters_of Tryd.func95 (by kernel_rfl) rfl
instance : CN 95 := ⟨Tryd_ent95⟩
theorem Tryd_ent96 : ∀ args w, (callFunc 96 args).run Tryd.prog w = .ok (.enter 96 args) w := enters_of Tryd.func96 (by kernel_rfl) rfl
instance : CN 96 := ⟨Tryd_ent96⟩
theorem Tryd_ent97 : ∀ args w, (callFunc 97 args).run Tryd.prog w = .ok (.enter 97 args) w := enters_of Tryd.func97 (by kernel_rfl) rfl
instance : CN 97 := ⟨Tryd_ent97⟩
theorem Tryd_ent98 : ∀ args w, (callFunc 98 args).run Tryd.prog w = .ok (.enter 98 args) w := enters_of Tryd.func98 (by kernel_rfl) rfl
instance : CN 98 := ⟨Tryd_ent98⟩
theorem Tryd_ent99 : ∀ args w, (callFunc 99 args).run Tryd.prog w = .ok (.enter 99 args) w := enters_of Tryd.func99 (by kernel_rfl) rfl
instance : CN 99 := ⟨Tryd_ent99⟩
theorem Tryd_ent100 : ∀ args w, (callFunc 100 args).run Tryd.prog w = .ok (.enter 100 args) w := enters_of Tryd.func100 (by kernel_rfl) rfl
instance : CN 100 := ⟨Tryd_ent100⟩
theorem Tryd_ent101 : ∀ args w, (callFunc 101 args).run Tryd.prog w = .ok (.enter 101 args) w := enters_of Tryd.func101 (by kernel_rfl) rfl
instance : CN 101 := ⟨Tryd_ent101⟩
theorem Tryd_ent102 : ∀ args w, (callFunc 102 args).run Tryd.prog w = .ok (.enter 102 args) w := enters_of Tryd.func102 (by kernel_rfl) rfl
instance : CN 102 := ⟨Tryd_ent102⟩
theorem Tryd_ent103 : ∀ args w, (callFunc 103 args).run Tryd.prog w = .ok (.enter 103 args) w := enters_of Tryd.func103 (by kernel_rfl) rfl
instance : CN 103 := ⟨Tryd_ent103⟩
theorem Tryd_ent104 : ∀ args w, (callFunc 104 args).run Tryd.prog w = .ok (.enter 104 args) w := enters_of Tryd.func104 (by kernel_rfl) rfl
instance : CN 104 := ⟨Tryd_ent104⟩
theorem Tryd_ent105 : ∀ args w, (callFunc 105 args).run Tryd.prog w = .ok (.enter 105 args) w := enters_of Tryd.func105 (by kernel_rfl) rfl
instance : CN 105 := ⟨Tryd_ent105⟩
theorem Tryd_ent106 : ∀ args w, (callFunc 106 args).run Tryd.prog w = .ok (.enter 106 args) w := enters_of Tryd.func106 (by kernel_rfl) rfl
instance : CN 106 := ⟨Tryd_ent106⟩
theorem Tryd_ent107 : ∀ args w, (callFunc 107 args).run Tryd.prog w = .ok (.enter 107 args) w := enters_of Tryd.func107 (by kernel_rfl) rfl
instance : CN 107 := ⟨Tryd_ent107⟩
theorem Tryd_ent108 : ∀ args w, (callFunc 108 args).run Tryd.prog w = .ok (.enter 108 args) w := enters_of Tryd.func108 (by kernel_rfl) rfl
instance : CN 108 := ⟨Tryd_ent108⟩
theorem Tryd_ent109 : ∀ args w, (callFunc 109 args).run Tryd.prog w = .ok (.enter 109 args) w := enters_of Tryd.func109 (by kernel_rfl) rfl
instance : CN 109 := ⟨Tryd_ent109⟩
theorem Tryd_ent110 : ∀ args w, (callFunc 110 args).run Tryd.prog w = .ok (.enter 110 args) w := enters_of Tryd.func110 (by kernel_rfl) rfl
instance : CN 110 := ⟨Tryd_ent110⟩
theorem fX (v : Value) : ∀ w, (callFunc 111 #[v]).run Tryd.prog w = .ok (.value v) w := fun w => by
  rw [run_callFunc_extern Tryd.func111 (by kernel_rfl) (by kernel_rfl) (by kernel_rfl) (e := Extern.AbiNoEscape.same) (by kernel_rfl)]
  rfl
theorem Tryd_ent112 : ∀ args w, (callFunc 112 args).run Tryd.prog w = .ok (.enter 112 args) w := enters_of Tryd.func112 (by kernel_rfl) rfl
instance : CN 112 := ⟨Tryd_ent112⟩
theorem Tryd_ent113 : ∀ args w, (callFunc 113 args).run Tryd.prog w = .ok (.enter 113 args) w := enters_of Tryd.func113 (by kernel_rfl) rfl
instance : CN 113 := ⟨Tryd_ent113⟩
theorem Tryd_ent114 : ∀ args w, (callFunc 114 args).run Tryd.prog w = .ok (.enter 114 args) w := enters_of Tryd.func114 (by kernel_rfl) rfl
instance : CN 114 := ⟨Tryd_ent114⟩
theorem Tryd_ent115 : ∀ args w, (callFunc 115 args).run Tryd.prog w = .ok (.enter 115 args) w := enters_of Tryd.func115 (by kernel_rfl) rfl
instance : CN 115 := ⟨Tryd_ent115⟩
theorem Tryd_ent116 : ∀ args w, (callFunc 116 args).run Tryd.prog w = .ok (.enter 116 args) w := enters_of Tryd.func116 (by kernel_rfl) rfl
instance : CN 116 := ⟨Tryd_ent116⟩
theorem Tryd_ent117 : ∀ args w, (callFunc 117 args).run Tryd.prog w = .ok (.enter 117 args) w := enters_of Tryd.func117 (by kernel_rfl) rfl
instance : CN 117 := ⟨Tryd_ent117⟩
theorem Tryd_ent118 : ∀ args w, (callFunc 118 args).run Tryd.prog w = .ok (.enter 118 args) w := enters_of Tryd.func118 (by kernel_rfl) rfl
instance : CN 118 := ⟨Tryd_ent118⟩
theorem Tryd_ent119 : ∀ args w, (callFunc 119 args).run Tryd.prog w = .ok (.enter 119 args) w := enters_of Tryd.func119 (by kernel_rfl) rfl
instance : CN 119 := ⟨Tryd_ent119⟩
theorem Tryd_ent120 : ∀ args w, (callFunc 120 args).run Tryd.prog w = .ok (.enter 120 args) w := enters_of Tryd.func120 (by kernel_rfl) rfl
instance : CN 120 := ⟨Tryd_ent120⟩
theorem Tryd_ent121 : ∀ args w, (callFunc 121 args).run Tryd.prog w = .ok (.enter 121 args) w := enters_of Tryd.func121 (by kernel_rfl) rfl
instance : CN 121 := ⟨Tryd_ent121⟩
theorem Tryd_ent122 : ∀ args w, (callFunc 122 args).run Tryd.prog w = .ok (.enter 122 args) w := enters_of Tryd.func122 (by kernel_rfl) rfl
instance : CN 122 := ⟨Tryd_ent122⟩
theorem Tryd_ent123 : ∀ args w, (callFunc 123 args).run Tryd.prog w = .ok (.enter 123 args) w := enters_of Tryd.func123 (by kernel_rfl) rfl
instance : CN 123 := ⟨Tryd_ent123⟩
theorem Tryd_ent124 : ∀ args w, (callFunc 124 args).run Tryd.prog w = .ok (.enter 124 args) w := enters_of Tryd.func124 (by kernel_rfl) rfl
instance : CN 124 := ⟨Tryd_ent124⟩
theorem Tryd_ent125 : ∀ args w, (callFunc 125 args).run Tryd.prog w = .ok (.enter 125 args) w := enters_of Tryd.func125 (by kernel_rfl) rfl
instance : CN 125 := ⟨Tryd_ent125⟩
theorem Tryd_ent126 : ∀ args w, (callFunc 126 args).run Tryd.prog w = .ok (.enter 126 args) w := enters_of Tryd.func126 (by kernel_rfl) rfl
instance : CN 126 := ⟨Tryd_ent126⟩
theorem Tryd_ent127 : ∀ args w, (callFunc 127 args).run Tryd.prog w = .ok (.enter 127 args) w := enters_of Tryd.func127 (by kernel_rfl) rfl
instance : CN 127 := ⟨Tryd_ent127⟩
theorem Tryd_ent128 : ∀ args w, (callFunc 128 args).run Tryd.prog w = .ok (.enter 128 args) w := enters_of Tryd.func128 (by kernel_rfl) rfl
instance : CN 128 := ⟨Tryd_ent128⟩
theorem Tryd_ent129 : ∀ args w, (callFunc 129 args).run Tryd.prog w = .ok (.enter 129 args) w := enters_of Tryd.func129 (by kernel_rfl) rfl
instance : CN 129 := ⟨Tryd_ent129⟩
theorem Tryd_ent130 : ∀ args w, (callFunc 130 args).run Tryd.prog w = .ok (.enter 130 args) w := enters_of Tryd.func130 (by kernel_rfl) rfl
instance : CN 130 := ⟨Tryd_ent130⟩
theorem Tryd_ent131 : ∀ args w, (callFunc 131 args).run Tryd.prog w = .ok (.enter 131 args) w := enters_of Tryd.func131 (by kernel_rfl) rfl
instance : CN 131 := ⟨Tryd_ent131⟩
theorem Tryd_ent132 : ∀ args w, (callFunc 132 args).run Tryd.prog w = .ok (.enter 132 args) w := enters_of Tryd.func132 (by kernel_rfl) rfl
instance : CN 132 := ⟨Tryd_ent132⟩
theorem Tryd_ent133 : ∀ args w, (callFunc 133 args).run Tryd.prog w = .ok (.enter 133 args) w := enters_of Tryd.func133 (by kernel_rfl) rfl
instance : CN 133 := ⟨Tryd_ent133⟩
theorem Tryd_ent134 : ∀ args w, (callFunc 134 args).run Tryd.prog w = .ok (.enter 134 args) w := enters_of Tryd.func134 (by kernel_rfl) rfl
instance : CN 134 := ⟨Tryd_ent134⟩
theorem Tryd_ent135 : ∀ args w, (callFunc 135 args).run Tryd.prog w = .ok (.enter 135 args) w := enters_of Tryd.func135 (by kernel_rfl) rfl
instance : CN 135 := ⟨Tryd_ent135⟩
theorem Tryd_ent136 : ∀ args w, (callFunc 136 args).run Tryd.prog w = .ok (.enter 136 args) w := enters_of Tryd.func136 (by kernel_rfl) rfl
instance : CN 136 := ⟨Tryd_ent136⟩
theorem Tryd_ent137 : ∀ args w, (callFunc 137 args).run Tryd.prog w = .ok (.enter 137 args) w := enters_of Tryd.func137 (by kernel_rfl) rfl
instance : CN 137 := ⟨Tryd_ent137⟩
theorem Tryd_ent138 : ∀ args w, (callFunc 138 args).run Tryd.prog w = .ok (.enter 138 args) w := enters_of Tryd.func138 (by kernel_rfl) rfl
instance : CN 138 := ⟨Tryd_ent138⟩
theorem Tryd_ent139 : ∀ args w, (callFunc 139 args).run Tryd.prog w = .ok (.enter 139 args) w := enters_of Tryd.func139 (by kernel_rfl) rfl
instance : CN 139 := ⟨Tryd_ent139⟩
theorem Tryd_ent140 : ∀ args w, (callFunc 140 args).run Tryd.prog w = .ok (.enter 140 args) w := enters_of Tryd.func140 (by kernel_rfl) rfl
instance : CN 140 := ⟨Tryd_ent140⟩
theorem Tryd_ent141 : ∀ args w, (callFunc 141 args).run Tryd.prog w = .ok (.enter 141 args) w := enters_of Tryd.func141 (by kernel_rfl) rfl
instance : CN 141 := ⟨Tryd_ent141⟩
theorem Tryd_ent142 : ∀ args w, (callFunc 142 args).run Tryd.prog w = .ok (.enter 142 args) w := enters_of Tryd.func142 (by kernel_rfl) rfl
instance : CN 142 := ⟨Tryd_ent142⟩
theorem Tryd_ent143 : ∀ args w, (callFunc 143 args).run Tryd.prog w = .ok (.enter 143 args) w := enters_of Tryd.func143 (by kernel_rfl) rfl
instance : CN 143 := ⟨Tryd_ent143⟩
theorem Tryd_ent144 : ∀ args w, (callFunc 144 args).run Tryd.prog w = .ok (.enter 144 args) w := enters_of Tryd.func144 (by kernel_rfl) rfl
instance : CN 144 := ⟨Tryd_ent144⟩
theorem Tryd_ent145 : ∀ args w, (callFunc 145 args).run Tryd.prog w = .ok (.enter 145 args) w := enters_of Tryd.func145 (by kernel_rfl) rfl
instance : CN 145 := ⟨Tryd_ent145⟩
theorem Tryd_ent146 : ∀ args w, (callFunc 146 args).run Tryd.prog w = .ok (.enter 146 args) w := enters_of Tryd.func146 (by kernel_rfl) rfl
instance : CN 146 := ⟨Tryd_ent146⟩
theorem Tryd_ent147 : ∀ args w, (callFunc 147 args).run Tryd.prog w = .ok (.enter 147 args) w := enters_of Tryd.func147 (by kernel_rfl) rfl
instance : CN 147 := ⟨Tryd_ent147⟩
theorem Tryd_ent148 : ∀ args w, (callFunc 148 args).run Tryd.prog w = .ok (.enter 148 args) w := enters_of Tryd.func148 (by kernel_rfl) rfl
instance : CN 148 := ⟨Tryd_ent148⟩
theorem Tryd_ent149 : ∀ args w, (callFunc 149 args).run Tryd.prog w = .ok (.enter 149 args) w := enters_of Tryd.func149 (by kernel_rfl) rfl
instance : CN 149 := ⟨Tryd_ent149⟩
theorem Tryd_ent150 : ∀ args w, (callFunc 150 args).run Tryd.prog w = .ok (.enter 150 args) w := enters_of Tryd.func150 (by kernel_rfl) rfl
instance : CN 150 := ⟨Tryd_ent150⟩
theorem Tryd_ent151 : ∀ args w, (callFunc 151 args).run Tryd.prog w = .ok (.enter 151 args) w := enters_of Tryd.func151 (by kernel_rfl) rfl
instance : CN 151 := ⟨Tryd_ent151⟩
theorem Tryd_ent152 : ∀ args w, (callFunc 152 args).run Tryd.prog w = .ok (.enter 152 args) w := enters_of Tryd.func152 (by kernel_rfl) rfl
instance : CN 152 := ⟨Tryd_ent152⟩
theorem Tryd_ent153 : ∀ args w, (callFunc 153 args).run Tryd.prog w = .ok (.enter 153 args) w := enters_of Tryd.func153 (by kernel_rfl) rfl
instance : CN 153 := ⟨Tryd_ent153⟩
theorem Tryd_ent154 : ∀ args w, (callFunc 154 args).run Tryd.prog w = .ok (.enter 154 args) w := enters_of Tryd.func154 (by kernel_rfl) rfl
instance : CN 154 := ⟨Tryd_ent154⟩
theorem Tryd_ent155 : ∀ args w, (callFunc 155 args).run Tryd.prog w = .ok (.enter 155 args) w := enters_of Tryd.func155 (by kernel_rfl) rfl
instance : CN 155 := ⟨Tryd_ent155⟩
theorem Tryd_ent156 : ∀ args w, (callFunc 156 args).run Tryd.prog w = .ok (.enter 156 args) w := enters_of Tryd.func156 (by kernel_rfl) rfl
instance : CN 156 := ⟨Tryd_ent156⟩
theorem Tryd_ent157 : ∀ args w, (callFunc 157 args).run Tryd.prog w = .ok (.enter 157 args) w := enters_of Tryd.func157 (by kernel_rfl) rfl
instance : CN 157 := ⟨Tryd_ent157⟩
theorem Tryd_ent158 : ∀ args w, (callFunc 158 args).run Tryd.prog w = .ok (.enter 158 args) w := enters_of Tryd.func158 (by kernel_rfl) rfl
instance : CN 158 := ⟨Tryd_ent158⟩
theorem Tryd_ent159 : ∀ args w, (callFunc 159 args).run Tryd.prog w = .ok (.enter 159 args) w := enters_of Tryd.func159 (by kernel_rfl) rfl
instance : CN 159 := ⟨Tryd_ent159⟩
theorem Tryd_ent160 : ∀ args w, (callFunc 160 args).run Tryd.prog w = .ok (.enter 160 args) w := enters_of Tryd.func160 (by kernel_rfl) rfl
instance : CN 160 := ⟨Tryd_ent160⟩
theorem Tryd_ent161 : ∀ args w, (callFunc 161 args).run Tryd.prog w = .ok (.enter 161 args) w := enters_of Tryd.func161 (by kernel_rfl) rfl
instance : CN 161 := ⟨Tryd_ent161⟩
theorem Tryd_ent162 : ∀ args w, (callFunc 162 args).run Tryd.prog w = .ok (.enter 162 args) w := enters_of Tryd.func162 (by kernel_rfl) rfl
instance : CN 162 := ⟨Tryd_ent162⟩
theorem Tryd_ent163 : ∀ args w, (callFunc 163 args).run Tryd.prog w = .ok (.enter 163 args) w := enters_of Tryd.func163 (by kernel_rfl) rfl
instance : CN 163 := ⟨Tryd_ent163⟩
theorem Tryd_ent164 : ∀ args w, (callFunc 164 args).run Tryd.prog w = .ok (.enter 164 args) w := enters_of Tryd.func164 (by kernel_rfl) rfl
instance : CN 164 := ⟨Tryd_ent164⟩
theorem Tryd_ent165 : ∀ args w, (callFunc 165 args).run Tryd.prog w = .ok (.enter 165 args) w := enters_of Tryd.func165 (by kernel_rfl) rfl
instance : CN 165 := ⟨Tryd_ent165⟩
theorem Tryd_ent166 : ∀ args w, (callFunc 166 args).run Tryd.prog w = .ok (.enter 166 args) w := enters_of Tryd.func166 (by kernel_rfl) rfl
instance : CN 166 := ⟨Tryd_ent166⟩
theorem Tryd_ent167 : ∀ args w, (callFunc 167 args).run Tryd.prog w = .ok (.enter 167 args) w := enters_of Tryd.func167 (by kernel_rfl) rfl
instance : CN 167 := ⟨Tryd_ent167⟩
theorem Tryd_ent168 : ∀ args w, (callFunc 168 args).run Tryd.prog w = .ok (.enter 168 args) w := enters_of Tryd.func168 (by kernel_rfl) rfl
instance : CN 168 := ⟨Tryd_ent168⟩
theorem Tryd_ent169 : ∀ args w, (callFunc 169 args).run Tryd.prog w = .ok (.enter 169 args) w := enters_of Tryd.func169 (by kernel_rfl) rfl
instance : CN 169 := ⟨Tryd_ent169⟩
theorem Tryd_ent170 : ∀ args w, (callFunc 170 args).run Tryd.prog w = .ok (.enter 170 args) w := enters_of Tryd.func170 (by kernel_rfl) rfl
instance : CN 170 := ⟨Tryd_ent170⟩
theorem Tryd_ent171 : ∀ args w, (callFunc 171 args).run Tryd.prog w = .ok (.enter 171 args) w := enters_of Tryd.func171 (by kernel_rfl) rfl
instance : CN 171 := ⟨Tryd_ent171⟩
theorem Tryd_ent172 : ∀ args w, (callFunc 172 args).run Tryd.prog w = .ok (.enter 172 args) w := enters_of Tryd.func172 (by kernel_rfl) rfl
instance : CN 172 := ⟨Tryd_ent172⟩
theorem Tryd_ent173 : ∀ args w, (callFunc 173 args).run Tryd.prog w = .ok (.enter 173 args) w := enters_of Tryd.func173 (by kernel_rfl) rfl
instance : CN 173 := ⟨Tryd_ent173⟩
theorem Tryd_ent174 : ∀ args w, (callFunc 174 args).run Tryd.prog w = .ok (.enter 174 args) w := enters_of Tryd.func174 (by kernel_rfl) rfl
instance : CN 174 := ⟨Tryd_ent174⟩
theorem Tryd_ent175 : ∀ args w, (callFunc 175 args).run Tryd.prog w = .ok (.enter 175 args) w := enters_of Tryd.func175 (by kernel_rfl) rfl
instance : CN 175 := ⟨Tryd_ent175⟩
theorem Tryd_ent176 : ∀ args w, (callFunc 176 args).run Tryd.prog w = .ok (.enter 176 args) w := enters_of Tryd.func176 (by kernel_rfl) rfl
instance : CN 176 := ⟨Tryd_ent176⟩
theorem Tryd_ent177 : ∀ args w, (callFunc 177 args).run Tryd.prog w = .ok (.enter 177 args) w := enters_of Tryd.func177 (by kernel_rfl) rfl
instance : CN 177 := ⟨Tryd_ent177⟩
theorem Tryd_ent178 : ∀ args w, (callFunc 178 args).run Tryd.prog w = .ok (.enter 178 args) w := enters_of Tryd.func178 (by kernel_rfl) rfl
instance : CN 178 := ⟨Tryd_ent178⟩
theorem Tryd_ent179 : ∀ args w, (callFunc 179 args).run Tryd.prog w = .ok (.enter 179 args) w := enters_of Tryd.func179 (by kernel_rfl) rfl
instance : CN 179 := ⟨Tryd_ent179⟩
theorem Tryd_ent180 : ∀ args w, (callFunc 180 args).run Tryd.prog w = .ok (.enter 180 args) w := enters_of Tryd.func180 (by kernel_rfl) rfl
instance : CN 180 := ⟨Tryd_ent180⟩
theorem Tryd_ent181 : ∀ args w, (callFunc 181 args).run Tryd.prog w = .ok (.enter 181 args) w := enters_of Tryd.func181 (by kernel_rfl) rfl
instance : CN 181 := ⟨Tryd_ent181⟩
theorem Tryd_ent182 : ∀ args w, (callFunc 182 args).run Tryd.prog w = .ok (.enter 182 args) w := enters_of Tryd.func182 (by kernel_rfl) rfl
instance : CN 182 := ⟨Tryd_ent182⟩
theorem Tryd_ent183 : ∀ args w, (callFunc 183 args).run Tryd.prog w = .ok (.enter 183 args) w := enters_of Tryd.func183 (by kernel_rfl) rfl
instance : CN 183 := ⟨Tryd_ent183⟩
theorem Tryd_ent184 : ∀ args w, (callFunc 184 args).run Tryd.prog w = .ok (.enter 184 args) w := enters_of Tryd.func184 (by kernel_rfl) rfl
instance : CN 184 := ⟨Tryd_ent184⟩
theorem Tryd_ent185 : ∀ args w, (callFunc 185 args).run Tryd.prog w = .ok (.enter 185 args) w := enters_of Tryd.func185 (by kernel_rfl) rfl
instance : CN 185 := ⟨Tryd_ent185⟩
theorem Tryd_ent186 : ∀ args w, (callFunc 186 args).run Tryd.prog w = .ok (.enter 186 args) w := enters_of Tryd.func186 (by kernel_rfl) rfl
instance : CN 186 := ⟨Tryd_ent186⟩
theorem Tryd_ent187 : ∀ args w, (callFunc 187 args).run Tryd.prog w = .ok (.enter 187 args) w := enters_of Tryd.func187 (by kernel_rfl) rfl
instance : CN 187 := ⟨Tryd_ent187⟩
theorem Tryd_ent189 : ∀ args w, (callFunc 189 args).run Tryd.prog w = .ok (.enter 189 args) w := enters_of Tryd.func189 (by kernel_rfl) rfl
instance : CN 189 := ⟨Tryd_ent189⟩
theorem Tryd_ent190 : ∀ args w, (callFunc 190 args).run Tryd.prog w = .ok (.enter 190 args) w := enters_of Tryd.func190 (by kernel_rfl) rfl
instance : CN 190 := ⟨Tryd_ent190⟩
theorem Tryd_ent191 : ∀ args w, (callFunc 191 args).run Tryd.prog w = .ok (.enter 191 args) w := enters_of Tryd.func191 (by kernel_rfl) rfl
instance : CN 191 := ⟨Tryd_ent191⟩
theorem Tryd_ent192 : ∀ args w, (callFunc 192 args).run Tryd.prog w = .ok (.enter 192 args) w := enters_of Tryd.func192 (by kernel_rfl) rfl
instance : CN 192 := ⟨Tryd_ent192⟩
theorem Tryd_ent193 : ∀ args w, (callFunc 193 args).run Tryd.prog w = .ok (.enter 193 args) w := enters_of Tryd.func193 (by kernel_rfl) rfl
instance : CN 193 := ⟨Tryd_ent193⟩
theorem Tryd_ent194 : ∀ args w, (callFunc 194 args).run Tryd.prog w = .ok (.enter 194 args) w := enters_of Tryd.func194 (by kernel_rfl) rfl
instance : CN 194 := ⟨Tryd_ent194⟩
theorem Tryd_ent195 : ∀ args w, (callFunc 195 args).run Tryd.prog w = .ok (.enter 195 args) w := enters_of Tryd.func195 (by kernel_rfl) rfl
instance : CN 195 := ⟨Tryd_ent195⟩
theorem Tryd_ent196 : ∀ args w, (callFunc 196 args).run Tryd.prog w = .ok (.enter 196 args) w := enters_of Tryd.func196 (by kernel_rfl) rfl
instance : CN 196 := ⟨Tryd_ent196⟩
theorem Tryd_ent197 : ∀ args w, (callFunc 197 args).run Tryd.prog w = .ok (.enter 197 args) w := enters_of Tryd.func197 (by kernel_rfl) rfl
instance : CN 197 := ⟨Tryd_ent197⟩
theorem Tryd_ent198 : ∀ args w, (callFunc 198 args).run Tryd.prog w = .ok (.enter 198 args) w := enters_of Tryd.func198 (by kernel_rfl) rfl
instance : CN 198 := ⟨Tryd_ent198⟩
theorem Tryd_ent200 : ∀ args w, (callFunc 200 args).run Tryd.prog w = .ok (.enter 200 args) w := enters_of Tryd.func200 (by kernel_rfl) rfl
instance : CN 200 := ⟨Tryd_ent200⟩
theorem Tryd_ent201 : ∀ args w, (callFunc 201 args).run Tryd.prog w = .ok (.enter 201 args) w := enters_of Tryd.func201 (by kernel_rfl) rfl
instance : CN 201 := ⟨Tryd_ent201⟩
theorem Tryd_ent202 : ∀ args w, (callFunc 202 args).run Tryd.prog w = .ok (.enter 202 args) w := enters_of Tryd.func202 (by kernel_rfl) rfl
instance : CN 202 := ⟨Tryd_ent202⟩
theorem Tryd_ent203 : ∀ args w, (callFunc 203 args).run Tryd.prog w = .ok (.enter 203 args) w := enters_of Tryd.func203 (by kernel_rfl) rfl
instance : CN 203 := ⟨Tryd_ent203⟩
theorem Tryd_ent204 : ∀ args w, (callFunc 204 args).run Tryd.prog w = .ok (.enter 204 args) w := enters_of Tryd.func204 (by kernel_rfl) rfl
instance : CN 204 := ⟨Tryd_ent204⟩
theorem Tryd_ent205 : ∀ args w, (callFunc 205 args).run Tryd.prog w = .ok (.enter 205 args) w := enters_of Tryd.func205 (by kernel_rfl) rfl
instance : CN 205 := ⟨Tryd_ent205⟩
theorem Tryd_ent235 : ∀ args w, (callFunc 235 args).run Tryd.prog w = .ok (.enter 235 args) w := enters_of Tryd.func235 (by kernel_rfl) rfl
instance : CN 235 := ⟨Tryd_ent235⟩
class CI (t : TypeId) (n : outParam Nat) : Prop where
  eq : (Tryd.prog.info? t).map (·.size) = some n
theorem fI {t : TypeId} {n : Nat} [i : CI t n] : (Tryd.prog.info? t).map (·.size) = some n := i.eq
instance : CI 236 4 := ⟨by kernel_rfl⟩
instance : CI 239 0 := ⟨by kernel_rfl⟩
instance : CI 246 11 := ⟨by kernel_rfl⟩
instance : CI 87 6 := ⟨by kernel_rfl⟩
instance : CI 94 6 := ⟨by kernel_rfl⟩
instance : CI 74 2 := ⟨by kernel_rfl⟩
instance : CI 9 1 := ⟨by kernel_rfl⟩
instance : CI 5 1 := ⟨by kernel_rfl⟩
instance : CI 218 3 := ⟨by kernel_rfl⟩
instance : CI 202 256 := ⟨by kernel_rfl⟩
instance : CI 229 1 := ⟨by kernel_rfl⟩
end Go.Proofs.YtajdjclhkoenfaaDoor
