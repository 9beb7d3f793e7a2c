/- The rules for single operations that only reckon. -/
import Derived.Test.YtajdjclhkoenfaaDoorGa
set_option linter.unusedSimpArgs false
set_option linter.unusedVariables false
namespace Go.Proofs.YtajdjclhkoenfaaDoor
open Go.RowKit

def bt (s : ByteArray) (i : Nat) : Int := if h : i < s.size then ((s[i]'h).toNat : Int) else 0
theorem bt_range (s : ByteArray) (i : Nat) : 0 ≤ bt s i ∧ bt s i ≤ 255 := by
  unfold bt
  split
  · rename_i h
    have := (s[i]'h).toNat_lt
    omega
  · omega

def InR (k : IntKind) (n : Int) : Prop := k.min ≤ n ∧ n ≤ k.max
theorem wrap_in {k : IntKind} {n : Int} (h : InR k n) : k.wrap n = n := by
  obtain ⟨h1, h2⟩ := h
  cases k <;> simp [IntKind.min, IntKind.max, IntKind.signed, IntKind.bits] at h1 h2 <;> simp [IntKind.wrap, IntKind.signed, IntKind.bits] <;> omega

theorem InR.i64 {n : Int} (h1 : -9223372036854775808 ≤ n) (h2 : n ≤ 9223372036854775807) : InR .i64 n := ⟨h1, h2⟩
theorem InR.i32 {n : Int} (h1 : -2147483648 ≤ n) (h2 : n ≤ 2147483647) : InR .i32 n := ⟨h1, h2⟩
theorem InR.u32 {n : Int} (h1 : 0 ≤ n) (h2 : n ≤ 4294967295) : InR .u32 n := ⟨h1, h2⟩
theorem InR.u64 {n : Int} (h1 : 0 ≤ n) (h2 : n ≤ 18446744073709551615) : InR .u64 n := ⟨h1, h2⟩
theorem InR.u16 {n : Int} (h1 : 0 ≤ n) (h2 : n ≤ 65535) : InR .u16 n := ⟨h1, h2⟩
theorem InR.u8 {n : Int} (h1 : 0 ≤ n) (h2 : n ≤ 255) : InR .u8 n := ⟨h1, h2⟩

section
variable {C : Ctx} {ops : Array Oper} {Q : Post} {l : List Oper} {e : Env} {R : List Res} {h : Hp} {ds : List Deferred}

theorem GO.gen {o : Oper} {d : Nat} (hg : o.guard = none) (hd : o.dst = some d) (hn : Nat.blt d C.n = true) (hnd : ∀ c, o.op ≠ .defer c)
    (hr : ∀ a w, Agree C.n ds e a → Sat C.w0 C.S C.h0 h R w → ∃ v w' R' h', (execOp a.eval o).run C.P w = .ok (.value v) w' ∧ Sat C.w0 C.S C.h0 h' R' w' ∧ GO C ops Q l ((d, v) :: e) R' h' ds) :
    GO C ops Q (o :: l) e R h ds := fun a w ha hs => by
  obtain ⟨v, w', R', h', hrun, hs', hk⟩ := hr a w ha hs
  refine wpListIn_plain hg fun K hK => ⟨fun _ _ => trivial, ?_⟩
  rw [Oper.semAt_eq _ _ _ hnd, hrun]
  show K (a.put o.dst v) w'
  rw [hd]
  exact hK _ _ (hk _ _ (ha.put hn v) hs')
theorem GO.skipOp {o : Oper} (hg : o.guard = none) (hd : o.dst = none) (hnd : ∀ c, o.op ≠ .defer c)
    (hr : ∀ a w, Agree C.n ds e a → Sat C.w0 C.S C.h0 h R w → ∃ w' R' h', (execOp a.eval o).run C.P w = .ok .skip w' ∧ Sat C.w0 C.S C.h0 h' R' w' ∧ GO C ops Q l e R' h' ds) :
    GO C ops Q (o :: l) e R h ds := fun a w ha hs => by
  obtain ⟨w', R', h', hrun, hs', hk⟩ := hr a w ha hs
  refine wpListIn_plain hg fun K hK => ⟨fun _ _ => trivial, ?_⟩
  rw [Oper.semAt_eq _ _ _ hnd, hrun]
  show K (a.put o.dst undef) w'
  rw [hd]
  exact hK _ _ (hk _ _ ha hs')
theorem GO.pure {o : Oper} {d : Nat} {v : Value} (hg : o.guard = none) (hd : o.dst = some d) (hn : Nat.blt d C.n = true) (hnd : ∀ c, o.op ≠ .defer c)
    (hr : ∀ a w, Agree C.n ds e a → (execOp a.eval o).run C.P w = .ok (.value v) w) (k : GO C ops Q l ((d, v) :: e) R h ds) : GO C ops Q (o :: l) e R h ds :=
  GO.gen hg hd hn hnd fun a w ha hs => ⟨v, w, R, h, hr a w ha, hs, k⟩

variable {d ty : Nat} {pos : String} {after : Array Edge}

/-- A guarded operation: wanted, or passed over. -/
theorem GO.guard {dst : Option Tmp} {op : Op} {j t : Nat} {want b : Bool} (hj : ((ops[j]?).bind (·.dst)) = some t) (hb : lk e t = some (.bool b)) (hd : dst = some d) (hn : Nat.blt d C.n = true)
    (ht : b = want → GO C ops Q (⟨dst, op, ty, pos, after, none⟩ :: l) e R h ds) (hf : b = !want → GO C ops Q l ((d, undef) :: e) R h ds) :
    GO C ops Q (⟨dst, op, ty, pos, after, some (j, want)⟩ :: l) e R h ds := fun a w ha hs => by
  have hy : yielded ops a.tmps j = some b := by
    have hs' := ha.slots _ _ hb
    unfold yielded
    rw [hj]
    cases hc : a.tmps[t]? with
    | none => simp [Array.getD_eq_getD_getElem?, hc, undef] at hs'
    | some v =>
      simp [Array.getD_eq_getD_getElem?, hc] at hs'
      simp [hc, hs']
  by_cases hbw : b = want
  · have hk := ht hbw a w ha hs
    have hw : Region.wanted ⟨dst, op, ty, pos, after, some (j, want)⟩ (yielded ops a.tmps) = true := by simp [Region.wanted, hy, hbw]
    unfold wpListIn at hk ⊢
    rw [if_pos hw]
    rw [if_pos (by simp [Region.wanted])] at hk
    exact hk
  · have hbn : b = !want := by cases b <;> cases want <;> simp_all
    have hk := hf hbn _ w (ha.put hn undef) hs
    have hw : ¬ Region.wanted ⟨dst, op, ty, pos, after, some (j, want)⟩ (yielded ops a.tmps) = true := by simp [Region.wanted, hy, hbw]
    unfold wpListIn
    rw [if_neg hw, hd]
    exact ⟨fun _ _ => trivial, hk⟩
theorem GO.want {dst : Option Tmp} {op : Op} {j t : Nat} {want b : Bool} (hj : ((ops[j]?).bind (·.dst)) = some t) (hb : lk e t = some (.bool b)) (hbw : b = want)
    (ht : GO C ops Q (⟨dst, op, ty, pos, after, none⟩ :: l) e R h ds) : GO C ops Q (⟨dst, op, ty, pos, after, some (j, want)⟩ :: l) e R h ds := fun a w ha hs => by
  have hy : yielded ops a.tmps j = some b := by
    have hs' := ha.slots _ _ hb
    unfold yielded
    rw [hj]
    cases hc : a.tmps[t]? with
    | none => simp [Array.getD_eq_getD_getElem?, hc, undef] at hs'
    | some v =>
      simp [Array.getD_eq_getD_getElem?, hc] at hs'
      simp [hc, hs']
  have hk := ht a w ha hs
  have hw : Region.wanted ⟨dst, op, ty, pos, after, some (j, want)⟩ (yielded ops a.tmps) = true := by simp [Region.wanted, hy, hbw]
  unfold wpListIn at hk ⊢
  rw [if_pos hw]
  rw [if_pos (by simp [Region.wanted])] at hk
  exact hk
theorem GO.pass {dst : Option Tmp} {op : Op} {j t : Nat} {want b : Bool} (hj : ((ops[j]?).bind (·.dst)) = some t) (hb : lk e t = some (.bool b)) (hd : dst = some d) (hn : Nat.blt d C.n = true) (hbw : b = !want)
    (hf : GO C ops Q l ((d, undef) :: e) R h ds) : GO C ops Q (⟨dst, op, ty, pos, after, some (j, want)⟩ :: l) e R h ds :=
  GO.guard hj hb hd hn (fun hx => by subst hx; cases b <;> cases hbw) (fun _ => hf)

/-- An operation whose guard was itself passed over. -/
theorem GO.passU {dst : Option Tmp} {op : Op} {j t : Nat} {want : Bool} (hj : ((ops[j]?).bind (·.dst)) = some t) (hb : lk e t = some undef) (hd : dst = some d) (hn : Nat.blt d C.n = true)
    (hf : GO C ops Q l ((d, undef) :: e) R h ds) : GO C ops Q (⟨dst, op, ty, pos, after, some (j, want)⟩ :: l) e R h ds := fun a w ha hs => by
  have hy : yielded ops a.tmps j = none := by
    have hs' := ha.slots _ _ hb
    unfold yielded
    rw [hj]
    cases hc : a.tmps[t]? with
    | none => simp [hc]
    | some v =>
      simp [Array.getD_eq_getD_getElem?, hc] at hs'
      simp [hc, hs', undef]
  have hk := hf _ w (ha.put hn undef) hs
  have hw : ¬ Region.wanted ⟨dst, op, ty, pos, after, some (j, want)⟩ (yielded ops a.tmps) = true := by simp [Region.wanted, hy]
  unfold wpListIn
  rw [if_neg hw, hd]
  exact ⟨fun _ _ => trivial, hk⟩
/-- An operation without a slot, passed over. -/
theorem GO.pass0 {op : Op} {j t : Nat} {want b : Bool} (hj : ((ops[j]?).bind (·.dst)) = some t) (hb : lk e t = some (.bool b)) (hbw : b = !want)
    (hf : GO C ops Q l e R h ds) : GO C ops Q (⟨none, op, ty, pos, after, some (j, want)⟩ :: l) e R h ds := fun a w ha hs => by
  have hy : yielded ops a.tmps j = some b := by
    have hs' := ha.slots _ _ hb
    unfold yielded
    rw [hj]
    cases hc : a.tmps[t]? with
    | none => simp [Array.getD_eq_getD_getElem?, hc, undef] at hs'
    | some v =>
      simp [Array.getD_eq_getD_getElem?, hc] at hs'
      simp [hc, hs']
  have hk := hf _ w ha hs
  have hw : ¬ Region.wanted ⟨none, op, ty, pos, after, some (j, want)⟩ (yielded ops a.tmps) = true := by subst hbw; cases want <;> simp [Region.wanted, hy]
  unfold wpListIn
  rw [if_neg hw]
  exact ⟨fun _ _ => trivial, hk⟩

/-! ### moves -/
theorem GO.move {x : Operand} {v : Value} (hn : Nat.blt d C.n = true) (hx : opE e x = some v) (k : GO C ops Q l ((d, v) :: e) R h ds) : GO C ops Q (⟨some d, .move x, ty, pos, after, none⟩ :: l) e R h ds :=
  GO.pure rfl rfl hn (fun _ hc => nomatch hc) (fun a w ha => by simp [execOp, ha.eval hx]) k
theorem GO.assign {x : Operand} {v : Value} (hn : Nat.blt d C.n = true) (hx : opE e x = some v) (k : GO C ops Q l ((d, v) :: e) R h ds) : GO C ops Q (⟨some d, .assign x, ty, pos, after, none⟩ :: l) e R h ds :=
  GO.pure rfl rfl hn (fun _ hc => nomatch hc) (fun a w ha => by simp [execOp, ha.eval hx]) k
theorem GO.pick_t {c x y : Operand} {b : Bool} {v : Value} (hn : Nat.blt d C.n = true) (hc : opE e c = some (.bool b)) (hb : b = true) (hx : opE e x = some v) (k : GO C ops Q l ((d, v) :: e) R h ds) :
    GO C ops Q (⟨some d, .pick c x y, ty, pos, after, none⟩ :: l) e R h ds :=
  GO.pure rfl rfl hn (fun _ hc => nomatch hc) (fun a w ha => by simp [execOp, ha.eval hc, hb, asBool, ha.eval hx]) k
theorem GO.pick_f {c x y : Operand} {b : Bool} {v : Value} (hn : Nat.blt d C.n = true) (hc : opE e c = some (.bool b)) (hb : b = false) (hy : opE e y = some v) (k : GO C ops Q l ((d, v) :: e) R h ds) :
    GO C ops Q (⟨some d, .pick c x y, ty, pos, after, none⟩ :: l) e R h ds :=
  GO.pure rfl rfl hn (fun _ hc => nomatch hc) (fun a w ha => by simp [execOp, ha.eval hc, hb, asBool, ha.eval hy]) k
theorem GO.extract {x : Operand} {vs : Array Value} {i : Nat} {v : Value} (hn : Nat.blt d C.n = true) (hx : opE e x = some (.tuple vs)) (hi : vs[i]? = some v) (k : GO C ops Q l ((d, v) :: e) R h ds) :
    GO C ops Q (⟨some d, .extract x i, ty, pos, after, none⟩ :: l) e R h ds :=
  GO.pure rfl rfl hn (fun _ hc => nomatch hc) (fun a w ha => by simp [execOp, ha.eval hx, Instr.extract, hi]) k

/-! ### whole numbers -/
theorem GO.intOp {op : BinOp} {t t' : TypeId} {x y : Operand} {kd : IntKind} {a b : Int} {v : Value} (hn : Nat.blt d C.n = true) (hx : opE e x = some (.int kd a)) (hy : opE e y = some (.int kd b))
    (hv : ∀ w, (binOp op t (.int kd a) (.int kd b)).run C.P w = .ok v w) (k : GO C ops Q l ((d, v) :: e) R h ds) :
    GO C ops Q (⟨some d, .binOp op t x y t', ty, pos, after, none⟩ :: l) e R h ds :=
  GO.pure rfl rfl hn (fun _ hc => nomatch hc) (fun ac w ha => by
    have h1 : (eqGuard op t x y (.int kd a) (.int kd b)).run C.P w = .ok () w := by
      unfold eqGuard
      by_cases ho : (!(match op with | .eql | .neq => true | _ => false)) = true
      · simp [ho]
      · simp [ho]
    simp only [execOp, ha.eval hx, ha.eval hy]
    simp [h1, hv]) k
theorem GO.add {t t' : TypeId} {x y : Operand} {kd : IntKind} {a b : Int} (hn : Nat.blt d C.n = true) (hx : opE e x = some (.int kd a)) (hy : opE e y = some (.int kd b)) (hr : InR kd (a + b))
    (k : GO C ops Q l ((d, .int kd (a + b)) :: e) R h ds) : GO C ops Q (⟨some d, .binOp .add t x y t', ty, pos, after, none⟩ :: l) e R h ds :=
  GO.intOp hn hx hy (fun w => by simp [binOp, Op.intArith, wrap_in hr]) k
theorem GO.sub {t t' : TypeId} {x y : Operand} {kd : IntKind} {a b : Int} (hn : Nat.blt d C.n = true) (hx : opE e x = some (.int kd a)) (hy : opE e y = some (.int kd b)) (hr : InR kd (a - b))
    (k : GO C ops Q l ((d, .int kd (a - b)) :: e) R h ds) : GO C ops Q (⟨some d, .binOp .sub t x y t', ty, pos, after, none⟩ :: l) e R h ds :=
  GO.intOp hn hx hy (fun w => by simp [binOp, Op.intArith, wrap_in hr]) k
theorem GO.mul {t t' : TypeId} {x y : Operand} {kd : IntKind} {a b : Int} (hn : Nat.blt d C.n = true) (hx : opE e x = some (.int kd a)) (hy : opE e y = some (.int kd b)) (hr : InR kd (a * b))
    (k : GO C ops Q l ((d, .int kd (a * b)) :: e) R h ds) : GO C ops Q (⟨some d, .binOp .mul t x y t', ty, pos, after, none⟩ :: l) e R h ds :=
  GO.intOp hn hx hy (fun w => by simp [binOp, Op.intArith, wrap_in hr]) k
theorem GO.eql {t t' : TypeId} {x y : Operand} {kd : IntKind} {a b : Int} (hn : Nat.blt d C.n = true) (hx : opE e x = some (.int kd a)) (hy : opE e y = some (.int kd b))
    (k : GO C ops Q l ((d, .bool (decide (a = b))) :: e) R h ds) : GO C ops Q (⟨some d, .binOp .eql t x y t', ty, pos, after, none⟩ :: l) e R h ds :=
  GO.intOp hn hx hy (fun w => by simp [binOp, Op.intCmp]; rfl) k
theorem GO.neq {t t' : TypeId} {x y : Operand} {kd : IntKind} {a b : Int} (hn : Nat.blt d C.n = true) (hx : opE e x = some (.int kd a)) (hy : opE e y = some (.int kd b))
    (k : GO C ops Q l ((d, .bool (!decide (a = b))) :: e) R h ds) : GO C ops Q (⟨some d, .binOp .neq t x y t', ty, pos, after, none⟩ :: l) e R h ds :=
  GO.intOp hn hx hy (fun w => by simp [binOp, Op.intCmp]; rfl) k
theorem GO.lss {t t' : TypeId} {x y : Operand} {kd : IntKind} {a b : Int} (hn : Nat.blt d C.n = true) (hx : opE e x = some (.int kd a)) (hy : opE e y = some (.int kd b))
    (k : GO C ops Q l ((d, .bool (decide (a < b))) :: e) R h ds) : GO C ops Q (⟨some d, .binOp .lss t x y t', ty, pos, after, none⟩ :: l) e R h ds :=
  GO.intOp hn hx hy (fun w => by simp [binOp, Op.intCmp]) k
theorem GO.leq {t t' : TypeId} {x y : Operand} {kd : IntKind} {a b : Int} (hn : Nat.blt d C.n = true) (hx : opE e x = some (.int kd a)) (hy : opE e y = some (.int kd b))
    (k : GO C ops Q l ((d, .bool (decide (a ≤ b))) :: e) R h ds) : GO C ops Q (⟨some d, .binOp .leq t x y t', ty, pos, after, none⟩ :: l) e R h ds :=
  GO.intOp hn hx hy (fun w => by simp [binOp, Op.intCmp]) k
theorem GO.gtr {t t' : TypeId} {x y : Operand} {kd : IntKind} {a b : Int} (hn : Nat.blt d C.n = true) (hx : opE e x = some (.int kd a)) (hy : opE e y = some (.int kd b))
    (k : GO C ops Q l ((d, .bool (decide (b < a))) :: e) R h ds) : GO C ops Q (⟨some d, .binOp .gtr t x y t', ty, pos, after, none⟩ :: l) e R h ds :=
  GO.intOp hn hx hy (fun w => by simp [binOp, Op.intCmp]) k
theorem GO.geq {t t' : TypeId} {x y : Operand} {kd : IntKind} {a b : Int} (hn : Nat.blt d C.n = true) (hx : opE e x = some (.int kd a)) (hy : opE e y = some (.int kd b))
    (k : GO C ops Q l ((d, .bool (decide (b ≤ a))) :: e) R h ds) : GO C ops Q (⟨some d, .binOp .geq t x y t', ty, pos, after, none⟩ :: l) e R h ds :=
  GO.intOp hn hx hy (fun w => by simp [binOp, Op.intCmp]) k
theorem GO.not_ {t : TypeId} {x : Operand} {b : Bool} (hn : Nat.blt d C.n = true) (hx : opE e x = some (.bool b)) (k : GO C ops Q l ((d, .bool (!b)) :: e) R h ds) :
    GO C ops Q (⟨some d, .unOp .not t x, ty, pos, after, none⟩ :: l) e R h ds :=
  GO.pure rfl rfl hn (fun _ hc => nomatch hc) (fun a w ha => by simp [execOp, ha.eval hx, Op.unary]) k
theorem GO.conv_int {s t : TypeId} {x : Operand} {k1 k2 : IntKind} {n : Int} {d1 : TypeDesc} (hn : Nat.blt d C.n = true) (hx : opE e x = some (.int k1 n)) (hs : C.P.underlying s = some d1) (ht : C.P.underlying t = some (.int k2)) (hr : InR k2 n)
    (k : GO C ops Q l ((d, .int k2 n) :: e) R h ds) : GO C ops Q (⟨some d, .convert s t x, ty, pos, after, none⟩ :: l) e R h ds :=
  GO.pure rfl rfl hn (fun _ hc => nomatch hc) (fun a w ha => by
    simp only [execOp, ha.eval hx]
    simp [convert, run_underlying hs, run_underlying ht, Conv.intToInt, wrap_in hr]) k

/-! ### strings -/
theorem GO.len_str {x : Operand} {t : TypeId} {s : ByteArray} (hn : Nat.blt d C.n = true) (hx : opE e x = some (.string s)) (ht : C.P.underlying t = some .string) (k : GO C ops Q l ((d, .int .i64 s.size) :: e) R h ds) :
    GO C ops Q (⟨some d, .call ⟨.builtin .len, #[x], #[t]⟩, ty, pos, after, none⟩ :: l) e R h ds :=
  GO.pure rfl rfl hn (fun _ hc => nomatch hc) (fun a w ha => by
    simp only [execOp, resolve]
    simp [ha.eval hx, invoke, builtin, Builtin.len_, run_underlying ht, goInt]) k
theorem GO.index_str {x i : Operand} {t : TypeId} {kd : IntKind} {s : ByteArray} {n : Int} (hn : Nat.blt d C.n = true) (hx : opE e x = some (.string s)) (hi : opE e i = some (.int kd n)) (ht : C.P.underlying t = some .string)
    (hr : 0 ≤ n ∧ n < s.size) (k : GO C ops Q l ((d, .int .u8 (bt s n.toNat)) :: e) R h ds) :
    GO C ops Q (⟨some d, .index t x i, ty, pos, after, none⟩ :: l) e R h ds :=
  GO.pure rfl rfl hn (fun _ hc => nomatch hc) (fun a w ha => by
    have h1 : n.toNat < s.size := by omega
    have h2 : s[n.toNat]? = some (s[n.toNat]'h1) := by simp [h1]
    simp only [execOp, ha.eval hx, ha.eval hi]
    simp [Instr.index, run_underlying ht, asIntOf, hr.1, bt, h1]) k
theorem toList_data (s : ByteArray) : s.toList = s.data.toList := Go.ByteArray.toList_eq s
theorem strOp_eql (a b : ByteArray) : (a.toList == b.toList) = decide (a = b) := by
  rw [toList_data, toList_data]
  by_cases h : a = b
  · simp [h]
  · have h2 : ¬ a.data = b.data := fun hc => h (by cases a; cases b; simp_all)
    simp [h, h2]
theorem GO.strOp {op : BinOp} {t t' : TypeId} {x y : Operand} {a b : ByteArray} {v : Value} (hn : Nat.blt d C.n = true) (hx : opE e x = some (.string a)) (hy : opE e y = some (.string b))
    (hv : ∀ w, (Op.stringOp op a b).run C.P w = .ok v w) (ho : op ≠ .shl ∧ op ≠ .shr) (k : GO C ops Q l ((d, v) :: e) R h ds) :
    GO C ops Q (⟨some d, .binOp op t x y t', ty, pos, after, none⟩ :: l) e R h ds :=
  GO.pure rfl rfl hn (fun _ hc => nomatch hc) (fun ac w ha => by
    have h1 : (eqGuard op t x y (.string a) (.string b)).run C.P w = .ok () w := by
      unfold eqGuard
      by_cases ho : (!(match op with | .eql | .neq => true | _ => false)) = true
      · simp [ho]
      · simp [ho]
    have h2 : binOp op t (.string a) (.string b) = Op.stringOp op a b := by cases op <;> first | rfl | simp_all
    simp only [execOp, ha.eval hx, ha.eval hy]
    simp [h1, h2, hv]) k
theorem GO.str_eql {t t' : TypeId} {x y : Operand} {a b : ByteArray} (hn : Nat.blt d C.n = true) (hx : opE e x = some (.string a)) (hy : opE e y = some (.string b))
    (k : GO C ops Q l ((d, .bool (decide (a = b))) :: e) R h ds) : GO C ops Q (⟨some d, .binOp .eql t x y t', ty, pos, after, none⟩ :: l) e R h ds :=
  GO.strOp hn hx hy (fun w => by simp only [Op.stringOp, strOp_eql]; rfl) (by decide) k
theorem GO.str_neq {t t' : TypeId} {x y : Operand} {a b : ByteArray} (hn : Nat.blt d C.n = true) (hx : opE e x = some (.string a)) (hy : opE e y = some (.string b))
    (k : GO C ops Q l ((d, .bool (!decide (a = b))) :: e) R h ds) : GO C ops Q (⟨some d, .binOp .neq t x y t', ty, pos, after, none⟩ :: l) e R h ds :=
  GO.strOp hn hx hy (fun w => by simp only [Op.stringOp, strOp_eql]; rfl) (by decide) k
theorem GO.str_add {t t' : TypeId} {x y : Operand} {a b : ByteArray} (hn : Nat.blt d C.n = true) (hx : opE e x = some (.string a)) (hy : opE e y = some (.string b)) (hr : (a.size : Int) + b.size ≤ 9223372036854775807)
    (k : GO C ops Q l ((d, .string (a ++ b)) :: e) R h ds) : GO C ops Q (⟨some d, .binOp .add t x y t', ty, pos, after, none⟩ :: l) e R h ds :=
  GO.strOp hn hx hy (fun w => by
    have h1 : ¬ (((a.size + b.size : Nat) : Int) > IntKind.i64.max) := by simp [IntKind.max, IntKind.signed, IntKind.bits]; omega
    simp only [Op.stringOp, if_neg h1]; rfl) (by decide) k
end
end Go.Proofs.YtajdjclhkoenfaaDoor
