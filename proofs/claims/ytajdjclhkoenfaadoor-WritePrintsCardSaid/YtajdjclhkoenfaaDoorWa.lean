/- Tokens and their attributes as data; the first functions over them. -/
import Derived.Test.YtajdjclhkoenfaaDoorGs
set_option linter.unusedSimpArgs false
set_option linter.unusedVariables false
namespace Go.Proofs.YtajdjclhkoenfaaDoor
open Go.RowKit

def big : Nat := 140737488355328
structure Attr where
  name : ByteArray
  value : ByteArray
  deriving DecidableEq
structure Tok where
  kind : Int
  name : ByteArray
  attrs : List Attr
  text : ByteArray
  deriving DecidableEq
abbrev emptyS : ByteArray := ⟨#[]⟩

def kAttr : Kd Attr where
  n := 2
  ok := fun h x cs => cs = [.string x.name, .string x.value] ∧ x.name.size ≤ big ∧ x.value.size ≤ big
  mono := fun _ h => h
  len := fun h => by rw [h.1]; rfl
  one := fun h u hu => by
    rw [h.1] at hu
    simp at hu
    rcases hu with rfl | rfl <;> rfl
def kTok : Kd Tok where
  n := 4
  ok := fun h x cs => ∃ A n c, cs = [.int .u8 x.kind, .string x.name, .slice A n c, .string x.text] ∧ SlH kAttr h A n c x.attrs ∧ x.name.size ≤ big ∧ x.text.size ≤ big ∧ n ≤ big ∧ 0 ≤ x.kind ∧ x.kind ≤ 255
  mono := fun hl ⟨A, n, c, h1, h2, h3⟩ => ⟨A, n, c, h1, h2.mono hl, h3⟩
  len := fun ⟨A, n, c, h1, _⟩ => by rw [h1]; rfl
  one := fun ⟨A, n, c, h1, _⟩ u hu => by
    rw [h1] at hu
    simp at hu
    rcases hu with rfl | rfl | rfl | rfl <;> rfl

/-- A call that hands back a slice that reads as l. -/
def RetSl {α : Type} (K : Kd α) (l : List α) : Ending → Hp → List Res → Prop := fun e h' R' => ∃ A c, e = .returned (.slice A l.length c) ∧ SlH K h' A l.length c l ∧ R' = []

theorem few_spec (A : Option Addr) (n c : Nat) (h : Hp) (hn : n ≤ c) (hc : c ≤ big) : CallsV Tryd.prog 13 #[.slice A n c] h (.slice A (min n 70) c) := by
  unfold big at hc
  refine callsH_of (args := [_]) Tryd.func13 rfl Tryd.ntmps13 rfl fun w => ?_
  by_cases hlt : (70 : Int) < n
  · have hlt' := decide_eq_true hlt
    repeat' (first | ((with_reducible apply GC.seq)) | ((with_reducible apply GC.region)) | ((with_reducible apply GO.nil)) | ((with_reducible apply QS.n)) | ((with_reducible apply GC.ret)) | ((with_reducible apply QS.r)) | ((with_reducible apply GC.condT); exact rfl; (first | exact rfl | assumption)) | ((with_reducible apply GO.move); exact rfl; exact rfl) | ((with_reducible apply GO.assign); exact rfl; exact rfl) | ((with_reducible apply GO.gtr); exact rfl; exact rfl; exact rfl) | ((with_reducible apply GO.len_sl); exact rfl; exact rfl; exact fU) | ((with_reducible apply GO.slice_to); exact rfl; exact rfl; exact rfl; exact fU; exact fS; (exact ⟨by omega, by omega⟩); (first | omega | assumption)))
    refine FnQ.retV rfl rfl (Hp.le_refl _) ?_
    congr 1
    omega
  · have hlt' := decide_eq_false hlt
    repeat' (first | ((with_reducible apply GC.seq)) | ((with_reducible apply GC.region)) | ((with_reducible apply GO.nil)) | ((with_reducible apply QS.n)) | ((with_reducible apply GC.skip)) | ((with_reducible apply GC.ret)) | ((with_reducible apply GC.condF); exact rfl; (first | exact rfl | assumption)) | ((with_reducible apply GO.move); exact rfl; exact rfl) | ((with_reducible apply GO.assign); exact rfl; exact rfl) | ((with_reducible apply GO.gtr); exact rfl; exact rfl; exact rfl) | ((with_reducible apply GO.len_sl); exact rfl; exact rfl; exact fU))
    refine FnQ.retV rfl rfl (Hp.le_refl _) ?_
    congr 1
    omega

theorem emptyIsNil {α : Type} {K : Kd α} {h : Hp} {n c : Nat} {l : List α} (hK : 0 < K.n) (s : SlH K h none n c l) : n = 0 ∧ l = [] := by
  rcases Nat.eq_zero_or_pos n with h0 | h0
  · exact ⟨h0, List.eq_nil_of_length_eq_zero (by rw [s.len, h0])⟩
  · have := s.some_ hK h0
    simp at this
def nClone : Nat := 53
theorem CloneAttr_spec (A : Option Addr) (n c : Nat) (l : List Attr) (h : Hp) (s : SlH kAttr h A n c l) (hn : n ≤ 4398046511104) : CallsH Tryd.prog 53 #[.slice A n c] h [] (RetSl kAttr l) := by
  refine callsH_of (args := [_]) Tryd.func53 rfl Tryd.ntmps53 rfl fun w => ?_
  cases A with
  | none =>
    obtain ⟨rfl, rfl⟩ := emptyIsNil (by decide) s
    repeat' (first | ((with_reducible apply GC.seq)) | ((with_reducible apply GC.region)) | ((with_reducible apply GO.nil)) | ((with_reducible apply QS.n)) | ((with_reducible apply GC.ret)) | ((with_reducible apply QS.r)) | ((with_reducible apply GC.condT); exact rfl; (first | exact rfl | assumption)) | ((with_reducible apply GO.move); exact rfl; exact rfl) | ((with_reducible apply GO.assign); exact rfl; exact rfl) | ((with_reducible apply GO.sl_nil); exact rfl; exact rfl; exact rfl; exact fU))
    exact FnQ.ret1 rfl rfl (View.drop ⟨none, 0, rfl, SlH.nil, rfl⟩)
  | some ad =>
    repeat' (first | ((with_reducible apply GC.seq)) | ((with_reducible apply GC.region)) | ((with_reducible apply GO.nil)) | ((with_reducible apply QS.n)) | ((with_reducible apply GC.skip)) | ((with_reducible apply GC.condF); exact rfl; (first | exact rfl | assumption)) | ((with_reducible apply GO.move); exact rfl; exact rfl) | ((with_reducible apply GO.assign); exact rfl; exact rfl) | ((with_reducible apply GO.sl_nil); exact rfl; exact rfl; exact rfl; exact fU) | ((with_reducible apply GO.buildSlice0); exact rfl; exact fU; exact fS; intro _))
    obtain ⟨xs, hf, hc⟩ := s.cells
    refine GO.append (i := 0) (E := 45) rfl rfl rfl rfl Tryd.underlying36 fE rfl (by decide) (SrcOk.ofH hf hc s.len rfl (by decide) (Hp.le_refl _)) (by omega) (by omega) ?_
    intro A' c' hcap
    simp only [Nat.zero_add, List.nil_append] at hcap ⊢
    repeat' (first | ((with_reducible apply GO.nil)) | ((with_reducible apply QS.n)) | ((with_reducible apply GC.ret)) | ((with_reducible apply GO.assign); exact rfl; exact rfl))
    refine FnQ.ret1 rfl rfl (View.giveRow fun h' hle hcells hcap => View.drop ⟨A', c', by rw [s.len], ?_, rfl⟩)
    exact ⟨rfl, by rw [s.len]; exact hcap, xs, hf.mono hle, hcells⟩

/-- An element's tokens. -/
def elemToks (name : ByteArray) (attrs : List Attr) (inside : List Tok) : List Tok := ⟨1, name, attrs, emptyS⟩ :: (inside ++ [⟨2, name, [], emptyS⟩])
theorem Flat.setAttrs {h : Hp} {l : List Tok} {xs : List Value} (hf : Flat kTok h l xs) {k : Nat} {x : Tok} (hk : l[k]? = some x) {A : Option Addr} {n c : Nat} (hs : SlH kAttr h A n c x.attrs) (hn : n ≤ big) : Flat kTok h l (setAt xs (k * 4 + 2) [.slice A n c]) := by
  induction l generalizing xs k with
  | nil => simp at hk
  | cons y l ih =>
    obtain ⟨cs, r, e, ho, hr⟩ := hf
    cases k with
    | zero =>
      simp at hk
      subst hk
      obtain ⟨A0, n0, c0, h1, h2, h3⟩ := ho
      subst e
      rw [h1]
      exact ⟨[.int .u8 y.kind, .string y.name, .slice A n c, .string y.text], r, by simp [setAt], ⟨A, n, c, rfl, hs, h3.1, h3.2.1, hn, h3.2.2.2⟩, hr⟩
    | succ k =>
      have hl : cs.length = 4 := kTok.len ho
      have := ih hr (k := k) (by simpa using hk)
      refine ⟨cs, setAt r (k * 4 + 2) [.slice A n c], ?_, ho, this⟩
      subst e
      unfold setAt
      rw [List.take_append, List.drop_append, hl]
      simp only [List.length_cons, List.length_nil, List.append_assoc]
      rw [List.take_of_length_le (by rw [hl]; omega), List.drop_of_length_le (by rw [hl]; omega), show (k + 1) * 4 + 2 - 4 = k * 4 + 2 by omega, show (k + 1) * 4 + 2 + (0 + 1) - 4 = k * 4 + 2 + (0 + 1) by omega]
      simp
theorem setAt_length {xs vs : List Value} {j : Nat} (h : j + vs.length ≤ xs.length) : (setAt xs j vs).length = xs.length := by
  simp [setAt]; omega

set_option maxRecDepth 100000 in
set_option maxHeartbeats 1000000 in
theorem Element_spec (name : ByteArray) (A B : Option Addr) (n c m cb : Nat) (attrs : List Attr) (inside : List Tok) (h : Hp) (hname : name.size ≤ big) (sa : SlH kAttr h A n c attrs) (si : SlH kTok h B m cb inside)
    (hn : n ≤ 4398046511104) (hm : m ≤ 1000000) (hin : ∀ x ∈ inside, x.attrs.length ≤ 4398046511104) :
    CallsH Tryd.prog 23 #[.string name, .slice A n c, .slice B m cb] h [] (RetSl kTok (elemToks name attrs inside)) := by
  refine callsH_of (args := [_, _, _]) Tryd.func23 rfl Tryd.ntmps23 rfl fun w => ?_
  repeat' (first | ((with_reducible apply GC.seq)) | ((with_reducible apply GC.region)) | ((with_reducible apply GO.nil)) | ((with_reducible apply QS.n)) | ((with_reducible apply GO.move); exact rfl; exact rfl) | ((with_reducible apply GO.assign); exact rfl; exact rfl) | ((with_reducible apply GO.add); exact rfl; exact rfl; exact rfl; (first | exact InR.i64 (by omega) (by omega) | exact InR.u8 (by omega) (by omega) | exact InR.i32 (by omega) (by omega) | exact InR.u32 (by omega) (by omega) | exact InR.u16 (by omega) (by omega) | exact InR.u64 (by omega) (by omega))) | ((with_reducible apply GO.len_sl); exact rfl; exact rfl; exact fU))
  refine GO.make0 (c := m + 2) rfl rfl rfl (by omega) Tryd.underlying22 fE (by omega) (by omega) (fun b => ?_)
  repeat' (first | ((with_reducible apply GC.seq)) | ((with_reducible apply GC.region)) | ((with_reducible apply GO.nil)) | ((with_reducible apply QS.n)) | ((with_reducible apply GO.move); exact rfl; exact rfl) | ((with_reducible apply GO.assign); exact rfl; exact rfl))
  refine GO.build (vs := [(0, .int .u8 1), (1, .string name), (2, .slice A n c)]) (v := .agg #[.int .u8 1, .string name, .slice A n c, .string emptyS]) rfl rfl (fun w => by kernel_rfl) ?_
  repeat' (first | ((with_reducible apply GC.seq)) | ((with_reducible apply GC.region)) | ((with_reducible apply GO.nil)) | ((with_reducible apply QS.n)) | ((with_reducible apply GO.move); exact rfl; exact rfl) | ((with_reducible apply GO.assign); exact rfl; exact rfl) | ((with_reducible apply GO.append); exact rfl; exact rfl; exact rfl; (first | exact pk0 | exact pk1 | exact pk2 | exact pk3 | exact pk4 | exact pk5); exact fU; exact fE; exact rfl; decide; (exact SrcOk.ofR (by (first | exact pk0 | exact pk1 | exact pk2 | exact pk3 | exact pk4 | exact pk5)) rfl rfl (by simp)); (first | omega | assumption); (first | omega | assumption); intro _ _ _) | ((with_reducible apply GO.buildSlice1); exact rfl; exact rfl; exact fU; exact fS; exact fZ; exact rfl; exact rfl; intro _))
  obtain ⟨ys, hfi, hci⟩ := si.cells
  refine GO.append (i := 1) (E := 38) rfl rfl rfl rfl Tryd.underlying22 fE rfl (by decide) (SrcOk.ofH hfi hci si.len rfl (by decide) (Hp.le_refl _)) (by omega) (by omega) ?_
  intro A1 c1 hc1
  repeat' (first | ((with_reducible apply GO.move); exact rfl; exact rfl))
  refine GO.build (vs := [(0, .int .u8 2), (1, .string name)]) (v := .agg #[.int .u8 2, .string name, .slice none 0 0, .string emptyS]) rfl rfl (fun w => by kernel_rfl) ?_
  repeat' (first | ((with_reducible apply GC.seq)) | ((with_reducible apply GC.region)) | ((with_reducible apply GC.block)) | ((with_reducible apply GO.nil)) | ((with_reducible apply QS.n)) | ((with_reducible apply GO.move); exact rfl; exact rfl) | ((with_reducible apply GO.assign); exact rfl; exact rfl) | ((with_reducible apply GO.len_sl); exact rfl; exact rfl; exact fU) | ((with_reducible apply GO.append); exact rfl; exact rfl; exact rfl; (first | exact pk0 | exact pk1 | exact pk2 | exact pk3 | exact pk4 | exact pk5); exact fU; exact fE; exact rfl; decide; (exact SrcOk.ofR (by (first | exact pk0 | exact pk1 | exact pk2 | exact pk3 | exact pk4 | exact pk5)) rfl rfl (by simp)); (first | omega | assumption); (first | omega | assumption); intro _ _ _) | ((with_reducible apply GO.buildSlice1); exact rfl; exact rfl; exact fU; exact fS; exact fZ; exact rfl; exact rfl; intro _))
  rename_i A2 c2 hc2
  have hflat : Flat kTok h (elemToks name attrs inside) ([] ++ [.int .u8 1, .string name, .slice A n c, .string emptyS] ++ ys ++ [.int .u8 2, .string name, .slice none 0 0, .string emptyS]) := by
    rw [List.nil_append, List.append_assoc]
    refine ⟨_, _, rfl, ⟨A, n, c, rfl, sa, hname, by simp [emptyS, ByteArray.size], by unfold big; omega, by simp, by simp⟩, ?_⟩
    exact hfi.snoc ⟨none, 0, 0, rfl, SlH.nil, hname, by simp [emptyS, ByteArray.size], by unfold big; omega, by simp, by simp⟩
  have hlen : (elemToks name attrs inside).length = 0 + 1 + m + 1 := by simp [elemToks, si.len]; omega
  have hin2 : ∀ x ∈ elemToks name attrs inside, x.attrs.length ≤ 4398046511104 := by
    intro x hx
    simp only [elemToks, List.mem_cons, List.mem_append, List.not_mem_nil, or_false] at hx
    rcases hx with rfl | hx | rfl
    · show attrs.length ≤ _
      rw [sa.len]; exact hn
    · exact hin x hx
    · simp
  refine GC.loop (α := Nat × List Value) (fun x => [(7, .slice A2 (0 + 1 + m + 1) c2), (27, .int .i64 ((0 + 1 + m + 1 : Nat) : Int)), (28, .int .i64 x.1)]) (fun x => [row A2 (0 + 1 + m + 1) c2 38 4 x.2]) (fun x h' => x.1 ≤ 0 + 1 + m + 1 ∧ Flat kTok h' (elemToks name attrs inside) x.2)
    (fun x => 0 + 1 + m + 1 - x.1) (0, _) ⟨by simp, hflat⟩ ⟨rfl, rfl, rfl, trivial⟩ (List.Sublist.cons _ (List.Sublist.cons _ (List.Sublist.refl _))) ?_
  rintro ⟨k, zs⟩ h' hle ⟨hk, hz⟩
  simp only at hk hz ⊢
  have hzl : zs.length = (0 + 1 + m + 1) * 4 := by rw [hz.length, hlen]; rfl
  by_cases hlt : (k : Int) < ((0 + 1 + m + 1 : Nat) : Int)
  · have hlt' := decide_eq_true hlt
    have hkl : k < (elemToks name attrs inside).length := by omega
    obtain ⟨cs, ⟨A0, n0, c0, rfl, hs0, h2, h3, h4, h5⟩, hcell⟩ := hz.at_ (List.getElem?_eq_getElem hkl)
    have hv2 : zs[k * 4 + 2]? = some (.slice A0 n0 c0) := hcell 2 _ rfl
    have hn0 : n0 ≤ 4398046511104 := by rw [← hs0.len]; exact hin2 _ (List.getElem_mem hkl)
    repeat' (first | ((with_reducible apply GC.seq)) | ((with_reducible apply GC.region)) | ((with_reducible apply GC.block)) | ((with_reducible apply GO.nil)) | ((with_reducible apply QS.n)) | ((with_reducible apply GC.skip)) | ((with_reducible apply GC.condT); exact rfl; (first | exact rfl | assumption)) | ((with_reducible apply GO.move); exact rfl; exact rfl) | ((with_reducible apply GO.assign); exact rfl; exact rfl) | ((with_reducible apply GO.lss); exact rfl; exact rfl; exact rfl) | ((with_reducible apply GO.fld_at); exact rfl; exact rfl; exact fF) | ((with_reducible apply GO.load_r); exact rfl; exact rfl; exact fG; (first | exact pk0 | exact pk1 | exact pk2 | exact pk3 | exact pk4 | exact pk5); (first | exact rfl | assumption)) | ((with_reducible apply GO.indexAddr_r); exact rfl; exact rfl; exact rfl; (first | with_reducible exact rfl | exact (Int.toNat_of_nonneg (by omega)).symm); exact fU; exact fS; (first | exact pk0 | exact pk1 | exact pk2 | exact pk3 | exact pk4 | exact pk5); (first | omega | assumption)))
    refine GO.call (vs := [_]) (caps := []) (Rin := []) (Rfr := [_]) rfl rfl rfl Tryd_ent53 (CloneAttr_spec A0 n0 c0 _ h' hs0 hn0) (List.Perm.refl _) (fun _ _ hr => by obtain ⟨_, _, hr, _⟩ := hr; cases hr) (fun _ _ _ _ hr => by obtain ⟨_, _, hr, _⟩ := hr; cases hr) ?_
    rintro v h2' R' hle2 ⟨A3, c3, hv, hs3, rfl⟩
    cases hv
    repeat' (first | ((with_reducible apply GC.region)) | ((with_reducible apply GO.nil)) | ((with_reducible apply QS.n)) | ((with_reducible apply QB.n)) | ((with_reducible apply GO.move); exact rfl; exact rfl) | ((with_reducible apply GO.add); exact rfl; exact rfl; exact rfl; (first | exact InR.i64 (by omega) (by omega) | exact InR.u8 (by omega) (by omega) | exact InR.i32 (by omega) (by omega) | exact InR.u32 (by omega) (by omega) | exact InR.u16 (by omega) (by omega) | exact InR.u64 (by omega) (by omega))) | ((with_reducible apply GO.fld_at); exact rfl; exact rfl; exact fF) | ((with_reducible apply GO.store_r); exact rfl; exact rfl; exact fS; (first | exact pk0 | exact pk1 | exact pk2 | exact pk3 | exact pk4 | exact pk5); exact rfl; exact rfl; (first | omega | assumption); exact rfl; decide) | ((with_reducible apply GO.indexAddr_r); exact rfl; exact rfl; exact rfl; (first | with_reducible exact rfl | exact (Int.toNat_of_nonneg (by omega)).symm); exact fU; exact fS; (first | exact pk0 | exact pk1 | exact pk2 | exact pk3 | exact pk4 | exact pk5); (first | omega | assumption)))
    refine QL.n (Hp.le_trans hle hle2) (k + 1, setAt zs (k * 4 + 2) [.slice A3 _ c3]) (by simp only; omega) ⟨by simp only; omega, ?_⟩ ⟨rfl, rfl, rfl, trivial⟩ (List.Sublist.refl _)
    exact (hz.mono hle2).setAttrs (List.getElem?_eq_getElem hkl) hs3 (by rw [hs0.len]; exact h4)
  · have hlt' := decide_eq_false hlt
    repeat' (first | ((with_reducible apply GC.seq)) | ((with_reducible apply GC.region)) | ((with_reducible apply GO.nil)) | ((with_reducible apply QS.n)) | ((with_reducible apply GC.ret)) | ((with_reducible apply GC.exit)) | ((with_reducible apply QS.ex)) | ((with_reducible apply QL.ex)) | ((with_reducible apply QB.ex)) | ((with_reducible apply GC.condF); exact rfl; (first | exact rfl | assumption)) | ((with_reducible apply GO.move); exact rfl; exact rfl) | ((with_reducible apply GO.assign); exact rfl; exact rfl) | ((with_reducible apply GO.lss); exact rfl; exact rfl; exact rfl))
    refine FnQ.ret1 rfl rfl (View.giveRow fun h2 hle2 hcells hcap => View.drop ⟨A2, c2, by rw [hlen], ⟨rfl, by rw [hlen]; exact hcap, zs, hz.mono hle2, hcells⟩, rfl⟩)
end Go.Proofs.YtajdjclhkoenfaaDoor
