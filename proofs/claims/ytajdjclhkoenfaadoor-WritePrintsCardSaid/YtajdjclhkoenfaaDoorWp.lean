/- Tokens as text: write.Print. -/
import Derived.Test.YtajdjclhkoenfaaDoorWo
set_option linter.unusedSimpArgs false
set_option linter.unusedVariables false
namespace Go.Proofs.YtajdjclhkoenfaaDoor
open Go.RowKit

def byts (s : ByteArray) : List UInt8 := s.data.toList
def attrB (a : Attr) : List UInt8 := 32 :: (byts a.name ++ 61 :: 39 :: (byts (escS a.value) ++ [39]))
def nextEnd : List Tok → Bool
  | [] => false
  | t :: _ => decide (t.kind = 2)
def pr : Bool → List Tok → List UInt8
  | _, [] => []
  | pb, t :: r =>
    if t.kind = 3 then byts (escS t.text) ++ pr false r
    else if t.kind = 2 then (if pb then pr false r else 60 :: 47 :: (byts t.name ++ 62 :: pr false r))
    else 60 :: (byts t.name ++ (t.attrs.flatMap attrB ++ ((if nextEnd r then [47] else []) ++ 62 :: pr true r)))
def PrintV (l : List Tok) : Value := if RightA l then .tuple #[.string ⟨(pr false l).toArray⟩, .int .i64 0] else .tuple #[.string emptyS, .int .i64 3]
theorem pr_true {r : List Tok} (h : nextEnd r = false) : pr true r = pr false r := by
  cases r with
  | nil => rfl
  | cons t r =>
    have h2 : ¬ t.kind = 2 := by simpa [nextEnd] using h
    rw [pr, pr]
    simp only [if_neg h2]
theorem byts_length (s : ByteArray) : (byts s).length = s.size := (Lib.size_eq s).symm
theorem byts_append (a b : ByteArray) : byts (a ++ b) = byts a ++ byts b := by simp [byts]

/-! ### what a right document is -/
theorem walkStep_right {st st' : List ByteArray} {p3 : Bool} {t : Tok} (hs : walkStep st p3 t = some st') : rightA t = true := by
  unfold walkStep at hs
  split at hs
  · cases hs
  · rename_i h; simpa using h
theorem finW_all : ∀ (l : List Tok) (st : List ByteArray) (p3 : Bool) (f : List ByteArray), finW st p3 l = some f → (∀ t ∈ l, rightA t = true) ∧ (f = [] → ∀ k t, l[k]? = some t → t.kind = 1 → k + 1 < l.length)
  | [], st, p3, f, h => ⟨by simp, by simp⟩
  | t :: r, st, p3, f, h => by
    rw [finW] at h
    cases hs : walkStep st p3 t with
    | none => rw [hs] at h; cases h
    | some st' =>
      rw [hs] at h
      simp only at h
      obtain ⟨h1, h2⟩ := finW_all r st' _ f h
      refine ⟨fun x hx => ?_, fun hf k x hx hk => ?_⟩
      · rcases List.mem_cons.1 hx with rfl | hx
        · exact walkStep_right hs
        · exact h1 x hx
      · cases k with
        | succ k => have := h2 hf k x (by simpa using hx) hk; simp; omega
        | zero =>
          simp at hx
          subst hx
          cases r with
          | cons _ _ => simp
          | nil =>
            rw [finW] at h
            cases h
            rcases walkStep_kind hs with ⟨_, h3⟩ | ⟨h3, _⟩ | ⟨h3, _⟩
            · rw [hf] at h3; simp at h3
            · omega
            · omega
theorem right_all {l : List Tok} (h : RightA l = true) : l.length ≤ 64 ∧ (∀ t ∈ l, rightA t = true) ∧ (∀ k t, l[k]? = some t → t.kind = 1 → k + 1 < l.length) := by
  rw [RightA_fin, Bool.and_eq_true] at h
  obtain ⟨h1, h2⟩ := h
  obtain ⟨h3, h4⟩ := finW_all l [] false [] (of_decide_eq_true h2)
  refine ⟨?_, h3, h4 rfl⟩
  have := of_decide_eq_false ((Bool.not_eq_true' _).mp h1)
  omega
theorem nameB_size {s : ByteArray} (h : nameB s = true) : s.size ≤ 32 := by
  unfold nameB at h
  simp only [Bool.and_eq_true] at h
  have := of_decide_eq_true h.2.2
  omega
theorem fitsA_size {s : ByteArray} (h : fitsA s = true) : s.size ≤ 512 := by
  unfold fitsA at h
  simp only [Bool.and_eq_true] at h
  have := of_decide_eq_true h.1
  omega
theorem attrsOk_all : ∀ {l : List Attr} {seen : List ByteArray}, attrsOk seen l = true → ∀ a ∈ l, nameB a.name = true ∧ fitsA a.value = true
  | [], _, _, a, ha => by cases ha
  | b :: r, seen, h, a, ha => by
    rw [attrsOk] at h
    simp only [Bool.and_eq_true] at h
    rcases List.mem_cons.1 ha with rfl | ha
    · exact ⟨h.1.1.1.2, h.1.1.2⟩
    · exact attrsOk_all h.2 a ha
theorem right_kinds {t : Tok} (h : rightA t = true) : (t.kind = 1 ∧ t.name.size ≤ 32 ∧ t.attrs.length ≤ 8 ∧ ∀ a ∈ t.attrs, a.name.size ≤ 32 ∧ a.value.size ≤ 512) ∨ (t.kind = 2 ∧ t.name.size ≤ 32) ∨ (t.kind = 3 ∧ t.text.size ≤ 512) := by
  unfold rightA at h
  split at h
  · rename_i k3
    simp only [Bool.and_eq_true] at h
    exact .inr (.inr ⟨k3, fitsA_size h.2⟩)
  split at h
  · rename_i k2
    simp only [Bool.and_eq_true] at h
    exact .inr (.inl ⟨k2, nameB_size h.1.1⟩)
  split at h
  · rename_i k1
    simp only [Bool.and_eq_true] at h
    refine .inl ⟨k1, nameB_size h.2.1, ?_, fun a ha => ?_⟩
    · have h8 := h.1
      rw [attrs_eq _ _ (by simp)] at h8
      simp only [Bool.and_eq_true] at h8
      have := of_decide_eq_true h8.1
      simpa using this
    · obtain ⟨h1, h2⟩ := attrsOk_all h.1 a ha
      exact ⟨nameB_size h1, fitsA_size h2⟩
  · cases h

/-- A Builder's state. -/
structure BS where
  p : Option Addr
  A : Option Addr
  n : Nat
  c : Nat
  bs : List UInt8
def BS.ok (bb : Nat) (x : BS) : Prop := (x.p = none ∨ x.p = some ⟨bb, 0, none⟩) ∧ x.n = x.bs.length
def BS.R (bb : Nat) (x : BS) : List Res := bldR bb x.p x.A x.n x.c x.bs
section
variable {C : Ctx} {ops : Array Oper} {Q : Post} {l : List Oper} {e : Env} {R Rfr : List Res} {h : Hp} {ds : List Deferred} {d ty : Nat} {pos : String} {after : Array Edge}
theorem GO.wstr {x y : Operand} {ats : Array TypeId} {bb : Nat} {X : BS} {s : ByteArray} (hP : C.P = Tryd.prog) (hn : Nat.blt d C.n = true) (hx : opE e x = some (.pointer (some ⟨bb, 0, none⟩))) (hy : opE e y = some (.string s)) (hX : X.ok bb) (hR : (BS.R bb X ++ Rfr).Perm R) (hs : X.n + s.size ≤ 140737488355328)
    (k : ∀ Y : BS, Y.ok bb → Y.bs = X.bs ++ byts s → GO C ops Q l ((d, .tuple #[.int .i64 s.size, .nilIface]) :: e) (BS.R bb Y ++ Rfr) h ds) :
    GO C ops Q (⟨some d, .call ⟨.value (.func 44), #[x, y], ats⟩, ty, pos, after, none⟩ :: l) e R h ds := by
  refine GO.call (dst := some d) (args := [x, y]) (vs := [.pointer (some ⟨bb, 0, none⟩), .string s]) (caps := []) (Rin := BS.R bb X) (Rfr := Rfr) hn rfl (by simp only [opsE, hx, hy]) (by rw [hP]; exact fN) (by rw [hP]; exact WriteString_spec bb X.p X.A X.n X.c X.bs s h hX.1 hs) hR (fun _ _ hr => by cases hr.1) (fun _ _ _ _ hr => by cases hr.1) ?_
  rintro v h1 R1 hle1 ⟨hv, rfl, A', c', hc', rfl⟩
  cases hv
  refine k ⟨some ⟨bb, 0, none⟩, A', X.n + s.size, c', X.bs ++ byts s⟩ ⟨.inr rfl, ?_⟩ rfl
  show X.n + s.size = (X.bs ++ byts s).length
  rw [List.length_append, byts_length, hX.2]
theorem GO.wstr0 {x y : Operand} {ats : Array TypeId} {bb : Nat} {s : ByteArray} (X : BS) (hP : C.P = Tryd.prog) (hn : Nat.blt d C.n = true) (hx : opE e x = some (.pointer (some ⟨bb, 0, none⟩))) (hy : opE e y = some (.string s)) (hR : R = BS.R bb X) (hX : X.ok bb) (hs : X.n + s.size ≤ 140737488355328)
    (k : ∀ Y : BS, Y.ok bb → Y.bs = X.bs ++ byts s → GO C ops Q l ((d, .tuple #[.int .i64 s.size, .nilIface]) :: e) (BS.R bb Y) h ds) :
    GO C ops Q (⟨some d, .call ⟨.value (.func 44), #[x, y], ats⟩, ty, pos, after, none⟩ :: l) e R h ds :=
  GO.wstr (Rfr := []) hP hn hx hy hX (by rw [List.append_nil, hR]) hs (fun Y h1 h2 => by rw [List.append_nil]; exact k Y h1 h2)
end

set_option maxRecDepth 100000 in
set_option maxHeartbeats 4000000 in
theorem Print_spec (A : Option Addr) (n c : Nat) (h : Hp) (l : List Tok) (sl : SlH kTok h A n c l) (hn : n ≤ big) : CallsV Tryd.prog 14 #[.slice A n c] h (PrintV l) := by
  have hn0 := hn
  unfold big at hn
  have hl := sl.len
  refine callsH_of (args := [_]) Tryd.func14 rfl Tryd.ntmps14 rfl fun w => ?_
  cases hr : RightA l with
  | false =>
    have hr' : (!RightA l) = true := by rw [hr]; rfl
    repeat' (first | ((with_reducible apply GC.seq)) | ((with_reducible apply GC.region)) | ((with_reducible apply GO.nil)) | ((with_reducible apply QS.n)) | ((with_reducible apply GC.ret)) | ((with_reducible apply QS.r)) | ((with_reducible apply GC.condT); exact rfl; (first | exact rfl | assumption)) | ((with_reducible apply GO.callV (f := 17) (vs := [_]) (caps := [])); exact rfl; exact rfl; exact rfl; exact fN; exact Right_spec _ _ _ _ _ sl hn0) | ((with_reducible apply GO.move); exact rfl; exact rfl) | ((with_reducible apply GO.assign); exact rfl; exact rfl) | ((with_reducible apply GO.not_); exact rfl; exact rfl))
    refine FnQ.ret2 rfl rfl rfl (View.first (Hp.le_refl _) ⟨?_, rfl, rfl⟩)
    rw [PrintV, hr]; rfl
  | true =>
  have hr' : (!RightA l) = false := by rw [hr]; rfl
  obtain ⟨hl64, hall, hnext⟩ := right_all hr
  have hPV : PrintV l = .tuple #[.string ⟨(pr false l).toArray⟩, .int .i64 0] := by rw [PrintV, hr]; rfl
  rw [hPV]
  repeat' (first | ((with_reducible apply GC.seq)) | ((with_reducible apply GC.region)) | ((with_reducible apply GC.block)) | ((with_reducible apply GO.nil)) | ((with_reducible apply QS.n)) | ((with_reducible apply GC.skip)) | ((with_reducible apply GC.condF); exact rfl; (first | exact rfl | assumption)) | ((with_reducible apply GO.callV (f := 17) (vs := [_]) (caps := [])); exact rfl; exact rfl; exact rfl; exact fN; exact Right_spec _ _ _ _ _ sl hn0) | ((with_reducible apply GO.move); exact rfl; exact rfl) | ((with_reducible apply GO.assign); exact rfl; exact rfl) | ((with_reducible apply GO.not_); exact rfl; exact rfl) | ((with_reducible apply GO.alloc); exact rfl; exact fZ; exact rfl; intro _))
  rename_i bb
  refine GC.nilRow 5 1 ?_
  refine GC.perm (R' := BS.R bb ⟨none, none, 0, 0, []⟩) (List.Perm.swap _ _ _) ?_
  refine GC.loop (α := Nat × BS) (fun x => [(0, .slice A n c), (4, .pointer (some ⟨bb, 0, none⟩)), (5, .int .i64 x.1)]) (fun x => BS.R bb x.2)
    (fun x h' => x.1 ≤ n ∧ x.2.ok bb ∧ x.2.bs ++ pr false (l.drop x.1) = pr false l ∧ x.2.bs.length ≤ 30000 * x.1) (fun x => n - x.1) (0, ⟨none, none, 0, 0, []⟩) ⟨by simp, ⟨.inl rfl, rfl⟩, by simp, by simp⟩ ⟨rfl, rfl, rfl, trivial⟩ (List.Sublist.refl _) ?_
  rintro ⟨k, X⟩ h' hle ⟨hk, hX, hpr, hlen⟩
  simp only at hk hX hpr hlen ⊢
  have hXn := hX.2
  by_cases hlt : (k : Int) < n
  · have hlt' := decide_eq_true hlt
    have hkl : k < l.length := by omega
    have sl2 := sl.mono hle
    obtain ⟨cs, ⟨Aa, na, ca, rfl, sa, ht1, ht2, hna, hk0, hk255⟩, hcell⟩ := sl2.elemAt (List.getElem?_eq_getElem hkl)
    have hA := sl2.some_ (by decide) (by omega)
    have hkind := right_kinds (hall _ (List.getElem_mem hkl))
    have hnx := hnext k _ (List.getElem?_eq_getElem hkl)
    rw [List.drop_eq_getElem_cons hkl, pr] at hpr
    obtain ⟨t, ht⟩ : ∃ t, l[k] = t := ⟨_, rfl⟩
    rw [ht] at sa ht1 ht2 hk0 hk255 hcell hpr hkind hnx
    have sak := sa.len
    repeat' (first | ((with_reducible apply GC.seq)) | ((with_reducible apply GC.region' [8]); exact rfl) | ((with_reducible apply GC.block)) | ((with_reducible apply GO.nil)) | ((with_reducible apply QS.n)) | ((with_reducible apply GC.skip)) | ((with_reducible apply GC.condT); exact rfl; (first | exact rfl | assumption)) | ((with_reducible apply GO.move); exact rfl; exact rfl) | ((with_reducible apply GO.lss); exact rfl; exact rfl; exact rfl) | ((with_reducible apply GO.len_sl); exact rfl; exact rfl; exact fU) | ((with_reducible apply GO.load_hA); exact rfl; exact rfl; exact fG; exact fS; assumption; exact rfl) | ((with_reducible apply GO.alloc); exact rfl; exact fZ; exact rfl; intro _) | ((with_reducible apply GO.store_b); exact rfl; exact rfl; exact fS; (first | exact pk0 | exact pk1 | exact pk2 | exact pk3 | exact pk4 | exact pk5); exact rfl; exact rfl; exact rfl; exact rfl; exact rfl) | ((with_reducible apply GO.indexAddr); exact rfl; exact rfl; exact rfl; (first | with_reducible exact rfl | exact (Int.toNat_of_nonneg (by omega)).symm); exact fU; exact fS; (first | exact rfl | assumption); (first | omega | assumption)))
    rename_i vb
    refine GC.freeze 0 rfl fun h3 hle3 hc => ?_
    have hca : ∀ j u, ([.int .u8 t.kind, .string t.name, .slice Aa na ca, .string t.text] : List Value)[j]? = some u → h3.cell ((⟨vb, 0, none⟩ : Addr).add j) = some u := CellsOf.all hc
    obtain ⟨c0, c1, c2, c3'⟩ := hc
    replace c3' : h3.cell ⟨vb, 3, none⟩ = some (.string t.text) := c3'
    have hle23 := Hp.le_trans hle hle3
    rcases hkind with ⟨k1, hs1, hs8, hsa⟩ | ⟨k2, hs1⟩ | ⟨k3, hs1⟩
    · have d3 : decide (t.kind = 3) = false := decide_eq_false (by omega)
      have d2 : decide (t.kind = 2) = false := decide_eq_false (by omega)
      have hk1 := hnx k1
      rw [if_neg (by omega), if_neg (by omega)] at hpr
      have e1 : (⟨#[60]⟩ ++ t.name : ByteArray).size = 1 + t.name.size := by rw [ByteArray.size_append]; rfl
      have e0 : (⟨#[60]⟩ : ByteArray).size = 1 := rfl
      repeat' (first | ((with_reducible apply GC.seq)) | ((with_reducible apply GC.region)) | ((with_reducible apply GC.block)) | ((with_reducible apply GO.nil)) | ((with_reducible apply QS.n)) | ((with_reducible apply GC.condF); exact rfl; (first | exact rfl | assumption)) | ((with_reducible apply GO.assign); exact rfl; exact rfl) | ((with_reducible apply GO.eql); exact rfl; exact rfl; exact rfl) | ((with_reducible apply GO.str_add); exact rfl; exact rfl; exact rfl; (first | omega | assumption)) | ((with_reducible apply GO.fld); exact rfl; exact rfl; exact fF) | ((with_reducible apply GO.load_h); exact rfl; exact rfl; exact fG; (first | assumption | exact Hp.cell_up (by assumption) (by assumption))))
      apply GO.wstr0 X
      iterate 5 exact rfl
      · exact hX
      · omega
      intro Y hY hYb
      have hYl : Y.bs.length = X.bs.length + (1 + t.name.size) := by rw [hYb, List.length_append, byts_length, e1]
      have hYp : Y.bs ++ (t.attrs.flatMap attrB ++ ((if nextEnd (l.drop (k + 1)) then [47] else []) ++ 62 :: pr true (l.drop (k + 1)))) = pr false l := by
        rw [hYb, ← hpr, byts_append]; simp [byts]
      repeat' (first | ((with_reducible apply GC.seq)) | ((with_reducible apply GC.region)) | ((with_reducible apply GC.block)) | ((with_reducible apply GO.nil)) | ((with_reducible apply QS.n)) | ((with_reducible apply GO.move); exact rfl; exact rfl) | ((with_reducible apply GO.len_sl); exact rfl; exact rfl; exact fU) | ((with_reducible apply GO.fld); exact rfl; exact rfl; exact fF) | ((with_reducible apply GO.load_h); exact rfl; exact rfl; exact fG; (first | assumption | exact Hp.cell_up (by assumption) (by assumption))))
      refine GC.loop (α := Nat × BS) (fun x => [(0, .slice A n c), (4, .pointer (some ⟨bb, 0, none⟩)), (5, .int .i64 k), (6, .pointer (some ⟨vb, 0, none⟩)), (29, .slice Aa na ca), (30, .int .i64 na), (31, .int .i64 x.1)]) (fun x => BS.R bb x.2)
        (fun x h' => h3.le h' ∧ x.1 ≤ na ∧ x.2.ok bb ∧ x.2.bs ++ ((t.attrs.drop x.1).flatMap attrB ++ ((if nextEnd (l.drop (k + 1)) then [47] else []) ++ 62 :: pr true (l.drop (k + 1)))) = pr false l ∧ x.2.bs.length ≤ Y.bs.length + 3200 * x.1) (fun x => na - x.1) (0, Y) ⟨Hp.le_refl _, by simp, hY, by simpa using hYp, by simp⟩ ⟨rfl, rfl, rfl, rfl, rfl, rfl, rfl, trivial⟩ (List.Sublist.refl _) ?_
      rintro ⟨j, Z⟩ h4 hle4 ⟨_, hj, hZ, hZp, hZl⟩
      simp only at hj hZ hZp hZl ⊢
      have hZn := hZ.2
      by_cases hjn : (j : Int) < na
      · have hjn' := decide_eq_true hjn
        have hjl : j < t.attrs.length := by omega
        have sa4 := (sa.mono hle3).mono hle4
        obtain ⟨cs2, ⟨rfl, hb1, hb2⟩, hcell2⟩ := sa4.elemAt (List.getElem?_eq_getElem hjl)
        have hA2 := sa4.some_ (by decide) (by omega)
        obtain ⟨hs2, hs3⟩ := hsa _ (List.getElem_mem hjl)
        rw [List.drop_eq_getElem_cons hjl, List.flatMap_cons] at hZp
        generalize t.attrs[j] = at0 at *
        repeat' (first | ((with_reducible apply GC.seq)) | ((with_reducible apply GC.region' [13]); exact rfl) | ((with_reducible apply GC.block)) | ((with_reducible apply GO.nil)) | ((with_reducible apply QS.n)) | ((with_reducible apply GC.skip)) | ((with_reducible apply GC.condT); exact rfl; (first | exact rfl | assumption)) | ((with_reducible apply GO.lss); exact rfl; exact rfl; exact rfl) | ((with_reducible apply GO.load_hA); exact rfl; exact rfl; exact fG; exact fS; assumption; exact rfl) | ((with_reducible apply GO.alloc); exact rfl; exact fZ; exact rfl; intro _) | ((with_reducible apply GO.store_b); exact rfl; exact rfl; exact fS; (first | exact pk0 | exact pk1 | exact pk2 | exact pk3 | exact pk4 | exact pk5); exact rfl; exact rfl; exact rfl; exact rfl; exact rfl) | ((with_reducible apply GO.indexAddr); exact rfl; exact rfl; exact rfl; (first | with_reducible exact rfl | exact (Int.toNat_of_nonneg (by omega)).symm); exact fU; exact fS; (first | exact rfl | assumption); (first | omega | assumption)))
        rename_i ab
        refine GC.freeze 0 rfl fun h5 hle5 hc5 => ?_
        obtain ⟨a0, a1⟩ := hc5
        replace a1 : h5.cell ⟨ab, 1, none⟩ = some (.string at0.value) := a1
        have hes := escS_size at0.value
        have e2 : (⟨#[32]⟩ : ByteArray).size = 1 := rfl
        have e3 : (⟨#[61, 39]⟩ : ByteArray).size = 2 := rfl
        have e4 : (⟨#[39]⟩ : ByteArray).size = 1 := rfl
        have e5 : (⟨#[32]⟩ ++ at0.name : ByteArray).size = 1 + at0.name.size := by rw [ByteArray.size_append]; rfl
        have e6 : (⟨#[32]⟩ ++ at0.name ++ ⟨#[61, 39]⟩ : ByteArray).size = 1 + at0.name.size + 2 := by rw [ByteArray.size_append, e5]; rfl
        have e7 : (⟨#[32]⟩ ++ at0.name ++ ⟨#[61, 39]⟩ ++ escS at0.value : ByteArray).size = 1 + at0.name.size + 2 + (escS at0.value).size := by rw [ByteArray.size_append, e6]
        have e8 : (⟨#[32]⟩ ++ at0.name ++ ⟨#[61, 39]⟩ ++ escS at0.value ++ ⟨#[39]⟩ : ByteArray).size = 1 + at0.name.size + 2 + (escS at0.value).size + 1 := by rw [ByteArray.size_append, e7]; rfl
        repeat' (first | ((with_reducible apply GB.region (n := 10) []); exact rfl; exact rfl; exact fM; decide +kernel; decide +kernel) | ((with_reducible apply GB.first); exact rfl; exact rfl; exact rfl; decide +kernel; decide +kernel; ((intro _ _ _); (repeat (first | ((with_reducible apply GO.callV (f := 45) (vs := [_]) (caps := [])); exact rfl; exact rfl; exact rfl; exact fN; exact Escape_spec _ _ (by omega)) | ((with_reducible apply GO.move); exact rfl; exact rfl) | ((with_reducible apply GO.assign); exact rfl; exact rfl) | ((with_reducible apply GO.pick_t); exact rfl; exact rfl; (first | exact rfl | assumption); exact rfl) | ((with_reducible apply GO.pick_f); exact rfl; exact rfl; (first | exact rfl | assumption); exact rfl) | ((with_reducible apply GO.extract); exact rfl; exact rfl; exact rfl) | ((with_reducible apply GO.eql); exact rfl; exact rfl; exact rfl) | ((with_reducible apply GO.neq); exact rfl; exact rfl; exact rfl) | ((with_reducible apply GO.str_eql); exact rfl; exact rfl; exact rfl) | ((with_reducible apply GO.str_neq); exact rfl; exact rfl; exact rfl) | ((with_reducible apply GO.lss); exact rfl; exact rfl; exact rfl) | ((with_reducible apply GO.leq); exact rfl; exact rfl; exact rfl) | ((with_reducible apply GO.gtr); exact rfl; exact rfl; exact rfl) | ((with_reducible apply GO.geq); exact rfl; exact rfl; exact rfl) | ((with_reducible apply GO.add); exact rfl; exact rfl; exact rfl; (first | exact InR.i64 (by omega) (by omega) | exact InR.u8 (by omega) (by omega) | exact InR.i32 (by omega) (by omega) | exact InR.u32 (by omega) (by omega) | exact InR.u16 (by omega) (by omega) | exact InR.u64 (by omega) (by omega))) | ((with_reducible apply GO.sub); exact rfl; exact rfl; exact rfl; (first | exact InR.i64 (by omega) (by omega) | exact InR.u8 (by omega) (by omega) | exact InR.i32 (by omega) (by omega) | exact InR.u32 (by omega) (by omega) | exact InR.u16 (by omega) (by omega) | exact InR.u64 (by omega) (by omega))) | ((with_reducible apply GO.str_add); exact rfl; exact rfl; exact rfl; (first | omega | assumption)) | ((with_reducible apply GO.not_); exact rfl; exact rfl) | ((with_reducible apply GO.bool_eql); exact rfl; exact rfl; exact rfl; exact fU) | ((with_reducible apply GO.sl_nil); exact rfl; exact rfl; exact rfl; exact fU) | ((with_reducible apply GO.ptr_nil); exact rfl; exact rfl; exact rfl; exact fU) | ((with_reducible apply GO.len_str); exact rfl; exact rfl; exact fU) | ((with_reducible apply GO.len_sl); exact rfl; exact rfl; exact fU) | ((with_reducible apply GO.index_str); exact rfl; exact rfl; exact rfl; exact fU; (first | omega | assumption)) | ((with_reducible apply GO.conv_int); exact rfl; exact rfl; exact fU; exact fU; (first | exact InR.i64 (by omega) (by omega) | exact InR.u8 (by omega) (by omega) | exact InR.i32 (by omega) (by omega) | exact InR.u32 (by omega) (by omega) | exact InR.u16 (by omega) (by omega) | exact InR.u64 (by omega) (by omega))) | ((with_reducible apply GO.nilCheck); exact rfl; exact rfl) | ((with_reducible apply GO.slice_str); exact rfl; exact rfl; exact rfl; exact rfl; exact fU; (exact ⟨by omega, by omega, by omega⟩)) | ((with_reducible apply GO.makeFunc); exact rfl; exact rfl; exact rfl) | ((with_reducible apply GO.makeIface); exact rfl; exact rfl; exact fU; exact rfl) | ((with_reducible apply GO.fld_at); exact rfl; exact rfl; exact fF) | ((with_reducible apply GO.fld); exact rfl; exact rfl; exact fF) | ((with_reducible apply GO.load_h); exact rfl; exact rfl; exact fG; (first | assumption | exact Hp.cell_up (by assumption) (by assumption))) | ((with_reducible apply GO.load_hA); exact rfl; exact rfl; exact fG; exact fS; assumption; exact rfl) | ((with_reducible apply GO.indexAddr); exact rfl; exact rfl; exact rfl; (first | with_reducible exact rfl | exact (Int.toNat_of_nonneg (by omega)).symm); exact fU; exact fS; (first | exact rfl | assumption); (first | omega | assumption)) | ((with_reducible apply GO.indexAddr_at); exact rfl; exact rfl; exact rfl; exact fU; exact fS; decide) | ((with_reducible apply GO.indexAddr_a); exact rfl; exact rfl; exact rfl; exact fU; exact fS; decide))); (with_reducible apply GO.nil); (with_reducible apply QV.n); exact rfl; exact rfl)) | ((with_reducible apply GB.single); exact rfl; decide +kernel))
        apply GO.wstr0 Z
        iterate 5 exact rfl
        · exact hZ
        · omega
        intro W hW hWb
        repeat' (first | ((with_reducible apply GC.region)) | ((with_reducible apply GO.nil)) | ((with_reducible apply QS.n)) | ((with_reducible apply QB.n)) | ((with_reducible apply GO.move); exact rfl; exact rfl) | ((with_reducible apply GO.add); exact rfl; exact rfl; exact rfl; (first | exact InR.i64 (by omega) (by omega) | exact InR.u8 (by omega) (by omega) | exact InR.i32 (by omega) (by omega) | exact InR.u32 (by omega) (by omega) | exact InR.u16 (by omega) (by omega) | exact InR.u64 (by omega) (by omega))) | ((with_reducible apply GB.next); exact rfl) | ((with_reducible apply GB.done); decide +kernel) | ((with_reducible apply QA.n); (first | exact Hp.le_refl _ | assumption | exact Hp.le_trans (by assumption) (by assumption))))
        refine QL.n (Hp.le_trans hle4 hle5) (j + 1, W) (by simp only; omega) ⟨Hp.le_trans hle4 hle5, by simp only; omega, hW, ?_, ?_⟩ ⟨rfl, rfl, rfl, rfl, rfl, rfl, rfl, trivial⟩ (List.Sublist.refl _)
        · rw [hWb, ← hZp]; simp [byts_append, attrB, byts]
        · rw [hWb, List.length_append, byts_length]; simp only [e8]; omega
      · have hjn' := decide_eq_false hjn
        have hjj : j = na := by omega
        rw [List.drop_of_length_le (by omega), List.flatMap_nil, List.nil_append] at hZp
        have hkt : ((k : Int) + 1).toNat = k + 1 := by omega
        have hk1' : ((k : Int) + 1).toNat < l.length := by omega
        have sl4 := (sl2.mono hle3).mono hle4
        obtain ⟨cs2, ⟨Ab, nb, cb, rfl, _⟩, hcell2⟩ := sl4.elem (List.getElem?_eq_getElem hk1')
        have g0 := hcell2 0 _ rfl
        have hne : nextEnd (l.drop (k + 1)) = decide (l[((k : Int) + 1).toNat].kind = 2) := by rw [← hkt, List.drop_eq_getElem_cons hk1']; rfl
        by_cases hend : l[((k : Int) + 1).toNat].kind = 2
        · have d4 := decide_eq_true hend
          rw [hne, d4, if_pos rfl, ← hkt, List.drop_eq_getElem_cons hk1', pr, if_neg (by omega), if_pos hend, if_pos rfl, hkt] at hZp
          repeat' (first | ((with_reducible apply GC.seq)) | ((with_reducible apply GC.region)) | ((with_reducible apply GO.nil)) | ((with_reducible apply QS.n)) | ((with_reducible apply GC.exit)) | ((with_reducible apply QS.ex)) | ((with_reducible apply QL.ex)) | ((with_reducible apply QB.ex)) | ((with_reducible apply GC.condT); exact rfl; (first | exact rfl | assumption)) | ((with_reducible apply GC.condF); exact rfl; (first | exact rfl | assumption)) | ((with_reducible apply GO.move); exact rfl; exact rfl) | ((with_reducible apply GO.eql); exact rfl; exact rfl; exact rfl) | ((with_reducible apply GO.lss); exact rfl; exact rfl; exact rfl) | ((with_reducible apply GO.add); exact rfl; exact rfl; exact rfl; (first | exact InR.i64 (by omega) (by omega) | exact InR.u8 (by omega) (by omega) | exact InR.i32 (by omega) (by omega) | exact InR.u32 (by omega) (by omega) | exact InR.u16 (by omega) (by omega) | exact InR.u64 (by omega) (by omega))) | ((with_reducible apply GO.fld_at); exact rfl; exact rfl; exact fF) | ((with_reducible apply GO.load_h); exact rfl; exact rfl; exact fG; (first | assumption | exact Hp.cell_up (by assumption) (by assumption))) | ((with_reducible apply GO.indexAddr); exact rfl; exact rfl; exact rfl; (first | with_reducible exact rfl | exact (Int.toNat_of_nonneg (by omega)).symm); exact fU; exact fS; (first | exact rfl | assumption); (first | omega | assumption)))
          apply GO.wstr0 Z
          iterate 5 exact rfl
          · exact hZ
          · simp only [ByteArray.size]; simp; omega
          intro V hV hVb
          have hVl : V.bs.length = Z.bs.length + 1 := by rw [hVb, List.length_append, byts_length]; rfl
          have hVn := hV.2
          repeat' (first | ((with_reducible apply GC.region)) | ((with_reducible apply GO.nil)) | ((with_reducible apply QS.n)) | ((with_reducible apply GO.move); exact rfl; exact rfl) | ((with_reducible apply GO.assign); exact rfl; exact rfl) | ((with_reducible apply GO.add); exact rfl; exact rfl; exact rfl; (first | exact InR.i64 (by omega) (by omega) | exact InR.u8 (by omega) (by omega) | exact InR.i32 (by omega) (by omega) | exact InR.u32 (by omega) (by omega) | exact InR.u16 (by omega) (by omega) | exact InR.u64 (by omega) (by omega))))
          apply GO.wstr0 V
          iterate 5 exact rfl
          · exact hV
          · simp only [ByteArray.size]; simp; omega
          intro W hW hWb
          repeat' (first | ((with_reducible apply GC.region)) | ((with_reducible apply GO.nil)) | ((with_reducible apply QS.n)) | ((with_reducible apply QB.n)) | ((with_reducible apply GO.move); exact rfl; exact rfl) | ((with_reducible apply GO.assign); exact rfl; exact rfl) | ((with_reducible apply GO.add); exact rfl; exact rfl; exact rfl; (first | exact InR.i64 (by omega) (by omega) | exact InR.u8 (by omega) (by omega) | exact InR.i32 (by omega) (by omega) | exact InR.u32 (by omega) (by omega) | exact InR.u16 (by omega) (by omega) | exact InR.u64 (by omega) (by omega))))
          refine QL.n (Hp.le_trans hle23 hle4) (k + 2, W) (by simp only; omega) ⟨by simp only; omega, hW, ?_, ?_⟩ ⟨rfl, rfl, rfl, trivial⟩ (List.Sublist.refl _)
          · rw [hWb, hVb, ← hZp]; simp [byts]
          · rw [hWb, List.length_append, byts_length, hVl]; simp only [ByteArray.size]; simp; omega
        · have d4 := decide_eq_false hend
          rw [hne, d4, if_neg (by simp), List.nil_append, pr_true (by rw [hne, d4])] at hZp
          repeat' (first | ((with_reducible apply GC.seq)) | ((with_reducible apply GC.region)) | ((with_reducible apply GO.nil)) | ((with_reducible apply QS.n)) | ((with_reducible apply GC.skip)) | ((with_reducible apply GC.exit)) | ((with_reducible apply QS.ex)) | ((with_reducible apply QL.ex)) | ((with_reducible apply QB.ex)) | ((with_reducible apply GC.condF); exact rfl; (first | exact rfl | assumption)) | ((with_reducible apply GO.move); exact rfl; exact rfl) | ((with_reducible apply GO.eql); exact rfl; exact rfl; exact rfl) | ((with_reducible apply GO.lss); exact rfl; exact rfl; exact rfl) | ((with_reducible apply GO.add); exact rfl; exact rfl; exact rfl; (first | exact InR.i64 (by omega) (by omega) | exact InR.u8 (by omega) (by omega) | exact InR.i32 (by omega) (by omega) | exact InR.u32 (by omega) (by omega) | exact InR.u16 (by omega) (by omega) | exact InR.u64 (by omega) (by omega))) | ((with_reducible apply GO.fld_at); exact rfl; exact rfl; exact fF) | ((with_reducible apply GO.load_h); exact rfl; exact rfl; exact fG; (first | assumption | exact Hp.cell_up (by assumption) (by assumption))) | ((with_reducible apply GO.indexAddr); exact rfl; exact rfl; exact rfl; (first | with_reducible exact rfl | exact (Int.toNat_of_nonneg (by omega)).symm); exact fU; exact fS; (first | exact rfl | assumption); (first | omega | assumption)))
          apply GO.wstr0 Z
          iterate 5 exact rfl
          · exact hZ
          · simp [ByteArray.size]; omega
          intro W hW hWb
          repeat' (first | ((with_reducible apply GC.region)) | ((with_reducible apply GO.nil)) | ((with_reducible apply QS.n)) | ((with_reducible apply QB.n)) | ((with_reducible apply GO.move); exact rfl; exact rfl) | ((with_reducible apply GO.assign); exact rfl; exact rfl) | ((with_reducible apply GO.add); exact rfl; exact rfl; exact rfl; (first | exact InR.i64 (by omega) (by omega) | exact InR.u8 (by omega) (by omega) | exact InR.i32 (by omega) (by omega) | exact InR.u32 (by omega) (by omega) | exact InR.u16 (by omega) (by omega) | exact InR.u64 (by omega) (by omega))))
          refine QL.n (Hp.le_trans hle23 hle4) (k + 1, W) (by simp only; omega) ⟨by simp only; omega, hW, ?_, ?_⟩ ⟨rfl, rfl, rfl, trivial⟩ (List.Sublist.refl _)
          · rw [hWb, ← hZp]; simp [byts]
          · rw [hWb, List.length_append, byts_length]; simp only [ByteArray.size]; simp; omega
    · have d3 : decide (t.kind = 3) = false := decide_eq_false (by omega)
      have d2 := decide_eq_true k2
      rw [if_neg (by omega), if_pos k2, if_neg (by simp)] at hpr
      have e1 : (⟨#[60, 47]⟩ ++ t.name ++ ⟨#[62]⟩ : ByteArray).size = 2 + t.name.size + 1 := by rw [ByteArray.size_append, ByteArray.size_append]; rfl
      have e2 : (⟨#[60, 47]⟩ ++ t.name : ByteArray).size = 2 + t.name.size := by rw [ByteArray.size_append]; rfl
      have e3 : (⟨#[60, 47]⟩ : ByteArray).size = 2 := rfl
      have e4 : (⟨#[62]⟩ : ByteArray).size = 1 := rfl
      repeat' (first | ((with_reducible apply GC.seq)) | ((with_reducible apply GC.region)) | ((with_reducible apply GC.block)) | ((with_reducible apply GO.nil)) | ((with_reducible apply QS.n)) | ((with_reducible apply GC.condT); exact rfl; (first | exact rfl | assumption)) | ((with_reducible apply GC.condF); exact rfl; (first | exact rfl | assumption)) | ((with_reducible apply GO.assign); exact rfl; exact rfl) | ((with_reducible apply GO.eql); exact rfl; exact rfl; exact rfl) | ((with_reducible apply GO.str_add); exact rfl; exact rfl; exact rfl; (first | omega | assumption)) | ((with_reducible apply GO.fld); exact rfl; exact rfl; exact fF) | ((with_reducible apply GO.load_h); exact rfl; exact rfl; exact fG; (first | assumption | exact Hp.cell_up (by assumption) (by assumption))))
      apply GO.wstr0 X
      iterate 5 exact rfl
      · exact hX
      · omega
      intro Y hY hYb
      repeat' (first | ((with_reducible apply GC.region)) | ((with_reducible apply GO.nil)) | ((with_reducible apply QS.n)) | ((with_reducible apply QB.n)) | ((with_reducible apply GO.move); exact rfl; exact rfl) | ((with_reducible apply GO.assign); exact rfl; exact rfl) | ((with_reducible apply GO.add); exact rfl; exact rfl; exact rfl; (first | exact InR.i64 (by omega) (by omega) | exact InR.u8 (by omega) (by omega) | exact InR.i32 (by omega) (by omega) | exact InR.u32 (by omega) (by omega) | exact InR.u16 (by omega) (by omega) | exact InR.u64 (by omega) (by omega))))
      refine QL.n hle23 (k + 1, Y) (by simp only; omega) ⟨by simp only; omega, hY, ?_, ?_⟩ ⟨rfl, rfl, rfl, trivial⟩ (List.Sublist.refl _)
      · rw [hYb, ← hpr, byts_append, byts_append]; simp [byts]
      · rw [hYb, List.length_append, byts_length, e1]; simp only; omega
    · have d3 := decide_eq_true k3
      rw [if_pos k3] at hpr
      have hes := escS_size t.text
      repeat' (first | ((with_reducible apply GC.seq)) | ((with_reducible apply GC.region)) | ((with_reducible apply GC.block)) | ((with_reducible apply GO.nil)) | ((with_reducible apply QS.n)) | ((with_reducible apply GC.condT); exact rfl; (first | exact rfl | assumption)) | ((with_reducible apply GO.callV (f := 45) (vs := [_]) (caps := [])); exact rfl; exact rfl; exact rfl; exact fN; exact Escape_spec _ _ (by omega)) | ((with_reducible apply GO.assign); exact rfl; exact rfl) | ((with_reducible apply GO.eql); exact rfl; exact rfl; exact rfl) | ((with_reducible apply GO.fld); exact rfl; exact rfl; exact fF) | ((with_reducible apply GO.load_h); exact rfl; exact rfl; exact fG; (first | assumption | exact Hp.cell_up (by assumption) (by assumption))))
      apply GO.wstr0 X
      iterate 5 exact rfl
      · exact hX
      · omega
      intro Y hY hYb
      repeat' (first | ((with_reducible apply GC.region)) | ((with_reducible apply GO.nil)) | ((with_reducible apply QS.n)) | ((with_reducible apply QB.n)) | ((with_reducible apply GO.move); exact rfl; exact rfl) | ((with_reducible apply GO.assign); exact rfl; exact rfl) | ((with_reducible apply GO.add); exact rfl; exact rfl; exact rfl; (first | exact InR.i64 (by omega) (by omega) | exact InR.u8 (by omega) (by omega) | exact InR.i32 (by omega) (by omega) | exact InR.u32 (by omega) (by omega) | exact InR.u16 (by omega) (by omega) | exact InR.u64 (by omega) (by omega))))
      refine QL.n hle23 (k + 1, Y) (by simp only; omega) ⟨by simp only; omega, hY, ?_, ?_⟩ ⟨rfl, rfl, rfl, trivial⟩ (List.Sublist.refl _)
      · rw [hYb, ← hpr, List.append_assoc]
      · rw [hYb, List.length_append, byts_length]; simp only; omega
  · have hlt' := decide_eq_false hlt
    rw [List.drop_of_length_le (by omega), pr, List.append_nil] at hpr
    repeat' (first | ((with_reducible apply GC.seq)) | ((with_reducible apply GC.region)) | ((with_reducible apply GO.nil)) | ((with_reducible apply QS.n)) | ((with_reducible apply GC.exit)) | ((with_reducible apply QS.ex)) | ((with_reducible apply QL.ex)) | ((with_reducible apply QB.ex)) | ((with_reducible apply GC.condF); exact rfl; (first | exact rfl | assumption)) | ((with_reducible apply GO.move); exact rfl; exact rfl) | ((with_reducible apply GO.lss); exact rfl; exact rfl; exact rfl) | ((with_reducible apply GO.len_sl); exact rfl; exact rfl; exact fU))
    have hBR : BS.R bb X = bldR bb X.p X.A X.bs.length X.c X.bs := by rw [BS.R, hXn]
    rw [hBR]
    refine GO.call (vs := [_]) (caps := []) (Rin := bldR bb X.p X.A X.bs.length X.c X.bs) (Rfr := []) rfl rfl rfl fN (BString_spec bb X.p X.A X.c X.bs h' (by omega)) (by rw [List.append_nil]) (fun _ _ hr => by cases hr.1) (fun _ _ _ _ hr => by cases hr.1) ?_
    rintro v h1 R1 hle1 ⟨hv, rfl⟩
    cases hv
    repeat' (first | ((with_reducible apply GO.nil)) | ((with_reducible apply QS.n)) | ((with_reducible apply GC.ret)) | ((with_reducible apply GO.assign); exact rfl; exact rfl))
    exact FnQ.ret2 rfl rfl rfl (View.first (Hp.le_trans hle hle1) ⟨by rw [hpr], rfl, rfl⟩)
end Go.Proofs.YtajdjclhkoenfaaDoor
