/- Whole documents: write.Whole. -/
import Derived.Test.YtajdjclhkoenfaaDoorWi
set_option linter.unusedSimpArgs false
set_option linter.unusedVariables false
namespace Go.Proofs.YtajdjclhkoenfaaDoor
open Go.RowKit

section
variable {C : Ctx} {fn : Func} {Rp : Ending → Hp → List Res → Prop} {e : Env} {R : List Res} {h : Hp} {ds : List Deferred}
theorem FnM.retC0 {t b i T T' : Nat} {cs : List Value} {v v' : Value} (hr : fn.results = #[.cell t T]) (hp : lk e t = some (.pointer (some ⟨b, 0, none⟩))) (hg : ∀ w, (isAgg T).run C.P w = .ok false w) (hR : R[i]? = some (blk b T' cs)) (hv : cs[0]? = some v')
    (hle : C.h0.le h) (hvv : v' = v) : FnM C fn (IsV C.h0 v) .ret e R h [] :=
  .inl ⟨rfl, v', ResV.cell hr hp hg hR hv, View.first hle ⟨by rw [hvv], rfl, rfl⟩⟩
theorem FnM.retC {t b i T T' D : Nat} {R0 : List Res} {cs : List Value} {v v' : Value} (hr : fn.results = #[.cell t T]) (hp : lk e t = some (.pointer (some ⟨b, 0, none⟩))) (hg : ∀ w, (isAgg T).run C.P w = .ok false w) (hR : R0[i]? = some (blk b T' cs)) (hv : cs[0]? = some v')
    (hle : C.h0.le h) (hs : (R0 ++ [other D (.deferred (some []))]).Sublist R) (hvv : v' = v) : FnM C fn (IsV C.h0 v) .ret e R h [mark D] :=
  .inr ⟨D, R0, rfl, hs, v', ResV.cell hr hp hg hR hv, View.first hle ⟨by rw [hvv], rfl, rfl⟩⟩
end

def firstZ (n : Nat) : List (List Value) → Bool
  | [] => false
  | x :: r => bif decide (valInt (x.getD 1 undef) = 0) then decide (valInt (x.getD 0 undef) = (n : Int) - 1) else firstZ n r
def WholeA (l : List Tok) : Bool := (!decide ((l.length : Int) = 0) && RightA l) && firstZ l.length (walkItems 0 [] false l)

set_option maxRecDepth 100000 in
set_option maxHeartbeats 4000000 in
theorem Whole_spec (A : Option Addr) (n c : Nat) (h : Hp) (l : List Tok) (sl : SlH kTok h A n c l) (hn : n ≤ big) : CallsV Tryd.prog 19 #[.slice A n c] h (.bool (WholeA l)) := by
  have hn0 := hn
  unfold big at hn
  have hl := sl.len
  refine callsH_of_mark (args := [_]) Tryd.func19 rfl Tryd.ntmps19 rfl fun w => ?_
  by_cases h0 : (n : Int) = 0
  · have d0 := decide_eq_true h0
    repeat' (first | ((with_reducible apply GC.seq)) | ((with_reducible apply GC.region)) | ((with_reducible apply GO.nil)) | ((with_reducible apply QS.n)) | ((with_reducible apply GC.ret)) | ((with_reducible apply QS.r)) | ((with_reducible apply GC.condT); exact rfl; (first | exact rfl | assumption)) | ((with_reducible apply GO.pass); exact rfl; exact rfl; exact rfl; exact rfl; (first | exact rfl | assumption)) | ((with_reducible apply GO.move); exact rfl; exact rfl) | ((with_reducible apply GO.pick_t); exact rfl; exact rfl; (first | exact rfl | assumption); exact rfl) | ((with_reducible apply GO.eql); exact rfl; exact rfl; exact rfl) | ((with_reducible apply GO.len_sl); exact rfl; exact rfl; exact fU) | ((with_reducible apply GO.load_b); exact rfl; exact rfl; exact fG; (first | exact pk0 | exact pk1 | exact pk2 | exact pk3 | exact pk4 | exact pk5); exact rfl) | ((with_reducible apply GO.alloc); exact rfl; exact fZ; exact rfl; intro _) | ((with_reducible apply GO.box); exact rfl; exact rfl; exact rfl; intro _) | ((with_reducible apply GO.store_b); exact rfl; exact rfl; exact fS; (first | exact pk0 | exact pk1 | exact pk2 | exact pk3 | exact pk4 | exact pk5); exact rfl; exact rfl; exact rfl; exact rfl; exact rfl))
    exact FnM.retC0 (i := 0) rfl rfl fG rfl rfl (Hp.le_refl _) (by rw [WholeA, hl, d0]; rfl)
  have d0 := decide_eq_false h0
  repeat' (first | ((with_reducible apply GC.seq)) | ((with_reducible apply GC.region)) | ((with_reducible apply GO.nil)) | ((with_reducible apply QS.n)) | ((with_reducible apply GO.want); exact rfl; exact rfl; (first | exact rfl | assumption)) | ((with_reducible apply GO.callV (f := 17) (vs := [_]) (caps := [])); exact rfl; exact rfl; exact rfl; exact fN; exact Right_spec _ _ _ _ _ sl hn0) | ((with_reducible apply GO.move); exact rfl; exact rfl) | ((with_reducible apply GO.pick_f); exact rfl; exact rfl; (first | exact rfl | assumption); exact rfl) | ((with_reducible apply GO.eql); exact rfl; exact rfl; exact rfl) | ((with_reducible apply GO.not_); exact rfl; exact rfl) | ((with_reducible apply GO.len_sl); exact rfl; exact rfl; exact fU) | ((with_reducible apply GO.load_b); exact rfl; exact rfl; exact fG; (first | exact pk0 | exact pk1 | exact pk2 | exact pk3 | exact pk4 | exact pk5); exact rfl) | ((with_reducible apply GO.alloc); exact rfl; exact fZ; exact rfl; intro _) | ((with_reducible apply GO.box); exact rfl; exact rfl; exact rfl; intro _))
  refine GC.cond rfl (fun hf => ?_) (fun hf => ?_)
  · repeat' (first | ((with_reducible apply GC.seq)) | ((with_reducible apply GC.region)) | ((with_reducible apply GO.nil)) | ((with_reducible apply QS.n)) | ((with_reducible apply GC.ret)) | ((with_reducible apply QS.r)) | ((with_reducible apply GO.store_b); exact rfl; exact rfl; exact fS; (first | exact pk0 | exact pk1 | exact pk2 | exact pk3 | exact pk4 | exact pk5); exact rfl; exact rfl; exact rfl; exact rfl; exact rfl))
    exact FnM.retC0 (i := 0) rfl rfl fG rfl rfl (Hp.le_refl _) (by rw [WholeA, (Bool.not_eq_true' _).mp hf, Bool.and_false]; rfl)
  have hf' := (Bool.not_eq_false' _).mp hf
  repeat' (first | ((with_reducible apply GC.seq)) | ((with_reducible apply GC.region)) | ((with_reducible apply QS.n)) | ((with_reducible apply GC.skip)) | ((with_reducible apply GO.load_b); exact rfl; exact rfl; exact fG; (first | exact pk0 | exact pk1 | exact pk2 | exact pk3 | exact pk4 | exact pk5); exact rfl))
  rename_i b1 b2
  refine GO.call (vs := [_]) (caps := []) (Rin := []) (Rfr := [_, _]) rfl rfl rfl fN (walk_spec A n c h) (List.Perm.refl _) (fun _ _ hr => by obtain ⟨_, hr, _⟩ := hr; cases hr) (fun _ _ _ _ hr => by obtain ⟨_, hr, _⟩ := hr; cases hr) ?_
  rintro v h1 R1 hle1 ⟨tb, hv, hb, rfl⟩
  cases hv
  have it := walk1_spec A n c tb h1 l (sl.mono hle1) hb hn0
  have hW : WholeA l = firstZ n (walkItems 0 [] false l) := by rw [WholeA, hl, d0, hf']; rfl
  obtain ⟨xs, hxs⟩ : ∃ xs, walkItems 0 [] false l = xs := ⟨_, rfl⟩
  rw [hxs] at it hW
  have hform : ∀ k x, xs[k]? = some x → ∃ d : Nat, x = [Value.int .i64 ((k : Nat) : Int), Value.int .i64 d] := fun k x hx => by
    obtain ⟨d, hd⟩ := walkItems_form l 0 [] false k x (by rw [hxs]; exact hx)
    exact ⟨d, by rw [hd, Nat.zero_add]⟩
  have hform2 : ∀ x ∈ xs, ∃ (k d : Nat), x = [Value.int .i64 (k : Int), Value.int .i64 (d : Int)] := fun x hx => by
    obtain ⟨k, hk⟩ := List.getElem?_of_mem hx
    obtain ⟨d, hd⟩ := hform k x hk
    exact ⟨k, d, hd⟩
  repeat' (first | ((with_reducible apply GC.block)) | ((with_reducible apply GO.nil)) | ((with_reducible apply QS.n)))
  refine GC.rangeFunc (ps := [15, 16]) (caps := [_]) rfl rfl fN it (fun x hx => by obtain ⟨k, d, rfl⟩ := hform2 x hx; rfl) (fun p hp => by simp at hp; rcases hp with rfl | rfl <;> rfl)
    (fun k h' R' => R' = [blk b2 4 [.bool false], blk b1 22 [.slice A n c]] ∧ firstZ n (xs.drop k) = firstZ n xs) (fun _ _ _ _ _ hj => hj)
    (fun cd h' R' => cd = .ret ∧ R' = [blk b2 4 [.bool (firstZ n xs)], blk b1 22 [.slice A n c]]) ⟨rfl, rfl⟩
    (fun x => [(1, .pointer (some ⟨b1, 0, none⟩)), (2, .pointer (some ⟨b2, 0, none⟩)), (3, x.getD 0 undef), (4, x.getD 1 undef)]) ?_ ?_ ?_ ?_
  · intro w' S' L R' h' x hx
    obtain ⟨k, d, rfl⟩ := hform2 x hx
    repeat' (first | ((with_reducible apply GC.seq)) | ((with_reducible apply GC.region)) | ((with_reducible apply GO.nil)) | ((with_reducible apply QS.n)) | ((with_reducible apply GO.assign); exact rfl; exact rfl))
    exact QK.n ⟨rfl, rfl, rfl, rfl, trivial⟩
  · rintro L D r w' S' k x h' R' hx hle ⟨rfl, hz⟩
    obtain ⟨d, hd⟩ := hform k x hx
    have hk : k < xs.length := (List.getElem?_eq_some_iff.1 hx).1
    subst hd
    have hg : xs[k] = [Value.int .i64 ((k : Nat) : Int), Value.int .i64 (d : Int)] := (List.getElem?_eq_some_iff.1 hx).2
    rw [List.drop_eq_getElem_cons hk, hg, firstZ] at hz
    by_cases hd0 : (d : Int) = 0
    · have dd := decide_eq_true hd0
      have hz2 : decide ((k : Int) = (n : Int) - 1) = firstZ n xs := by rw [← hz]; simp only [List.getD_cons_succ, List.getD_cons_zero, valInt, dd]; rfl
      repeat' (first | ((with_reducible apply GC.seq)) | ((with_reducible apply GC.region)) | ((with_reducible apply GC.block)) | ((with_reducible apply GO.nil)) | ((with_reducible apply QS.n)) | ((with_reducible apply GC.ret)) | ((with_reducible apply QB.r)) | ((with_reducible apply GC.condT); exact rfl; (first | exact rfl | assumption)) | ((with_reducible apply GO.move); exact rfl; exact rfl) | ((with_reducible apply GO.eql); exact rfl; exact rfl; exact rfl) | ((with_reducible apply GO.sub); exact rfl; exact rfl; exact rfl; (first | exact InR.i64 (by omega) (by omega) | exact InR.u8 (by omega) (by omega) | exact InR.i32 (by omega) (by omega) | exact InR.u32 (by omega) (by omega) | exact InR.u16 (by omega) (by omega) | exact InR.u64 (by omega) (by omega))) | ((with_reducible apply GO.len_sl); exact rfl; exact rfl; exact fU) | ((with_reducible apply GO.load_b); exact rfl; exact rfl; exact fG; (first | exact pk0 | exact pk1 | exact pk2 | exact pk3 | exact pk4 | exact pk5); exact rfl) | ((with_reducible apply GO.store_b); exact rfl; exact rfl; exact fS; (first | exact pk0 | exact pk1 | exact pk2 | exact pk3 | exact pk4 | exact pk5); exact rfl; exact rfl; exact rfl; exact rfl; exact rfl))
      exact ⟨[blk b2 4 [.bool (decide ((k : Int) = (n : Int) - 1))], blk b1 22 [.slice A n c]], List.Sublist.refl _, rfl, by rw [hz2]⟩
    · have dd := decide_eq_false hd0
      have hz2 : firstZ n (xs.drop (k + 1)) = firstZ n xs := by rw [← hz]; simp only [List.getD_cons_succ, List.getD_cons_zero, valInt, dd]; rfl
      repeat' (first | ((with_reducible apply GC.seq)) | ((with_reducible apply GC.region)) | ((with_reducible apply GC.block)) | ((with_reducible apply GO.nil)) | ((with_reducible apply QS.n)) | ((with_reducible apply QB.n)) | ((with_reducible apply GC.skip)) | ((with_reducible apply GC.condF); exact rfl; (first | exact rfl | assumption)) | ((with_reducible apply GO.move); exact rfl; exact rfl) | ((with_reducible apply GO.eql); exact rfl; exact rfl; exact rfl))
      exact ⟨[blk b2 4 [.bool false], blk b1 22 [.slice A n c]], List.Sublist.refl _, rfl, hz2⟩
  · rintro D h' R' hle ⟨rfl, hz⟩
    repeat' (first | ((with_reducible apply GC.seq)) | ((with_reducible apply GC.region)) | ((with_reducible apply GO.nil)) | ((with_reducible apply QS.n)) | ((with_reducible apply QB.n)) | ((with_reducible apply GC.ret)) | ((with_reducible apply GO.store_b); exact rfl; exact rfl; exact fS; (first | exact pk0 | exact pk1 | exact pk2 | exact pk3 | exact pk4 | exact pk5); exact rfl; exact rfl; exact rfl; exact rfl; exact rfl))
    refine FnM.retC (i := 0) (R0 := [blk b2 4 [.bool false], blk b1 22 [.slice A n c]]) rfl rfl fG rfl rfl (Hp.le_trans hle1 hle) (List.Sublist.refl _) ?_
    rw [hW, ← hz, List.drop_of_length_le (Nat.le_refl _), firstZ]
  · rintro D c0 h' R' hle ⟨rfl, rfl⟩
    refine GC.ret ?_
    exact FnM.retC (i := 0) rfl rfl fG rfl rfl (Hp.le_trans hle1 hle) (List.Sublist.refl _) (by rw [hW])
end Go.Proofs.YtajdjclhkoenfaaDoor
