/- A right document: write.Right and write.Whole. -/
import Derived.Test.YtajdjclhkoenfaaDoorWg
set_option linter.unusedSimpArgs false
set_option linter.unusedVariables false
namespace Go.Proofs.YtajdjclhkoenfaaDoor
open Go.RowKit

theorem walkItems_form : ∀ (l : List Tok) (i : Nat) (st : List ByteArray) (p3 : Bool) (k : Nat) (x : List Value), (walkItems i st p3 l)[k]? = some x → ∃ d : Nat, x = [.int .i64 ((i + k : Nat) : Int), .int .i64 d]
  | [], i, st, p3, k, x, h => by simp [walkItems] at h
  | t :: r, i, st, p3, k, x, h => by
    rw [walkItems] at h
    cases hs : walkStep st p3 t with
    | none => rw [hs] at h; simp at h
    | some st' =>
      rw [hs] at h
      cases k with
      | zero => simp at h; exact ⟨st'.length, by rw [← h]; rfl⟩
      | succ k =>
        obtain ⟨d, hd⟩ := walkItems_form r (i + 1) st' _ k x (by simpa using h)
        exact ⟨d, by rw [hd, show i + 1 + k = i + (k + 1) by omega]⟩
theorem walkItems_len : ∀ (l : List Tok) (i : Nat) (st : List ByteArray) (p3 : Bool), (walkItems i st p3 l).length ≤ l.length
  | [], i, st, p3 => by simp [walkItems]
  | t :: r, i, st, p3 => by
    rw [walkItems]
    cases walkStep st p3 t with
    | none => simp
    | some st' => have := walkItems_len r (i + 1) st' (decide (t.kind = 3)); simp; omega
def valInt : Value → Int
  | .int _ d => d
  | _ => 0
def depthAt (xs : List (List Value)) : Nat → Int
  | 0 => 0
  | k + 1 => valInt ((xs.getD k []).getD 1 undef)
def RightA (l : List Tok) : Bool := !decide (64 < (l.length : Int)) && (decide (((walkItems 0 [] false l).length : Int) = l.length) && decide (depthAt (walkItems 0 [] false l) (walkItems 0 [] false l).length = 0))

set_option maxRecDepth 100000 in
set_option maxHeartbeats 4000000 in
theorem Right_spec (A : Option Addr) (n c : Nat) (h : Hp) (l : List Tok) (sl : SlH kTok h A n c l) (hn : n ≤ big) : CallsV Tryd.prog 17 #[.slice A n c] h (.bool (RightA l)) := by
  have hn0 := hn
  unfold big at hn
  have hl := sl.len
  refine callsH_of_mark (args := [_]) Tryd.func17 rfl Tryd.ntmps17 rfl fun w => ?_
  by_cases h64 : (64 : Int) < n
  · have d64 := decide_eq_true h64
    repeat' (first | ((with_reducible apply GC.seq)) | ((with_reducible apply GC.region)) | ((with_reducible apply GO.nil)) | ((with_reducible apply QS.n)) | ((with_reducible apply GC.ret)) | ((with_reducible apply QS.r)) | ((with_reducible apply GC.condT); exact rfl; (first | exact rfl | assumption)) | ((with_reducible apply GO.move); exact rfl; exact rfl) | ((with_reducible apply GO.assign); exact rfl; exact rfl) | ((with_reducible apply GO.gtr); exact rfl; exact rfl; exact rfl) | ((with_reducible apply GO.len_sl); exact rfl; exact rfl; exact fU))
    exact FnM.retV0 rfl rfl (Hp.le_refl _) (by rw [RightA, hl, d64]; rfl)
  have d64 := decide_eq_false h64
  repeat' (first | ((with_reducible apply GC.seq)) | ((with_reducible apply GC.region)) | ((with_reducible apply GO.nil)) | ((with_reducible apply QS.n)) | ((with_reducible apply GC.skip)) | ((with_reducible apply GC.condF); exact rfl; (first | exact rfl | assumption)) | ((with_reducible apply GO.move); exact rfl; exact rfl) | ((with_reducible apply GO.assign); exact rfl; exact rfl) | ((with_reducible apply GO.gtr); exact rfl; exact rfl; exact rfl) | ((with_reducible apply GO.len_sl); exact rfl; exact rfl; exact fU) | ((with_reducible apply GO.alloc); exact rfl; exact fZ; exact rfl; intro _) | ((with_reducible apply GO.store_b); exact rfl; exact rfl; exact fS; (first | exact pk0 | exact pk1 | exact pk2 | exact pk3 | exact pk4 | exact pk5); exact rfl; exact rfl; exact rfl; exact rfl; exact rfl))
  rename_i b3 b4
  refine GO.call (vs := [_]) (caps := []) (Rin := []) (Rfr := [_, _]) rfl rfl rfl fN (walk_spec A n c h) (List.Perm.refl _) (fun _ _ hr => by obtain ⟨_, hr, _⟩ := hr; cases hr) (fun _ _ _ _ hr => by obtain ⟨_, hr, _⟩ := hr; cases hr) ?_
  rintro v h1 R1 hle1 ⟨tb, hv, hb, rfl⟩
  cases hv
  have it := walk1_spec A n c tb h1 l (sl.mono hle1) hb hn0
  obtain ⟨xs, hxs⟩ : ∃ xs, walkItems 0 [] false l = xs := ⟨_, rfl⟩
  rw [hxs] at it
  have hxl : xs.length ≤ n := by rw [← hxs, ← hl]; exact walkItems_len l 0 [] false
  have hform : ∀ k x, xs[k]? = some x → ∃ d : Nat, x = [Value.int .i64 ((k : Nat) : Int), Value.int .i64 d] := fun k x hx => by
    obtain ⟨d, hd⟩ := walkItems_form l 0 [] false k x (by rw [hxs]; exact hx)
    exact ⟨d, by rw [hd, Nat.zero_add]⟩
  have hform2 : ∀ x ∈ xs, ∃ (k d : Nat), x = [Value.int .i64 (k : Int), Value.int .i64 (d : Int)] := fun x hx => by
    obtain ⟨k, hk⟩ := List.getElem?_of_mem hx
    obtain ⟨d, hd⟩ := hform k x hk
    exact ⟨k, d, hd⟩
  repeat' (first | ((with_reducible apply GC.block)) | ((with_reducible apply GO.nil)) | ((with_reducible apply QS.n)))
  refine GC.rangeFunc (ps := [12, 13]) (caps := [_]) rfl rfl fN it (fun x hx => by obtain ⟨k, d, rfl⟩ := hform2 x hx; rfl) (fun p hp => by simp at hp; rcases hp with rfl | rfl <;> rfl)
    (fun k h' R' => R' = [blk b4 3 [.int .i64 (depthAt xs k)], blk b3 3 [.int .i64 (k : Nat)]]) (fun _ _ _ _ _ hj => hj) (fun _ _ _ => False) rfl
    (fun x => [(3, .pointer (some ⟨b3, 0, none⟩)), (4, .pointer (some ⟨b4, 0, none⟩)), (6, x.getD 1 undef)]) ?_ ?_ ?_ ?_
  · intro w' S' L R' h' x hx
    obtain ⟨k, d, rfl⟩ := hform2 x hx
    repeat' (first | ((with_reducible apply GC.region)) | ((with_reducible apply GO.nil)) | ((with_reducible apply GO.assign); exact rfl; exact rfl))
    exact QK.n ⟨rfl, rfl, rfl, trivial⟩
  · rintro L D r w' S' k x h' R' hx hle rfl
    obtain ⟨d, hd⟩ := hform k x hx
    have hk : k < xs.length := (List.getElem?_eq_some_iff.1 hx).1
    subst hd
    repeat' (first | ((with_reducible apply GC.seq)) | ((with_reducible apply GC.region)) | ((with_reducible apply GC.block)) | ((with_reducible apply GO.nil)) | ((with_reducible apply QS.n)) | ((with_reducible apply QB.n)) | ((with_reducible apply GO.move); exact rfl; exact rfl) | ((with_reducible apply GO.add); exact rfl; exact rfl; exact rfl; (first | exact InR.i64 (by omega) (by omega) | exact InR.u8 (by omega) (by omega) | exact InR.i32 (by omega) (by omega) | exact InR.u32 (by omega) (by omega) | exact InR.u16 (by omega) (by omega) | exact InR.u64 (by omega) (by omega))) | ((with_reducible apply GO.load_b); exact rfl; exact rfl; exact fG; (first | exact pk0 | exact pk1 | exact pk2 | exact pk3 | exact pk4 | exact pk5); exact rfl) | ((with_reducible apply GO.store_b); exact rfl; exact rfl; exact fS; (first | exact pk0 | exact pk1 | exact pk2 | exact pk3 | exact pk4 | exact pk5); exact rfl; exact rfl; exact rfl; exact rfl; exact rfl))
    refine ⟨[blk b4 3 [.int .i64 (depthAt xs (k + 1))], blk b3 3 [.int .i64 ((k + 1 : Nat) : Int)]], ?_, rfl⟩
    have hdep : depthAt xs (k + 1) = d := by
      have hg : xs.getD k [] = [.int .i64 ((k : Nat) : Int), .int .i64 (d : Int)] := by rw [List.getD_eq_getElem?_getD, hx]; rfl
      rw [depthAt, hg]; rfl
    rw [hdep]
    exact List.Sublist.refl _
  · rintro D h' R' hle rfl
    repeat' (first | ((with_reducible apply GC.seq)) | ((with_reducible apply GC.region)) | ((with_reducible apply GO.nil)) | ((with_reducible apply QS.n)) | ((with_reducible apply QB.n)) | ((with_reducible apply GC.ret)) | ((with_reducible apply GO.want); exact rfl; exact rfl; (first | exact rfl | assumption)) | ((with_reducible apply GO.pass); exact rfl; exact rfl; exact rfl; exact rfl; (first | exact rfl | assumption)) | ((with_reducible apply GO.move); exact rfl; exact rfl) | ((with_reducible apply GO.assign); exact rfl; exact rfl) | ((with_reducible apply GO.pick_t); exact rfl; exact rfl; (first | exact rfl | assumption); exact rfl) | ((with_reducible apply GO.pick_f); exact rfl; exact rfl; (first | exact rfl | assumption); exact rfl) | ((with_reducible apply GO.eql); exact rfl; exact rfl; exact rfl) | ((with_reducible apply GO.len_sl); exact rfl; exact rfl; exact fU) | ((with_reducible apply GO.load_b); exact rfl; exact rfl; exact fG; (first | exact pk0 | exact pk1 | exact pk2 | exact pk3 | exact pk4 | exact pk5); exact rfl) | ((with_reducible apply GO.guard); exact rfl; exact rfl; exact rfl; exact rfl; all_goals intro _))
    all_goals (refine FnM.retV rfl rfl (Hp.le_trans hle1 hle) (List.Sublist.refl _) ?_; refine congrArg Value.bool ?_; rw [RightA, hxs, hl, d64]; (try (simp only [Bool.not_true, Bool.not_false, Bool.not_eq_true', Bool.not_eq_false', Int.toNat_natCast, Int.reduceAdd] at *)); (try (simp only [*, Bool.and_true, Bool.true_and, Bool.or_true, Bool.true_or, Bool.or_false, Bool.false_or, Bool.and_false, Bool.false_and, Bool.not_true, Bool.not_false, Bool.not_not])); (try rfl))
  · rintro D c0 h' R' hle hf
    exact hf.elim
end Go.Proofs.YtajdjclhkoenfaaDoor
