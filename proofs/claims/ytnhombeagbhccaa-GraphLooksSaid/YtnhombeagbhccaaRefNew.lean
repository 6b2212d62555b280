/- The reference's graph: New, May. -/
import Derived.Test.YtnhombeagbhccaaSays2
namespace Go.Proofs.Ytnhombeagbhccaa
open Go.RowKit

variable {w w' : World} {r : Nat} {L : RL} {A : AG}

/-- New's threads, k of them so far. -/
structure RNew (w0 w : World) (B r : Nat) (gs : Value) (s : Nat) (G : List Int) (k : Nat) (tv : Value) (sv : Nat → Value) : Prop where
  hr : w.heap[r]? = some (.cells #[tv, gs, .slice none 0 0] 63 (0, 0))
  ht : w.ownsRow B 65 2 tv k (pairs sv (fun _ => .slice none 0 0) k)
  hG : Sl w 3 gs (G.map I)
  hs : ∀ i, i < k → Sl w 3 (sv i) ((List.replicate s 0).map I) ∧ ∀ b, slB (sv i) ((List.replicate s 0).map I) = some b → B ≤ b ∧ tv.ownBlock ≠ some b
  new : New w0 w

theorem RNew.next {w0 w w1 w2 : World} {B r s : Nat} {gs : Value} {G : List Int} {k : Nat} {tv tv' sx : Value} {sv : Nat → Value} (h : RNew w0 w B r gs s G k tv sv)
    (n1 : New w w1) (hsx : Sl w1 3 sx ((List.replicate s 0).map I)) (nsx : ∀ b, slB sx ((List.replicate s 0).map I) = some b → w.heap.size ≤ b) (ht : w2.ownsRow B 65 2 tv' (k + 1) (pairs sv (fun _ => .slice none 0 0) k ++ [sx, .slice none 0 0]))
    (hf : Fr (fun b => tv.ownBlock = some b) w1 w2) (hl : tv'.ownBlock = tv.ownBlock ∨ ∃ b, w1.heap.size ≤ b ∧ tv'.ownBlock = some b)
    (hB : r < B ∧ w0.heap.size ≤ r ∧ B ≤ w.heap.size) (hgB : ∀ b, slB gs (G.map I) = some b → b < B ∧ b ≠ r) :
    RNew w0 (w2.setCell ⟨r, 0, none⟩ tv') B r gs s G (k + 1) tv' (upd sv k sx) := by
  have hlow : ∀ b, b < B → tv.ownBlock ≠ some b := fun b hb e => by have := (h.ht.lt b e).1; omega
  have f1 : Fr (fun b => tv.ownBlock = some b) w w2 := (n1.to _).trans hf
  have fr : Fr (· = r) w2 (w2.setCell ⟨r, 0, none⟩ tv') := (Fr.refl _ _).set _ _ rfl
  have f2 : Fr (fun b => tv.ownBlock = some b ∨ b = r) w (w2.setCell ⟨r, 0, none⟩ tv') := (f1.mono (fun _ _ x => .inl x)).set _ _ (.inr rfl)
  have tvB : ∀ b, tv'.ownBlock = some b → B ≤ b := fun b e => (ht.lt b e).1
  refine ⟨?_, ?_, ?_, ?_, ?_⟩
  · have := heap_setCell_same (i := 0) tv' (f1.blk h.hr (hlow r hB.1))
    simpa using this
  · have e : pairs (upd sv k sx) (fun _ => .slice none 0 0) (k + 1) = pairs sv (fun _ => .slice none 0 0) k ++ [sx, .slice none 0 0] := by
      simp only [pairs, upd_self]
      rw [pairs_congr (f := upd sv k sx) (f' := sv) (g := fun _ => .slice none 0 0) (g' := fun _ => .slice none 0 0) (fun j hj => upd_other _ _ (by omega)) (fun _ _ => rfl)]
    rw [e]
    exact ownsRow_fr ht fr (fun b e => by have := tvB b e; omega)
  · refine h.hG.fr f2 (fun b e => ?_)
    have := hgB b e
    rintro (x | x)
    · exact hlow b this.1 x
    · omega
  · intro i hi
    by_cases e : i = k
    · subst e
      rw [upd_self]
      refine ⟨(hsx.fr hf (fun b e => ?_)).fr fr (fun b e => ?_), fun b e => ?_⟩
      · have := nsx b e; intro x; have := (h.ht.lt b x).2; omega
      · have := nsx b e; omega
      · have h1 := nsx b e
        refine ⟨by omega, ?_⟩
        rcases hl with hl | ⟨b', hb', hl⟩
        · rw [hl]; intro x; have := (h.ht.lt b x).2; omega
        · rw [hl]; intro x; injection x with x; have := hsx.lt b e; omega
    · rw [upd_other _ _ e]
      have hik : i < k := by omega
      obtain ⟨a1, a2⟩ := h.hs i hik
      refine ⟨a1.fr f2 (fun b e => ?_), fun b e => ⟨(a2 b e).1, ?_⟩⟩
      · rintro (x | x)
        · exact (a2 b e).2 x
        · have := (a2 b e).1; omega
      · rcases hl with hl | ⟨b', hb', hl⟩
        · rw [hl]; exact (a2 b e).2
        · rw [hl]; intro x; injection x with x; have := a1.lt b e; have := n1.size; omega
  · refine h.new.then f2 (fun i hi => ?_)
    rintro (x | x)
    · exact hlow i (by omega) x
    · omega

theorem RNew.done {w0 w : World} {B r t s k : Nat} {gs : Value} {tv : Value} {sv : Nat → Value} (h : RNew w0 w B r gs s (List.replicate k 0) t tv sv)
    (hB : r < B ∧ w0.heap.size ≤ r) (hgB : ∀ b, slB gs ((List.replicate k 0).map I) = some b → b < B ∧ b ≠ r ∧ w0.heap.size ≤ b) :
    ∃ L, RAt w r L (AG.fresh t s k) ∧ L.Apart r (AG.fresh t s k) ∧ (∀ b, L.foot r (AG.fresh t s k) b → w0.heap.size ≤ b) ∧ New w0 w := by
  have lenT : (AG.fresh t s k).T.length = t := by simp [AG.fresh]
  have lenO : (AG.fresh t s k).O.length = 0 := rfl
  have gT : ∀ i, i < t → (AG.fresh t s k).T.getD i default = ⟨List.replicate s 0, []⟩ := fun i hi => by simp [AG.fresh, List.getD, hi]
  have tvB : ∀ b, tv.ownBlock = some b → B ≤ b := fun b e => (h.ht.lt b e).1
  refine ⟨⟨tv, gs, .slice none 0 0, sv, fun _ => .slice none 0 0, fun _ => undef, fun _ => undef⟩, ?_, ?_, ?_, h.new⟩
  · intro x hx
    cases x with
    | r => exact h.hr
    | t =>
      simp only [RPart, lenT]
      exact ⟨h.ht.1, h.ht.2.imp id (fun ⟨g, cap, cur, a, _, c⟩ => ⟨g, cap, cur, a, Nat.zero_le _, c⟩)⟩
    | G => exact h.hG
    | o => exact World.ownsRow_nil _ _ _ _
    | s i => simp only [RR.ok, lenT] at hx; simp only [RPart]; rw [gT i hx]; exact (h.hs i hx).1
    | st i => simp only [RR.ok, lenT] at hx; simp only [RPart]; rw [gT i hx]; exact .inl ⟨rfl, none, 0, rfl, fun _ => rfl⟩
    | rf j => simp only [RR.ok, lenO] at hx; omega
    | dt j => simp only [RR.ok, lenO] at hx; omega
  · have sb : ∀ i b, i < t → slB (sv i) (((AG.fresh t s k).T.getD i default).slots.map I) = some b → B ≤ b ∧ tv.ownBlock ≠ some b := fun i b hi e => by rw [gT i hi] at e; exact (h.hs i hi).2 b e
    have kb : ∀ i b, i < t → slB (.slice none 0 0) (((AG.fresh t s k).T.getD i default).stack.map I) ≠ some b := fun i b hi e => by rw [gT i hi] at e; simp [slB] at e
    intro x y b ht hx hy e1 e2
    cases x <;> cases y <;> (try simp only [RL.own, Option.some.injEq, RR.ok, lenT, lenO, Nat.not_lt_zero, RR.turns] at e1 e2 hx hy ht) <;> try rfl
    · have := tvB b e2; omega
    · have := hgB b e2; omega
    · cases e2
    · have := sb _ b hy e2; omega
    · exact absurd e2 (kb _ b hy)
    · have := tvB b e1; omega
    · have := tvB b e1; have := hgB b e2; omega
    · cases e2
    · exact absurd e1 (sb _ b hy e2).2
    · exact absurd e2 (kb _ b hy)
    · have := hgB b e1; omega
    · have := tvB b e2; have := hgB b e1; omega
    · cases e2
    · have := sb _ b hy e2; have := hgB b e1; omega
    · exact absurd e2 (kb _ b hy)
    all_goals cases e1
  · rintro b ⟨x, hx, e⟩
    have hn := h.new.size
    cases x <;> (try simp only [RL.own, Option.some.injEq, RR.ok, lenT, lenO, Nat.not_lt_zero] at e hx)
    · omega
    · have := tvB b e; omega
    · exact (hgB b e).2.2
    · cases e
    · rename_i i
      rw [gT i hx] at e
      have := (h.hs i hx).2 b e; omega
    · rename_i i
      rw [gT i hx] at e; simp [slB] at e

end Go.Proofs.Ytnhombeagbhccaa
