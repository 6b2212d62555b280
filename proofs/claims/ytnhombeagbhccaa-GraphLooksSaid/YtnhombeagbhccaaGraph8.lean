/- Package graph, program side: New. -/
import Derived.Test.YtnhombeagbhccaaGraph7
namespace Go.Proofs.Ytnhombeagbhccaa
open Go.RowKit

variable {w w' : World} {g : Nat} {L : PG} {A : AG}

theorem graph_New_bad1 (t s k : Int) (w : World) (h : t < 1 ∨ 64 < t ∨ k < 0 ∨ 8 < k) :
    Calls Try.prog 8 #[I t, I s, I k] w fun e w' => e = .returned (.tuple #[.pointer none, I 2]) ∧ New w w' := by
  by_cases h1 : t < 1
  · go_enter Try.func8, Try.ntmps8
    go_wp2
    go_ret2
    exact ⟨rfl, New.refl _⟩
  by_cases h2 : 64 < t
  · go_enter Try.func8, Try.ntmps8
    go_wp2
    go_ret2
    exact ⟨rfl, New.refl _⟩
  by_cases h3 : k < 0
  · go_enter Try.func8, Try.ntmps8
    go_wp2
    go_ret2
    exact ⟨rfl, New.refl _⟩
  have h4 : 8 < k := by omega
  go_enter Try.func8, Try.ntmps8
  go_wp2
  go_ret2
  exact ⟨rfl, New.refl _⟩

theorem RootsAt.fr {w w' : World} {F : Nat → Prop} {r : Nat} {R : AR} (h : RootsAt w r R) (hf : Fr F w w') (hF : ¬ F r) : RootsAt w' r R := h.kept (hf.block _ h.lt hF)

/-- New's threads, k of them so far. -/
structure NewInv (w0 w : World) (B g : Nat) (gs : Value) (R0 : AR) (mb : Nat) (G : List Int) (k : Nat) (tv : Value) (r : Nat → Nat) : Prop where
  hg : w.heap[g]? = some (.cells #[tv, gs, .map (some mb)] 56 (0, 0))
  ht : w.ownsRow B 57 1 tv k ((List.range k).map fun i => Pt (r i))
  hG : Sl w 3 gs (G.map I)
  hm : w.heap[mb]? = some (.map #[] 0)
  hr : ∀ i, i < k → RootsAt w (r i) R0 ∧ B ≤ r i
  inj : ∀ i j, i < j → j < k → r i < r j
  ne : ∀ i, i < k → tv.ownBlock ≠ some (r i)
  new : New w0 w

theorem NewInv.next {w0 w w1 w2 : World} {B g : Nat} {gs : Value} {R0 : AR} {mb : Nat} {G : List Int} {k : Nat} {tv tv' : Value} {r : Nat → Nat} (h : NewInv w0 w B g gs R0 mb G k tv r)
    (h1 : RootsAt w1 w.heap.size R0) (h2 : New w w1) (h2s : w1.heap.size = w.heap.size + 1) (ht : w2.ownsRow B 57 1 tv' (k + 1) (((List.range k).map fun i => Pt (r i)) ++ [Pt w.heap.size]))
    (hf : Fr (fun b => tv.ownBlock = some b) w1 w2) (hl : tv'.ownBlock = tv.ownBlock ∨ ∃ b, w1.heap.size ≤ b ∧ tv'.ownBlock = some b)
    (hB : g < B ∧ mb < B ∧ g ≠ mb ∧ w0.heap.size ≤ g ∧ B ≤ w.heap.size) (hgB : ∀ b, slB gs (G.map I) = some b → b < B ∧ b ≠ g ∧ b ≠ mb) :
    NewInv w0 (w2.setCell ⟨g, 0, none⟩ tv') B g gs R0 mb G (k + 1) tv' (upd r k w.heap.size) := by
  have hlow : ∀ b, b < B → tv.ownBlock ≠ some b := fun b hb e => by have := (h.ht.lt b e).1; omega
  have f1 : Fr (fun b => tv.ownBlock = some b) w w2 := (h2.to _).trans hf
  have f2 : Fr (fun b => tv.ownBlock = some b ∨ b = g) w (w2.setCell ⟨g, 0, none⟩ tv') := (f1.mono (fun _ _ x => .inl x)).set _ _ (.inr rfl)
  have fg : Fr (· = g) w2 (w2.setCell ⟨g, 0, none⟩ tv') := (Fr.refl _ _).set _ _ rfl
  have hrange : (List.range (k + 1)).map (fun i => Pt (upd r k w.heap.size i)) = ((List.range k).map fun i => Pt (r i)) ++ [Pt w.heap.size] := by
    rw [List.range_succ, List.map_append]
    congr 1
    · refine List.map_congr_left fun i hi => ?_
      have := List.mem_range.1 hi
      rw [upd_other _ _ (by omega)]
    · simp [upd_self]
  have tvB : ∀ b, tv'.ownBlock = some b → B ≤ b := fun b e => (ht.lt b e).1
  refine ⟨?_, ?_, ?_, ?_, ?_, ?_, ?_, ?_⟩
  · exact heap_setCell_same (i := 0) tv' (f1.blk h.hg (hlow g hB.1))
  · rw [hrange]; exact ownsRow_fr ht fg (fun b e => by have := tvB b e; omega)
  · refine h.hG.fr f2 (fun b e => ?_)
    have := hgB b e
    rintro (x | x)
    · exact hlow b this.1 x
    · omega
  · refine f2.blk h.hm ?_
    rintro (x | x)
    · exact hlow mb hB.2.1 x
    · omega
  · intro i hi
    by_cases e : i = k
    · subst e
      rw [upd_self]
      refine ⟨(h1.fr hf ?_).fr fg ?_, by omega⟩
      · intro x; have := (h.ht.lt _ x).2; omega
      · have := lt_of_block h.hg; omega
    · rw [upd_other _ _ e]
      have hik : i < k := by omega
      refine ⟨(h.hr i hik).1.fr f2 ?_, (h.hr i hik).2⟩
      rintro (x | x)
      · exact h.ne i hik x
      · have := (h.hr i hik).2; omega
  · intro i j hij hj
    by_cases e : j = k
    · subst e
      rw [upd_self, upd_other _ _ (by omega)]
      exact (h.hr i hij).1.lt
    · rw [upd_other _ _ e, upd_other _ _ (by omega)]
      exact h.inj i j hij (by omega)
  · intro i hi
    by_cases e : i = k
    · subst e
      rw [upd_self]
      rcases hl with hl | ⟨b, hb, hl⟩
      · rw [hl]; intro x; have := (h.ht.lt _ x).2; omega
      · rw [hl]; intro x; injection x with x; omega
    · rw [upd_other _ _ e]
      have hik : i < k := by omega
      rcases hl with hl | ⟨b, hb, hl⟩
      · rw [hl]; exact h.ne i hik
      · rw [hl]; intro x; injection x with x; have := (h.hr i hik).1.lt; omega
  · refine h.new.then f2 (fun i hi => ?_)
    rintro (x | x)
    · exact hlow i (by omega) x
    · omega




theorem NewInv.done {w0 w : World} {B g : Nat} {gs : Value} {mb : Nat} {t s k : Nat} {tv : Value} {r : Nat → Nat} (h : NewInv w0 w B g gs ⟨List.replicate s 0, []⟩ mb (List.replicate k 0) t tv r)
    (ht : 1 ≤ t) (hB : g < B ∧ mb < B ∧ g ≠ mb ∧ w0.heap.size ≤ g ∧ w0.heap.size ≤ mb) (hgB : ∀ b, slB gs ((List.replicate k 0).map I) = some b → b < B ∧ b ≠ g ∧ b ≠ mb ∧ w0.heap.size ≤ b) :
    ∃ L, GAt w g L (AG.fresh t s k) ∧ L.Apart g (AG.fresh t s k) ∧ (∀ b, L.foot g (AG.fresh t s k) b → w0.heap.size ≤ b) ∧ New w0 w := by
  rcases h.ht.2 with ⟨_, h0⟩ | ⟨tb, cap, cur, htv, h1, h2, h3, h4⟩
  · omega
  have hr := h.hr
  refine ⟨⟨tb, cap, gs, mb, #[], 0, [], r, fun _ => 0, fun _ => undef, fun _ => undef⟩, ⟨?_, ?_, h.hG, h.hm, rfl, rfl, ?_, ?_, ?_, ?_, ?_, ?_, MapKept.stamped_empty 0⟩, ?_, ?_, h.new⟩
  · have := h.hg; rw [htv] at this; simpa [AG.fresh] using this
  · have := h.ht; rw [htv] at this
    simp only [AG.fresh, List.length_replicate]
    exact ⟨this.1, this.2.imp id (fun ⟨g, cap, cur, a, _, c⟩ => ⟨g, cap, cur, a, Nat.zero_le _, c⟩)⟩
  · intro p hp; cases hp
  · intro i hi; simp [AG.fresh] at hi
  · intro i hi
    simp only [AG.fresh, List.length_replicate] at hi
    have := (hr i hi).1
    simpa [AG.fresh, List.getD, List.getElem?_replicate, hi] using this
  · intro i hi; simp [AG.fresh] at hi
  · intro i hi; simp [AG.fresh] at hi
  · intro i hi; simp [AG.fresh] at hi
  · have ne := h.ne
    have inj := h.inj
    rw [htv] at ne
    simp only [Value.ownBlock] at ne
    have hrr : ∀ i j, i < t → j < t → r i = r j → i = j := by
      intro i j hi hj e
      rcases Nat.lt_trichotomy i j with x | x | x
      · have := inj i j x hj; omega
      · exact x
      · have := inj j i x hi; omega
    have lenT : (AG.fresh t s k).T.length = t := by simp [AG.fresh]
    intro x y b hx hy e1 e2
    have lenO : (AG.fresh t s k).O.length = 0 := rfl
    have hgb : ∀ b, slB gs ((AG.fresh t s k).G.map I) = some b → b < B ∧ b ≠ g ∧ b ≠ mb ∧ w0.heap.size ≤ b := hgB
    have hrb := fun i hi => (hr i hi).2
    have ne' : ∀ i, i < t → tb ≠ r i := fun i hi e => ne i hi (by rw [e])
    cases x <;> cases y <;> (try simp only [PG.own, Option.some.injEq, Role.ok, lenT, lenO, Nat.not_lt_zero] at e1 e2 hx hy) <;> try rfl
    · omega
    · have := hgb b e2; omega
    · omega
    · have := hrb _ hy; omega
    · omega
    · have := hgb b e2; omega
    · omega
    · have := ne' _ hy; omega
    · have := hgb b e1; omega
    · have := hgb b e1; omega
    · have := hgb b e1; omega
    · have := hgb b e1; have := hrb _ hy; omega
    · omega
    · omega
    · have := hgb b e2; omega
    · have := hrb _ hy; omega
    · have := hrb _ hx; omega
    · have := ne' _ hx; omega
    · have := hgb b e2; have := hrb _ hx; omega
    · have := hrb _ hx; omega
    · congr 1; exact hrr _ _ hx hy (e1.trans e2.symm)
  · rintro b ⟨x, hx, e⟩
    have lenT : (AG.fresh t s k).T.length = t := by simp [AG.fresh]
    have lenO : (AG.fresh t s k).O.length = 0 := rfl
    cases x <;> (try simp only [PG.own, Option.some.injEq, Role.ok, lenT, lenO, Nat.not_lt_zero] at e hx)
    · omega
    · omega
    · exact (hgB b e).2.2.2
    · omega
    · have := (hr _ hx).2; omega

end Go.Proofs.Ytnhombeagbhccaa
