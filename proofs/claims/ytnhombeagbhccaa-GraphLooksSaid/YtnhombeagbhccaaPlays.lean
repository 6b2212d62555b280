/- GraphPlays: its walk. -/
import Derived.Test.YtnhombeagbhccaaRefReach
import Derived.Test.YtnhombeagbhccaaGone2
namespace Go.Proofs.Ytnhombeagbhccaa
open Go.RowKit

/-- A graph and a reference's graph that a call made: they have no part in each other. -/
def Both (w0 w : World) (g : Nat) (A : AG) (r : Nat) (B : AG) : Prop :=
  ∃ (L : PG) (R : RL), GAt w g L A ∧ L.Apart g A ∧ RAt w r R B ∧ R.Apart r B ∧ (∀ b, L.foot g A b → w0.heap.size ≤ b ∧ ¬ R.foot r B b) ∧ (∀ b, R.foot r B b → w0.heap.size ≤ b) ∧ New w0 w

variable {w0 w w' : World} {g r : Nat} {A B A' : AG}

theorem Both.new (m : Both w0 w g A r B) : New w0 w := by obtain ⟨_, _, _, _, _, _, _, _, h⟩ := m; exact h

theorem Both.onNew (m : Both w0 w g A r B) (hn : New w w') : Both w0 w' g A r B := by
  obtain ⟨L, R, h1, h2, h3, h4, h5, h6, h7⟩ := m
  exact ⟨L, R, h1.onNew hn, h2, h3.onNew hn, h4, h5, h6, Fr.trans h7 hn⟩

theorem both_does (m : Both w0 w g A r B) (hv : A.Valid) (hs : A.Small) (x : AA) :
    Calls Try.prog 11 #[Pt g, x.val] w fun E W => E = .returned (.tuple #[U (A.act x).2.1, I (A.act x).2.2]) ∧ Both w0 W g (A.act x).1 r B := by
  obtain ⟨L, R, h1, h2, h3, h4, h5, h6, h7⟩ := m
  refine (does_graph h1 h2 hv hs x).mono fun _ W ⟨a, L', k1, k2, k3, k4⟩ => ⟨a, L', R, k1, k2, h3.kept k4 (fun b hb hL => (h5 b hL).2 hb), h4, fun b hb => ?_, h6, h7.then k4 (fun i hi hf => by have := (h5 i hf).1; omega)⟩
  rcases k3 b hb with h | h
  · exact h5 b h
  · exact ⟨Nat.le_trans h7.size h, fun e => by have := h3.lt b e; omega⟩

theorem both_says (m : Both w0 w g A r B) (hn : 0 < B.T.length) (hv : B.Valid) (hs : B.Small) (x : AA) :
    Calls Try.prog 12 #[Pt r, x.val] w fun E W => E = .returned (.tuple #[U (B.act x).2.1, I (B.act x).2.2]) ∧ Both w0 W g A r (B.act x).1 := by
  obtain ⟨L, R, h1, h2, h3, h4, h5, h6, h7⟩ := m
  refine (says_graph h3 h4 hn hv hs x).mono fun _ W ⟨a, R', k1, k2, k3, k4⟩ => ⟨a, L, R', h1.kept k4 (fun b hb hR => (h5 b hb).2 hR), h2, k1, k2, fun b hb => ⟨(h5 b hb).1, fun e => ?_⟩, fun b hb => ?_, h7.then k4 (fun i hi hf => by have := h6 i hf; omega)⟩
  · rcases k3 b e with h | h
    · exact (h5 b hb).2 h
    · have := h1.lt b hb; omega
  · rcases k3 b hb with h | h
    · exact h6 b h
    · exact Nat.le_trans h7.size h

theorem both_Reach (m : Both w0 w g A r B) (hv : A.Valid) (hs : A.Small) :
    Calls Try.prog 13 #[Pt g] w fun e w' => ∃ v l, e = .returned v ∧ A.Told l ∧ w'.ownsRow w.heap.size 3 1 v l.length (l.map I) ∧ Both w0 w' g A r B ∧ New w w' := by
  obtain ⟨L, R, h1, h2, h3, h4, h5, h6, h7⟩ := m
  exact (graph_Reach h1 hv hs).mono fun _ _ ⟨v, l, a, b, c, d⟩ => ⟨v, l, a, b, c, ⟨L, R, h1.onNew d, h2, h3.onNew d, h4, h5, h6, Fr.trans h7 d⟩, d⟩

theorem both_RefReach (m : Both w0 w g A r B) (hn : 0 < B.T.length) (hv : B.Valid) (hs : B.Small) :
    Calls Try.prog 14 #[Pt r] w fun e w' => ∃ bs : List Bool, e = .returned (.slice (some ⟨w.heap.size, 0, none⟩) (B.O.length + 1) (B.O.length + 1)) ∧ OutAt w' w.heap.size bs ∧ bs.length = B.O.length + 1 ∧ (∀ x : Nat, x ≤ B.O.length → (bs[x]? = some true ↔ B.Reached x)) ∧ New w w' := by
  obtain ⟨L, R, h1, h2, h3, h4, h5, h6, h7⟩ := m
  exact ref_Reach h3 hn hv hs

theorem both_New (m : Mine w0 w g A) (t s k : Nat) (h2 : t ≤ 64) (h4 : k ≤ 8) (h6 : s ≤ 8) :
    Calls Try.prog 10 #[I t, I s, I k] w fun e w' => ∃ r, e = .returned (Pt r) ∧ Both w0 w' g A r (AG.fresh t s k) := by
  obtain ⟨L, k1, k2, k3, k4⟩ := m
  refine (ref_New t s k w h2 h4 h6).mono fun _ _ ⟨r, a, R, b1, b2, b3, b4⟩ => ⟨r, a, L, R, k1.onNew b4, k2, b1, b2, fun b hb => ⟨k3 b hb, fun e => ?_⟩, fun b hb => Nat.le_trans k4.size (b3 b hb), Fr.trans k4 b4⟩
  have := k1.lt b hb
  have := b3 b e
  omega

/-- The first k of l are below n, the others are not. -/
structure CutAt (l : List Int) (n : Int) (k : Nat) : Prop where
  le : k ≤ l.length
  lo : ∀ j x, j < k → l[j]? = some x → x < n
  hi : ∀ j x, k ≤ j → l[j]? = some x → n ≤ x

theorem CutAt.start {l : List Int} (h : ∀ x ∈ l, 1 ≤ x) : CutAt l 1 0 := ⟨by omega, fun j x hj => by omega, fun j x _ hx => h x (List.mem_of_getElem? hx)⟩

theorem CutAt.yes {l : List Int} {n : Int} {k : Nat} (h : CutAt l n k) (hs : l.Pairwise (· < ·)) (hm : n ∈ l) : l[k]? = some n ∧ CutAt l (n + 1) (k + 1) := by
  obtain ⟨j, hj⟩ := List.getElem?_of_mem hm
  have hkj : k ≤ j := by
    rcases Nat.lt_or_ge j k with h1 | h1
    · have := h.lo j n h1 hj; omega
    · exact h1
  have hjl : j < l.length := (List.getElem?_eq_some_iff.1 hj).1
  have hkl : k < l.length := by omega
  have hk : l[k]? = some l[k] := List.getElem?_eq_getElem hkl
  have h1 := h.hi k _ (Nat.le_refl _) hk
  have e : j = k := by
    rcases Nat.lt_or_ge k j with h2 | h2
    · have h3 := List.pairwise_iff_getElem.1 hs k j hkl hjl h2
      have h4 := (List.getElem?_eq_some_iff.1 hj).2
      omega
    · omega
  subst e
  refine ⟨hj, by omega, fun i x hi hx => ?_, fun i x hi hx => ?_⟩
  · rcases Nat.lt_or_ge i j with h2 | h2
    · have := h.lo i x h2 hx; omega
    · obtain rfl : i = j := by omega
      rw [hj] at hx; injection hx with hx; omega
  · have hil : i < l.length := (List.getElem?_eq_some_iff.1 hx).1
    have h3 := List.pairwise_iff_getElem.1 hs j i hjl hil (by omega)
    have h4 := (List.getElem?_eq_some_iff.1 hj).2
    have h5 := (List.getElem?_eq_some_iff.1 hx).2
    omega

theorem CutAt.no {l : List Int} {n : Int} {k : Nat} (h : CutAt l n k) (hm : n ∉ l) : CutAt l (n + 1) k := by
  refine ⟨h.le, fun j x hj hx => by have := h.lo j x hj hx; omega, fun j x hj hx => ?_⟩
  have h1 := h.hi j x hj hx
  have : x ≠ n := fun e => hm (e ▸ List.mem_of_getElem? hx)
  omega

theorem CutAt.all {l : List Int} {n : Int} {k : Nat} (h : CutAt l n k) (hm : ∀ x ∈ l, x < n) : k = l.length := by
  have := h.le
  rcases Nat.lt_or_ge k l.length with h1 | h1
  · have h2 : l[k]? = some l[k] := List.getElem?_eq_getElem h1
    have := h.hi k _ (Nat.le_refl _) h2
    have := hm _ (List.mem_of_getElem? h2)
    omega
  · omega

end Go.Proofs.Ytnhombeagbhccaa
