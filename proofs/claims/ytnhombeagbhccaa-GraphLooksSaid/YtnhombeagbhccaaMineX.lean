/- A graph of the call's own, beside other blocks of the call's own. -/
import Derived.Test.YtnhombeagbhccaaMine
namespace Go.Proofs.Ytnhombeagbhccaa
open Go.RowKit

/-- A graph that a call made, that has no part in X. -/
def MineX (w0 w : World) (g : Nat) (A : AG) (X : Nat → Prop) : Prop := ∃ L : PG, GAt w g L A ∧ L.Apart g A ∧ (∀ b, L.foot g A b → w0.heap.size ≤ b ∧ ¬ X b) ∧ New w0 w

variable {w0 w w' : World} {g : Nat} {A : AG} {X : Nat → Prop}

theorem MineX.new (m : MineX w0 w g A X) : New w0 w := by obtain ⟨L, _, _, _, h⟩ := m; exact h

theorem Mine.beside (m : Mine w0 w g A) (hX : ∀ b, X b → w.heap.size ≤ b) (hn : New w w') : MineX w0 w' g A X := by
  obtain ⟨L, h1, h2, h3, h4⟩ := m
  refine ⟨L, h1.onNew hn, h2, fun b hb => ⟨h3 b hb, fun x => ?_⟩, Fr.trans h4 hn⟩
  have := hX b x
  have := h1.lt b hb
  omega

theorem MineX.onNew (m : MineX w0 w g A X) (hn : New w w') : MineX w0 w' g A X := by
  obtain ⟨L, h1, h2, h3, h4⟩ := m
  exact ⟨L, h1.onNew hn, h2, h3, Fr.trans h4 hn⟩

/-- The graph stays while X turns. -/
theorem MineX.onFr (m : MineX w0 w g A X) (hn : Fr X w w') (hX : ∀ b, X b → w0.heap.size ≤ b) : MineX w0 w' g A X := by
  obtain ⟨L, h1, h2, h3, h4⟩ := m
  exact ⟨L, h1.kept hn (fun b hb => (h3 b hb).2), h2, h3, New.then h4 hn (fun i hi x => by have := hX i x; omega)⟩

theorem MineX.past {F : Nat → Prop} (m : MineX w0 w g A X) (hn : Fr F w w') (hF : ∀ b, F b → X b ∨ w.heap.size ≤ b) (hX : ∀ b, X b → w0.heap.size ≤ b) : MineX w0 w' g A X := by
  obtain ⟨L, h1, h2, h3, h4⟩ := m
  have hs := h4.size
  refine ⟨L, h1.kept hn (fun b hb f => ?_), h2, h3, New.then h4 hn (fun i hi f => ?_)⟩
  · have h5 := h1.lt b hb
    rcases hF b f with x | x
    · exact (h3 b hb).2 x
    · omega
  · rcases hF i f with x | x
    · have := hX i x; omega
    · omega

theorem MineX.goes {L : PG} {A' : AG} (hX : ∀ b, X b → b < w.heap.size) (hb : ∀ b, L.foot g A b → w0.heap.size ≤ b ∧ ¬ X b) (hn : New w0 w) (h : Goes w w' g L A A') : MineX w0 w' g A' X ∧ Fr (fun b => ¬ X b) w w' := by
  obtain ⟨L', h1, h2, h3, h4⟩ := h
  refine ⟨⟨L', h1, h2, fun b hb' => ?_, hn.then h4 (fun i hi hf => by have := (hb i hf).1; omega)⟩, h4.mono (fun i _ hf => (hb i hf).2)⟩
  rcases h3 b hb' with h | h
  · exact hb b h
  · exact ⟨Nat.le_trans hn.size h, fun x => by have := hX b x; omega⟩

theorem minex_does (m : MineX w0 w g A X) (hX : ∀ b, X b → b < w.heap.size) (hv : A.Valid) (hs : A.Small) (x : AA) :
    Calls Try.prog 11 #[Pt g, x.val] w fun E W => E = .returned (.tuple #[U (A.act x).2.1, I (A.act x).2.2]) ∧ MineX w0 W g (A.act x).1 X ∧ Fr (fun b => ¬ X b) w W := by
  obtain ⟨L, h1, h2, h3, h4⟩ := m
  exact (does_graph h1 h2 hv hs x).mono fun _ _ ⟨a, b⟩ => ⟨a, MineX.goes hX h3 h4 b⟩

theorem minex_Reach (m : MineX w0 w g A X) (hv : A.Valid) (hs : A.Small) :
    Calls Try.prog 13 #[Pt g] w fun e w' => ∃ v l, e = .returned v ∧ A.Told l ∧ w'.ownsRow w.heap.size 3 1 v l.length (l.map I) ∧ MineX w0 w' g A X ∧ New w w' := by
  obtain ⟨L, h1, h2, h3, h4⟩ := m
  exact (graph_Reach h1 hv hs).mono fun _ _ ⟨v, l, a, b, c, d⟩ => ⟨v, l, a, b, c, ⟨L, h1.onNew d, h2, h3, Fr.trans h4 d⟩, d⟩

end Go.Proofs.Ytnhombeagbhccaa
