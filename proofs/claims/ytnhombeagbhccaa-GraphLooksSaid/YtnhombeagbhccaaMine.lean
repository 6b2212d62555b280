/- A graph of the call's own; a graph that is known. -/
import Derived.Test.YtnhombeagbhccaaDoes2
namespace Go.Proofs.Ytnhombeagbhccaa
open Go.RowKit

/-- A graph that a call made: all of it lies in new blocks. -/
def Mine (w0 w : World) (g : Nat) (A : AG) : Prop := ∃ L : PG, GAt w g L A ∧ L.Apart g A ∧ (∀ b, L.foot g A b → w0.heap.size ≤ b) ∧ New w0 w

variable {w0 w w' : World} {g : Nat} {A : AG}

theorem Mine.new (m : Mine w0 w g A) : New w0 w := by obtain ⟨L, _, _, _, h⟩ := m; exact h

theorem Mine.goes {L : PG} {A' : AG} (hb : ∀ b, L.foot g A b → w0.heap.size ≤ b) (hn : New w0 w) (h : Goes w w' g L A A') : Mine w0 w' g A' := by
  obtain ⟨L', h1, h2, h3, h4⟩ := h
  refine ⟨L', h1, h2, fun b hb' => ?_, hn.then h4 (fun i hi hf => by have := hb i hf; omega)⟩
  rcases h3 b hb' with h | h
  · exact hb b h
  · exact Nat.le_trans hn.size h

theorem Mine.onNew (m : Mine w0 w g A) (hn : New w w') : Mine w0 w' g A := by
  obtain ⟨L, h1, h2, h3, h4⟩ := m
  exact ⟨L, h1.onNew hn, h2, h3, Fr.trans h4 hn⟩

theorem mine_New (t s k : Nat) (w : World) (h1 : 1 ≤ t) (h2 : t ≤ 64) (h4 : k ≤ 8) (h5 : 1 ≤ s) (h6 : s ≤ 8) :
    Calls Try.prog 8 #[I t, I s, I k] w fun e w' => ∃ g, e = .returned (.tuple #[Pt g, I 0]) ∧ Mine w w' g (AG.fresh t s k) :=
  (graph_New_ok t s k w h1 h2 h4 h5 h6).mono fun _ _ ⟨g, h1, _, L, h2, h3, h4, h5⟩ => ⟨g, h1, L, h2, h3, h4, h5⟩

theorem fresh_valid (t s k : Nat) : (AG.fresh t s k).Valid := by
  refine ⟨fun R hR x hx => ?_, fun R hR x hx => ?_, fun x hx => ?_, fun o ho => by cases ho⟩
  · have := (List.mem_replicate.1 hR).2; subst this
    rw [mem_rep hx]; simp [AG.fresh]
  · have := (List.mem_replicate.1 hR).2; subst this; cases hx
  · rw [mem_rep hx]; simp [AG.fresh]

theorem fresh_small (t s k : Nat) (h2 : t ≤ 64) (h4 : k ≤ 8) (h6 : s ≤ 8) : (AG.fresh t s k).Small := by
  have ho : ∀ {o : AO}, o ∈ (AG.fresh t s k).O → False := fun h => by cases h
  refine ⟨by simpa [AG.fresh] using h2, fun R hR => ?_, fun R hR => ?_, by simpa [AG.fresh] using h4, fun o h => (ho h).elim, fun o h => (ho h).elim, by simp [AG.fresh]⟩
  · have := (List.mem_replicate.1 hR).2; subst this
    simpa using h6
  · have := (List.mem_replicate.1 hR).2; subst this
    simp

theorem mine_does (m : Mine w0 w g A) (hv : A.Valid) (hs : A.Small) (x : AA) :
    Calls Try.prog 11 #[Pt g, x.val] w fun E W => E = .returned (.tuple #[U (A.act x).2.1, I (A.act x).2.2]) ∧ Mine w0 W g (A.act x).1 := by
  obtain ⟨L, h1, h2, h3, h4⟩ := m
  exact (does_graph h1 h2 hv hs x).mono fun _ _ ⟨a, b⟩ => ⟨a, .goes h3 h4 b⟩

theorem mine_Alloc (m : Mine w0 w g A) (hs : A.Small) (t a b c : Int) :
    Calls Try.prog 18 #[Pt g, I t, I a, I b, I c] w fun E W => E = .returned (.tuple #[I (A.alloc t a b c).2.1, I (A.alloc t a b c).2.2]) ∧ Mine w0 W g (A.alloc t a b c).1 := by
  obtain ⟨L, h1, h2, h3, h4⟩ := m
  exact (graph_Alloc h1 h2 t a b c (by have := hs.objs; omega)).mono fun _ _ ⟨a, b⟩ => ⟨a, .goes h3 h4 b⟩

theorem mine_Store (m : Mine w0 w g A) (hv : A.Valid) (t a b c : Int) :
    Calls Try.prog 19 #[Pt g, I t, I a, I b, I c] w fun E W => E = .returned (I (A.store t a b c).2.2) ∧ Mine w0 W g (A.store t a b c).1 := by
  obtain ⟨L, h1, h2, h3, h4⟩ := m
  exact (graph_Store h1 h2 hv t a b c).mono fun _ _ ⟨a, b⟩ => ⟨a, .goes h3 h4 b⟩

theorem mine_Clear (m : Mine w0 w g A) (t a : Int) :
    Calls Try.prog 20 #[Pt g, I t, I a] w fun E W => E = .returned (I (A.clear t a).2.2) ∧ Mine w0 W g (A.clear t a).1 := by
  obtain ⟨L, h1, h2, h3, h4⟩ := m
  exact (graph_Clear h1 h2 t a).mono fun _ _ ⟨a, b⟩ => ⟨a, .goes h3 h4 b⟩

theorem mine_Load (m : Mine w0 w g A) (hv : A.Valid) (t a b c : Int) :
    Calls Try.prog 21 #[Pt g, I t, I a, I b, I c] w fun E W => E = .returned (.tuple #[I (A.load t a b c).2.1, I (A.load t a b c).2.2]) ∧ Mine w0 W g (A.load t a b c).1 := by
  obtain ⟨L, h1, h2, h3, h4⟩ := m
  exact (graph_Load h1 h2 hv t a b c).mono fun _ _ ⟨a, b⟩ => ⟨a, .goes h3 h4 b⟩

theorem mine_Reach (m : Mine w0 w g A) (hv : A.Valid) (hs : A.Small) :
    Calls Try.prog 13 #[Pt g] w fun e w' => ∃ v l, e = .returned v ∧ A.Told l ∧ w'.ownsRow w.heap.size 3 1 v l.length (l.map I) ∧ Mine w0 w' g A ∧ New w w' := by
  obtain ⟨L, h1, h2, h3, h4⟩ := m
  exact (graph_Reach h1 hv hs).mono fun _ _ ⟨v, l, a, b, c, d⟩ => ⟨v, l, a, b, c, ⟨L, h1.onNew d, h2, h3, Fr.trans h4 d⟩, d⟩

/-! ### A graph that is known -/

def K0 : AG := ⟨[⟨[0, 0], []⟩], [0], []⟩
def K1 : AG := ⟨[⟨[1, 0], []⟩], [0], [⟨[0], []⟩]⟩
def K2 : AG := ⟨[⟨[1, 2], []⟩], [0], [⟨[0], []⟩, ⟨[], [0]⟩]⟩
def K3 : AG := ⟨[⟨[1, 2], []⟩], [0], [⟨[2], []⟩, ⟨[], [0]⟩]⟩
def K4 : AG := ⟨[⟨[1, 0], []⟩], [0], [⟨[2], []⟩, ⟨[], [0]⟩]⟩
def K5 : AG := ⟨[⟨[1, 2], []⟩], [0], [⟨[2], []⟩, ⟨[], [0]⟩]⟩
def K6 : AG := ⟨[⟨[0, 2], []⟩], [0], [⟨[2], []⟩, ⟨[], [0]⟩]⟩

theorem k_fresh : AG.fresh 1 2 1 = K0 := rfl
theorem k1 : K0.alloc 0 0 1 1 = (K1, 1, 0) := rfl
theorem k2 : K1.alloc 0 1 0 1 = (K2, 2, 0) := rfl
theorem k3 : K2.store 0 0 0 1 = (K3, 0, 0) := rfl
theorem k4 : K3.clear 0 1 = (K4, 0, 0) := rfl
theorem k5 : K4.load 0 1 0 0 = (K5, 2, 0) := rfl
theorem k6 : K5.clear 0 0 = (K6, 0, 0) := rfl

theorem K0.valid : K0.Valid := k_fresh ▸ fresh_valid 1 2 1
theorem K0.small : K0.Small := k_fresh ▸ fresh_small 1 2 1 (by omega) (by omega) (by omega)
theorem K1.good : K1.Valid ∧ K1.Small := by
  have h := (alloc_good K0.valid 0 0 1 1).1
  rw [k1] at h
  exact ⟨h.valid, h.small K0.small (by simp [K1])⟩
theorem K2.good : K2.Valid ∧ K2.Small := by
  have h := (alloc_good K1.good.1 0 1 0 1).1
  rw [k2] at h
  exact ⟨h.valid, h.small K1.good.2 (by simp [K2])⟩
theorem K3.good : K3.Valid ∧ K3.Small := by
  have h := store_good K2.good.1 0 0 0 1
  rw [k3] at h
  exact ⟨h.valid, h.small K2.good.2 (by simp [K2])⟩
theorem K4.good : K4.Valid ∧ K4.Small := by
  have h := clear_good K3.good.1 0 1
  rw [k4] at h
  exact ⟨h.valid, h.small K3.good.2 (by simp [K3])⟩
theorem K5.good : K5.Valid ∧ K5.Small := by
  have h := load_good K4.good.1 0 1 0 0
  rw [k5] at h
  exact ⟨h.valid, h.small K4.good.2 (by simp [K4])⟩
theorem K6.good : K6.Valid ∧ K6.Small := by
  have h := clear_good K5.good.1 0 0
  rw [k6] at h
  exact ⟨h.valid, h.small K5.good.2 (by simp [K5])⟩

theorem K6.told {l : List Int} (h : K6.Told l) : l = [2] := by
  have h2 : ∀ x, K6.Reached x ↔ x = 2 := by
    intro x
    constructor
    · intro hx
      induction hx with
      | glob hx h0 => simp [K6] at hx; omega
      | root hR hx h0 =>
        simp only [K6, List.mem_singleton] at hR
        subst hR
        simp [AR.refs] at hx; omega
      | @ref n x hn hx h0 ih =>
        subst ih
        have : K6.obj 2 = ⟨[], [0]⟩ := rfl
        rw [this] at hx; cases hx
    · rintro rfl
      exact .root (R := ⟨[0, 2], []⟩) (by simp [K6]) (by simp [AR.refs]) (by decide)
  have hm : ∀ x, x ∈ l ↔ x = 2 := fun x => (h.mem x).trans (h2 x)
  have hs := h.sorted
  cases l with
  | nil => exact absurd ((hm 2).2 rfl) (by simp)
  | cons a l =>
    have ha : a = 2 := (hm a).1 (by simp)
    subst ha
    cases l with
    | nil => rfl
    | cons b l =>
      have hb : b = 2 := (hm b).1 (by simp)
      subst hb
      simp at hs

set_option maxRecDepth 100000 in
theorem wakes_call (w : World) : Calls Try.prog 7 #[] w fun e w' => e = .returned (.bool true) ∧ New w w' := by
  have c0 : Calls Try.prog 8 #[I 1, I 2, I 1] w fun e w' => ∃ g, e = .returned (.tuple #[Pt g, I 0]) ∧ Mine w w' g K0 := mine_New 1 2 1 w (by omega) (by omega) (by omega) (by omega) (by omega)
  have C0 := Lib.hid c0
  clear c0
  go_enter Try.func7, Try.ntmps7
  go_wp2_with (go_at_call 8; (with_reducible refine C0.out.mono ?_); rintro e w1 ⟨g, rfl, m0⟩)
  have c1 := mine_Alloc m0 K0.small 0 0 1 1
  rw [k1] at c1
  have C1 := Lib.hid c1
  clear c1
  go_wp2_with (go_at_call 18; (with_reducible refine C1.out.mono ?_); rintro e w2 ⟨rfl, m1⟩)
  have c2 := mine_Alloc m1 K1.good.2 0 1 0 1
  rw [k2] at c2
  have C2 := Lib.hid c2
  clear c2
  go_wp2_with (go_at_call 18; (with_reducible refine C2.out.mono ?_); rintro e w3 ⟨rfl, m2⟩)
  have c3 := mine_Store m2 K2.good.1 0 0 0 1
  rw [k3] at c3
  have C3 := Lib.hid c3
  clear c3
  go_wp2_with (go_at_call 19; (with_reducible refine C3.out.mono ?_); rintro e w4 ⟨rfl, m3⟩)
  have c4 := mine_Clear m3 0 1
  rw [k4] at c4
  have C4 := Lib.hid c4
  clear c4
  go_wp2_with (go_at_call 20; (with_reducible refine C4.out.mono ?_); rintro e w5 ⟨rfl, m4⟩)
  have c5 := mine_Load m4 K4.good.1 0 1 0 0
  rw [k5] at c5
  have C5 := Lib.hid c5
  clear c5
  go_wp2_with (go_at_call 21; (with_reducible refine C5.out.mono ?_); rintro e w6 ⟨rfl, m5⟩)
  have c6 := mine_Clear m5 0 0
  rw [k6] at c6
  have C6 := Lib.hid c6
  clear c6
  go_wp2_with (go_at_call 20; (with_reducible refine C6.out.mono ?_); rintro e w7 ⟨rfl, m6⟩)
  have C7 := Lib.hid (mine_Reach m6 K6.good.1 K6.good.2)
  go_wp2_with (go_at_call 13; (with_reducible refine C7.out.mono ?_); rintro e w8 ⟨v, l, rfl, hT, hown, m7, _⟩; obtain rfl := K6.told hT; obtain ⟨b, cap, rfl⟩ := own_shape hown (by simp); have hcell := hown.cellAt 0 (by simp))
  go_ret
  exact ⟨rfl, m7.new⟩

end Go.Proofs.Ytnhombeagbhccaa
