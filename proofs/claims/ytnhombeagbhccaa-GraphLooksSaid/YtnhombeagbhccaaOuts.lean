/- A row of answers: of each object whether it is reached. -/
import Derived.Test.YtnhombeagbhccaaRefNew2
import Derived.Test.YtnhombeagbhccaaWork
namespace Go.Proofs.Ytnhombeagbhccaa
open Go.RowKit

structure Outs (A : AG) (bs : List Bool) : Prop where
  len : bs.length = A.O.length + 1
  sound : ∀ x : Nat, bs[x]? = some true → x ≠ 0 → A.Reached x

/-- What is covered: each of l that is not 0 is told. -/
def Cov (bs : List Bool) (l : List Int) : Prop := ∀ x ∈ l, x ≠ 0 → bs[x.toNat]? = some true

theorem Outs.set {A : AG} {bs : List Bool} (h : Outs A bs) {x : Int} (h0 : 0 ≤ x) (hr : x ≠ 0 → A.Reached x) : Outs A (bs.set x.toNat true) := by
  refine ⟨by simp [h.len], fun y hy hy0 => ?_⟩
  by_cases e : x.toNat = y
  · have : (x : Int) = y := by omega
    rw [← this]; exact hr (by omega)
  · rw [List.getElem?_set_ne e] at hy
    exact h.sound y hy hy0

theorem Cov.set {bs : List Bool} {l : List Int} (h : Cov bs l) (k : Nat) : Cov (bs.set k true) l := by
  intro x hx h0
  by_cases e : k = x.toNat
  · subst e
    have := h x hx h0
    rw [List.getElem?_set_self (by
      rcases Nat.lt_or_ge x.toNat bs.length with h1 | h1
      · exact h1
      · rw [List.getElem?_eq_none h1] at this; cases this)]
  · rw [List.getElem?_set_ne e]; exact h x hx h0

theorem Cov.snoc {bs : List Bool} {l : List Int} (h : Cov bs l) {x : Int} (hx : x ≠ 0 → bs[x.toNat]? = some true) : Cov bs (l ++ [x]) := by
  intro y hy h0
  rcases List.mem_append.1 hy with hy | hy
  · exact h y hy h0
  · have : y = x := by simpa using hy
    subst this; exact hx h0

theorem Cov.push {A : AG} {bs : List Bool} {l : List Int} (ho : Outs A bs) (h : Cov bs l) {x : Int} (hx : A.In x) : Cov (bs.set x.toNat true) (l ++ [x]) :=
  (h.set _).snoc (fun _ => by rw [List.getElem?_set_self (by have := ho.len; have := hx.1; have := hx.2; omega)])

theorem Cov.unset {bs : List Bool} {l : List Int} (h : Cov bs l) (hl : ∀ x ∈ l, 0 ≤ x) : Cov (bs.set 0 false) l := by
  intro x hx h0
  have := hl x hx
  rw [List.getElem?_set_ne (by omega)]
  exact h x hx h0

theorem Outs.unset {A : AG} {bs : List Bool} (h : Outs A bs) : Outs A (bs.set 0 false) := by
  refine ⟨by simp [h.len], fun y hy hy0 => ?_⟩
  rw [List.getElem?_set_ne (by omega)] at hy
  exact h.sound y hy hy0

theorem count_set_true : ∀ {bs : List Bool} {k : Nat}, bs[k]? = some false → (bs.set k true).count false + 1 = bs.count false
  | b :: bs, 0, h => by
    simp at h; subst h; simp
  | b :: bs, k + 1, h => by
    have := count_set_true (bs := bs) (k := k) (by simpa using h)
    simp only [List.set_cons_succ, List.count_cons]; omega

/-- Answers that are sound, cover roots, and are closed: they tell what is reached. -/
theorem Outs.done {A : AG} (hv : A.Valid) {bs : List Bool} (h : Outs A bs) (h0 : bs[0]? = some false) (hg : Cov bs A.G) (hr : ∀ R ∈ A.T, Cov bs R.refs)
    (hc : ∀ n : Nat, 1 ≤ n → n ≤ A.O.length → bs[n]? = some true → Cov bs (A.O.getD (n - 1) default).refs) (x : Nat) (hx : x ≤ A.O.length) : bs[x]? = some true ↔ A.Reached x := by
  constructor
  · intro e
    exact h.sound x e (fun e0 => by subst e0; rw [h0] at e; cases e)
  · intro hR
    have key : ∀ y : Int, A.Reached y → bs[y.toNat]? = some true := by
      intro y hy
      induction hy with
      | glob hx h0 => exact hg _ hx h0
      | root hR hx h0 => exact hr _ hR _ hx h0
      | @ref n x hn hx h0 ih =>
        have hb := hv.reached hn
        have := hc n.toNat (by omega) (by omega) ih
        unfold AG.obj at hx
        exact this x hx h0
    simpa using key x hR

def OutAt (w : World) (b : Nat) (bs : List Bool) : Prop := w.heap[b]? = some (.cells (bs.map Value.bool).toArray 4 (0, 0))

theorem OutAt.set {w : World} {b : Nat} {bs : List Bool} (h : OutAt w b bs) (i : Nat) (v : Bool) : OutAt (w.setCell ⟨b, i, none⟩ (.bool v)) b (bs.set i v) := by
  have := heap_setCell_same (i := i) (.bool v) h
  unfold OutAt
  rw [this, List.map_set, List.setIfInBounds_toArray]

theorem OutAt.cell {w : World} {b : Nat} {bs : List Bool} (h : OutAt w b bs) {i : Nat} {v : Bool} (hi : bs[i]? = some v) : w.cell? ⟨b, i, none⟩ = some (.bool v) :=
  cell_blk h (by simp [hi])

theorem OutAt.free {w : World} {b : Nat} {bs : List Bool} (h : OutAt w b bs) (i : Nat) : w.frozen? ⟨b, i, none⟩ = false := free_blk h

theorem OutAt.fr {w w' : World} {F : Nat → Prop} {b : Nat} {bs : List Bool} (h : OutAt w b bs) (hf : Fr F w w') (hb : ¬ F b) : OutAt w' b bs := hf.blk h hb

def isFalse : Value → Bool
  | .bool false => true
  | _ => false

/-- How many answers are no yet. -/
def falses (w : World) (b : Nat) : Nat := match w.heap[b]? with
  | some (.cells C _ _) => C.toList.countP isFalse
  | _ => 0

theorem OutAt.falses {w : World} {b : Nat} {bs : List Bool} (h : OutAt w b bs) : falses w b = bs.count false := by
  unfold OutAt at h
  simp only [Ytnhombeagbhccaa.falses, h]
  rw [List.countP_map, List.count]
  congr 1
  funext x
  cases x <;> rfl

end Go.Proofs.Ytnhombeagbhccaa
