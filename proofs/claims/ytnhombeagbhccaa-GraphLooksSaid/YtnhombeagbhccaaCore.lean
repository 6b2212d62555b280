/- Words on worlds, block by block: what a block holds, and what a call leaves as it was. No program stands here. -/
import Derived.WalkKit
import Derived.WalkLawsBesides
import Derived.WalkSpells
import Derived.Lib.Hide
namespace Go.Proofs.Ytnhombeagbhccaa
open Go.RowKit

theorem cell_blk {w : World} {b i : Nat} {C : Array Value} {T : TypeId} {fr : Nat × Nat} {v : Value}
    (h : w.heap[b]? = some (.cells C T fr)) (hi : C[i]? = some v) : w.cell? ⟨b, i, none⟩ = some v := by
  simp [World.cell?, h, hi]

theorem free_blk {w : World} {b i : Nat} {C : Array Value} {T : TypeId}
    (h : w.heap[b]? = some (.cells C T (0, 0))) : w.frozen? ⟨b, i, none⟩ = false := by
  simp [World.frozen?, h]

theorem heap_alloc_new (w : World) (o : Obj) : (w.alloc o).heap[w.heap.size]? = some o := by
  show (w.heap.push o)[w.heap.size]? = _
  simp

theorem heap_alloc_old {w : World} {o o' : Obj} {k : Nat} (h : w.heap[k]? = some o') : (w.alloc o).heap[k]? = some o' := by
  rw [Below.heap_alloc _ _ _ (lt_of_block h)]; exact h

theorem heap_setCell_same {w : World} {b i : Nat} {C : Array Value} {T : TypeId} {fr : Nat × Nat} (v : Value)
    (h : w.heap[b]? = some (.cells C T fr)) : (w.setCell ⟨b, i, none⟩ v).heap[b]? = some (.cells (C.setIfInBounds i v) T fr) := by
  simp only [World.setCell, Array.getElem?_modify, if_true, h, Option.map_some]
  rfl

/-- What was there, outside of F, is as it was. -/
structure Fr (F : Nat → Prop) (w w' : World) : Prop where
  os : w'.os = w.os
  tape : w'.tape = w.tape
  output : w'.output = w.output
  size : w.heap.size ≤ w'.heap.size
  block : ∀ k, k < w.heap.size → ¬ F k → w'.heap[k]? = w.heap[k]?

theorem Fr.refl (F : Nat → Prop) (w : World) : Fr F w w := ⟨rfl, rfl, rfl, Nat.le_refl _, fun _ _ _ => rfl⟩

theorem Fr.trans' {F F' G : Nat → Prop} {a b c : World} (h : Fr F a b) (k : Fr F' b c) (h1 : ∀ i, i < a.heap.size → F i → G i) (h2 : ∀ i, i < a.heap.size → F' i → G i) : Fr G a c :=
  ⟨k.os.trans h.os, k.tape.trans h.tape, k.output.trans h.output, Nat.le_trans h.size k.size, fun i hi hg =>
    (k.block i (Nat.lt_of_lt_of_le hi h.size) (fun x => hg (h2 i hi x))).trans (h.block i hi (fun x => hg (h1 i hi x)))⟩

theorem Fr.trans {F : Nat → Prop} {a b c : World} (h : Fr F a b) (k : Fr F b c) : Fr F a c := h.trans' k (fun _ _ x => x) (fun _ _ x => x)

theorem Fr.mono {F G : Nat → Prop} {a b : World} (h : Fr F a b) (h1 : ∀ i, i < a.heap.size → F i → G i) : Fr G a b :=
  ⟨h.os, h.tape, h.output, h.size, fun i hi hg => h.block i hi (fun x => hg (h1 i hi x))⟩

theorem Fr.drew {F : Nat → Prop} {a w : World} (h : Fr F a w) : Fr F a w.drew := ⟨h.os, h.tape, h.output, h.size, h.block⟩

theorem Fr.ofDrew {F : Nat → Prop} {w w' : World} (h : Fr F w.drew w') : Fr F w w' := ⟨h.os, h.tape, h.output, h.size, h.block⟩

theorem Fr.alloc {F : Nat → Prop} {a w : World} (h : Fr F a w) (o : Obj) : Fr F a (w.alloc o) :=
  h.trans ⟨rfl, rfl, rfl, by simp, fun k hk _ => Below.heap_alloc _ _ _ hk⟩

theorem Fr.setCell {F : Nat → Prop} {a w : World} (h : Fr F a w) (p : Addr) (v : Value) (hp : p.block < a.heap.size → F p.block) : Fr F a (w.setCell p v) :=
  h.trans' (F' := fun k => k = p.block) ⟨rfl, rfl, rfl, by simp, fun k _ hne => Below.heap_setCell _ _ _ _ hne⟩ (fun _ _ x => x) (fun i hi e => by subst e; exact hp hi)

theorem Fr.set {F : Nat → Prop} {a w : World} (h : Fr F a w) (p : Addr) (v : Value) (hp : F p.block) : Fr F a (w.setCell p v) := h.setCell p v (fun _ => hp)

theorem Fr.below {w w' : World} {B : Nat} (h : Below B w w') (hB : w.heap.size ≤ B) (F : Nat → Prop) : Fr F w w' :=
  ⟨h.os, h.tape, h.output, h.size, fun k hk _ => h.block k (by omega)⟩

theorem Fr.toBelow {w w' : World} {F : Nat → Prop} (h : Fr F w w') {B : Nat} (hB : B ≤ w.heap.size) (hF : ∀ k, k < B → ¬ F k) : Below B w w' :=
  ⟨h.os, h.tape, h.output, h.size, fun k hk => h.block k (by omega) (hF k hk)⟩

/-- No old block turns. -/
def New (w w' : World) : Prop := Fr (fun _ => False) w w'

theorem New.to {w w' : World} (h : New w w') (F : Nat → Prop) : Fr F w w' := h.mono (fun _ _ x => x.elim)
/-- Behind a part that makes new blocks alone, a part that turns a new block. -/
theorem New.then {a b c : World} {F : Nat → Prop} (h : New a b) (k : Fr F b c) (hF : ∀ i, i < a.heap.size → ¬ F i) : New a c := h.trans' k (fun _ _ x => x) (fun i hi x => hF i hi x)

theorem New.blk {w w' : World} (h : New w w') {k : Nat} {o : Obj} (hk : w.heap[k]? = some o) : w'.heap[k]? = some o :=
  (h.block k (lt_of_block hk) (fun x => x)).trans hk
theorem Fr.blk {F : Nat → Prop} {w w' : World} (h : Fr F w w') {k : Nat} {o : Obj} (hk : w.heap[k]? = some o) (hF : ¬ F k) : w'.heap[k]? = some o :=
  (h.block k (lt_of_block hk) hF).trans hk

/-- The number in a cell. -/
abbrev I (n : Int) : Value := .int .i64 n
/-- A pointer to a block's first cell. -/
abbrev Pt (b : Nat) : Value := .pointer (some ⟨b, 0, none⟩)

theorem add_off (b o j : Nat) : (⟨b, o, none⟩ : Addr).add j = ⟨b, o + j, none⟩ := by
  unfold Addr.add; split
  · subst_vars; rfl
  · rfl

theorem cells_blk {w : World} {b o : Nat} {C : Array Value} {T : TypeId} {fr : Nat × Nat} {xs : List Value}
    (h : w.heap[b]? = some (.cells C T fr)) (hx : ∀ j, j < xs.length → C[o + j]? = xs[j]?) : ∀ j v, xs[j]? = some v → w.cell? ((⟨b, o, none⟩ : Addr).add j) = some v := by
  intro j v hj
  rw [add_off]
  have : j < xs.length := by
    rcases Nat.lt_or_ge j xs.length with h' | h'
    · exact h'
    · rw [List.getElem?_eq_none h'] at hj; cases hj
  exact cell_blk h ((hx j this).trans hj)

theorem one_I (l : List Int) : ∀ v ∈ l.map I, v.oneCell' = true := by
  intro v hv; obtain ⟨a, _, rfl⟩ := List.mem_map.1 hv; rfl

/-- A block whose first cells are xs is owned as a slice of them. -/
theorem owns_blk {w : World} {g e cap size n base : Nat} {C : List Value} {xs : List Value} (h : w.heap[g]? = some (.cells C.toArray e (0, 0))) (hb : base ≤ g) (hn : n ≤ cap) (hc : cap ≤ 1000000) (hs : C.length = cap * size)
    (hx : C.take (n * size) = xs) : w.ownsRow base e size (.slice (some ⟨g, 0, none⟩) n cap) n xs := by
  refine ⟨?_, .inr ⟨g, cap, C.toArray, rfl, hb, h, hn, Nat.le_trans hc (by decide), by simpa using hs, by simpa using hx⟩⟩
  subst hx
  rw [List.length_take, hs, Nat.min_eq_left (Nat.mul_le_mul_right _ hn)]

end Go.Proofs.Ytnhombeagbhccaa
