/- Ranging over a map keyed by int: laws on its operations, over whatever program. -/
import Derived.Test.YtnhombeagbhccaaLaws2
import Derived.Maps.RangeWalk
namespace Go.Proofs.Ytnhombeagbhccaa
open Go.RowKit

/-- A range over the map in block b is under way; its iterator is block r; what has come, by stamps. -/
structure RangeAt (w : World) (b r : Nat) (es : Array MapEntry) (c : Nat) (seen : Array Nat) : Prop where
  hb : w.heap[b]? = some (.map es c)
  hst : MapKept.Stamped es c
  hr : ∃ c0, w.heap[r]? = some (.mapIter (some b) c seen c0) ∧ c ≤ c0

theorem RangeAt.fr {w w' : World} {F : Nat → Prop} {b r c : Nat} {es : Array MapEntry} {seen : Array Nat} (h : RangeAt w b r es c seen) (hf : Fr F w w') (h1 : ¬ F b) (h2 : ¬ F r) : RangeAt w' b r es c seen := by
  obtain ⟨c0, h3, h4⟩ := h.hr
  exact ⟨hf.blk h.hb h1, h.hst, c0, hf.blk h3 h2, h4⟩

/-- How many entries are still to come, read off the world. -/
theorem RangeAt.left {w : World} {b r c : Nat} {es : Array MapEntry} {seen : Array Nat} (h : RangeAt w b r es c seen) : w.rangeLeft b r = (leftOf es seen).size := by
  obtain ⟨c0, h3, _⟩ := h.hr
  simp only [World.rangeLeft, h.hb, h3]

theorem RangeAt.lt {w : World} {b r c : Nat} {es : Array MapEntry} {seen : Array Nat} (h : RangeAt w b r es c seen) : r < w.heap.size := by
  obtain ⟨c0, h3, _⟩ := h.hr
  exact lt_of_block h3

section
variable {P : Program}

/-- range m. -/
theorem wpList_range_fr {w : World} {ops : Array Oper} {rest : List Oper} {o : Oper} {a : Act} {Q : Exit → Act → World → Prop} (hgd : o.guard = none) (m : Operand) (T K E : TypeId)
    (hop : o.op = Op.range T m) (hT : P.underlying T = some (.map K E)) (b : Nat) (es : Array MapEntry) (c : Nat) (hm : a.eval m = .map (some b)) (hb : w.heap[b]? = some (.map es c)) (hst : MapKept.Stamped es c)
    (h : RangeAt (w.alloc (.mapIter (some b) c #[] c)) b w.heap.size es c #[] → wpList P ops Q rest (a.put o.dst (.pointer (some ⟨w.heap.size, 0, none⟩))) (w.alloc (.mapIter (some b) c #[] c))) :
    wpList P ops Q (o :: rest) a w := by
  refine wpList_plain hgd fun K' hK' => ?_
  have hrun := run_range_map (P := P) w T K E b es c hT hb
  unfold Oper.wp
  simp [execOp, hop, hm, hrun, Result.andThen]
  exact hK' _ _ (h ⟨heap_alloc_old hb, hst, c, heap_alloc_new _ _, Nat.le_refl _⟩)

/-- The step of a range. -/
theorem wpList_next_fr {w : World} {ops : Array Oper} {rest : List Oper} {o : Oper} {a : Act} {Q : Exit → Act → World → Prop} (hgd : o.guard = none) (it : Operand)
    (hop : o.op = Op.next it false) (b r : Nat) (es : Array MapEntry) (c : Nat) (seen : Array Nat) (hit : a.eval it = .pointer (some ⟨r, 0, none⟩)) (hb : RangeAt w b r es c seen)
    (hDone : (∀ x ∈ es.toList, seen.contains x.born = true) → wpList P ops Q rest (a.put o.dst (.tuple #[.bool false])) w)
    (hMore : ∀ e ∈ es.toList, seen.contains e.born = false → ∀ w', RangeAt w' b r es c (seen.push e.born) → (leftOf es (seen.push e.born)).size < (leftOf es seen).size → Fr (· = r) w w' →
      (Instr.entry (.pointer (some ⟨r, 0, none⟩))).run P w' = .ok (.tuple #[e.key, e.val]) w' → wpList P ops Q rest (a.put o.dst (.tuple #[.bool true, e.key, e.val])) w') :
    wpList P ops Q (o :: rest) a w := by
  refine wpList_plain hgd fun K' hK' => ?_
  obtain ⟨c0, hr, hc⟩ := hb.hr
  have hst := (MapKept.stamped_iff es c).1 hb.hst
  have hrb : r ≠ b := fun e => by rw [e, hb.hb] at hr; cases hr
  unfold Oper.wp
  rcases run_next_at (P := P) w o.type r b c c0 seen es c hr hb.hb hst.1 hc with ⟨h0, hrun⟩ | ⟨e, he, w1, hal, hrun⟩
  · simp [execOp, hop, hit, hrun, Result.andThen]
    exact hK' _ _ (hDone (all_seen es seen h0))
  · obtain ⟨hem, hes⟩ := mem_left he
    have hr1 : w1.heap[r]? = some (.mapIter (some b) c seen c0) := by rcases hal with rfl | rfl <;> exact hr
    have hb1 : w1.heap[b]? = some (.map es c) := by rcases hal with rfl | rfl <;> exact hb.hb
    have f1 : Fr (· = r) w (setBlk w1 r (.mapIter (some b) c (seen.push e.born) c)) := by
      rcases hal with rfl | rfl
      · exact Fr.setBlk _ _ _
      · exact Fr.ofDrew (Fr.setBlk _ _ _)
    have hb2 : (setBlk w1 r (.mapIter (some b) c (seen.push e.born) c)).heap[b]? = some (.map es c) := (Fr.setBlk w1 r _).blk hb1 (fun e => hrb e.symm)
    have hr2 := setBlk_same (o' := .mapIter (some b) c (seen.push e.born) c) hr1
    have hrun' : (Instr.next (.pointer (some ⟨r, 0, none⟩)) false o.type).run P w = .ok (.tuple #[.bool true, e.key, e.val]) (setBlk w1 r (.mapIter (some b) c (seen.push e.born) c)) := hrun
    simp [execOp, hop, hit, hrun', Result.andThen]
    exact hK' _ _ (hMore e hem hes _ ⟨hb2, hb.hst, c, hr2, Nat.le_refl _⟩ (left_shrinks es seen e he) f1 (run_entry_at _ r b c seen es c e hr2 hb2 hem hst.2.1))
end

end Go.Proofs.Ytnhombeagbhccaa
