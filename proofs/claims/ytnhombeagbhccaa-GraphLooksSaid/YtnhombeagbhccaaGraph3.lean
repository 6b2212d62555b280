/- Package graph, program side: what is thrown is caught behind each call. -/
import Derived.Test.YtnhombeagbhccaaGraph2
namespace Go.Proofs.Ytnhombeagbhccaa
open Go.RowKit

set_option maxRecDepth 100000 in
theorem ends_panicking (b : Nat) (c x : Int) (w : World) (hb : w.heap[b]? = some (.cells #[I x] 25 (0, 0))) :
    CallsD Try.prog 56 #[Pt b] (.panicking [{ v := .iface 25 (I c), recovered := false }]) w fun e u' w' =>
      e = .returned (.tuple #[]) ∧ u' = .panicking [{ v := .iface 25 (I c), recovered := true }] ∧ w' = w.setCell ⟨b, 0, none⟩ (I c) := by
  have hc : w.cell? ⟨b, 0, none⟩ = some (I x) := cell_blk (i := 0) hb rfl
  have hz := free_blk (i := 0) hb
  refine callsD_of_wpS Try.func56 rfl fun c₀ cs hu => ?_
  simp only [Try.ntmps56, List.size_toArray, List.length_cons, List.length_nil, Nat.reduceAdd, Nat.reduceSub, Array.replicate_succ, Array.replicate_zero, List.push_toArray, List.append_toArray, List.nil_append, List.cons_append]
  apply wpS_seq
  apply wpS_region
  simp [wpOpsS, go_sem, recoverD, hu, Exit.thenS]
  refine wpS_of_wp (Code.wp_mono (Q := fun e a' w' => e = .normal ∧ a'.defers = [] ∧ w' = w.setCell ⟨b, 0, none⟩ (I c)) ?_ ?_)
  · rintro e a' w' ⟨rfl, hd, rfl⟩
    simp only [bodyPostS, hd, true_and]
    exact ⟨_, rfl, _, results_none rfl _ _ _, by simp⟩
  · have hta : ∀ w, (Instr.typeAssert (.iface 25 (I c)) 20 25 true).run Try.prog w = .ok (.tuple #[I c, .bool true]) w := fun _ => by kernel_rfl
    go_wp2

theorem ends_idle (b : Nat) (w : World) :
    CallsD Try.prog 56 #[Pt b] .returning w fun e u' w' => e = .returned (.tuple #[]) ∧ u' = .returning ∧ w' = w := by
  refine callsD_of_wpS Try.func56 rfl fun c₀ cs hu => ?_
  simp only [Try.ntmps56, List.size_toArray, List.length_cons, List.length_nil, Nat.reduceAdd, Nat.reduceSub, Array.replicate_succ, Array.replicate_zero, List.push_toArray, List.append_toArray, List.nil_append, List.cons_append]
  apply wpS_seq
  apply wpS_region
  simp [wpOpsS, go_sem, recoverD, hu, Exit.thenS]
  refine wpS_of_wp (Code.wp_mono (Q := fun e a' w' => e = .normal ∧ a'.defers = [] ∧ w' = w) ?_ ?_)
  · rintro e a' w' ⟨rfl, hd, rfl⟩
    simp only [bodyPostS, hd, true_and]
    exact ⟨.returning, by cases c₀; simp_all, _, results_none rfl _ _ _, by simp⟩
  · go_wp2

/-- The door of a call that threw: its error is in its cell. -/
theorem door_thrown {fn : Func} {R : Ending → World → Prop} {tmps : Array Value} {w : World} (b : Nat) (c x : Int) (hb : w.heap[b]? = some (.cells #[I x] 25 (0, 0)))
    (h : ∃ v, (results fn tmps).run Try.prog (w.setCell ⟨b, 0, none⟩ (I c)) = .ok v (w.setCell ⟨b, 0, none⟩ (I c)) ∧ R (.returned v) (w.setCell ⟨b, 0, none⟩ (I c))) :
    bodyPostD Try.prog fn R (.panic [{ v := .iface 25 (I c), recovered := false }]) { tmps := tmps, defers := [{ target := .fn (.func 56) #[], args := #[Pt b] }] } w := by
  refine leaves_cons (f := 56) (args := #[Pt b]) (by simp) (by simp [go_sem]) ?_
  refine (ends_panicking b c x w hb).mono ?_
  rintro e u' w'' ⟨rfl, rfl, rfl⟩
  exact h

/-- The door of a call that did not. -/
theorem door_idle {fn : Func} {R : Ending → World → Prop} {tmps : Array Value} {w : World} (b : Nat) (x : Exit) (hx : x = .normal ∨ x = .ret)
    (h : ∃ v, (results fn tmps).run Try.prog w = .ok v w ∧ R (.returned v) w) :
    bodyPostD Try.prog fn R x { tmps := tmps, defers := [{ target := .fn (.func 56) #[], args := #[Pt b] }] } w := by
  have key : Leaves Try.prog fn tmps R [{ target := .fn (.func 56) #[], args := #[Pt b] }] .returning w := by
    refine leaves_cons (f := 56) (args := #[Pt b]) (by simp) (by simp [go_sem]) ?_
    refine (ends_idle b w).mono ?_
    rintro e u' w'' ⟨rfl, rfl, rfl⟩
    exact h
  rcases hx with rfl | rfl <;> exact key

variable {w : World} {g : Nat} {L : PG} {A : AG}

/-- The cell of a call's error is a new block. -/
theorem GAt.new (h : GAt w g L A) (o : Obj) : GAt (w.alloc o) g L A := h.kept (F := fun _ => False) ((Fr.refl _ _).alloc o) (fun _ _ x => x)

theorem graph_Slot_bad (h : GAt w g L A) (t i c : Int) (hx : A.slotE t i = .error c) :
    Calls Try.prog 31 #[Pt g, I t, I i] w fun e w' => e = .returned (.tuple #[I 0, I c]) ∧ New w w' := by
  have h0 := h.new (.cells #[I 0] 25)
  go_enter_defers Try.func31, Try.ntmps31
  go_wp2_with (go_at_call 57; (with_reducible refine (graph_slot_bad h0 t i c hx).mono ?_); rintro e w' ⟨rfl, rfl⟩)
  exact door_thrown w.heap.size c 0 (heap_alloc_new _ _) ⟨_, by simp [results, Try.results31, go_sem], rfl, ((Fr.refl _ _).alloc _).setCell _ _ (fun h => by simp at h)⟩

theorem graph_Slot_ok (h : GAt w g L A) (t i x : Int) (hx : A.slotE t i = .ok x) :
    Calls Try.prog 31 #[Pt g, I t, I i] w fun e w' => e = .returned (.tuple #[I x, I 0]) ∧ New w w' := by
  have h0 := h.new (.cells #[I 0] 25)
  go_enter_defers Try.func31, Try.ntmps31
  go_wp2_with (go_at_call 57; (with_reducible refine (graph_slot_ok h0 t i x hx).mono ?_); rintro e w' ⟨rfl, rfl⟩)
  exact door_idle w.heap.size _ (.inr rfl) ⟨_, by simp [results, Try.results31, go_sem], rfl, ((Fr.refl _ _).alloc _)⟩

end Go.Proofs.Ytnhombeagbhccaa
