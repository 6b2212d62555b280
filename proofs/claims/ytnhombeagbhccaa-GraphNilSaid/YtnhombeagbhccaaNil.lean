/- Package graph: of nil. -/
import Derived.Test.YtnhombeagbhccaaMine
namespace Go.Proofs.Ytnhombeagbhccaa
open Go.RowKit

theorem graph_datum_nil (t i j : Int) (w : World) : Calls Try.prog 61 #[.pointer none, I t, I i, I j] w fun e w' => e = thrown 1 ∧ w = w' := by
  go_enter Try.func61, Try.ntmps61
  go_wp2_with (go_at_call 60; (with_reducible refine (graph_object_nil t i w).mono ?_); rintro e w' ⟨rfl, rfl⟩)
  exact ⟨rfl, rfl, rfl⟩


theorem nil_Alloc (t a b c : Int) (w : World) : Calls Try.prog 18 #[.pointer none, I t, I a, I b, I c] w fun e w' => e = .returned (.tuple #[I 0, I 1]) ∧ New w w' := by
  go_enter_defers Try.func18, Try.ntmps18
  go_wp2_with (go_at_call 57; (with_reducible refine (graph_slot_nil t a _).mono ?_); rintro e w' ⟨rfl, rfl⟩)
  exact door_thrown w.heap.size 1 0 (heap_alloc_new _ _) ⟨_, by simp [results, Try.results18, go_sem], rfl, ((Fr.refl _ _).alloc _).setCell _ _ (fun h => by simp at h)⟩

theorem nil_Load (t a b c : Int) (w : World) : Calls Try.prog 21 #[.pointer none, I t, I a, I b, I c] w fun e w' => e = .returned (.tuple #[I 0, I 1]) ∧ New w w' := by
  go_enter_defers Try.func21, Try.ntmps21
  go_wp2_with (go_at_call 57; (with_reducible refine (graph_slot_nil t a _).mono ?_); rintro e w' ⟨rfl, rfl⟩)
  exact door_thrown w.heap.size 1 0 (heap_alloc_new _ _) ⟨_, by simp [results, Try.results21, go_sem], rfl, ((Fr.refl _ _).alloc _).setCell _ _ (fun h => by simp at h)⟩

theorem nil_Store (t a b c : Int) (w : World) : Calls Try.prog 19 #[.pointer none, I t, I a, I b, I c] w fun e w' => e = .returned (I 1) ∧ New w w' := by
  go_enter_defers Try.func19, Try.ntmps19
  go_wp2_with (go_at_call 57; (with_reducible refine (graph_slot_nil t c _).mono ?_); rintro e w' ⟨rfl, rfl⟩)
  exact door_thrown w.heap.size 1 0 (heap_alloc_new _ _) ⟨_, by simp [results, Try.results19, go_sem], rfl, ((Fr.refl _ _).alloc _).setCell _ _ (fun h => by simp at h)⟩

theorem nil_Read (t a b : Int) (w : World) : Calls Try.prog 24 #[.pointer none, I t, I a, I b] w fun e w' => e = .returned (.tuple #[U 0, I 1]) ∧ New w w' := by
  go_enter_defers Try.func24, Try.ntmps24
  go_wp2_with (go_at_call 61; (with_reducible refine (graph_datum_nil t a b _).mono ?_); rintro e w' ⟨rfl, rfl⟩)
  exact door_thrown w.heap.size 1 0 (heap_alloc_new _ _) ⟨_, by simp [results, Try.results24, go_sem], rfl, ((Fr.refl _ _).alloc _).setCell _ _ (fun h => by simp at h)⟩

theorem nil_Write (t a b v : Int) (w : World) : Calls Try.prog 25 #[.pointer none, I t, I a, I b, U v] w fun e w' => e = .returned (I 1) ∧ New w w' := by
  go_enter_defers Try.func25, Try.ntmps25
  go_wp2_with (go_at_call 61; (with_reducible refine (graph_datum_nil t a b _).mono ?_); rintro e w' ⟨rfl, rfl⟩)
  exact door_thrown w.heap.size 1 0 (heap_alloc_new _ _) ⟨_, by simp [results, Try.results25, go_sem], rfl, ((Fr.refl _ _).alloc _).setCell _ _ (fun h => by simp at h)⟩

theorem nil_Get (t a b : Int) (w : World) : Calls Try.prog 26 #[.pointer none, I t, I a, I b] w fun e w' => e = .returned (.tuple #[I 0, I 1]) ∧ New w w' := by
  go_enter_defers Try.func26, Try.ntmps26
  go_wp2_with (go_at_call 57; (with_reducible refine (graph_slot_nil t a _).mono ?_); rintro e w' ⟨rfl, rfl⟩)
  exact door_thrown w.heap.size 1 0 (heap_alloc_new _ _) ⟨_, by simp [results, Try.results26, go_sem], rfl, ((Fr.refl _ _).alloc _).setCell _ _ (fun h => by simp at h)⟩

theorem nil_Put (t a b : Int) (w : World) : Calls Try.prog 27 #[.pointer none, I t, I a, I b] w fun e w' => e = .returned (I 1) ∧ New w w' := by
  go_enter_defers Try.func27, Try.ntmps27
  go_wp2_with (go_at_call 57; (with_reducible refine (graph_slot_nil t b _).mono ?_); rintro e w' ⟨rfl, rfl⟩)
  exact door_thrown w.heap.size 1 0 (heap_alloc_new _ _) ⟨_, by simp [results, Try.results27, go_sem], rfl, ((Fr.refl _ _).alloc _).setCell _ _ (fun h => by simp at h)⟩

theorem nil_Move (t a b : Int) (w : World) : Calls Try.prog 28 #[.pointer none, I t, I a, I b] w fun e w' => e = .returned (I 1) ∧ New w w' := by
  go_enter_defers Try.func28, Try.ntmps28
  go_wp2_with (go_at_call 57; (with_reducible refine (graph_slot_nil t a _).mono ?_); rintro e w' ⟨rfl, rfl⟩)
  exact door_thrown w.heap.size 1 0 (heap_alloc_new _ _) ⟨_, by simp [results, Try.results28, go_sem], rfl, ((Fr.refl _ _).alloc _).setCell _ _ (fun h => by simp at h)⟩

theorem nil_Clear (t a : Int) (w : World) : Calls Try.prog 20 #[.pointer none, I t, I a] w fun e w' => e = .returned (I 1) ∧ New w w' := by
  go_enter_defers Try.func20, Try.ntmps20
  go_wp2_with (go_at_call 57; (with_reducible refine (graph_slot_nil t a _).mono ?_); rintro e w' ⟨rfl, rfl⟩)
  exact door_thrown w.heap.size 1 0 (heap_alloc_new _ _) ⟨_, by simp [results, Try.results20, go_sem], rfl, ((Fr.refl _ _).alloc _).setCell _ _ (fun h => by simp at h)⟩

theorem nil_Push (t a : Int) (w : World) : Calls Try.prog 29 #[.pointer none, I t, I a] w fun e w' => e = .returned (I 1) ∧ New w w' := by
  go_enter_defers Try.func29, Try.ntmps29
  go_wp2_with (go_at_call 63; (with_reducible refine (graph_roots_nil t _).mono ?_); rintro e w' ⟨rfl, rfl⟩)
  exact door_thrown w.heap.size 1 0 (heap_alloc_new _ _) ⟨_, by simp [results, Try.results29, go_sem], rfl, ((Fr.refl _ _).alloc _).setCell _ _ (fun h => by simp at h)⟩

theorem nil_Pop (t a : Int) (w : World) : Calls Try.prog 30 #[.pointer none, I t, I a] w fun e w' => e = .returned (I 1) ∧ New w w' := by
  go_enter_defers Try.func30, Try.ntmps30
  go_wp2_with (go_at_call 63; (with_reducible refine (graph_roots_nil t _).mono ?_); rintro e w' ⟨rfl, rfl⟩)
  exact door_thrown w.heap.size 1 0 (heap_alloc_new _ _) ⟨_, by simp [results, Try.results30, go_sem], rfl, ((Fr.refl _ _).alloc _).setCell _ _ (fun h => by simp at h)⟩

theorem nil_Slot (t a : Int) (w : World) : Calls Try.prog 31 #[.pointer none, I t, I a] w fun e w' => e = .returned (.tuple #[I 0, I 1]) ∧ New w w' := by
  go_enter_defers Try.func31, Try.ntmps31
  go_wp2_with (go_at_call 57; (with_reducible refine (graph_slot_nil t a _).mono ?_); rintro e w' ⟨rfl, rfl⟩)
  exact door_thrown w.heap.size 1 0 (heap_alloc_new _ _) ⟨_, by simp [results, Try.results31, go_sem], rfl, ((Fr.refl _ _).alloc _).setCell _ _ (fun h => by simp at h)⟩

theorem nil_Own (t : Int) (w : World) : Calls Try.prog 50 #[.pointer none, I t] w fun e w' => e = .returned (.tuple #[.slice none 0 0, .slice none 0 0, I 1]) ∧ New w w' := by
  go_enter_defers Try.func50, Try.ntmps50
  go_wp2_with (go_at_call 63; (with_reducible refine (graph_roots_nil t _).mono ?_); rintro e w' ⟨rfl, rfl⟩)
  exact door_thrown w.heap.size 1 0 (heap_alloc_new _ _) ⟨_, by simp [results, Try.results50, go_sem], rfl, ((Fr.refl _ _).alloc _).setCell _ _ (fun h => by simp at h)⟩

theorem nil_Object (n : Int) (w : World) : Calls Try.prog 53 #[.pointer none, I n] w fun e w' => e = .returned (.tuple #[.slice none 0 0, .slice none 0 0, I 1]) ∧ New w w' := by
  go_enter_defers Try.func53, Try.ntmps53
  go_wp2_with (go_at_call 58; (with_reducible refine (ask_no _ _).mono ?_); rintro e w' ⟨rfl, rfl⟩)
  exact door_thrown w.heap.size 1 0 (heap_alloc_new _ _) ⟨_, by simp [results, Try.results53, go_sem], rfl, ((Fr.refl _ _).alloc _).setCell _ _ (fun h => by simp at h)⟩

theorem nil_Globals (w : World) : Calls Try.prog 55 #[.pointer none] w fun e w' => e = .returned (.slice none 0 0) ∧ w = w' := by
  go_enter Try.func55, Try.ntmps55
  go_wp2
  go_ret
  exact ⟨rfl, rfl⟩

theorem nil_Reach (w : World) : Calls Try.prog 13 #[.pointer none] w fun e w' => e = .returned (.slice none 0 0) ∧ w = w' := by
  go_enter Try.func13, Try.ntmps13
  go_wp2
  go_ret
  exact ⟨rfl, rfl⟩

theorem nil_Clone (w : World) : Calls Try.prog 15 #[.pointer none] w fun e w' => e = .returned (.pointer none) ∧ w = w' := by
  go_enter Try.func15, Try.ntmps15
  go_wp2
  go_ret
  exact ⟨rfl, rfl⟩

theorem nothing_call (w : World) : Calls Try.prog 17 #[.pointer none] w fun e w' => e = .returned (.bool true) ∧ New w w' := by
  go_enter Try.func17, Try.ntmps17
  go_wp2_with (first
    | (go_at_call 53; (with_reducible refine (nil_Object _ _).mono ?_); rintro e w1 ⟨rfl, n1⟩)
    | (go_at_call 50; (with_reducible refine (nil_Own _ _).mono ?_); rintro e w2 ⟨rfl, n2⟩)
    | (go_at_call 55; (with_reducible refine (nil_Globals _).mono ?_); rintro e w3 ⟨rfl, rfl⟩)
    | (go_at_call 15; (with_reducible refine (nil_Clone _).mono ?_); rintro e w4 ⟨rfl, rfl⟩))
  go_ret
  exact ⟨rfl, Fr.trans n1 n2⟩


theorem does_nil (x : AA) (w : World) : Calls Try.prog 11 #[.pointer none, x.val] w fun E W => E = .returned (.tuple #[U 0, I 1]) ∧ New w W := by
  have n0 : New w (w.alloc (.cells #[.int .u8 x.d, I x.t, I x.a, I x.b, I x.c, U x.v] 35)) := (Fr.refl _ _).alloc _
  have up : ∀ {F : FuncId} {args : Array Value} {v : Value}, Calls Try.prog F args (w.alloc (.cells #[.int .u8 x.d, I x.t, I x.a, I x.b, I x.c, U x.v] 35)) (fun E W => E = .returned v ∧ New (w.alloc (.cells #[.int .u8 x.d, I x.t, I x.a, I x.b, I x.c, U x.v] 35)) W) →
      Calls Try.prog F args (w.alloc (.cells #[.int .u8 x.d, I x.t, I x.a, I x.b, I x.c, U x.v] 35)) (fun E W => E = .returned v ∧ New w W) := fun hc => hc.mono (fun E W k => ⟨k.1, Fr.trans n0 k.2⟩)
  by_cases c0 : x.d = 0
  · exact does_0 _ x w _ _ _ c0 (up (nil_Alloc _ _ _ _ _)) ⟨by omega, by omega⟩
  by_cases c1 : x.d = 1
  · exact does_1 _ x w _ _ _ c1 (up (nil_Load _ _ _ _ _)) ⟨by omega, by omega⟩
  by_cases c2 : x.d = 2
  · exact does_2 _ x w _ _ c2 (up (nil_Store _ _ _ _ _))
  by_cases c3 : x.d = 3
  · exact does_3 _ x w _ _ _ c3 (up (nil_Read _ _ _ _))
  by_cases c4 : x.d = 4
  · exact does_4 _ x w _ _ c4 (up (nil_Write _ _ _ _ _))
  by_cases c5 : x.d = 5
  · exact does_5 _ x w _ _ _ c5 (up (nil_Get _ _ _ _)) ⟨by omega, by omega⟩
  by_cases c6 : x.d = 6
  · exact does_6 _ x w _ _ c6 (up (nil_Put _ _ _ _))
  by_cases c7 : x.d = 7
  · exact does_7 _ x w _ _ c7 (up (nil_Move _ _ _ _))
  by_cases c8 : x.d = 8
  · exact does_8 _ x w _ _ c8 (up (nil_Clear _ _ _))
  by_cases c9 : x.d = 9
  · exact does_9 _ x w _ _ c9 (up (nil_Push _ _ _))
  by_cases c10 : x.d = 10
  · exact does_10 _ x w _ _ c10 (up (nil_Pop _ _ _))
  exact does_11 _ x w _ _ _ ⟨c0, c1, c2, c3, c4, c5, c6, c7, c8, c9, c10⟩ (up (nil_Slot _ _ _)) ⟨by omega, by omega⟩

end Go.Proofs.Ytnhombeagbhccaa
