/- Package graph, program side: copies of rows. -/
import Derived.Test.YtnhombeagbhccaaGraph9
import Derived.Deep.RegionHeld
import Derived.Lib.SliceRun
namespace Go.Proofs.Ytnhombeagbhccaa
open Go.RowKit

set_option maxRecDepth 100000 in
theorem clone_int {v : Value} {xs : List Value} (w : World) (h : Sl w 3 v xs) (h1 : ∀ u ∈ xs, u.oneCell' = true) (hl : xs.length ≤ 1000000) :
    Calls Try.prog 44 #[v] w fun e w' => ∃ v', e = .returned v' ∧ w'.ownsRow w.heap.size 3 1 v' xs.length xs ∧ New w w' := by
  obtain ⟨ao, cap, rfl, hc, hno, hcell, _⟩ := h.shape
  cases ao with
  | none =>
    obtain ⟨h0, rfl⟩ := hno rfl
    obtain rfl := List.eq_nil_of_length_eq_zero h0
    have hnil := fun w => Lib.run_eql_slice_nil (P := Try.prog) w 37 3 none 0 0 0 0 Try.underlying37
    go_enter Try.func44, Try.ntmps44
    go_wp2
    go_ret
    exact ⟨_, rfl, World.ownsRow_nil _ _ _ _, New.refl _⟩
  | some ad =>
    have hcl := hcell ad rfl
    have H := Lib.hid (And.intro hcl hc)
    clear hcell hno hcl hc h
    have hnil := fun w => Lib.run_eql_slice_nil (P := Try.prog) w 37 3 (some ad) xs.length cap 0 0 Try.underlying37
    go_enter Try.func44, Try.ntmps44
    go_wp2_with (at_builtin; (refine wpList_append_fr rfl (.tmp 5) (.tmp 6) 37 rfl 3 (I 0) 1 8 Try.underlying37 Try.info3 rfl (by decide) (by decide) w.heap.size (.slice (some ⟨w.heap.size, 0, none⟩) 0 0) 0 [] rfl ?h1 (some ad) xs.length cap xs rfl (by simp) (by simp) ?h2 h1 ?h3 ?h4 ?h5); (case h1 => exact owns_blk (cap := 0) (C := []) (heap_alloc_new w (.cells #[] 3)) (Nat.le_refl _) (Nat.le_refl _) (by omega) rfl rfl); (case h2 => intro ad' e j u hj; cases e; (rw [World.cell?_alloc_some _ _ _ (by rw [H.out.1 j u hj]; rfl)]; exact H.out.1 j u hj)); (case h3 => omega); (case h4 => simp); intro v' w2 hown' hfr' hloc')
    go_ret
    refine ⟨_, rfl, by simpa using hown', ?_⟩
    exact New.then ((Fr.refl _ _).alloc _) hfr' (fun i hi e => by simp [Value.ownBlock] at e; omega)

set_option maxRecDepth 100000 in
theorem clone_word {v : Value} {xs : List Value} (w : World) (h : Sl w 31 v xs) (h1 : ∀ u ∈ xs, u.oneCell' = true) (hl : xs.length ≤ 1000000) :
    Calls Try.prog 49 #[v] w fun e w' => ∃ v', e = .returned v' ∧ w'.ownsRow w.heap.size 31 1 v' xs.length xs ∧ New w w' := by
  obtain ⟨ao, cap, rfl, hc, hno, hcell, _⟩ := h.shape
  cases ao with
  | none =>
    obtain ⟨h0, rfl⟩ := hno rfl
    obtain rfl := List.eq_nil_of_length_eq_zero h0
    have hnil := fun w => Lib.run_eql_slice_nil (P := Try.prog) w 73 31 none 0 0 0 0 Try.underlying73
    go_enter Try.func49, Try.ntmps49
    go_wp2
    go_ret
    exact ⟨_, rfl, World.ownsRow_nil _ _ _ _, New.refl _⟩
  | some ad =>
    have hcl := hcell ad rfl
    have H := Lib.hid (And.intro hcl hc)
    clear hcell hno hcl hc h
    have hnil := fun w => Lib.run_eql_slice_nil (P := Try.prog) w 73 31 (some ad) xs.length cap 0 0 Try.underlying73
    go_enter Try.func49, Try.ntmps49
    go_wp2_with (at_builtin; (refine wpList_append_fr rfl (.tmp 5) (.tmp 6) 73 rfl 31 (U 0) 1 8 Try.underlying73 Try.info31 rfl (by decide) (by decide) w.heap.size (.slice (some ⟨w.heap.size, 0, none⟩) 0 0) 0 [] rfl ?h1 (some ad) xs.length cap xs rfl (by simp) (by simp) ?h2 h1 ?h3 ?h4 ?h5); (case h1 => exact owns_blk (cap := 0) (C := []) (heap_alloc_new w (.cells #[] 31)) (Nat.le_refl _) (Nat.le_refl _) (by omega) rfl rfl); (case h2 => intro ad' e j u hj; cases e; (rw [World.cell?_alloc_some _ _ _ (by rw [H.out.1 j u hj]; rfl)]; exact H.out.1 j u hj)); (case h3 => omega); (case h4 => simp); intro v' w2 hown' hfr' hloc')
    go_ret
    refine ⟨_, rfl, by simpa using hown', ?_⟩
    exact New.then ((Fr.refl _ _).alloc _) hfr' (fun i hi e => by simp [Value.ownBlock] at e; omega)

end Go.Proofs.Ytnhombeagbhccaa
