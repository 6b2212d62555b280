/- Whatever the threads', slots' and globals' numbers and the acts, GraphLooks returns true, and the arguments read behind the call as before. No conditions. -/
import Derived.Test.YtnhombeagbhccaaLooks2
import Derived.Test.YtnhombeagbhccaaGoneRow
namespace Go.Proofs.Ytnhombeagbhccaa
open Go.ChangeShapes Go.WideShapes Go.ChangeAt Go.RowKit Go.Deep

theorem graphLooks_call (t s k : Int) (v v2 : Value) (l l2 : List AA) (w : World) (hl : ActsAt w v l) (hl2 : ActsAt w v2 l2) : Calls Try.prog 5 #[I t, I s, I k, v, v2] w fun e w' => e = .returned (.bool true) ∧ New w w' := by
  by_cases h : 100 < l.length ∨ 50 < l2.length ∨ ¬ (1 ≤ t ∧ t ≤ 64 ∧ 1 ≤ s ∧ s ≤ 8 ∧ 0 ≤ k ∧ k ≤ 8)
  · exact looks_far t s k v v2 l l2 w hl hl2 h
  · have hm : 1 ≤ t ∧ t ≤ 64 ∧ 1 ≤ s ∧ s ≤ 8 ∧ 0 ≤ k ∧ k ≤ 8 := Decidable.byContradiction fun hn => h (.inr (.inr hn))
    obtain ⟨t', rfl⟩ := Int.eq_ofNat_of_zero_le (show 0 ≤ t by omega)
    obtain ⟨s', rfl⟩ := Int.eq_ofNat_of_zero_le (show 0 ≤ s by omega)
    obtain ⟨k', rfl⟩ := Int.eq_ofNat_of_zero_le (show 0 ≤ k by omega)
    exact looks_good t' s' k' v v2 l l2 w hl hl2 (by omega) (by omega) (by omega) (by omega) (by omega) (by omega) (by omega)

set_option maxRecDepth 100000 in
theorem graphLooks_lifted (os : Os) (started : os.Started) (H : Type) (enc : TypeId × Value → H) :
    ReturnsInHanded {} Try.checked os 5 .any (Rows.graphLooksSpec.pre6 enc Try.prog Try.f5 Rows.graphLooksRow.domain false) (Rows.graphLooksSpec.post enc Try.prog Try.f5 false true false false) := by
  refine returnsInHanded_of_change (C := Try.checked) own started (by kernel_rfl) Try.func5
    (ChangeSpec.witness6 (enc := enc) (C := Try.checked) false ⟨#[], #[I 0, I 0, I 0, .slice none 0 0, .slice none 0 0], []⟩ 8 (by kernel_rfl) (by kernel_rfl) (by kernel_rfl) (by kernel_rfl)) ?_
  intro W base args ds gs before hval0 hW hcnd _
  have hval : ∀ (j : Nat) t v, Try.f5.params[j]? = some t → args[j]? = some v → Value.okWide Try.prog W .any base t v := hval0
  have hW' := hW
  obtain ⟨p, q, hA0, hV, rfl, hfz, hnd⟩ := hW
  have hA : DataW.TrodAll enc Try.prog W 0 (fun _ => true) true Try.f5.params.toList args.toList ds p := hA0
  rw [Try.params5] at hA hval
  obtain ⟨v0, vs0, d0, ds0, p0, q0, hargs, rfl, rfl, h0, r0⟩ := trodAll_cons hA
  obtain ⟨v1, vs1, d1, ds1, p1, q1, rfl, rfl, rfl, h1, r1⟩ := trodAll_cons r0
  obtain ⟨v2, vs2, d2, ds2, p2, q2, rfl, rfl, rfl, h2, r2⟩ := trodAll_cons r1
  obtain ⟨v3, vs3, d3, ds3, p3, q3, rfl, rfl, rfl, h3, r3⟩ := trodAll_cons r2
  obtain ⟨v4, vs4, d4, ds4, p4, q4, rfl, rfl, rfl, h4, r4⟩ := trodAll_cons r3
  obtain ⟨rfl, rfl, rfl⟩ := trodAll_nil r4
  obtain rfl : args = #[v0, v1, v2, v3, v4] := by cases args; simp_all
  obtain ⟨rfl, rfl⟩ := trodVars_none hV
  obtain ⟨t, rfl, rfl, rfl, wt⟩ := open_int Try.underlying3 (hval 0 3 v0 rfl rfl) h0
  obtain ⟨s, rfl, rfl, rfl, ws⟩ := open_int Try.underlying3 (hval 1 3 v1 rfl rfl) h1
  obtain ⟨k, rfl, rfl, rfl, wk⟩ := open_int Try.underlying3 (hval 2 3 v2 rfl rfl) h2
  obtain ⟨l, hl⟩ := open_acts (hval 3 22 v3 rfl rfl) h3
  obtain ⟨l2, hl2⟩ := open_acts (hval 4 22 v4 rfl rfl) h4
  clear hA0 hval0
  have hlt : ∀ y ∈ [] ++ ([] ++ ([] ++ (p3 ++ (p4 ++ [])))), y.block < W.heap.size := fun y hy => by simpa using hW'.lt y (by simpa using hy)
  refine (graphLooks_call t s k v3 v4 l l2 W hl hl2).mono fun e W' ⟨he, hn⟩ => ?_
  subst he
  have hB := hn.below
  refine ⟨_, rfl, _, _, _, [], [] ++ ([] ++ ([] ++ (p3 ++ (p4 ++ [])))), [], hW', trodAll_cons_mk (shut_bool Try.underlying4 _) trodAll_mk0, ?_, rfl, hB.frame _, fun h => by cases h⟩
  exact args_stay laidOut hB _ _ _ _ (fun t ht => by simp only [Try.params5] at ht; simp at ht; rcases ht with rfl | rfl <;> exact ⟨by kernel_rfl, of_decide_eq_true (by kernel_rfl)⟩) hA hlt

theorem graphLooks_over : Rows.graphLooksRow.holds Try.pinned (OpenSpec.ofChange Rows.graphLooksSpec) :=
  OpenClaim.holds_of_wide 5 Try.f5 rfl rfl rfl rfl rfl rfl rfl ⟨rfl, rfl, rfl, rfl, rfl⟩ rfl rfl rfl rfl rfl (by kernel_rfl) Try.func5 (by kernel_rfl)
    (of_decide_eq_true (by kernel_rfl)) (by unfold Func.isWrapper; first | (rw [if_pos (by decide +kernel)]; kernel_rfl) | (rw [if_neg (by decide +kernel)]; exact ⟨rfl, rfl⟩))
    (fun os started H enc _ => graphLooks_lifted os started H enc)

theorem graphLooks_proved : Rows.GraphLooksSaid :=
  graphLooks_over
#print axioms graphLooks_proved
end Go.Proofs.Ytnhombeagbhccaa
