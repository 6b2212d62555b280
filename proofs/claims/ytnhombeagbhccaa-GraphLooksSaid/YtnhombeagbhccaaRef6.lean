/- The reference's graph: ref, datum. -/
import Derived.Test.YtnhombeagbhccaaRef5
namespace Go.Proofs.Ytnhombeagbhccaa
open Go.RowKit

variable {w w' : World} {r : Nat} {L : RL} {A : AG}

/-- Where an object's references and data are told. -/
theorem RAt.objAt (h : RAt w r L A) {k : Nat} (hk : k < A.O.length) : ∃ ob oc, w.cell? ⟨r, 2, none⟩ = some (.slice (some ⟨ob, 0, none⟩) A.O.length oc) ∧ A.O.length ≤ oc ∧
    w.cell? ⟨ob, k * 2, none⟩ = some (L.rv k) ∧ w.cell? ⟨ob, k * 2 + 1, none⟩ = some (L.dv k) := by
  obtain ⟨ao, oc, e, h1, h2⟩ := h.oshape
  obtain ⟨ob, rfl, h3⟩ := h2 (by omega)
  exact ⟨ob, oc, by rw [h.c2, e], h1, (h3 k hk).1, (h3 k hk).2⟩


theorem ref_ref_ok (h : RAt w r L A) (t i : Int) (k : Nat) (j : Int) (hx : A.objE t i = .ok ((k : Int) + 1)) (hk : k < A.O.length) (hO : A.O.length ≤ 1000) (hj : 0 ≤ j ∧ j < (A.O.getD k default).refs.length) :
    Calls Try.prog 66 #[Pt r, I t, I i, I j] w fun e w' => e = .returned (.tuple #[I k, I 0]) ∧ w = w' := by
  obtain ⟨ob, oc, c2, hoc, ck0, ck1⟩ := h.objAt hk
  have hr := h (.rf k) hk
  simp only [RPart] at hr
  obtain ⟨ao, cap, e2, hc, -⟩ := hr.elem
  rw [e2] at ck0
  obtain ⟨j0, j1⟩ := hj
  have q1 : decide (j < 0) = false := by simpa using j0
  have q2 : decide (((A.O.getD k default).refs.length : Int) ≤ j) = false := decide_eq_false (by omega)
  have hk' : (k : Int) < A.O.length := by omega
  have hk0 : (0 : Int) ≤ (k : Int) := by omega
  have hk1 : (k : Int) < 1000 := by omega
  have H := Lib.hid (And.intro hk hO)
  clear hr e2 hO j1
  generalize (A.O.getD k default).refs.length = n at *
  generalize hm : A.O.length = m at *
  clear hm
  go_enter Try.func66, Try.ntmps66
  go_wp2_with (go_at_call 78; (with_reducible refine (ref_object_ok h t i k hx (by have := H.out; omega)).mono ?_); rintro e w' ⟨rfl, rfl⟩)
  go_ret2
  exact ⟨rfl, rfl⟩

theorem ref_ref_arg (h : RAt w r L A) (t i : Int) (k : Nat) (j : Int) (hx : A.objE t i = .ok ((k : Int) + 1)) (hk : k < A.O.length) (hO : A.O.length ≤ 1000) (hj : ¬ (0 ≤ j ∧ j < (A.O.getD k default).refs.length)) :
    Calls Try.prog 66 #[Pt r, I t, I i, I j] w fun e w' => e = .returned (.tuple #[I k, I 2]) ∧ w = w' := by
  have hk1 : (k : Int) < 1000 := by omega
  by_cases j0 : j < 0
  · have H := Lib.hid (And.intro hk (And.intro hO hj))
    clear hk hO hj
    go_enter Try.func66, Try.ntmps66
    go_wp2_with (go_at_call 78; (with_reducible refine (ref_object_ok h t i k hx (by have := H.out; omega)).mono ?_); rintro e w' ⟨rfl, rfl⟩)
    go_ret2
    exact ⟨rfl, rfl⟩
  obtain ⟨ob, oc, c2, hoc, ck0, ck1⟩ := h.objAt hk
  have hr := h (.rf k) hk
  simp only [RPart] at hr
  obtain ⟨ao, cap, e2, hc, -⟩ := hr.elem
  rw [e2] at ck0
  have j1 : ((A.O.getD k default).refs.length : Int) ≤ j := by omega
  have q1 : decide (j < 0) = false := by simpa using j0
  have q2 : decide (((A.O.getD k default).refs.length : Int) ≤ j) = true := decide_eq_true j1
  have hk' : (k : Int) < A.O.length := by omega
  have hk0 : (0 : Int) ≤ (k : Int) := by omega
  have H := Lib.hid (And.intro hk hO)
  clear hr e2 hO j1 hj j0
  generalize (A.O.getD k default).refs.length = n at *
  generalize hm : A.O.length = m at *
  clear hm
  go_enter Try.func66, Try.ntmps66
  go_wp2_with (go_at_call 78; (with_reducible refine (ref_object_ok h t i k hx (by have := H.out; omega)).mono ?_); rintro e w' ⟨rfl, rfl⟩)
  go_ret2
  exact ⟨rfl, rfl⟩

theorem ref_ref_bad (h : RAt w r L A) (hn : 0 < A.T.length) (t i c : Int) (j : Int) (hx : A.objE t i = .error c) :
    Calls Try.prog 66 #[Pt r, I t, I i, I j] w fun e w' => e = .returned (.tuple #[I (-1), I c]) ∧ w = w' := by
  rcases objE_err hx with rfl | rfl
  · go_enter Try.func66, Try.ntmps66
    go_wp2_with (go_at_call 78; (with_reducible refine (ref_object_bad h hn t i _ hx).mono ?_); rintro e w' ⟨rfl, rfl⟩)
    go_ret2
    exact ⟨rfl, rfl⟩
  · go_enter Try.func66, Try.ntmps66
    go_wp2_with (go_at_call 78; (with_reducible refine (ref_object_bad h hn t i _ hx).mono ?_); rintro e w' ⟨rfl, rfl⟩)
    go_ret2
    exact ⟨rfl, rfl⟩

theorem ref_datum_ok (h : RAt w r L A) (t i : Int) (k : Nat) (j : Int) (hx : A.objE t i = .ok ((k : Int) + 1)) (hk : k < A.O.length) (hO : A.O.length ≤ 1000) (hj : 0 ≤ j ∧ j < (A.O.getD k default).data.length) :
    Calls Try.prog 67 #[Pt r, I t, I i, I j] w fun e w' => e = .returned (.tuple #[I k, I 0]) ∧ w = w' := by
  obtain ⟨ob, oc, c2, hoc, ck0, ck1⟩ := h.objAt hk
  have hr := h (.dt k) hk
  simp only [RPart] at hr
  obtain ⟨ao, cap, e2, hc, -⟩ := hr.elem
  rw [e2] at ck1
  obtain ⟨j0, j1⟩ := hj
  have q1 : decide (j < 0) = false := by simpa using j0
  have q2 : decide (((A.O.getD k default).data.length : Int) ≤ j) = false := decide_eq_false (by omega)
  have hk' : (k : Int) < A.O.length := by omega
  have hk0 : (0 : Int) ≤ (k : Int) := by omega
  have hk1 : (k : Int) < 1000 := by omega
  have H := Lib.hid (And.intro hk hO)
  clear hr e2 hO j1
  generalize (A.O.getD k default).data.length = n at *
  generalize hm : A.O.length = m at *
  clear hm
  go_enter Try.func67, Try.ntmps67
  go_wp2_with (go_at_call 78; (with_reducible refine (ref_object_ok h t i k hx (by have := H.out; omega)).mono ?_); rintro e w' ⟨rfl, rfl⟩)
  go_ret2
  exact ⟨rfl, rfl⟩

theorem ref_datum_arg (h : RAt w r L A) (t i : Int) (k : Nat) (j : Int) (hx : A.objE t i = .ok ((k : Int) + 1)) (hk : k < A.O.length) (hO : A.O.length ≤ 1000) (hj : ¬ (0 ≤ j ∧ j < (A.O.getD k default).data.length)) :
    Calls Try.prog 67 #[Pt r, I t, I i, I j] w fun e w' => e = .returned (.tuple #[I k, I 2]) ∧ w = w' := by
  have hk1 : (k : Int) < 1000 := by omega
  by_cases j0 : j < 0
  · have H := Lib.hid (And.intro hk (And.intro hO hj))
    clear hk hO hj
    go_enter Try.func67, Try.ntmps67
    go_wp2_with (go_at_call 78; (with_reducible refine (ref_object_ok h t i k hx (by have := H.out; omega)).mono ?_); rintro e w' ⟨rfl, rfl⟩)
    go_ret2
    exact ⟨rfl, rfl⟩
  obtain ⟨ob, oc, c2, hoc, ck0, ck1⟩ := h.objAt hk
  have hr := h (.dt k) hk
  simp only [RPart] at hr
  obtain ⟨ao, cap, e2, hc, -⟩ := hr.elem
  rw [e2] at ck1
  have j1 : ((A.O.getD k default).data.length : Int) ≤ j := by omega
  have q1 : decide (j < 0) = false := by simpa using j0
  have q2 : decide (((A.O.getD k default).data.length : Int) ≤ j) = true := decide_eq_true j1
  have hk' : (k : Int) < A.O.length := by omega
  have hk0 : (0 : Int) ≤ (k : Int) := by omega
  have H := Lib.hid (And.intro hk hO)
  clear hr e2 hO j1 hj j0
  generalize (A.O.getD k default).data.length = n at *
  generalize hm : A.O.length = m at *
  clear hm
  go_enter Try.func67, Try.ntmps67
  go_wp2_with (go_at_call 78; (with_reducible refine (ref_object_ok h t i k hx (by have := H.out; omega)).mono ?_); rintro e w' ⟨rfl, rfl⟩)
  go_ret2
  exact ⟨rfl, rfl⟩

theorem ref_datum_bad (h : RAt w r L A) (hn : 0 < A.T.length) (t i c : Int) (j : Int) (hx : A.objE t i = .error c) :
    Calls Try.prog 67 #[Pt r, I t, I i, I j] w fun e w' => e = .returned (.tuple #[I (-1), I c]) ∧ w = w' := by
  rcases objE_err hx with rfl | rfl
  · go_enter Try.func67, Try.ntmps67
    go_wp2_with (go_at_call 78; (with_reducible refine (ref_object_bad h hn t i _ hx).mono ?_); rintro e w' ⟨rfl, rfl⟩)
    go_ret2
    exact ⟨rfl, rfl⟩
  · go_enter Try.func67, Try.ntmps67
    go_wp2_with (go_at_call 78; (with_reducible refine (ref_object_bad h hn t i _ hx).mono ?_); rintro e w' ⟨rfl, rfl⟩)
    go_ret2
    exact ⟨rfl, rfl⟩
end Go.Proofs.Ytnhombeagbhccaa
