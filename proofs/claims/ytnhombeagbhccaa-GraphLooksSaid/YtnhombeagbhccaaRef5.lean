/- The reference's graph: Slot, object, ref, datum, set. -/
import Derived.Test.YtnhombeagbhccaaRefAt
import Derived.Test.YtnhombeagbhccaaRef4
namespace Go.Proofs.Ytnhombeagbhccaa
open Go.RowKit

variable {w w' : World} {r : Nat} {L : RL} {A : AG}

theorem ref_Slot_ok (h : RAt w r L A) (t i x : Int) (hx : A.slotE t i = .ok x) :
    Calls Try.prog 43 #[Pt r, I t, I i] w fun e w' => e = .returned (.tuple #[I x, I 0]) ∧ w = w' := by
  obtain ⟨⟨t0, t1⟩, ⟨i0, i1⟩, rfl⟩ := slotE_ok hx
  clear hx
  have htl : t.toNat < A.T.length := by omega
  obtain ⟨tb, tc, e, h2, -, h3, h4⟩ := h.tshape (by omega)
  have c0 := h.c0
  rw [e] at c0
  have ct := (h4 t.toNat htl).1
  have hs := h (.s t.toNat) htl
  simp only [RPart] at hs
  change Sl w 3 _ ((A.thr t).slots.map I) at hs
  obtain ⟨ao, cap, e2, hc, hno, hcl, hne⟩ := hs.shape
  rw [e2] at ct
  simp only [List.length_map] at ct hc
  obtain ⟨sb, rfl, _, _⟩ := hne (fun e => by have := congrArg List.length e; simp at this; rw [this] at i1; simp at i1; omega)
  have cc := hcl _ rfl i.toNat (I ((A.thr t).get i)) (by rw [List.getElem?_map, List.getElem?_eq_getElem (by omega)]; unfold AR.get; simp [List.getD, show i.toNat < (A.thr t).slots.length by omega])
  rw [add_off, Nat.zero_add] at cc
  have q1 : decide (t < (A.T.length : Int)) = true := by simpa using t1
  have q2 : decide (i < ((A.thr t).slots.length : Int)) = true := by simpa using i1
  have q3 : decide ((A.T.length : Int) ≤ t) = false := by simp; omega
  have q4 : decide (((A.thr t).slots.length : Int) ≤ i) = false := by simp; omega
  have H := Lib.hid (And.intro h (And.intro e (And.intro h2 (And.intro h4 (And.intro hs (And.intro e2 (And.intro hno hcl)))))))
  clear h e h2 h3 h4 hs e2 hno hcl hne
  generalize (A.thr t).get i = x at cc ⊢
  generalize (A.thr t).slots.length = n at *
  generalize A.T.length = m at *
  go_enter Try.func43, Try.ntmps43
  go_wp2
  go_ret2
  exact ⟨rfl, rfl⟩

theorem Sl.elem {f : Int → Value} {w : World} {e : Nat} {v : Value} {xs : List Int} (h : Sl w e v (xs.map f)) : ∃ ao cap, v = .slice ao xs.length cap ∧ xs.length ≤ cap ∧
    ∀ i, i < xs.length → ∃ b, ao = some ⟨b, 0, none⟩ ∧ slB v (xs.map f) = some b ∧ w.frozen? ⟨b, i, none⟩ = false ∧ w.cell? ⟨b, i, none⟩ = some (f (xs.getD i 0)) := by
  obtain ⟨ao, cap, e2, hc, hno, hcl, hne⟩ := h.shape
  simp only [List.length_map] at e2 hc
  refine ⟨ao, cap, e2, hc, fun i hi => ?_⟩
  obtain ⟨b, rfl, hb, hf⟩ := hne (fun e => by have := congrArg List.length e; simp at this; rw [this] at hi; simp at hi)
  refine ⟨b, rfl, hb, hf i, ?_⟩
  have := hcl _ rfl i (f (xs.getD i 0)) (by rw [List.getElem?_map, List.getElem?_eq_getElem hi]; simp [List.getD, hi])
  rwa [add_off, Nat.zero_add] at this

theorem slotE_err {t i c : Int} (h : A.slotE t i = .error c) : c = 2 := by
  unfold AG.slotE at h
  split at h
  · split at h
    · cases h
    · injection h with h; exact h.symm
  · injection h with h; exact h.symm

theorem objE_err {t i c : Int} (h : A.objE t i = .error c) : c = 2 ∨ c = 5 := by
  unfold AG.objE at h
  split at h
  · split at h
    · injection h with h; exact .inr h.symm
    · cases h
  · injection h with h; subst h; exact .inl (slotE_err (by assumption))

theorem ref_Slot_bad (h : RAt w r L A) (hn : 0 < A.T.length) (t i c : Int) (hx : A.slotE t i = .error c) :
    Calls Try.prog 43 #[Pt r, I t, I i] w fun e w' => e = .returned (.tuple #[I 0, I 2]) ∧ w = w' := by
  obtain ⟨tb, tc, e, h2, -, h3, h4⟩ := h.tshape hn
  have c0 := h.c0
  rw [e] at c0
  by_cases t0 : t < 0
  · clear hx h e h2 h3 h4
    go_enter Try.func43, Try.ntmps43
    go_wp2
    go_ret2
    exact ⟨rfl, rfl⟩
  by_cases t1 : (A.T.length : Int) ≤ t
  · clear hx h e h2 h3 h4
    generalize A.T.length = m at *
    go_enter Try.func43, Try.ntmps43
    go_wp2
    go_ret2
    exact ⟨rfl, rfl⟩
  have t0' : 0 ≤ t := by omega
  have t1' : t < (A.T.length : Int) := by omega
  have q1 : decide (t < (A.T.length : Int)) = true := by simpa using t1'
  have q3 : decide ((A.T.length : Int) ≤ t) = false := by simp; omega
  have q5 : decide (t < 0) = false := by simpa using t0'
  have htl : t.toNat < A.T.length := by omega
  by_cases i0 : i < 0
  · clear hx h e h2 h3 h4 htl t0 t1
    generalize A.T.length = m at *
    go_enter Try.func43, Try.ntmps43
    go_wp2
    go_ret2
    exact ⟨rfl, rfl⟩
  have ct := (h4 t.toNat htl).1
  have hs := h (.s t.toNat) htl
  simp only [RPart] at hs
  change Sl w 3 _ ((A.thr t).slots.map I) at hs
  obtain ⟨ao, cap, e2, -, -⟩ := hs.elem
  rw [e2] at ct
  have i1 : ((A.thr t).slots.length : Int) ≤ i := by
    unfold AG.slotE at hx
    rw [if_pos ⟨t0', t1'⟩] at hx
    split at hx
    · cases hx
    · unfold AR.ok at *; omega
  have q4 : decide (((A.thr t).slots.length : Int) ≤ i) = true := by simpa using i1
  have q6 : decide (i < 0) = false := by simp; omega
  clear hx h e h2 h3 h4 hs e2 t0 t1 i0
  generalize (A.thr t).slots.length = n at *
  generalize A.T.length = m at *
  go_enter Try.func43, Try.ntmps43
  go_wp2
  go_ret2
  exact ⟨rfl, rfl⟩

theorem obj_succ (k : Nat) : A.obj ((k : Int) + 1) = A.O.getD k default := by
  unfold AG.obj
  rw [show ((k : Int) + 1).toNat - 1 = k by omega]

theorem ref_object_ok (h : RAt w r L A) (t i : Int) (k : Nat) (hx : A.objE t i = .ok ((k : Int) + 1)) (hk : k < 1000) :
    Calls Try.prog 78 #[Pt r, I t, I i] w fun e w' => e = .returned (.tuple #[I k, I 0]) ∧ w = w' := by
  have hs := (objE_ok hx).1
  have q : ((k : Int) + 1 == 0) = false := by simp; omega
  have hk' : (k : Int) < 1000 := by omega
  go_enter Try.func78, Try.ntmps78
  go_wp2_with (go_at_call 43; (with_reducible refine (ref_Slot_ok h t i _ hs).mono ?_); rintro e w' ⟨rfl, rfl⟩)
  go_ret2
  exact ⟨rfl, rfl⟩

theorem ref_object_bad (h : RAt w r L A) (hn : 0 < A.T.length) (t i c : Int) (hx : A.objE t i = .error c) :
    Calls Try.prog 78 #[Pt r, I t, I i] w fun e w' => e = .returned (.tuple #[I (-1), I c]) ∧ w = w' := by
  unfold AG.objE at hx
  split at hx
  · rename_i n hs
    split at hx
    · rename_i h0
      injection hx with hx
      subst hx h0
      go_enter Try.func78, Try.ntmps78
      go_wp2_with (go_at_call 43; (with_reducible refine (ref_Slot_ok h t i _ hs).mono ?_); rintro e w' ⟨rfl, rfl⟩)
      go_ret2
      exact ⟨rfl, rfl⟩
    · cases hx
  · rename_i c' hs
    injection hx with hx
    subst hx
    obtain rfl := slotE_err hs
    go_enter Try.func78, Try.ntmps78
    go_wp2_with (go_at_call 43; (with_reducible refine (ref_Slot_bad h hn t i _ hs).mono ?_); rintro e w' ⟨rfl, rfl⟩)
    go_ret2
    exact ⟨rfl, rfl⟩

end Go.Proofs.Ytnhombeagbhccaa
