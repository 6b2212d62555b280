/- The reference's graph: Push, Pop. -/
import Derived.Test.YtnhombeagbhccaaRef7
namespace Go.Proofs.Ytnhombeagbhccaa
open Go.RowKit

variable {w w' : World} {r : Nat} {L : RL} {A : AG}

theorem ref09_Push (sv kv : Value) (R : AR) (i : Int) (w : World) (hs : Sl w 3 sv (R.slots.map I)) (hk : Sl w 3 kv (R.stack.map I)) (hf : R.stack.length ≤ 16) :
    Calls Try.prog 68 #[.agg #[sv, kv], I i] w fun e w' => ∃ sv' kv', e = .returned (.tuple #[.agg #[sv', kv'], I (R.pushR i).2]) ∧ Sl w' 3 sv' ((R.pushR i).1.slots.map I) ∧ Sl w' 3 kv' ((R.pushR i).1.stack.map I) ∧
      (∀ b, slB sv' ((R.pushR i).1.slots.map I) = some b → slB sv (R.slots.map I) = some b ∨ slB kv (R.stack.map I) = some b ∨ w.heap.size ≤ b) ∧
      (∀ b, slB kv' ((R.pushR i).1.stack.map I) = some b → slB sv (R.slots.map I) = some b ∨ slB kv (R.stack.map I) = some b ∨ w.heap.size ≤ b) ∧ New w w' := by
  unfold AR.pushR
  by_cases hi : R.ok i
  · rw [if_pos hi]
    by_cases h16 : R.stack.length = 16
    · rw [if_pos h16]
      exact (ref09_Push_full sv kv R i w hs hk hi (by omega)).mono fun _ _ ⟨h1, h2⟩ => ⟨sv, kv, h1, hs.fr h2 (fun _ _ x => x), hk.fr h2 (fun _ _ x => x), fun b hb => .inl hb, fun b hb => .inr (.inl hb), h2⟩
    · rw [if_neg h16]
      exact (ref09_Push_ok sv kv R i w hs hk hi (by omega)).mono fun _ _ ⟨kv', h1, h2, h3, h4⟩ => ⟨sv, kv', h1, hs.fr h4 (fun _ _ x => x), h2, fun b hb => .inl hb, fun b hb => .inr (.inr (h3 b hb)), h4⟩
  · rw [if_neg hi]
    exact (ref09_Push_bad sv kv R i w hs hk hi).mono fun _ _ ⟨h1, h2⟩ => ⟨sv, kv, h1, hs.fr h2 (fun _ _ x => x), hk.fr h2 (fun _ _ x => x), fun b hb => .inl hb, fun b hb => .inr (.inl hb), h2⟩

theorem ref09_Pop (sv kv : Value) (R : AR) (i : Int) (w : World) (hs : Sl w 3 sv (R.slots.map I)) (hk : Sl w 3 kv (R.stack.map I)) (hf : R.stack.length ≤ 16) (h8 : R.slots.length ≤ 8) :
    Calls Try.prog 69 #[.agg #[sv, kv], I i] w fun e w' => ∃ sv' kv', e = .returned (.tuple #[.agg #[sv', kv'], I (R.popR i).2]) ∧ Sl w' 3 sv' ((R.popR i).1.slots.map I) ∧ Sl w' 3 kv' ((R.popR i).1.stack.map I) ∧
      (∀ b, slB sv' ((R.popR i).1.slots.map I) = some b → slB sv (R.slots.map I) = some b ∨ slB kv (R.stack.map I) = some b ∨ w.heap.size ≤ b) ∧
      (∀ b, slB kv' ((R.popR i).1.stack.map I) = some b → slB sv (R.slots.map I) = some b ∨ slB kv (R.stack.map I) = some b ∨ w.heap.size ≤ b) ∧ New w w' := by
  unfold AR.popR
  by_cases hi : R.ok i
  · rw [if_pos hi]
    by_cases h0 : R.stack.length = 0
    · rw [if_pos h0]
      exact (ref09_Pop_none sv kv R i w hs hk hi h0).mono fun _ _ ⟨h1, h2⟩ => ⟨sv, kv, h1, hs.fr h2 (fun _ _ x => x), hk.fr h2 (fun _ _ x => x), fun b hb => .inl hb, fun b hb => .inr (.inl hb), h2⟩
    · rw [if_neg h0]
      exact (ref09_Pop_ok sv kv R i w hs hk hi (by omega) hf h8).mono fun _ _ ⟨sv', kv', h1, h2, h3, h4, h5, h6⟩ => ⟨sv', kv', h1, h2, h3, fun b hb => .inr (.inr (h4 b hb)), fun b hb => .inr (.inl (h5 b hb)), h6⟩
  · rw [if_neg hi]
    exact (ref09_Pop_bad sv kv R i w hs hk hi).mono fun _ _ ⟨h1, h2⟩ => ⟨sv, kv, h1, hs.fr h2 (fun _ _ x => x), hk.fr h2 (fun _ _ x => x), fun b hb => .inl hb, fun b hb => .inr (.inl hb), h2⟩

set_option maxRecDepth 100000 in
set_option maxHeartbeats 2000000 in
theorem ref_Push (h : RAt w r L A) (ha : L.Apart r A) (hn : 0 < A.T.length) (hsm : A.Small) (t i : Int) :
    Calls Try.prog 41 #[Pt r, I t, I i] w fun e w' => e = .returned (I (A.push t i).2.2) ∧ RGoes w w' r L A (A.push t i).1 := by
  by_cases ht : A.okT t
  · have e : A.push t i = (A.setT t ((A.thr t).pushR i).1, 0, ((A.thr t).pushR i).2) := by simp [AG.push, ht]
    rw [e]
    obtain ⟨tb, tc, ao, cap, ak, ck, e1, e2, e3, e4, e5, c0, ct0, ct1, fz, hs, hk, os, ok⟩ := h.thrAt ht
    have hm := thr_mem ht
    have CC := Lib.hid (ref09_Push _ _ (A.thr t) i w hs hk (hsm.stack _ hm))
    obtain ⟨t0, t1⟩ := ht
    have q1 : decide (t < (A.T.length : Int)) = true := decide_eq_true t1
    have q2 : decide ((A.T.length : Int) ≤ t) = false := decide_eq_false (by omega)
    have q3 : decide (t < 0) = false := decide_eq_false (by omega)
    have H := Lib.hid (And.intro h (And.intro ha (And.intro e1 (And.intro os (And.intro ok fz)))))
    clear h ha e1 hs hk os ok e4 e5 fz hm e
    generalize (A.thr t).pushR i = pr at CC ⊢
    obtain ⟨R', e'⟩ := pr
    go_enter Try.func41, Try.ntmps41
    go_wp2_with (go_at_call 68; (with_reducible refine CC.out.mono ?_); rintro e w2 ⟨sv2, kv2, rfl, h2, h3, h4, h5, nn⟩; obtain ⟨ao2, cap2, rfl, -⟩ := h2.elem; obtain ⟨ak2, ck2, rfl, -⟩ := h3.elem; have kr0 := nn.cellK c0 id; have kt0 := nn.cellK ct0 id; have kt1 := nn.cellK ct1 id; have fz0 := nn.frzK (p := ⟨tb, t.toNat * 2, none⟩) e3 (H.out.2.2.2.2.2 _) id; have fz1 := nn.frzK (p := ⟨tb, t.toNat * 2 + 1, none⟩) e3 (H.out.2.2.2.2.2 _) id)
    have l2 := lt_of_block (New.blk nn (H.out.1 .r (by trivial)))
    have ltb2 : tb < w2.heap.size := Nat.lt_of_lt_of_le e3 nn.size
    have ne1 : ¬ w2.heap.size = tb := by omega
    have ne2 : ¬ w2.heap.size = r := by omega
    go_region_with fail
    all_goals
      go_wp2
      go_ret
      refine ⟨rfl, ?_⟩
      exact (H.out.1.putT H.out.2.1 (t := t.toNat) (by omega) nn (R := R') H.out.2.2.1 h2 h3 (fun b hb => by rw [H.out.2.2.2.1, H.out.2.2.2.2.1]; exact h4 b hb) (fun b hb => by rw [H.out.2.2.2.1, H.out.2.2.2.2.1]; exact h5 b hb)).past (Fr.drew (Fr.alloc (Fr.refl _ _) _))
  · have e : A.push t i = (A, 0, 2) := by simp [AG.push, ht]
    rw [e]
    obtain ⟨tb, tc, e1, h2, -, h3, h4⟩ := h.tshape hn
    have c0 := h.c0
    rw [e1] at c0
    have fin := Lib.hid (RGoes.refl h ha)
    clear e h ha e1 h2 h3 h4
    by_cases t0 : t < 0
    · go_enter Try.func41, Try.ntmps41
      go_wp2
      go_ret
      exact ⟨rfl, fin.out⟩
    · have t1 : (A.T.length : Int) ≤ t := by unfold AG.okT at ht; omega
      clear ht
      go_enter Try.func41, Try.ntmps41
      go_wp2
      go_ret
      exact ⟨rfl, fin.out⟩
set_option maxRecDepth 100000 in
set_option maxHeartbeats 2000000 in
theorem ref_Pop (h : RAt w r L A) (ha : L.Apart r A) (hn : 0 < A.T.length) (hsm : A.Small) (t i : Int) :
    Calls Try.prog 42 #[Pt r, I t, I i] w fun e w' => e = .returned (I (A.pop t i).2.2) ∧ RGoes w w' r L A (A.pop t i).1 := by
  by_cases ht : A.okT t
  · have e : A.pop t i = (A.setT t ((A.thr t).popR i).1, 0, ((A.thr t).popR i).2) := by simp [AG.pop, ht]
    rw [e]
    obtain ⟨tb, tc, ao, cap, ak, ck, e1, e2, e3, e4, e5, c0, ct0, ct1, fz, hs, hk, os, ok⟩ := h.thrAt ht
    have hm := thr_mem ht
    have CC := Lib.hid (ref09_Pop _ _ (A.thr t) i w hs hk (hsm.stack _ hm) (hsm.slots _ hm))
    obtain ⟨t0, t1⟩ := ht
    have q1 : decide (t < (A.T.length : Int)) = true := decide_eq_true t1
    have q2 : decide ((A.T.length : Int) ≤ t) = false := decide_eq_false (by omega)
    have q3 : decide (t < 0) = false := decide_eq_false (by omega)
    have H := Lib.hid (And.intro h (And.intro ha (And.intro e1 (And.intro os (And.intro ok fz)))))
    clear h ha e1 hs hk os ok e4 e5 fz hm e
    generalize (A.thr t).popR i = pr at CC ⊢
    obtain ⟨R', e'⟩ := pr
    go_enter Try.func42, Try.ntmps42
    go_wp2_with (go_at_call 69; (with_reducible refine CC.out.mono ?_); rintro e w2 ⟨sv2, kv2, rfl, h2, h3, h4, h5, nn⟩; obtain ⟨ao2, cap2, rfl, -⟩ := h2.elem; obtain ⟨ak2, ck2, rfl, -⟩ := h3.elem; have kr0 := nn.cellK c0 id; have kt0 := nn.cellK ct0 id; have kt1 := nn.cellK ct1 id; have fz0 := nn.frzK (p := ⟨tb, t.toNat * 2, none⟩) e3 (H.out.2.2.2.2.2 _) id; have fz1 := nn.frzK (p := ⟨tb, t.toNat * 2 + 1, none⟩) e3 (H.out.2.2.2.2.2 _) id)
    have l2 := lt_of_block (New.blk nn (H.out.1 .r (by trivial)))
    have ltb2 : tb < w2.heap.size := Nat.lt_of_lt_of_le e3 nn.size
    have ne1 : ¬ w2.heap.size = tb := by omega
    have ne2 : ¬ w2.heap.size = r := by omega
    go_region_with fail
    all_goals
      go_wp2
      go_ret
      refine ⟨rfl, ?_⟩
      exact (H.out.1.putT H.out.2.1 (t := t.toNat) (by omega) nn (R := R') H.out.2.2.1 h2 h3 (fun b hb => by rw [H.out.2.2.2.1, H.out.2.2.2.2.1]; exact h4 b hb) (fun b hb => by rw [H.out.2.2.2.1, H.out.2.2.2.2.1]; exact h5 b hb)).past (Fr.drew (Fr.alloc (Fr.refl _ _) _))
  · have e : A.pop t i = (A, 0, 2) := by simp [AG.pop, ht]
    rw [e]
    obtain ⟨tb, tc, e1, h2, -, h3, h4⟩ := h.tshape hn
    have c0 := h.c0
    rw [e1] at c0
    have fin := Lib.hid (RGoes.refl h ha)
    clear e h ha e1 h2 h3 h4
    by_cases t0 : t < 0
    · go_enter Try.func42, Try.ntmps42
      go_wp2
      go_ret
      exact ⟨rfl, fin.out⟩
    · have t1 : (A.T.length : Int) ≤ t := by unfold AG.okT at ht; omega
      clear ht
      go_enter Try.func42, Try.ntmps42
      go_wp2
      go_ret
      exact ⟨rfl, fin.out⟩

end Go.Proofs.Ytnhombeagbhccaa
