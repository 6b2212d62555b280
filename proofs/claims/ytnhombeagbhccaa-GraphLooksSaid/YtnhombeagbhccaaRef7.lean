/- The reference's graph: set, Push, Pop. -/
import Derived.Test.YtnhombeagbhccaaRef6
namespace Go.Proofs.Ytnhombeagbhccaa
open Go.RowKit

variable {w w' : World} {r : Nat} {L : RL} {A : AG}

theorem RAt.putT (h : RAt w r L A) (ha : L.Apart r A) {t : Nat} (ht : t < A.T.length) {w2 : World} (nn : New w w2) {R : AR} {sv kv : Value} {tb tc : Nat} (e : L.tv = .slice (some ⟨tb, 0, none⟩) A.T.length tc)
    (hs : Sl w2 3 sv (R.slots.map I)) (hk : Sl w2 3 kv (R.stack.map I))
    (fs : ∀ b, slB sv (R.slots.map I) = some b → L.own r A (.s t) = some b ∨ L.own r A (.st t) = some b ∨ w.heap.size ≤ b)
    (fk : ∀ b, slB kv (R.stack.map I) = some b → L.own r A (.s t) = some b ∨ L.own r A (.st t) = some b ∨ w.heap.size ≤ b) :
    RGoes w ((w2.setCell ⟨tb, t * 2, none⟩ sv).setCell ⟨tb, t * 2 + 1, none⟩ kv) r L A { A with T := A.T.set t R } := by
  have eb : L.tv.ownBlock = some tb := by rw [e]; rfl
  have f2 : Fr (fun b => L.tv.ownBlock = some b) w2 ((w2.setCell ⟨tb, t * 2, none⟩ sv).setCell ⟨tb, t * 2 + 1, none⟩ kv) :=
    Fr.set (F := fun b => L.tv.ownBlock = some b) (Fr.set (F := fun b => L.tv.ownBlock = some b) (Fr.refl _ _) ⟨tb, t * 2, none⟩ _ eb) ⟨tb, t * 2 + 1, none⟩ _ eb
  have hT := ownsRow_fr (h .t (by trivial)) nn (fun _ _ x => x)
  have ltb := (h .t (by trivial)).lt tb eb
  have old : ∀ b, (L.own r A (.s t) = some b ∨ L.own r A (.st t) = some b ∨ w.heap.size ≤ b) → ¬ L.tv.ownBlock = some b := by
    rintro b (h1 | h1 | h1) e2
    · exact ha.ne (x := .t) (y := .s t) (by trivial) (by trivial) ht (by simp) h1 e2
    · exact ha.ne (x := .t) (y := .st t) (by trivial) (by trivial) ht (by simp) h1 e2
    · rw [eb] at e2; injection e2 with e2; omega
  refine RAt.setT h ha ht ((nn.to _).trans f2) ?_ (hs.fr f2 (fun b hb => old b (fs b hb))) (hk.fr f2 (fun b hb => old b (fk b hb))) fs fk
  rw [e] at hT ⊢
  have h1 := (hT.stored (t * 2) sv).1
  have h2 := (h1.stored (t * 2 + 1) kv).1
  rw [Nat.mul_comm t 2, pairs_set _ _ _ _ ht] at h2
  rw [Nat.mul_comm t 2]
  exact h2

/-- A row that is new, and not empty: the heap has grown. -/
theorem Sl.grown {w w2 : World} {e : Nat} {v : Value} {xs : List Int} (h : Sl w2 e v (xs.map I)) (hn : ∀ b, slB v (xs.map I) = some b → w.heap.size ≤ b) (h0 : 0 < xs.length) : w.heap.size < w2.heap.size := by
  obtain ⟨_, _, _, _, h1⟩ := h.elem
  obtain ⟨b, _, hb, _⟩ := h1 0 h0
  have := h.lt b hb
  have := hn b hb
  omega

/-- A thread's row: what its cells hold. -/
theorem RAt.thrAt (h : RAt w r L A) {t : Int} (ht : A.okT t) : ∃ tb tc ao cap ak ck, L.tv = .slice (some ⟨tb, 0, none⟩) A.T.length tc ∧ A.T.length ≤ tc ∧ tb < w.heap.size ∧ L.sv t.toNat = .slice ao (A.thr t).slots.length cap ∧ L.kv t.toNat = .slice ak (A.thr t).stack.length ck ∧
    w.cell? ⟨r, 0, none⟩ = some (.slice (some ⟨tb, 0, none⟩) A.T.length tc) ∧ w.cell? ⟨tb, t.toNat * 2, none⟩ = some (.slice ao (A.thr t).slots.length cap) ∧ w.cell? ⟨tb, t.toNat * 2 + 1, none⟩ = some (.slice ak (A.thr t).stack.length ck) ∧
    (∀ j, w.frozen? ⟨tb, j, none⟩ = false) ∧ Sl w 3 (.slice ao (A.thr t).slots.length cap) ((A.thr t).slots.map I) ∧ Sl w 3 (.slice ak (A.thr t).stack.length ck) ((A.thr t).stack.map I) ∧
    L.own r A (.s t.toNat) = slB (.slice ao (A.thr t).slots.length cap) ((A.thr t).slots.map I) ∧ L.own r A (.st t.toNat) = slB (.slice ak (A.thr t).stack.length ck) ((A.thr t).stack.map I) := by
  obtain ⟨t0, t1⟩ := ht
  have htl : t.toNat < A.T.length := by omega
  obtain ⟨tb, tc, e, h2, h2b, h3, h4⟩ := h.tshape (by omega)
  have hs := h (.s t.toNat) htl
  have hk := h (.st t.toNat) htl
  simp only [RPart] at hs hk
  change Sl w 3 _ ((A.thr t).slots.map I) at hs
  change Sl w 3 _ ((A.thr t).stack.map I) at hk
  obtain ⟨ao, cap, e2, -⟩ := hs.elem
  obtain ⟨ak, ck, e3, -⟩ := hk.elem
  rw [e2] at hs
  rw [e3] at hk
  refine ⟨tb, tc, ao, cap, ak, ck, e, h2, (h .t (by trivial)).lt tb h2b, e2, e3, by rw [h.c0, e], by rw [(h4 _ htl).1, e2], by rw [(h4 _ htl).2, e3], h3, hs, hk, ?_, ?_⟩
  · simp only [RL.own]; rw [e2]; rfl
  · simp only [RL.own]; rw [e3]; rfl

set_option maxRecDepth 100000 in
set_option maxHeartbeats 2000000 in
theorem ref_set (h : RAt w r L A) (ha : L.Apart r A) (t i x : Int) (ht : A.okT t) (hi : (A.thr t).ok i) (hx : 0 ≤ x) (h8 : (A.thr t).slots.length ≤ 8) :
    Calls Try.prog 65 #[Pt r, I t, I i, I x] w fun e w' => e = .returned (.tuple #[]) ∧ RGoes w w' r L A (A.setS t i x) := by
  obtain ⟨tb, tc, ao, cap, ak, ck, e1, e2, e3, e4, e5, c0, ct0, ct1, fz, hs, hk, os, ok⟩ := h.thrAt ht
  obtain ⟨t0, t1⟩ := ht
  obtain ⟨i0, i1⟩ := hi
  have ha2 : r ≠ tb := fun e => ha.ne (x := .t) (y := .r) (by trivial) (by trivial) (by trivial) (by simp) (b := tb) (by rw [← e]; rfl) (by show L.tv.ownBlock = _; rw [e1]; rfl)
  have q1 : decide (t < (A.T.length : Int)) = true := by simpa using t1
  have H := Lib.hid (And.intro h (And.intro ha (And.intro e1 (And.intro hs (And.intro hk (And.intro os (And.intro ok (And.intro e4 (And.intro e5 fz)))))))))
  clear h ha e1 hs hk os ok e4 e5 fz
  go_enter Try.func65, Try.ntmps65
  go_wp2_with fail
  have Htb := Lib.hid (ha2 : r ≠ tb)
  go_region_with (go_at_call 77; (with_reducible refine (ref09_Set_ok _ _ (A.thr t).slots i x _ (H.out.2.2.2.1.fr (F := fun _ => False) (by repeat first | exact Fr.refl _ _ | apply Fr.drew) (fun _ _ x => x)) i0 i1 (by omega) hx ⟨_, _, _, rfl⟩).mono ?_); rintro e w2 ⟨sv2, rfl, h2, h3, h4⟩; have nn : New w w2 := Fr.ofDrew h4; have NS := Lib.hid (Sl.grown h2 h3 (by rw [List.length_set]; omega)); obtain ⟨ao2, cap2, rfl, hz⟩ := h2.shape; clear hz; simp only [List.length_map, List.length_set] at h2 h3 ⊢; have fz0 := nn.frzK (p := ⟨tb, t.toNat * 2, none⟩) e3 (H.out.2.2.2.2.2.2.2.2.2 _) id; have fz1 := nn.frzK (p := ⟨tb, t.toNat * 2 + 1, none⟩) e3 (H.out.2.2.2.2.2.2.2.2.2 _) id; have kt0 := nn.cellK ct0 id; have kt1 := nn.cellK ct1 id; have kr0 := nn.cellK c0 id)
  all_goals
    go_end0
    refine ⟨rfl, ?_⟩
    have := H.out.1.putT H.out.2.1 (t := t.toNat) (by omega) nn (R := (A.thr t).set i x) H.out.2.2.1 h2 (H.out.2.2.2.2.1.fr nn (fun _ _ x => x)) (fun b hb => .inr (.inr (h3 b hb))) (fun b hb => .inr (.inl (by rw [H.out.2.2.2.2.2.2.1]; exact hb)))
    exact this
end Go.Proofs.Ytnhombeagbhccaa
