/- The reference's graph: Load, Store, Read, Write, Get, Put, Move, Clear, Slot. -/
import Derived.Test.YtnhombeagbhccaaRef8
namespace Go.Proofs.Ytnhombeagbhccaa
open Go.RowKit

variable {w w' : World} {r : Nat} {L : RL} {A : AG}

theorem AG.Valid.objN (hv : A.Valid) {t i n : Int} (h : A.objE t i = .ok n) : ∃ k : Nat, n = (k : Int) + 1 ∧ k < A.O.length := by
  have := hv.obj h
  exact ⟨(n - 1).toNat, by omega, by omega⟩

theorem ref_Clear (h : RAt w r L A) (ha : L.Apart r A) (hn : 0 < A.T.length) (hs : A.Small) (t dst : Int) :
    Calls Try.prog 40 #[Pt r, I t, I dst] w fun e w' => e = .returned (I (A.clear t dst).2.2) ∧ RGoes w w' r L A (A.clear t dst).1 := by
  cases hs1 : A.slotE t dst with
  | error c =>
    obtain rfl := slotE_err hs1
    have e : A.clear t dst = (A, 0, 2) := by simp [AG.clear, hs1]
    rw [e]
    have fin := Lib.hid (RGoes.refl h ha)
    clear e
    go_enter Try.func40, Try.ntmps40
    go_wp2_with (go_at_call 43; (with_reducible refine (ref_Slot_bad h hn t dst _ hs1).mono ?_); rintro e w' ⟨rfl, rfl⟩)
    go_ret
    exact ⟨rfl, fin.out⟩
  | ok x =>
    have e : A.clear t dst = (A.setS t dst 0, 0, 0) := by simp [AG.clear, hs1]
    rw [e]
    obtain ⟨ht, hi, hx⟩ := slotE_ok hs1
    have C := Lib.hid (ref_set h ha t dst 0 ht hi (by omega) (hs.slots _ (thr_mem ht)))
    have HX := Lib.hid hx
    clear hx e
    go_enter Try.func40, Try.ntmps40
    go_wp2_with (first
      | (go_at_call 43; (with_reducible refine (ref_Slot_ok h t dst x hs1).mono ?_); rintro e w' ⟨rfl, rfl⟩)
      | (go_at_call 65; (with_reducible refine C.out.mono ?_); rintro e w2 ⟨rfl, h2⟩))
    go_ret
    exact ⟨rfl, h2⟩

theorem ref_Move (h : RAt w r L A) (ha : L.Apart r A) (hn : 0 < A.T.length) (hv : A.Valid) (hs : A.Small) (t dst src : Int) :
    Calls Try.prog 39 #[Pt r, I t, I dst, I src] w fun e w' => e = .returned (I (A.move t dst src).2.2) ∧ RGoes w w' r L A (A.move t dst src).1 := by
  cases hs1 : A.slotE t dst with
  | error c =>
    obtain rfl := slotE_err hs1
    have e : A.move t dst src = (A, 0, 2) := by simp [AG.move, hs1]
    rw [e]
    have fin := Lib.hid (RGoes.refl h ha)
    clear e
    cases hs2 : A.slotE t src with
    | error c =>
      go_enter Try.func39, Try.ntmps39
      go_wp2_with (first
        | (go_at_call 43; (with_reducible refine (ref_Slot_bad h hn t dst _ hs1).mono ?_); rintro e w' ⟨rfl, rfl⟩)
        | (go_at_call 43; (with_reducible refine (ref_Slot_bad h hn t src _ hs2).mono ?_); rintro e w' ⟨rfl, rfl⟩))
      go_ret
      exact ⟨rfl, fin.out⟩
    | ok x =>
      go_enter Try.func39, Try.ntmps39
      go_wp2_with (first
        | (go_at_call 43; (with_reducible refine (ref_Slot_bad h hn t dst _ hs1).mono ?_); rintro e w' ⟨rfl, rfl⟩)
        | (go_at_call 43; (with_reducible refine (ref_Slot_ok h t src _ hs2).mono ?_); rintro e w' ⟨rfl, rfl⟩))
      go_ret
      exact ⟨rfl, fin.out⟩
  | ok x =>
    cases hs2 : A.slotE t src with
    | error c =>
      obtain rfl := slotE_err hs2
      have e : A.move t dst src = (A, 0, 2) := by simp [AG.move, hs1, hs2]
      rw [e]
      have fin := Lib.hid (RGoes.refl h ha)
      clear e
      go_enter Try.func39, Try.ntmps39
      go_wp2_with (first
        | (go_at_call 43; (with_reducible refine (ref_Slot_ok h t dst _ hs1).mono ?_); rintro e w' ⟨rfl, rfl⟩)
        | (go_at_call 43; (with_reducible refine (ref_Slot_bad h hn t src _ hs2).mono ?_); rintro e w' ⟨rfl, rfl⟩))
      go_ret
      exact ⟨rfl, fin.out⟩
    | ok y =>
      have e : A.move t dst src = (A.setS t dst y, 0, 0) := by simp [AG.move, hs1, hs2]
      rw [e]
      obtain ⟨ht, hi, hx⟩ := slotE_ok hs1
      have C := Lib.hid (ref_set h ha t dst y ht hi (hv.slot hs2).1 (hs.slots _ (thr_mem ht)))
      clear hx e
      by_cases hds : dst = src
      · subst hds
        rw [hs1] at hs2
        injection hs2 with hs2
        subst hs2
        go_enter Try.func39, Try.ntmps39
        go_wp2_with (first
          | (go_at_call 43; (with_reducible refine (ref_Slot_ok h t dst _ hs1).mono ?_); rintro e w' ⟨rfl, rfl⟩)
          | (go_at_call 65; (with_reducible refine C.out.mono ?_); rintro e w2 ⟨rfl, h2⟩))
        go_ret
        exact ⟨rfl, h2⟩
      · go_enter Try.func39, Try.ntmps39
        go_wp2_with (first
          | (go_at_call 43; (with_reducible refine (ref_Slot_ok h t dst _ hs1).mono ?_); rintro e w' ⟨rfl, rfl⟩)
          | (go_at_call 43; (with_reducible refine (ref_Slot_ok h t src _ hs2).mono ?_); rintro e w' ⟨rfl, rfl⟩)
          | (go_at_call 65; (with_reducible refine C.out.mono ?_); rintro e w2 ⟨rfl, h2⟩))
        go_ret
        exact ⟨rfl, h2⟩

theorem ref_Slot (h : RAt w r L A) (ha : L.Apart r A) (hn : 0 < A.T.length) (t i : Int) :
    Calls Try.prog 43 #[Pt r, I t, I i] w fun e w' => e = .returned (.tuple #[I (A.slot t i).2.1, I (A.slot t i).2.2]) ∧ RGoes w w' r L A (A.slot t i).1 := by
  cases hs1 : A.slotE t i with
  | error c =>
    obtain rfl := slotE_err hs1
    have e : A.slot t i = (A, 0, 2) := by simp [AG.slot, hs1]
    rw [e]
    exact (ref_Slot_bad h hn t i _ hs1).mono fun _ _ ⟨h1, h2⟩ => ⟨h1, by rw [← h2]; exact RGoes.refl h ha⟩
  | ok x =>
    have e : A.slot t i = (A, x, 0) := by simp [AG.slot, hs1]
    rw [e]
    exact (ref_Slot_ok h t i _ hs1).mono fun _ _ ⟨h1, h2⟩ => ⟨h1, by rw [← h2]; exact RGoes.refl h ha⟩

/-- The global roots' row. -/
theorem RAt.globs (h : RAt w r L A) : ∃ ao cap, w.cell? ⟨r, 1, none⟩ = some (.slice ao A.G.length cap) ∧ A.G.length ≤ cap ∧
    ∀ i, i < A.G.length → ∃ b, ao = some ⟨b, 0, none⟩ ∧ slB L.gs (A.G.map I) = some b ∧ w.frozen? ⟨b, i, none⟩ = false ∧ w.cell? ⟨b, i, none⟩ = some (I (A.G.getD i 0)) := by
  obtain ⟨ao, cap, e, h1, h2⟩ := Sl.elem (h .G (by trivial))
  exact ⟨ao, cap, by rw [h.c1, e], h1, h2⟩

theorem ref_Get (h : RAt w r L A) (ha : L.Apart r A) (hn : 0 < A.T.length) (hv : A.Valid) (hs : A.Small) (t dst i : Int) :
    Calls Try.prog 37 #[Pt r, I t, I dst, I i] w fun e w' => e = .returned (.tuple #[I (A.get t dst i).2.1, I (A.get t dst i).2.2]) ∧ RGoes w w' r L A (A.get t dst i).1 := by
  cases hs1 : A.slotE t dst with
  | error c =>
    obtain rfl := slotE_err hs1
    have e : A.get t dst i = (A, 0, 2) := by simp [AG.get, hs1]
    rw [e]
    have fin := Lib.hid (RGoes.refl h ha)
    clear e
    go_enter Try.func37, Try.ntmps37
    go_wp2_with (go_at_call 43; (with_reducible refine (ref_Slot_bad h hn t dst _ hs1).mono ?_); rintro e w' ⟨rfl, rfl⟩)
    go_ret2
    exact ⟨rfl, fin.out⟩
  | ok x =>
    obtain ⟨ao, cap, c1, hc, hcl⟩ := h.globs
    by_cases hi : A.okG i
    · have e : A.get t dst i = (A.setS t dst (A.G.getD i.toNat 0), A.G.getD i.toNat 0, 0) := by simp only [AG.get, hs1]; rw [if_pos hi]
      rw [e]
      obtain ⟨i0, i1⟩ := hi
      obtain ⟨b, rfl, hb, hf, hcell⟩ := hcl i.toNat (by omega)
      have hge : 0 ≤ A.G.getD i.toNat 0 := (hv.glob _ (mem_getD0 (by omega))).1
      obtain ⟨ht, hd, hx⟩ := slotE_ok hs1
      have C := Lib.hid (ref_set h ha t dst (A.G.getD i.toNat 0) ht hd hge (hs.slots _ (thr_mem ht)))
      have q1 : decide (i < 0) = false := decide_eq_false (by omega)
      have q2 : decide ((A.G.length : Int) ≤ i) = false := decide_eq_false (by omega)
      have hl : slB L.gs (A.G.map I) = some b := hb
      have HL := Lib.hid hl
      have GG : ∀ w2 : World, RGoes w w2 r L A (A.setS t dst (A.G.getD i.toNat 0)) → ∃ b2 cap2, w2.cell? ⟨r, 1, none⟩ = some (.slice (some ⟨b2, 0, none⟩) A.G.length cap2) ∧ A.G.length ≤ cap2 ∧ w2.cell? ⟨b2, i.toNat, none⟩ = some (I (A.G.getD i.toNat 0)) := by
        rintro w2 ⟨L2, k1, _⟩
        obtain ⟨ao2, cap2, d1, d2, d3⟩ := k1.globs
        obtain ⟨b2, rfl, _, _, d4⟩ := d3 i.toNat (show i.toNat < A.G.length by omega)
        exact ⟨b2, cap2, d1, d2, d4⟩
      have GG := Lib.hid GG
      clear hcl hb hl hx e
      generalize A.G.getD i.toNat 0 = y at hcell C hge GG ⊢
      go_enter Try.func37, Try.ntmps37
      go_wp2_with (first
        | (go_at_call 43; (with_reducible refine (ref_Slot_ok h t dst _ hs1).mono ?_); rintro e w' ⟨rfl, rfl⟩)
        | (go_at_call 65; (with_reducible refine C.out.mono ?_); rintro e w2 ⟨rfl, h2⟩; obtain ⟨b2, cap2, d1, d2, d3⟩ := GG.out _ h2))
      go_ret2
      exact ⟨rfl, h2⟩
    · have e : A.get t dst i = (A, 0, 2) := by simp only [AG.get, hs1]; rw [if_neg hi]
      rw [e]
      have fin := Lib.hid (RGoes.refl h ha)
      clear hcl e
      by_cases i0 : i < 0
      · clear hi
        go_enter Try.func37, Try.ntmps37
        go_wp2_with (go_at_call 43; (with_reducible refine (ref_Slot_ok h t dst _ hs1).mono ?_); rintro e w' ⟨rfl, rfl⟩)
        go_ret2
        exact ⟨rfl, fin.out⟩
      · have i1 : (A.G.length : Int) ≤ i := by unfold AG.okG at hi; omega
        clear hi
        go_enter Try.func37, Try.ntmps37
        go_wp2_with (go_at_call 43; (with_reducible refine (ref_Slot_ok h t dst _ hs1).mono ?_); rintro e w' ⟨rfl, rfl⟩)
        go_ret2
        exact ⟨rfl, fin.out⟩

theorem ref_Put (h : RAt w r L A) (ha : L.Apart r A) (hn : 0 < A.T.length) (t i val : Int) :
    Calls Try.prog 38 #[Pt r, I t, I i, I val] w fun e w' => e = .returned (I (A.putG t i val).2.2) ∧ RGoes w w' r L A (A.putG t i val).1 := by
  cases hs1 : A.slotE t val with
  | error c =>
    obtain rfl := slotE_err hs1
    have e : A.putG t i val = (A, 0, 2) := by simp [AG.putG, hs1]
    rw [e]
    have fin := Lib.hid (RGoes.refl h ha)
    clear e
    go_enter Try.func38, Try.ntmps38
    go_wp2_with (go_at_call 43; (with_reducible refine (ref_Slot_bad h hn t val _ hs1).mono ?_); rintro e w' ⟨rfl, rfl⟩)
    go_ret
    exact ⟨rfl, fin.out⟩
  | ok x =>
    obtain ⟨ao, cap, c1, hc, hcl⟩ := h.globs
    by_cases hi : A.okG i
    · have e : A.putG t i val = ({ A with G := A.G.set i.toNat x }, 0, 0) := by simp only [AG.putG, hs1]; rw [if_pos hi]
      rw [e]
      obtain ⟨i0, i1⟩ := hi
      obtain ⟨b, rfl, hb, hf, hcell⟩ := hcl i.toNat (by omega)
      have fin := Lib.hid (h.setG ha i.toNat x hb)
      have q1 : decide (i < 0) = false := decide_eq_false (by omega)
      have q2 : decide ((A.G.length : Int) ≤ i) = false := decide_eq_false (by omega)
      clear hcl hb e
      generalize A.G.getD i.toNat 0 = y at hcell
      go_enter Try.func38, Try.ntmps38
      go_wp2_with (go_at_call 43; (with_reducible refine (ref_Slot_ok h t val _ hs1).mono ?_); rintro e w' ⟨rfl, rfl⟩)
      go_ret
      exact ⟨rfl, fin.out⟩
    · have e : A.putG t i val = (A, 0, 2) := by simp only [AG.putG, hs1]; rw [if_neg hi]
      rw [e]
      have fin := Lib.hid (RGoes.refl h ha)
      clear hcl e
      by_cases i0 : i < 0
      · clear hi
        go_enter Try.func38, Try.ntmps38
        go_wp2_with (go_at_call 43; (with_reducible refine (ref_Slot_ok h t val _ hs1).mono ?_); rintro e w' ⟨rfl, rfl⟩)
        go_ret
        exact ⟨rfl, fin.out⟩
      · have i1 : (A.G.length : Int) ≤ i := by unfold AG.okG at hi; omega
        clear hi
        go_enter Try.func38, Try.ntmps38
        go_wp2_with (go_at_call 43; (with_reducible refine (ref_Slot_ok h t val _ hs1).mono ?_); rintro e w' ⟨rfl, rfl⟩)
        go_ret
        exact ⟨rfl, fin.out⟩

theorem ref_Load (h : RAt w r L A) (ha : L.Apart r A) (hn : 0 < A.T.length) (hv : A.Valid) (hs : A.Small) (t dst src i : Int) :
    Calls Try.prog 33 #[Pt r, I t, I dst, I src, I i] w fun e w' => e = .returned (.tuple #[I (A.load t dst src i).2.1, I (A.load t dst src i).2.2]) ∧ RGoes w w' r L A (A.load t dst src i).1 := by
  have fin := Lib.hid (RGoes.refl h ha)
  cases hs1 : A.slotE t dst with
  | error c =>
    obtain rfl := slotE_err hs1
    have e : A.load t dst src i = (A, 0, 2) := by simp [AG.load, hs1]
    rw [e]
    clear e
    go_enter Try.func33, Try.ntmps33
    go_wp2_with (go_at_call 43; (with_reducible refine (ref_Slot_bad h hn t dst _ hs1).mono ?_); rintro e w' ⟨rfl, rfl⟩)
    go_ret2
    exact ⟨rfl, fin.out⟩
  | ok x =>
    cases hs2 : A.objE t src with
    | error c =>
      have e : A.load t dst src i = (A, 0, c) := by simp [AG.load, hs1, hs2]
      rw [e]
      clear e
      rcases objE_err hs2 with rfl | rfl
      all_goals
        go_enter Try.func33, Try.ntmps33
        go_wp2_with (first
          | (go_at_call 43; (with_reducible refine (ref_Slot_ok h t dst _ hs1).mono ?_); rintro e w' ⟨rfl, rfl⟩)
          | (go_at_call 66; (with_reducible refine (ref_ref_bad h hn t src _ i hs2).mono ?_); rintro e w' ⟨rfl, rfl⟩))
        go_ret2
        exact ⟨rfl, fin.out⟩
    | ok n =>
      obtain ⟨k, rfl, hk⟩ := hv.objN hs2
      by_cases hi : 0 ≤ i ∧ i < (A.O.getD k default).refs.length
      · have e : A.load t dst src i = (A.setS t dst ((A.O.getD k default).refs.getD i.toNat 0), (A.O.getD k default).refs.getD i.toNat 0, 0) := by
          simp only [AG.load, hs1, hs2]; rw [obj_succ, if_pos hi]
        rw [e]
        obtain ⟨ob, oc, c2, hoc, ck0, ck1⟩ := h.objAt hk
        obtain ⟨ao, cap, e2, hc, hel⟩ := Sl.elem (h (.rf k) hk)
        rw [e2] at ck0
        obtain ⟨b, rfl, hb, hf, hcell⟩ := hel i.toNat (by omega)
        have hge : 0 ≤ (A.O.getD k default).refs.getD i.toNat 0 := (hv.refs _ (mem_getD hk) _ (mem_getD0 (by omega))).1
        obtain ⟨ht, hd, hx⟩ := slotE_ok hs1
        have C := Lib.hid (ref_set h ha t dst ((A.O.getD k default).refs.getD i.toNat 0) ht hd hge (hs.slots _ (thr_mem ht)))
        have H := Lib.hid (And.intro hk (And.intro hs.objs hi))
        have i0 := hi.1
        have i1 := hi.2
        have hk' : (k : Int) < A.O.length := by omega
        have hk0 : (0 : Int) ≤ (k : Int) := by omega
        clear hel e2 hb hx e hi hk
        generalize (A.O.getD k default).refs.getD i.toNat 0 = y at hcell C hge ⊢
        go_enter Try.func33, Try.ntmps33
        go_wp2_with (first
          | (go_at_call 43; (with_reducible refine (ref_Slot_ok h t dst _ hs1).mono ?_); rintro e w' ⟨rfl, rfl⟩)
          | (go_at_call 66; (with_reducible refine (ref_ref_ok h t src k i hs2 H.out.1 H.out.2.1 H.out.2.2).mono ?_); rintro e w' ⟨rfl, rfl⟩)
          | (go_at_call 65; (with_reducible refine C.out.mono ?_); rintro e w2 ⟨rfl, h2⟩))
        go_ret2
        exact ⟨rfl, h2⟩
      · have e : A.load t dst src i = (A, 0, 2) := by simp only [AG.load, hs1, hs2]; rw [obj_succ, if_neg hi]
        rw [e]
        have H := Lib.hid (And.intro hk (And.intro hs.objs hi))
        clear e hi hk
        go_enter Try.func33, Try.ntmps33
        go_wp2_with (first
          | (go_at_call 43; (with_reducible refine (ref_Slot_ok h t dst _ hs1).mono ?_); rintro e w' ⟨rfl, rfl⟩)
          | (go_at_call 66; (with_reducible refine (ref_ref_arg h t src k i hs2 H.out.1 H.out.2.1 H.out.2.2).mono ?_); rintro e w' ⟨rfl, rfl⟩))
        go_ret2
        exact ⟨rfl, fin.out⟩

theorem ref_Store (h : RAt w r L A) (ha : L.Apart r A) (hn : 0 < A.T.length) (hv : A.Valid) (hs : A.Small) (t obj i val : Int) :
    Calls Try.prog 34 #[Pt r, I t, I obj, I i, I val] w fun e w' => e = .returned (I (A.store t obj i val).2.2) ∧ RGoes w w' r L A (A.store t obj i val).1 := by
  have fin := Lib.hid (RGoes.refl h ha)
  cases hs1 : A.slotE t val with
  | error c =>
    obtain rfl := slotE_err hs1
    have e : A.store t obj i val = (A, 0, 2) := by simp [AG.store, hs1]
    rw [e]
    clear e
    go_enter Try.func34, Try.ntmps34
    go_wp2_with (go_at_call 43; (with_reducible refine (ref_Slot_bad h hn t val _ hs1).mono ?_); rintro e w' ⟨rfl, rfl⟩)
    go_ret
    exact ⟨rfl, fin.out⟩
  | ok x =>
    cases hs2 : A.objE t obj with
    | error c =>
      have e : A.store t obj i val = (A, 0, c) := by simp [AG.store, hs1, hs2]
      rw [e]
      clear e
      rcases objE_err hs2 with rfl | rfl
      all_goals
        go_enter Try.func34, Try.ntmps34
        go_wp2_with (first
          | (go_at_call 43; (with_reducible refine (ref_Slot_ok h t val _ hs1).mono ?_); rintro e w' ⟨rfl, rfl⟩)
          | (go_at_call 66; (with_reducible refine (ref_ref_bad h hn t obj _ i hs2).mono ?_); rintro e w' ⟨rfl, rfl⟩))
        go_ret
        exact ⟨rfl, fin.out⟩
    | ok n =>
      obtain ⟨k, rfl, hk⟩ := hv.objN hs2
      by_cases hi : 0 ≤ i ∧ i < (A.O.getD k default).refs.length
      · have e : A.store t obj i val = ({ A with O := A.O.set k { A.O.getD k default with refs := (A.O.getD k default).refs.set i.toNat x } }, 0, 0) := by
          simp only [AG.store, hs1, hs2]; rw [obj_succ, if_pos hi]; simp only [AG.setO]; rw [show ((k : Int) + 1).toNat - 1 = k by omega]
        rw [e]
        obtain ⟨ob, oc, c2, hoc, ck0, ck1⟩ := h.objAt hk
        obtain ⟨ao, cap, e2, hc, hel⟩ := Sl.elem (h (.rf k) hk)
        obtain ⟨b, rfl, hb, hf, hcell⟩ := hel i.toNat (by omega)
        have fin2 := Lib.hid (h.setRef ha k i.toNat x hk hb)
        rw [e2] at ck0
        have H := Lib.hid (And.intro hk (And.intro hs.objs hi))
        have i0 := hi.1
        have i1 := hi.2
        have hk' : (k : Int) < A.O.length := by omega
        have hk0 : (0 : Int) ≤ (k : Int) := by omega
        clear hel e2 hb e hi hk
        generalize (A.O.getD k default).refs.getD i.toNat 0 = y at hcell
        go_enter Try.func34, Try.ntmps34
        go_wp2_with (first
          | (go_at_call 43; (with_reducible refine (ref_Slot_ok h t val _ hs1).mono ?_); rintro e w' ⟨rfl, rfl⟩)
          | (go_at_call 66; (with_reducible refine (ref_ref_ok h t obj k i hs2 H.out.1 H.out.2.1 H.out.2.2).mono ?_); rintro e w' ⟨rfl, rfl⟩))
        go_ret
        exact ⟨rfl, fin2.out⟩
      · have e : A.store t obj i val = (A, 0, 2) := by simp only [AG.store, hs1, hs2]; rw [obj_succ, if_neg hi]
        rw [e]
        have H := Lib.hid (And.intro hk (And.intro hs.objs hi))
        clear e hi hk
        go_enter Try.func34, Try.ntmps34
        go_wp2_with (first
          | (go_at_call 43; (with_reducible refine (ref_Slot_ok h t val _ hs1).mono ?_); rintro e w' ⟨rfl, rfl⟩)
          | (go_at_call 66; (with_reducible refine (ref_ref_arg h t obj k i hs2 H.out.1 H.out.2.1 H.out.2.2).mono ?_); rintro e w' ⟨rfl, rfl⟩))
        go_ret
        exact ⟨rfl, fin.out⟩

theorem ref_Read (h : RAt w r L A) (ha : L.Apart r A) (hn : 0 < A.T.length) (hv : A.Valid) (hs : A.Small) (t src i : Int) :
    Calls Try.prog 35 #[Pt r, I t, I src, I i] w fun e w' => e = .returned (.tuple #[U (A.read t src i).2.1, I (A.read t src i).2.2]) ∧ RGoes w w' r L A (A.read t src i).1 := by
  have fin := Lib.hid (RGoes.refl h ha)
  cases hs2 : A.objE t src with
  | error c =>
    have e : A.read t src i = (A, 0, c) := by simp [AG.read, hs2]
    rw [e]
    clear e
    rcases objE_err hs2 with rfl | rfl
    all_goals
      go_enter Try.func35, Try.ntmps35
      go_wp2_with (go_at_call 67; (with_reducible refine (ref_datum_bad h hn t src _ i hs2).mono ?_); rintro e w' ⟨rfl, rfl⟩)
      go_ret2
      exact ⟨rfl, fin.out⟩
  | ok n =>
    obtain ⟨k, rfl, hk⟩ := hv.objN hs2
    by_cases hi : 0 ≤ i ∧ i < (A.O.getD k default).data.length
    · have e : A.read t src i = (A, (A.O.getD k default).data.getD i.toNat 0, 0) := by
        simp only [AG.read, hs2]; rw [obj_succ, if_pos hi]
      rw [e]
      obtain ⟨ob, oc, c2, hoc, ck0, ck1⟩ := h.objAt hk
      obtain ⟨ao, cap, e2, hc, hel⟩ := Sl.elem (h (.dt k) hk)
      rw [e2] at ck1
      obtain ⟨b, rfl, hb, hf, hcell⟩ := hel i.toNat (by omega)
      have H := Lib.hid (And.intro hk (And.intro hs.objs hi))
      have i0 := hi.1
      have i1 := hi.2
      have hk' : (k : Int) < A.O.length := by omega
      have hk0 : (0 : Int) ≤ (k : Int) := by omega
      clear hel e2 hb e hi hk
      generalize (A.O.getD k default).data.getD i.toNat 0 = y at hcell ⊢
      go_enter Try.func35, Try.ntmps35
      go_wp2_with (go_at_call 67; (with_reducible refine (ref_datum_ok h t src k i hs2 H.out.1 H.out.2.1 H.out.2.2).mono ?_); rintro e w' ⟨rfl, rfl⟩)
      go_ret2
      exact ⟨rfl, fin.out⟩
    · have e : A.read t src i = (A, 0, 2) := by simp only [AG.read, hs2]; rw [obj_succ, if_neg hi]
      rw [e]
      have H := Lib.hid (And.intro hk (And.intro hs.objs hi))
      clear e hi hk
      go_enter Try.func35, Try.ntmps35
      go_wp2_with (go_at_call 67; (with_reducible refine (ref_datum_arg h t src k i hs2 H.out.1 H.out.2.1 H.out.2.2).mono ?_); rintro e w' ⟨rfl, rfl⟩)
      go_ret2
      exact ⟨rfl, fin.out⟩

theorem ref_Write (h : RAt w r L A) (ha : L.Apart r A) (hn : 0 < A.T.length) (hv : A.Valid) (hs : A.Small) (t obj i v : Int) :
    Calls Try.prog 36 #[Pt r, I t, I obj, I i, U v] w fun e w' => e = .returned (I (A.write t obj i v).2.2) ∧ RGoes w w' r L A (A.write t obj i v).1 := by
  have fin := Lib.hid (RGoes.refl h ha)
  cases hs2 : A.objE t obj with
  | error c =>
    have e : A.write t obj i v = (A, 0, c) := by simp [AG.write, hs2]
    rw [e]
    clear e
    rcases objE_err hs2 with rfl | rfl
    all_goals
      go_enter Try.func36, Try.ntmps36
      go_wp2_with (go_at_call 67; (with_reducible refine (ref_datum_bad h hn t obj _ i hs2).mono ?_); rintro e w' ⟨rfl, rfl⟩)
      go_ret
      exact ⟨rfl, fin.out⟩
  | ok n =>
    obtain ⟨k, rfl, hk⟩ := hv.objN hs2
    by_cases hi : 0 ≤ i ∧ i < (A.O.getD k default).data.length
    · have e : A.write t obj i v = ({ A with O := A.O.set k { A.O.getD k default with data := (A.O.getD k default).data.set i.toNat v } }, 0, 0) := by
        simp only [AG.write, hs2]; rw [obj_succ, if_pos hi]; simp only [AG.setO]; rw [show ((k : Int) + 1).toNat - 1 = k by omega]
      rw [e]
      obtain ⟨ob, oc, c2, hoc, ck0, ck1⟩ := h.objAt hk
      obtain ⟨ao, cap, e2, hc, hel⟩ := Sl.elem (h (.dt k) hk)
      obtain ⟨b, rfl, hb, hf, hcell⟩ := hel i.toNat (by omega)
      have fin2 := Lib.hid (h.setDat ha k i.toNat v hk hb)
      rw [e2] at ck1
      have H := Lib.hid (And.intro hk (And.intro hs.objs hi))
      have i0 := hi.1
      have i1 := hi.2
      have hk' : (k : Int) < A.O.length := by omega
      have hk0 : (0 : Int) ≤ (k : Int) := by omega
      clear hel e2 hb e hi hk
      generalize (A.O.getD k default).data.getD i.toNat 0 = y at hcell
      go_enter Try.func36, Try.ntmps36
      go_wp2_with (go_at_call 67; (with_reducible refine (ref_datum_ok h t obj k i hs2 H.out.1 H.out.2.1 H.out.2.2).mono ?_); rintro e w' ⟨rfl, rfl⟩)
      go_ret
      exact ⟨rfl, fin2.out⟩
    · have e : A.write t obj i v = (A, 0, 2) := by simp only [AG.write, hs2]; rw [obj_succ, if_neg hi]
      rw [e]
      have H := Lib.hid (And.intro hk (And.intro hs.objs hi))
      clear e hi hk
      go_enter Try.func36, Try.ntmps36
      go_wp2_with (go_at_call 67; (with_reducible refine (ref_datum_arg h t obj k i hs2 H.out.1 H.out.2.1 H.out.2.2).mono ?_); rintro e w' ⟨rfl, rfl⟩)
      go_ret
      exact ⟨rfl, fin.out⟩

end Go.Proofs.Ytnhombeagbhccaa
