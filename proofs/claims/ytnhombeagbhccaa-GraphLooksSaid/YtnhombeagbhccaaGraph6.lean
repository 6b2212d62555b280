/- Package graph, program side: Store, Read, Write, Get, Put, Push, Pop. -/
import Derived.Test.YtnhombeagbhccaaGraph5
namespace Go.Proofs.Ytnhombeagbhccaa
open Go.RowKit

variable {w w' : World} {g : Nat} {L : PG} {A : AG}

theorem Goes.setRef (h : GAt w g L A) (ha : L.Apart g A) {n : Int} (hn : n.toNat - 1 < A.O.length) (i : Nat) (x : Int) {b : Nat} (hb : slB (L.rv (n.toNat - 1)) ((A.obj n).refs.map I) = some b) :
    Goes w (w.setCell ⟨b, i, none⟩ (I x)) g L A (A.setO n { A.obj n with refs := (A.obj n).refs.set i x }) :=
  ⟨L, h.setRef ha _ i x hn hb, ha.congr (own_setRef _ i x) (ok_congr rfl (by simp [AG.setO])), fun b hb => .inl ((foot_congr (own_setRef _ i x) (ok_congr rfl (by simp [AG.setO])) b).2 hb),
    (Fr.refl _ _).set _ _ ⟨.rf (n.toNat - 1), hn, hb⟩⟩

theorem Goes.setDat (h : GAt w g L A) (ha : L.Apart g A) {n : Int} (hn : n.toNat - 1 < A.O.length) (i : Nat) (x : Int) {b : Nat} (hb : slB (L.dv (n.toNat - 1)) ((A.obj n).data.map U) = some b) :
    Goes w (w.setCell ⟨b, i, none⟩ (U x)) g L A (A.setO n { A.obj n with data := (A.obj n).data.set i x }) :=
  ⟨L, h.setDat ha _ i x hn hb, ha.congr (own_setDat _ i x) (ok_congr rfl (by simp [AG.setO])), fun b hb => .inl ((foot_congr (own_setDat _ i x) (ok_congr rfl (by simp [AG.setO])) b).2 hb),
    (Fr.refl _ _).set _ _ ⟨.dt (n.toNat - 1), hn, hb⟩⟩

theorem Goes.setG (h : GAt w g L A) (ha : L.Apart g A) (i : Nat) (x : Int) {b : Nat} (hb : slB L.gs (A.G.map I) = some b) :
    Goes w (w.setCell ⟨b, i, none⟩ (I x)) g L A { A with G := A.G.set i x } :=
  ⟨L, h.setG ha i x hb, ha.congr (own_setG i x) (ok_congr rfl rfl), fun b hb => .inl ((foot_congr (own_setG i x) (ok_congr rfl rfl) b).2 hb),
    (Fr.refl _ _).set _ _ ⟨.G, trivial, hb⟩⟩

theorem graph_Store (h : GAt w g L A) (ha : L.Apart g A) (hv : A.Valid) (t o i val : Int) :
    Calls Try.prog 19 #[Pt g, I t, I o, I i, I val] w fun e w' => e = .returned (I (A.store t o i val).2.2) ∧ Goes w w' g L A (A.store t o i val).1 := by
  have h0 := h.new (.cells #[I 0] 25)
  have fin0 := fun c => (Goes.refl h0 ha).setCell h (I c)
  cases hs : A.slotE t val with
  | error c =>
    have e : A.store t o i val = (A, 0, c) := by simp [AG.store, hs]
    rw [e]
    have fin := Lib.hid (fin0 c)
    clear fin0
    go_enter_defers Try.func19, Try.ntmps19
    go_wp2_with (go_at_call 57; (with_reducible refine (graph_slot_bad h0 t val c hs).mono ?_); rintro e w' ⟨rfl, rfl⟩)
    exact door_thrown w.heap.size c 0 (heap_alloc_new _ _) ⟨_, by simp [results, Try.results19, go_sem], rfl, fin.out⟩
  | ok x =>
    cases hs2 : A.objE t o with
    | error c =>
      have e : A.store t o i val = (A, 0, c) := by simp [AG.store, hs, hs2]
      rw [e]
      have fin := Lib.hid (fin0 c)
      clear fin0
      go_enter_defers Try.func19, Try.ntmps19
      go_wp2_with (first
        | (go_at_call 57; (with_reducible refine (graph_slot_ok h0 t val x hs).mono ?_); rintro e w' ⟨rfl, rfl⟩)
        | (go_at_call 60; (with_reducible refine (graph_object_bad h0 t o c hs2).mono ?_); rintro e w' ⟨rfl, rfl⟩))
      exact door_thrown w.heap.size c 0 (heap_alloc_new _ _) ⟨_, by simp [results, Try.results19, go_sem], rfl, fin.out⟩
    | ok n =>
      obtain ⟨hn1, hn2⟩ := hv.obj hs2
      obtain ⟨ao, cap, k0, hcap, hb⟩ := h0.refsAt hn1 hn2
      by_cases hi0 : 0 ≤ i
      · by_cases hi1 : i < ((A.obj n).refs.length : Int)
        · have e : A.store t o i val = (A.setO n { A.obj n with refs := (A.obj n).refs.set i.toNat x }, 0, 0) := by simp [AG.store, hs, hs2, hi0, hi1]
          rw [e]
          obtain ⟨b, rfl, hsb, hfz, hcell⟩ := hb (ne_nil_of_lt hi0 hi1)
          have k1 := hcell i.toNat (by omega)
          have z1 := hfz i.toNat
          have q1 : decide (i < ((A.obj n).refs.length : Int)) = true := by simpa using hi1
          have gg := Goes.setRef h0 ha (n := n) (by omega) i.toNat x hsb
          obtain ⟨L', g1, g2, g3, g4⟩ := id gg
          have e2 := err_kept h ((Fr.refl (L.foot g A) _).set ⟨b, i.toNat, none⟩ (I x) ⟨.rf (n.toNat - 1), show n.toNat - 1 < A.O.length by omega, hsb⟩) (fun _ x => x)
          have k2 : ((w.alloc (.cells #[I 0] 25)).setCell ⟨b, i.toNat, none⟩ (I x)).cell? ⟨w.heap.size, 0, none⟩ = some (I 0) := cell_blk (i := 0) e2 rfl
          have z2 := free_blk (i := 0) e2
          have GG := Lib.hid (And.intro (gg.setCell h (I 0)) (And.intro e (And.intro e2 hfz)))
          clear gg g1 g2 g3 g4 e fin0 hcell hb hfz e2
          generalize (A.obj n).refs.getD i.toNat 0 = y at k1
          go_enter_defers Try.func19, Try.ntmps19
          go_wp2_with (first
            | (go_at_call 57; (with_reducible refine (graph_slot_ok h0 t val x hs).mono ?_); rintro e w' ⟨rfl, rfl⟩)
            | (go_at_call 60; (with_reducible refine (graph_object_ok h0 t o n hs2 hn1 hn2).mono ?_); rintro e w' ⟨rfl, rfl⟩)
            | (go_at_call 58; (with_reducible refine (ask_yes _ _).mono ?_); rintro e w' ⟨rfl, rfl⟩))
          exact door_idle w.heap.size _ (.inr rfl) ⟨_, by simp [results, Try.results19, go_sem, k2], rfl, GG.out.1⟩
        · have e : A.store t o i val = (A, 0, 2) := by simp [AG.store, hs, hs2, hi1]
          rw [e]
          have fin := Lib.hid (fin0 2)
          have q1 : decide (i < ((A.obj n).refs.length : Int)) = false := by simpa using hi1
          clear fin0 hb
          go_enter_defers Try.func19, Try.ntmps19
          go_wp2_with (first
            | (go_at_call 57; (with_reducible refine (graph_slot_ok h0 t val x hs).mono ?_); rintro e w' ⟨rfl, rfl⟩)
            | (go_at_call 60; (with_reducible refine (graph_object_ok h0 t o n hs2 hn1 hn2).mono ?_); rintro e w' ⟨rfl, rfl⟩)
            | (go_at_call 58; (with_reducible refine (ask_no _ _).mono ?_); rintro e w' ⟨rfl, rfl⟩))
          exact door_thrown w.heap.size 2 0 (heap_alloc_new _ _) ⟨_, by simp [results, Try.results19, go_sem], rfl, fin.out⟩
      · have e : A.store t o i val = (A, 0, 2) := by simp [AG.store, hs, hs2, hi0]
        rw [e]
        have fin := Lib.hid (fin0 2)
        clear fin0 hb
        go_enter_defers Try.func19, Try.ntmps19
        go_wp2_with (first
          | (go_at_call 57; (with_reducible refine (graph_slot_ok h0 t val x hs).mono ?_); rintro e w' ⟨rfl, rfl⟩)
          | (go_at_call 60; (with_reducible refine (graph_object_ok h0 t o n hs2 hn1 hn2).mono ?_); rintro e w' ⟨rfl, rfl⟩)
          | (go_at_call 58; (with_reducible refine (ask_no _ _).mono ?_); rintro e w' ⟨rfl, rfl⟩))
        exact door_thrown w.heap.size 2 0 (heap_alloc_new _ _) ⟨_, by simp [results, Try.results19, go_sem], rfl, fin.out⟩

theorem graph_datum_ok (h : GAt w g L A) (hv : A.Valid) (t o i n : Int) (hs2 : A.objE t o = .ok n) (hi0 : 0 ≤ i) (hi1 : i < ((A.obj n).data.length : Int)) :
    ∃ b, slB (L.dv (n.toNat - 1)) ((A.obj n).data.map U) = some b ∧ (∀ j, w.frozen? ⟨b, j, none⟩ = false) ∧ w.cell? ⟨b, i.toNat, none⟩ = some (U ((A.obj n).data.getD i.toNat 0)) ∧
      Calls Try.prog 61 #[Pt g, I t, I o, I i] w fun e w' => e = .returned (.pointer (some ⟨b, i.toNat, none⟩)) ∧ w = w' := by
  obtain ⟨hn1, hn2⟩ := hv.obj hs2
  obtain ⟨ao, cap, k0, hcap, hb⟩ := h.dataAt hn1 hn2
  obtain ⟨b, rfl, hsb, hfz, hcell⟩ := hb (ne_nil_of_lt hi0 hi1)
  refine ⟨b, hsb, hfz, hcell _ (by omega), ?_⟩
  have q1 : decide (i < ((A.obj n).data.length : Int)) = true := by simpa using hi1
  clear hb hsb hfz hcell
  go_enter Try.func61, Try.ntmps61
  go_wp2_with (first
    | (go_at_call 60; (with_reducible refine (graph_object_ok h t o n hs2 hn1 hn2).mono ?_); rintro e w' ⟨rfl, rfl⟩)
    | (go_at_call 58; (with_reducible refine (ask_yes _ _).mono ?_); rintro e w' ⟨rfl, rfl⟩))
  go_ret
  exact ⟨rfl, rfl⟩

theorem graph_datum_none (h : GAt w g L A) (t o i c : Int) (hs2 : A.objE t o = .error c) :
    Calls Try.prog 61 #[Pt g, I t, I o, I i] w fun e w' => e = thrown c ∧ w = w' := by
  go_enter Try.func61, Try.ntmps61
  go_wp2_with (go_at_call 60; (with_reducible refine (graph_object_bad h t o c hs2).mono ?_); rintro e w' ⟨rfl, rfl⟩)
  exact ⟨rfl, rfl, rfl⟩

theorem graph_datum_out (h : GAt w g L A) (hv : A.Valid) (t o i n : Int) (hs2 : A.objE t o = .ok n) (hi : ¬ (0 ≤ i ∧ i < ((A.obj n).data.length : Int))) :
    Calls Try.prog 61 #[Pt g, I t, I o, I i] w fun e w' => e = thrown 2 ∧ w = w' := by
  obtain ⟨hn1, hn2⟩ := hv.obj hs2
  obtain ⟨ao, cap, k0, hcap, hb⟩ := h.dataAt hn1 hn2
  clear hb
  by_cases hi0 : 0 ≤ i
  · have hi1 : ¬ (i < ((A.obj n).data.length : Int)) := fun x => hi ⟨hi0, x⟩
    have q1 : decide (i < ((A.obj n).data.length : Int)) = false := by simpa using hi1
    clear hi
    go_enter Try.func61, Try.ntmps61
    go_wp2_with (first
      | (go_at_call 60; (with_reducible refine (graph_object_ok h t o n hs2 hn1 hn2).mono ?_); rintro e w' ⟨rfl, rfl⟩)
      | (go_at_call 58; (with_reducible refine (ask_no _ _).mono ?_); rintro e w' ⟨rfl, rfl⟩))
    exact ⟨rfl, rfl, rfl⟩
  · clear hi
    go_enter Try.func61, Try.ntmps61
    go_wp2_with (first
      | (go_at_call 60; (with_reducible refine (graph_object_ok h t o n hs2 hn1 hn2).mono ?_); rintro e w' ⟨rfl, rfl⟩)
      | (go_at_call 58; (with_reducible refine (ask_no _ _).mono ?_); rintro e w' ⟨rfl, rfl⟩))
    exact ⟨rfl, rfl, rfl⟩

theorem graph_Read (h : GAt w g L A) (ha : L.Apart g A) (hv : A.Valid) (t o i : Int) :
    Calls Try.prog 24 #[Pt g, I t, I o, I i] w fun e w' => e = .returned (.tuple #[U (A.read t o i).2.1, I (A.read t o i).2.2]) ∧ Goes w w' g L A (A.read t o i).1 := by
  have h0 := h.new (.cells #[I 0] 25)
  have fin0 := fun c => (Goes.refl h0 ha).setCell h (I c)
  have fin1 := Lib.hid (Goes.refl h0 ha).drop
  cases hs2 : A.objE t o with
  | error c =>
    have e : A.read t o i = (A, 0, c) := by simp [AG.read, hs2]
    rw [e]
    have fin := Lib.hid (fin0 c)
    clear fin0
    go_enter_defers Try.func24, Try.ntmps24
    go_wp2_with (go_at_call 61; (with_reducible refine (graph_datum_none h0 t o i c hs2).mono ?_); rintro e w' ⟨rfl, rfl⟩)
    exact door_thrown w.heap.size c 0 (heap_alloc_new _ _) ⟨_, by simp [results, Try.results24, go_sem], rfl, fin.out⟩
  | ok n =>
    by_cases hi : 0 ≤ i ∧ i < ((A.obj n).data.length : Int)
    · have e : A.read t o i = (A, (A.obj n).data.getD i.toNat 0, 0) := by simp only [AG.read, hs2]; rw [if_pos hi]
      rw [e]
      obtain ⟨b, hsb, hfz, k1, hcall⟩ := graph_datum_ok h0 hv t o i n hs2 hi.1 hi.2
      generalize (A.obj n).data.getD i.toNat 0 = y at k1 ⊢
      have C := Lib.hid hcall
      clear hcall fin0 e hsb hfz
      go_enter_defers Try.func24, Try.ntmps24
      go_wp2_with (go_at_call 61; (with_reducible refine C.out.mono ?_); rintro e w' ⟨rfl, rfl⟩)
      exact door_idle w.heap.size _ (.inr rfl) ⟨_, by simp [results, Try.results24, go_sem], rfl, fin1.out⟩
    · have e : A.read t o i = (A, 0, 2) := by simp only [AG.read, hs2]; rw [if_neg hi]
      rw [e]
      have fin := Lib.hid (fin0 2)
      clear fin0 e
      go_enter_defers Try.func24, Try.ntmps24
      go_wp2_with (go_at_call 61; (with_reducible refine (graph_datum_out h0 hv t o i n hs2 hi).mono ?_); rintro e w' ⟨rfl, rfl⟩)
      exact door_thrown w.heap.size 2 0 (heap_alloc_new _ _) ⟨_, by simp [results, Try.results24, go_sem], rfl, fin.out⟩

theorem graph_Write (h : GAt w g L A) (ha : L.Apart g A) (hv : A.Valid) (t o i v : Int) :
    Calls Try.prog 25 #[Pt g, I t, I o, I i, U v] w fun e w' => e = .returned (I (A.write t o i v).2.2) ∧ Goes w w' g L A (A.write t o i v).1 := by
  have h0 := h.new (.cells #[I 0] 25)
  have fin0 := fun c => (Goes.refl h0 ha).setCell h (I c)
  cases hs2 : A.objE t o with
  | error c =>
    have e : A.write t o i v = (A, 0, c) := by simp [AG.write, hs2]
    rw [e]
    have fin := Lib.hid (fin0 c)
    clear fin0
    go_enter_defers Try.func25, Try.ntmps25
    go_wp2_with (go_at_call 61; (with_reducible refine (graph_datum_none h0 t o i c hs2).mono ?_); rintro e w' ⟨rfl, rfl⟩)
    exact door_thrown w.heap.size c 0 (heap_alloc_new _ _) ⟨_, by simp [results, Try.results25, go_sem], rfl, fin.out⟩
  | ok n =>
    by_cases hi : 0 ≤ i ∧ i < ((A.obj n).data.length : Int)
    · have e : A.write t o i v = (A.setO n { A.obj n with data := (A.obj n).data.set i.toNat v }, 0, 0) := by simp only [AG.write, hs2]; rw [if_pos hi]
      rw [e]
      obtain ⟨hn1, hn2⟩ := hv.obj hs2
      obtain ⟨b, hsb, hfz, k1, hcall⟩ := graph_datum_ok h0 hv t o i n hs2 hi.1 hi.2
      have z1 := hfz i.toNat
      have gg := Goes.setDat h0 ha (n := n) (by omega) i.toNat v hsb
      have e2 := err_kept h ((Fr.refl (L.foot g A) _).set ⟨b, i.toNat, none⟩ (U v) ⟨.dt (n.toNat - 1), show n.toNat - 1 < A.O.length by omega, hsb⟩) (fun _ x => x)
      have k2 : ((w.alloc (.cells #[I 0] 25)).setCell ⟨b, i.toNat, none⟩ (U v)).cell? ⟨w.heap.size, 0, none⟩ = some (I 0) := cell_blk (i := 0) e2 rfl
      have z2 := free_blk (i := 0) e2
      have GG := Lib.hid (And.intro (gg.setCell h (I 0)) (And.intro e (And.intro e2 hfz)))
      have C := Lib.hid hcall
      clear gg e fin0 hfz e2 hcall hsb
      generalize (A.obj n).data.getD i.toNat 0 = y at k1
      go_enter_defers Try.func25, Try.ntmps25
      go_wp2_with (go_at_call 61; (with_reducible refine C.out.mono ?_); rintro e w' ⟨rfl, rfl⟩)
      exact door_idle w.heap.size _ (.inr rfl) ⟨_, by simp [results, Try.results25, go_sem, k2], rfl, GG.out.1⟩
    · have e : A.write t o i v = (A, 0, 2) := by simp only [AG.write, hs2]; rw [if_neg hi]
      rw [e]
      have fin := Lib.hid (fin0 2)
      clear fin0 e
      go_enter_defers Try.func25, Try.ntmps25
      go_wp2_with (go_at_call 61; (with_reducible refine (graph_datum_out h0 hv t o i n hs2 hi).mono ?_); rintro e w' ⟨rfl, rfl⟩)
      exact door_thrown w.heap.size 2 0 (heap_alloc_new _ _) ⟨_, by simp [results, Try.results25, go_sem], rfl, fin.out⟩

theorem GAt.globAt (h : GAt w g L A) {i : Nat} (hi : i < A.G.length) : ∃ b, slB L.gs (A.G.map I) = some b ∧ (∀ j, w.frozen? ⟨b, j, none⟩ = false) ∧ w.cell? ⟨b, i, none⟩ = some (I (A.G.getD i 0)) := by
  obtain ⟨ao, cap, e, hc, hb⟩ := h.hG.shapeM
  obtain ⟨b, _, h2, h3, h4⟩ := hb (by intro e; simp [e] at hi)
  exact ⟨b, h2, h3, h4 i hi⟩

theorem graph_Get (h : GAt w g L A) (ha : L.Apart g A) (hv : A.Valid) (t dst i : Int) :
    Calls Try.prog 26 #[Pt g, I t, I dst, I i] w fun e w' => e = .returned (.tuple #[I (A.get t dst i).2.1, I (A.get t dst i).2.2]) ∧ Goes w w' g L A (A.get t dst i).1 := by
  have h0 := h.new (.cells #[I 0] 25)
  have fin0 := fun c => (Goes.refl h0 ha).setCell h (I c)
  cases hs : A.slotE t dst with
  | error c =>
    have e : A.get t dst i = (A, 0, c) := by simp [AG.get, hs]
    rw [e]
    have fin := Lib.hid (fin0 c)
    clear fin0
    go_enter_defers Try.func26, Try.ntmps26
    go_wp2_with (go_at_call 57; (with_reducible refine (graph_slot_bad h0 t dst c hs).mono ?_); rintro e w' ⟨rfl, rfl⟩)
    exact door_thrown w.heap.size c 0 (heap_alloc_new _ _) ⟨_, by simp [results, Try.results26, go_sem], rfl, fin.out⟩
  | ok x =>
    by_cases hi : A.okG i
    · have e : A.get t dst i = (A.setS t dst (A.G.getD i.toNat 0), A.G.getD i.toNat 0, 0) := by simp only [AG.get, hs]; rw [if_pos hi]
      rw [e]
      obtain ⟨b, hb, hcall⟩ := graph_global_ok h0 i hi
      obtain ⟨b', hb', hfz, k1⟩ := h0.globAt (i := i.toNat) (by unfold AG.okG at hi; omega)
      obtain rfl : b = b' := by rw [hb] at hb'; injection hb'
      have hy := hv.glob _ (mem_getD0 (l := A.G) (i := i.toNat) (by unfold AG.okG at hi; omega))
      obtain ⟨ht, hi2, hx⟩ := slotE_ok hs
      have C := Lib.hid (And.intro hcall (And.intro hx (And.intro e hb)))
      clear hcall hx e hb hb' hfz fin0
      generalize A.G.getD i.toNat 0 = y at k1 hy ⊢
      go_enter_defers Try.func26, Try.ntmps26
      go_wp2_with (first
        | (go_at_call 57; (with_reducible refine (graph_slot_ok h0 t dst x hs).mono ?_); rintro e w' ⟨rfl, rfl⟩)
        | (go_at_call 62; (with_reducible refine C.out.1.mono ?_); rintro e w' ⟨rfl, rfl⟩)
        | (go_at_call 59; (with_reducible refine (graph_set h0 t dst y ht hi2 hy.1).mono ?_); rintro e w2 ⟨rfl, h2, h3⟩; have e2 := err_kept h h3 (foot_r t ht); have k2 := cell_blk (i := 0) (v := I 0) e2 rfl; have z2 := free_blk (i := 0) e2))
      exact door_idle w.heap.size _ (.inr rfl) ⟨_, by simp [results, Try.results26, go_sem, k2], rfl, (Goes.setT h0 ha ht h2 h3).setCell h _⟩
    · have e : A.get t dst i = (A, 0, 2) := by simp only [AG.get, hs]; rw [if_neg hi]
      rw [e]
      have fin := Lib.hid (fin0 2)
      clear fin0 e
      go_enter_defers Try.func26, Try.ntmps26
      go_wp2_with (first
        | (go_at_call 57; (with_reducible refine (graph_slot_ok h0 t dst x hs).mono ?_); rintro e w' ⟨rfl, rfl⟩)
        | (go_at_call 62; (with_reducible refine (graph_global_bad h0 i hi).mono ?_); rintro e w' ⟨rfl, rfl⟩))
      exact door_thrown w.heap.size 2 0 (heap_alloc_new _ _) ⟨_, by simp [results, Try.results26, go_sem], rfl, fin.out⟩

theorem graph_Put (h : GAt w g L A) (ha : L.Apart g A) (t i val : Int) :
    Calls Try.prog 27 #[Pt g, I t, I i, I val] w fun e w' => e = .returned (I (A.putG t i val).2.2) ∧ Goes w w' g L A (A.putG t i val).1 := by
  have h0 := h.new (.cells #[I 0] 25)
  have fin0 := fun c => (Goes.refl h0 ha).setCell h (I c)
  cases hs : A.slotE t val with
  | error c =>
    have e : A.putG t i val = (A, 0, c) := by simp [AG.putG, hs]
    rw [e]
    have fin := Lib.hid (fin0 c)
    clear fin0
    go_enter_defers Try.func27, Try.ntmps27
    go_wp2_with (go_at_call 57; (with_reducible refine (graph_slot_bad h0 t val c hs).mono ?_); rintro e w' ⟨rfl, rfl⟩)
    exact door_thrown w.heap.size c 0 (heap_alloc_new _ _) ⟨_, by simp [results, Try.results27, go_sem], rfl, fin.out⟩
  | ok x =>
    by_cases hi : A.okG i
    · have e : A.putG t i val = ({ A with G := A.G.set i.toNat x }, 0, 0) := by simp only [AG.putG, hs]; rw [if_pos hi]
      rw [e]
      obtain ⟨b, hb, hcall⟩ := graph_global_ok h0 i hi
      obtain ⟨b', hb', hfz, k1⟩ := h0.globAt (i := i.toNat) (by unfold AG.okG at hi; omega)
      obtain rfl : b = b' := by rw [hb] at hb'; injection hb'
      have z1 := hfz i.toNat
      have gg := Goes.setG h0 ha i.toNat x hb
      have e2 := err_kept h ((Fr.refl (L.foot g A) _).set ⟨b, i.toNat, none⟩ (I x) ⟨.G, trivial, hb⟩) (fun _ x => x)
      have k2 : ((w.alloc (.cells #[I 0] 25)).setCell ⟨b, i.toNat, none⟩ (I x)).cell? ⟨w.heap.size, 0, none⟩ = some (I 0) := cell_blk (i := 0) e2 rfl
      have z2 := free_blk (i := 0) e2
      have GG := Lib.hid (And.intro (gg.setCell h (I 0)) (And.intro e (And.intro e2 (And.intro hfz (And.intro hb (And.intro hb' hcall))))))
      clear gg e fin0 hfz e2 hcall hb hb'
      generalize A.G.getD i.toNat 0 = y at k1
      go_enter_defers Try.func27, Try.ntmps27
      go_wp2_with (first
        | (go_at_call 57; (with_reducible refine (graph_slot_ok h0 t val x hs).mono ?_); rintro e w' ⟨rfl, rfl⟩)
        | (go_at_call 62; (with_reducible refine GG.out.2.2.2.2.2.2.mono ?_); rintro e w' ⟨rfl, rfl⟩))
      exact door_idle w.heap.size _ (.inr rfl) ⟨_, by simp [results, Try.results27, go_sem, k2], rfl, GG.out.1⟩
    · have e : A.putG t i val = (A, 0, 2) := by simp only [AG.putG, hs]; rw [if_neg hi]
      rw [e]
      have fin := Lib.hid (fin0 2)
      clear fin0 e
      go_enter_defers Try.func27, Try.ntmps27
      go_wp2_with (first
        | (go_at_call 57; (with_reducible refine (graph_slot_ok h0 t val x hs).mono ?_); rintro e w' ⟨rfl, rfl⟩)
        | (go_at_call 62; (with_reducible refine (graph_global_bad h0 i hi).mono ?_); rintro e w' ⟨rfl, rfl⟩))
      exact door_thrown w.heap.size 2 0 (heap_alloc_new _ _) ⟨_, by simp [results, Try.results27, go_sem], rfl, fin.out⟩

theorem graph_Push (h : GAt w g L A) (ha : L.Apart g A) (t i : Int) :
    Calls Try.prog 29 #[Pt g, I t, I i] w fun e w' => e = .returned (I (A.push t i).2.2) ∧ Goes w w' g L A (A.push t i).1 := by
  have h0 := h.new (.cells #[I 0] 25)
  have fin0 := fun c => (Goes.refl h0 ha).setCell h (I c)
  by_cases ht : A.okT t
  · have e : A.push t i = (A.setT t ((A.thr t).pushR i).1, 0, ((A.thr t).pushR i).2) := by simp [AG.push, ht]
    rw [e]
    have hR : RootsAt (w.alloc (.cells #[I 0] 25)) (L.r t.toNat) (A.thr t) := h0.hr t.toNat (by unfold AG.okT at ht; omega)
    have c := roots_push _ _ _ i hR
    clear fin0 e hR
    generalize hp : (A.thr t).pushR i = pr at c ⊢
    obtain ⟨R', e'⟩ := pr
    have C := Lib.hid (And.intro c hp)
    clear c hp
    go_enter_defers Try.func29, Try.ntmps29
    go_wp2_with (first
      | (go_at_call 63; (with_reducible refine (graph_roots_ok h0 t ht).mono ?_); rintro e w' ⟨rfl, rfl⟩)
      | (go_at_call 52; (with_reducible refine C.out.1.mono ?_); rintro e w2 ⟨rfl, h2, h3⟩; have e2 := err_kept h h3 (foot_r t ht); have k2 := cell_blk (i := 0) (v := I 0) e2 rfl; have z2 := free_blk (i := 0) e2))
    exact door_idle w.heap.size _ (.inr rfl) ⟨_, by simp [results, Try.results29, go_sem, k2], rfl, (Goes.setT h0 ha ht h2 h3).setCell h _⟩
  · have e : A.push t i = (A, 0, 2) := by simp [AG.push, ht]
    rw [e]
    have fin := Lib.hid (fin0 2)
    clear fin0 e
    go_enter_defers Try.func29, Try.ntmps29
    go_wp2_with (go_at_call 63; (with_reducible refine (graph_roots_bad h0 t ht).mono ?_); rintro e w' ⟨rfl, rfl⟩)
    exact door_thrown w.heap.size 2 0 (heap_alloc_new _ _) ⟨_, by simp [results, Try.results29, go_sem], rfl, fin.out⟩

theorem graph_Pop (h : GAt w g L A) (ha : L.Apart g A) (t i : Int) :
    Calls Try.prog 30 #[Pt g, I t, I i] w fun e w' => e = .returned (I (A.pop t i).2.2) ∧ Goes w w' g L A (A.pop t i).1 := by
  have h0 := h.new (.cells #[I 0] 25)
  have fin0 := fun c => (Goes.refl h0 ha).setCell h (I c)
  by_cases ht : A.okT t
  · have e : A.pop t i = (A.setT t ((A.thr t).popR i).1, 0, ((A.thr t).popR i).2) := by simp [AG.pop, ht]
    rw [e]
    have hR : RootsAt (w.alloc (.cells #[I 0] 25)) (L.r t.toNat) (A.thr t) := h0.hr t.toNat (by unfold AG.okT at ht; omega)
    have c := roots_pop _ _ _ i hR
    clear fin0 e hR
    generalize hp : (A.thr t).popR i = pr at c ⊢
    obtain ⟨R', e'⟩ := pr
    have C := Lib.hid (And.intro c hp)
    clear c hp
    go_enter_defers Try.func30, Try.ntmps30
    go_wp2_with (first
      | (go_at_call 63; (with_reducible refine (graph_roots_ok h0 t ht).mono ?_); rintro e w' ⟨rfl, rfl⟩)
      | (go_at_call 64; (with_reducible refine C.out.1.mono ?_); rintro e w2 ⟨rfl, h2, h3⟩; have e2 := err_kept h h3 (foot_r t ht); have k2 := cell_blk (i := 0) (v := I 0) e2 rfl; have z2 := free_blk (i := 0) e2))
    exact door_idle w.heap.size _ (.inr rfl) ⟨_, by simp [results, Try.results30, go_sem, k2], rfl, (Goes.setT h0 ha ht h2 h3).setCell h _⟩
  · have e : A.pop t i = (A, 0, 2) := by simp [AG.pop, ht]
    rw [e]
    have fin := Lib.hid (fin0 2)
    clear fin0 e
    go_enter_defers Try.func30, Try.ntmps30
    go_wp2_with (go_at_call 63; (with_reducible refine (graph_roots_bad h0 t ht).mono ?_); rintro e w' ⟨rfl, rfl⟩)
    exact door_thrown w.heap.size 2 0 (heap_alloc_new _ _) ⟨_, by simp [results, Try.results30, go_sem], rfl, fin.out⟩

end Go.Proofs.Ytnhombeagbhccaa
