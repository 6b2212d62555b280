/- Package graph, program side: its methods, but for Alloc, Reach, Clone and what is looked at. -/
import Derived.Test.YtnhombeagbhccaaGraph4
namespace Go.Proofs.Ytnhombeagbhccaa
open Go.RowKit

variable {w w' : World} {g : Nat} {L : PG} {A : AG}

theorem slotE_ok {t i x : Int} (h : A.slotE t i = .ok x) : A.okT t ∧ (A.thr t).ok i ∧ x = (A.thr t).get i := by
  unfold AG.slotE at h
  split at h
  · split at h
    · injection h with h; exact ⟨‹_›, ‹_›, h.symm⟩
    · cases h
  · cases h

theorem mem_getD {α : Type} [Inhabited α] {l : List α} {i : Nat} (h : i < l.length) : l.getD i default ∈ l := by
  simp [List.getD, h]
theorem mem_getD0 {l : List Int} {i : Nat} (h : i < l.length) : l.getD i 0 ∈ l := by
  simp [List.getD, h]

theorem AG.Valid.slot (hv : A.Valid) {t i x : Int} (h : A.slotE t i = .ok x) : 0 ≤ x ∧ x ≤ A.O.length := by
  obtain ⟨⟨h1, h2⟩, ⟨h3, h4⟩, rfl⟩ := slotE_ok h
  have m1 : A.thr t ∈ A.T := mem_getD (l := A.T) (i := t.toNat) (by omega)
  exact hv.slots _ m1 _ (mem_getD0 (l := (A.thr t).slots) (i := i.toNat) (by omega))

theorem objE_ok {t i n : Int} (h : A.objE t i = .ok n) : A.slotE t i = .ok n ∧ n ≠ 0 := by
  unfold AG.objE at h
  split at h
  · split at h
    · cases h
    · injection h with h; subst h; exact ⟨‹_›, ‹_›⟩
  · cases h

theorem AG.Valid.obj (hv : A.Valid) {t i n : Int} (h : A.objE t i = .ok n) : 1 ≤ n ∧ n ≤ A.O.length := by
  have := hv.slot (objE_ok h).1
  have := (objE_ok h).2
  omega

/-- From a graph to a graph: the new one lies where the old one lay, and in new blocks; nothing else that was there turns. -/
def Goes (w w' : World) (g : Nat) (L : PG) (A A' : AG) : Prop :=
  ∃ L', GAt w' g L' A' ∧ L'.Apart g A' ∧ (∀ b, L'.foot g A' b → L.foot g A b ∨ w.heap.size ≤ b) ∧ Fr (L.foot g A) w w'

theorem Goes.refl (h : GAt w g L A) (ha : L.Apart g A) : Goes w w g L A A := ⟨L, h, ha, fun _ x => .inl x, Fr.refl _ _⟩

theorem Goes.setT (h : GAt w g L A) (ha : L.Apart g A) {t : Int} (ht : A.okT t) {R : AR} (hR : RootsAt w' (L.r t.toNat) R) (hf : Fr (· = L.r t.toNat) w w') : Goes w w' g L A (A.setT t R) := by
  have hl : t.toNat < A.T.length := by unfold AG.okT at ht; omega
  refine ⟨L, h.setT ha t ht hR hf, ha.congr (own_setT t R) (ok_setT t R), fun b x => .inl ((foot_congr (own_setT t R) (ok_setT t R) b).2 x), hf.mono (fun i _ e => ?_)⟩
  subst e; exact ⟨.r t.toNat, hl, rfl⟩

theorem Goes.setCell {w2 : World} {A' : AG} (h : GAt w g L A) (hg : Goes (w.alloc (.cells #[I 0] 25)) w2 g L A A') (v : Value) : Goes w (w2.setCell ⟨w.heap.size, 0, none⟩ v) g L A A' := by
  obtain ⟨L', h1, h2, h3, h4⟩ := hg
  have nf : ∀ b, L'.foot g A' b → ¬ b = w.heap.size := by
    rintro b hb rfl
    rcases h3 _ hb with h | h'
    · exact absurd (GAt.lt ‹_› _ h) (by omega)
    · simp at h'; omega
  refine ⟨L', h1.kept (F := (· = w.heap.size)) ((Fr.refl _ _).set _ _ rfl) nf, h2, fun b hb => ?_, ?_⟩
  · rcases h3 b hb with h | h
    · exact .inl h
    · exact .inr (by simp at h; omega)
  · have h5 : Fr (L.foot g A) w w2 := ((Fr.refl _ w).alloc _).trans' h4 (fun _ _ x => x) (fun _ _ x => x)
    exact h5.setCell _ _ (fun e => by simp at e)

theorem Goes.drop {w2 : World} {A' : AG} (hg : Goes (w.alloc (.cells #[I 0] 25)) w2 g L A A') : Goes w w2 g L A A' := by
  obtain ⟨L', h1, h2, h3, h4⟩ := hg
  refine ⟨L', h1, h2, fun b hb => ?_, ((Fr.refl _ w).alloc _).trans' h4 (fun _ _ x => x) (fun _ _ x => x)⟩
  rcases h3 b hb with h | h
  · exact .inl h
  · exact .inr (by simp at h; omega)

/-- The error's cell is still there behind a part that turns one old block. -/
theorem err_kept {w2 : World} {F : Nat → Prop} (h : GAt w g L A) (hf : Fr F (w.alloc (.cells #[I 0] 25)) w2) (hF : ∀ b, F b → L.foot g A b) : w2.heap[w.heap.size]? = some (.cells #[I 0] 25 (0, 0)) :=
  hf.blk (heap_alloc_new w _) (fun x => absurd (h.lt _ (hF _ x)) (by omega))

theorem foot_r (t : Int) (ht : A.okT t) : ∀ b, b = L.r t.toNat → L.foot g A b := by
  rintro b rfl; exact ⟨.r t.toNat, show t.toNat < A.T.length by unfold AG.okT at ht; omega, rfl⟩

theorem graph_Clear (h : GAt w g L A) (ha : L.Apart g A) (t dst : Int) :
    Calls Try.prog 20 #[Pt g, I t, I dst] w fun e w' => e = .returned (I (A.clear t dst).2.2) ∧ Goes w w' g L A (A.clear t dst).1 := by
  have h0 := h.new (.cells #[I 0] 25)
  cases hs : A.slotE t dst with
  | error c =>
    have e : A.clear t dst = (A, 0, c) := by simp [AG.clear, hs]
    rw [e]
    have fin := Lib.hid ((Goes.refl h0 ha).setCell h (I c))
    go_enter_defers Try.func20, Try.ntmps20
    go_wp2_with (go_at_call 57; (with_reducible refine (graph_slot_bad h0 t dst c hs).mono ?_); rintro e w' ⟨rfl, rfl⟩)
    exact door_thrown w.heap.size c 0 (heap_alloc_new _ _) ⟨_, by simp [results, Try.results20, go_sem], rfl, fin.out⟩
  | ok x =>
    have e : A.clear t dst = (A.setS t dst 0, 0, 0) := by simp [AG.clear, hs]
    rw [e]
    obtain ⟨ht, hi, hx⟩ := slotE_ok hs
    have HX := Lib.hid hx
    clear hx
    go_enter_defers Try.func20, Try.ntmps20
    go_wp2_with (first
      | (go_at_call 57; (with_reducible refine (graph_slot_ok h0 t dst x hs).mono ?_); rintro e w' ⟨rfl, rfl⟩)
      | (go_at_call 59; (with_reducible refine (graph_set h0 t dst 0 ht hi (by omega)).mono ?_); rintro e w2 ⟨rfl, h2, h3⟩; have e2 := err_kept h h3 (foot_r t ht); have k2 := cell_blk (i := 0) (v := I 0) e2 rfl; have z2 := free_blk (i := 0) e2))
    exact door_idle w.heap.size _ (.inr rfl) ⟨_, by simp [results, Try.results20, go_sem, k2], rfl, (Goes.setT h0 ha ht h2 h3).setCell h _⟩

theorem graph_Slot (h : GAt w g L A) (ha : L.Apart g A) (t i : Int) :
    Calls Try.prog 31 #[Pt g, I t, I i] w fun e w' => e = .returned (.tuple #[I (A.slot t i).2.1, I (A.slot t i).2.2]) ∧ Goes w w' g L A (A.slot t i).1 := by
  have h0 := h.new (.cells #[I 0] 25)
  cases hs : A.slotE t i with
  | error c =>
    have e : A.slot t i = (A, 0, c) := by simp [AG.slot, hs]
    rw [e]
    have fin := Lib.hid ((Goes.refl h0 ha).setCell h (I c))
    go_enter_defers Try.func31, Try.ntmps31
    go_wp2_with (go_at_call 57; (with_reducible refine (graph_slot_bad h0 t i c hs).mono ?_); rintro e w' ⟨rfl, rfl⟩)
    exact door_thrown w.heap.size c 0 (heap_alloc_new _ _) ⟨_, by simp [results, Try.results31, go_sem], rfl, fin.out⟩
  | ok x =>
    have e : A.slot t i = (A, x, 0) := by simp [AG.slot, hs]
    rw [e]
    have fin := Lib.hid (Goes.refl h0 ha).drop
    go_enter_defers Try.func31, Try.ntmps31
    go_wp2_with (go_at_call 57; (with_reducible refine (graph_slot_ok h0 t i x hs).mono ?_); rintro e w' ⟨rfl, rfl⟩)
    exact door_idle w.heap.size _ (.inr rfl) ⟨_, by simp [results, Try.results31, go_sem], rfl, fin.out⟩

theorem graph_Move (h : GAt w g L A) (ha : L.Apart g A) (hv : A.Valid) (t dst src : Int) :
    Calls Try.prog 28 #[Pt g, I t, I dst, I src] w fun e w' => e = .returned (I (A.move t dst src).2.2) ∧ Goes w w' g L A (A.move t dst src).1 := by
  have h0 := h.new (.cells #[I 0] 25)
  have fin0 := fun c => (Goes.refl h0 ha).setCell h (I c)
  cases hs : A.slotE t dst with
  | error c =>
    have e : A.move t dst src = (A, 0, c) := by simp [AG.move, hs]
    rw [e]
    have fin := Lib.hid (fin0 c)
    clear fin0
    go_enter_defers Try.func28, Try.ntmps28
    go_wp2_with (go_at_call 57; (with_reducible refine (graph_slot_bad h0 t dst c hs).mono ?_); rintro e w' ⟨rfl, rfl⟩)
    exact door_thrown w.heap.size c 0 (heap_alloc_new _ _) ⟨_, by simp [results, Try.results28, go_sem], rfl, fin.out⟩
  | ok x =>
    cases hs2 : A.slotE t src with
    | error c =>
      have e : A.move t dst src = (A, 0, c) := by simp [AG.move, hs, hs2]
      rw [e]
      have fin := Lib.hid (fin0 c)
      clear fin0
      by_cases hds : dst = src
      · subst hds; rw [hs] at hs2; cases hs2
      go_enter_defers Try.func28, Try.ntmps28
      go_wp2_with (first
        | (go_at_call 57; (with_reducible refine (graph_slot_ok h0 t dst x hs).mono ?_); rintro e w' ⟨rfl, rfl⟩)
        | (go_at_call 57; (with_reducible refine (graph_slot_bad h0 t src c hs2).mono ?_); rintro e w' ⟨rfl, rfl⟩))
      exact door_thrown w.heap.size c 0 (heap_alloc_new _ _) ⟨_, by simp [results, Try.results28, go_sem], rfl, fin.out⟩
    | ok y =>
      have e : A.move t dst src = (A.setS t dst y, 0, 0) := by simp [AG.move, hs, hs2]
      rw [e]
      clear fin0
      obtain ⟨ht, hi, hx⟩ := slotE_ok hs
      have hy := hv.slot hs2
      have HX := Lib.hid hx
      clear hx
      go_enter_defers Try.func28, Try.ntmps28
      go_wp2_with (first
        | (go_at_call 57; (with_reducible refine (graph_slot_ok h0 t dst x hs).mono ?_); rintro e w' ⟨rfl, rfl⟩)
        | (go_at_call 57; (with_reducible refine (graph_slot_ok h0 t src y hs2).mono ?_); rintro e w' ⟨rfl, rfl⟩)
        | (go_at_call 59; (with_reducible refine (graph_set h0 t dst y ht hi hy.1).mono ?_); rintro e w2 ⟨rfl, h2, h3⟩; have e2 := err_kept h h3 (foot_r t ht); have k2 := cell_blk (i := 0) (v := I 0) e2 rfl; have z2 := free_blk (i := 0) e2))
      exact door_idle w.heap.size _ (.inr rfl) ⟨_, by simp [results, Try.results28, go_sem, k2], rfl, (Goes.setT h0 ha ht h2 h3).setCell h _⟩

theorem Sl.shapeM {f : Int → Value} {e : Nat} {v : Value} {xs : List Int} (h : Sl w e v (xs.map f)) :
    ∃ ao cap, v = .slice ao xs.length cap ∧ xs.length ≤ cap ∧ (xs ≠ [] → ∃ b, ao = some ⟨b, 0, none⟩ ∧ slB v (xs.map f) = some b ∧ (∀ j, w.frozen? ⟨b, j, none⟩ = false) ∧
        ∀ j, j < xs.length → w.cell? ⟨b, j, none⟩ = some (f (xs.getD j 0))) := by
  obtain ⟨ao, cap, e, hc, _, hcell, hb⟩ := h.shape
  refine ⟨ao, cap, by simpa using e, by simpa using hc, fun hne => ?_⟩
  obtain ⟨b, hb1, hb2, hb3⟩ := hb (by simpa using hne)
  subst hb1
  refine ⟨b, rfl, hb2, hb3, fun j hj => ?_⟩
  have := hcell _ rfl j (f (xs.getD j 0)) (by simp [List.getD, hj])
  rwa [add_off, Nat.zero_add] at this

/-- An object's references, as the walk meets them. -/
theorem GAt.refsAt (h : GAt w g L A) {n : Int} (h1 : 1 ≤ n) (h2 : n ≤ A.O.length) :
    ∃ ao cap, w.cell? ⟨L.ob n, 0, none⟩ = some (.slice ao (A.obj n).refs.length cap) ∧ (A.obj n).refs.length ≤ cap ∧
      ((A.obj n).refs ≠ [] → ∃ b, ao = some ⟨b, 0, none⟩ ∧ slB (L.rv (n.toNat - 1)) ((A.obj n).refs.map I) = some b ∧ (∀ j, w.frozen? ⟨b, j, none⟩ = false) ∧
        ∀ j, j < (A.obj n).refs.length → w.cell? ⟨b, j, none⟩ = some (I ((A.obj n).refs.getD j 0))) := by
  have hk : n.toNat - 1 < A.O.length := by omega
  obtain ⟨ao, cap, e, hc, hb⟩ := (h.hrv _ hk).shapeM
  have hc0 : w.cell? ⟨L.ob n, 0, none⟩ = some (L.rv (n.toNat - 1)) := cell_blk (i := 0) (h.ho _ hk) rfl
  exact ⟨ao, cap, hc0.trans (congrArg some e), hc, hb⟩

theorem GAt.dataAt (h : GAt w g L A) {n : Int} (h1 : 1 ≤ n) (h2 : n ≤ A.O.length) :
    ∃ ao cap, w.cell? ⟨L.ob n, 1, none⟩ = some (.slice ao (A.obj n).data.length cap) ∧ (A.obj n).data.length ≤ cap ∧
      ((A.obj n).data ≠ [] → ∃ b, ao = some ⟨b, 0, none⟩ ∧ slB (L.dv (n.toNat - 1)) ((A.obj n).data.map U) = some b ∧ (∀ j, w.frozen? ⟨b, j, none⟩ = false) ∧
        ∀ j, j < (A.obj n).data.length → w.cell? ⟨b, j, none⟩ = some (U ((A.obj n).data.getD j 0))) := by
  have hk : n.toNat - 1 < A.O.length := by omega
  obtain ⟨ao, cap, e, hc, hb⟩ := (h.hdv _ hk).shapeM
  have hc0 : w.cell? ⟨L.ob n, 1, none⟩ = some (L.dv (n.toNat - 1)) := cell_blk (i := 1) (h.ho _ hk) rfl
  exact ⟨ao, cap, hc0.trans (congrArg some e), hc, hb⟩

theorem ne_nil_of_lt {l : List Int} {i : Int} (h0 : 0 ≤ i) (h : i < l.length) : l ≠ [] := by
  rintro rfl; simp at h; omega

theorem AG.Valid.ref (hv : A.Valid) {n i : Int} (h1 : 1 ≤ n) (h2 : n ≤ A.O.length) (h3 : 0 ≤ i) (h4 : i < (A.obj n).refs.length) : 0 ≤ (A.obj n).refs.getD i.toNat 0 ∧ (A.obj n).refs.getD i.toNat 0 ≤ A.O.length :=
  hv.refs _ (mem_getD (l := A.O) (i := n.toNat - 1) (by omega)) _ (mem_getD0 (l := (A.obj n).refs) (i := i.toNat) (by omega))

theorem graph_Load (h : GAt w g L A) (ha : L.Apart g A) (hv : A.Valid) (t dst src i : Int) :
    Calls Try.prog 21 #[Pt g, I t, I dst, I src, I i] w fun e w' => e = .returned (.tuple #[I (A.load t dst src i).2.1, I (A.load t dst src i).2.2]) ∧ Goes w w' g L A (A.load t dst src i).1 := by
  have h0 := h.new (.cells #[I 0] 25)
  have fin0 := fun c => (Goes.refl h0 ha).setCell h (I c)
  cases hs : A.slotE t dst with
  | error c =>
    have e : A.load t dst src i = (A, 0, c) := by simp [AG.load, hs]
    rw [e]
    have fin := Lib.hid (fin0 c)
    clear fin0
    go_enter_defers Try.func21, Try.ntmps21
    go_wp2_with (go_at_call 57; (with_reducible refine (graph_slot_bad h0 t dst c hs).mono ?_); rintro e w' ⟨rfl, rfl⟩)
    exact door_thrown w.heap.size c 0 (heap_alloc_new _ _) ⟨_, by simp [results, Try.results21, go_sem], rfl, fin.out⟩
  | ok x =>
    cases hs2 : A.objE t src with
    | error c =>
      have e : A.load t dst src i = (A, 0, c) := by simp [AG.load, hs, hs2]
      rw [e]
      have fin := Lib.hid (fin0 c)
      clear fin0
      go_enter_defers Try.func21, Try.ntmps21
      go_wp2_with (first
        | (go_at_call 57; (with_reducible refine (graph_slot_ok h0 t dst x hs).mono ?_); rintro e w' ⟨rfl, rfl⟩)
        | (go_at_call 60; (with_reducible refine (graph_object_bad h0 t src c hs2).mono ?_); rintro e w' ⟨rfl, rfl⟩))
      exact door_thrown w.heap.size c 0 (heap_alloc_new _ _) ⟨_, by simp [results, Try.results21, go_sem], rfl, fin.out⟩
    | ok n =>
      obtain ⟨hn1, hn2⟩ := hv.obj hs2
      obtain ⟨ao, cap, k0, hcap, hb⟩ := h0.refsAt hn1 hn2
      by_cases hi0 : 0 ≤ i
      · by_cases hi1 : i < ((A.obj n).refs.length : Int)
        · have e : A.load t dst src i = (A.setS t dst ((A.obj n).refs.getD i.toNat 0), (A.obj n).refs.getD i.toNat 0, 0) := by simp [AG.load, hs, hs2, hi0, hi1]
          rw [e]
          obtain ⟨b, rfl, _, _, hcell⟩ := hb (ne_nil_of_lt hi0 hi1)
          have k1 := hcell i.toNat (by omega)
          have hy := hv.ref hn1 hn2 hi0 hi1
          have q1 : decide (i < ((A.obj n).refs.length : Int)) = true := by simpa using hi1
          obtain ⟨ht, hi, hx⟩ := slotE_ok hs
          have HX := Lib.hid (And.intro hx e)
          clear hx e fin0 hcell hb
          generalize (A.obj n).refs.getD i.toNat 0 = y at k1 hy ⊢
          go_enter_defers Try.func21, Try.ntmps21
          go_wp2_with (first
            | (go_at_call 57; (with_reducible refine (graph_slot_ok h0 t dst x hs).mono ?_); rintro e w' ⟨rfl, rfl⟩)
            | (go_at_call 60; (with_reducible refine (graph_object_ok h0 t src n hs2 hn1 hn2).mono ?_); rintro e w' ⟨rfl, rfl⟩)
            | (go_at_call 58; (with_reducible refine (ask_yes _ _).mono ?_); rintro e w' ⟨rfl, rfl⟩)
            | (go_at_call 59; (with_reducible refine (graph_set h0 t dst y ht hi hy.1).mono ?_); rintro e w2 ⟨rfl, h2, h3⟩; have e2 := err_kept h h3 (foot_r t ht); have k2 := cell_blk (i := 0) (v := I 0) e2 rfl; have z2 := free_blk (i := 0) e2))
          exact door_idle w.heap.size _ (.inr rfl) ⟨_, by simp [results, Try.results21, go_sem, k2], rfl, (Goes.setT h0 ha ht h2 h3).setCell h _⟩
        · have e : A.load t dst src i = (A, 0, 2) := by simp [AG.load, hs, hs2, hi1]
          rw [e]
          have fin := Lib.hid (fin0 2)
          have q1 : decide (i < ((A.obj n).refs.length : Int)) = false := by simpa using hi1
          clear fin0 hb
          go_enter_defers Try.func21, Try.ntmps21
          go_wp2_with (first
            | (go_at_call 57; (with_reducible refine (graph_slot_ok h0 t dst x hs).mono ?_); rintro e w' ⟨rfl, rfl⟩)
            | (go_at_call 60; (with_reducible refine (graph_object_ok h0 t src n hs2 hn1 hn2).mono ?_); rintro e w' ⟨rfl, rfl⟩)
            | (go_at_call 58; (with_reducible refine (ask_no _ _).mono ?_); rintro e w' ⟨rfl, rfl⟩))
          exact door_thrown w.heap.size 2 0 (heap_alloc_new _ _) ⟨_, by simp [results, Try.results21, go_sem], rfl, fin.out⟩
      · have e : A.load t dst src i = (A, 0, 2) := by simp [AG.load, hs, hs2, hi0]
        rw [e]
        have fin := Lib.hid (fin0 2)
        clear fin0 hb
        go_enter_defers Try.func21, Try.ntmps21
        go_wp2_with (first
          | (go_at_call 57; (with_reducible refine (graph_slot_ok h0 t dst x hs).mono ?_); rintro e w' ⟨rfl, rfl⟩)
          | (go_at_call 60; (with_reducible refine (graph_object_ok h0 t src n hs2 hn1 hn2).mono ?_); rintro e w' ⟨rfl, rfl⟩)
          | (go_at_call 58; (with_reducible refine (ask_no _ _).mono ?_); rintro e w' ⟨rfl, rfl⟩))
        exact door_thrown w.heap.size 2 0 (heap_alloc_new _ _) ⟨_, by simp [results, Try.results21, go_sem], rfl, fin.out⟩

end Go.Proofs.Ytnhombeagbhccaa
