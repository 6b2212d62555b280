/- The reference's graph: Alloc. -/
import Derived.Test.YtnhombeagbhccaaRef9
import Derived.Deep.AppendLies
namespace Go.Proofs.Ytnhombeagbhccaa
open Go.RowKit

variable {w w' : World} {r : Nat} {L : RL} {A : AG}

theorem Try.info82 : (Try.prog.info? 82).map (fun i => (i.zero, i.size, i.bytes)) = some (some (.agg #[.slice none 0 0, .slice none 0 0]), 2, 48) := by kernel_rfl

theorem ref_Alloc_no (h : RAt w r L A) (ha : L.Apart r A) (hn : 0 < A.T.length) (t dst refs size : Int) (hx : (∃ c, A.slotE t dst = .error c) ∨ ¬ (0 ≤ refs ∧ refs ≤ size ∧ size ≤ 95)) :
    Calls Try.prog 32 #[Pt r, I t, I dst, I refs, I size] w fun e w' => e = .returned (.tuple #[I 0, I 2]) ∧ RGoes w w' r L A A := by
  have fin := Lib.hid (RGoes.refl h ha)
  cases hs1 : A.slotE t dst with
  | error c =>
    clear hx
    obtain rfl := slotE_err hs1
    go_enter Try.func32, Try.ntmps32
    go_wp2_with (go_at_call 43; (with_reducible refine (ref_Slot_bad h hn t dst _ hs1).mono ?_); rintro e w' ⟨rfl, rfl⟩)
    go_ret2
    exact ⟨rfl, fin.out⟩
  | ok x =>
    have hx : ¬ (0 ≤ refs ∧ refs ≤ size ∧ size ≤ 95) := by
      rcases hx with ⟨c, hc⟩ | hx
      · rw [hs1] at hc; cases hc
      · exact hx
    by_cases r0 : refs < 0
    · clear hx
      go_enter Try.func32, Try.ntmps32
      go_wp2_with (go_at_call 43; (with_reducible refine (ref_Slot_ok h t dst _ hs1).mono ?_); rintro e w' ⟨rfl, rfl⟩)
      go_ret2
      exact ⟨rfl, fin.out⟩
    · by_cases r1 : size < refs
      · clear hx
        go_enter Try.func32, Try.ntmps32
        go_wp2_with (go_at_call 43; (with_reducible refine (ref_Slot_ok h t dst _ hs1).mono ?_); rintro e w' ⟨rfl, rfl⟩)
        go_ret2
        exact ⟨rfl, fin.out⟩
      · have r2 : 95 < size := by omega
        clear hx
        go_enter Try.func32, Try.ntmps32
        go_wp2_with (go_at_call 43; (with_reducible refine (ref_Slot_ok h t dst _ hs1).mono ?_); rintro e w' ⟨rfl, rfl⟩)
        go_ret2
        exact ⟨rfl, fin.out⟩


theorem RGoes.comp {w1 : World} {A1 A' : AG} {L1 : RL} (h3 : ∀ b, L1.foot r A1 b → L.foot r A b ∨ w.heap.size ≤ b) (h4 : Fr (L.foot r A) w w1) (k : RGoes w1 w' r L1 A1 A') : RGoes w w' r L A A' := by
  obtain ⟨L', k1, k2, k3, k4⟩ := k
  refine ⟨L', k1, k2, fun b hb => ?_, h4.trans' k4 (fun _ _ x => x) (fun i hi hf => ?_)⟩
  · rcases k3 b hb with h | h
    · exact h3 b h
    · exact .inr (Nat.le_trans h4.size h)
  · rcases h3 i hf with h | h
    · exact h
    · omega

/-- What an append to the objects' row leaves. -/
theorem alloc_keep (h : RAt w r L A) (ha : L.Apart r A) {ao : Option Addr} {oc : Nat} (e1 : L.ov = .slice ao A.O.length oc) {W w3 : World} (hn : New w W) {v3 : Value} (hfr : Fr (fun k => (Value.slice ao A.O.length oc).ownBlock = some k) W w3) :
    w3.heap[r]? = some (.cells #[L.tv, L.gs, .slice ao A.O.length oc] 63 (0, 0)) ∧ Fr (fun b => L.ov.ownBlock = some b ∨ b = r) w (w3.setCell ⟨r, 2, none⟩ v3) := by
  have hR := h .r (by trivial)
  simp only [RPart] at hR
  rw [e1] at hR
  refine ⟨hfr.blk (hn.blk hR) (fun e => ?_), ?_⟩
  · exact ha.ne (x := .o) (y := .r) (by trivial) (by trivial) (by trivial) (by simp) (b := r) rfl (by show L.ov.ownBlock = _; rw [e1]; exact e)
  · have f1 : Fr (fun b => L.ov.ownBlock = some b ∨ b = r) w w3 := (hn.to _).trans' hfr (fun _ _ x => x) (fun _ _ x => .inl (by rw [e1]; exact x))
    exact f1.set _ _ (.inr rfl)

theorem alloc_fin (h : RAt w r L A) (ha : L.Apart r A) {ao : Option Addr} {oc : Nat} (e1 : L.ov = .slice ao A.O.length oc) {refs size : Int} (h0 : 0 ≤ refs) (h1 : refs ≤ size) (h2 : size ≤ 95) {W w3 : World} (hn : New w W) {nb nc rb db : Nat}
    (hrb : W.heap[rb]? = some (.cells (Array.replicate refs.toNat (I 0)) 3 (0, 0))) (hdb : W.heap[db]? = some (.cells (Array.replicate (size - refs).toNat (U 0)) 31 (0, 0))) (lr : w.heap.size ≤ rb) (ld : w.heap.size ≤ db) (ne : rb ≠ db)
    (hown : w3.ownsRow 0 82 2 (.slice (some ⟨nb, 0, none⟩) (A.O.length + 1) nc) (A.O.length + 1) (pairs L.rv L.dv A.O.length ++ [.slice (some ⟨rb, 0, none⟩) refs.toNat refs.toNat, .slice (some ⟨db, 0, none⟩) (size - refs).toNat (size - refs).toNat]))
    (hfr : Fr (fun k => (Value.slice ao A.O.length oc).ownBlock = some k) W w3) (hloc : some nb = (Value.slice ao A.O.length oc).ownBlock ∨ nb = W.heap.size) :
    w3.heap[r]? = some (.cells #[L.tv, L.gs, .slice ao A.O.length oc] 63 (0, 0)) ∧
      RGoes w (w3.setCell ⟨r, 2, none⟩ (.slice (some ⟨nb, 0, none⟩) (A.O.length + 1) nc)) r L A { A with O := A.O ++ [⟨List.replicate refs.toNat 0, List.replicate (size - refs).toNat 0⟩] } := by
  obtain ⟨k1, k2⟩ := alloc_keep h ha e1 hn (v3 := .slice (some ⟨nb, 0, none⟩) (A.O.length + 1) nc) hfr
  refine ⟨k1, ?_⟩
  have lo : ∀ b, (Value.slice ao A.O.length oc).ownBlock = some b → b < w.heap.size := fun b hb => (h .o (by trivial)).lt b (by show L.ov.ownBlock = _; rw [e1]; exact hb)
  have lrW := lt_of_block hrb
  have ldW := lt_of_block hdb
  have hr := lt_of_block (h .r (by trivial))
  have fs : Fr (· = r) w3 (w3.setCell ⟨r, 2, none⟩ (.slice (some ⟨nb, 0, none⟩) (A.O.length + 1) nc)) := (Fr.refl _ _).set _ _ rfl
  have kr := fs.blk (hfr.blk hrb (fun e => by have := lo _ e; omega)) (by omega)
  have kd := fs.blk (hfr.blk hdb (fun e => by have := lo _ e; omega)) (by omega)
  have nbr : nb ≠ r := by
    rintro rfl
    rcases hloc with e | e
    · exact ha.ne (x := .o) (y := .r) (by trivial) (by trivial) (by trivial) (by simp) (b := nb) rfl (by show L.ov.ownBlock = _; rw [e1]; exact e.symm)
    · have := hn.size; omega
  refine h.addO ha k2 ?_ (ownsRow_fr hown fs (fun b e => by simp only [Value.ownBlock, Option.some.injEq] at e; omega)) (Sl.fresh I kr (by omega)) (Sl.fresh U kd (by omega)) ?_ ?_ ?_
  · have := heap_setCell_same (i := 2) (.slice (some ⟨nb, 0, none⟩) (A.O.length + 1) nc) k1
    simpa using this
  · intro b e
    simp only [Value.ownBlock, Option.some.injEq] at e
    subst e
    rcases hloc with e | e
    · exact .inl (by rw [e1]; exact e.symm)
    · exact .inr (by have := hn.size; omega)
  · intro b e
    have e := slB_rep e
    simp only [Value.ownBlock, Option.some.injEq] at e
    subst e
    refine ⟨lr, fun e => ?_⟩
    simp only [Value.ownBlock, Option.some.injEq] at e
    subst e
    rcases hloc with e | e
    · have := lo _ e.symm; omega
    · omega
  · intro b e
    have e := slB_rep e
    simp only [Value.ownBlock, Option.some.injEq] at e
    subst e
    refine ⟨ld, fun e => ?_, fun e => ?_⟩
    · simp only [Value.ownBlock, Option.some.injEq] at e
      subst e
      rcases hloc with e | e
      · have := lo _ e.symm; omega
      · omega
    · have e := slB_rep e
      simp only [Value.ownBlock, Option.some.injEq] at e
      omega

theorem RGoes.olen {A' : AG} (h : RGoes w w' r L A A') : ∃ ao oc, w'.cell? ⟨r, 2, none⟩ = some (.slice ao A'.O.length oc) := by
  obtain ⟨L', k1, _⟩ := h
  obtain ⟨ao, oc, e, _⟩ := k1.oshape
  exact ⟨ao, oc, by rw [k1.c2, e]⟩

set_option maxRecDepth 100000 in
set_option maxHeartbeats 4000000 in
theorem ref_Alloc_yes (h : RAt w r L A) (ha : L.Apart r A) (hs : A.Small) (t dst refs size : Int) (x : Int) (hs1 : A.slotE t dst = .ok x) (h0 : 0 ≤ refs) (h1 : refs ≤ size) (h2 : size ≤ 95) :
    Calls Try.prog 32 #[Pt r, I t, I dst, I refs, I size] w fun e w' => e = .returned (.tuple #[I (A.O.length + 1), I 0]) ∧ RGoes w w' r L A (({ A with O := A.O ++ [⟨List.replicate refs.toNat 0, List.replicate (size - refs).toNat 0⟩] } : AG).setS t dst (A.O.length + 1)) := by
  have hmk1 := fun w => run_mk (P := Try.prog) Try.underlying37 Try.info3 rfl refs (by omega) (by omega) (by omega) w
  have hmk2 := fun w => run_mk (P := Try.prog) Try.underlying73 Try.info31 rfl (size - refs) (by omega) (by omega) (by omega) w
  obtain ⟨ao, oc, e1, hoc, -⟩ := h.oshape
  have c2 := h.c2
  rw [e1] at c2
  have bR := h .r (by trivial)
  simp only [RPart] at bR
  have fr := free_blk (i := 2) bR
  have hlr := lt_of_block bR
  have q0 : decide (refs < 0) = false := decide_eq_false (by omega)
  have q1 : decide (size < refs) = false := decide_eq_false (by omega)
  have q2 : decide (95 < size) = false := decide_eq_false (by omega)
  have hw1 : IntKind.i64.wrap (size - refs) = size - refs := IntWalk.i64_in _ (by omega)
  have hO := h .o (by trivial)
  simp only [RPart] at hO
  rw [e1] at hO
  have H := Lib.hid (And.intro h (And.intro ha (And.intro e1 (And.intro hs (And.intro bR hO)))))
  clear e1 hO bR hs ha
  go_enter Try.func32, Try.ntmps32
  go_wp2_with (go_at_call 43; (with_reducible refine (ref_Slot_ok h t dst _ hs1).mono ?_); rintro e w' ⟨rfl, rfl⟩)
  have ca1 : ∀ o1 : Obj, (w.alloc o1).cell? ⟨r, 2, none⟩ = some (.slice ao A.O.length oc) := fun o1 => Fr.cellK (F := fun _ => False) ((Fr.refl _ _).alloc o1) c2 id
  have ca2 : ∀ o1 o2 : Obj, ((w.alloc o1).alloc o2).cell? ⟨r, 2, none⟩ = some (.slice ao A.O.length oc) := fun o1 o2 => Fr.cellK (F := fun _ => False) (((Fr.refl _ _).alloc o1).alloc o2) c2 id
  have ca3 : ∀ o1 o2 o3 : Obj, (((w.alloc o1).alloc o2).alloc o3).cell? ⟨r, 2, none⟩ = some (.slice ao A.O.length oc) := fun o1 o2 o3 => Fr.cellK (F := fun _ => False) ((((Fr.refl _ _).alloc o1).alloc o2).alloc o3) c2 id
  go_region_law (first
      | (refine step_append_fr rfl (.tmp 43) (.tmp 51) 61 rfl 82 (.agg #[.slice none 0 0, .slice none 0 0]) 2 48 Try.underlying61 Try.info82 (by rfl) (by decide) (by decide) 0 (.slice ao A.O.length oc) A.O.length (pairs L.rv L.dv A.O.length) (by rfl) (ownsRow_fr (F := fun _ => False) H.out.2.2.2.2.2 (by repeat first | exact Fr.refl _ _ | apply Fr.drew | apply Fr.alloc) (fun _ _ x => x)) (some ⟨w.heap.size + 1 + 1, 0, none⟩) 1 1 [(.slice (some ⟨w.heap.size, 0, none⟩) refs.toNat refs.toNat), (.slice (some ⟨w.heap.size + 1, 0, none⟩) (size - refs).toNat (size - refs).toNat)] (by rfl) rfl (by simp) (by intro ad hh; cases hh; have hq := heap_alloc_new ((w.alloc (.cells (Array.replicate refs.toNat (I 0)) 3)).alloc (.cells (Array.replicate (size - refs).toNat (U 0)) 31)) (.cells #[(.slice (some ⟨w.heap.size, 0, none⟩) refs.toNat refs.toNat), (.slice (some ⟨w.heap.size + 1, 0, none⟩) (size - refs).toNat (size - refs).toNat)] 82); simp only [World.size_alloc] at hq; exact World.news_of_block hq) (by intro u hu; simp at hu; rcases hu with rfl | rfl <;> rfl) (by have := H.out.2.2.2.1.objs; omega) (Nat.zero_le _) ?_; intro v3 w3 hown3 hfr3 hloc3; obtain ⟨nb3, nc3, rfl⟩ := own_shape hown3 (by omega); have TT := Lib.hid (alloc_fin H.out.1 H.out.2.1 H.out.2.2.1 h0 h1 h2 (by repeat first | exact Fr.refl _ _ | apply Fr.drew | apply Fr.alloc) (by exact heap_alloc_old (heap_alloc_old (heap_alloc_new w (.cells (Array.replicate refs.toNat (I 0)) 3)))) (by have hq := heap_alloc_new (w.alloc (.cells (Array.replicate refs.toNat (I 0)) 3)) (.cells (Array.replicate (size - refs).toNat (U 0)) 31); rw [World.size_alloc] at hq; exact heap_alloc_old hq) (Nat.le_refl _) (Nat.le_succ _) (by omega) hown3 hfr3 (hloc3.imp (fun e => e) (fun e => Option.some.inj e))); have b3 := TT.out.1; have cr3 := cell_blk (i := 2) b3 rfl; have fr3 := free_blk (i := 2) b3; clear hfr3 hloc3 b3)
      | (refine step_append_fr rfl (.tmp 43) (.tmp 51) 61 rfl 82 (.agg #[.slice none 0 0, .slice none 0 0]) 2 48 Try.underlying61 Try.info82 (by rfl) (by decide) (by decide) 0 (.slice ao A.O.length oc) A.O.length (pairs L.rv L.dv A.O.length) (by rfl) (ownsRow_fr (F := fun _ => False) H.out.2.2.2.2.2 (by repeat first | exact Fr.refl _ _ | apply Fr.drew | apply Fr.alloc) (fun _ _ x => x)) (some ⟨w.heap.size + 1 + 1, 0, none⟩) 1 1 [(.slice (some ⟨w.heap.size + 1, 0, none⟩) refs.toNat refs.toNat), (.slice (some ⟨w.heap.size, 0, none⟩) (size - refs).toNat (size - refs).toNat)] (by rfl) rfl (by simp) (by intro ad hh; cases hh; have hq := heap_alloc_new ((w.alloc (.cells (Array.replicate (size - refs).toNat (U 0)) 31)).alloc (.cells (Array.replicate refs.toNat (I 0)) 3)) (.cells #[(.slice (some ⟨w.heap.size + 1, 0, none⟩) refs.toNat refs.toNat), (.slice (some ⟨w.heap.size, 0, none⟩) (size - refs).toNat (size - refs).toNat)] 82); simp only [World.size_alloc] at hq; exact World.news_of_block hq) (by intro u hu; simp at hu; rcases hu with rfl | rfl <;> rfl) (by have := H.out.2.2.2.1.objs; omega) (Nat.zero_le _) ?_; intro v3 w3 hown3 hfr3 hloc3; obtain ⟨nb3, nc3, rfl⟩ := own_shape hown3 (by omega); have TT := Lib.hid (alloc_fin H.out.1 H.out.2.1 H.out.2.2.1 h0 h1 h2 (by repeat first | exact Fr.refl _ _ | apply Fr.drew | apply Fr.alloc) (by have hq := heap_alloc_new (w.alloc (.cells (Array.replicate (size - refs).toNat (U 0)) 31)) (.cells (Array.replicate refs.toNat (I 0)) 3); rw [World.size_alloc] at hq; exact heap_alloc_old hq) (by exact heap_alloc_old (heap_alloc_old (heap_alloc_new w (.cells (Array.replicate (size - refs).toNat (U 0)) 31)))) (Nat.le_succ _) (Nat.le_refl _) (by omega) hown3 hfr3 (hloc3.imp (fun e => e) (fun e => Option.some.inj e))); have b3 := TT.out.1; have cr3 := cell_blk (i := 2) b3 rfl; have fr3 := free_blk (i := 2) b3; clear hfr3 hloc3 b3))
  all_goals
    obtain ⟨L1, k1, k2, k3, k4⟩ := TT.out.2
    obtain ⟨ht, hi, -⟩ := slotE_ok hs1
    have C := Lib.hid (ref_set k1 k2 t dst ((A.O.length : Int) + 1) ht hi (by omega) (H.out.2.2.2.1.slots _ (thr_mem ht)))
    obtain ⟨ao1, oc1, f1, -, -⟩ := k1.oshape
    have d2 := k1.c2
    rw [f1] at d2
    simp only [List.length_append, List.length_singleton] at d2
    have K := Lib.hid (And.intro k3 k4)
    have hob : ((A.O.length : Nat) : Int) ≤ 1000 := by have := H.out.2.2.2.1.objs; omega
    generalize w3.setCell ⟨r, 2, none⟩ (.slice (some ⟨nb3, 0, none⟩) (A.O.length + 1) nc3) = W at C d2 K ⊢
    clear k1 k2 k3 k4 f1 TT ca1 ca2 ca3 hmk1 hmk2 cr3 fr3 hown3 fr h
    go_wp2_with (go_at_call 65; (with_reducible refine C.out.mono ?_); rintro e w4 ⟨rfl, hG4⟩; obtain ⟨ao4, oc4, d4⟩ := hG4.olen; have HG4 := Lib.hid hG4; clear hG4; simp only [AG.setS, AG.setT, List.length_append, List.length_singleton] at d4)
    go_ret2
    exact ⟨rfl, RGoes.comp K.out.1 K.out.2 HG4.out⟩

theorem ref_Alloc (h : RAt w r L A) (ha : L.Apart r A) (hn : 0 < A.T.length) (hs : A.Small) (t dst refs size : Int) :
    Calls Try.prog 32 #[Pt r, I t, I dst, I refs, I size] w fun e w' => e = .returned (.tuple #[I (A.alloc t dst refs size).2.1, I (A.alloc t dst refs size).2.2]) ∧ RGoes w w' r L A (A.alloc t dst refs size).1 := by
  cases hs1 : A.slotE t dst with
  | error c =>
    obtain rfl := slotE_err hs1
    have e : A.alloc t dst refs size = (A, 0, 2) := by simp [AG.alloc, hs1]
    rw [e]
    exact ref_Alloc_no h ha hn t dst refs size (.inl ⟨_, hs1⟩)
  | ok x =>
    by_cases hx : 0 ≤ refs ∧ refs ≤ size ∧ size ≤ 95
    · have e : A.alloc t dst refs size = (({ A with O := A.O ++ [⟨List.replicate refs.toNat 0, List.replicate (size - refs).toNat 0⟩] } : AG).setS t dst ((A.O.length : Int) + 1), (A.O.length : Int) + 1, 0) := by
        simp only [AG.alloc, hs1]; rw [if_pos hx]
      rw [e]
      exact ref_Alloc_yes h ha hs t dst refs size x hs1 hx.1 hx.2.1 hx.2.2
    · have e : A.alloc t dst refs size = (A, 0, 2) := by simp only [AG.alloc, hs1]; rw [if_neg hx]
      rw [e]
      exact ref_Alloc_no h ha hn t dst refs size (.inr hx)
end Go.Proofs.Ytnhombeagbhccaa
