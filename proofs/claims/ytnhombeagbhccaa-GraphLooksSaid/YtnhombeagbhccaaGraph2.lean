/- Package graph, program side: its helpers. -/
import Derived.Test.YtnhombeagbhccaaGraph
import Derived.BigQuiet
import Derived.Deep.QuietTactic
namespace Go.Proofs.Ytnhombeagbhccaa
open Go.RowKit

variable {w : World} {g : Nat} {L : PG} {A : AG}

theorem GAt.c0 (h : GAt w g L A) : w.cell? ⟨g, 0, none⟩ = some (.slice (some ⟨L.tb, 0, none⟩) A.T.length L.tc) := cell_blk h.hg rfl
theorem GAt.c1 (h : GAt w g L A) : w.cell? ⟨g, 1, none⟩ = some L.gs := cell_blk h.hg rfl
theorem GAt.c2 (h : GAt w g L A) : w.cell? ⟨g, 2, none⟩ = some (.map (some L.mb)) := cell_blk h.hg rfl
theorem GAt.ct (h : GAt w g L A) (t : Nat) (ht : t < A.T.length) : w.cell? ⟨L.tb, t, none⟩ = some (Pt (L.r t)) := by
  rw [h.ht.cellAt t (by omega)]; simp [ht]

theorem graph_roots_ok (h : GAt w g L A) (t : Int) (ht : A.okT t) :
    Calls Try.prog 63 #[Pt g, I t] w fun e w' => e = .returned (Pt (L.r t.toNat)) ∧ w = w' := by
  obtain ⟨h0, h1⟩ := ht
  have c0 := h.c0
  have ct := h.ct t.toNat (by omega)
  have q1 : decide (t < (A.T.length : Int)) = true := by simpa using h1
  go_enter Try.func63, Try.ntmps63
  go_wp2_with (go_at_call 58; refine (ask_yes _ _).mono ?_; rintro e w' ⟨rfl, rfl⟩)
  go_ret
  exact ⟨rfl, rfl⟩

theorem graph_roots_bad (h : GAt w g L A) (t : Int) (ht : ¬ A.okT t) :
    Calls Try.prog 63 #[Pt g, I t] w fun e w' => e = thrown 2 ∧ w = w' := by
  have c0 := h.c0
  by_cases h0 : 0 ≤ t
  · have h1 : ¬ (t < (A.T.length : Int)) := by intro h1; exact ht ⟨h0, h1⟩
    have q1 : decide (t < (A.T.length : Int)) = false := by simpa using h1
    clear ht
    go_enter Try.func63, Try.ntmps63
    go_wp2_with (first | (go_at_call 58; (with_reducible refine (ask_yes _ _).mono ?_); rintro e w' ⟨rfl, rfl⟩) | (go_at_call 58; (with_reducible refine (ask_no _ _).mono ?_); rintro e w' ⟨rfl, rfl⟩))
    exact ⟨rfl, rfl, rfl⟩
  · clear ht
    go_enter Try.func63, Try.ntmps63
    go_wp2_with (first | (go_at_call 58; (with_reducible refine (ask_yes _ _).mono ?_); rintro e w' ⟨rfl, rfl⟩) | (go_at_call 58; (with_reducible refine (ask_no _ _).mono ?_); rintro e w' ⟨rfl, rfl⟩))
    exact ⟨rfl, rfl, rfl⟩

theorem graph_roots_nil (t : Int) (w : World) :
    Calls Try.prog 63 #[.pointer none, I t] w fun e w' => e = thrown 1 ∧ w = w' := by
  go_enter Try.func63, Try.ntmps63
  go_wp2_with (first | (go_at_call 58; (with_reducible refine (ask_yes _ _).mono ?_); rintro e w' ⟨rfl, rfl⟩) | (go_at_call 58; (with_reducible refine (ask_no _ _).mono ?_); rintro e w' ⟨rfl, rfl⟩))
  exact ⟨rfl, rfl, rfl⟩

/-- What a helper that may throw comes to. -/
def endOf (f : Int → Value) : Except Int Int → Ending
  | .ok x => .returned (f x)
  | .error e => thrown e

theorem graph_slot_ok (h : GAt w g L A) (t i x : Int) (hx : A.slotE t i = .ok x) :
    Calls Try.prog 57 #[Pt g, I t, I i] w fun e w' => e = .returned (I x) ∧ w = w' := by
  unfold AG.slotE at hx
  by_cases ht : A.okT t
  · rw [if_pos ht] at hx
    by_cases hi : (A.thr t).ok i
    · rw [if_pos hi] at hx
      have hR := h.hr t.toNat (by unfold AG.okT at ht; omega)
      have c := roots_get w (L.r t.toNat) _ i hR
      change Calls _ _ _ _ (fun e w' => e = .returned (.tuple #[I (if (A.thr t).ok i then (A.thr t).get i else 0), I (if (A.thr t).ok i then 0 else 2)]) ∧ w = w') at c
      rw [if_pos hi, if_pos hi] at c
      injection hx with hx
      rw [hx] at c
      have C := Lib.hid c
      clear c hx hi hR
      go_enter Try.func57, Try.ntmps57
      go_wp2_with (first | (go_at_call 63; (with_reducible refine (graph_roots_ok h t ht).mono ?_); rintro e w' ⟨rfl, rfl⟩) | (go_at_call 76; (with_reducible refine C.out.mono ?_); rintro e w' ⟨rfl, rfl⟩) | (go_at_call 58; (with_reducible refine (ask_yes _ _).mono ?_); rintro e w' ⟨rfl, rfl⟩))
      go_ret
      exact ⟨rfl, rfl⟩
    · rw [if_neg hi] at hx; cases hx
  · rw [if_neg ht] at hx; cases hx

theorem graph_slot_bad (h : GAt w g L A) (t i c : Int) (hx : A.slotE t i = .error c) :
    Calls Try.prog 57 #[Pt g, I t, I i] w fun e w' => e = thrown c ∧ w = w' := by
  unfold AG.slotE at hx
  by_cases ht : A.okT t
  · rw [if_pos ht] at hx
    by_cases hi : (A.thr t).ok i
    · rw [if_pos hi] at hx; cases hx
    · rw [if_neg hi] at hx
      have hR := h.hr t.toNat (by unfold AG.okT at ht; omega)
      have c := roots_get w (L.r t.toNat) _ i hR
      change Calls _ _ _ _ (fun e w' => e = .returned (.tuple #[I (if (A.thr t).ok i then (A.thr t).get i else 0), I (if (A.thr t).ok i then 0 else 2)]) ∧ w = w') at c
      rw [if_neg hi, if_neg hi] at c
      injection hx with hx
      subst hx
      have C := Lib.hid c
      clear c hi hR
      go_enter Try.func57, Try.ntmps57
      go_wp2_with (first | (go_at_call 63; (with_reducible refine (graph_roots_ok h t ht).mono ?_); rintro e w' ⟨rfl, rfl⟩) | (go_at_call 76; (with_reducible refine C.out.mono ?_); rintro e w' ⟨rfl, rfl⟩) | (go_at_call 58; (with_reducible refine (ask_no _ _).mono ?_); rintro e w' ⟨rfl, rfl⟩))
      exact ⟨rfl, rfl, rfl⟩
  · rw [if_neg ht] at hx
    injection hx with hx
    subst hx
    go_enter Try.func57, Try.ntmps57
    go_wp2_with (go_at_call 63; (with_reducible refine (graph_roots_bad h t ht).mono ?_); rintro e w' ⟨rfl, rfl⟩)
    exact ⟨rfl, rfl, rfl⟩

theorem graph_slot_nil (t i : Int) (w : World) :
    Calls Try.prog 57 #[.pointer none, I t, I i] w fun e w' => e = thrown 1 ∧ w = w' := by
  go_enter Try.func57, Try.ntmps57
  go_wp2_with (go_at_call 63; (with_reducible refine (graph_roots_nil t w).mono ?_); rintro e w' ⟨rfl, rfl⟩)
  exact ⟨rfl, rfl, rfl⟩

theorem Try.zero76 (w : World) : (zeroValue 76).run Try.prog w = .ok (.pointer none) w := by kernel_rfl

/-- The block of an object. -/
def PG.ob (L : PG) (n : Int) : Nat := L.o (n.toNat - 1)

theorem GAt.look (h : GAt w g L A) {n : Int} (h1 : 1 ≤ n) (h2 : n ≤ A.O.length) (ok : Bool) :
    (Instr.lookup 53 (.map (some L.mb)) (I n) ok).run Try.prog w = .ok (if ok then .tuple #[Pt (L.ob n), .bool true] else Pt (L.ob n)) w := by
  have hk := h.hk (n.toNat - 1) (by omega)
  have e : ((n.toNat - 1 + 1 : Nat) : Int) = n := by omega
  rw [e] at hk
  rw [run_lookup_int (P := Try.prog) Try.underlying53 Try.underlying3 Try.zero76 h.hm h.hkv n ok, hk]
  rfl

theorem graph_object_ok (h : GAt w g L A) (t i n : Int) (hx : A.objE t i = .ok n) (h1 : 1 ≤ n) (h2 : n ≤ A.O.length) :
    Calls Try.prog 60 #[Pt g, I t, I i] w fun e w' => e = .returned (Pt (L.ob n)) ∧ w = w' := by
  have hs : A.slotE t i = .ok n := by
    unfold AG.objE at hx
    split at hx
    · split at hx
      · cases hx
      · injection hx with hx; subst hx; assumption
    · cases hx
  have hl := h.look h1 h2 false
  have c2 := h.c2
  have q : (n != 0) = true := by simp; omega
  have HX := Lib.hid (And.intro hx hs)
  clear hx hs
  go_enter Try.func60, Try.ntmps60
  go_wp2_with (first | (go_at_call 57; (with_reducible refine (graph_slot_ok h t i n HX.out.2).mono ?_); rintro e w' ⟨rfl, rfl⟩) | (go_at_call 58; (with_reducible refine (ask_yes _ _).mono ?_); rintro e w' ⟨rfl, rfl⟩))
  go_ret
  exact ⟨rfl, rfl⟩

theorem graph_object_bad (h : GAt w g L A) (t i c : Int) (hx : A.objE t i = .error c) :
    Calls Try.prog 60 #[Pt g, I t, I i] w fun e w' => e = thrown c ∧ w = w' := by
  unfold AG.objE at hx
  split at hx
  · rename_i n hn
    split at hx
    · injection hx with hx
      subst hx
      rename_i e0
      subst e0
      go_enter Try.func60, Try.ntmps60
      go_wp2_with (first | (go_at_call 57; (with_reducible refine (graph_slot_ok h t i 0 hn).mono ?_); rintro e w' ⟨rfl, rfl⟩) | (go_at_call 58; (with_reducible refine (ask_no _ _).mono ?_); rintro e w' ⟨rfl, rfl⟩))
      exact ⟨rfl, rfl, rfl⟩
    · cases hx
  · rename_i n hn
    injection hx with hx
    subst hx
    go_enter Try.func60, Try.ntmps60
    go_wp2_with (go_at_call 57; (with_reducible refine (graph_slot_bad h t i _ hn).mono ?_); rintro e w' ⟨rfl, rfl⟩)
    exact ⟨rfl, rfl, rfl⟩

theorem graph_object_nil (t i : Int) (w : World) :
    Calls Try.prog 60 #[.pointer none, I t, I i] w fun e w' => e = thrown 1 ∧ w = w' := by
  go_enter Try.func60, Try.ntmps60
  go_wp2_with (go_at_call 57; (with_reducible refine (graph_slot_nil t i w).mono ?_); rintro e w' ⟨rfl, rfl⟩)
  exact ⟨rfl, rfl, rfl⟩

theorem graph_set (h : GAt w g L A) (t i x : Int) (ht : A.okT t) (hi : (A.thr t).ok i) (hx : 0 ≤ x) :
    Calls Try.prog 59 #[Pt g, I t, I i, I x] w fun e w' => e = .returned (.tuple #[]) ∧ RootsAt w' (L.r t.toNat) ((A.thr t).set i x) ∧ Fr (· = L.r t.toNat) w w' := by
  obtain ⟨h0, h1⟩ := ht
  have c0 := h.c0
  have ct := h.ct t.toNat (by omega)
  have c := roots_set w (L.r t.toNat) _ i x (h.hr t.toNat (by omega))
  have e : (A.T.getD t.toNat default).setR i x = ((A.thr t).set i x, 0) := by
    change (A.thr t).setR i x = _
    unfold AR.setR
    rw [if_pos hi, if_neg (by omega)]
  rw [e] at c
  have C := Lib.hid c
  clear c e hi
  go_enter Try.func59, Try.ntmps59
  go_wp2_with (go_at_call 51; (with_reducible refine C.out.mono ?_); rintro e w' ⟨rfl, h2, h3⟩)
  go_end0
  exact ⟨rfl, h2, h3⟩

theorem Sl.shapeG (h : GAt w g L A) : ∃ ao cap, L.gs = .slice ao A.G.length cap ∧ A.G.length ≤ cap ∧ (A.G ≠ [] → ∃ b, ao = some ⟨b, 0, none⟩ ∧ slB L.gs (A.G.map I) = some b) := by
  obtain ⟨ao, cap, e, hc, _, _, h5⟩ := h.hG.shape
  exact ⟨ao, cap, by simpa using e, by simpa using hc, fun hn => by obtain ⟨b, h1, h2, _⟩ := h5 (by simpa using hn); exact ⟨b, h1, h2⟩⟩

theorem graph_global_ok (h : GAt w g L A) (i : Int) (hi : A.okG i) :
    ∃ b, slB L.gs (A.G.map I) = some b ∧ Calls Try.prog 62 #[Pt g, I i] w fun e w' => e = .returned (.pointer (some ⟨b, i.toNat, none⟩)) ∧ w = w' := by
  obtain ⟨h0, h1⟩ := hi
  obtain ⟨ao, cap, e, hc, hb⟩ := Sl.shapeG h
  obtain ⟨b, hb1, hb2⟩ := hb (by intro e; simp [e] at h1; omega)
  subst hb1
  refine ⟨b, hb2, ?_⟩
  have c1 := h.c1
  rw [e] at c1
  have q1 : decide (i < (A.G.length : Int)) = true := by simpa using h1
  have E := Lib.hid (And.intro e hb2)
  clear e hb hb2
  go_enter Try.func62, Try.ntmps62
  go_wp2_with (go_at_call 58; (with_reducible refine (ask_yes _ _).mono ?_); rintro e w' ⟨rfl, rfl⟩)
  go_ret
  exact ⟨rfl, rfl⟩

theorem graph_global_bad (h : GAt w g L A) (i : Int) (hi : ¬ A.okG i) :
    Calls Try.prog 62 #[Pt g, I i] w fun e w' => e = thrown 2 ∧ w = w' := by
  obtain ⟨ao, cap, e, hc, hb⟩ := Sl.shapeG h
  have c1 := h.c1
  rw [e] at c1
  have E := Lib.hid (And.intro e hb)
  clear e hb
  by_cases h0 : 0 ≤ i
  · have h1 : ¬ (i < (A.G.length : Int)) := by intro h1; exact hi ⟨h0, h1⟩
    have q1 : decide (i < (A.G.length : Int)) = false := by simpa using h1
    clear hi
    go_enter Try.func62, Try.ntmps62
    go_wp2_with (go_at_call 58; (with_reducible refine (ask_no _ _).mono ?_); rintro e w' ⟨rfl, rfl⟩)
    exact ⟨rfl, rfl, rfl⟩
  · clear hi
    go_enter Try.func62, Try.ntmps62
    go_wp2_with (go_at_call 58; (with_reducible refine (ask_no _ _).mono ?_); rintro e w' ⟨rfl, rfl⟩)
    exact ⟨rfl, rfl, rfl⟩

end Go.Proofs.Ytnhombeagbhccaa
