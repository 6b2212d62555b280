/- GraphLooks: its walk. -/
import Derived.Test.YtnhombeagbhccaaSep
namespace Go.Proofs.Ytnhombeagbhccaa
open Go.RowKit

theorem looks_far (t s k : Int) (v v2 : Value) (l l2 : List AA) (w : World) (hl : ActsAt w v l) (hl2 : ActsAt w v2 l2) (h : 100 < l.length ∨ 50 < l2.length ∨ ¬ (1 ≤ t ∧ t ≤ 64 ∧ 1 ≤ s ∧ s ≤ 8 ∧ 0 ≤ k ∧ k ≤ 8)) :
    Calls Try.prog 5 #[I t, I s, I k, v, v2] w fun e w' => e = .returned (.bool true) ∧ New w w' := by
  obtain ⟨ao, cap, rfl, hcap, -⟩ := hl
  obtain ⟨ao2, cap2, rfl, hcap2, -⟩ := hl2
  by_cases h1 : 100 < l.length
  · have h1' : (100 : Int) < l.length := by omega
    clear h h1
    go_enter Try.func5, Try.ntmps5
    go_wp2_with (go_at_call 7; (with_reducible refine (wakes_call _).mono ?_); rintro e w9 ⟨rfl, n9⟩)
    go_ret
    exact ⟨rfl, n9⟩
  · have h1' : ¬ (100 : Int) < l.length := by omega
    by_cases h2 : 50 < l2.length
    · have h2' : (50 : Int) < l2.length := by omega
      clear h h1 h2
      go_enter Try.func5, Try.ntmps5
      go_wp2_with (go_at_call 7; (with_reducible refine (wakes_call _).mono ?_); rintro e w9 ⟨rfl, n9⟩)
      go_ret
      exact ⟨rfl, n9⟩
    · have h2' : ¬ (50 : Int) < l2.length := by omega
      have H := Lib.hid ((h.resolve_left h1).resolve_left h2)
      clear h h1 h2
      go_enter Try.func5, Try.ntmps5
      go_wp2_with (first
        | (go_at_call 9; (with_reducible refine (ref_May_no t s k _ H.out).mono ?_); rintro e w2 ⟨rfl, rfl⟩)
        | (go_at_call 7; (with_reducible refine (wakes_call _).mono ?_); rintro e w9 ⟨rfl, n9⟩))
      go_ret
      exact ⟨rfl, n9⟩

/-- An act of a list, wherever the call has come to. -/
theorem act_at {w : World} {ao : Option Addr} {cap : Nat} {l : List AA} (hno : ao = none → l = []) (hcell : ∀ ad, ao = some ad → ∀ i x, l[i]? = some x → ad.block < w.heap.size ∧ ∀ j u, x.cells[j]? = some u → w.cell? (ad.add (i * 6 + j)) = some u)
    (hw : ∀ x ∈ l, 0 ≤ x.v ∧ x.v < 18446744073709551616) {k : Nat} (hk : k < l.length) (_ : l.length ≤ cap) :
    ∃ ad x, ao = some ad ∧ l[k]? = some x ∧ (0 ≤ x.v ∧ x.v < 18446744073709551616) ∧ ∀ W, New w W → FieldsAt W (ad.add (k * 6)) x := by
  obtain ⟨ad, rfl⟩ : ∃ ad, ao = some ad := by
    cases ao with
    | none => have := hno rfl; subst this; simp at hk
    | some ad => exact ⟨ad, rfl⟩
  obtain ⟨x, hx⟩ : ∃ x, l[k]? = some x := ⟨_, List.getElem?_eq_getElem hk⟩
  obtain ⟨h1, h2⟩ := hcell ad rfl k x hx
  exact ⟨ad, x, rfl, hx, hw x (List.mem_of_getElem? hx), fun W hW => fields_at h1 h2 hW⟩

set_option maxHeartbeats 4000000 in
set_option maxRecDepth 100000 in
theorem looks_good (t s k : Nat) (v v2 : Value) (l l2 : List AA) (w : World) (hl : ActsAt w v l) (hl2 : ActsAt w v2 l2) (h100 : l.length ≤ 100) (h50 : l2.length ≤ 50) (h1 : 1 ≤ t) (h2 : t ≤ 64) (h3 : 1 ≤ s) (h4 : s ≤ 8) (h5 : k ≤ 8) :
    Calls Try.prog 5 #[I t, I s, I k, v, v2] w fun e w' => e = .returned (.bool true) ∧ New w w' := by
  obtain ⟨ao, cap, rfl, hcap, hno, hcell, hw⟩ := hl
  obtain ⟨ao2, cap2, rfl, hcap2, hno2, hcell2, hw2⟩ := hl2
  have h100' : ¬ (100 : Int) < l.length := by omega
  have h50' : ¬ (50 : Int) < l2.length := by omega
  have h100'' : (l.length : Int) ≤ 100 := by omega
  have h50'' : (l2.length : Int) ≤ 50 := by omega
  have C0 := Lib.hid (mine_New t s k w h1 h2 h5 h3 h4)
  have HC := Lib.hid (And.intro (fun j (hj : j < l.length) => act_at hno hcell hw hj hcap) (fun j (hj : j < l2.length) => act_at hno2 hcell2 hw2 hj hcap2))
  clear hcell hw hcell2 hw2 hno hno2
  go_enter Try.func5, Try.ntmps5
  go_wp2_with (first
    | (go_at_call 8; (with_reducible refine C0.out.mono ?_); rintro e w1 ⟨g, rfl, L, a1, a2, a3, a4⟩; have m1 : All w w1 [gcomp g L (AG.fresh t s k)] := ⟨(fun c hc => by rw [List.mem_singleton.1 hc]; exact ⟨a1, a2⟩), List.pairwise_singleton _ _, (fun c hc b hb => by rw [List.mem_singleton.1 hc] at hb; exact a3 b hb), a4⟩; have M1 := Lib.hid (all_New m1 t s k h2 h5 h4); clear m1 a1 a2 a3 a4)
    | (go_at_call 9; (with_reducible refine (ref_May_yes t s k _ ⟨by omega, by omega, by omega, by omega, by omega, by omega⟩).mono ?_); rintro e w2 ⟨rfl, rfl⟩)
    | (go_at_call 10; (with_reducible refine M1.out.mono ?_); rintro e w2 ⟨r1, rfl, R1, m2⟩; have M2 := Lib.hid (all_New m2 t s k h2 h5 h4); clear m2)
    | (go_at_call 10; (with_reducible refine M2.out.mono ?_); rintro e w3 ⟨r2, rfl, R2, m3⟩))
  have HV := Lib.hid (And.intro (fresh_valid t s k) (And.intro (fresh_small t s k h2 h5 h4) (show 0 < (AG.fresh t s k).T.length by simp [AG.fresh]; omega)))
  clear M1 M2 C0 h100' h50'
  go_loopw [15] (fun iv W => ∃ (j : Nat) (A : AG) (L : PG) (R1 R2 : RL), j ≤ l.length ∧ iv = I j ∧ A.O.length ≤ j ∧ A.Valid ∧ A.Small ∧ 0 < A.T.length ∧ All w W [rcomp r2 R2 A, rcomp r1 R1 A, gcomp g L A]) (fun iv _ => l.length - (intOf iv).toNat)
  case atStart => exact ⟨0, _, _, _, _, by omega, rfl, by simp [AG.fresh], HV.out.1, HV.out.2.1, HV.out.2.2, m3⟩
  case round =>
    clear m3
    obtain ⟨j, A, L, R1, R2, hj, rfl, hA, hv, hs, hT, m⟩ := hrel
    by_cases hlt : j < l.length
    · have hlt' : (j : Int) < l.length := by omega
      obtain ⟨ad, x, rfl, hx, hxv, hF⟩ := HC.out.1 j hlt
      obtain ⟨hf0, hf1, hf2, hf3, hf4, hf5⟩ := hF _ m.new
      have hsm := act_small hv hs x hxv hA (by omega) hT
      have D1 := Lib.hid (all_does (pre := [rcomp r2 R2 A, rcomp r1 R1 A]) (post := []) m hv hs x)
      have X := Lib.hid (And.intro hv (And.intro hs (And.intro hT (And.intro hsm hF))))
      clear hv hs hT m hsm hF hx hxv
      go_wp2_with (first
        | (go_at_call 11; (with_reducible refine D1.out.mono ?_); rintro e w3 ⟨rfl, L3, m3⟩; obtain ⟨kf0, kf1, kf2, kf3, kf4, kf5⟩ := X.out.2.2.2.2 _ m3.new; have D2 := Lib.hid (all_says (pre := [rcomp r2 R2 A]) (post := [gcomp g L3 (A.act x).1]) m3 X.out.2.2.1 X.out.1 X.out.2.1 x); clear m3)
        | (go_at_call 12; (with_reducible refine D2.out.mono ?_); rintro e w4 ⟨rfl, L4, m4⟩; obtain ⟨lf0, lf1, lf2, lf3, lf4, lf5⟩ := X.out.2.2.2.2 _ m4.new; have D3 := Lib.hid (all_says (pre := []) (post := [rcomp r1 L4 (A.act x).1, gcomp g L3 (A.act x).1]) m4 X.out.2.2.1 X.out.1 X.out.2.1 x); clear m4)
        | (go_at_call 12; (with_reducible refine D3.out.mono ?_); rintro e w5 ⟨rfl, L5, m5⟩))
      go_roundw
      case rel => exact ⟨j + 1, (A.act x).1, L3, L4, L5, by omega, by go_num, X.out.2.2.2.1.2.2.1, X.out.2.2.2.1.1, X.out.2.2.2.1.2.1, X.out.2.2.2.1.2.2.2, m5⟩
      case measure => simp [intOf]; omega
    · have hle : ((l.length : Nat) : Int) ≤ j := by omega
      have qj : decide (j < l.length) = false := decide_eq_false hlt
      have D1 := Lib.hid (all_Clone m (by simp : gcomp g L A ∈ _) hv hs hT)
      have X := Lib.hid (And.intro hv (And.intro hs (And.intro hT hA)))
      have hj100 : j ≤ 100 := by omega
      clear hv hs hT m hlt
      go_wp2_with (first
        | (go_at_call 15; (with_reducible refine D1.out.mono ?_); rintro e w3 ⟨c, rfl, LC, m3⟩; have D2 := Lib.hid (all_looks m3 (by simp : gcomp c LC A ∈ _) (by simp : rcomp r1 R1 A ∈ _) X.out.2.1 X.out.2.2.1); clear m3)
        | (go_at_call 16; (with_reducible refine D2.out.mono ?_); rintro e w4 ⟨rfl, m4⟩))
      clear qj hle
      go_loopw [17] (fun iv W => ∃ (i : Nat) (C : AG) (LC : PG) (R2 : RL), i ≤ l2.length ∧ iv = I i ∧ C.O.length ≤ j + i ∧ C.Valid ∧ C.Small ∧ 0 < C.T.length ∧ All w W [gcomp c LC C, rcomp r2 R2 C, rcomp r1 R1 A, gcomp g L A]) (fun iv _ => l2.length - (intOf iv).toNat)
      case atStart => exact ⟨0, A, LC, R2, by omega, rfl, by have := X.out.2.2.2; omega, X.out.1, X.out.2.1, X.out.2.2.1, m4⟩
      case round =>
        clear m4
        obtain ⟨i, C, LC, R2, hi, rfl, hC, hv, hs, hT, m⟩ := hrel
        by_cases hil : i < l2.length
        · have hil' : (i : Int) < l2.length := by omega
          obtain ⟨ad, x, rfl, hx, hxv, hF⟩ := HC.out.2 i hil
          obtain ⟨hf0, hf1, hf2, hf3, hf4, hf5⟩ := hF _ m.new
          have hsm := act_small hv hs x hxv hC (by omega) hT
          have E1 := Lib.hid (all_does (pre := []) (post := [rcomp r2 R2 C, rcomp r1 R1 A, gcomp g L A]) m hv hs x)
          have Y := Lib.hid (And.intro hv (And.intro hs (And.intro hT (And.intro hsm hF))))
          clear hv hs hT m hsm hF hx hxv
          go_wp2_with (first
            | (go_at_call 11; (with_reducible refine E1.out.mono ?_); rintro e w5 ⟨rfl, L5, m5⟩; obtain ⟨kf0, kf1, kf2, kf3, kf4, kf5⟩ := Y.out.2.2.2.2 _ m5.new; have E2 := Lib.hid (all_says (pre := [gcomp c L5 (C.act x).1]) (post := [rcomp r1 R1 A, gcomp g L A]) m5 Y.out.2.2.1 Y.out.1 Y.out.2.1 x); clear m5)
            | (go_at_call 12; (with_reducible refine E2.out.mono ?_); rintro e w6 ⟨rfl, L6, m6⟩))
          go_roundw
          case rel => exact ⟨i + 1, (C.act x).1, L5, L6, by omega, by go_num, by have := Y.out.2.2.2.1.2.2.1; omega, Y.out.2.2.2.1.1, Y.out.2.2.2.1.2.1, Y.out.2.2.2.1.2.2.2, m6⟩
          case measure => simp [intOf]; omega
        · have hle : ((l2.length : Nat) : Int) ≤ i := by omega
          have E1 := Lib.hid (all_looks m (by simp : gcomp g L A ∈ _) (by simp : rcomp r1 R1 A ∈ _) X.out.2.1 X.out.2.2.1)
          have Y := Lib.hid (And.intro hs hT)
          clear hv hs hT m hil
          go_wp2_with (first
            | (go_at_call 16; (with_reducible refine E1.out.mono ?_); rintro e w5 ⟨rfl, m5⟩; have E2 := Lib.hid (all_looks m5 (by simp : gcomp c LC C ∈ _) (by simp : rcomp r2 R2 C ∈ _) Y.out.1 Y.out.2); clear m5)
            | (go_at_call 16; (with_reducible refine E2.out.mono ?_); rintro e w6 ⟨rfl, m6⟩)
            | (go_at_call 7; (with_reducible refine (wakes_call _).mono ?_); rintro e w9 ⟨rfl, n9⟩))
          go_ret
          exact ⟨rfl, Fr.trans m6.new n9⟩

end Go.Proofs.Ytnhombeagbhccaa
