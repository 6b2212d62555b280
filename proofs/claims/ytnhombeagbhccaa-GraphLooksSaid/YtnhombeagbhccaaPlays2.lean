/- GraphPlays: its walk. -/
import Derived.Test.YtnhombeagbhccaaPlays
namespace Go.Proofs.Ytnhombeagbhccaa
open Go.RowKit

theorem plays_far (t s k : Int) (v : Value) (l : List AA) (w : World) (hl : ActsAt w v l) (h : 150 < l.length) :
    Calls Try.prog 3 #[I t, I s, I k, v] w fun e w' => e = .returned (.bool true) ∧ New w w' := by
  obtain ⟨ao, cap, rfl, hcap, -⟩ := hl
  have h' : (150 : Int) < l.length := by omega
  go_enter Try.func3, Try.ntmps3
  go_wp2_with (go_at_call 7; (with_reducible refine (wakes_call _).mono ?_); rintro e w9 ⟨rfl, n9⟩)
  go_ret
  exact ⟨rfl, n9⟩

theorem new_bad (t s k : Int) (w : World) (h : ¬ (1 ≤ t ∧ t ≤ 64 ∧ 1 ≤ s ∧ s ≤ 8 ∧ 0 ≤ k ∧ k ≤ 8)) :
    Calls Try.prog 8 #[I t, I s, I k] w fun e w' => e = .returned (.tuple #[.pointer none, I 2]) ∧ New w w' := by
  by_cases h1 : t < 1 ∨ 64 < t ∨ k < 0 ∨ 8 < k
  · exact graph_New_bad1 t s k w h1
  · exact graph_New_bad2 t s k w (by omega) (by omega) (by omega) (by omega) (by omega)

theorem plays_bad (t s k : Int) (v : Value) (l : List AA) (w : World) (hl : ActsAt w v l) (h150 : l.length ≤ 150) (h : ¬ (1 ≤ t ∧ t ≤ 64 ∧ 1 ≤ s ∧ s ≤ 8 ∧ 0 ≤ k ∧ k ≤ 8)) :
    Calls Try.prog 3 #[I t, I s, I k, v] w fun e w' => e = .returned (.bool true) ∧ New w w' := by
  obtain ⟨ao, cap, rfl, hcap, -⟩ := hl
  have h' : ¬ (150 : Int) < l.length := by omega
  have H := Lib.hid h
  clear h
  go_enter Try.func3, Try.ntmps3
  go_wp2_with (first
    | (go_at_call 8; (with_reducible refine (new_bad t s k _ H.out).mono ?_); rintro e w1 ⟨rfl, n1⟩)
    | (go_at_call 9; (with_reducible refine (ref_May_no t s k _ H.out).mono ?_); rintro e w2 ⟨rfl, rfl⟩)
    | (go_at_call 7; (with_reducible refine (wakes_call _).mono ?_); rintro e w9 ⟨rfl, n9⟩))
  go_ret
  exact ⟨rfl, Fr.trans n1 n9⟩

theorem act_small {A : AG} (hv : A.Valid) (hs : A.Small) (x : AA) (hw : 0 ≤ x.v ∧ x.v < 18446744073709551616) {k : Nat} (hk : A.O.length ≤ k) (h : k < 1000) (hT : 0 < A.T.length) :
    (A.act x).1.Valid ∧ (A.act x).1.Small ∧ (A.act x).1.O.length ≤ k + 1 ∧ 0 < (A.act x).1.T.length := by
  obtain ⟨h1, h2, h3⟩ := act_good hv x hw
  exact ⟨h1.valid, h1.small hs (by omega), by omega, by rw [h1.thr]; exact hT⟩

set_option maxHeartbeats 4000000 in
set_option maxRecDepth 100000 in
theorem plays_good (t s k : Nat) (v : Value) (l : List AA) (w : World) (hl : ActsAt w v l) (h150 : l.length ≤ 150) (h1 : 1 ≤ t) (h2 : t ≤ 64) (h3 : 1 ≤ s) (h4 : s ≤ 8) (h5 : k ≤ 8) :
    Calls Try.prog 3 #[I t, I s, I k, v] w fun e w' => e = .returned (.bool true) ∧ New w w' := by
  obtain ⟨ao, cap, rfl, hcap, hno, hcell, hw⟩ := hl
  have h150' : (l.length : Int) ≤ 150 := by omega
  have C0 := Lib.hid (mine_New t s k w h1 h2 h5 h3 h4)
  have HC := Lib.hid (And.intro hcell hw)
  clear hcell hw
  go_enter Try.func3, Try.ntmps3
  go_wp2_with (first
    | (go_at_call 8; (with_reducible refine C0.out.mono ?_); rintro e w1 ⟨g, rfl, m1⟩)
    | (go_at_call 9; (with_reducible refine (ref_May_yes t s k _ ⟨by omega, by omega, by omega, by omega, by omega, by omega⟩).mono ?_); rintro e w2 ⟨rfl, rfl⟩)
    | (go_at_call 10; (with_reducible refine (both_New m1 t s k h2 h5 h4).mono ?_); rintro e w2 ⟨r, rfl, m2⟩))
  have HV := Lib.hid (And.intro (fresh_valid t s k) (And.intro (fresh_small t s k h2 h5 h4) (show 0 < (AG.fresh t s k).T.length by simp [AG.fresh]; omega)))
  clear m1
  go_loopw [12] (fun iv W => ∃ (j : Nat) (A : AG), j ≤ l.length ∧ iv = I j ∧ A.O.length ≤ j ∧ A.Valid ∧ A.Small ∧ 0 < A.T.length ∧ Both w W g A r A) (fun iv _ => l.length - (intOf iv).toNat)
  case atStart => exact ⟨0, _, by omega, rfl, by simp [AG.fresh], HV.out.1, HV.out.2.1, HV.out.2.2, m2⟩
  case round =>
    clear m2
    obtain ⟨j, A, hj, rfl, hA, hv, hs, hT, m⟩ := hrel
    by_cases hlt : j < l.length
    · have hlt' : (j : Int) < l.length := by omega
      obtain ⟨ad, rfl⟩ : ∃ ad, ao = some ad := by
        cases ao with
        | none => have := hno rfl; subst this; simp at hlt
        | some ad => exact ⟨ad, rfl⟩
      obtain ⟨x, hx⟩ : ∃ x, l[j]? = some x := ⟨_, List.getElem?_eq_getElem hlt⟩
      have hxv := HC.out.2 x (List.mem_of_getElem? hx)
      obtain ⟨hadl, hcl⟩ := HC.out.1 ad rfl j x hx
      have hF : ∀ W, New w W → FieldsAt W (ad.add (j * 6)) x := fun W hW => fields_at hadl hcl hW
      obtain ⟨hf0, hf1, hf2, hf3, hf4, hf5⟩ := hF _ m.new
      have hsm := act_small hv hs x hxv hA (by omega) hT
      have X := Lib.hid (And.intro hv (And.intro hs (And.intro hT (And.intro m (And.intro hsm (And.intro hF hx))))))
      clear hv hs hT m hsm hF hx hcl hxv hno
      go_wp2_with (first
        | (go_at_call 11; (with_reducible refine (both_does X.out.2.2.2.1 X.out.1 X.out.2.1 x).mono ?_); rintro e w3 ⟨rfl, m3⟩; obtain ⟨kf0, kf1, kf2, kf3, kf4, kf5⟩ := X.out.2.2.2.2.2.1 _ m3.new)
        | (go_at_call 12; (with_reducible refine (both_says m3 X.out.2.2.1 X.out.1 X.out.2.1 x).mono ?_); rintro e w4 ⟨rfl, m4⟩))
      go_roundw
      case rel => exact ⟨j + 1, (A.act x).1, by omega, by go_num, X.out.2.2.2.2.1.2.2.1, X.out.2.2.2.2.1.1, X.out.2.2.2.2.1.2.1, X.out.2.2.2.2.1.2.2.2, m4⟩
      case measure => simp [intOf]; omega
    · have hjj : j = l.length := by omega
      have hle : ((l.length : Nat) : Int) ≤ j := by omega
      have qj : decide (j < l.length) = false := decide_eq_false hlt
      have X := Lib.hid (And.intro hv (And.intro hs (And.intro hT m)))
      clear hv hs hT m hjj hlt hj hno
      go_wp2_with (first
        | (go_at_call 13; (with_reducible refine (both_Reach X.out.2.2.2 X.out.1 X.out.2.1).mono ?_); rintro e w3 ⟨va, la, rfl, hTo, hown, m3, n3⟩; obtain ⟨av, cv, rfl⟩ := own_any hown)
        | (go_at_call 14; (with_reducible refine (both_RefReach m3 X.out.2.2.1 X.out.1 X.out.2.1).mono ?_); rintro e w4 ⟨bs, rfl, hO, hbl, hbs, n4⟩))
      have hO1000 : ((A.O.length : Nat) : Int) ≤ 1000 := by have := X.out.2.1.objs; omega
      have hla := told_len hTo X.out.1
      have hla' : ((la.length : Nat) : Int) ≤ 1000 := by omega
      have hmem : ∀ x ∈ la, 1 ≤ x ∧ x ≤ A.O.length := fun x hx => X.out.1.reached ((hTo.mem x).1 hx)
      have own4 := ownsRow_fr hown n4 (fun _ _ x => x)
      have Y := Lib.hid (And.intro hTo (And.intro hO (And.intro hbl (And.intro hbs (And.intro hmem (And.intro own4 (Fr.trans m3.new n4)))))))
      generalize w3.heap.size = ob at *
      clear hTo hO hbl hbs hmem own4 hown m3 n3 n4 qj hle hla C0
      go_loop [19, 20] (fun kv nv => ∃ (q kk : Nat), q ≤ A.O.length ∧ nv = I ((q : Int) + 1) ∧ kv = I kk ∧ CutAt la ((q : Int) + 1) kk) (fun _ nv => A.O.length + 1 - (intOf nv).toNat)
      case atStart => exact ⟨0, 0, by omega, rfl, rfl, CutAt.start (fun x hx => (Y.out.2.2.2.2.1 x hx).1)⟩
      case round =>
        obtain ⟨q, kk, hq, rfl, rfl, hcut⟩ := hrel
        by_cases hlt : q < A.O.length
        · have hlt' : (q : Int) + 1 < (A.O.length : Int) + 1 := by omega
          have en : ((q : Int) + 1).toNat = q + 1 := by omega
          have hiff := Y.out.2.2.2.1 (q + 1) (by omega)
          obtain ⟨b, hb⟩ : ∃ b, Y.out.2.1 = Y.out.2.1 ∧ bs[q + 1]? = some b := by
            have := Y.out.2.2.1
            exact ⟨_, rfl, List.getElem?_eq_getElem (by omega)⟩
          have hcb := Y.out.2.1.cell hb.2
          have hkl := hcut.le
          cases b with
          | false =>
            have hnm : ((q : Int) + 1) ∉ la := fun hm => by
              have := hiff.2 (by have := (Y.out.1.mem _).1 hm; simpa using this)
              rw [hb.2] at this; cases this
            have Z := Lib.hid (hcut.no hnm)
            clear hnm hiff hb hcut en
            go_wp2
            go_round
            case rel => exact ⟨q + 1, kk, by omega, by go_num, rfl, Z.out⟩
            case measure => simp [intOf]; omega
          | true =>
            have hm : ((q : Int) + 1) ∈ la := (Y.out.1.mem _).2 (by have := hiff.1 hb.2; simpa using this)
            obtain ⟨hk, hnext⟩ := hcut.yes Y.out.1.sorted hm
            have hkl2 : kk < la.length := (List.getElem?_eq_some_iff.1 hk).1
            obtain ⟨vb, rfl⟩ := own_some Y.out.2.2.2.2.2.1 (by omega)
            have hck := Y.out.2.2.2.2.2.1.cellAt kk (by omega)
            rw [List.getElem?_map, hk, Option.map_some] at hck
            have hkl' : (kk : Int) < la.length := by omega
            have Z := Lib.hid (And.intro hnext hkl2)
            clear hiff hb hcut en hk hnext hm hkl hkl2
            go_wp2
            go_round
            case rel => exact ⟨q + 1, kk + 1, by omega, by go_num, by go_num, Z.out.1⟩
            case measure => simp [intOf]; omega
        · have hqq : q = A.O.length := by omega
          have hkk := hcut.all (fun x hx => by have := (Y.out.2.2.2.2.1 x hx).2; omega)
          subst hkk
          have hle : (A.O.length : Int) + 1 ≤ (q : Int) + 1 := by omega
          have hnl : ¬ ((q : Int) + 1 < (A.O.length : Int) + 1) := by omega
          clear hqq hlt hq hcut
          go_wp2_with (go_at_call 7; (with_reducible refine (wakes_call _).mono ?_); rintro e w9 ⟨rfl, n9⟩)
          go_ret
          exact ⟨rfl, Fr.trans Y.out.2.2.2.2.2.2 n9⟩

end Go.Proofs.Ytnhombeagbhccaa
