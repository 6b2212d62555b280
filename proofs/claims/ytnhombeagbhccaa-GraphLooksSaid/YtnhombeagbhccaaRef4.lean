/- Package demesneref09: All. -/
import Derived.Test.YtnhombeagbhccaaRef3
import Derived.Deep.Cut
namespace Go.Proofs.Ytnhombeagbhccaa
open Go.RowKit

theorem all_take (R : AR) {k : Nat} (h : k < R.refs.length) : (R.refs.take (k + 1)).filter (fun x => x != 0) = (R.refs.take k).filter (fun x => x != 0) ++ if R.refs.getD k 0 = 0 then [] else [R.refs.getD k 0] := by
  rw [List.take_succ_eq_append_getElem h, List.filter_append]
  have e : R.refs.getD k 0 = R.refs[k] := by simp [List.getD, h]
  rw [e]
  by_cases h0 : R.refs[k] = 0 <;> simp [h0]

set_option maxRecDepth 100000 in
set_option maxHeartbeats 1000000 in
theorem ref09_All (sv kv : Value) (R : AR) (w : World) (hs : Sl w 3 sv (R.slots.map I)) (hk : Sl w 3 kv (R.stack.map I)) (h8 : R.slots.length ≤ 8) (h16 : R.stack.length ≤ 16) :
    Calls Try.prog 48 #[.agg #[sv, kv]] w fun e w' => ∃ v, e = .returned v ∧ w'.ownsRow w.heap.size 3 1 v R.all.length (R.all.map I) ∧ New w w' := by
  obtain ⟨ao, cap, rfl, hc, hno, hcl, hz⟩ := hs.shape
  clear hz
  obtain ⟨ak, ck, rfl, hc2, hno2, hcl2, hz⟩ := hk.shape
  clear hz
  simp only [List.length_map] at hs hk hc hno hc2 hno2 ⊢
  have H := Lib.hid (And.intro hs (And.intro hk (And.intro hcl hcl2)))
  clear hs hk hcl hcl2 hno hno2
  have h8' : (R.slots.length : Int) ≤ 8 := by omega
  have h16' : (R.stack.length : Int) ≤ 16 := by omega
  go_enter Try.func48, Try.ntmps48
  go_wp2_with fail
  have bb := heap_alloc_new w (.cells #[.slice ao R.slots.length cap, .slice ak R.stack.length ck] 65)
  have n0 : New w (w.alloc (.cells #[.slice ao R.slots.length cap, .slice ak R.stack.length ck] 65)) := (Fr.refl _ _).alloc _
  have hrl : R.refs.length = R.slots.length + R.stack.length := by simp [AR.refs]
  have hsl : ∀ (W : World) (k : Nat), New w W → k < R.slots.length → ∃ sb, ao = some ⟨sb, 0, none⟩ ∧ W.cell? ⟨sb, k, none⟩ = some (I (R.refs.getD k 0)) := by
    intro W k hn hk
    have h1 := H.out.1.fr hn (fun _ _ x => x)
    obtain ⟨_, _, e, _, _, h2, h3⟩ := h1.shape
    obtain ⟨rfl, _, rfl⟩ := Value.slice.inj e
    obtain ⟨sb, rfl, _⟩ := h3 (fun e => by have := congrArg List.length e; simp at this; rw [this] at hk; simp at hk)
    refine ⟨sb, rfl, ?_⟩
    have := h2 _ rfl k (I (R.refs.getD k 0)) (by rw [List.getElem?_map, List.getElem?_eq_getElem hk]; simp [AR.refs, List.getD, List.getElem?_append_left hk, hk])
    rw [add_off, Nat.zero_add] at this
    exact this
  have hkl : ∀ (W : World) (k : Nat), New w W → k < R.stack.length → ∃ sb, ak = some ⟨sb, 0, none⟩ ∧ W.cell? ⟨sb, k, none⟩ = some (I (R.refs.getD (R.slots.length + k) 0)) := by
    intro W k hn hk
    have h1 := H.out.2.1.fr hn (fun _ _ x => x)
    obtain ⟨_, _, e, _, _, h2, h3⟩ := h1.shape
    obtain ⟨rfl, _, rfl⟩ := Value.slice.inj e
    obtain ⟨sb, rfl, _⟩ := h3 (fun e => by have := congrArg List.length e; simp at this; rw [this] at hk; simp at hk)
    refine ⟨sb, rfl, ?_⟩
    have := h2 _ rfl k (I (R.refs.getD (R.slots.length + k) 0)) (by rw [List.getElem?_map, List.getElem?_eq_getElem hk]; simp [AR.refs, List.getD, hk])
    rw [add_off, Nat.zero_add] at this
    exact this
  have HS := Lib.hid (And.intro hsl (And.intro hkl hrl))
  clear hsl hkl hrl
  generalize w.alloc (.cells #[.slice ao R.slots.length cap, .slice ak R.stack.length ck] 65) = w1 at bb n0 ⊢
  go_loopw [3, 4] (fun v i wr => ∃ k : Nat, k ≤ R.refs.length ∧ i = I k ∧ wr.ownsRow (w.heap.size + 1) 3 1 v ((R.refs.take k).filter (fun x => x != 0)).length (((R.refs.take k).filter (fun x => x != 0)).map I) ∧ New w wr ∧ wr.heap[w.heap.size]? = some (.cells #[.slice ao R.slots.length cap, .slice ak R.stack.length ck] 65 (0, 0))) (fun _ i _ => R.refs.length - (intOf i).toNat)
  case atStart => exact ⟨0, by omega, rfl, World.ownsRow_nil _ _ _ _, n0, bb⟩
  case round =>
    obtain ⟨k, hk, rfl, hown, hnr, hbb⟩ := hrel
    clear bb
    have c0 := cell_blk (i := 0) (v := .slice ao R.slots.length cap) hbb rfl
    have c1 := cell_blk (i := 1) (v := .slice ak R.stack.length ck) hbb rfl
    have HB := Lib.hid hbb
    clear hbb
    by_cases hlt : k < R.refs.length
    · have hat := all_take R hlt
      have hfl : ((R.refs.take k).filter (fun x => x != 0)).length ≤ 24 := by
        refine Nat.le_trans (List.length_filter_le _ _) ?_
        have := HS.out.2.2
        simp only [List.length_take]; omega
      have hlt' : (k : Int) < (R.slots.length : Int) + (R.stack.length : Int) := by have := HS.out.2.2; omega
      have HT := Lib.hid (And.intro hlt (And.intro hfl hk))
      clear hfl hlt hk
      by_cases hka : k < R.slots.length
      · obtain ⟨sb, rfl, hcell⟩ := HS.out.1 _ k hnr hka
        have hka' : (k : Int) < R.slots.length := by omega
        generalize R.refs.getD k 0 = x at hat hcell
        by_cases hx : x = 0
        · subst hx
          rw [if_pos rfl, List.append_nil] at hat
          have HA := Lib.hid hat
          clear hat
          go_wp2_with fail
          go_roundw
          case rel => exact ⟨k + 1, by have := HT.out.1; omega, by go_num, by rw [HA.out]; exact hown, hnr, HB.out⟩
          case measure => have := HT.out.1; simp [intOf]; omega
        · rw [if_neg hx] at hat
          have HA := Lib.hid hat
          have qx : (x != 0) = true := by simpa using hx
          clear hat hx
          go_wp2_with (at_builtin; (refine wpList_append_fr rfl (.tmp 38) (.tmp 40) 37 rfl 3 (I 0) 1 8 Try.underlying37 Try.info3 rfl (by decide) (by decide) (w.heap.size + 1) _ _ _ rfl (hown.alloc _) (some ⟨wr.heap.size, 0, none⟩) 1 1 [I x] rfl rfl (by simp) ?_ ?_ ?_ ?_ ?_); (intro ad h; cases h; exact cell_one_new _ _ _); (intro u hu; simp at hu; subst hu; rfl); (have := HT.out.2.1; omega); (have := hnr.size; have := lt_of_block HB.out; simp; omega); intro v' w3 hown' hfr' hloc')
          go_roundw
          case rel => exact ⟨k + 1, by have := HT.out.1; omega, by go_num, by rw [HA.out]; simpa using hown', New.then (Fr.alloc hnr _) hfr' (fun j hj e => by have := (hown.lt _ e).1; omega), hfr'.blk (heap_alloc_old HB.out) (fun e => by have := (hown.lt _ e).1; omega)⟩
          case measure => have := HT.out.1; simp [intOf]; omega
      · obtain ⟨j, rfl⟩ : ∃ j, k = R.slots.length + j := ⟨k - R.slots.length, by omega⟩
        have hjb : j < R.stack.length := by omega
        obtain ⟨sb, rfl, hcell⟩ := HS.out.2.1 _ j hnr hjb
        have hj' : (j : Int) < R.stack.length := by omega
        have hj0 : (0 : Int) ≤ (j : Int) := by omega
        generalize R.refs.getD (R.slots.length + j) 0 = x at hat hcell
        clear hka
        by_cases hx : x = 0
        · subst hx
          rw [if_pos rfl, List.append_nil] at hat
          have HA := Lib.hid hat
          clear hat
          go_wp2_with fail
          go_roundw
          case rel => exact ⟨R.slots.length + j + 1, by have := HT.out.1; omega, by go_num, by rw [HA.out]; exact hown, hnr, HB.out⟩
          case measure => have := HT.out.1; simp [intOf]; omega
        · rw [if_neg hx] at hat
          have HA := Lib.hid hat
          have qx : (x != 0) = true := by simpa using hx
          clear hat hx
          go_wp2_with (at_builtin; (refine wpList_append_fr rfl (.tmp 38) (.tmp 40) 37 rfl 3 (I 0) 1 8 Try.underlying37 Try.info3 rfl (by decide) (by decide) (w.heap.size + 1) _ _ _ rfl (hown.alloc _) (some ⟨wr.heap.size, 0, none⟩) 1 1 [I x] rfl rfl (by simp) ?_ ?_ ?_ ?_ ?_); (intro ad h; cases h; exact cell_one_new _ _ _); (intro u hu; simp at hu; subst hu; rfl); (have := HT.out.2.1; omega); (have := hnr.size; have := lt_of_block HB.out; simp; omega); intro v' w3 hown' hfr' hloc')
          go_roundw
          case rel => exact ⟨R.slots.length + j + 1, by have := HT.out.1; omega, by go_num, by rw [HA.out]; simpa using hown', New.then (Fr.alloc hnr _) hfr' (fun j hj e => by have := (hown.lt _ e).1; omega), hfr'.blk (heap_alloc_old HB.out) (fun e => by have := (hown.lt _ e).1; omega)⟩
          case measure => have := HT.out.1; simp [intOf]; omega
    · have hkk : k = R.refs.length := by omega
      have hle : (R.slots.length : Int) + (R.stack.length : Int) ≤ k := by have := HS.out.2.2; omega
      have htk : R.refs.take k = R.refs := by rw [hkk]; exact List.take_length
      rw [htk] at hown
      clear hkk htk hlt hk
      go_wp2_with fail
      go_ret
      exact ⟨_, rfl, ⟨hown.1, hown.2.imp id (fun ⟨g, cap, cur, a, b, c⟩ => ⟨g, cap, cur, a, by omega, c⟩)⟩, hnr⟩
end Go.Proofs.Ytnhombeagbhccaa
