/- Package roots, program side: Stack and All. -/
import Derived.Test.YtnhombeagbhccaaRoots
import Derived.Test.YtnhombeagbhccaaLaws
namespace Go.Proofs.Ytnhombeagbhccaa
open Go.RowKit

theorem Try.info3 : (Try.prog.info? 3).map (fun i => (i.zero, i.size, i.bytes)) = some (some (.int .i64 0), 1, 8) := by kernel_rfl

theorem New.refl (w : World) : New w w := Fr.refl _ _


theorem splice_all {α : Type} (x : α) (cs : List α) : splice (List.replicate cs.length x) 0 cs = cs := by
  simp [splice]

set_option maxRecDepth 100000 in
theorem roots_stack (w : World) (r : Nat) (R : AR) (h : RootsAt w r R) :
    Calls Try.prog 74 #[Pt r] w fun e w' => ∃ v, e = .returned v ∧ w'.ownsRow w.heap.size 3 1 v R.stack.length (R.stack.map I) ∧ New w w' := by
  obtain ⟨C, hb, hR⟩ := h
  have hc := cell_blk hb hR.d
  have hd := hR.deep
  have hd2 : (R.stack.length : Int) ≤ 16 := by omega
  have hsl := fun w => run_sliceAt_arr (P := Try.prog) (t := 97) (e := 3) (N := 16) Try.underlying97 (by kernel_rfl) ⟨r, 9, none⟩ R.stack.length hd w
  go_enter Try.func74, Try.ntmps74
  go_wp2_with (refine wpList_mk_fr rfl _ _ 37 rfl Try.underlying37 Try.info3 rfl R.stack.length rfl rfl ?_ ?_ ?_ ?_; (omega); (omega); (omega); intro w1 hb1 hn1 hs1)
  have hc1 := cell_blk (hn1.blk hb) hR.d
  go_still_tail 9, (by kernel_rfl)
  simp only [Int.toNat_natCast] at hb1
  have q3 : 0 < (R.stack.map I).length → some (⟨w.heap.size, 0, none⟩ : Addr) = some ⟨w.heap.size, 0, none⟩ ∧ ∃ ad, some (⟨r, 9, none⟩ : Addr) = some ad ∧ ∀ j v, (R.stack.map I)[j]? = some v → w1.drew.cell? (ad.add j) = some v := fun _ =>
    ⟨rfl, _, rfl, cells_blk (w := w1) (hn1.blk hb) (fun j hj => by simp at hj; simp [hR.stk j hj, hj])⟩
  have q4 : 0 + (R.stack.map I).length ≤ (List.replicate R.stack.length (I 0)).length := by simp
  have q2 : (R.stack.map I).length = Nat.min R.stack.length R.stack.length := by simp
  go_wp2_with (refine wpList_copy_fr rfl (.tmp 11) (.tmp 19) 37 37 rfl 3 Try.underlying37 (by kernel_rfl) _ _ _ _ _ _ rfl rfl w.heap.size 0 (List.replicate R.stack.length (I 0)) 3 (by exact hb1) (R.stack.map I) (by exact q2) (by exact q3) (by exact q4) (by exact one_I _) ?_; intro w2 hb2 hf2)
  go_ret
  exact ⟨_, rfl, owns_blk hb2 (Nat.le_refl _) (Nat.le_refl _) (by omega) (by simp [splice]) (by rw [List.take_of_length_le (by simp [splice])]; simp [splice]), hn1.then (Fr.ofDrew hf2) (fun i hi e => by omega)⟩


theorem all_snoc (l : List Int) (k : Nat) (hk : k < l.length) :
    (l.take (k + 1)).filter (fun x => x != 0) = (l.take k).filter (fun x => x != 0) ++ (if (l.getD k 0 != 0) = true then [l.getD k 0] else []) := by
  rw [List.take_succ_eq_append_getElem hk, List.filter_append]
  simp [List.getD, hk, List.filter_cons]

set_option maxRecDepth 100000 in
theorem roots_all (w : World) (r : Nat) (R : AR) (h : RootsAt w r R) :
    Calls Try.prog 45 #[Pt r] w fun e w' => ∃ v, e = .returned v ∧ w'.ownsRow w.heap.size 3 1 v R.all.length (R.all.map I) ∧ New w w' := by
  obtain ⟨C, hb, hR⟩ := h
  have hc := cell_blk hb hR.d
  have hcn := cell_blk hb hR.n
  have hd := hR.deep
  have hl := hR.le
  have hd2 : (R.stack.length : Int) ≤ 16 := by omega
  have hl2 : (R.slots.length : Int) ≤ 8 := by omega
  have hsl := fun w => run_sliceAt_arr (P := Try.prog) (t := 97) (e := 3) (N := 16) Try.underlying97 (by kernel_rfl) ⟨r, 9, none⟩ R.stack.length hd w
  have hsl2 := fun w => run_sliceAt_arr (P := Try.prog) (t := 96) (e := 3) (N := 8) Try.underlying96 (by kernel_rfl) ⟨r, 0, none⟩ R.slots.length hl w
  go_enter Try.func45, Try.ntmps45
  go_wp2_with fail
  have hwr : IntKind.i64.wrap ((R.slots.length : Int) + (R.stack.length : Int)) = ((R.slots.length + R.stack.length : Nat) : Int) := by
    rw [IntWalk.i64_in _ (by omega)]; simp
  go_still_tail 9, (by kernel_rfl)
  clear hwr
  go_wp2_with (refine wpList_mk_fr rfl _ _ 37 rfl Try.underlying37 Try.info3 rfl ((R.slots.length + R.stack.length : Nat) : Int) rfl rfl ?_ ?_ ?_ ?_; (omega); (omega); (omega); intro w1 hb1 hn1 hs1)
  have hbr1 := New.blk (w := w) (w' := w1) (Fr.ofDrew hn1) hb
  have hc1 := cell_blk hbr1 hR.d
  have hcn1 := cell_blk hbr1 hR.n
  simp only [Int.toNat_natCast] at hb1
  go_still_tail 9, (by kernel_rfl)
  have c1 : (R.slots.map I).length = Nat.min R.slots.length (R.slots.length + R.stack.length) := by simp
  have c2 : 0 < (R.slots.map I).length → some (⟨w.heap.size, 0, none⟩ : Addr) = some ⟨w.heap.size, 0, none⟩ ∧ ∃ ad, some (⟨r, 0, none⟩ : Addr) = some ad ∧ ∀ j v, (R.slots.map I)[j]? = some v → w1.cell? (ad.add j) = some v := fun _ =>
    ⟨rfl, _, rfl, cells_blk (w := w1) hbr1 (fun j hj => by simp at hj; simp [hR.slot j hj, hj])⟩
  have c3 : 0 + (R.slots.map I).length ≤ (List.replicate (R.slots.length + R.stack.length) (I 0)).length := by simp
  go_wp2_with (refine wpList_copy_fr rfl (.tmp 19) (.tmp 27) 37 37 rfl 3 Try.underlying37 (by kernel_rfl) _ _ _ _ _ _ rfl rfl w.heap.size 0 (List.replicate (R.slots.length + R.stack.length) (I 0)) 3 (by exact hb1) (R.slots.map I) (by exact c1) (by exact c2) (by exact c3) (by exact one_I _) ?_; intro w2 hb2 hf2)
  clear c1 c2 c3
  have hbr2 := Fr.blk (w := w1) (w' := w2) (Fr.ofDrew hf2) hbr1 (by have := lt_of_block hb; omega)
  have hc2 := cell_blk hbr2 hR.d
  have hcn2 := cell_blk hbr2 hR.n
  have hn2 : New w w2 := (New.then (Fr.ofDrew hn1) (Fr.ofDrew hf2) (fun i hi e => by omega))
  have hsl3 := fun w' => run_sliceAt_from (P := Try.prog) (t := 37) (e := 3) (size := 1) Try.underlying37 (by kernel_rfl) (some ⟨w.heap.size, 0, none⟩) (R.slots.length + R.stack.length) (R.slots.length + R.stack.length) R.slots.length (by omega) (Nat.le_refl _) w'
  simp only [Nat.add_sub_cancel_left] at hsl3
  go_still_tail 14, (by kernel_rfl)
  have c1 : (R.stack.map I).length = Nat.min R.stack.length R.stack.length := by simp
  have c2 : 0 < (R.stack.map I).length → cutA (some ⟨w.heap.size, 0, none⟩) R.slots.length (R.slots.length + R.stack.length) 1 = some ⟨w.heap.size, R.slots.length, none⟩ ∧ ∃ ad, some (⟨r, 9, none⟩ : Addr) = some ad ∧ ∀ j v, (R.stack.map I)[j]? = some v → w2.cell? (ad.add j) = some v := fun h0 =>
    ⟨by simp only [List.length_map] at h0; rw [cutA, if_neg (by omega)]; simp [add_off], _, rfl, cells_blk (w := w2) hbr2 (fun j hj => by simp at hj; simp [hR.stk j hj, hj])⟩
  have c3 : R.slots.length + (R.stack.map I).length ≤ (splice (List.replicate (R.slots.length + R.stack.length) (I 0)) 0 (R.slots.map I)).length := by simp [splice]
  go_wp2_with (refine wpList_copy_fr rfl (.tmp 34) (.tmp 42) 37 37 rfl 3 Try.underlying37 (by kernel_rfl) _ _ _ _ _ _ rfl rfl w.heap.size R.slots.length (splice (List.replicate (R.slots.length + R.stack.length) (I 0)) 0 (R.slots.map I)) 3 (by exact hb2) (R.stack.map I) (by exact c1) (by exact c2) (by exact c3) (by exact one_I _) ?_; intro w3 hb3 hf3)
  clear c1 c2 c3 hsl3
  have hn3 : New w w3 := hn2.then (Fr.ofDrew hf3) (fun i hi e => by omega)
  have e3 : splice (splice (List.replicate (R.slots.length + R.stack.length) (I 0)) 0 (R.slots.map I)) R.slots.length (R.stack.map I) = R.refs.map I := by
    simp [splice, AR.refs]
  rw [e3] at hb3
  clear e3 hb2 hf2 hbr2 hc2 hcn2 hb1 hn1 hs1 hbr1 hc1 hcn1 hsl hsl2 hc hcn
  have hlen : R.slots.length + R.stack.length = R.refs.length := by simp [AR.refs]
  have HL := Lib.hid hlen
  have hlt : w.heap.size < w3.heap.size := lt_of_block hb3
  clear hlen hf3 hn2 hR hb
  go_loopw [4, 46] (fun v i wr => ∃ k : Nat, (k : Int) ≤ R.slots.length + R.stack.length ∧ i = I k ∧ wr.ownsRow (w.heap.size + 1) 3 1 v ((R.refs.take k).filter (fun x => x != 0)).length (((R.refs.take k).filter (fun x => x != 0)).map I) ∧
      wr.heap[w.heap.size]? = some (.cells (R.refs.map I).toArray 3 (0, 0)) ∧ New w wr)
    (fun _ i _ => R.slots.length + R.stack.length - (intOf i).toNat)
  case atStart => exact ⟨0, by omega, rfl, World.ownsRow_nil _ _ _ _, hb3, hn3⟩
  case round =>
    obtain ⟨k, hk, rfl, hown, hbr, hnr⟩ := hrel
    by_cases hlt2 : k < R.slots.length + R.stack.length
    · have hkl : k < R.refs.length := by have := HL.out; omega
      have hcell := cell_blk (i := k) (v := I (R.refs.getD k 0)) hbr (by simp [List.getD, hkl])
      have hsn := all_snoc R.refs k hkl
      have hle : ((R.refs.take k).filter (fun x => x != 0)).length ≤ k := Nat.le_trans (List.length_filter_le _ _) (List.length_take_le _ _)
      generalize hx : R.refs.getD k 0 = x at hcell hsn
      have hlt' : w.heap.size < wr.heap.size := lt_of_block hbr
      by_cases hx0 : x = 0
      · subst hx0
        simp only [bne_self_eq_false, Bool.false_eq_true, if_false, List.append_nil] at hsn
        have HS := Lib.hid (And.intro hsn hbr)
        clear hsn hbr
        go_wp2
        go_roundw
        case rel => exact ⟨k + 1, by omega, by go_num, by rw [HS.out.1]; exact hown, HS.out.2, hnr⟩
        case measure => simp [intOf]; omega
      · have hx1 : (x != 0) = true := by simpa using hx0
        rw [if_pos hx1] at hsn
        have HS := Lib.hid (And.intro hsn hbr)
        clear hsn hbr hx0
        go_wp2_with (at_builtin; (refine wpList_append_fr rfl (.tmp 52) (.tmp 54) 37 rfl 3 (I 0) 1 8 Try.underlying37 Try.info3 rfl (by decide) (by decide) (w.heap.size + 1) _ _ _ rfl (hown.alloc _) (some ⟨wr.heap.size, 0, none⟩) 1 1 [I x] rfl rfl (by simp) ?_ ?_ ?_ ?_ ?_); (intro ad h; cases h; exact cell_one_new _ _ _); (intro u hu; simp at hu; subst hu; rfl); (omega); (simp; omega); intro v' w' hown' hfr' hloc')
        go_roundw
        case rel =>
          refine ⟨k + 1, by omega, by go_num, ?_, ?_, ?_⟩
          · rw [HS.out.1]; simpa using hown'
          · exact Fr.blk hfr' (heap_alloc_old HS.out.2) (fun e => by have := (hown.lt _ e).1; omega)
          · exact New.then (Fr.alloc hnr _) hfr' (fun i hi e => by have := (hown.lt _ e).1; omega)
        case measure => simp [intOf]; omega
    · have hkl : k = R.refs.length := by have := HL.out; omega
      have hk2 : ((R.slots.length : Int) + R.stack.length) ≤ k := by omega
      have HK := Lib.hid hkl
      clear hkl
      go_wp2
      go_ret
      refine ⟨_, rfl, ?_, hnr⟩
      have e : R.refs.take k = R.refs := List.take_of_length_le (by rw [HK.out]; exact Nat.le_refl _)
      rw [e] at hown
      exact ⟨hown.1, hown.2.imp id (fun ⟨g, cap, cur, h1, h2, h3⟩ => ⟨g, cap, cur, h1, by omega, h3⟩)⟩

end Go.Proofs.Ytnhombeagbhccaa
