/- Package demesneref09: Pop. -/
import Derived.Test.YtnhombeagbhccaaRef2
import Derived.IntWalk
namespace Go.Proofs.Ytnhombeagbhccaa
open Go.RowKit

/-- A block that is made behind w1 is written: what was there is as it was. -/
theorem New.cell_set2 {w1 w2 : World} {p : Addr} {v u u' : Value} {i j : Nat} (nn : New w1 w2) (c : w1.cell? p = some v) : ((w2.setCell ⟨w1.heap.size, i, none⟩ u).setCell ⟨w1.heap.size, j, none⟩ u').cell? p = some v := by
  have hp := World.block_lt_of_cell? _ _ c
  have f : Fr (· = w1.heap.size) w1 ((w2.setCell ⟨w1.heap.size, i, none⟩ u).setCell ⟨w1.heap.size, j, none⟩ u') := Fr.set (F := (· = w1.heap.size)) (Fr.set (F := (· = w1.heap.size)) (New.to nn _) ⟨w1.heap.size, i, none⟩ u rfl) ⟨w1.heap.size, j, none⟩ u' rfl
  exact f.cellK c (fun e => by omega)

set_option maxRecDepth 100000 in
theorem ref09_Pop_bad (sv kv : Value) (R : AR) (i : Int) (w : World) (hs : Sl w 3 sv (R.slots.map I)) (hk : Sl w 3 kv (R.stack.map I)) (hi : ¬ R.ok i) :
    Calls Try.prog 69 #[.agg #[sv, kv], I i] w fun e w' => e = .returned (.tuple #[.agg #[sv, kv], I 2]) ∧ New w w' := by
  obtain ⟨ao, cap, rfl, _⟩ := hs.shape
  obtain ⟨ak, ck, rfl, _⟩ := hk.shape
  simp only [List.length_map] at hs hk ⊢
  have H := Lib.hid (And.intro hs hk)
  clear hs hk
  by_cases h0 : i < 0
  · clear hi
    go_enter Try.func69, Try.ntmps69
    go_wp2
    exact bodyPost_ret (v := .tuple #[.agg #[.slice ao R.slots.length cap, .slice ak R.stack.length ck], I 2]) (by simp [results, Try.results69, go_sem]) rfl ⟨rfl, ((Fr.refl _ _).alloc _).alloc _⟩
  · have h1 : (R.slots.length : Int) ≤ i := by unfold AR.ok at hi; omega
    clear hi
    go_enter Try.func69, Try.ntmps69
    go_wp2
    exact bodyPost_ret (v := .tuple #[.agg #[.slice ao R.slots.length cap, .slice ak R.stack.length ck], I 2]) (by simp [results, Try.results69, go_sem]) rfl ⟨rfl, ((Fr.refl _ _).alloc _).alloc _⟩

set_option maxRecDepth 100000 in
theorem ref09_Pop_none (sv kv : Value) (R : AR) (i : Int) (w : World) (hs : Sl w 3 sv (R.slots.map I)) (hk : Sl w 3 kv (R.stack.map I)) (hi : R.ok i) (hf : R.stack.length = 0) :
    Calls Try.prog 69 #[.agg #[sv, kv], I i] w fun e w' => e = .returned (.tuple #[.agg #[sv, kv], I 5]) ∧ New w w' := by
  obtain ⟨ao, cap, rfl, _⟩ := hs.shape
  obtain ⟨ak, ck, rfl, _⟩ := hk.shape
  simp only [List.length_map] at hs hk ⊢
  have H := Lib.hid (And.intro hs hk)
  clear hs hk
  obtain ⟨h0, h1⟩ := hi
  rw [hf]
  clear hf
  go_enter Try.func69, Try.ntmps69
  go_wp2
  exact bodyPost_ret (v := .tuple #[.agg #[.slice ao R.slots.length cap, .slice ak 0 ck], I 5]) (by simp [results, Try.results69, go_sem]) rfl ⟨rfl, ((Fr.refl _ _).alloc _).alloc _⟩

set_option maxRecDepth 100000 in
set_option maxHeartbeats 2000000 in
theorem ref09_Pop_ok (sv kv : Value) (R : AR) (i : Int) (w : World) (hs : Sl w 3 sv (R.slots.map I)) (hk : Sl w 3 kv (R.stack.map I)) (hi : R.ok i) (hf : 0 < R.stack.length) (hf2 : R.stack.length ≤ 16) (hl : R.slots.length ≤ 8) :
    Calls Try.prog 69 #[.agg #[sv, kv], I i] w fun e w' => ∃ sv' kv', e = .returned (.tuple #[.agg #[sv', kv'], I 0]) ∧ Sl w' 3 sv' ((R.slots.set i.toNat (R.stack.getD (R.stack.length - 1) 0)).map I) ∧ Sl w' 3 kv' (R.stack.dropLast.map I) ∧
      (∀ b, slB sv' ((R.slots.set i.toNat (R.stack.getD (R.stack.length - 1) 0)).map I) = some b → w.heap.size ≤ b) ∧ (∀ b, slB kv' (R.stack.dropLast.map I) = some b → slB kv (R.stack.map I) = some b) ∧ New w w' := by
  obtain ⟨h0, h1⟩ := hi
  obtain ⟨y, ys, hys⟩ : ∃ y ys, R.stack = ys ++ [y] := ⟨R.stack.getLast (fun e => by rw [e] at hf; simp at hf), R.stack.dropLast, (List.dropLast_concat_getLast _).symm⟩
  have hlen : R.stack.length = ys.length + 1 := by rw [hys]; simp
  have hg : R.stack.getD (R.stack.length - 1) 0 = y := by rw [hlen, hys]; simp [List.getD]
  have hd : R.stack.dropLast = ys := by rw [hys]; simp
  rw [hg, hd, hys]
  rw [hys] at hk
  rw [hlen] at hf2
  clear hlen hg hd hys hf
  obtain ⟨ao, cap, rfl, _⟩ := hs.shape
  simp only [List.length_map] at hs
  have hne : (ys ++ [y]).map I ≠ [] := by simp
  rcases hk with ⟨e, _⟩ | ⟨_, hown⟩
  · exact absurd e hne
  simp only [List.length_map] at hown
  obtain ⟨kb, ck, rfl, hck, hcy, hown'⟩ := own_last hown
  have HO := Lib.hid (And.intro hs (And.intro hown hown'))
  clear hs hown hown' hne
  have h16 : ((ys.length : Nat) : Int) < 16 := by omega
  have q1 : decide (i < (R.slots.length : Int)) = true := by simpa using h1
  go_enter Try.func69, Try.ntmps69
  go_wp2_with fail
  have n1 : New w ((w.alloc (.cells #[.slice ao R.slots.length cap, .slice (some ⟨kb, 0, none⟩) (ys.length + 1) ck] 65)).alloc (.cells #[.slice none 0 0, .slice none 0 0] 65)) := ((Fr.refl _ _).alloc _).alloc _
  have b0 := heap_alloc_old (o := .cells #[.slice none 0 0, .slice none 0 0] 65) (heap_alloc_new w (.cells #[.slice ao R.slots.length cap, .slice (some ⟨kb, 0, none⟩) (ys.length + 1) ck] 65))
  have b1 := heap_alloc_new (w.alloc (.cells #[.slice ao R.slots.length cap, .slice (some ⟨kb, 0, none⟩) (ys.length + 1) ck] 65)) (.cells #[.slice none 0 0, .slice none 0 0] 65)
  rw [World.size_alloc] at b1
  have sz1 : ((w.alloc (.cells #[.slice ao R.slots.length cap, .slice (some ⟨kb, 0, none⟩) (ys.length + 1) ck] 65)).alloc (.cells #[.slice none 0 0, .slice none 0 0] 65)).heap.size = w.heap.size + 2 := by simp
  generalize (w.alloc (.cells #[.slice ao R.slots.length cap, .slice (some ⟨kb, 0, none⟩) (ys.length + 1) ck] 65)).alloc (.cells #[.slice none 0 0, .slice none 0 0] 65) = w1 at n1 b0 b1 sz1 ⊢
  have c0 := cell_blk (i := 0) (v := .slice ao R.slots.length cap) b0 rfl
  have c1 := cell_blk (i := 1) (v := .slice (some ⟨kb, 0, none⟩) (ys.length + 1) ck) b0 rfl
  have c2 := n1.cellK hcy (fun x => x)
  have l0 := lt_of_block b0
  have l1 := lt_of_block b1
  have hs1 := HO.out.1.fr n1 (fun _ _ x => x)
  have hkl := World.block_lt_of_cell? _ _ hcy
  simp only at hkl
  have K := Lib.hid (And.intro n1 (And.intro b0 (And.intro b1 (And.intro sz1 hs1))))
  clear hs1 n1 sz1 b0 b1 hcy
  have hw : IntKind.i64.wrap (ys.length : Int) = ys.length := IntWalk.i64_in _ (by omega)
  have hn0 : (0 : Int) ≤ ys.length := by omega
  have hn1 : (ys.length : Int) < ys.length + 1 := by omega
  go_region_held3 (fun w' => w'.cell? ⟨w.heap.size, 0, none⟩ = some (.slice ao R.slots.length cap) ∧ w'.cell? ⟨w.heap.size, 1, none⟩ = some (.slice (some ⟨kb, 0, none⟩) (ys.length + 1) ck) ∧ w'.cell? ⟨kb, ys.length, none⟩ = some (I y))
    (first | exact ⟨c0, c1, c2⟩ | exact ⟨nn.cell_set2 c0, nn.cell_set2 c1, nn.cell_set2 c2⟩ | (refine ⟨Fr.cellK (F := fun _ => False) ?_ c0 id, Fr.cellK (F := fun _ => False) ?_ c1 id, Fr.cellK (F := fun _ => False) ?_ c2 id⟩ <;> (repeat first | exact nn | exact Fr.refl _ _ | apply Fr.drew | apply Fr.alloc)))
    ((go_at_call 79; (with_reducible refine (ref09_with _ _ R.slots i y _ (K.out.2.2.2.2.fr (F := fun _ => False) (by repeat first | exact Fr.refl _ _ | apply Fr.drew | apply Fr.alloc) (fun _ _ x => x)) h0 h1 (by omega) ⟨_, _, _, rfl⟩).mono ?_); rintro e w2 ⟨sv2, rfl, h2, h3, h4⟩; obtain ⟨ao2, cap2, rfl, hz⟩ := h2.shape; clear hz; simp only [List.length_map, List.length_set] at h2 h3 ⊢; have nn : New w1 w2 := Fr.trans (by repeat first | exact Fr.refl _ _ | apply Fr.drew | apply Fr.alloc) h4; first | (have bq := New.blk h4 (heap_alloc_new w1 (.cells #[.slice none 0 0, .slice none 0 0] 65)); have cq0 := cell_blk (i := 0) bq rfl; have cq1 := cell_blk (i := 1) bq rfl; have fq0 := free_blk (i := 0) bq; have fq1 := free_blk (i := 1) bq; have lq := lt_of_block bq) | skip))
  · have bW := heap_alloc_new w2 (.cells #[.slice ao2 R.slots.length cap2, .slice (some ⟨kb, 0, none⟩) (ys.length + 1) ck] 65)
    have nW : New w1 (w2.alloc (.cells #[.slice ao2 R.slots.length cap2, .slice (some ⟨kb, 0, none⟩) (ys.length + 1) ck] 65)) := Fr.alloc nn _
    have hW : Sl (w2.alloc (.cells #[.slice ao2 R.slots.length cap2, .slice (some ⟨kb, 0, none⟩) (ys.length + 1) ck] 65)) 3 (.slice ao2 R.slots.length cap2) ((R.slots.set i.toNat y).map I) := h2.fr ((Fr.refl (fun _ => False) _).alloc _) (fun _ _ x => x)
    have hl2 : ∀ b, slB (.slice ao2 R.slots.length cap2) ((R.slots.set i.toNat y).map I) = some b → w1.heap.size ≤ b ∧ b ≠ w2.heap.size := fun b hb => by
      have h5 := h3 b hb; have h6 := h2.lt b hb
      exact ⟨by simpa using h5, by omega⟩
    have q1 : w1.heap.size ≤ w2.heap.size := nn.size
    generalize w2.alloc (.cells #[.slice ao2 R.slots.length cap2, .slice (some ⟨kb, 0, none⟩) (ys.length + 1) ck] 65) = W at bW nW hW ⊢
    generalize w2.heap.size = q at bW hl2 q1 ⊢
    clear h2 h3 h4
    have X := Lib.hid (And.intro nW (And.intro hW hl2))
    clear hl2 hW
    have l5 := K.out.2.2.2.1
    have bB := New.blk nW K.out.2.1
    have bC := New.blk nW K.out.2.2.1
    have cB1 := cell_blk (i := 1) (v := .slice (some ⟨kb, 0, none⟩) (ys.length + 1) ck) bB rfl
    have cC0 := cell_blk (i := 0) (v := .slice none 0 0) bC rfl
    have cC1 := cell_blk (i := 1) (v := .slice none 0 0) bC rfl
    have fC0 := free_blk (i := 0) bC
    have fC1 := free_blk (i := 1) bC
    have cW0 := cell_blk (i := 0) (v := .slice ao2 R.slots.length cap2) bW rfl
    have cW1 := cell_blk (i := 1) (v := .slice (some ⟨kb, 0, none⟩) (ys.length + 1) ck) bW rfl
    have fW1 := free_blk (i := 1) bW
    have ne1 : ¬ q = w.heap.size + 1 := by omega
    have ne2 : ¬ w.heap.size + 1 = q := by omega
    have Y := Lib.hid (And.intro bB (And.intro bC (And.intro bW l5)))
    clear bB bC bW l5 nW
    have hsl := fun w => run_sliceAt_to (P := Try.prog) (t := 37) (e := 3) (size := 1) Try.underlying37 (by kernel_rfl) (some ⟨kb, 0, none⟩) (ys.length + 1) ck ys.length (by omega) w
    go_wp2
    refine bodyPost_ret (v := .tuple #[.agg #[.slice ao2 R.slots.length cap2, .slice (some ⟨kb, 0, none⟩) ys.length ck], I 0]) (by simp [results, Try.results69, go_sem, cC0, cC1]) rfl ?_
    have fF : Fr (fun b => b = q ∨ b = w.heap.size + 1) W (((W.setCell ⟨q, 1, none⟩ (.slice (some ⟨kb, 0, none⟩) ys.length ck)).setCell ⟨w.heap.size + 1, 0, none⟩ (.slice ao2 R.slots.length cap2)).setCell ⟨w.heap.size + 1, 1, none⟩ (.slice (some ⟨kb, 0, none⟩) ys.length ck)) :=
      Fr.set (F := fun b => b = q ∨ b = w.heap.size + 1) (Fr.set (F := fun b => b = q ∨ b = w.heap.size + 1) (Fr.set (F := fun b => b = q ∨ b = w.heap.size + 1) (Fr.refl _ _) ⟨q, 1, none⟩ _ (.inl rfl)) ⟨w.heap.size + 1, 0, none⟩ _ (.inr rfl)) ⟨w.heap.size + 1, 1, none⟩ _ (.inr rfl)
    have l5 := Y.out.2.2.2
    have NF := New.then (Fr.trans K.out.1 X.out.1) fF (fun j hj e => by omega)
    refine ⟨_, _, rfl, X.out.2.1.fr fF (fun b hb => by have := X.out.2.2 b hb; omega), (Sl.of HO.out.2.2).fr NF (fun _ _ x => x), fun b hb => by have := X.out.2.2 b hb; omega, ?_, NF⟩
    intro b hb
    unfold slB at hb ⊢
    rw [if_neg (by simp)]
    split at hb
    · cases hb
    · exact hb
  · have bW := heap_setCell_same (i := 1) (.slice (some ⟨kb, 0, none⟩) (ys.length + 1) ck) (heap_setCell_same (i := 0) (.slice ao2 R.slots.length cap2) bq)
    simp only [List.setIfInBounds_toArray, List.set_cons_zero, List.set_cons_succ] at bW
    have fW : Fr (· = w1.heap.size) w2 ((w2.setCell ⟨w1.heap.size, 0, none⟩ (.slice ao2 R.slots.length cap2)).setCell ⟨w1.heap.size, 1, none⟩ (.slice (some ⟨kb, 0, none⟩) (ys.length + 1) ck)) :=
      Fr.set (F := (· = w1.heap.size)) (Fr.set (F := (· = w1.heap.size)) (Fr.refl _ _) ⟨w1.heap.size, 0, none⟩ _ rfl) ⟨w1.heap.size, 1, none⟩ _ rfl
    have hl2 : ∀ b, slB (.slice ao2 R.slots.length cap2) ((R.slots.set i.toNat y).map I) = some b → w1.heap.size ≤ b ∧ b ≠ w1.heap.size := fun b hb => by
      have h5 := h3 b hb
      simp at h5
      omega
    have hW := h2.fr fW (fun b hb => (hl2 b hb).2)
    have nW : New w1 ((w2.setCell ⟨w1.heap.size, 0, none⟩ (.slice ao2 R.slots.length cap2)).setCell ⟨w1.heap.size, 1, none⟩ (.slice (some ⟨kb, 0, none⟩) (ys.length + 1) ck)) := New.then nn fW (fun j hj e => by omega)
    generalize (w2.setCell ⟨w1.heap.size, 0, none⟩ (.slice ao2 R.slots.length cap2)).setCell ⟨w1.heap.size, 1, none⟩ (.slice (some ⟨kb, 0, none⟩) (ys.length + 1) ck) = W at bW nW hW ⊢
    clear h2 h3 h4 fW bq cq0 cq1 fq0 fq1 lq nn
    have q1 : w1.heap.size ≤ w1.heap.size := Nat.le_refl _
    have X := Lib.hid (And.intro nW (And.intro hW hl2))
    clear hl2 hW
    have l5 := K.out.2.2.2.1
    have bB := New.blk nW K.out.2.1
    have bC := New.blk nW K.out.2.2.1
    have cB1 := cell_blk (i := 1) (v := .slice (some ⟨kb, 0, none⟩) (ys.length + 1) ck) bB rfl
    have cC0 := cell_blk (i := 0) (v := .slice none 0 0) bC rfl
    have cC1 := cell_blk (i := 1) (v := .slice none 0 0) bC rfl
    have fC0 := free_blk (i := 0) bC
    have fC1 := free_blk (i := 1) bC
    have cW0 := cell_blk (i := 0) (v := .slice ao2 R.slots.length cap2) bW rfl
    have cW1 := cell_blk (i := 1) (v := .slice (some ⟨kb, 0, none⟩) (ys.length + 1) ck) bW rfl
    have fW1 := free_blk (i := 1) bW
    have ne1 : ¬ w1.heap.size = w.heap.size + 1 := by omega
    have ne2 : ¬ w.heap.size + 1 = w1.heap.size := by omega
    have Y := Lib.hid (And.intro bB (And.intro bC (And.intro bW l5)))
    clear bB bC bW l5 nW
    have hsl := fun w => run_sliceAt_to (P := Try.prog) (t := 37) (e := 3) (size := 1) Try.underlying37 (by kernel_rfl) (some ⟨kb, 0, none⟩) (ys.length + 1) ck ys.length (by omega) w
    go_wp2
    refine bodyPost_ret (v := .tuple #[.agg #[.slice ao2 R.slots.length cap2, .slice (some ⟨kb, 0, none⟩) ys.length ck], I 0]) (by simp [results, Try.results69, go_sem, cC0, cC1]) rfl ?_
    have fF : Fr (fun b => b = w1.heap.size ∨ b = w.heap.size + 1) W (((W.setCell ⟨w1.heap.size, 1, none⟩ (.slice (some ⟨kb, 0, none⟩) ys.length ck)).setCell ⟨w.heap.size + 1, 0, none⟩ (.slice ao2 R.slots.length cap2)).setCell ⟨w.heap.size + 1, 1, none⟩ (.slice (some ⟨kb, 0, none⟩) ys.length ck)) :=
      Fr.set (F := fun b => b = w1.heap.size ∨ b = w.heap.size + 1) (Fr.set (F := fun b => b = w1.heap.size ∨ b = w.heap.size + 1) (Fr.set (F := fun b => b = w1.heap.size ∨ b = w.heap.size + 1) (Fr.refl _ _) ⟨w1.heap.size, 1, none⟩ _ (.inl rfl)) ⟨w.heap.size + 1, 0, none⟩ _ (.inr rfl)) ⟨w.heap.size + 1, 1, none⟩ _ (.inr rfl)
    have l5 := Y.out.2.2.2
    have NF := New.then (Fr.trans K.out.1 X.out.1) fF (fun j hj e => by omega)
    refine ⟨_, _, rfl, X.out.2.1.fr fF (fun b hb => by have := X.out.2.2 b hb; omega), (Sl.of HO.out.2.2).fr NF (fun _ _ x => x), fun b hb => by have := X.out.2.2 b hb; omega, ?_, NF⟩
    intro b hb
    unfold slB at hb ⊢
    rw [if_neg (by simp)]
    split at hb
    · cases hb
    · exact hb

end Go.Proofs.Ytnhombeagbhccaa
