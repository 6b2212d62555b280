/- Package demesneref09: Set, Push, Pop. -/
import Derived.Test.YtnhombeagbhccaaRef
import Derived.Deep.RegionHeld3
import Derived.BigQuiet
import Derived.Deep.QuietTactic
namespace Go.Proofs.Ytnhombeagbhccaa
open Go.RowKit

set_option maxRecDepth 100000 in
theorem ref09_Set_ok (sv kv : Value) (xs : List Int) (i x : Int) (w : World) (h : Sl w 3 sv (xs.map I)) (h0 : 0 ≤ i) (h1 : i < xs.length) (hl : xs.length ≤ 1000) (hx : 0 ≤ x) (hk : ∃ ao n c, kv = .slice ao n c) :
    Calls Try.prog 77 #[.agg #[sv, kv], I i, I x] w fun e w' => ∃ sv', e = .returned (.tuple #[.agg #[sv', kv], I 0]) ∧ Sl w' 3 sv' ((xs.set i.toNat x).map I) ∧ (∀ b, slB sv' ((xs.set i.toNat x).map I) = some b → w.heap.size ≤ b) ∧ New w w' := by
  obtain ⟨ao, cap, rfl, _⟩ := h.shape
  obtain ⟨ak, nk, ck, rfl⟩ := hk
  simp only [List.length_map] at h ⊢
  have H := Lib.hid h
  clear h
  have q1 : decide (i < (xs.length : Int)) = true := by simpa using h1
  go_enter Try.func77, Try.ntmps77
  go_wp2_with (go_at_call 79; (with_reducible refine (ref09_with _ _ xs i x _ ((H.out.fr ((Fr.refl (fun _ => False) _).alloc _) (fun _ _ x => x)).fr ((Fr.refl (fun _ => False) _).alloc _) (fun _ _ x => x)) h0 h1 hl ⟨_, _, _, rfl⟩).mono ?_); rintro e w2 ⟨sv2, rfl, h2, h3, h4⟩; obtain ⟨ao2, cap2, rfl, _⟩ := h2.shape; simp only [List.length_map, List.length_set] at h2 h3 ⊢; have bx1 := New.blk h4 (heap_alloc_new _ _); simp only [World.size_alloc] at bx1; have cy0 := cell_blk (i := 0) bx1 rfl; have cy1 := cell_blk (i := 1) bx1 rfl; have zy0 := free_blk (i := 0) bx1; have zy1 := free_blk (i := 1) bx1)
  have f1 : Fr (· = w.heap.size + 1) w2 ((w2.setCell ⟨w.heap.size + 1, 0, none⟩ (.slice ao2 xs.length cap2)).setCell ⟨w.heap.size + 1, 1, none⟩ (.slice ak nk ck)) :=
    Fr.set (F := (· = w.heap.size + 1)) (Fr.set (F := (· = w.heap.size + 1)) (Fr.refl _ _) ⟨w.heap.size + 1, 0, none⟩ _ rfl) ⟨w.heap.size + 1, 1, none⟩ _ rfl
  refine bodyPost_ret (v := .tuple #[.agg #[.slice ao2 xs.length cap2, .slice ak nk ck], I 0]) (by simp [results, Try.results77, go_sem, cy0, cy1]) rfl ?_
  exact ⟨_, rfl, h2.fr f1 (fun b hb => by have := h3 b hb; simp at this; omega), fun b hb => by have := h3 b hb; simp at this; omega, New.then (F := (· = w.heap.size + 1)) (Fr.trans (((Fr.refl _ _).alloc _).alloc _) h4) f1 (fun i hi e => by omega)⟩

theorem Fr.cellK {F : Nat → Prop} {w w' : World} (hf : Fr F w w') {p : Addr} {v : Value} (hc : w.cell? p = some v) (hF : ¬ F p.block) : w'.cell? p = some v := by
  have hb := World.block_lt_of_cell? w _ hc
  have e := hf.block p.block hb hF
  simp only [World.cell?, e] at hc ⊢
  exact hc
theorem Fr.frzK {F : Nat → Prop} {w w' : World} (hf : Fr F w w') {p : Addr} {b : Bool} (hp : p.block < w.heap.size) (hc : w.frozen? p = b) (hF : ¬ F p.block) : w'.frozen? p = b := by
  have e := hf.block p.block hp hF
  simp only [World.frozen?, e] at hc ⊢
  exact hc

set_option maxRecDepth 100000 in
theorem ref09_Push_bad (sv kv : Value) (R : AR) (i : Int) (w : World) (hs : Sl w 3 sv (R.slots.map I)) (hk : Sl w 3 kv (R.stack.map I)) (hi : ¬ R.ok i) :
    Calls Try.prog 68 #[.agg #[sv, kv], I i] w fun e w' => e = .returned (.tuple #[.agg #[sv, kv], I 2]) ∧ New w w' := by
  obtain ⟨ao, cap, rfl, _⟩ := hs.shape
  obtain ⟨ak, ck, rfl, _⟩ := hk.shape
  simp only [List.length_map] at hs hk ⊢
  have H := Lib.hid (And.intro hs hk)
  clear hs hk
  by_cases h0 : i < 0
  · clear hi
    go_enter Try.func68, Try.ntmps68
    go_wp2
    exact bodyPost_ret (v := .tuple #[.agg #[.slice ao R.slots.length cap, .slice ak R.stack.length ck], I 2]) (by simp [results, Try.results68, go_sem]) rfl ⟨rfl, ((Fr.refl _ _).alloc _).alloc _⟩
  · have h1 : (R.slots.length : Int) ≤ i := by unfold AR.ok at hi; omega
    clear hi
    go_enter Try.func68, Try.ntmps68
    go_wp2
    exact bodyPost_ret (v := .tuple #[.agg #[.slice ao R.slots.length cap, .slice ak R.stack.length ck], I 2]) (by simp [results, Try.results68, go_sem]) rfl ⟨rfl, ((Fr.refl _ _).alloc _).alloc _⟩

set_option maxRecDepth 100000 in
theorem ref09_Push_full (sv kv : Value) (R : AR) (i : Int) (w : World) (hs : Sl w 3 sv (R.slots.map I)) (hk : Sl w 3 kv (R.stack.map I)) (hi : R.ok i) (hf : 15 < R.stack.length) :
    Calls Try.prog 68 #[.agg #[sv, kv], I i] w fun e w' => e = .returned (.tuple #[.agg #[sv, kv], I 4]) ∧ New w w' := by
  obtain ⟨ao, cap, rfl, _⟩ := hs.shape
  obtain ⟨ak, ck, rfl, _⟩ := hk.shape
  simp only [List.length_map] at hs hk ⊢
  have H := Lib.hid (And.intro hs hk)
  clear hs hk
  obtain ⟨h0, h1⟩ := hi
  have hf' : (15 : Int) < R.stack.length := by omega
  go_enter Try.func68, Try.ntmps68
  go_wp2
  exact bodyPost_ret (v := .tuple #[.agg #[.slice ao R.slots.length cap, .slice ak R.stack.length ck], I 4]) (by simp [results, Try.results68, go_sem]) rfl ⟨rfl, ((Fr.refl _ _).alloc _).alloc _⟩

set_option maxRecDepth 100000 in
set_option maxHeartbeats 2000000 in
theorem ref09_Push_ok (sv kv : Value) (R : AR) (i : Int) (w : World) (hs : Sl w 3 sv (R.slots.map I)) (hk : Sl w 3 kv (R.stack.map I)) (hi : R.ok i) (hf : R.stack.length ≤ 15) :
    Calls Try.prog 68 #[.agg #[sv, kv], I i] w fun e w' => ∃ kv', e = .returned (.tuple #[.agg #[sv, kv'], I 0]) ∧ Sl w' 3 kv' ((R.stack ++ [R.get i]).map I) ∧ (∀ b, slB kv' ((R.stack ++ [R.get i]).map I) = some b → w.heap.size ≤ b) ∧ New w w' := by
  obtain ⟨ao, cap, rfl, hc, hno, hcl, hne⟩ := hs.shape
  obtain ⟨ak, ck, rfl, hc2, hno2, hcl2, hne2⟩ := hk.shape
  simp only [List.length_map] at hs hk hc hno hc2 hno2 ⊢
  obtain ⟨h0, h1⟩ := hi
  have hne' : R.slots.map I ≠ [] := fun e => by have := congrArg List.length e; simp at this; rw [this] at h1; simp at h1; omega
  obtain ⟨sb, rfl, hsb, _⟩ := hne hne'
  have hci := hcl _ rfl i.toNat (I (R.get i)) (by rw [List.getElem?_map, List.getElem?_eq_getElem (by omega)]; unfold AR.get; simp [List.getD, show i.toNat < R.slots.length by omega])
  rw [add_off, Nat.zero_add] at hci
  have H := Lib.hid (And.intro hs (And.intro hk (And.intro hc (And.intro hno (And.intro hcl (And.intro hc2 (And.intro hno2 hcl2)))))))
  have HN := Lib.hid (And.intro hne hne2)
  clear hs hk hc hno hcl hc2 hno2 hcl2 hne hne2 hsb hne'
  have hf' : ((R.stack.length : Nat) : Int) ≤ 15 := by omega
  have q1 : decide (i < (R.slots.length : Int)) = true := by simpa using h1
  generalize R.get i = x at *
  go_enter Try.func68, Try.ntmps68
  go_wp2_with fail
  have n1 : New w ((w.alloc (.cells #[.slice (some ⟨sb, 0, none⟩) R.slots.length cap, .slice ak R.stack.length ck] 65)).alloc (.cells #[.slice none 0 0, .slice none 0 0] 65)) := ((Fr.refl _ _).alloc _).alloc _
  have b0 := heap_alloc_old (o := .cells #[.slice none 0 0, .slice none 0 0] 65) (heap_alloc_new w (.cells #[.slice (some ⟨sb, 0, none⟩) R.slots.length cap, .slice ak R.stack.length ck] 65))
  have b1 := heap_alloc_new (w.alloc (.cells #[.slice (some ⟨sb, 0, none⟩) R.slots.length cap, .slice ak R.stack.length ck] 65)) (.cells #[.slice none 0 0, .slice none 0 0] 65)
  rw [World.size_alloc] at b1
  have sz1 : ((w.alloc (.cells #[.slice (some ⟨sb, 0, none⟩) R.slots.length cap, .slice ak R.stack.length ck] 65)).alloc (.cells #[.slice none 0 0, .slice none 0 0] 65)).heap.size = w.heap.size + 2 := by simp
  generalize (w.alloc (.cells #[.slice (some ⟨sb, 0, none⟩) R.slots.length cap, .slice ak R.stack.length ck] 65)).alloc (.cells #[.slice none 0 0, .slice none 0 0] 65) = w1 at n1 b0 b1 sz1 ⊢
  have c0 := cell_blk (i := 0) (v := .slice (some ⟨sb, 0, none⟩) R.slots.length cap) b0 rfl
  have c1 := cell_blk (i := 1) (v := .slice ak R.stack.length ck) b0 rfl
  have hsbl := World.block_lt_of_cell? _ _ hci
  simp only at hsbl
  have c2 := n1.cellK hci (fun x => x)
  have hk1 := H.out.2.1.fr n1 (fun _ _ x => x)
  obtain ⟨_, _, ek, hck, hnk, hclk, hz⟩ := hk1.shape
  clear hz
  obtain ⟨rfl, em, rfl⟩ := Value.slice.inj ek
  clear em
  simp only [List.length_map] at hck hnk
  have l0 := lt_of_block b0
  have l1 := lt_of_block b1
  have K := Lib.hid (And.intro n1 (And.intro b0 (And.intro b1 (And.intro sz1 (And.intro hck (And.intro hnk hclk))))))
  clear hck hnk hclk ek hk1 n1 sz1 b0 b1
  go_region_held3 (fun w' => w'.cell? ⟨w.heap.size, 0, none⟩ = some (.slice (some ⟨sb, 0, none⟩) R.slots.length cap) ∧ w'.cell? ⟨w.heap.size, 1, none⟩ = some (.slice ak R.stack.length ck) ∧ w'.cell? ⟨sb, i.toNat, none⟩ = some (I x))
    (first
      | exact ⟨c0, c1, c2⟩
      | (go_split_ands; refine ⟨?_, ?_, ?_⟩ <;> first | assumption | (exact Fr.cellK hfr3 (by assumption) (fun e => by have := (hown2.lt _ e).1; simp only at this; omega)) | (exact Fr.cellK hfr2 (by assumption) (fun e => by cases e)) | (exact Fr.cellK (F := (· = w.heap.size + 1)) (Fr.set (F := (· = w.heap.size + 1)) (Fr.set (F := (· = w.heap.size + 1)) (Fr.refl _ _) ⟨w.heap.size + 1, 0, none⟩ _ rfl) ⟨w.heap.size + 1, 1, none⟩ _ rfl) (by assumption) (fun e => by simp only at e; omega)) | (exact Fr.cellK ((Fr.refl (fun _ => False) _).alloc _) (by assumption) (fun x => x))))
    (first
      | (refine step_append_fr rfl (.const (.slice none 0 0)) (.tmp 24) 37 rfl 3 (I 0) 1 8 Try.underlying37 Try.info3 rfl (by decide) (by decide) (w.heap.size + 2) (.slice none 0 0) 0 [] (by rfl) (World.ownsRow_nil _ _ _ _) ak R.stack.length ck (R.stack.map I) (by rfl) (by simp) K.out.2.2.2.2.2.1 (fun ad e j u hj => by first | exact K.out.2.2.2.2.2.2 ad e j u hj | exact Fr.cellK ((Fr.refl (fun _ => False) _).alloc _) (K.out.2.2.2.2.2.2 ad e j u hj) (fun x => x)) (one_I _) (by omega) (by have := K.out.2.2.2.1; simp; omega) ?_; intro v2 w2 hown2 hfr2 hloc2; simp only [Nat.zero_add, List.nil_append] at hown2)
      | (refine step_append_fr rfl (.tmp 25) (.tmp 31) 37 rfl 3 (I 0) 1 8 Try.underlying37 Try.info3 rfl (by decide) (by decide) (w.heap.size + 2) v2 R.stack.length (R.stack.map I) (by rfl) (hown2.alloc _) (some ⟨w2.heap.size, 0, none⟩) 1 1 [I x] (by rfl) rfl (by simp) (by intro ad h; cases h; exact cell_one_new _ _ _) (by intro u hu; simp at hu; subst hu; rfl) (by omega) (by have := K.out.2.2.2.1; have := hfr2.size; simp at *; omega) ?_; intro v3 w3 hown3 hfr3 hloc3; obtain ⟨nb3, cap3, rfl⟩ := own_shape hown3 (by omega); have bz := hfr3.blk (heap_alloc_old (hfr2.blk K.out.2.2.1 (fun e => by cases e))) (fun e => by have := (hown2.lt _ e).1; omega); have cz0 := cell_blk (i := 0) bz rfl; have cz1 := cell_blk (i := 1) bz rfl; have fz0 := free_blk (i := 0) bz; have fz1 := free_blk (i := 1) bz; have NN : New w w3 := (by first | exact New.then (Fr.alloc (Fr.trans K.out.1 (Fr.ofDrew (hfr2.mono (fun _ _ e => by cases e)))) _) hfr3 (fun j hj e => by have := (hown2.lt _ e).1; omega) | exact New.then (Fr.trans (Fr.alloc K.out.1 _) (Fr.ofDrew (hfr2.mono (fun _ _ e => by cases e)))) hfr3 (fun j hj e => by have := (hown2.lt _ e).1; omega)); have XX := Lib.hid (And.intro hown3 NN); clear NN)
      | (refine step_append_fr rfl (.tmp 25) (.tmp 31) 37 rfl 3 (I 0) 1 8 Try.underlying37 Try.info3 rfl (by decide) (by decide) (w.heap.size + 2) v2 R.stack.length (R.stack.map I) (by rfl) hown2 (some ⟨w1.heap.size, 0, none⟩) 1 1 [I x] (by rfl) rfl (by simp) (by intro ad h; cases h; intro j u hj; exact Fr.cellK hfr2 (cell_one_new _ _ _ j u hj) (fun e => by cases e)) (by intro u hu; simp at hu; subst hu; rfl) (by omega) (by have := K.out.2.2.2.1; have := hfr2.size; simp at *; omega) ?_; intro v3 w3 hown3 hfr3 hloc3; obtain ⟨nb3, cap3, rfl⟩ := own_shape hown3 (by omega); have bz := hfr3.blk (hfr2.blk (heap_alloc_old K.out.2.2.1) (fun e => by cases e)) (fun e => by have := (hown2.lt _ e).1; omega); have cz0 := cell_blk (i := 0) bz rfl; have cz1 := cell_blk (i := 1) bz rfl; have fz0 := free_blk (i := 0) bz; have fz1 := free_blk (i := 1) bz; have NN : New w w3 := (by first | exact New.then (Fr.alloc (Fr.trans K.out.1 (Fr.ofDrew (hfr2.mono (fun _ _ e => by cases e)))) _) hfr3 (fun j hj e => by have := (hown2.lt _ e).1; omega) | exact New.then (Fr.trans (Fr.alloc K.out.1 _) (Fr.ofDrew (hfr2.mono (fun _ _ e => by cases e)))) hfr3 (fun j hj e => by have := (hown2.lt _ e).1; omega)); have XX := Lib.hid (And.intro hown3 NN); clear NN))
  all_goals
    go_wp2
    refine bodyPost_ret (v := .tuple #[.agg #[.slice (some ⟨sb, 0, none⟩) R.slots.length cap, .slice (some ⟨nb3, 0, none⟩) (R.stack.length + 1) cap3], I 0]) (by simp [results, Try.results68, go_sem, cz0, cz1]) rfl ?_
    have f1 : Fr (· = w.heap.size + 1) w3 ((w3.setCell ⟨w.heap.size + 1, 0, none⟩ (.slice (some ⟨sb, 0, none⟩) R.slots.length cap)).setCell ⟨w.heap.size + 1, 1, none⟩ (.slice (some ⟨nb3, 0, none⟩) (R.stack.length + 1) cap3)) :=
      Fr.set (F := (· = w.heap.size + 1)) (Fr.set (F := (· = w.heap.size + 1)) (Fr.refl _ _) ⟨w.heap.size + 1, 0, none⟩ _ rfl) ⟨w.heap.size + 1, 1, none⟩ _ rfl
    have hb3 := (XX.out.1.lt nb3 rfl).1
    have fin := Sl.of XX.out.1
    rw [show R.stack.map I ++ [I x] = (R.stack ++ [x]).map I by simp] at fin
    have hsb : ∀ b, slB (.slice (some ⟨nb3, 0, none⟩) (R.stack.length + 1) cap3) ((R.stack ++ [x]).map I) = some b → b = nb3 := by
      intro b hb
      unfold slB at hb
      split at hb
      · cases hb
      · simp [Value.ownBlock] at hb; exact hb.symm
    exact ⟨_, rfl, fin.fr f1 (fun b hb => by have := hsb b hb; omega), fun b hb => by have := hsb b hb; omega, New.then (F := (· = w.heap.size + 1)) XX.out.2 f1 (fun i hi e => by omega)⟩

end Go.Proofs.Ytnhombeagbhccaa
