/- Package demesneref09: its walks. -/
import Derived.Test.YtnhombeagbhccaaMineX
import Derived.BigRegion
import Derived.Deep.RegionHeld
namespace Go.Proofs.Ytnhombeagbhccaa
open Go.RowKit

set_option maxRecDepth 100000 in
theorem ref09_New (n : Nat) (w : World) (hn : n ≤ 8) :
    Calls Try.prog 23 #[I n] w fun e w' => ∃ sv, e = .returned (.agg #[sv, .slice none 0 0]) ∧ Sl w' 3 sv ((List.replicate n 0).map I) ∧ (∀ b, slB sv ((List.replicate n 0).map I) = some b → w.heap.size ≤ b) ∧ New w w' := by
  have hmk := fun w => run_mk (P := Try.prog) Try.underlying37 Try.info3 rfl (n : Int) (by omega) (by omega) (by omega) w
  go_enter Try.func23, Try.ntmps23
  go_wp2
  refine bodyPost_ret (v := .agg #[.slice (some ⟨w.heap.size + 1, 0, none⟩) n n, .slice none 0 0]) (by simp [results, Try.results23, go_sem]) rfl ?_
  have hb := heap_alloc_new (w.alloc (Obj.cells #[Value.slice (some { block := w.heap.size + 1, off := 0 }) n n, Value.slice none 0 0] 65)) (Obj.cells (Array.replicate n (Value.int IntKind.i64 0)) 3)
  rw [World.size_alloc] at hb
  exact ⟨_, rfl, Sl.fresh I hb (by omega), fun b hb => by have := slB_rep hb; simp [Value.ownBlock] at this; omega, ((Fr.refl _ _).alloc _).alloc _⟩

theorem own_free {w : World} {base e n nb cap : Nat} {xs : List Value} (h : w.ownsRow base e 1 (.slice (some ⟨nb, 0, none⟩) n cap) n xs) (i : Nat) : w.frozen? ⟨nb, i, none⟩ = false := by
  rcases h.2 with ⟨h0, _⟩ | ⟨g, c, cur, h1, _, h2, _⟩
  · cases h0
  · simp only [Value.slice.injEq, Option.some.injEq, Addr.mk.injEq] at h1
    obtain ⟨⟨rfl, _⟩, _⟩ := h1
    exact free_blk h2

set_option maxRecDepth 100000 in
theorem ref09_with (sv kv : Value) (xs : List Int) (i x : Int) (w : World) (h : Sl w 3 sv (xs.map I)) (h0 : 0 ≤ i) (h1 : i < xs.length) (hl : xs.length ≤ 1000) (hk : ∃ ao n c, kv = .slice ao n c) :
    Calls Try.prog 79 #[.agg #[sv, kv], I i, I x] w fun e w' => ∃ sv', e = .returned (.agg #[sv', kv]) ∧ Sl w' 3 sv' ((xs.set i.toNat x).map I) ∧ (∀ b, slB sv' ((xs.set i.toNat x).map I) = some b → w.heap.size ≤ b) ∧ New w w' := by
  obtain ⟨ao, cap, rfl, hc, hno, hcl, _⟩ := h.shape
  obtain ⟨ak, nk, ck, rfl⟩ := hk
  simp only [List.length_map] at hc hno
  have H := Lib.hid (And.intro hc (And.intro hno hcl))
  clear hc hno hcl h
  have hxs : 0 < xs.length := by omega
  have HI := Lib.hid (And.intro h0 h1)
  go_enter Try.func79, Try.ntmps79
  go_wp2_with (at_builtin; (refine wpList_append_fr rfl (.const (.slice none 0 0)) (.tmp 9) 37 rfl 3 (I 0) 1 8 Try.underlying37 Try.info3 rfl (by decide) (by decide) (w.heap.size + 2) (.slice none 0 0) 0 [] rfl (World.ownsRow_nil _ _ _ _) ao xs.length cap (xs.map I) rfl (by simp) ?h1 ?h2 (one_I _) ?h3 ?h4 ?h5); (case h1 => exact H.out.2.1); (case h2 => intro ad e j u hj; have hc := H.out.2.2 ad e j u hj; rw [World.cell?_alloc_some _ _ _ (by rw [World.cell?_alloc_some _ _ _ (by rw [hc]; rfl), hc]; rfl), World.cell?_alloc_some _ _ _ (by rw [hc]; rfl)]; exact hc); (case h3 => omega); (case h4 => simp); intro v' w2 hown2 hfr2 hloc2; simp only [Nat.zero_add, List.nil_append] at hown2; obtain ⟨nb, ncap, rfl⟩ := own_shape hown2 hxs; have fz := own_free hown2 i.toNat; have ct := hown2.cellAt i.toNat (by omega); rw [List.getElem?_map, List.getElem?_eq_getElem (by omega), Option.map_some] at ct; have nbl := (hown2.lt nb rfl).1; have bx0 := hfr2.blk (heap_alloc_old (heap_alloc_new w (.cells #[.slice ao xs.length cap, .slice ak nk ck] 65))) (fun e => by cases e); have bx1 := hfr2.blk (heap_alloc_new _ _) (fun e => by cases e); simp only [World.size_alloc] at bx1; have cx1 := cell_blk (i := 1) bx0 rfl; have cy0 := cell_blk (i := 0) bx1 rfl; have cy1 := cell_blk (i := 1) bx1 rfl; have zy0 := free_blk (i := 0) bx1; have zy1 := free_blk (i := 1) bx1)
  have hne : nb ≠ w.heap.size + 1 := by omega
  have fin := Sl.of hown2
  have hsb : slB (Value.slice (some ⟨nb, 0, none⟩) xs.length ncap) (xs.map I) = some nb := by
    unfold slB
    rw [if_neg (fun e => by have := congrArg List.length e; simp only [List.length_map, List.length_nil] at this; omega)]
    rfl
  have fin2 := fin.set hsb i.toNat (I x)
  refine bodyPost_ret (v := .agg #[.slice (some ⟨nb, 0, none⟩) xs.length ncap, .slice ak nk ck]) (by simp [results, Try.results79, go_sem, cy0, cy1]) rfl ?_
  have f1 : Fr (· = w.heap.size + 1) (w2.setCell ⟨nb, i.toNat, none⟩ (I x)) (((w2.setCell ⟨nb, i.toNat, none⟩ (I x)).setCell ⟨w.heap.size + 1, 0, none⟩ (.slice (some ⟨nb, 0, none⟩) xs.length ncap)).setCell ⟨w.heap.size + 1, 1, none⟩ (.slice ak nk ck)) :=
    Fr.set (F := (· = w.heap.size + 1)) (Fr.set (F := (· = w.heap.size + 1)) (Fr.refl _ _) ⟨w.heap.size + 1, 0, none⟩ _ rfl) ⟨w.heap.size + 1, 1, none⟩ _ rfl
  have n1 : New w w2 := New.then (((Fr.refl _ _).alloc _).alloc _) hfr2 (fun i hi e => by cases e)
  refine ⟨_, rfl, ?_, ?_, ?_⟩
  · have := fin2.fr f1 (fun b hb => ?_)
    · simpa using this
    · have e : slB (Value.slice (some ⟨nb, 0, none⟩) xs.length ncap) ((xs.map I).set i.toNat (I x)) = some nb ∨ True := .inr trivial
      unfold slB at hb
      split at hb
      · cases hb
      · simp [Value.ownBlock] at hb; omega
  · intro b hb
    unfold slB at hb
    split at hb
    · cases hb
    · simp [Value.ownBlock] at hb; omega
  · exact New.then (F := fun b => b = nb ∨ b = w.heap.size + 1) n1 (((Fr.refl _ w2).set _ _ (.inl rfl)).trans (f1.mono (fun _ _ e => .inr e))) (fun i hi e => by omega)

end Go.Proofs.Ytnhombeagbhccaa
