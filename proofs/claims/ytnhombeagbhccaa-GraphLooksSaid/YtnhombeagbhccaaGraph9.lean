/- Package graph, program side: New, its walk. -/
import Derived.Test.YtnhombeagbhccaaGraph8
import Derived.Test.YtnhombeagbhccaaLaws2
import Derived.Deep.Cut
namespace Go.Proofs.Ytnhombeagbhccaa
open Go.RowKit

variable {w w' : World} {g : Nat} {L : PG} {A : AG}

theorem Try.info57 : (Try.prog.info? 57).map (fun i => (i.zero, i.size, i.bytes)) = some (some (.pointer none), 1, 8) := by kernel_rfl

set_option maxRecDepth 100000 in
theorem graph_New_bad2 (t s k : Int) (w : World) (h1 : 1 ≤ t) (h2 : t ≤ 64) (h3 : 0 ≤ k) (h4 : k ≤ 8) (h5 : s < 1 ∨ 8 < s) :
    Calls Try.prog 8 #[I t, I s, I k] w fun e w' => e = .returned (.tuple #[.pointer none, I 2]) ∧ New w w' := by
  have hmk := fun w => run_mk (P := Try.prog) Try.underlying37 Try.info3 rfl k h3 (by omega) (by omega) w
  have hmm := @run_makeMap Try.prog
  go_enter Try.func8, Try.ntmps8
  go_wp2
  generalize hw1 : (((w.alloc _).alloc _).alloc _) = w1
  have n1 : New w w1 := by subst hw1; exact (((Fr.refl _ _).alloc _).alloc _).alloc _
  go_loopw [31] (fun i wr => i = I 0 ∧ New w wr) (fun _ _ => 1)
  case atStart => exact ⟨rfl, n1⟩
  case round =>
    obtain ⟨rfl, hn⟩ := hrel
    go_wp2_with (go_at_call 22; (with_reducible refine (roots_new_bad s _ h5).mono ?_); rintro e w2 ⟨rfl, rfl⟩)
    go_ret2
    exact ⟨rfl, hn⟩

set_option maxRecDepth 100000 in
theorem graph_New_ok (t s k : Nat) (w : World) (h1 : 1 ≤ t) (h2 : t ≤ 64) (h4 : k ≤ 8) (h5 : 1 ≤ s) (h6 : s ≤ 8) :
    Calls Try.prog 8 #[I t, I s, I k] w fun e w' => ∃ g, e = .returned (.tuple #[Pt g, I 0]) ∧ w.heap.size ≤ g ∧
      ∃ L, GAt w' g L (AG.fresh t s k) ∧ L.Apart g (AG.fresh t s k) ∧ (∀ b, L.foot g (AG.fresh t s k) b → w.heap.size ≤ b) ∧ New w w' := by
  have hmk := fun w => run_mk (P := Try.prog) Try.underlying37 Try.info3 rfl (k : Int) (by omega) (by omega) (by omega) w
  have hmm := @run_makeMap Try.prog
  go_enter Try.func8, Try.ntmps8
  go_wp2
  clear hmk hmm
  have start : NewInv w (((w.alloc (Obj.cells (Array.replicate k (Value.int IntKind.i64 0)) 3)).alloc (Obj.map #[] 0)).alloc
      (Obj.cells #[Value.slice none 0 0, Value.slice (some { block := w.heap.size, off := 0 }) k k, Value.map (some (w.heap.size + 1))] 56))
      (w.heap.size + 3) (w.heap.size + 2) (Value.slice (some { block := w.heap.size, off := 0 }) k k) ⟨List.replicate s 0, []⟩ (w.heap.size + 1) (List.replicate k 0) 0 (Value.slice none 0 0) (fun _ => 0) := by
    refine ⟨?_, World.ownsRow_nil _ _ _ _, ?_, ?_, by omega, by omega, by omega, (((Fr.refl _ _).alloc _).alloc _).alloc _⟩
    · have := heap_alloc_new ((w.alloc (Obj.cells (Array.replicate k (Value.int IntKind.i64 0)) 3)).alloc (Obj.map #[] 0)) (Obj.cells #[Value.slice none 0 0, Value.slice (some { block := w.heap.size, off := 0 }) k k, Value.map (some (w.heap.size + 1))] 56)
      simpa using this
    · exact Sl.fresh I (heap_alloc_old (heap_alloc_old (heap_alloc_new _ _))) (by omega)
    · have := heap_alloc_new (w.alloc (Obj.cells (Array.replicate k (Value.int IntKind.i64 0)) 3)) (Obj.map #[] 0)
      rw [World.size_alloc] at this
      exact heap_alloc_old this
  generalize hw1 : (((w.alloc _).alloc _).alloc _) = w1 at start
  have hs1 : w1.heap.size = w.heap.size + 3 := by subst hw1; simp
  have hgB : ∀ b, slB (Value.slice (some { block := w.heap.size, off := 0 }) k k) ((List.replicate k 0).map I) = some b → b = w.heap.size := by
    intro b hb; have := slB_rep hb; simp [Value.ownBlock] at this; omega
  generalize hgs : (Value.slice (some { block := w.heap.size, off := 0 }) k k) = gs at start hgB
  have HG := Lib.hid hgs
  clear hgs hw1
  generalize hg : w.heap.size + 1 + 1 = g
  have hg' : w.heap.size + 2 = g := by omega
  rw [hg'] at start
  go_loopw [31] (fun i wr => ∃ j : Nat, j ≤ t ∧ i = I j ∧ w.heap.size + 3 ≤ wr.heap.size ∧ ∃ tv r, NewInv w wr (w.heap.size + 3) g gs ⟨List.replicate s 0, []⟩ (w.heap.size + 1) (List.replicate k 0) j tv r) (fun i _ => t - (intOf i).toNat)
  case atStart => exact ⟨0, by omega, rfl, by omega, _, _, start⟩
  case round =>
    obtain ⟨j, hj, rfl, hsz, tv, r, inv⟩ := hrel
    by_cases hlt : j < t
    · have hj2 : (j : Int) < t := by omega
      have cR := Lib.hid (roots_new_ok s wr (by omega) (by omega))
      have hwl := lt_of_block inv.hg
      go_wp2_with (first
        | (go_at_call 22; (with_reducible refine cR.out.mono ?_); rintro e w2 ⟨rfl, h2R, h2n, h2s⟩; have bg := New.blk h2n inv.hg; have cg := cell_blk (i := 0) (v := tv) bg rfl; have zg := free_blk (i := 0) bg; have hg2 := lt_of_block bg; have H2 := Lib.hid h2s; clear h2s)
        | (at_builtin; (refine wpList_append_fr rfl (.tmp 45) (.tmp 47) 54 rfl 57 (.pointer none) 1 8 Try.underlying54 Try.info57 rfl (by decide) (by decide) (w.heap.size + 3) _ _ _ rfl ((ownsRow_fr inv.ht h2n (fun _ _ x => x)).alloc _) (some ⟨w2.heap.size, 0, none⟩) 1 1 [Pt wr.heap.size] rfl rfl (by simp) ?_ ?_ ?_ ?_ ?_); (intro ad h; cases h; exact cell_one_new _ _ _); (intro u hu; simp at hu; subst hu; rfl); (omega); (simp; omega); intro v' w3 hown' hfr' hloc'; have hlow : ¬ (tv.ownBlock = some g) := (fun e => by have := (inv.ht.lt _ e).1; omega); have b3 := hfr'.blk (heap_alloc_old bg) hlow; have c3 := cell_blk (i := 0) (v := tv) b3 rfl; have z3 := free_blk (i := 0) b3; obtain ⟨nb, ncap, rfl⟩ := own_shape hown' (by omega)))
      go_roundw
      case rel =>
        have h2s := H2.out
        refine ⟨j + 1, by omega, by go_num, ?_, _, _, inv.next h2R h2n H2.out hown' ?_ ?_ ⟨by omega, by omega, by omega, by omega, by omega⟩ (fun b e => by have := hgB b e; omega)⟩
        · have := hfr'.size; simp at this ⊢; omega
        · exact ((Fr.refl _ _).alloc _).trans hfr'
        · rcases hloc' with h | h
          · exact .inl h
          · exact .inr ⟨_, by simp, h⟩
      case measure => simp [intOf]; omega
    · have hjt : j = t := by omega
      subst hjt
      have hj2 : (j : Int) ≤ j := Int.le_refl _
      go_wp2
      go_ret2
      exact ⟨g, rfl, by omega, inv.done h1 ⟨by omega, by omega, by omega, by omega, by omega⟩ (fun b e => by have := hgB b e; omega)⟩
end Go.Proofs.Ytnhombeagbhccaa
