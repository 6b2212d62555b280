/- The reference's graph: New, May, their walks. -/
import Derived.Test.YtnhombeagbhccaaRefNew
namespace Go.Proofs.Ytnhombeagbhccaa
open Go.RowKit

variable {w w' : World} {r : Nat} {L : RL} {A : AG}

theorem Try.info65 : (Try.prog.info? 65).map (fun i => (i.zero, i.size, i.bytes)) = some (some (.agg #[.slice none 0 0, .slice none 0 0]), 2, 48) := by kernel_rfl

set_option maxRecDepth 100000 in
set_option maxHeartbeats 4000000 in
theorem ref_New (t s k : Nat) (w : World) (h2 : t ≤ 64) (h4 : k ≤ 8) (h6 : s ≤ 8) :
    Calls Try.prog 10 #[I t, I s, I k] w fun e w' => ∃ r, e = .returned (Pt r) ∧ ∃ L, RAt w' r L (AG.fresh t s k) ∧ L.Apart r (AG.fresh t s k) ∧ (∀ b, L.foot r (AG.fresh t s k) b → w.heap.size ≤ b) ∧ New w w' := by
  have hmk := fun w => run_mk (P := Try.prog) Try.underlying37 Try.info3 rfl (k : Int) (by omega) (by omega) (by omega) w
  go_enter Try.func10, Try.ntmps10
  go_wp2
  clear hmk
  have start : RNew w ((w.alloc (Obj.cells (Array.replicate k (Value.int IntKind.i64 0)) 3)).alloc
      (Obj.cells #[Value.slice none 0 0, Value.slice (some { block := w.heap.size, off := 0 }) k k, Value.slice none 0 0] 63))
      (w.heap.size + 2) (w.heap.size + 1) (Value.slice (some { block := w.heap.size, off := 0 }) k k) s (List.replicate k 0) 0 (Value.slice none 0 0) (fun _ => undef) := by
    refine ⟨?_, World.ownsRow_nil _ _ _ _, ?_, by omega, ((Fr.refl _ _).alloc _).alloc _⟩
    · have := heap_alloc_new (w.alloc (Obj.cells (Array.replicate k (Value.int IntKind.i64 0)) 3)) (Obj.cells #[Value.slice none 0 0, Value.slice (some { block := w.heap.size, off := 0 }) k k, Value.slice none 0 0] 63)
      rw [World.size_alloc] at this
      exact this
    · exact Sl.fresh I (heap_alloc_old (heap_alloc_new _ _)) (by omega)
  generalize hw1 : ((w.alloc _).alloc _) = w1 at start
  have hs1 : w1.heap.size = w.heap.size + 2 := by subst hw1; simp
  have hgB : ∀ b, slB (Value.slice (some { block := w.heap.size, off := 0 }) k k) ((List.replicate k 0).map I) = some b → b = w.heap.size := by
    intro b hb; have := slB_rep hb; simp [Value.ownBlock] at this; omega
  generalize hgs : (Value.slice (some { block := w.heap.size, off := 0 }) k k) = gs at start hgB
  have HG := Lib.hid hgs
  clear hgs hw1
  generalize hr : w.heap.size + 1 = r at start ⊢
  have HR := Lib.hid hr
  have HS := Lib.hid hs1
  clear hr hs1
  go_loopw [8] (fun i wr => ∃ j : Nat, j ≤ t ∧ i = I j ∧ w.heap.size + 2 ≤ wr.heap.size ∧ ∃ tv sv, RNew w wr (w.heap.size + 2) r gs s (List.replicate k 0) j tv sv) (fun i _ => t - (intOf i).toNat)
  case atStart => exact ⟨0, by omega, rfl, by have := HS.out; omega, _, _, start⟩
  case round =>
    obtain ⟨j, hj, rfl, hsz, tv, sv, inv⟩ := hrel
    by_cases hlt : j < t
    · have hj2 : (j : Int) < t := by omega
      obtain ⟨c0, tb0⟩ : wr.cell? ⟨r, 0, none⟩ = some tv ∧ True := ⟨cell_blk inv.hr rfl, trivial⟩
      obtain ⟨ao, oc, etv⟩ : ∃ ao oc, tv = .slice ao j oc := by
        rcases inv.ht.2 with ⟨e, h0⟩ | ⟨g, cap, cur, e, _⟩
        · exact ⟨none, 0, by rw [e, h0]⟩
        · exact ⟨_, cap, e⟩
      subst etv
      have lr := lt_of_block inv.hr
      go_wp2_with fail
      go_region_law (first
        | (go_simp; go_at_call 23; (with_reducible refine (ref09_New s _ (by omega)).mono ?_); rintro e w2 ⟨sx, rfl, hsx, nsx, n2⟩; have nn : New wr w2 := Fr.ofDrew n2; obtain ⟨aox, capx, esx, -⟩ := hsx.elem; simp only [List.length_replicate] at esx; subst esx; have c02 := nn.cellK c0 id; have ca2 : ∀ o : Obj, (w2.alloc o).cell? ⟨r, 0, none⟩ = some (.slice ao j oc) := fun o => Fr.cellK (F := fun _ => False) ((Fr.refl _ _).alloc o) c02 id)
        | (refine step_append_fr rfl (.tmp 22) (.tmp 25) 60 rfl 65 (.agg #[.slice none 0 0, .slice none 0 0]) 2 48 Try.underlying60 Try.info65 (by rfl) (by decide) (by decide) (w.heap.size + 2) (.slice ao j oc) j (pairs sv (fun _ => .slice none 0 0) j) (by rfl) (ownsRow_fr (F := fun _ => False) inv.ht (by repeat first | exact nn | exact Fr.refl _ _ | apply Fr.drew | apply Fr.alloc) (fun _ _ x => x)) (some ⟨w2.heap.size, 0, none⟩) 1 1 [.slice aox s capx, .slice none 0 0] (by rfl) rfl (by simp) (by intro ad hh; cases hh; exact World.news_of_block (heap_alloc_new w2 (.cells #[.slice aox s capx, .slice none 0 0] 65))) (by intro u hu; simp at hu; rcases hu with rfl | rfl <;> rfl) (by omega) (by have := nn.size; simp; omega) ?_; intro v3 w3 hown3 hfr3 hloc3; obtain ⟨nb3, nc3, rfl⟩ := own_shape hown3 (by omega); have b3 := hfr3.blk (heap_alloc_old (nn.blk inv.hr)) (fun e => by have := (inv.ht.lt _ e).1; have := HR.out; omega); have cr3 := cell_blk (i := 0) b3 rfl; have fr3 := free_blk (i := 0) b3))
      all_goals
        have NX := Lib.hid (inv.next (n1 := Fr.alloc nn (.cells #[.slice aox s capx, .slice none 0 0] 65)) (hsx.fr ((Fr.refl (fun _ => False) _).alloc _) (fun _ _ x => x)) nsx hown3 hfr3 (hloc3.imp id (fun e => ⟨_, Nat.le_refl _, e⟩)) ⟨by have := HR.out; omega, by have := HR.out; omega, by omega⟩ (fun b e => by have := hgB b e; have := HR.out; omega))
        have hs3 : w.heap.size + 2 ≤ w3.heap.size := by
          have h7 : w2.heap.size + 1 ≤ w3.heap.size := by have := hfr3.size; simpa using this
          have := nn.size
          omega
        have HS3 := Lib.hid hs3
        clear hs3 hfr3 hown3 hloc3 ca2
        go_wp2
        go_roundw
        case rel => exact ⟨j + 1, by omega, by go_num, by simpa using HS3.out, _, _, NX.out⟩
        case measure => simp [intOf]; omega
    · have hjt : j = t := by omega
      subst hjt
      have hj2 : (j : Int) ≤ j := Int.le_refl _
      have hR := HR.out
      have hd := inv.done ⟨by omega, by omega⟩ (fun b e => by have := hgB b e; omega)
      have HD := Lib.hid hd
      clear hd inv hR
      go_wp2
      go_ret
      exact ⟨r, rfl, HD.out⟩

theorem ref_May_yes (t s k : Int) (w : World) (h : 1 ≤ t ∧ t ≤ 64 ∧ 1 ≤ s ∧ s ≤ 8 ∧ 0 ≤ k ∧ k ≤ 8) :
    Calls Try.prog 9 #[I t, I s, I k] w fun e w' => e = .returned (.bool true) ∧ w = w' := by
  obtain ⟨h1, h2, h3, h4, h5, h6⟩ := h
  have q1 : decide (1 ≤ t) = true := decide_eq_true h1
  have q2 : decide (t ≤ 64) = true := decide_eq_true h2
  have q3 : decide (1 ≤ s) = true := decide_eq_true h3
  have q4 : decide (s ≤ 8) = true := decide_eq_true h4
  have q5 : decide (0 ≤ k) = true := decide_eq_true h5
  have q6 : decide (k ≤ 8) = true := decide_eq_true h6
  go_enter Try.func9, Try.ntmps9
  go_wp2
  go_ret
  exact ⟨rfl, rfl⟩

theorem ref_May_no (t s k : Int) (w : World) (h : ¬ (1 ≤ t ∧ t ≤ 64 ∧ 1 ≤ s ∧ s ≤ 8 ∧ 0 ≤ k ∧ k ≤ 8)) :
    Calls Try.prog 9 #[I t, I s, I k] w fun e w' => e = .returned (.bool false) ∧ w = w' := by
  have HK := Lib.hid h
  clear h
  go_enter Try.func9, Try.ntmps9
  go_wp2
  all_goals
    go_ret
    refine ⟨?_, rfl⟩
    first
      | rfl
      | (show Ending.returned (Value.bool (decide (k ≤ 8))) = _
         rw [decide_eq_false (by have := HK.out; omega)])

end Go.Proofs.Ytnhombeagbhccaa
