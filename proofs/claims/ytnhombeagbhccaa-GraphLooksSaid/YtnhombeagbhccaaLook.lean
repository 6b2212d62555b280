/- Package graph, program side: Object, Own, Globals. -/
import Derived.Test.YtnhombeagbhccaaGraph10
import Derived.Deep.RegionHeld3
namespace Go.Proofs.Ytnhombeagbhccaa
open Go.RowKit

variable {w w' : World} {g : Nat} {L : PG} {A : AG}

/-- A graph lies on behind a part that makes new blocks alone. -/
theorem GAt.onNew' (h : GAt w g L A) (hn : New w w') : GAt w' g L A := h.kept (F := fun _ => False) hn (fun _ _ x => x)

theorem take_get' {l : List Int} {k : Nat} (h : k < l.length) : l.take (k + 1) = l.take k ++ [l.getD k 0] := by
  rw [List.take_succ_eq_append_getElem h]; simp [List.getD, h]

theorem Fr.cellL {F : Nat → Prop} {w w' : World} (hf : Fr F w w') {p : Addr} {v : Value} (hc : w.cell? p = some v) (hF : ¬ F p.block) : w'.cell? p = some v := by
  have hb := World.block_lt_of_cell? w _ hc
  have e := hf.block p.block hb hF
  simp only [World.cell?, e] at hc ⊢
  exact hc

theorem one_U' (l : List Int) : ∀ v ∈ l.map U, v.oneCell' = true := by
  intro v hv; obtain ⟨a, _, rfl⟩ := List.mem_map.1 hv; rfl

theorem own_any' {base e n : Nat} {v : Value} {xs : List Value} {w : World} (h : w.ownsRow base e 1 v n xs) : ∃ ao cap, v = .slice ao n cap := by
  rcases h.2 with ⟨rfl, rfl⟩ | ⟨g, cap, cur, rfl, _⟩
  · exact ⟨none, 0, rfl⟩
  · exact ⟨_, cap, rfl⟩

theorem graph_Globals (h : GAt w g L A) (h8 : A.G.length ≤ 8) :
    Calls Try.prog 55 #[Pt g] w fun e w' => ∃ v, e = .returned v ∧ w'.ownsRow w.heap.size 3 1 v A.G.length (A.G.map I) ∧ New w w' := by
  have c1 := h.c1
  have CC := Lib.hid (clone_int w h.hG (one_I _) (by simp; omega))
  go_enter Try.func55, Try.ntmps55
  go_wp2_with (go_at_call 44; (with_reducible refine CC.out.mono ?_); rintro e w1 ⟨v1, rfl, hown1, hn1⟩)
  go_ret
  exact ⟨v1, rfl, by simpa using hown1, hn1⟩

theorem graph_Own_bad (h : GAt w g L A) (t : Int) (ht : ¬ A.okT t) :
    Calls Try.prog 50 #[Pt g, I t] w fun e w' => e = .returned (.tuple #[.slice none 0 0, .slice none 0 0, I 2]) ∧ New w w' := by
  have h0 := h.new (.cells #[I 0] 25)
  have n0 : New w (w.alloc (.cells #[I 0] 25)) := (Fr.refl _ _).alloc _
  have fin : New w ((w.alloc (.cells #[I 0] 25)).setCell ⟨w.heap.size, 0, none⟩ (I 2)) := New.then (F := (· = w.heap.size)) n0 ((Fr.refl _ _).set _ _ rfl) (fun i hi e => by omega)
  have FIN := Lib.hid fin
  clear fin n0
  go_enter_defers Try.func50, Try.ntmps50
  go_wp2_with (go_at_call 63; (with_reducible refine (graph_roots_bad h0 t ht).mono ?_); rintro e w' ⟨rfl, rfl⟩)
  exact door_thrown w.heap.size 2 0 (heap_alloc_new _ _) ⟨_, by simp [results, Try.results50, go_sem], rfl, FIN.out⟩

set_option maxRecDepth 100000 in
set_option maxHeartbeats 1000000 in
theorem graph_Own_ok (h : GAt w g L A) (t : Int) (ht : A.okT t) :
    Calls Try.prog 50 #[Pt g, I t] w fun e w' => ∃ sv kv, e = .returned (.tuple #[sv, kv, I 0]) ∧ w'.ownsRow w.heap.size 3 1 sv (A.thr t).slots.length ((A.thr t).slots.map I) ∧ w'.ownsRow w.heap.size 3 1 kv (A.thr t).stack.length ((A.thr t).stack.map I) ∧ New w w' := by
  have h0 := h.new (.cells #[I 0] 25)
  have n0 : New w (w.alloc (.cells #[I 0] 25)) := (Fr.refl _ _).alloc _
  have b0 := heap_alloc_new w (.cells #[I 0] 25)
  have hR : RootsAt (w.alloc (.cells #[I 0] 25)) (L.r t.toNat) (A.thr t) := h0.hr t.toNat (by unfold AG.okT at ht; omega)
  obtain ⟨C, _, hC⟩ := id hR
  have h8 : (((A.thr t).slots.length : Nat) : Int) ≤ 8 := by have := hC.le; omega
  have H := Lib.hid (And.intro h0 (And.intro n0 (And.intro b0 (And.intro hR (And.intro ht (And.intro h hC.le))))))
  clear h0 n0 b0 hR ht hC h
  go_enter_defers Try.func50, Try.ntmps50
  go_wp2_with (first
    | (go_at_call 63; (with_reducible refine (graph_roots_ok H.out.1 t H.out.2.2.2.2.1).mono ?_); rintro e w' ⟨rfl, rfl⟩)
    | (go_at_call 73; (with_reducible refine (roots_slots _ _ _ H.out.2.2.2.1).mono ?_); rintro e w' ⟨rfl, rfl⟩))
  have hsl : ∀ k : Nat, k < (A.thr t).slots.length → A.slotE t k = .ok ((A.thr t).slots.getD k 0) := fun k hk => by
    unfold AG.slotE
    rw [if_pos H.out.2.2.2.2.1, if_pos ⟨by omega, by omega⟩]
    unfold AR.get
    rw [Int.toNat_natCast]
  have S := Lib.hid (And.intro hsl (fun k (hk : k < (A.thr t).slots.length) => take_get' hk))
  clear hsl
  have n0 := H.out.2.1
  have b0 := H.out.2.2.1
  generalize w.alloc (.cells #[I 0] 25) = w1 at n0 b0 ⊢
  go_loopw [4, 14] (fun v iv wr => ∃ k : Nat, k ≤ (A.thr t).slots.length ∧ iv = I k ∧ wr.ownsRow (w.heap.size + 1) 3 1 v ((A.thr t).slots.take k).length (((A.thr t).slots.take k).map I) ∧ New w wr ∧ wr.heap[w.heap.size]? = some (.cells #[I 0] 25 (0, 0))) (fun _ iv _ => (A.thr t).slots.length - (intOf iv).toNat)
  case atStart => exact ⟨0, by omega, rfl, World.ownsRow_nil _ _ _ _, n0, b0⟩
  case round =>
    clear n0 b0
    obtain ⟨k, hk, rfl, hown, hn, hb⟩ := hrel
    by_cases hlt : k < (A.thr t).slots.length
    · have hlt' : (k : Int) < (A.thr t).slots.length := by omega
      have hse := S.out.1 k hlt
      have htk := S.out.2 k hlt
      have gw := H.out.2.2.2.2.2.1.onNew' hn
      have hk8 : k ≤ 7 := by have := H.out.2.2.2.2.2.2; omega
      have X := Lib.hid (And.intro hown (And.intro hn (And.intro hb (And.intro hse (And.intro htk (And.intro gw hk8))))))
      have hsz : w.heap.size + 1 ≤ wr.heap.size := lt_of_block hb
      clear hown hn hb hse htk gw hk8
      generalize (A.thr t).slots.getD k 0 = x at X
      go_wp2_with (first
        | (go_at_call 57; (with_reducible refine (graph_slot_ok X.out.2.2.2.2.2.1 t k _ X.out.2.2.2.1).mono ?_); rintro e w' ⟨rfl, rfl⟩)
        | (at_builtin; (refine wpList_append_fr rfl (.tmp 17) (.tmp 22) 37 rfl 3 (I 0) 1 8 Try.underlying37 Try.info3 rfl (by decide) (by decide) (w.heap.size + 1) _ _ _ rfl (X.out.1.alloc _) (some ⟨wr.heap.size, 0, none⟩) 1 1 [I x] rfl rfl (by simp) ?_ ?_ ?_ ?_ ?_); (intro ad h; cases h; exact cell_one_new _ _ _); (intro u hu; simp at hu; subst hu; rfl); (have := X.out.2.2.2.2.2.2; simp only [List.length_take]; omega); (simp; omega); intro v' w3 hown' hfr' hloc'))
      go_roundw
      case rel => exact ⟨k + 1, by omega, by go_num, by rw [X.out.2.2.2.2.1]; simpa using hown', New.then (Fr.alloc X.out.2.1 _) hfr' (fun j hj e => by have := (X.out.1.lt _ e).1; omega), hfr'.blk (heap_alloc_old X.out.2.2.1) (fun e => by have := (X.out.1.lt _ e).1; omega)⟩
      case measure => simp [intOf]; omega
    · have hkk : k = (A.thr t).slots.length := by omega
      rw [hkk, List.take_length] at hown
      have hle : (((A.thr t).slots.length : Nat) : Int) ≤ k := by omega
      have hnl : ¬ ((k : Int) < (A.thr t).slots.length) := by omega
      have hRw : RootsAt wr (L.r t.toNat) (A.thr t) := (H.out.2.2.2.2.2.1.onNew' hn).hr t.toNat (by have := H.out.2.2.2.2.1; unfold AG.okT at this; omega)
      have CS := Lib.hid (roots_stack wr _ _ hRw)
      have X := Lib.hid (And.intro hown (And.intro hn hb))
      clear hown hn hb hRw hkk hlt hk
      go_wp2_with (go_at_call 74; (with_reducible refine CS.out.mono ?_); rintro e w2 ⟨kv, rfl, hown2, hn2⟩; have b2 := New.blk hn2 X.out.2.2; have k2 := cell_blk (i := 0) (v := I 0) b2 rfl; have z2 := free_blk (i := 0) b2)
      have hsz : w.heap.size + 1 ≤ wr.heap.size := lt_of_block X.out.2.2
      have fw : Fr (· = w.heap.size) w2 (w2.setCell ⟨w.heap.size, 0, none⟩ (I 0)) := (Fr.refl _ _).set _ _ rfl
      refine door_idle w.heap.size _ (.inr rfl) ⟨.tuple #[_, _, I 0], by simp [results, Try.results50, go_sem, k2]; exact ⟨rfl, rfl⟩, _, _, rfl, ?_, ?_, ?_⟩
      · refine ownsRow_fr (F := (· = w.heap.size)) (ownsRow_fr (F := fun _ => False) (e := 3) ⟨X.out.1.1, X.out.1.2.imp id (fun ⟨g, cap, cur, a, b, c⟩ => ⟨g, cap, cur, a, (by omega : w.heap.size ≤ g), c⟩)⟩ hn2 (fun _ _ x => x)) fw (fun b e => by have := (X.out.1.lt _ e).1; omega)
      · refine ownsRow_fr (F := (· = w.heap.size)) (e := 3) ⟨hown2.1, hown2.2.imp id (fun ⟨g, cap, cur, a, b, c⟩ => ⟨g, cap, cur, a, (by omega : w.heap.size ≤ g), c⟩)⟩ fw (fun b e => by have := (hown2.lt _ e).1; omega)
      · exact New.then (F := (· = w.heap.size)) (Fr.trans X.out.2.1 hn2) fw (fun i hi e => by omega)

theorem graph_Object_bad (h : GAt w g L A) (n : Int) (hn : n < 1 ∨ (A.O.length : Int) < n) :
    Calls Try.prog 53 #[Pt g, I n] w fun e w' => e = .returned (.tuple #[.slice none 0 0, .slice none 0 0, I 5]) ∧ New w w' := by
  have h0 := h.new (.cells #[I 0] 25)
  have n0 : New w (w.alloc (.cells #[I 0] 25)) := (Fr.refl _ _).alloc _
  have fin : New w ((w.alloc (.cells #[I 0] 25)).setCell ⟨w.heap.size, 0, none⟩ (I 5)) := New.then (F := (· = w.heap.size)) n0 ((Fr.refl _ _).set _ _ rfl) (fun i hi e => by omega)
  have hl : (Instr.lookup 53 (.map (some L.mb)) (I n) true).run Try.prog (w.alloc (.cells #[I 0] 25)) = .ok (.tuple #[.pointer none, .bool false]) (w.alloc (.cells #[I 0] 25)) := by
    have hno : lk L.kv n = none := lk_none (fun p hp => by have := h.hks p hp; omega)
    rw [run_lookup_int (P := Try.prog) Try.underlying53 Try.underlying3 Try.zero76 h0.hm h0.hkv n true, hno]
    rfl
  have c2 := h0.c2
  have FIN := Lib.hid (And.intro fin hn)
  clear fin n0 hn
  go_enter_defers Try.func53, Try.ntmps53
  go_wp2_with (first
    | (go_at_call 58; (with_reducible refine (ask_yes _ _).mono ?_); rintro e w' ⟨rfl, rfl⟩)
    | (go_at_call 58; (with_reducible refine (ask_no _ _).mono ?_); rintro e w' ⟨rfl, rfl⟩))
  exact door_thrown w.heap.size 5 0 (heap_alloc_new _ _) ⟨_, by simp [results, Try.results53, go_sem], rfl, FIN.out.1⟩

theorem errSet {w1 w2 : World} {b i j : Nat} {v u : Value} (hn : New w1 w2) (h : w1.cell? ⟨b, i, none⟩ = some v) {q : Nat} (hq : b ≠ q) : (w2.setCell ⟨q, j, none⟩ u).cell? ⟨b, i, none⟩ = some v :=
  Fr.cellL (F := (· = q)) (Fr.set (F := (· = q)) (hn.to _) ⟨q, j, none⟩ u rfl) h hq

set_option maxRecDepth 100000 in
set_option maxHeartbeats 1000000 in
theorem graph_Object_ok (h : GAt w g L A) (k : Nat) (hk : k < A.O.length) (hO : A.O.length ≤ 1000) (h1 : (A.O.getD k default).refs.length ≤ 95) (h2 : (A.O.getD k default).data.length ≤ 95) :
    Calls Try.prog 53 #[Pt g, I ((k : Int) + 1)] w fun e w' => ∃ rv dv, e = .returned (.tuple #[rv, dv, I 0]) ∧ w'.ownsRow w.heap.size 3 1 rv (A.O.getD k default).refs.length ((A.O.getD k default).refs.map I) ∧
      w'.ownsRow w.heap.size 31 1 dv (A.O.getD k default).data.length ((A.O.getD k default).data.map U) ∧ New w w' := by
  have h0 := h.new (.cells #[I 0] 25)
  have n0 : New w (w.alloc (.cells #[I 0] 25)) := (Fr.refl _ _).alloc _
  have b0 := heap_alloc_new w (.cells #[I 0] 25)
  have hl := h0.look (n := (k : Int) + 1) (by omega) (by omega) true
  have eo : L.ob ((k : Int) + 1) = L.o k := by unfold PG.ob; rw [show ((k : Int) + 1).toNat - 1 = k by omega]
  rw [eo] at hl
  have c2 := h0.c2
  have bo := h0.ho k hk
  have hneo : L.o k ≠ w.heap.size := by have := lt_of_block (h.ho k hk); omega
  have cr := cell_blk (i := 0) (v := L.rv k) bo rfl
  have cd := cell_blk (i := 1) (v := L.dv k) bo rfl
  have hr := h0.hrv k hk
  have hd := h0.hdv k hk
  generalize A.O.getD k default = o at *
  obtain ⟨ar, kr, er, -⟩ := hr.shape
  obtain ⟨ad, kd, ed, -⟩ := hd.shape
  rw [er] at cr hr
  rw [ed] at cd hd
  simp only [List.length_map] at cr cd hr hd
  have hkl : (k : Int) ≤ 1000 := by omega
  have H := Lib.hid (And.intro n0 (And.intro b0 (And.intro hr (And.intro hd (And.intro h1 h2)))))
  clear h h0 n0 b0 bo hr hd er ed eo hk h1 h2
  go_enter_defers Try.func53, Try.ntmps53
  go_wp2_with (go_at_call 58; (with_reducible refine (ask_yes _ _).mono ?_); rintro e w' ⟨rfl, rfl⟩)
  have n0 := H.out.1
  have b0 := H.out.2.1
  have e0 := lt_of_block b0
  generalize w.alloc (.cells #[I 0] 25) = w1 at *
  have lo := World.block_lt_of_cell? _ _ cr
  have hne0 : L.o k ≠ w.heap.size := hneo
  go_region_held3 (fun w' => w'.cell? ⟨L.o k, 0, none⟩ = some (.slice ar o.refs.length kr) ∧ w'.cell? ⟨L.o k, 1, none⟩ = some (.slice ad o.data.length kd))
    (first | exact ⟨cr, cd⟩ | exact ⟨nb'.cellL cr id, nb'.cellL cd id⟩ | exact ⟨na'.cellL cr id, na'.cellL cd id⟩ | exact ⟨errSet na' cr hne0, errSet na' cd hne0⟩ | exact ⟨errSet nb' cr hne0, errSet nb' cd hne0⟩)
    (first
      | ((go_at_call 44; (refine (clone_int _ (H.out.2.2.1.fr (F := fun _ => False) (by repeat first | exact nb' | exact Fr.refl _ _ | apply Fr.drew) (fun _ _ x => x)) (one_I _) (by have := H.out.2.2.2.2.1; simp; omega)).mono ?_); rintro e wa ⟨va, rfl, owna, na⟩; have na' : New w1 wa := Fr.trans (by repeat first | exact nb' | exact Fr.refl _ _ | apply Fr.drew) na; simp only [List.length_map] at owna; obtain ⟨aa, ca, rfl⟩ := own_any' owna; have ba := New.blk na' b0; have ka := cell_blk (i := 0) (v := I 0) ba rfl; have za := free_blk (i := 0) ba; have ia := lt_of_block ba))
      | ((go_at_call 49; (refine (clone_word _ (H.out.2.2.2.1.fr (F := fun _ => False) (by repeat first | exact na' | exact Fr.refl _ _ | apply Fr.drew) (fun _ _ x => x)) (one_U' _) (by have := H.out.2.2.2.2.2; simp; omega)).mono ?_); rintro e wb ⟨vb, rfl, ownb, nb⟩; have nb' : New w1 wb := Fr.trans (by repeat first | exact na' | exact Fr.refl _ _ | apply Fr.drew) nb; simp only [List.length_map] at ownb; obtain ⟨ab, cb, rfl⟩ := own_any' ownb; have bb := New.blk nb' b0; have kb := cell_blk (i := 0) (v := I 0) bb rfl; have zb := free_blk (i := 0) bb; have ib := lt_of_block bb)))
  go_wp2
  have hsz : w.heap.size ≤ w1.heap.size := n0.size
  have fw : Fr (· = w.heap.size) wb (wb.setCell ⟨w.heap.size, 0, none⟩ (I 0)) := (Fr.refl _ _).set _ _ rfl
  refine door_idle w.heap.size _ (.inr rfl) ⟨.tuple #[_, _, I 0], by simp [results, Try.results53, go_sem, kb]; exact ⟨rfl, rfl⟩, _, _, rfl, ?_, ?_, ?_⟩
  · refine ownsRow_fr (F := (· = w.heap.size)) (ownsRow_fr (F := fun _ => False) (e := 3) ⟨owna.1, owna.2.imp id (fun ⟨g, cap, cur, a, b, c⟩ => ⟨g, cap, cur, a, (by simp at b; omega : w.heap.size ≤ g), c⟩)⟩ nb (fun _ _ x => x)) fw (fun b e => by have := (owna.lt _ e).1; simp at this; omega)
  · have := na'.size
    refine ownsRow_fr (F := (· = w.heap.size)) (e := 31) ⟨ownb.1, ownb.2.imp id (fun ⟨g, cap, cur, a, b, c⟩ => ⟨g, cap, cur, a, (by omega : w.heap.size ≤ g), c⟩)⟩ fw (fun b e => by have := (ownb.lt _ e).1; omega)
  · exact New.then (F := (· = w.heap.size)) (Fr.trans n0 nb') fw (fun i hi e => by omega)

end Go.Proofs.Ytnhombeagbhccaa
