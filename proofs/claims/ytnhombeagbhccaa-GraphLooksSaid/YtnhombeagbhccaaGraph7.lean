/- Package graph, program side: Alloc; New. -/
import Derived.Test.YtnhombeagbhccaaGraph6
import Derived.Deep.RegionWith
import Derived.Deep.RegionHeld3
namespace Go.Proofs.Ytnhombeagbhccaa
open Go.RowKit

variable {w w' : World} {g : Nat} {L : PG} {A : AG}

theorem roots_new_bad (n : Int) (w : World) (h : n < 1 ∨ 8 < n) :
    Calls Try.prog 22 #[I n] w fun e w' => e = .returned (.tuple #[.pointer none, I 2]) ∧ w = w' := by
  rcases h with h | h
  · go_enter Try.func22, Try.ntmps22
    go_wp2
    go_ret2
    exact ⟨rfl, rfl⟩
  · have h' : ¬ n < 1 := by omega
    go_enter Try.func22, Try.ntmps22
    go_wp2
    go_ret2
    exact ⟨rfl, rfl⟩

theorem cell_of_all {C : Array Value} {n : Nat} (hs : C.size = n) (h : ∀ v ∈ C, ∃ k, v = I k) {i : Nat} (hi : i < n) : ∃ k, C[i]? = some (I k) := by
  subst hs
  obtain ⟨k, hk⟩ := h C[i] (Array.getElem_mem hi)
  exact ⟨k, by rw [Array.getElem?_eq_getElem hi, hk]⟩

theorem roots_new_ok (n : Int) (w : World) (h1 : 1 ≤ n) (h2 : n ≤ 8) :
    Calls Try.prog 22 #[I n] w fun e w' => e = .returned (.tuple #[Pt w.heap.size, I 0]) ∧ RootsAt w' w.heap.size ⟨List.replicate n.toNat 0, []⟩ ∧ New w w' ∧ w'.heap.size = w.heap.size + 1 := by
  go_enter Try.func22, Try.ntmps22
  go_wp2
  go_ret2
  refine ⟨rfl, ⟨_, heap_alloc_new _ _, ?_⟩, (Fr.refl _ _).alloc _, by simp⟩
  obtain ⟨k, rfl⟩ := Int.eq_ofNat_of_zero_le (show 0 ≤ n by omega)
  have hk : 1 ≤ k ∧ k ≤ 8 := by omega
  refine ⟨rfl, by simp; omega, by simp; omega, by simp, by simp, rfl, ?_, by simp, ?_⟩
  · intro i hi
    have hi' : i < 8 := by simp at hi; omega
    match i, hi' with
    | 0, _ | 1, _ | 2, _ | 3, _ | 4, _ | 5, _ | 6, _ | 7, _ => (simp [List.getD, List.getElem?_replicate]; split <;> rfl)
  · intro i hi
    refine cell_of_all (by simp) ?_ hi
    intro v hv
    simp at hv
    rcases hv with h | h | h <;> exact ⟨_, h⟩

theorem graph_Alloc_bad (h : GAt w g L A) (ha : L.Apart g A) (t dst refs size : Int) (hb : (∃ c, A.slotE t dst = .error c) ∨ ((∃ x, A.slotE t dst = .ok x) ∧ ¬ (0 ≤ refs ∧ refs ≤ size ∧ size ≤ 95))) :
    Calls Try.prog 18 #[Pt g, I t, I dst, I refs, I size] w fun e w' => e = .returned (.tuple #[I (A.alloc t dst refs size).2.1, I (A.alloc t dst refs size).2.2]) ∧ Goes w w' g L A (A.alloc t dst refs size).1 := by
  have h0 := h.new (.cells #[I 0] 25)
  have fin0 := fun c => (Goes.refl h0 ha).setCell h (I c)
  rcases hb with ⟨c, hs⟩ | ⟨⟨x, hs⟩, hn⟩
  · have e : A.alloc t dst refs size = (A, 0, c) := by simp [AG.alloc, hs]
    rw [e]
    have fin := Lib.hid (fin0 c)
    clear fin0 e
    go_enter_defers Try.func18, Try.ntmps18
    go_wp2_with (go_at_call 57; (with_reducible refine (graph_slot_bad h0 t dst c hs).mono ?_); rintro e w' ⟨rfl, rfl⟩)
    exact door_thrown w.heap.size c 0 (heap_alloc_new _ _) ⟨_, by simp [results, Try.results18, go_sem], rfl, fin.out⟩
  · have e : A.alloc t dst refs size = (A, 0, 2) := by simp only [AG.alloc, hs]; rw [if_neg hn]
    rw [e]
    have fin := Lib.hid (fin0 2)
    clear fin0 e
    by_cases h1 : 0 ≤ refs
    · by_cases h2 : refs ≤ size
      · have h3 : ¬ size ≤ 95 := by omega
        have q3 : decide (size ≤ 95) = false := by simpa using h3
        clear hn
        go_enter_defers Try.func18, Try.ntmps18
        go_wp2_with (first
          | (go_at_call 57; (with_reducible refine (graph_slot_ok h0 t dst x hs).mono ?_); rintro e w' ⟨rfl, rfl⟩)
          | (go_at_call 58; (with_reducible refine (ask_no _ _).mono ?_); rintro e w' ⟨rfl, rfl⟩))
        exact door_thrown w.heap.size 2 0 (heap_alloc_new _ _) ⟨_, by simp [results, Try.results18, go_sem], rfl, fin.out⟩
      · have q3 : decide (refs ≤ size) = false := by simpa using h2
        clear hn
        go_enter_defers Try.func18, Try.ntmps18
        go_wp2_with (first
          | (go_at_call 57; (with_reducible refine (graph_slot_ok h0 t dst x hs).mono ?_); rintro e w' ⟨rfl, rfl⟩)
          | (go_at_call 58; (with_reducible refine (ask_no _ _).mono ?_); rintro e w' ⟨rfl, rfl⟩))
        exact door_thrown w.heap.size 2 0 (heap_alloc_new _ _) ⟨_, by simp [results, Try.results18, go_sem], rfl, fin.out⟩
    · clear hn
      go_enter_defers Try.func18, Try.ntmps18
      go_wp2_with (first
        | (go_at_call 57; (with_reducible refine (graph_slot_ok h0 t dst x hs).mono ?_); rintro e w' ⟨rfl, rfl⟩)
        | (go_at_call 58; (with_reducible refine (ask_no _ _).mono ?_); rintro e w' ⟨rfl, rfl⟩))
      exact door_thrown w.heap.size 2 0 (heap_alloc_new _ _) ⟨_, by simp [results, Try.results18, go_sem], rfl, fin.out⟩

theorem Try.info31 : (Try.prog.info? 31).map (fun i => (i.zero, i.size, i.bytes)) = some (some (.int .u64 0), 1, 8) := by kernel_rfl

/-- A new object lies behind a graph. -/
structure Added (w1 W : World) (g : Nat) (L : PG) (A A1 : AG) (L' : PG) : Prop where
  gat : GAt W g L' A1
  ap : L'.Apart g A1
  ft : ∀ b, L'.foot g A1 b → L.foot g A b ∨ w1.heap.size ≤ b
  fr : Fr (L.foot g A) w1 W
  hr : L'.r = L.r
  hT : A1.T = A.T

theorem Added.setT {w1 W w2 : World} {A1 : AG} {L' : PG} (h : Added w1 W g L A A1 L') {t : Int} (ht : A.okT t) {R : AR} (hR : RootsAt w2 (L'.r t.toNat) R) (hf : Fr (· = L'.r t.toNat) W w2) : Goes w1 w2 g L A (A1.setT t R) := by
  have ht' : A1.okT t := by unfold AG.okT at ht ⊢; rw [h.hT]; exact ht
  obtain ⟨L2, g1, g2, g3, g4⟩ := Goes.setT h.gat h.ap ht' hR hf
  refine ⟨L2, g1, g2, fun b hb => ?_, h.fr.trans' g4 (fun _ _ x => x) (fun i hi x => ?_)⟩
  · rcases g3 b hb with h1 | h1
    · exact h.ft b h1
    · exact .inr (Nat.le_trans h.fr.size h1)
  · rcases h.ft i x with h1 | h1
    · exact h1
    · omega

theorem Added.err {W w2 : World} {A1 : AG} {L' : PG} (h0 : GAt w g L A) (h : Added (w.alloc (.cells #[I 0] 25)) W g L A A1 L') {t : Int} (ht : A.okT t) (hf : Fr (· = L'.r t.toNat) W w2) : w2.heap[w.heap.size]? = some (.cells #[I 0] 25 (0, 0)) := by
  have e1 := err_kept h0 h.fr (fun _ x => x)
  refine hf.blk e1 (fun e => ?_)
  have : L.foot g A (L'.r t.toNat) := by rw [h.hr]; exact foot_r t ht _ rfl
  rw [← e] at this
  exact absurd (h0.lt _ this) (by omega)

theorem slB_rep {v : Value} {f : Int → Value} {n b : Nat} (h : slB v ((List.replicate n 0).map f) = some b) : v.ownBlock = some b := by
  unfold slB at h
  split at h
  · cases h
  · exact h

theorem Sl.fresh {w : World} {b n e : Nat} (f : Int → Value) (h : w.heap[b]? = some (.cells (Array.replicate n (f 0)) e (0, 0))) (hn : n ≤ 1000000) : Sl w e (.slice (some ⟨b, 0, none⟩) n n) ((List.replicate n 0).map f) := by
  have h' : w.heap[b]? = some (.cells (List.replicate n (f 0)).toArray e (0, 0)) := by simpa using h
  refine Sl.of (base := 0) (n := n) ?_
  exact owns_blk h' (Nat.zero_le _) (Nat.le_refl _) hn (by simp) (by simp)

theorem added_a {w1 : World} (h : GAt w1 g L A) (ha : L.Apart g A) (n k : Nat) (hn : n ≤ 1000000) (hk : k ≤ 1000000) :
    ∃ L', Added w1 (setBlk (((w1.alloc (.cells (Array.replicate n (I 0)) 3)).alloc (.cells (Array.replicate k (U 0)) 31)).alloc
        (.cells #[.slice (some ⟨w1.heap.size, 0, none⟩) n n, .slice (some ⟨w1.heap.size + 1, 0, none⟩) k k] 75)).drew L.mb
        (.map (L.es.push { key := I (A.O.length + 1), val := Pt (w1.heap.size + 1 + 1), born := L.c }) (L.c + 1))) g L A { A with O := A.O ++ [⟨List.replicate n 0, List.replicate k 0⟩] } L' := by
  have hmb := h.lt L.mb ⟨.m, trivial, rfl⟩
  have hno : lk L.kv (A.O.length + 1 : Nat) = none := lk_none (fun p hp => by have := (h.hks p hp).2; omega)
  generalize hW0 : (((w1.alloc (.cells (Array.replicate n (I 0)) 3)).alloc (.cells (Array.replicate k (U 0)) 31)).alloc (.cells #[.slice (some ⟨w1.heap.size, 0, none⟩) n n, .slice (some ⟨w1.heap.size + 1, 0, none⟩) k k] 75)).drew = W0
  have b1 : W0.heap[w1.heap.size]? = some (.cells (Array.replicate n (I 0)) 3 (0, 0)) := by
    subst hW0; exact heap_alloc_old (heap_alloc_old (heap_alloc_new _ _))
  have b2 : W0.heap[w1.heap.size + 1]? = some (.cells (Array.replicate k (U 0)) 31 (0, 0)) := by
    subst hW0
    have := heap_alloc_new (w1.alloc (.cells (Array.replicate n (I 0)) 3)) (.cells (Array.replicate k (U 0)) 31)
    rw [World.size_alloc] at this
    exact heap_alloc_old this
  have b3 : W0.heap[w1.heap.size + 1 + 1]? = some (.cells #[.slice (some ⟨w1.heap.size, 0, none⟩) n n, .slice (some ⟨w1.heap.size + 1, 0, none⟩) k k] 75 (0, 0)) := by
    subst hW0
    have := heap_alloc_new ((w1.alloc (.cells (Array.replicate n (I 0)) 3)).alloc (.cells (Array.replicate k (U 0)) 31)) (.cells #[.slice (some ⟨w1.heap.size, 0, none⟩) n n, .slice (some ⟨w1.heap.size + 1, 0, none⟩) k k] 75)
    rw [World.size_alloc, World.size_alloc] at this
    exact this
  have n0 : New w1 W0 := by subst hW0; exact ((((Fr.refl _ _).alloc _).alloc _).alloc _).drew
  have hm0 := n0.blk h.hm
  have f1 : Fr (· = L.mb) w1 (setBlk W0 L.mb (.map (L.es.push { key := I (A.O.length + 1), val := Pt (w1.heap.size + 1 + 1), born := L.c }) (L.c + 1))) :=
    (n0.to _).trans (Fr.setBlk _ _ _)
  have fs := Fr.setBlk W0 L.mb (.map (L.es.push { key := I (A.O.length + 1), val := Pt (w1.heap.size + 1 + 1), born := L.c }) (L.c + 1))
  have hkv2 : MapKV (L.es.push { key := I (A.O.length + 1), val := Pt (w1.heap.size + 1 + 1), born := L.c }) (put L.kv (A.O.length + 1 : Nat) (Pt (w1.heap.size + 1 + 1))) := by
    have := h.hkv
    unfold MapKV at this ⊢
    rw [put_none hno]; simp [this]
  obtain ⟨r1, r2, r3⟩ := h.add ha (refs := List.replicate n 0) (data := List.replicate k 0) f1 (setBlk_same hm0) (MapKept.stamped_push h.hst h.freshKey) hkv2 (fs.blk b3 (by omega)) (Sl.fresh I (fs.blk b1 (by omega)) hn) (Sl.fresh U (fs.blk b2 (by omega)) hk) (by omega)
    (fun b hb => by have := slB_rep hb; simp [Value.ownBlock] at this; omega)
    (fun b hb => by
      have e1 := slB_rep hb; simp [Value.ownBlock] at e1
      refine ⟨by omega, by omega, fun hb2 => ?_⟩
      have e2 := slB_rep hb2; simp [Value.ownBlock] at e2; omega)
  exact ⟨_, r1, r2, r3, f1.mono (fun i _ e => by subst e; exact ⟨.m, trivial, rfl⟩), rfl, rfl⟩

theorem added_b {w1 : World} (h : GAt w1 g L A) (ha : L.Apart g A) (n k : Nat) (hn : n ≤ 1000000) (hk : k ≤ 1000000) :
    ∃ L', Added w1 (setBlk (((w1.alloc (.cells (Array.replicate k (U 0)) 31)).alloc (.cells (Array.replicate n (I 0)) 3)).alloc
        (.cells #[.slice (some ⟨w1.heap.size + 1, 0, none⟩) n n, .slice (some ⟨w1.heap.size, 0, none⟩) k k] 75)).drew L.mb
        (.map (L.es.push { key := I (A.O.length + 1), val := Pt (w1.heap.size + 1 + 1), born := L.c }) (L.c + 1))) g L A { A with O := A.O ++ [⟨List.replicate n 0, List.replicate k 0⟩] } L' := by
  have hmb := h.lt L.mb ⟨.m, trivial, rfl⟩
  have hno : lk L.kv (A.O.length + 1 : Nat) = none := lk_none (fun p hp => by have := (h.hks p hp).2; omega)
  generalize hW0 : (((w1.alloc (.cells (Array.replicate k (U 0)) 31)).alloc (.cells (Array.replicate n (I 0)) 3)).alloc (.cells #[.slice (some ⟨w1.heap.size + 1, 0, none⟩) n n, .slice (some ⟨w1.heap.size, 0, none⟩) k k] 75)).drew = W0
  have b1 : W0.heap[w1.heap.size]? = some (.cells (Array.replicate k (U 0)) 31 (0, 0)) := by
    subst hW0; exact heap_alloc_old (heap_alloc_old (heap_alloc_new _ _))
  have b2 : W0.heap[w1.heap.size + 1]? = some (.cells (Array.replicate n (I 0)) 3 (0, 0)) := by
    subst hW0
    have := heap_alloc_new (w1.alloc (.cells (Array.replicate k (U 0)) 31)) (.cells (Array.replicate n (I 0)) 3)
    rw [World.size_alloc] at this
    exact heap_alloc_old this
  have b3 : W0.heap[w1.heap.size + 1 + 1]? = some (.cells #[.slice (some ⟨w1.heap.size + 1, 0, none⟩) n n, .slice (some ⟨w1.heap.size, 0, none⟩) k k] 75 (0, 0)) := by
    subst hW0
    have := heap_alloc_new ((w1.alloc (.cells (Array.replicate k (U 0)) 31)).alloc (.cells (Array.replicate n (I 0)) 3)) (.cells #[.slice (some ⟨w1.heap.size + 1, 0, none⟩) n n, .slice (some ⟨w1.heap.size, 0, none⟩) k k] 75)
    rw [World.size_alloc, World.size_alloc] at this
    exact this
  have n0 : New w1 W0 := by subst hW0; exact ((((Fr.refl _ _).alloc _).alloc _).alloc _).drew
  have hm0 := n0.blk h.hm
  have f1 : Fr (· = L.mb) w1 (setBlk W0 L.mb (.map (L.es.push { key := I (A.O.length + 1), val := Pt (w1.heap.size + 1 + 1), born := L.c }) (L.c + 1))) :=
    (n0.to _).trans (Fr.setBlk _ _ _)
  have fs := Fr.setBlk W0 L.mb (.map (L.es.push { key := I (A.O.length + 1), val := Pt (w1.heap.size + 1 + 1), born := L.c }) (L.c + 1))
  have hkv2 : MapKV (L.es.push { key := I (A.O.length + 1), val := Pt (w1.heap.size + 1 + 1), born := L.c }) (put L.kv (A.O.length + 1 : Nat) (Pt (w1.heap.size + 1 + 1))) := by
    have := h.hkv
    unfold MapKV at this ⊢
    rw [put_none hno]; simp [this]
  obtain ⟨r1, r2, r3⟩ := h.add ha (refs := List.replicate n 0) (data := List.replicate k 0) f1 (setBlk_same hm0) (MapKept.stamped_push h.hst h.freshKey) hkv2 (fs.blk b3 (by omega)) (Sl.fresh I (fs.blk b2 (by omega)) hn) (Sl.fresh U (fs.blk b1 (by omega)) hk) (by omega)
    (fun b hb => by have := slB_rep hb; simp [Value.ownBlock] at this; omega)
    (fun b hb => by
      have e1 := slB_rep hb; simp [Value.ownBlock] at e1
      refine ⟨by omega, by omega, fun hb2 => ?_⟩
      have e2 := slB_rep hb2; simp [Value.ownBlock] at e2; omega)
  exact ⟨_, r1, r2, r3, f1.mono (fun i _ e => by subst e; exact ⟨.m, trivial, rfl⟩), rfl, rfl⟩

set_option maxRecDepth 100000 in
theorem graph_Alloc_ok (h : GAt w g L A) (ha : L.Apart g A) (t dst refs size x : Int) (hs : A.slotE t dst = .ok x) (h1 : 0 ≤ refs) (h2 : refs ≤ size) (h3 : size ≤ 95) (hO : A.O.length < 1000000) :
    Calls Try.prog 18 #[Pt g, I t, I dst, I refs, I size] w fun e w' => e = .returned (.tuple #[I (A.alloc t dst refs size).2.1, I (A.alloc t dst refs size).2.2]) ∧ Goes w w' g L A (A.alloc t dst refs size).1 := by
  have h0 := h.new (.cells #[I 0] 25)
  have e : A.alloc t dst refs size = (({ A with O := A.O ++ [⟨List.replicate refs.toNat 0, List.replicate (size - refs).toNat 0⟩] } : AG).setS t dst (A.O.length + 1), (A.O.length + 1 : Int), 0) := by
    simp only [AG.alloc, hs]; rw [if_pos ⟨h1, h2, h3⟩]
  rw [e]
  have c2 := h0.c2
  have hlen := run_len_map (P := Try.prog) (T := 53) (ty := 3) Try.underlying53 h0.hm h0.hkv
  rw [h0.hkn] at hlen
  have q2 : decide (refs ≤ size) = true := by simpa using h2
  have q3 : decide (size ≤ 95) = true := by simpa using h3
  have hO' : (A.O.length : Int) < 1000000 := by omega
  have E := Lib.hid e
  clear e
  go_enter_defers Try.func18, Try.ntmps18
  go_wp2_with (first
    | (go_at_call 57; (with_reducible refine (graph_slot_ok h0 t dst x hs).mono ?_); rintro e w' ⟨rfl, rfl⟩)
    | (go_at_call 58; (with_reducible refine (ask_yes _ _).mono ?_); rintro e w' ⟨rfl, rfl⟩))
  clear c2 hlen
  have c2 := h0.c2
  have hmk1 := fun w => run_mk (P := Try.prog) Try.underlying37 Try.info3 rfl refs h1 (by omega) (by omega) w
  have hmk2 := fun w => run_mk (P := Try.prog) Try.underlying73 Try.info31 rfl (size - refs) (by omega) (by omega) (by omega) w
  have hsub : IntKind.i64.wrap (size - refs) = size - refs := IntWalk.i64_in _ (by omega)
  have hgl := lt_of_block h.hg
  have c2w := h.c2
  have mu : ∀ (W : World) (v : Value), W.heap[L.mb]? = some (.map L.es L.c) → (Instr.mapUpdate 53 (.map (some L.mb)) (I (A.O.length + 1)) v).run Try.prog W =
      .ok () (setBlk W L.mb (.map (L.es.push { key := I (A.O.length + 1), val := v, born := L.c }) (L.c + 1))) := by
    intro W v hW
    obtain ⟨es', c', h1, _, h3, _⟩ := run_mapUpdate_int (P := Try.prog) Try.underlying53 Try.underlying3 hW h0.hkv (A.O.length + 1) v
    have hno : lk L.kv (A.O.length + 1) = none := lk_none (fun p hp => by have := (h0.hks p hp).2; omega)
    obtain ⟨rfl, rfl⟩ := h3 hno
    exact h1
  have mua := mu ((((w.alloc (Obj.cells #[I 0] 25)).alloc (Obj.cells (Array.replicate refs.toNat (Value.int IntKind.i64 0)) 3)).alloc (Obj.cells (Array.replicate (size - refs).toNat (Value.int IntKind.u64 0)) 31)).alloc
          (Obj.cells #[Value.slice (some { block := w.heap.size + 1, off := 0 }) refs.toNat refs.toNat, Value.slice (some { block := w.heap.size + 1 + 1, off := 0 }) (size - refs).toNat (size - refs).toNat] 75)).drew
          (Value.pointer (some { block := w.heap.size + 1 + 1 + 1, off := 0 })) (heap_alloc_old (heap_alloc_old (heap_alloc_old h0.hm)))
  have mub := mu ((((w.alloc (Obj.cells #[I 0] 25)).alloc (Obj.cells (Array.replicate (size - refs).toNat (Value.int IntKind.u64 0)) 31)).alloc (Obj.cells (Array.replicate refs.toNat (Value.int IntKind.i64 0)) 3)).alloc
          (Obj.cells #[Value.slice (some { block := w.heap.size + 1 + 1, off := 0 }) refs.toNat refs.toNat, Value.slice (some { block := w.heap.size + 1, off := 0 }) (size - refs).toNat (size - refs).toNat] 75)).drew
          (Value.pointer (some { block := w.heap.size + 1 + 1 + 1, off := 0 })) (heap_alloc_old (heap_alloc_old (heap_alloc_old h0.hm)))
  clear mu
  obtain ⟨ht, hi, hx⟩ := slotE_ok hs
  obtain ⟨LA, AA⟩ := added_a h0 ha refs.toNat (size - refs).toNat (by omega) (by omega)
  obtain ⟨LB, AB⟩ := added_b h0 ha refs.toNat (size - refs).toNat (by omega) (by omega)
  simp only [World.size_alloc] at AA AB
  have cA := Lib.hid (graph_set AA.gat t dst (A.O.length + 1) ht hi (by omega))
  have cB := Lib.hid (graph_set AB.gat t dst (A.O.length + 1) ht hi (by omega))
  have HX := Lib.hid hx
  clear hx
  have hgm : g ≠ L.mb := ha.ne (x := .g) (y := .m) trivial trivial (by simp) rfl rfl
  go_region_held3 (fun w' => w'.cell? ⟨g, 2, none⟩ = some (.map (some L.mb))) (((try dsimp only); (try rw [cell?_setBlk hgm]); (try simp only [World.cell?_drew]); (repeat (rw [World.cell?_alloc_lt _ _ _ (by simp only [World.size_alloc]; omega)])); exact c2w)) (fail)
  all_goals
    clear mua mub hmk1 hmk2 hsub c2 c2w
    go_wp2_with (go_at_call 59; first
      | ((with_reducible refine cA.out.mono ?_); rintro e w2 ⟨rfl, g2, g3⟩; have e2 := AA.err h ht g3; have k2 := cell_blk (i := 0) (v := I 0) e2 rfl; have z2 := free_blk (i := 0) e2; have GG := Lib.hid ((AA.setT ht g2 g3).setCell h (I 0)))
      | ((with_reducible refine cB.out.mono ?_); rintro e w2 ⟨rfl, g2, g3⟩; have e2 := AB.err h ht g3; have k2 := cell_blk (i := 0) (v := I 0) e2 rfl; have z2 := free_blk (i := 0) e2; have GG := Lib.hid ((AB.setT ht g2 g3).setCell h (I 0))))
    exact door_idle w.heap.size _ (.inr rfl) ⟨_, by simp [results, Try.results18, go_sem, k2], rfl, GG.out⟩

end Go.Proofs.Ytnhombeagbhccaa
