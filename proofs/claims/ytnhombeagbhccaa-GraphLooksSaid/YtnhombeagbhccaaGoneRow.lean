/- Whatever the threads' number and the acts, GraphGone returns true, and the arguments read behind the call as before. No conditions. -/
import Derived.Test.YtnhombeagbhccaaGone2
import Derived.Test.YtnhombeagbhccaaRows
import Derived.ProofKit
import Derived.OpenShut
import Derived.Carry
import Derived.Deep.Slices
import Derived.Deep.Fields
import Derived.ChangeSame
import Derived.Lib.AtoiErrMem
namespace Go.Proofs.Ytnhombeagbhccaa
open Go.ChangeShapes Go.WideShapes Go.ChangeAt Go.RowKit Go.Deep

theorem own : ownKnob Try.prog.godebug = none := by kernel_rfl
theorem laidOut : laidOutB Try.prog = true := by kernel_rfl

section
variable {H : Type} {enc : TypeId × Value → H} {P : Program}
/-- Arguments read as they did. -/
theorem args_stay (hl : laidOutB P = true) {W W' : World} (hb : Below W.heap.size W W') :
    ∀ (ts : List TypeId) (vs : List Value) (ds : List (DataW H)) (ps : List MemPlace), (∀ t ∈ ts, P.readableRec t = true ∧ t < P.types.size) → DataW.TrodAll enc P W 0 (fun _ => true) true ts vs ds ps → (∀ x ∈ ps, x.block < W.heap.size) →
      DataW.TrodAll enc P W' 0 (fun b => decide (b < W.heap.size)) true ts vs ds ps
  | [], vs, ds, ps, _, h, _ => by
    obtain ⟨rfl, rfl, rfl⟩ := trodAll_nil h
    exact trodAll_mk0
  | t :: ts, vs, ds, ps, ht, h, hp => by
    obtain ⟨v, vs', d, ds', p, q, rfl, rfl, rfl, h1, h2⟩ := trodAll_cons h
    have ht1 := ht t (by simp)
    exact trodAll_cons_mk (Below.trod hl ht1.1 ht1.2 h1 hb (fun x hx => hp x (by simp [hx]))) (args_stay hl hb ts vs' ds' q (fun t h => ht t (by simp [h])) h2 (fun x hx => hp x (by simp [hx])))
end


set_option maxRecDepth 100000 in
/-- An act, as its six cells read. -/
theorem act_cells {H : Type} {enc : TypeId × Value → H} {w : World} {base n : Nat} {spare : Nat → Bool} {held : Bool} {cs : List Value} {y : DataW H × List MemPlace} (hl : cs.length = 6)
    (h : DataW.trod enc Try.prog w base spare held n 35 cs = some y) : ∃ x : AA, cs = x.cells.toList ∧ 0 ≤ x.v ∧ x.v < 18446744073709551616 := by
  obtain ⟨xs, m, _, _, _, hxl, hf⟩ := DataW.trod_struct Try.underlying35 h
  have s5 : Try.prog.cellsOf 5 = 1 := by kernel_rfl
  have s3 : Try.prog.cellsOf 3 = 1 := by kernel_rfl
  have s31 : Try.prog.cellsOf 31 = 1 := by kernel_rfl
  match cs, hl with
  | [c0, c1, c2, c3, c4, c5], _ =>
    match xs, hxl with
    | [y0, y1, y2, y3, y4, y5], _ =>
      have g0 : DataW.trod enc Try.prog w base spare held m 5 (([c0, c1, c2, c3, c4, c5].drop 0).take (Try.prog.cellsOf 5)) = some y0 := hf 0 _ rfl
      rw [s5] at g0
      obtain ⟨a0, e0, _, w0⟩ := DataW.trod_int Try.underlying5 g0
      have g1 : DataW.trod enc Try.prog w base spare held m 3 (([c0, c1, c2, c3, c4, c5].drop 1).take (Try.prog.cellsOf 3)) = some y1 := hf 1 _ rfl
      rw [s3] at g1
      obtain ⟨a1, e1, _, w1⟩ := DataW.trod_int Try.underlying3 g1
      have g2 : DataW.trod enc Try.prog w base spare held m 3 (([c0, c1, c2, c3, c4, c5].drop 2).take (Try.prog.cellsOf 3)) = some y2 := hf 2 _ rfl
      rw [s3] at g2
      obtain ⟨a2, e2, _, w2⟩ := DataW.trod_int Try.underlying3 g2
      have g3 : DataW.trod enc Try.prog w base spare held m 3 (([c0, c1, c2, c3, c4, c5].drop 3).take (Try.prog.cellsOf 3)) = some y3 := hf 3 _ rfl
      rw [s3] at g3
      obtain ⟨a3, e3, _, w3⟩ := DataW.trod_int Try.underlying3 g3
      have g4 : DataW.trod enc Try.prog w base spare held m 3 (([c0, c1, c2, c3, c4, c5].drop 4).take (Try.prog.cellsOf 3)) = some y4 := hf 4 _ rfl
      rw [s3] at g4
      obtain ⟨a4, e4, _, w4⟩ := DataW.trod_int Try.underlying3 g4
      have g5 : DataW.trod enc Try.prog w base spare held m 31 (([c0, c1, c2, c3, c4, c5].drop 5).take (Try.prog.cellsOf 31)) = some y5 := hf 5 _ rfl
      rw [s31] at g5
      obtain ⟨a5, e5, _, w5⟩ := DataW.trod_int Try.underlying31 g5
      simp only [List.drop_zero, List.drop_succ_cons, List.take_succ_cons, List.take_zero, List.cons.injEq, and_true] at e0 e1 e2 e3 e4 e5
      subst e0 e1 e2 e3 e4 e5
      simp [Lit.wf, IntKind.min, IntKind.max, IntKind.signed, IntKind.bits] at w5
      exact ⟨⟨a0, a1, a2, a3, a4, a5⟩, rfl, w5.1, by simp only; omega⟩

theorem list_of {n : Nat} {p : Nat → AA → Prop} (h : ∀ i, i < n → ∃ x, p i x) : ∃ l : List AA, l.length = n ∧ ∀ i x, l[i]? = some x → p i x := by
  induction n with
  | zero => exact ⟨[], rfl, fun i x hx => by simp at hx⟩
  | succ n ih =>
    obtain ⟨l, hl, hp⟩ := ih (fun i hi => h i (by omega))
    obtain ⟨x, hx⟩ := h n (by omega)
    refine ⟨l ++ [x], by simp [hl], fun i y hy => ?_⟩
    rcases Nat.lt_trichotomy i l.length with c | c | c
    · rw [List.getElem?_append_left c] at hy; exact hp i y hy
    · subst c; simp at hy; subst hy; rw [hl]; exact hx
    · rw [List.getElem?_eq_none (by simp; omega)] at hy; cases hy

set_option maxRecDepth 100000 in
/-- Acts, as they came in. -/
theorem open_acts {H : Type} {enc : TypeId × Value → H} {w : World} {base b0 : Nat} {spare : Nat → Bool} {held : Bool} {r : Reach} {v : Value} {d : DataW H} {p : List MemPlace}
    (hv : Value.okWide Try.prog w r b0 22 v) (h : DataW.Trod enc Try.prog w base spare held 22 v d p) : ∃ l, ActsAt w v l := by
  obtain ⟨a, len, cap, rfl⟩ := okWide_slice Try.underlying22 hv
  obtain ⟨fuel, hf⟩ := h
  have hC : Try.prog.cellsOf 35 = 6 := by kernel_rfl
  rcases open_slice Try.underlying22 hf with ⟨h0, _⟩ | ⟨a', len', cap', m, n, D, Pl, hcs, _, hl, _, hm, _, hi⟩
  · simp [Value.cells] at h0
    obtain ⟨rfl, rfl, rfl⟩ := h0
    exact ⟨[], none, 0, rfl, Nat.le_refl _, fun _ => rfl, fun ad e => (by cases e), fun x hx => by cases hx⟩
  · simp [Value.cells] at hcs
    obtain ⟨rfl, rfl, rfl⟩ := hcs
    rw [hC] at hi
    have hml : len ≤ m := by rw [hm]; split <;> omega
    obtain ⟨l, hll, hp⟩ := list_of (n := len) (p := fun i x => (∀ j u, x.cells[j]? = some u → w.cell? (a'.add (i * 6 + j)) = some u) ∧ 0 ≤ x.v ∧ x.v < 18446744073709551616) (fun i hil => by
      obtain ⟨cs, hc, ht⟩ := hi i (by omega)
      obtain ⟨_, hcl, hat⟩ := World.cells?_some hc
      obtain ⟨x, rfl, hx⟩ := act_cells hcl ht
      refine ⟨x, fun j u hj => ?_, hx⟩
      have hj6 : j < 6 := by
        have := (Array.getElem?_eq_some_iff.1 hj).1
        simpa [AA.cells] using this
      have := hat j hj6
      rw [add_add] at this
      rw [this]; simpa using hj)
    subst hll
    refine ⟨l, some a', cap, rfl, hl, fun e => (by cases e), ?_, ?_⟩
    · rintro ad e i x hx
      cases e
      have hp1 := (hp i x hx).1
      have h0 := hp1 0 (.int .u8 x.d) rfl
      have := Lib.lt_of_cell h0
      rw [add_block] at this
      exact ⟨this, hp1⟩
    · intro x hx
      obtain ⟨i, hi⟩ := List.getElem?_of_mem hx
      exact (hp i x hi).2

set_option maxRecDepth 100000 in
theorem graphGone_call (t : Int) (v : Value) (l : List AA) (w : World) (h0 : 0 ≤ t) (hl : ActsAt w v l) : Calls Try.prog 4 #[.int .u8 t, v] w fun e w' => e = .returned (.bool true) ∧ New w w' := by
  by_cases hg : l.length ≤ 150 ∧ 1 ≤ t ∧ t ≤ 8
  · obtain ⟨k, rfl⟩ := Int.eq_ofNat_of_zero_le h0
    exact graphGone_walk k v l w (by omega) (by omega) hl hg.1
  · obtain ⟨ao, cap, rfl, _⟩ := hl
    by_cases h1 : (150 : Int) < l.length
    · clear hg
      go_enter Try.func4, Try.ntmps4
      go_wp2_with (go_at_call 7; (with_reducible refine (wakes_call _).mono ?_); rintro e w9 ⟨rfl, n9⟩)
      go_ret
      exact ⟨rfl, n9⟩
    · by_cases h2 : t < 1
      · clear hg
        go_enter Try.func4, Try.ntmps4
        go_wp2_with (go_at_call 7; (with_reducible refine (wakes_call _).mono ?_); rintro e w9 ⟨rfl, n9⟩)
        go_ret
        exact ⟨rfl, n9⟩
      · have h3 : 8 < t := by omega
        clear hg
        go_enter Try.func4, Try.ntmps4
        go_wp2_with (go_at_call 7; (with_reducible refine (wakes_call _).mono ?_); rintro e w9 ⟨rfl, n9⟩)
        go_ret
        exact ⟨rfl, n9⟩

set_option maxRecDepth 100000 in
theorem graphGone_lifted (os : Os) (started : os.Started) (H : Type) (enc : TypeId × Value → H) :
    ReturnsInHanded {} Try.checked os 4 .any (Rows.graphGoneSpec.pre6 enc Try.prog Try.f4 Rows.graphGoneRow.domain false) (Rows.graphGoneSpec.post enc Try.prog Try.f4 false true false false) := by
  refine returnsInHanded_of_change (C := Try.checked) own started (by kernel_rfl) Try.func4
    (ChangeSpec.witness6 (enc := enc) (C := Try.checked) false ⟨#[], #[.int .u8 0, .slice none 0 0], []⟩ 8 (by kernel_rfl) (by kernel_rfl) (by kernel_rfl) (by kernel_rfl)) ?_
  intro W base args ds gs before hval0 hW hcnd _
  have hval : ∀ (j : Nat) t v, Try.f4.params[j]? = some t → args[j]? = some v → Value.okWide Try.prog W .any base t v := hval0
  have hW' := hW
  obtain ⟨p, q, hA0, hV, rfl, hfz, hnd⟩ := hW
  have hA : DataW.TrodAll enc Try.prog W 0 (fun _ => true) true Try.f4.params.toList args.toList ds p := hA0
  rw [Try.params4] at hA hval
  obtain ⟨v0, vs0, d0, ds0, p0, q0, hargs, rfl, rfl, h0, r0⟩ := trodAll_cons hA
  obtain ⟨v1, vs1, d1, ds1, p1, q1, rfl, rfl, rfl, h1, r1⟩ := trodAll_cons r0
  obtain ⟨rfl, rfl, rfl⟩ := trodAll_nil r1
  obtain rfl : args = #[v0, v1] := by cases args; simp_all
  obtain ⟨rfl, rfl⟩ := trodVars_none hV
  obtain ⟨t, rfl, rfl, rfl, wt⟩ := open_int Try.underlying5 (hval 0 5 v0 rfl rfl) h0
  obtain ⟨l, hl⟩ := open_acts (hval 1 22 v1 rfl rfl) h1
  clear hA0 hval0
  simp [Lit.wf, IntKind.min, IntKind.max, IntKind.signed, IntKind.bits] at wt
  have hlt : ∀ y ∈ [] ++ (p1 ++ []), y.block < W.heap.size := fun y hy => by simpa using hW'.lt y (by simpa using hy)
  refine (graphGone_call t v1 l W wt.1 hl).mono fun e W' ⟨he, hn⟩ => ?_
  subst he
  have hB := hn.below
  refine ⟨_, rfl, _, _, _, [], [] ++ (p1 ++ []), [], hW', trodAll_cons_mk (shut_bool Try.underlying4 _) trodAll_mk0, ?_, rfl, hB.frame _, fun h => by cases h⟩
  exact args_stay laidOut hB _ _ _ _ (fun t ht => by simp only [Try.params4] at ht; simp at ht; rcases ht with rfl | rfl <;> exact ⟨by kernel_rfl, of_decide_eq_true (by kernel_rfl)⟩) hA hlt

theorem graphGone_over : Rows.graphGoneRow.holds Try.pinned (OpenSpec.ofChange Rows.graphGoneSpec) :=
  OpenClaim.holds_of_wide 4 Try.f4 rfl rfl rfl rfl rfl rfl rfl ⟨rfl, rfl, rfl, rfl, rfl⟩ rfl rfl rfl rfl rfl (by kernel_rfl) Try.func4 (by kernel_rfl)
    (of_decide_eq_true (by kernel_rfl)) (by unfold Func.isWrapper; first | (rw [if_pos (by decide +kernel)]; kernel_rfl) | (rw [if_neg (by decide +kernel)]; exact ⟨rfl, rfl⟩))
    (fun os started H enc _ => graphGone_lifted os started H enc)

theorem graphGone_proved : Rows.GraphGoneSaid :=
  graphGone_over
#print axioms graphGone_proved
end Go.Proofs.Ytnhombeagbhccaa
