/- Package roots, program side: each function does to the block of a Roots what it says of a list of slots and a stack. -/
import Derived.Test.YtnhombeagbhccaaRows
import Derived.Test.YtnhombeagbhccaaCore
import Derived.Test.YtnhombeagbhccaaAbs
namespace Go.Proofs.Ytnhombeagbhccaa
open Go.RowKit

/-- The 26 cells of a Roots. -/
structure RC (C : Array Value) (R : AR) : Prop where
  size : C.size = 26
  pos : 1 ≤ R.slots.length
  le : R.slots.length ≤ 8
  deep : R.stack.length ≤ 16
  n : C[8]? = some (I R.slots.length)
  d : C[25]? = some (I R.stack.length)
  slot : ∀ i, i < R.slots.length → C[i]? = some (I (R.slots.getD i 0))
  stk : ∀ i, i < R.stack.length → C[9 + i]? = some (I (R.stack.getD i 0))
  cell : ∀ i, i < 26 → ∃ k, C[i]? = some (I k)

theorem getElem?_set_ne {C : Array Value} {i j : Nat} {v : Value} (h : i ≠ j) : (C.setIfInBounds i v)[j]? = C[j]? := by
  simp [h]
theorem getElem?_set_eq {C : Array Value} {i : Nat} {v : Value} (h : i < C.size) : (C.setIfInBounds i v)[i]? = some v := by
  simp [h]

theorem RC.set {C : Array Value} {R : AR} (h : RC C R) (i x : Int) (hi : R.ok i) : RC (C.setIfInBounds i.toNat (I x)) (R.set i x) := by
  obtain ⟨h0, h1⟩ := hi
  have hl := h.le
  have hlt : i.toNat < R.slots.length := by omega
  have hs := h.size
  refine ⟨by simpa using h.size, by simpa [AR.set] using h.pos, by simpa [AR.set] using h.le, h.deep, ?_, ?_, ?_, ?_, ?_⟩
  · rw [getElem?_set_ne (by omega)]; simpa [AR.set] using h.n
  · rw [getElem?_set_ne (by omega)]; simpa [AR.set] using h.d
  · intro j hj
    have hj' : j < R.slots.length := by simpa [AR.set] using hj
    by_cases e : i.toNat = j
    · subst e
      rw [getElem?_set_eq (by omega)]
      simp [AR.set, List.getD, hlt]
    · rw [getElem?_set_ne e, h.slot j hj']
      simp [AR.set, List.getD, e]
  · intro j hj
    have := h.deep
    rw [getElem?_set_ne (by omega)]; exact h.stk j hj
  · intro j hj
    by_cases e : i.toNat = j
    · subst e; exact ⟨x, getElem?_set_eq (by omega)⟩
    · rw [getElem?_set_ne e]; exact h.cell j hj

theorem RC.push {C : Array Value} {R : AR} (h : RC C R) (x : Int) (hd : R.stack.length < 16) :
    RC ((C.setIfInBounds (9 + R.stack.length) (I x)).setIfInBounds 25 (I (R.stack.length + 1 : Nat))) { R with stack := R.stack ++ [x] } := by
  have hs := h.size
  have hl := h.le
  refine ⟨by simpa using h.size, h.pos, h.le, by simp; omega, ?_, ?_, ?_, ?_, ?_⟩
  · rw [getElem?_set_ne (by omega), getElem?_set_ne (by omega)]; exact h.n
  · rw [getElem?_set_eq (by simp; omega)]; simp
  · intro j hj
    simp only at hj
    rw [getElem?_set_ne (by omega), getElem?_set_ne (by omega)]; exact h.slot j hj
  · intro j hj
    simp only [List.length_append, List.length_cons, List.length_nil] at hj
    rw [getElem?_set_ne (by omega)]
    by_cases e : R.stack.length = j
    · subst e; rw [getElem?_set_eq (by omega)]; simp [List.getD]
    · rw [getElem?_set_ne (by omega), h.stk j (by omega)]
      simp [List.getD, List.getElem?_append_left (show j < R.stack.length by omega)]
  · intro j hj
    by_cases e : 25 = j
    · subst e; exact ⟨_, getElem?_set_eq (by simp; omega)⟩
    · rw [getElem?_set_ne e]
      by_cases e : 9 + R.stack.length = j
      · subst e; exact ⟨_, getElem?_set_eq (by omega)⟩
      · rw [getElem?_set_ne e]; exact h.cell j hj

theorem RC.pop {C : Array Value} {R : AR} (h : RC C R) (d : Nat) (hd : R.stack.length = d + 1) :
    RC (C.setIfInBounds 25 (I d)) { R with stack := R.stack.dropLast } := by
  have hs := h.size
  have hl := h.le
  have hdd := h.deep
  refine ⟨by simpa using h.size, h.pos, h.le, by simp; omega, ?_, ?_, ?_, ?_, ?_⟩
  · rw [getElem?_set_ne (by omega)]; exact h.n
  · rw [getElem?_set_eq (by omega)]; simp [hd]
  · intro j hj
    simp only at hj
    rw [getElem?_set_ne (by omega)]; exact h.slot j hj
  · intro j hj
    simp only [List.length_dropLast] at hj
    rw [getElem?_set_ne (by omega), h.stk j (by omega)]
    have hj' : j < R.stack.length := by omega
    simp [List.getD, hj, hj']
  · intro j hj
    by_cases e : 25 = j
    · subst e; exact ⟨_, getElem?_set_eq (by omega)⟩
    · rw [getElem?_set_ne e]; exact h.cell j hj

def RootsAt (w : World) (r : Nat) (R : AR) : Prop := ∃ C, w.heap[r]? = some (.cells C 99 (0, 0)) ∧ RC C R

theorem RootsAt.kept {w w' : World} {r : Nat} {R : AR} (h : RootsAt w r R) (e : w'.heap[r]? = w.heap[r]?) : RootsAt w' r R := by
  obtain ⟨C, h1, h2⟩ := h; exact ⟨C, e.trans h1, h2⟩
theorem RootsAt.lt {w : World} {r : Nat} {R : AR} (h : RootsAt w r R) : r < w.heap.size := by
  obtain ⟨C, h1, h2⟩ := h; exact lt_of_block h1

theorem roots_slot_ok (r : Nat) (i n : Int) (w : World) (hi : 0 ≤ i) (hn : i < n) (hn8 : n ≤ 8)
   (hc : w.cell? ⟨r, 8, none⟩ = some (.int .i64 n)) :
   Calls Try.prog 75 #[.pointer (some ⟨r, 0, none⟩), .int .i64 i] w fun e w' => e = .returned (.tuple #[.pointer (some ⟨r, i.toNat, none⟩), .int .i64 0]) ∧ w = w' := by
  go_enter Try.func75, Try.ntmps75
  go_wp2
  go_ret2
  exact ⟨rfl, rfl⟩

theorem roots_slot_bad (r : Nat) (i n : Int) (w : World) (hi : i < 0 ∨ n ≤ i)
   (hc : w.cell? ⟨r, 8, none⟩ = some (.int .i64 n)) :
   Calls Try.prog 75 #[.pointer (some ⟨r, 0, none⟩), .int .i64 i] w fun e w' => e = .returned (.tuple #[.pointer none, .int .i64 2]) ∧ w = w' := by
  go_enter Try.func75, Try.ntmps75
  go_wp2
  all_goals go_ret2
  all_goals exact ⟨rfl, rfl⟩

theorem not_ok {R : AR} {i : Int} (h : ¬ R.ok i) : i < 0 ∨ (R.slots.length : Int) ≤ i := by unfold AR.ok at h; omega

theorem RC.at {C : Array Value} {R : AR} (h : RC C R) {i : Int} (hi : R.ok i) : C[i.toNat]? = some (I (R.get i)) := by
  obtain ⟨h0, h1⟩ := hi
  exact h.slot i.toNat (by omega)

theorem roots_get (w : World) (r : Nat) (R : AR) (i : Int) (h : RootsAt w r R) :
    Calls Try.prog 76 #[Pt r, I i] w fun e w' => e = .returned (.tuple #[I (if R.ok i then R.get i else 0), I (if R.ok i then 0 else 2)]) ∧ w = w' := by
  obtain ⟨C, hb, hR⟩ := h
  have hc := cell_blk hb hR.n
  by_cases hi : R.ok i
  · have hx := cell_blk hb (hR.at hi)
    have hl := hR.le
    obtain ⟨h0, h1⟩ := id hi
    rw [if_pos hi, if_pos hi]
    generalize R.get i = x at hx ⊢
    go_enter Try.func76, Try.ntmps76
    go_wp2_with (go_at_call 75; refine (roots_slot_ok r i _ _ h0 h1 (by omega) hc).mono ?_; rintro e w' ⟨rfl, rfl⟩)
    go_ret2
    exact ⟨rfl, rfl⟩
  · rw [if_neg hi, if_neg hi]
    have hn := not_ok hi
    go_enter Try.func76, Try.ntmps76
    go_wp2_with (go_at_call 75; refine (roots_slot_bad r i _ _ hn hc).mono ?_; rintro e w' ⟨rfl, rfl⟩)
    go_ret2
    exact ⟨rfl, rfl⟩

theorem roots_get_nil (w : World) (i : Int) :
    Calls Try.prog 76 #[.pointer none, I i] w fun e w' => e = .returned (.tuple #[I 0, I 1]) ∧ w = w' := by
  go_enter Try.func76, Try.ntmps76
  go_wp2
  go_ret2
  exact ⟨rfl, rfl⟩


theorem roots_set (w : World) (r : Nat) (R : AR) (i x : Int) (h : RootsAt w r R) :
    Calls Try.prog 51 #[Pt r, I i, I x] w fun e w' => e = .returned (I (R.setR i x).2) ∧ RootsAt w' r (R.setR i x).1 ∧ Fr (· = r) w w' := by
  have h' := h
  obtain ⟨C, hb, hR⟩ := h
  have hc := cell_blk hb hR.n
  unfold AR.setR
  by_cases hi : R.ok i
  · have hy := cell_blk hb (hR.at hi)
    have hf := free_blk (i := i.toNat) hb
    have hl := hR.le
    obtain ⟨h0, h1⟩ := id hi
    rw [if_pos hi]
    by_cases hx : x < 0
    · rw [if_pos hx]
      go_enter Try.func51, Try.ntmps51
      go_wp2_with (go_at_call 75; refine (roots_slot_ok r i _ _ h0 h1 (by omega) hc).mono ?_; rintro e w' ⟨rfl, rfl⟩)
      go_ret
      exact ⟨rfl, h', Fr.refl _ _⟩
    · rw [if_neg hx]
      have fin : RootsAt (w.setCell ⟨r, i.toNat, none⟩ (I x)) r (R.set i x) := ⟨_, heap_setCell_same _ hb, hR.set i x hi⟩
      generalize R.get i = y at hy
      go_enter Try.func51, Try.ntmps51
      go_wp2_with (go_at_call 75; refine (roots_slot_ok r i _ _ h0 h1 (by omega) hc).mono ?_; rintro e w' ⟨rfl, rfl⟩)
      go_ret
      exact ⟨rfl, fin, (Fr.refl _ _).setCell _ _ (fun _ => rfl)⟩
  · rw [if_neg hi]
    have hn := not_ok hi
    go_enter Try.func51, Try.ntmps51
    go_wp2_with (go_at_call 75; refine (roots_slot_bad r i _ _ hn hc).mono ?_; rintro e w' ⟨rfl, rfl⟩)
    go_ret
    exact ⟨rfl, h', Fr.refl _ _⟩

theorem RootsAt.alike {w w' : World} {r : Nat} {R : AR} (h : RootsAt w r R) (e : w'.Alike w) : RootsAt w' r R := h.kept (by rw [e.1])
theorem Fr.alike {F : Nat → Prop} {a w w' : World} (h : Fr F a w) (e : w'.Alike w) (ht : w'.tape = w.tape) : Fr F a w' :=
  ⟨e.2.1.trans h.os, ht.trans h.tape, e.2.2.trans h.output, by rw [e.1]; exact h.size, by rw [e.1]; exact h.block⟩

theorem roots_push (w : World) (r : Nat) (R : AR) (i : Int) (h : RootsAt w r R) :
    Calls Try.prog 52 #[Pt r, I i] w fun e w' => e = .returned (I (R.pushR i).2) ∧ RootsAt w' r (R.pushR i).1 ∧ Fr (· = r) w w' := by
  have h' := h
  obtain ⟨C, hb, hR⟩ := h
  have hc := cell_blk hb hR.n
  have hdc := cell_blk hb hR.d
  have hdeep := hR.deep
  unfold AR.pushR
  by_cases hi : R.ok i
  · have hx := cell_blk hb (hR.at hi)
    have hl := hR.le
    obtain ⟨h0, h1⟩ := id hi
    rw [if_pos hi]
    by_cases hd : R.stack.length = 16
    · rw [if_pos hd]
      rw [hd] at hdc
      go_enter Try.func52, Try.ntmps52
      go_wp2_with (go_at_call 75; refine (roots_slot_ok r i _ _ h0 h1 (by omega) hc).mono ?_; rintro e w' ⟨rfl, rfl⟩)
      go_ret
      exact ⟨rfl, h', Fr.refl _ _⟩
    · rw [if_neg hd]
      have hf := free_blk (i := 9 + R.stack.length) hb
      have hf2 := free_blk (i := 25) hb
      obtain ⟨y, hy⟩ := hR.cell (9 + R.stack.length) (by omega)
      have hy := cell_blk hb hy
      have hdi : (R.stack.length : Int) < 16 := by omega
      have hne : ((R.stack.length : Int) == 16) = false := by simp; omega
      have fin : RootsAt ((w.setCell ⟨r, 9 + R.stack.length, none⟩ (I (R.get i))).setCell ⟨r, 25, none⟩ (I (R.stack.length + 1 : Nat))) r { R with stack := R.stack ++ [R.get i] } :=
        ⟨_, heap_setCell_same _ (heap_setCell_same _ hb), hR.push _ (by omega)⟩
      have fin2 : Fr (· = r) w ((w.setCell ⟨r, 9 + R.stack.length, none⟩ (I (R.get i))).setCell ⟨r, 25, none⟩ (I (R.stack.length + 1 : Nat))) :=
        ((Fr.refl (· = r) w).set _ _ rfl).set _ _ rfl
      generalize R.get i = x at hx fin fin2 ⊢
      have F := Lib.hid (And.intro fin fin2)
      clear fin fin2 hd hdeep
      go_enter Try.func52, Try.ntmps52
      go_wp2_with (go_at_call 75; refine (roots_slot_ok r i _ _ h0 h1 (by omega) hc).mono ?_; rintro e w' ⟨rfl, rfl⟩)
      go_region
      go_wp2
      go_ret
      exact ⟨rfl, F.out.1.alike ⟨rfl, rfl, rfl⟩, F.out.2.alike ⟨rfl, rfl, rfl⟩ rfl⟩
  · rw [if_neg hi]
    have hn := not_ok hi
    go_enter Try.func52, Try.ntmps52
    go_wp2_with (go_at_call 75; refine (roots_slot_bad r i _ _ hn hc).mono ?_; rintro e w' ⟨rfl, rfl⟩)
    go_ret
    exact ⟨rfl, h', Fr.refl _ _⟩


theorem getD_last {l : List Int} : l.getD (l.length - 1) 0 = l.getLastD 0 := by
  cases h : l with
  | nil => rfl
  | cons a t => simp [List.getD, List.getLastD_eq_getLast?, List.getLast?_eq_getElem?]

theorem roots_pop (w : World) (r : Nat) (R : AR) (i : Int) (h : RootsAt w r R) :
    Calls Try.prog 64 #[Pt r, I i] w fun e w' => e = .returned (I (R.popR i).2) ∧ RootsAt w' r (R.popR i).1 ∧ Fr (· = r) w w' := by
  have h' := h
  obtain ⟨C, hb, hR⟩ := h
  have hc := cell_blk hb hR.n
  have hdc := cell_blk hb hR.d
  have hdeep := hR.deep
  unfold AR.popR
  by_cases hi : R.ok i
  · have hx := cell_blk hb (hR.at hi)
    have hl := hR.le
    obtain ⟨h0, h1⟩ := id hi
    rw [if_pos hi]
    by_cases hd : R.stack.length = 0
    · rw [if_pos hd]
      rw [hd] at hdc
      go_enter Try.func64, Try.ntmps64
      go_wp2_with (go_at_call 75; refine (roots_slot_ok r i _ _ h0 h1 (by omega) hc).mono ?_; rintro e w' ⟨rfl, rfl⟩)
      go_ret
      exact ⟨rfl, h', Fr.refl _ _⟩
    · rw [if_neg hd]
      obtain ⟨d, hd1⟩ : ∃ d, R.stack.length = d + 1 := ⟨R.stack.length - 1, by omega⟩
      have hf := free_blk (i := 25) hb
      have hf2 := free_blk (i := i.toNat) hb
      have hy := cell_blk hb (hR.stk d (by omega))
      have fin : RootsAt ((w.setCell ⟨r, 25, none⟩ (I d)).setCell ⟨r, i.toNat, none⟩ (I (R.stack.getD d 0))) r (({ R with stack := R.stack.dropLast } : AR).set i (R.stack.getD d 0)) :=
        ⟨_, heap_setCell_same _ (heap_setCell_same _ hb), (hR.pop d hd1).set _ _ hi⟩
      have fin2 : Fr (· = r) w ((w.setCell ⟨r, 25, none⟩ (I d)).setCell ⟨r, i.toNat, none⟩ (I (R.stack.getD d 0))) :=
        ((Fr.refl (· = r) w).set _ _ rfl).set _ _ rfl
      have hc25 : (w.setCell ⟨r, 25, none⟩ (I d)).cell? ⟨r, 9 + d, none⟩ = some (I (R.stack.getD d 0)) := by
        rw [World.cell?_setCell_other _ _ _ _ (by intro e; injection e; omega)]; exact hy
      have hci : (w.setCell ⟨r, 25, none⟩ (I d)).cell? ⟨r, i.toNat, none⟩ = some (I (R.get i)) := by
        rw [World.cell?_setCell_other _ _ _ _ (by intro e; injection e; omega)]; exact hx
      rw [hd1] at hdc ⊢
      simp only [Nat.add_sub_cancel]
      have hne : (((d : Nat) + 1 : Int) == 0) = false := by simp; omega
      have hd15 : (d : Int) < 16 := by omega
      generalize R.stack.getD d 0 = y at *
      generalize R.get i = x at *
      have F := Lib.hid (And.intro fin fin2)
      clear fin fin2 hd hdeep hd1 hy
      go_enter Try.func64, Try.ntmps64
      go_wp2_with (go_at_call 75; refine (roots_slot_ok r i _ _ h0 h1 (by omega) hc).mono ?_; rintro e w' ⟨rfl, rfl⟩)
      go_region
      go_wp2
      go_ret
      exact ⟨rfl, F.out.1.alike ⟨rfl, rfl, rfl⟩, F.out.2.alike ⟨rfl, rfl, rfl⟩ rfl⟩
  · rw [if_neg hi]
    have hn := not_ok hi
    go_enter Try.func64, Try.ntmps64
    go_wp2_with (go_at_call 75; refine (roots_slot_bad r i _ _ hn hc).mono ?_; rintro e w' ⟨rfl, rfl⟩)
    go_ret
    exact ⟨rfl, h', Fr.refl _ _⟩

theorem roots_slots (w : World) (r : Nat) (R : AR) (h : RootsAt w r R) :
    Calls Try.prog 73 #[Pt r] w fun e w' => e = .returned (I R.slots.length) ∧ w = w' := by
  obtain ⟨C, hb, hR⟩ := h
  have hc := cell_blk hb hR.n
  go_enter Try.func73, Try.ntmps73
  go_wp2
  go_ret
  exact ⟨rfl, rfl⟩

end Go.Proofs.Ytnhombeagbhccaa
