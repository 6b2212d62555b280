/- Does, on a graph that there is. -/
import Derived.Test.YtnhombeagbhccaaDoes
namespace Go.Proofs.Ytnhombeagbhccaa
open Go.RowKit

variable {w w' : World} {g : Nat} {L : PG} {A : AG}

theorem Goes.fromNew {W : World} {A' : AG} (hn : New w W) (hg : Goes W w' g L A A') : Goes w w' g L A A' := by
  obtain ⟨L', h1, h2, h3, h4⟩ := hg
  refine ⟨L', h1, h2, fun b hb => ?_, (hn.to _).trans h4⟩
  rcases h3 b hb with h | h
  · exact .inl h
  · exact .inr (Nat.le_trans hn.size h)

theorem graph_Alloc (h : GAt w g L A) (ha : L.Apart g A) (t dst refs size : Int) (hO : A.O.length < 1000000) :
    Calls Try.prog 18 #[Pt g, I t, I dst, I refs, I size] w fun e w' => e = .returned (.tuple #[I (A.alloc t dst refs size).2.1, I (A.alloc t dst refs size).2.2]) ∧ Goes w w' g L A (A.alloc t dst refs size).1 := by
  cases hs : A.slotE t dst with
  | error c => exact graph_Alloc_bad h ha t dst refs size (.inl ⟨c, hs⟩)
  | ok x =>
    by_cases hb : 0 ≤ refs ∧ refs ≤ size ∧ size ≤ 95
    · exact graph_Alloc_ok h ha t dst refs size x hs hb.1 hb.2.1 hb.2.2 hO
    · exact graph_Alloc_bad h ha t dst refs size (.inr ⟨⟨x, hs⟩, hb⟩)

theorem alloc_num (A : AG) (t a b c : Int) : 0 ≤ (A.alloc t a b c).2.1 ∧ (A.alloc t a b c).2.1 ≤ A.O.length + 1 := by
  unfold AG.alloc
  split
  · simp; omega
  · split <;> (simp; omega)

theorem load_num (hv : A.Valid) (t a b c : Int) : A.In (A.load t a b c).2.1 := by
  unfold AG.load
  split
  · exact in_zero
  · split
    · exact in_zero
    · rename_i n hn
      split
      · exact hv.refs _ (hv.obj' hn).2.2 _ (mem_getD0' (by omega))
      · exact in_zero

theorem get_num (hv : A.Valid) (t a b : Int) : A.In (A.get t a b).2.1 := by
  unfold AG.get
  split
  · exact in_zero
  · split
    · rename_i hg
      exact hv.glob _ (mem_getD0' (by unfold AG.okG at hg; omega))
    · exact in_zero

theorem slot_num (hv : A.Valid) (t a : Int) : A.In (A.slot t a).2.1 := by
  unfold AG.slot
  split
  · exact in_zero
  · exact hv.slot' ‹_›

theorem store_zero (A : AG) (t a b c : Int) : (A.store t a b c).2.1 = 0 := by
  unfold AG.store
  repeat' split
  all_goals rfl
theorem write_zero (A : AG) (t a b c : Int) : (A.write t a b c).2.1 = 0 := by
  unfold AG.write
  repeat' split
  all_goals rfl
theorem putG_zero (A : AG) (t a b : Int) : (A.putG t a b).2.1 = 0 := by
  unfold AG.putG
  repeat' split
  all_goals rfl
theorem move_zero (A : AG) (t a b : Int) : (A.move t a b).2.1 = 0 := by
  unfold AG.move
  repeat' split
  all_goals rfl
theorem clear_zero (A : AG) (t a : Int) : (A.clear t a).2.1 = 0 := by
  unfold AG.clear
  repeat' split
  all_goals rfl
theorem push_zero (A : AG) (t a : Int) : (A.push t a).2.1 = 0 := by
  unfold AG.push
  repeat' split
  all_goals rfl
theorem pop_zero (A : AG) (t a : Int) : (A.pop t a).2.1 = 0 := by
  unfold AG.pop
  repeat' split
  all_goals rfl

theorem does_graph (h : GAt w g L A) (ha : L.Apart g A) (hv : A.Valid) (hs : A.Small) (x : AA) :
    Calls Try.prog 11 #[Pt g, x.val] w fun E W => E = .returned (.tuple #[U (A.act x).2.1, I (A.act x).2.2]) ∧ Goes w W g L A (A.act x).1 := by
  have hO := hs.objs
  have n0 : New w (w.alloc (.cells #[.int .u8 x.d, I x.t, I x.a, I x.b, I x.c, U x.v] 35)) := (Fr.refl _ _).alloc _
  have h0 := h.onNew n0
  have up : ∀ {F : FuncId} {args : Array Value} {v : Value} {A' : AG}, Calls Try.prog F args (w.alloc (.cells #[.int .u8 x.d, I x.t, I x.a, I x.b, I x.c, U x.v] 35)) (fun E W => E = .returned v ∧ Goes (w.alloc (.cells #[.int .u8 x.d, I x.t, I x.a, I x.b, I x.c, U x.v] 35)) W g L A A') →
      Calls Try.prog F args (w.alloc (.cells #[.int .u8 x.d, I x.t, I x.a, I x.b, I x.c, U x.v] 35)) (fun E W => E = .returned v ∧ Goes w W g L A A') := fun hc => hc.mono (fun E W k => ⟨k.1, k.2.fromNew n0⟩)
  have bound : ∀ {n : Int}, A.In n → 0 ≤ n ∧ n < 9223372036854775808 := fun hn => ⟨hn.1, by have := hn.2; omega⟩
  by_cases c0 : x.d = 0
  · have e : A.act x = A.alloc x.t x.a x.b x.c := by unfold AG.act; rw [if_pos c0]
    rw [e]
    exact does_0 _ x w _ _ _ c0 (up (graph_Alloc h0 ha _ _ _ _ (by omega))) (by have := alloc_num A x.t x.a x.b x.c; omega)
  by_cases c1 : x.d = 1
  · have e : A.act x = A.load x.t x.a x.b x.c := by unfold AG.act; rw [if_neg c0, if_pos c1]
    rw [e]
    exact does_1 _ x w _ _ _ c1 (up (graph_Load h0 ha hv _ _ _ _)) (bound (load_num hv ..))
  by_cases c2 : x.d = 2
  · have e : A.act x = A.store x.t x.a x.b x.c := by unfold AG.act; rw [if_neg c0, if_neg c1, if_pos c2]
    rw [e]
    rw [store_zero]
    exact does_2 _ x w _ _ c2 (up (graph_Store h0 ha hv _ _ _ _))
  by_cases c3 : x.d = 3
  · have e : A.act x = A.read x.t x.a x.b := by unfold AG.act; rw [if_neg c0, if_neg c1, if_neg c2, if_pos c3]
    rw [e]
    exact does_3 _ x w _ _ _ c3 (up (graph_Read h0 ha hv _ _ _))
  by_cases c4 : x.d = 4
  · have e : A.act x = A.write x.t x.a x.b x.v := by unfold AG.act; rw [if_neg c0, if_neg c1, if_neg c2, if_neg c3, if_pos c4]
    rw [e]
    rw [write_zero]
    exact does_4 _ x w _ _ c4 (up (graph_Write h0 ha hv _ _ _ _))
  by_cases c5 : x.d = 5
  · have e : A.act x = A.get x.t x.a x.b := by unfold AG.act; rw [if_neg c0, if_neg c1, if_neg c2, if_neg c3, if_neg c4, if_pos c5]
    rw [e]
    exact does_5 _ x w _ _ _ c5 (up (graph_Get h0 ha hv _ _ _)) (bound (get_num hv ..))
  by_cases c6 : x.d = 6
  · have e : A.act x = A.putG x.t x.a x.b := by unfold AG.act; rw [if_neg c0, if_neg c1, if_neg c2, if_neg c3, if_neg c4, if_neg c5, if_pos c6]
    rw [e]
    rw [putG_zero]
    exact does_6 _ x w _ _ c6 (up (graph_Put h0 ha _ _ _))
  by_cases c7 : x.d = 7
  · have e : A.act x = A.move x.t x.a x.b := by unfold AG.act; rw [if_neg c0, if_neg c1, if_neg c2, if_neg c3, if_neg c4, if_neg c5, if_neg c6, if_pos c7]
    rw [e]
    rw [move_zero]
    exact does_7 _ x w _ _ c7 (up (graph_Move h0 ha hv _ _ _))
  by_cases c8 : x.d = 8
  · have e : A.act x = A.clear x.t x.a := by unfold AG.act; rw [if_neg c0, if_neg c1, if_neg c2, if_neg c3, if_neg c4, if_neg c5, if_neg c6, if_neg c7, if_pos c8]
    rw [e]
    rw [clear_zero]
    exact does_8 _ x w _ _ c8 (up (graph_Clear h0 ha _ _))
  by_cases c9 : x.d = 9
  · have e : A.act x = A.push x.t x.a := by unfold AG.act; rw [if_neg c0, if_neg c1, if_neg c2, if_neg c3, if_neg c4, if_neg c5, if_neg c6, if_neg c7, if_neg c8, if_pos c9]
    rw [e]
    rw [push_zero]
    exact does_9 _ x w _ _ c9 (up (graph_Push h0 ha _ _))
  by_cases c10 : x.d = 10
  · have e : A.act x = A.pop x.t x.a := by unfold AG.act; rw [if_neg c0, if_neg c1, if_neg c2, if_neg c3, if_neg c4, if_neg c5, if_neg c6, if_neg c7, if_neg c8, if_neg c9, if_pos c10]
    rw [e]
    rw [pop_zero]
    exact does_10 _ x w _ _ c10 (up (graph_Pop h0 ha _ _))
  have e : A.act x = A.slot x.t x.a := by unfold AG.act; rw [if_neg c0, if_neg c1, if_neg c2, if_neg c3, if_neg c4, if_neg c5, if_neg c6, if_neg c7, if_neg c8, if_neg c9, if_neg c10]
  rw [e]
  exact does_11 _ x w _ _ _ ⟨c0, c1, c2, c3, c4, c5, c6, c7, c8, c9, c10⟩ (up (graph_Slot h0 ha _ _)) (bound (slot_num hv ..))

end Go.Proofs.Ytnhombeagbhccaa
