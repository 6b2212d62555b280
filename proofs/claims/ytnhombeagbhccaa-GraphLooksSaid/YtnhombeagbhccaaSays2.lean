/- Says, on a reference's graph that there is. -/
import Derived.Test.YtnhombeagbhccaaSays
namespace Go.Proofs.Ytnhombeagbhccaa
open Go.RowKit

variable {w w' : World} {r : Nat} {L : RL} {A : AG}

theorem RGoes.after' {W : World} {A' : AG} (hn : New w W) (hg : RGoes W w' r L A A') : RGoes w w' r L A A' := RGoes.after hn hg

theorem says_graph (h : RAt w r L A) (ha : L.Apart r A) (hn : 0 < A.T.length) (hv : A.Valid) (hs : A.Small) (x : AA) :
    Calls Try.prog 12 #[Pt r, x.val] w fun E W => E = .returned (.tuple #[U (A.act x).2.1, I (A.act x).2.2]) ∧ RGoes w W r L A (A.act x).1 := by
  have hO := hs.objs
  have n0 : New w (w.alloc (.cells #[.int .u8 x.d, I x.t, I x.a, I x.b, I x.c, U x.v] 35)) := (Fr.refl _ _).alloc _
  have h0 := h.onNew n0
  have up : ∀ {F : FuncId} {args : Array Value} {v : Value} {A' : AG}, Calls Try.prog F args (w.alloc (.cells #[.int .u8 x.d, I x.t, I x.a, I x.b, I x.c, U x.v] 35)) (fun E W => E = .returned v ∧ RGoes (w.alloc (.cells #[.int .u8 x.d, I x.t, I x.a, I x.b, I x.c, U x.v] 35)) W r L A A') →
      Calls Try.prog F args (w.alloc (.cells #[.int .u8 x.d, I x.t, I x.a, I x.b, I x.c, U x.v] 35)) (fun E W => E = .returned v ∧ RGoes w W r L A A') := fun hc => hc.mono (fun E W k => ⟨k.1, RGoes.after' n0 k.2⟩)
  have bound : ∀ {n : Int}, A.In n → 0 ≤ n ∧ n < 9223372036854775808 := fun hn => ⟨hn.1, by have := hn.2; omega⟩
  by_cases c0 : x.d = 0
  · have e : A.act x = A.alloc x.t x.a x.b x.c := by unfold AG.act; rw [if_pos c0]
    rw [e]
    exact says_0 _ x w _ _ _ c0 (up (ref_Alloc h0 ha hn hs _ _ _ _)) (by have := alloc_num A x.t x.a x.b x.c; omega)
  by_cases c1 : x.d = 1
  · have e : A.act x = A.load x.t x.a x.b x.c := by unfold AG.act; rw [if_neg c0, if_pos c1]
    rw [e]
    exact says_1 _ x w _ _ _ c1 (up (ref_Load h0 ha hn hv hs _ _ _ _)) (bound (load_num hv ..))
  by_cases c2 : x.d = 2
  · have e : A.act x = A.store x.t x.a x.b x.c := by unfold AG.act; rw [if_neg c0, if_neg c1, if_pos c2]
    rw [e]
    rw [store_zero]
    exact says_2 _ x w _ _ c2 (up (ref_Store h0 ha hn hv hs _ _ _ _))
  by_cases c3 : x.d = 3
  · have e : A.act x = A.read x.t x.a x.b := by unfold AG.act; rw [if_neg c0, if_neg c1, if_neg c2, if_pos c3]
    rw [e]
    exact says_3 _ x w _ _ _ c3 (up (ref_Read h0 ha hn hv hs _ _ _))
  by_cases c4 : x.d = 4
  · have e : A.act x = A.write x.t x.a x.b x.v := by unfold AG.act; rw [if_neg c0, if_neg c1, if_neg c2, if_neg c3, if_pos c4]
    rw [e]
    rw [write_zero]
    exact says_4 _ x w _ _ c4 (up (ref_Write h0 ha hn hv hs _ _ _ _))
  by_cases c5 : x.d = 5
  · have e : A.act x = A.get x.t x.a x.b := by unfold AG.act; rw [if_neg c0, if_neg c1, if_neg c2, if_neg c3, if_neg c4, if_pos c5]
    rw [e]
    exact says_5 _ x w _ _ _ c5 (up (ref_Get h0 ha hn hv hs _ _ _)) (bound (get_num hv ..))
  by_cases c6 : x.d = 6
  · have e : A.act x = A.putG x.t x.a x.b := by unfold AG.act; rw [if_neg c0, if_neg c1, if_neg c2, if_neg c3, if_neg c4, if_neg c5, if_pos c6]
    rw [e]
    rw [putG_zero]
    exact says_6 _ x w _ _ c6 (up (ref_Put h0 ha hn _ _ _))
  by_cases c7 : x.d = 7
  · have e : A.act x = A.move x.t x.a x.b := by unfold AG.act; rw [if_neg c0, if_neg c1, if_neg c2, if_neg c3, if_neg c4, if_neg c5, if_neg c6, if_pos c7]
    rw [e]
    rw [move_zero]
    exact says_7 _ x w _ _ c7 (up (ref_Move h0 ha hn hv hs _ _ _))
  by_cases c8 : x.d = 8
  · have e : A.act x = A.clear x.t x.a := by unfold AG.act; rw [if_neg c0, if_neg c1, if_neg c2, if_neg c3, if_neg c4, if_neg c5, if_neg c6, if_neg c7, if_pos c8]
    rw [e]
    rw [clear_zero]
    exact says_8 _ x w _ _ c8 (up (ref_Clear h0 ha hn hs _ _))
  by_cases c9 : x.d = 9
  · have e : A.act x = A.push x.t x.a := by unfold AG.act; rw [if_neg c0, if_neg c1, if_neg c2, if_neg c3, if_neg c4, if_neg c5, if_neg c6, if_neg c7, if_neg c8, if_pos c9]
    rw [e]
    rw [push_zero]
    exact says_9 _ x w _ _ c9 (up (ref_Push h0 ha hn hs _ _))
  by_cases c10 : x.d = 10
  · have e : A.act x = A.pop x.t x.a := by unfold AG.act; rw [if_neg c0, if_neg c1, if_neg c2, if_neg c3, if_neg c4, if_neg c5, if_neg c6, if_neg c7, if_neg c8, if_neg c9, if_pos c10]
    rw [e]
    rw [pop_zero]
    exact says_10 _ x w _ _ c10 (up (ref_Pop h0 ha hn hs _ _))
  have e : A.act x = A.slot x.t x.a := by unfold AG.act; rw [if_neg c0, if_neg c1, if_neg c2, if_neg c3, if_neg c4, if_neg c5, if_neg c6, if_neg c7, if_neg c8, if_neg c9, if_neg c10]
  rw [e]
  exact says_11 _ x w _ _ _ ⟨c0, c1, c2, c3, c4, c5, c6, c7, c8, c9, c10⟩ (up (ref_Slot h0 ha hn _ _)) (bound (slot_num hv ..))


end Go.Proofs.Ytnhombeagbhccaa
