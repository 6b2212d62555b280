/- Does: an act on a graph. -/
import Derived.Test.YtnhombeagbhccaaGraph11
import Derived.Test.YtnhombeagbhccaaActs
namespace Go.Proofs.Ytnhombeagbhccaa
open Go.RowKit

def AA.cells (x : AA) : Array Value := #[.int .u8 x.d, I x.t, I x.a, I x.b, I x.c, U x.v]
abbrev AA.val (x : AA) : Value := .agg #[.int .u8 x.d, I x.t, I x.a, I x.b, I x.c, U x.v]

theorem does_0 (gv : Value) (x : AA) (w : World) (n e : Int) (Q : World → Prop) (hd : x.d = 0)
    (hc : Calls Try.prog 18 #[gv, I x.t, I x.a, I x.b, I x.c] (w.alloc (.cells #[.int .u8 x.d, I x.t, I x.a, I x.b, I x.c, U x.v] 35)) fun E W => E = .returned (.tuple #[I n, I e]) ∧ Q W) (hn : 0 ≤ n ∧ n < 9223372036854775808) :
    Calls Try.prog 11 #[gv, x.val] w fun E W => E = .returned (.tuple #[U n, I e]) ∧ Q W := by
  obtain ⟨d, t, a, b, c, v⟩ := x
  simp only [AA.val] at hc hd ⊢
  subst hd
  have HC := Lib.hid hc
  clear hc
  go_enter Try.func11, Try.ntmps11
  go_wp2_with (go_at_call 18; (with_reducible refine HC.out.mono ?_); rintro e w' ⟨rfl, hq⟩)
  go_ret2
  exact ⟨rfl, hq⟩

theorem does_1 (gv : Value) (x : AA) (w : World) (n e : Int) (Q : World → Prop) (hd : x.d = 1)
    (hc : Calls Try.prog 21 #[gv, I x.t, I x.a, I x.b, I x.c] (w.alloc (.cells #[.int .u8 x.d, I x.t, I x.a, I x.b, I x.c, U x.v] 35)) fun E W => E = .returned (.tuple #[I n, I e]) ∧ Q W) (hn : 0 ≤ n ∧ n < 9223372036854775808) :
    Calls Try.prog 11 #[gv, x.val] w fun E W => E = .returned (.tuple #[U n, I e]) ∧ Q W := by
  obtain ⟨d, t, a, b, c, v⟩ := x
  simp only [AA.val] at hc hd ⊢
  subst hd
  have HC := Lib.hid hc
  clear hc
  go_enter Try.func11, Try.ntmps11
  go_wp2_with (go_at_call 21; (with_reducible refine HC.out.mono ?_); rintro e w' ⟨rfl, hq⟩)
  go_ret2
  exact ⟨rfl, hq⟩

theorem does_2 (gv : Value) (x : AA) (w : World) (e : Int) (Q : World → Prop) (hd : x.d = 2)
    (hc : Calls Try.prog 19 #[gv, I x.t, I x.a, I x.b, I x.c] (w.alloc (.cells #[.int .u8 x.d, I x.t, I x.a, I x.b, I x.c, U x.v] 35)) fun E W => E = .returned (I e) ∧ Q W) :
    Calls Try.prog 11 #[gv, x.val] w fun E W => E = .returned (.tuple #[U 0, I e]) ∧ Q W := by
  obtain ⟨d, t, a, b, c, v⟩ := x
  simp only [AA.val] at hc hd ⊢
  subst hd
  have HC := Lib.hid hc
  clear hc
  go_enter Try.func11, Try.ntmps11
  go_wp2_with (go_at_call 19; (with_reducible refine HC.out.mono ?_); rintro e w' ⟨rfl, hq⟩)
  go_ret2
  exact ⟨rfl, hq⟩

theorem does_3 (gv : Value) (x : AA) (w : World) (n e : Int) (Q : World → Prop) (hd : x.d = 3)
    (hc : Calls Try.prog 24 #[gv, I x.t, I x.a, I x.b] (w.alloc (.cells #[.int .u8 x.d, I x.t, I x.a, I x.b, I x.c, U x.v] 35)) fun E W => E = .returned (.tuple #[U n, I e]) ∧ Q W) :
    Calls Try.prog 11 #[gv, x.val] w fun E W => E = .returned (.tuple #[U n, I e]) ∧ Q W := by
  obtain ⟨d, t, a, b, c, v⟩ := x
  simp only [AA.val] at hc hd ⊢
  subst hd
  have HC := Lib.hid hc
  clear hc
  go_enter Try.func11, Try.ntmps11
  go_wp2_with (go_at_call 24; (with_reducible refine HC.out.mono ?_); rintro e w' ⟨rfl, hq⟩)
  go_ret2
  exact ⟨rfl, hq⟩

theorem does_4 (gv : Value) (x : AA) (w : World) (e : Int) (Q : World → Prop) (hd : x.d = 4)
    (hc : Calls Try.prog 25 #[gv, I x.t, I x.a, I x.b, U x.v] (w.alloc (.cells #[.int .u8 x.d, I x.t, I x.a, I x.b, I x.c, U x.v] 35)) fun E W => E = .returned (I e) ∧ Q W) :
    Calls Try.prog 11 #[gv, x.val] w fun E W => E = .returned (.tuple #[U 0, I e]) ∧ Q W := by
  obtain ⟨d, t, a, b, c, v⟩ := x
  simp only [AA.val] at hc hd ⊢
  subst hd
  have HC := Lib.hid hc
  clear hc
  go_enter Try.func11, Try.ntmps11
  go_wp2_with (go_at_call 25; (with_reducible refine HC.out.mono ?_); rintro e w' ⟨rfl, hq⟩)
  go_ret2
  exact ⟨rfl, hq⟩

theorem does_5 (gv : Value) (x : AA) (w : World) (n e : Int) (Q : World → Prop) (hd : x.d = 5)
    (hc : Calls Try.prog 26 #[gv, I x.t, I x.a, I x.b] (w.alloc (.cells #[.int .u8 x.d, I x.t, I x.a, I x.b, I x.c, U x.v] 35)) fun E W => E = .returned (.tuple #[I n, I e]) ∧ Q W) (hn : 0 ≤ n ∧ n < 9223372036854775808) :
    Calls Try.prog 11 #[gv, x.val] w fun E W => E = .returned (.tuple #[U n, I e]) ∧ Q W := by
  obtain ⟨d, t, a, b, c, v⟩ := x
  simp only [AA.val] at hc hd ⊢
  subst hd
  have HC := Lib.hid hc
  clear hc
  go_enter Try.func11, Try.ntmps11
  go_wp2_with (go_at_call 26; (with_reducible refine HC.out.mono ?_); rintro e w' ⟨rfl, hq⟩)
  go_ret2
  exact ⟨rfl, hq⟩

theorem does_6 (gv : Value) (x : AA) (w : World) (e : Int) (Q : World → Prop) (hd : x.d = 6)
    (hc : Calls Try.prog 27 #[gv, I x.t, I x.a, I x.b] (w.alloc (.cells #[.int .u8 x.d, I x.t, I x.a, I x.b, I x.c, U x.v] 35)) fun E W => E = .returned (I e) ∧ Q W) :
    Calls Try.prog 11 #[gv, x.val] w fun E W => E = .returned (.tuple #[U 0, I e]) ∧ Q W := by
  obtain ⟨d, t, a, b, c, v⟩ := x
  simp only [AA.val] at hc hd ⊢
  subst hd
  have HC := Lib.hid hc
  clear hc
  go_enter Try.func11, Try.ntmps11
  go_wp2_with (go_at_call 27; (with_reducible refine HC.out.mono ?_); rintro e w' ⟨rfl, hq⟩)
  go_ret2
  exact ⟨rfl, hq⟩

theorem does_7 (gv : Value) (x : AA) (w : World) (e : Int) (Q : World → Prop) (hd : x.d = 7)
    (hc : Calls Try.prog 28 #[gv, I x.t, I x.a, I x.b] (w.alloc (.cells #[.int .u8 x.d, I x.t, I x.a, I x.b, I x.c, U x.v] 35)) fun E W => E = .returned (I e) ∧ Q W) :
    Calls Try.prog 11 #[gv, x.val] w fun E W => E = .returned (.tuple #[U 0, I e]) ∧ Q W := by
  obtain ⟨d, t, a, b, c, v⟩ := x
  simp only [AA.val] at hc hd ⊢
  subst hd
  have HC := Lib.hid hc
  clear hc
  go_enter Try.func11, Try.ntmps11
  go_wp2_with (go_at_call 28; (with_reducible refine HC.out.mono ?_); rintro e w' ⟨rfl, hq⟩)
  go_ret2
  exact ⟨rfl, hq⟩

theorem does_8 (gv : Value) (x : AA) (w : World) (e : Int) (Q : World → Prop) (hd : x.d = 8)
    (hc : Calls Try.prog 20 #[gv, I x.t, I x.a] (w.alloc (.cells #[.int .u8 x.d, I x.t, I x.a, I x.b, I x.c, U x.v] 35)) fun E W => E = .returned (I e) ∧ Q W) :
    Calls Try.prog 11 #[gv, x.val] w fun E W => E = .returned (.tuple #[U 0, I e]) ∧ Q W := by
  obtain ⟨d, t, a, b, c, v⟩ := x
  simp only [AA.val] at hc hd ⊢
  subst hd
  have HC := Lib.hid hc
  clear hc
  go_enter Try.func11, Try.ntmps11
  go_wp2_with (go_at_call 20; (with_reducible refine HC.out.mono ?_); rintro e w' ⟨rfl, hq⟩)
  go_ret2
  exact ⟨rfl, hq⟩

theorem does_9 (gv : Value) (x : AA) (w : World) (e : Int) (Q : World → Prop) (hd : x.d = 9)
    (hc : Calls Try.prog 29 #[gv, I x.t, I x.a] (w.alloc (.cells #[.int .u8 x.d, I x.t, I x.a, I x.b, I x.c, U x.v] 35)) fun E W => E = .returned (I e) ∧ Q W) :
    Calls Try.prog 11 #[gv, x.val] w fun E W => E = .returned (.tuple #[U 0, I e]) ∧ Q W := by
  obtain ⟨d, t, a, b, c, v⟩ := x
  simp only [AA.val] at hc hd ⊢
  subst hd
  have HC := Lib.hid hc
  clear hc
  go_enter Try.func11, Try.ntmps11
  go_wp2_with (go_at_call 29; (with_reducible refine HC.out.mono ?_); rintro e w' ⟨rfl, hq⟩)
  go_ret2
  exact ⟨rfl, hq⟩

theorem does_10 (gv : Value) (x : AA) (w : World) (e : Int) (Q : World → Prop) (hd : x.d = 10)
    (hc : Calls Try.prog 30 #[gv, I x.t, I x.a] (w.alloc (.cells #[.int .u8 x.d, I x.t, I x.a, I x.b, I x.c, U x.v] 35)) fun E W => E = .returned (I e) ∧ Q W) :
    Calls Try.prog 11 #[gv, x.val] w fun E W => E = .returned (.tuple #[U 0, I e]) ∧ Q W := by
  obtain ⟨d, t, a, b, c, v⟩ := x
  simp only [AA.val] at hc hd ⊢
  subst hd
  have HC := Lib.hid hc
  clear hc
  go_enter Try.func11, Try.ntmps11
  go_wp2_with (go_at_call 30; (with_reducible refine HC.out.mono ?_); rintro e w' ⟨rfl, hq⟩)
  go_ret2
  exact ⟨rfl, hq⟩

theorem does_11 (gv : Value) (x : AA) (w : World) (n e : Int) (Q : World → Prop) (hd : x.d ≠ 0 ∧ x.d ≠ 1 ∧ x.d ≠ 2 ∧ x.d ≠ 3 ∧ x.d ≠ 4 ∧ x.d ≠ 5 ∧ x.d ≠ 6 ∧ x.d ≠ 7 ∧ x.d ≠ 8 ∧ x.d ≠ 9 ∧ x.d ≠ 10)
    (hc : Calls Try.prog 31 #[gv, I x.t, I x.a] (w.alloc (.cells #[.int .u8 x.d, I x.t, I x.a, I x.b, I x.c, U x.v] 35)) fun E W => E = .returned (.tuple #[I n, I e]) ∧ Q W) (hn : 0 ≤ n ∧ n < 9223372036854775808) :
    Calls Try.prog 11 #[gv, x.val] w fun E W => E = .returned (.tuple #[U n, I e]) ∧ Q W := by
  obtain ⟨d, t, a, b, c, v⟩ := x
  simp only [AA.val] at hc hd ⊢
  obtain ⟨d0, d1, d2, d3, d4, d5, d6, d7, d8, d9, d10⟩ := hd
  have HC := Lib.hid hc
  clear hc
  go_enter Try.func11, Try.ntmps11
  go_wp2_with (go_at_call 31; (with_reducible refine HC.out.mono ?_); rintro e w' ⟨rfl, hq⟩)
  go_ret2
  exact ⟨rfl, hq⟩

end Go.Proofs.Ytnhombeagbhccaa
