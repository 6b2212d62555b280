/- Says: an act on the reference's graph. -/
import Derived.Test.YtnhombeagbhccaaRef10
import Derived.Test.YtnhombeagbhccaaDoes2
namespace Go.Proofs.Ytnhombeagbhccaa
open Go.RowKit


theorem says_0 (gv : Value) (x : AA) (w : World) (n e : Int) (Q : World → Prop) (hd : x.d = 0)
    (hc : Calls Try.prog 32 #[gv, I x.t, I x.a, I x.b, I x.c] (w.alloc (.cells #[.int .u8 x.d, I x.t, I x.a, I x.b, I x.c, U x.v] 35)) fun E W => E = .returned (.tuple #[I n, I e]) ∧ Q W) (hn : 0 ≤ n ∧ n < 9223372036854775808) :
    Calls Try.prog 12 #[gv, x.val] w fun E W => E = .returned (.tuple #[U n, I e]) ∧ Q W := by
  obtain ⟨d, t, a, b, c, v⟩ := x
  simp only [AA.val] at hc hd ⊢
  subst hd
  have HC := Lib.hid hc
  clear hc
  go_enter Try.func12, Try.ntmps12
  go_wp2_with (go_at_call 32; (with_reducible refine HC.out.mono ?_); rintro e w' ⟨rfl, hq⟩)
  go_ret2
  exact ⟨rfl, hq⟩

theorem says_1 (gv : Value) (x : AA) (w : World) (n e : Int) (Q : World → Prop) (hd : x.d = 1)
    (hc : Calls Try.prog 33 #[gv, I x.t, I x.a, I x.b, I x.c] (w.alloc (.cells #[.int .u8 x.d, I x.t, I x.a, I x.b, I x.c, U x.v] 35)) fun E W => E = .returned (.tuple #[I n, I e]) ∧ Q W) (hn : 0 ≤ n ∧ n < 9223372036854775808) :
    Calls Try.prog 12 #[gv, x.val] w fun E W => E = .returned (.tuple #[U n, I e]) ∧ Q W := by
  obtain ⟨d, t, a, b, c, v⟩ := x
  simp only [AA.val] at hc hd ⊢
  subst hd
  have HC := Lib.hid hc
  clear hc
  go_enter Try.func12, Try.ntmps12
  go_wp2_with (go_at_call 33; (with_reducible refine HC.out.mono ?_); rintro e w' ⟨rfl, hq⟩)
  go_ret2
  exact ⟨rfl, hq⟩

theorem says_2 (gv : Value) (x : AA) (w : World) (e : Int) (Q : World → Prop) (hd : x.d = 2)
    (hc : Calls Try.prog 34 #[gv, I x.t, I x.a, I x.b, I x.c] (w.alloc (.cells #[.int .u8 x.d, I x.t, I x.a, I x.b, I x.c, U x.v] 35)) fun E W => E = .returned (I e) ∧ Q W) :
    Calls Try.prog 12 #[gv, x.val] w fun E W => E = .returned (.tuple #[U 0, I e]) ∧ Q W := by
  obtain ⟨d, t, a, b, c, v⟩ := x
  simp only [AA.val] at hc hd ⊢
  subst hd
  have HC := Lib.hid hc
  clear hc
  go_enter Try.func12, Try.ntmps12
  go_wp2_with (go_at_call 34; (with_reducible refine HC.out.mono ?_); rintro e w' ⟨rfl, hq⟩)
  go_ret2
  exact ⟨rfl, hq⟩

theorem says_3 (gv : Value) (x : AA) (w : World) (n e : Int) (Q : World → Prop) (hd : x.d = 3)
    (hc : Calls Try.prog 35 #[gv, I x.t, I x.a, I x.b] (w.alloc (.cells #[.int .u8 x.d, I x.t, I x.a, I x.b, I x.c, U x.v] 35)) fun E W => E = .returned (.tuple #[U n, I e]) ∧ Q W) :
    Calls Try.prog 12 #[gv, x.val] w fun E W => E = .returned (.tuple #[U n, I e]) ∧ Q W := by
  obtain ⟨d, t, a, b, c, v⟩ := x
  simp only [AA.val] at hc hd ⊢
  subst hd
  have HC := Lib.hid hc
  clear hc
  go_enter Try.func12, Try.ntmps12
  go_wp2_with (go_at_call 35; (with_reducible refine HC.out.mono ?_); rintro e w' ⟨rfl, hq⟩)
  go_ret2
  exact ⟨rfl, hq⟩

theorem says_4 (gv : Value) (x : AA) (w : World) (e : Int) (Q : World → Prop) (hd : x.d = 4)
    (hc : Calls Try.prog 36 #[gv, I x.t, I x.a, I x.b, U x.v] (w.alloc (.cells #[.int .u8 x.d, I x.t, I x.a, I x.b, I x.c, U x.v] 35)) fun E W => E = .returned (I e) ∧ Q W) :
    Calls Try.prog 12 #[gv, x.val] w fun E W => E = .returned (.tuple #[U 0, I e]) ∧ Q W := by
  obtain ⟨d, t, a, b, c, v⟩ := x
  simp only [AA.val] at hc hd ⊢
  subst hd
  have HC := Lib.hid hc
  clear hc
  go_enter Try.func12, Try.ntmps12
  go_wp2_with (go_at_call 36; (with_reducible refine HC.out.mono ?_); rintro e w' ⟨rfl, hq⟩)
  go_ret2
  exact ⟨rfl, hq⟩

theorem says_5 (gv : Value) (x : AA) (w : World) (n e : Int) (Q : World → Prop) (hd : x.d = 5)
    (hc : Calls Try.prog 37 #[gv, I x.t, I x.a, I x.b] (w.alloc (.cells #[.int .u8 x.d, I x.t, I x.a, I x.b, I x.c, U x.v] 35)) fun E W => E = .returned (.tuple #[I n, I e]) ∧ Q W) (hn : 0 ≤ n ∧ n < 9223372036854775808) :
    Calls Try.prog 12 #[gv, x.val] w fun E W => E = .returned (.tuple #[U n, I e]) ∧ Q W := by
  obtain ⟨d, t, a, b, c, v⟩ := x
  simp only [AA.val] at hc hd ⊢
  subst hd
  have HC := Lib.hid hc
  clear hc
  go_enter Try.func12, Try.ntmps12
  go_wp2_with (go_at_call 37; (with_reducible refine HC.out.mono ?_); rintro e w' ⟨rfl, hq⟩)
  go_ret2
  exact ⟨rfl, hq⟩

theorem says_6 (gv : Value) (x : AA) (w : World) (e : Int) (Q : World → Prop) (hd : x.d = 6)
    (hc : Calls Try.prog 38 #[gv, I x.t, I x.a, I x.b] (w.alloc (.cells #[.int .u8 x.d, I x.t, I x.a, I x.b, I x.c, U x.v] 35)) fun E W => E = .returned (I e) ∧ Q W) :
    Calls Try.prog 12 #[gv, x.val] w fun E W => E = .returned (.tuple #[U 0, I e]) ∧ Q W := by
  obtain ⟨d, t, a, b, c, v⟩ := x
  simp only [AA.val] at hc hd ⊢
  subst hd
  have HC := Lib.hid hc
  clear hc
  go_enter Try.func12, Try.ntmps12
  go_wp2_with (go_at_call 38; (with_reducible refine HC.out.mono ?_); rintro e w' ⟨rfl, hq⟩)
  go_ret2
  exact ⟨rfl, hq⟩

theorem says_7 (gv : Value) (x : AA) (w : World) (e : Int) (Q : World → Prop) (hd : x.d = 7)
    (hc : Calls Try.prog 39 #[gv, I x.t, I x.a, I x.b] (w.alloc (.cells #[.int .u8 x.d, I x.t, I x.a, I x.b, I x.c, U x.v] 35)) fun E W => E = .returned (I e) ∧ Q W) :
    Calls Try.prog 12 #[gv, x.val] w fun E W => E = .returned (.tuple #[U 0, I e]) ∧ Q W := by
  obtain ⟨d, t, a, b, c, v⟩ := x
  simp only [AA.val] at hc hd ⊢
  subst hd
  have HC := Lib.hid hc
  clear hc
  go_enter Try.func12, Try.ntmps12
  go_wp2_with (go_at_call 39; (with_reducible refine HC.out.mono ?_); rintro e w' ⟨rfl, hq⟩)
  go_ret2
  exact ⟨rfl, hq⟩

theorem says_8 (gv : Value) (x : AA) (w : World) (e : Int) (Q : World → Prop) (hd : x.d = 8)
    (hc : Calls Try.prog 40 #[gv, I x.t, I x.a] (w.alloc (.cells #[.int .u8 x.d, I x.t, I x.a, I x.b, I x.c, U x.v] 35)) fun E W => E = .returned (I e) ∧ Q W) :
    Calls Try.prog 12 #[gv, x.val] w fun E W => E = .returned (.tuple #[U 0, I e]) ∧ Q W := by
  obtain ⟨d, t, a, b, c, v⟩ := x
  simp only [AA.val] at hc hd ⊢
  subst hd
  have HC := Lib.hid hc
  clear hc
  go_enter Try.func12, Try.ntmps12
  go_wp2_with (go_at_call 40; (with_reducible refine HC.out.mono ?_); rintro e w' ⟨rfl, hq⟩)
  go_ret2
  exact ⟨rfl, hq⟩

theorem says_9 (gv : Value) (x : AA) (w : World) (e : Int) (Q : World → Prop) (hd : x.d = 9)
    (hc : Calls Try.prog 41 #[gv, I x.t, I x.a] (w.alloc (.cells #[.int .u8 x.d, I x.t, I x.a, I x.b, I x.c, U x.v] 35)) fun E W => E = .returned (I e) ∧ Q W) :
    Calls Try.prog 12 #[gv, x.val] w fun E W => E = .returned (.tuple #[U 0, I e]) ∧ Q W := by
  obtain ⟨d, t, a, b, c, v⟩ := x
  simp only [AA.val] at hc hd ⊢
  subst hd
  have HC := Lib.hid hc
  clear hc
  go_enter Try.func12, Try.ntmps12
  go_wp2_with (go_at_call 41; (with_reducible refine HC.out.mono ?_); rintro e w' ⟨rfl, hq⟩)
  go_ret2
  exact ⟨rfl, hq⟩

theorem says_10 (gv : Value) (x : AA) (w : World) (e : Int) (Q : World → Prop) (hd : x.d = 10)
    (hc : Calls Try.prog 42 #[gv, I x.t, I x.a] (w.alloc (.cells #[.int .u8 x.d, I x.t, I x.a, I x.b, I x.c, U x.v] 35)) fun E W => E = .returned (I e) ∧ Q W) :
    Calls Try.prog 12 #[gv, x.val] w fun E W => E = .returned (.tuple #[U 0, I e]) ∧ Q W := by
  obtain ⟨d, t, a, b, c, v⟩ := x
  simp only [AA.val] at hc hd ⊢
  subst hd
  have HC := Lib.hid hc
  clear hc
  go_enter Try.func12, Try.ntmps12
  go_wp2_with (go_at_call 42; (with_reducible refine HC.out.mono ?_); rintro e w' ⟨rfl, hq⟩)
  go_ret2
  exact ⟨rfl, hq⟩

theorem says_11 (gv : Value) (x : AA) (w : World) (n e : Int) (Q : World → Prop) (hd : x.d ≠ 0 ∧ x.d ≠ 1 ∧ x.d ≠ 2 ∧ x.d ≠ 3 ∧ x.d ≠ 4 ∧ x.d ≠ 5 ∧ x.d ≠ 6 ∧ x.d ≠ 7 ∧ x.d ≠ 8 ∧ x.d ≠ 9 ∧ x.d ≠ 10)
    (hc : Calls Try.prog 43 #[gv, I x.t, I x.a] (w.alloc (.cells #[.int .u8 x.d, I x.t, I x.a, I x.b, I x.c, U x.v] 35)) fun E W => E = .returned (.tuple #[I n, I e]) ∧ Q W) (hn : 0 ≤ n ∧ n < 9223372036854775808) :
    Calls Try.prog 12 #[gv, x.val] w fun E W => E = .returned (.tuple #[U n, I e]) ∧ Q W := by
  obtain ⟨d, t, a, b, c, v⟩ := x
  simp only [AA.val] at hc hd ⊢
  obtain ⟨d0, d1, d2, d3, d4, d5, d6, d7, d8, d9, d10⟩ := hd
  have HC := Lib.hid hc
  clear hc
  go_enter Try.func12, Try.ntmps12
  go_wp2_with (go_at_call 43; (with_reducible refine HC.out.mono ?_); rintro e w' ⟨rfl, hq⟩)
  go_ret2
  exact ⟨rfl, hq⟩

end Go.Proofs.Ytnhombeagbhccaa
