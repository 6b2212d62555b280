/- Package demesnelaw10: row, looks. -/
import Derived.Test.YtnhombeagbhccaaLook
import Derived.Test.YtnhombeagbhccaaRef9
namespace Go.Proofs.Ytnhombeagbhccaa
open Go.RowKit

variable {w w' : World} {g r : Nat} {L : PG} {R : RL} {A : AG}

theorem Fr.drewN {F : Nat → Prop} {a w : World} (h : Fr F a w) (n : Nat) : Fr F a (w.drewN n) := ⟨h.os, h.tape, h.output, h.size, h.block⟩

set_option maxRecDepth 100000 in
theorem row_same (va vb : Value) (xs : List Int) (w : World) (ha : Sl w 3 va (xs.map I)) (hb : Sl w 3 vb (xs.map I)) (hl : xs.length ≤ 1000) :
    Calls Try.prog 54 #[va, vb] w fun e w' => e = .returned (.bool true) ∧ New w w' := by
  obtain ⟨ao, ca, rfl, hca, hea⟩ := ha.elem
  obtain ⟨bo, cb, rfl, hcb, heb⟩ := hb.elem
  have hl' : ((xs.length : Nat) : Int) ≤ 1000 := by omega
  have H := Lib.hid (And.intro hea heb)
  clear ha hb hea heb
  go_enter Try.func54, Try.ntmps54
  go_wp2
  go_loopw [5] (fun iv wr => ∃ k : Nat, k ≤ xs.length ∧ iv = I k ∧ New w wr) (fun iv _ => xs.length - (intOf iv).toNat)
  case atStart => exact ⟨0, by omega, rfl, Fr.refl _ _⟩
  case round =>
    obtain ⟨k, hk, rfl, hn⟩ := hrel
    by_cases hlt : k < xs.length
    · have hlt' : (k : Int) < xs.length := by omega
      have hk0 : (0 : Int) ≤ (k : Int) := by omega
      obtain ⟨b1, rfl, -, -, h1⟩ := H.out.1 k hlt
      obtain ⟨b2, rfl, -, -, h2⟩ := H.out.2 k hlt
      have c1 := hn.cellK h1 id
      have c2 := hn.cellK h2 id
      have HN := Lib.hid hn
      clear h1 h2 hn
      generalize xs.getD k 0 = x at c1 c2
      go_wp2
      go_quiet (fail)
      all_goals
        go_wp2
        go_roundw
        case rel => exact ⟨k + 1, by omega, by go_num, by first | exact Fr.drewN HN.out _ | exact Fr.drew HN.out⟩
        case measure => simp [intOf]; omega
    · have hle : ((xs.length : Nat) : Int) ≤ k := by omega
      go_wp2
      go_ret
      exact ⟨rfl, hn⟩

set_option maxRecDepth 100000 in
set_option maxHeartbeats 4000000 in
theorem looks_same (h : GAt w g L A) (hr : RAt w r R A) (hs : A.Small) (hT : 0 < A.T.length) :
    Calls Try.prog 16 #[Pt g, Pt r] w fun e w' => e = .returned (.bool true) ∧ New w w' := by
  have hO : ((A.O.length : Nat) : Int) ≤ 1000 := by have := hs.objs; omega
  have H := Lib.hid (And.intro h (And.intro hr (And.intro hs hT)))
  clear h hr hs hT
  go_enter Try.func16, Try.ntmps16
  go_wp2
  go_loopw [5] (fun nv wr => ∃ z : Int, -1 ≤ z ∧ z ≤ A.O.length + 2 ∧ nv = I z ∧ New w wr) (fun nv _ => A.O.length + 3 - (intOf nv + 1).toNat)
  case atStart => exact ⟨-1, by omega, by omega, rfl, Fr.refl _ _⟩
  case round =>
    obtain ⟨z, hz0, hz1, rfl, hn⟩ := hrel
    have hR := H.out.2.1.onNew hn
    have hG := H.out.1.onNew' hn
    obtain ⟨ao, oc, e1, hoc, -⟩ := hR.oshape
    have c2 := hR.c2
    rw [e1] at c2
    have HN := Lib.hid (And.intro hn (And.intro hR hG))
    clear hn hR hG e1
    by_cases hq2 : z = A.O.length + 2
    · have hnl : decide (z ≤ (A.O.length : Int) + 1) = false := decide_eq_false (by omega)
      have HZ := Lib.hid hq2
      clear hq2 hz0 hz1
      go_wp2
      clear c2
      have hT64 : ((A.T.length : Nat) : Int) ≤ 64 := by have := H.out.2.2.1.thr; omega
      have HN1 := HN.out.1
      go_loopw [11] (fun tv W => ∃ t : Nat, t ≤ A.T.length ∧ tv = I t ∧ New w W) (fun tv _ => A.T.length - (intOf tv).toNat)
      case atStart => exact ⟨0, by omega, rfl, HN1⟩
      case round =>
        clear HN1 HN
        obtain ⟨t, ht, rfl, hn⟩ := hrel
        have hR := H.out.2.1.onNew hn
        have hG := H.out.1.onNew' hn
        obtain ⟨tb, tc, e1, htc, -, -, -⟩ := hR.tshape H.out.2.2.2
        have c0 := hR.c0
        rw [e1] at c0
        by_cases hlt : t < A.T.length
        · have hok : A.okT t := ⟨by omega, by omega⟩
          obtain ⟨tb', tc', az, cs, ak, ck, e1', -, -, -, -, c0', ct0, ct1, -, hsl, hst, -, -⟩ := hR.thrAt hok
          have e3 := e1.symm.trans e1'
          injection e3 with e3 e4 e5
          injection e3 with e3
          injection e3 with e3
          subst e3 e5
          rw [Int.toNat_natCast] at ct0 ct1
          have hm : A.thr t ∈ A.T := thr_mem hok
          have C := Lib.hid (graph_Own_ok hG t hok)
          have hlt' : (t : Int) < A.T.length := by omega
          have ht0 : (0 : Int) ≤ (t : Int) := by omega
          have X := Lib.hid (And.intro hn (And.intro hsl (And.intro hst (And.intro (H.out.2.2.1.slots _ hm) (H.out.2.2.1.stack _ hm)))))
          clear e1 e1' c0' hsl hst hm hR hG e4 hok hn
          generalize A.thr t = Q at *
          go_wp2_with (first
            | (go_at_call 50; (with_reducible refine C.out.mono ?_); rintro e w2 ⟨sv, kv, rfl, hos, hok, n2⟩; obtain ⟨aa, ca, rfl⟩ := own_any' hos; obtain ⟨ab, cb, rfl⟩ := own_any' hok; have kc0 := n2.cellK c0 id; have kt0 := n2.cellK ct0 id; have kt1 := n2.cellK ct1 id; have R1 := Lib.hid (row_same (.slice aa Q.slots.length ca) (.slice az Q.slots.length cs) Q.slots w2 (Sl.of hos) (X.out.2.1.fr (F := fun _ => False) n2 (fun _ _ x => x)) (by have := X.out.2.2.2.1; omega)))
            | (go_at_call 54; (with_reducible refine R1.out.mono ?_); rintro e w3 ⟨rfl, n3⟩; have kd0 := n3.cellK kc0 id; have kd1 := n3.cellK kt1 id; have R2 := Lib.hid (row_same (.slice ab Q.stack.length cb) (.slice ak Q.stack.length ck) Q.stack w3 ((Sl.of hok).fr (F := fun _ => False) n3 (fun _ _ x => x)) (X.out.2.2.1.fr (F := fun _ => False) (n2.trans n3) (fun _ _ x => x)) (by have := X.out.2.2.2.2; omega)))
            | (go_at_call 54; (with_reducible refine R2.out.mono ?_); rintro e w4 ⟨rfl, n4⟩))
          go_roundw
          case rel => exact ⟨t + 1, by omega, by go_num, Fr.trans X.out.1 (Fr.trans n2 (Fr.trans n3 n4))⟩
          case measure => simp [intOf]; omega
        · have hle : ((A.T.length : Nat) : Int) ≤ t := by omega
          have hnl : ¬ ((t : Int) < A.T.length) := by omega
          have B1 := Lib.hid (graph_Own_bad hG (-1) (fun h => by have := h.1; omega))
          have c1 := hR.c1
          have hgs := hR .G (by trivial)
          simp only [RPart] at hgs
          obtain ⟨ga, gc, e8, -⟩ := hgs.elem
          rw [e8] at c1 hgs
          have X := Lib.hid (And.intro hn (And.intro hG (And.intro hgs H.out.2.2.1.glob)))
          clear hn hR hG e1 hlt ht htc hgs e8
          go_wp2_with (first
            | (go_at_call 50; (with_reducible refine B1.out.mono ?_); rintro e w2 ⟨rfl, n2⟩; have k0 := n2.cellK c0 id; have B2 := Lib.hid (graph_Own_bad (X.out.2.1.onNew' n2) (A.T.length : Int) (fun h => by have := h.2; omega)))
            | (go_at_call 50; (with_reducible refine B2.out.mono ?_); rintro e w3 ⟨rfl, n3⟩))
          have k1 := (n2.trans n3).cellK c1 id
          have hg3 := X.out.2.1.onNew' (Fr.trans n2 n3)
          have hs3 := X.out.2.2.1.fr (F := fun _ => False) (n2.trans n3) (fun _ _ x => x)
          have CG := Lib.hid (And.intro (graph_Globals hg3 X.out.2.2.2) hs3)
          have GD := Lib.hid (show GAt w3.drew g L A from X.out.2.1.onNew' (Fr.drew (Fr.trans n2 n3)))
          have N3 := Lib.hid (Fr.trans X.out.1 (Fr.trans n2 n3))
          clear hg3 hs3 k0 c0 c1 n2 n3
          go_region_held3 (fun w' => w'.cell? ⟨r, 1, none⟩ = some (.slice ga A.G.length gc))
            (first | exact k1 | exact n4'.cellK k1 id | exact n5'.cellK k1 id)
            (first
              | ((go_at_call 55; (refine (graph_Globals GD.out X.out.2.2.2).mono ?_); rintro e w4 ⟨v4, rfl, hown4, n4⟩; obtain ⟨aa, ca, rfl⟩ := own_any' hown4; have n4' : New w3 w4 := Fr.ofDrew n4))
              | ((go_at_call 54; (refine (row_same _ _ A.G _ (Sl.of hown4) (CG.out.2.fr (F := fun _ => False) n4' (fun _ _ x => x)) (by have := X.out.2.2.2; omega)).mono ?_); rintro e w5 ⟨rfl, n5⟩; have n5' : New w3 w5 := Fr.trans n4' n5)))
          go_wp2
          go_ret
          exact ⟨rfl, Fr.trans N3.out n5'⟩
    · by_cases hbad : z < 1 ∨ (A.O.length : Int) < z
      · have hle : z ≤ (A.O.length : Int) + 1 := by omega
        have C := Lib.hid (graph_Object_bad HN.out.2.2 _ hbad)
        have HQ := Lib.hid hq2
        clear hq2
        rcases hbad with hb | hb
        · go_wp2_with (go_at_call 53; (with_reducible refine C.out.mono ?_); rintro e w2 ⟨rfl, n2⟩)
          go_roundw
          case rel => exact ⟨z + 1, by omega, by omega, by go_num, Fr.trans HN.out.1 n2⟩
          case measure => simp [intOf]; omega
        · have hb1 : ¬ (z < 1) := by omega
          go_wp2_with (go_at_call 53; (with_reducible refine C.out.mono ?_); rintro e w2 ⟨rfl, n2⟩; have k2 := n2.cellK c2 id)
          go_roundw
          case rel => exact ⟨z + 1, by omega, by omega, by go_num, Fr.trans HN.out.1 n2⟩
          case measure => simp [intOf]; omega
      · obtain ⟨k, rfl⟩ : ∃ k : Nat, z = (k : Int) + 1 := ⟨(z - 1).toNat, by omega⟩
        have hk : k < A.O.length := by omega
        have hk' : (k : Int) < A.O.length := by omega
        have hk0 : (0 : Int) ≤ (k : Int) := by omega
        have hle : (k : Int) + 1 ≤ (A.O.length : Int) + 1 := by omega
        have hle2 : ¬ ((A.O.length : Int) < (k : Int) + 1) := by omega
        have hle3 : ¬ ((k : Int) + 1 < 1) := by omega
        have hmO : A.O.getD k default ∈ A.O := mem_getD hk
        have h95 := H.out.2.2.1.refs _ hmO
        have h95' := H.out.2.2.1.data _ hmO
        have C := Lib.hid (graph_Object_ok HN.out.2.2 k hk (by omega) h95 h95')
        obtain ⟨ob, oc', c2', -, ck0, ck1⟩ := HN.out.2.1.objAt hk
        have er := HN.out.2.1 (.rf k) hk
        have ed := HN.out.2.1 (.dt k) hk
        simp only [RPart] at er ed
        rw [c2] at c2'
        injection c2' with c2'
        injection c2' with e3 _ e5
        subst e3 e5
        clear hq2 hbad hz0 hz1 hmO hk
        generalize A.O.getD k default = o at *
        obtain ⟨ra, rc, e6, -⟩ := er.shape
        obtain ⟨da, dc, e7, -⟩ := ed.shape
        rw [e6] at ck0 er
        rw [e7] at ck1 ed
        simp only [List.length_map] at ck0 ck1 er ed
        have hd95 : ((o.data.length : Nat) : Int) ≤ 95 := by omega
        have X := Lib.hid (And.intro er (And.intro ed (And.intro h95 h95')))
        clear er ed e6 e7 h95 h95'
        go_wp2_with (first
          | (go_at_call 53; (with_reducible refine C.out.mono ?_); rintro e w2 ⟨rv, dv, rfl, hor, hod, n2⟩; obtain ⟨aa, ca, rfl⟩ := own_any' hor; obtain ⟨ab, cb, rfl⟩ := own_any' hod; have k2 := n2.cellK c2 id; have kk0 := n2.cellK ck0 id; have kk1 := n2.cellK ck1 id)
          | (go_at_call 54; (refine (row_same _ _ o.refs _ ((Sl.of hor).fr (F := fun _ => False) ((Fr.refl _ _).alloc _) (fun _ _ x => x)) (X.out.1.fr (F := fun _ => False) (n2.trans ((Fr.refl _ _).alloc _)) (fun _ _ x => x)) (by have := X.out.2.2.1; omega)).mono ?_); rintro e w3 ⟨rfl, n3⟩; have b3 := New.blk n3 (heap_alloc_new w2 (.cells #[.slice ra o.refs.length rc, .slice da o.data.length dc] 82)); have k3 := cell_blk (i := 1) (v := .slice da o.data.length dc) b3 rfl))
        have hN3 : New wr w3 := Fr.trans n2 (Fr.trans ((Fr.refl _ _).alloc _) n3)
        have Y := Lib.hid (And.intro hN3 (And.intro (Sl.of (ownsRow_fr (F := fun _ => False) hod (Fr.trans ((Fr.refl _ _).alloc _) n3) (fun _ _ x => x))) (X.out.2.1.fr hN3 (fun _ _ x => x))))
        generalize w2.heap.size = pb at k3 b3 ⊢
        have hb3 := Lib.hid b3
        clear hor hod n2 n3 hN3 k2 kk0 kk1 b3 k3 c2 ck0 ck1 C
        go_loopw [10] (fun iv W => ∃ i : Nat, i ≤ o.data.length ∧ iv = I i ∧ New w3 W) (fun iv _ => o.data.length - (intOf iv).toNat)
        case atStart => exact ⟨0, by omega, rfl, Fr.refl _ _⟩
        case round =>
          obtain ⟨i, hi, rfl, hnW⟩ := hrel
          have k3 := cell_blk (i := 1) (v := .slice da o.data.length dc) (New.blk hnW hb3.out) rfl
          by_cases hil : i < o.data.length
          · have hil' : (i : Int) < o.data.length := by omega
            have hi0 : (0 : Int) ≤ (i : Int) := by omega
            obtain ⟨_, _, q1, q2, q3⟩ := Y.out.2.1.elem
            obtain ⟨_, _, p1, p2, p3⟩ := Y.out.2.2.elem
            obtain ⟨rfl, _, rfl⟩ := Value.slice.inj q1
            obtain ⟨rfl, _, rfl⟩ := Value.slice.inj p1
            obtain ⟨b1, rfl, -, -, h1⟩ := q3 i hil
            obtain ⟨b2, rfl, -, -, h2⟩ := p3 i hil
            have d1 := hnW.cellK h1 id
            have d2 := hnW.cellK h2 id
            have Z := Lib.hid hnW
            clear q1 q3 p1 p3 h1 h2 hnW
            generalize o.data.getD i 0 = x at d1 d2
            go_wp2
            go_quiet (fail)
            all_goals
              go_wp2
              go_roundw
              case rel => exact ⟨i + 1, by omega, by go_num, by first | exact Fr.drewN Z.out _ | exact Fr.drew Z.out⟩
              case measure => simp [intOf]; omega
          · have hle : ((o.data.length : Nat) : Int) ≤ i := by omega
            have Z := Lib.hid (Fr.trans HN.out.1 (Fr.trans Y.out.1 hnW))
            clear k3 hnW
            go_wp2
            go_roundw
            case rel => exact ⟨(k : Int) + 1 + 1, by omega, by omega, by go_num, Z.out⟩
            case measure => simp [intOf]; omega

end Go.Proofs.Ytnhombeagbhccaa
