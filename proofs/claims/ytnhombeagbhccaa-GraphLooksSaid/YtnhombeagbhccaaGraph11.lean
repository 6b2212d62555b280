/- Package graph, program side: Reach. -/
import Derived.Test.YtnhombeagbhccaaGraph10
import Derived.Test.YtnhombeagbhccaaSeen
import Derived.Test.YtnhombeagbhccaaWork
import Derived.Maps.Own
namespace Go.Proofs.Ytnhombeagbhccaa
open Go.RowKit

variable {w w' : World} {g : Nat} {L : PG} {A : AG}

/-- A graph lies on behind a part that makes new blocks alone. -/
theorem GAt.onNew (h : GAt w g L A) (hn : New w w') : GAt w' g L A := h.kept (F := fun _ => False) hn (fun _ _ x => x)

/-- The number of a map's entries. -/
def mapSize (w : World) (b : Nat) : Nat := match w.heap[b]? with
  | some (.map es _) => es.size
  | _ => 0
def lenOf : Value → Nat
  | .slice _ n _ => n
  | _ => 0

theorem SeenAt.size {w : World} {b : Nat} {S : List Int} (h : SeenAt w b S) : mapSize w b = S.length := by
  obtain ⟨es, c, h1, _, h3⟩ := h
  have := congrArg List.length h3
  simp only [List.length_map, Array.length_toList] at this
  simp [mapSize, h1, this]

/-- The row is no map. -/
theorem SeenAt.apart {w : World} {b base e n : Nat} {S : List Int} {v : Value} {xs : List Value} (h : SeenAt w b S) (ho : w.ownsRow base e 1 v n xs) : v.ownBlock ≠ some b := by
  obtain ⟨es, c, h1, _⟩ := h
  rcases ho.2 with ⟨rfl, _⟩ | ⟨g, cap, cur, rfl, _, h2, _⟩
  · simp [Value.ownBlock]
  · intro e
    simp [Value.ownBlock] at e
    subst e
    rw [h1] at h2; cases h2

theorem own_len {w : World} {base e n : Nat} {v : Value} {xs : List Value} (h : w.ownsRow base e 1 v n xs) : lenOf v = n := by
  rcases h.2 with ⟨rfl, rfl⟩ | ⟨g, cap, cur, rfl, _⟩ <;> rfl

/-- A row's last element, and what is left. -/
theorem own_last {w : World} {base e : Nat} {v : Value} {xs : List Int} {x : Int} (h : w.ownsRow base e 1 v (xs ++ [x]).length ((xs ++ [x]).map I)) :
    ∃ b cap, v = .slice (some ⟨b, 0, none⟩) (xs.length + 1) cap ∧ xs.length + 1 ≤ cap ∧ w.cell? ⟨b, xs.length, none⟩ = some (I x) ∧ w.ownsRow base e 1 (.slice (some ⟨b, 0, none⟩) xs.length cap) xs.length (xs.map I) := by
  have hl : (xs ++ [x]).length = xs.length + 1 := by simp
  rcases h.2 with ⟨_, h0⟩ | ⟨g, cap, cur, rfl, h1, h2, h3, h4, h5, h6⟩
  · omega
  · rw [hl] at h3
    refine ⟨g, cap, by rw [hl], h3, ?_, ⟨by simp, .inr ⟨g, cap, cur, rfl, h1, h2, by omega, h4, h5, ?_⟩⟩⟩
    · have := h.cellAt xs.length (by omega)
      rw [this]; simp
    · have := congrArg (List.take xs.length) h6
      rw [List.take_take] at this
      have e : Nat.min xs.length ((xs ++ [x]).length * 1) = xs.length := by simp
      simp only [List.map_append, List.take_append] at this
      rw [show min xs.length ((xs ++ [x]).length * 1) = xs.length from e] at this
      have e2 : List.take xs.length (xs.map I) = xs.map I := List.take_of_length_le (by simp)
      rw [e2] at this
      simpa using this

/-- An object's references, as a source of an append. -/
theorem GAt.refsFull (h : GAt w g L A) {n : Int} (h1 : 1 ≤ n) (h2 : n ≤ A.O.length) :
    ∃ ao cap, w.cell? ⟨L.ob n, 0, none⟩ = some (.slice ao (A.obj n).refs.length cap) ∧ (A.obj n).refs.length ≤ cap ∧ (ao = none → (A.obj n).refs.length = 0 ∧ cap = 0) ∧
      ∀ ad, ao = some ad → ∀ j u, ((A.obj n).refs.map I)[j]? = some u → w.cell? (ad.add j) = some u := by
  have hk : n.toNat - 1 < A.O.length := by omega
  obtain ⟨ao, cap, e, hc, hno, hcl, _⟩ := (h.hrv _ hk).shape
  simp only [List.length_map] at e hc hno
  have hc0 : w.cell? ⟨L.ob n, 0, none⟩ = some (L.rv (n.toNat - 1)) := cell_blk (i := 0) (h.ho _ hk) rfl
  exact ⟨ao, cap, hc0.trans (congrArg some e), hc, hno, hcl⟩

set_option maxRecDepth 100000 in
theorem graph_Reach (h : GAt w g L A) (hv : A.Valid) (hs : A.Small) :
    Calls Try.prog 13 #[Pt g] w fun e w' => ∃ v l, e = .returned v ∧ A.Told l ∧ w'.ownsRow w.heap.size 3 1 v l.length (l.map I) ∧ New w w' := by
  have c0 := h.c0
  have c1 := h.c1
  have hmm := @run_makeMap Try.prog
  have cG := Lib.hid (clone_int w h.hG (one_I _) (by have := hs.glob; simp; omega))
  go_enter Try.func13, Try.ntmps13
  go_wp2_with (go_at_call 44; (with_reducible refine cG.out.mono ?_); rintro e w1 ⟨v1, rfl, hown1, hn1⟩; have c0 := (h.onNew hn1).c0)
  simp only [List.length_map] at hown1
  have st1 : w1.ownsRow w.heap.size 3 1 v1 (A.work 0).length ((A.work 0).map I) := by simpa [AG.work] using hown1
  clear hown1 cG c0 c1
  have HH := Lib.hid (And.intro h (And.intro hv hs))
  have hthr := hs.thr
  clear h hv hs
  go_loopw [3, 20] (fun v i wr => ∃ k : Nat, k ≤ A.T.length ∧ i = I k ∧ wr.ownsRow w.heap.size 3 1 v (A.work k).length ((A.work k).map I) ∧ New w wr) (fun _ i _ => A.T.length - (intOf i).toNat)
  case atStart => exact ⟨0, by omega, rfl, st1, hn1⟩
  case round =>
    obtain ⟨k, hk, rfl, hown, hnr⟩ := hrel
    have gr := HH.out.1.onNew hnr
    by_cases hlt : k < A.T.length
    · have hlt' : (k : Int) < A.T.length := by omega
      have ct := gr.ct k hlt
      have hrk := gr.hr k hlt
      have hws := A.work_succ hlt
      have hlen := A.work_len HH.out.2.2 (k + 1) (by omega)
      rw [hws] at hlen
      generalize A.T.getD k default = R at hrk hws hlen
      have cA := Lib.hid (roots_all wr (L.r k) _ hrk)
      have HL := Lib.hid (And.intro hws hlen)
      clear hws hlen
      go_wp2_with (first
        | (go_at_call 45; (with_reducible refine cA.out.mono ?_); rintro e w2 ⟨v2, rfl, hown2, hn2⟩; obtain ⟨ao, cap, rfl, hsh1, hsh2, hsh3, _⟩ := (Sl.of hown2).shape; have SH := Lib.hid (And.intro hsh1 (And.intro hsh2 hsh3)); clear hsh1 hsh2 hsh3)
        | (at_builtin; (refine wpList_append_fr rfl (.tmp 24) (.tmp 26) 37 rfl 3 (I 0) 1 8 Try.underlying37 Try.info3 rfl (by decide) (by decide) w.heap.size _ _ _ rfl (ownsRow_fr hown hn2 (fun _ _ x => x)) ao _ cap (R.all.map I) rfl (by simp) ?h1 ?h2 (one_I _) ?h3 ?h4 ?h5); (case h1 => simpa using SH.out.2.1); (case h2 => exact SH.out.2.2); (case h3 => have := HL.out.2; simp only [List.length_append] at this; omega); (case h4 => exact Nat.le_trans hnr.size hn2.size); intro v' w3 hown' hfr' hloc'))
      go_roundw
      case rel =>
        refine ⟨k + 1, by omega, by go_num, ?_, ?_⟩
        · rw [HL.out.1]; simpa using hown'
        · exact New.then (Fr.trans hnr hn2) hfr' (fun i hi e => by have := (hown.lt _ e).1; omega)
      case measure => simp [intOf]; omega
    · have hkk : k = A.T.length := by omega
      subst hkk
      have hlt' : (A.T.length : Int) ≤ A.T.length := Int.le_refl _
      go_wp2
      have hown2 := hown.alloc (.map #[] 0)
      have hseen2 := SeenAt.new wr
      have hn2 : New w (wr.alloc (.map #[] 0)) := Fr.alloc hnr _
      have hmb : w.heap.size ≤ wr.heap.size := hnr.size
      generalize wr.alloc (.map #[] 0) = w2 at hown2 hseen2 hn2
      generalize wr.heap.size = mb at hseen2 hmb
      clear hown hnr gr hmm c0 hn1
      go_loopw [3] (fun v W => ∃ ws S, W.ownsRow w.heap.size 3 1 v ws.length (ws.map I) ∧ SeenAt W mb S ∧ Work A ws S ∧ New w W) (fun v W => (A.O.length - mapSize W mb) * 100 + lenOf v)
      case atStart => exact ⟨_, [], hown2, hseen2, Work.start HH.out.2.1 HH.out.2.2, hn2⟩
      case round =>
        obtain ⟨ws, S, hown, hseen, hwork, hnW⟩ := hrel
        have gW := HH.out.1.onNew hnW
        rcases List.eq_nil_or_concat ws with rfl | ⟨ws', n, rfl⟩
        · obtain ⟨ao, cap, rfl⟩ : ∃ ao cap, u3 = .slice ao 0 cap := by
            rcases hown.2 with ⟨rfl, _⟩ | ⟨b, cap, cur, rfl, _⟩
            · exact ⟨none, 0, rfl⟩
            · exact ⟨_, cap, rfl⟩
          have hbd : ∀ x ∈ S, (Lit.int .i64 x).wf = true := by
            intro x hx
            have h1 := hwork.s x hx
            have h2 := HH.out.2.2.objs
            exact WalkArith.wf_i64 (by omega)
          have hSl : S.length ≤ 1000000 := by have h1 := hwork.le; have h2 := HH.out.2.2.objs; omega
          have cS := Lib.hid (sorted_call mb S wr hseen hbd hSl)
          go_wp2_with (first
            | (go_at_call 47; (with_reducible refine (keys_call mb wr).mono ?_); rintro e w3 ⟨rfl, rfl⟩)
            | (go_at_call 46; (with_reducible refine cS.out.mono ?_); rintro e w3 ⟨v3, ts, rfl, hp3, hown3, hn3⟩))
          go_ret
          refine ⟨_, _, rfl, sorted_told hwork hp3, ?_, (Fr.alloc hnW _).trans hn3⟩
          have hsz := hnW.size
          rw [List.length_mergeSort]
          exact ⟨hown3.1, hown3.2.imp id (fun ⟨g, cap, cur, a, b, c⟩ => ⟨g, cap, cur, a, by omega, c⟩)⟩
        · simp only [List.concat_eq_append] at hown hwork
          obtain ⟨b, cap, rfl, hcap, hcell, hown'⟩ := own_last hown
          have hwl := hwork.len
          have hwb : (ws'.length : Int) < 1000000 := by
            have h1 := HH.out.2.2.objs
            simp only [List.length_append, List.length_singleton] at hwl
            omega
          have hsl := fun w => run_sliceAt_to (P := Try.prog) (t := 37) (e := 3) (size := 1) Try.underlying37 (by kernel_rfl) (some ⟨b, 0, none⟩) (ws'.length + 1) cap ws'.length (by omega) w
          have HW := Lib.hid (And.intro hcap (And.intro hwork hwl))
          clear hcap hwork hwl
          have hmeas := hseen.size
          by_cases h0 : n = 0
          · subst h0
            go_wp2_with fail
            exact ⟨⟨ws', S, hown', hseen, HW.out.2.1.pop (.inl rfl), hnW⟩, by simp [lenOf]⟩
          · have q0 : (n == 0) = false := by simpa using h0
            have hz4 : ∀ w, (zeroValue 4).run Try.prog w = .ok (.bool false) w := fun w => by kernel_rfl
            have hlk := hseen.look (P := Try.prog) Try.underlying42 Try.underlying3 hz4 n
            have hap := hseen.apart hown
            by_cases hin : n ∈ S
            · simp only [hin, decide_true] at hlk
              clear q0
              go_wp2_with fail
              exact ⟨⟨ws', S, hown', hseen, HW.out.2.1.pop (.inr hin), hnW⟩, by simp [lenOf]⟩
            · simp only [hin, decide_false] at hlk
              have H0 := Lib.hid h0
              obtain ⟨n0, n1, -⟩ := HW.out.2.1.wk n (by simp)
              have hn1 : 1 ≤ n := by omega
              have hmO : A.obj n ∈ A.O := by
                unfold AG.obj
                exact mem_getD (l := A.O) (by omega)
              have hpush := HW.out.2.1.push H0.out hin HH.out.2.1 (HH.out.2.2.refs _ hmO) hmO
              have hple := hpush.le
              have hplen := hpush.len
              have HP := Lib.hid (And.intro hpush (And.intro hple hplen))
              have HI := Lib.hid (And.intro hin (And.intro hn1 n1))
              have HAP := Lib.hid hap
              have HM := Lib.hid hmO
              clear hpush hple hplen hmO hin n0 n1 hn1 h0 hap
              go_wp2_with (first
                | (at_mapUpdate; ((refine wpList_seen_fr rfl (.tmp 51) (.tmp 52) (.const Bt) 42 3 4 rfl Try.underlying42 Try.underlying3 mb S rfl hseen n HI.out.1 rfl rfl ?_); intro w4 hseen4 hfr4; have hn4 : New w w4 := New.then hnW hfr4 (fun i hi e => by omega); have g4 := HH.out.1.onNew hn4; have c42 := g4.c2; have lk4 := g4.look HI.out.2.1 HI.out.2.2 false; obtain ⟨ao4, cap4, cr4, hc4, hno4, hcl4⟩ := g4.refsFull HI.out.2.1 HI.out.2.2; have H4 := Lib.hid (And.intro hc4 (And.intro hno4 hcl4)); clear hc4 hno4 hcl4))
                | (at_builtin; (refine wpList_append_fr rfl (.tmp 53) (.tmp 62) 37 rfl 3 (I 0) 1 8 Try.underlying37 Try.info3 rfl (by decide) (by decide) w.heap.size _ _ _ rfl (ownsRow_fr hown' hfr4 (fun i e x => by subst x; exact HAP.out e)) ao4 _ cap4 ((A.obj n).refs.map I) rfl (by simp) ?k1 ?k2 (one_I _) ?k3 ?k4 ?k5); (case k1 => exact H4.out.2.1); (case k2 => exact H4.out.2.2); (case k3 => have h1 := HP.out.2.2; have h2 := HH.out.2.2.objs; simp only [List.length_append, List.length_singleton] at h1; omega); (case k4 => exact hn4.size); intro v' w5 hown5 hfr5 hloc5))
              have seen5 := hseen4.fr hfr5 (fun e => HAP.out e)
              have new5 : New w w5 := New.then hn4 hfr5 (fun i hi e => by have := (hown'.lt _ e).1; omega)
              have hr95 := HH.out.2.2.refs _ HM.out
              have h1 := HP.out.2.1
              have h2 := own_len hown5
              have h3 := seen5.size
              simp only [List.length_append, List.length_singleton] at h1 h3
              refine ⟨⟨ws' ++ (A.obj n).refs, S ++ [n], by simpa using hown5, seen5, HP.out.1, new5⟩, ?_⟩
              rw [h2, h3, hmeas]
              simp only [lenOf]
              omega
end Go.Proofs.Ytnhombeagbhccaa
