/- Package graph, program side: Clone. -/
import Derived.Test.YtnhombeagbhccaaCT
import Derived.Test.YtnhombeagbhccaaOuts
namespace Go.Proofs.Ytnhombeagbhccaa
open Go.RowKit

variable {w w' : World} {g : Nat} {L : PG} {A : AG}

/-- What stands in Clone's first loop. -/
def C1 (w : World) (L : PG) (A : AG) (B cb mb : Nat) (v1 : Value) (wr : World) (seen : Array Nat) : Prop :=
  ∃ (es : Array MapEntry) (c : Nat) (kv : List (Int × Value)) (o : Nat → Nat) (rv dv : Nat → Value) (dn : Nat → Bool),
    (∀ e ∈ L.es.toList, ∀ k : Nat, e.key = I ((k : Int) + 1) → dn k = seen.contains e.born) ∧ CObj wr B mb es c kv o rv dv A dn ∧ New w wr ∧
      wr.heap[cb]? = some (.cells #[.slice none 0 0, v1, .map (some mb)] 56 (0, 0)) ∧ Sl wr 3 v1 (A.G.map I) ∧ B ≤ wr.heap.size

theorem key_ne {es : Array MapEntry} {kv : List (Int × Value)} (hkv : MapKV es kv) {x : Int} (h : lk kv x = none) : ∀ e ∈ es.toList, e.key ≠ I x := by
  intro e he hk
  have : (e.key, e.val) ∈ es.toList.map (fun e => (e.key, e.val)) := List.mem_map.2 ⟨e, he, rfl⟩
  rw [hkv] at this
  obtain ⟨p, hp, hpe⟩ := List.mem_map.1 this
  simp only [Prod.mk.injEq] at hpe
  rw [hk] at hpe
  injection hpe.1 with _ hpx
  unfold lk at h
  cases hf : kv.find? (fun q => q.1 == x) with
  | none =>
    have := List.find?_eq_none.1 hf p hp
    simp [hpx] at this
  | some q => rw [hf] at h; cases h

set_option maxRecDepth 100000 in
set_option maxHeartbeats 4000000 in
theorem graph_Clone (h : GAt w g L A) (hv : A.Valid) (hs : A.Small) (hT : 0 < A.T.length) :
    Calls Try.prog 15 #[Pt g] w fun e w' => ∃ c, e = .returned (Pt c) ∧ Mine w w' c A ∧ w.heap.size ≤ c := by
  have c1 := h.c1
  have CC := Lib.hid (clone_int w h.hG (one_I _) (by have := hs.glob; simp; omega))
  have hmm := @run_makeMap Try.prog
  have H := Lib.hid (And.intro h (And.intro hv (And.intro hs hT)))
  clear h hv hs hT
  go_enter Try.func15, Try.ntmps15
  go_wp2_with (first
    | (go_at_call 44; (with_reducible refine CC.out.mono ?_); rintro e w1 ⟨v1, rfl, hown1, hn1⟩; simp only [List.length_map] at hown1; obtain ⟨ga, gc, rfl⟩ := own_any' hown1; have k2 := (H.out.1.onNew' (Fr.alloc (Fr.alloc hn1 (.map #[] 0)) (.cells #[.slice none 0 0, .slice ga A.G.length gc, .map (some w1.heap.size)] 56))).c2)
    | (at_range; (refine wpList_range_fr rfl (.tmp 29) 53 3 _ rfl Try.underlying53 L.mb L.es L.c rfl ((H.out.1.onNew' (Fr.alloc (Fr.alloc hn1 _) _)).hm) H.out.1.hst ?_); intro hrg))
  go_frame
  have hs1 : ((w1.alloc (.map #[] 0)).alloc (.cells #[.slice none 0 0, .slice ga A.G.length gc, .map (some w1.heap.size)] 56)).heap.size = w1.heap.size + 2 := by simp
  have st : C1 w L A (w1.heap.size + 3) (w1.heap.size + 1) w1.heap.size (.slice ga A.G.length gc) (((w1.alloc (.map #[] 0)).alloc (.cells #[.slice none 0 0, .slice ga A.G.length gc, .map (some w1.heap.size)] 56)).alloc (.mapIter (some L.mb) L.c #[] L.c)) #[] := by
    refine ⟨#[], 0, [], fun _ => 0, fun _ => undef, fun _ => undef, fun _ => false, fun e _ k _ => by simp, CObj.start (heap_alloc_old (heap_alloc_old (heap_alloc_new _ _))), (((hn1 : New w w1).alloc _).alloc _).alloc _, ?_, ?_, by simp⟩
    · have := heap_alloc_new (w1.alloc (.map #[] 0)) (.cells #[.slice none 0 0, .slice ga A.G.length gc, .map (some w1.heap.size)] 56)
      rw [World.size_alloc] at this
      exact heap_alloc_old this
    · exact (Sl.of hown1).fr (F := fun _ => False) (((Fr.refl _ _).alloc _).alloc _ |>.alloc _) (fun _ _ x => x)
  have hsl : ∀ b, slB (.slice ga A.G.length gc) (A.G.map I) = some b → w.heap.size ≤ b ∧ b < w1.heap.size := fun b hb => by
    have h1 := (Sl.of hown1).lt b hb
    refine ⟨?_, h1⟩
    unfold slB at hb
    split at hb
    · cases hb
    · exact (hown1.lt b hb).1
  rw [hs1] at hrg ⊢
  have hw1 : w.heap.size ≤ w1.heap.size := hn1.size
  generalize (((w1.alloc (.map #[] 0)).alloc (.cells #[.slice none 0 0, .slice ga A.G.length gc, .map (some w1.heap.size)] 56)).alloc (.mapIter (some L.mb) L.c #[] L.c)) = w3 at st hrg ⊢
  generalize w1.heap.size = mb at *
  have HS := Lib.hid (And.intro hsl hw1)
  clear hsl hn1 hown1 hs1 hmm CC c1 hw1 k2
  go_loopw [4, 5] (fun _ _ wr => ∃ seen, RangeAt wr L.mb (mb + 2) L.es L.c seen ∧ C1 w L A (mb + 3) (mb + 1) mb (.slice ga A.G.length gc) wr seen) (fun _ _ wr => wr.rangeLeft L.mb (mb + 2))
  case atStart => exact ⟨#[], hrg, st⟩
  case round =>
    clear hrg st
    obtain ⟨seen, hrg, es, c, kv, o, rv, dv, dn, hdn, hco, hnew, hcb, hgs, hBr⟩ := hrel
    go_wp2_with (at_next; (refine wpList_next_fr rfl (.tmp 30) rfl L.mb (mb + 2) L.es L.c seen rfl hrg ?_ ?_))
    · intro hall
      have hdone : ∀ k, k < A.O.length → dn k = true := fun k hk => by
        obtain ⟨e, he, ek⟩ := H.out.1.hasEntry hk
        rw [hdn e he k ek]
        have := hall e (by simpa using he)
        simpa using this
      have gW := H.out.1.onNew' hnew
      have c0 := gW.c0
      have hTL : 0 < A.T.length := H.out.2.2.2
      have hT64 : ((A.T.length : Nat) : Int) ≤ 64 := by have := H.out.2.2.1.thr; omega
      have X := Lib.hid (And.intro hdone (And.intro hco (And.intro hnew (And.intro hgs (And.intro hBr hTL)))))
      have st : CT wr wr (mb + 1) mb (.slice ga A.G.length gc) A 0 (.slice none 0 0) (fun _ => 0) := ⟨hcb, World.ownsRow_nil _ _ _ _, (fun i hi => by omega), (fun i j hi hj => by omega), (fun i hi => by omega), Fr.refl _ _⟩
      clear hall hdone hdn hco hnew hcb hgs hBr hrg gW hTL
      go_wp2
      clear c0
      have lcb : mb + 1 < wr.heap.size := by have := X.out.2.2.2.2.1; omega
      obtain ⟨W1, rfl⟩ : ∃ W1 : World, W1 = wr := ⟨_, rfl⟩
      go_loopw [58] (fun iv W => ∃ (t : Nat) (tv : Value) (r : Nat → Nat), t ≤ A.T.length ∧ iv = I t ∧ CT W1 W (mb + 1) mb (.slice ga A.G.length gc) A t tv r) (fun iv _ => A.T.length - (intOf iv).toNat)
      case atStart => exact ⟨0, _, _, by omega, rfl, st⟩
      case round =>
        clear st
        obtain ⟨t, tv, r, ht, rfl, hct⟩ := hrel
        have hmw := HS.out.2
        have hnw : New w wr := New.then X.out.2.2.1 hct.fr (fun i hi x => by omega)
        by_cases hlt : t < A.T.length
        · have hlt' : (t : Int) < A.T.length := by omega
          have hok : A.okT t := ⟨by omega, by omega⟩
          have gW := H.out.1.onNew' hnw
          have hm : A.thr t ∈ A.T := thr_mem hok
          have hTg : A.T.getD t default = A.thr t := by unfold AG.thr; rw [Int.toNat_natCast]
          have hRt := gW.hr t hlt
          rw [hTg] at hRt
          obtain ⟨C, _, hC⟩ := hRt
          have CO := Lib.hid (graph_Own_ok gW t hok)
          have hslv := H.out.2.1.slots _ hm
          have hstv := H.out.2.1.stack _ hm
          have hp := hC.pos
          have h8 := hC.le
          have h16 := hC.deep
          have h8' : (((A.thr t).slots.length : Nat) : Int) ≤ 8 := by omega
          have h1' : (1 : Int) ≤ (((A.thr t).slots.length : Nat) : Int) := by omega
          have h16' : (((A.thr t).stack.length : Nat) : Int) ≤ 16 := by omega
          have Y := Lib.hid (And.intro hct (And.intro hTg (And.intro hslv (And.intro hstv (And.intro hp (And.intro h8 (And.intro h16 hnw)))))))
          obtain ⟨to, tc, etv⟩ : ∃ to tc, tv = .slice to t tc := by
            rcases hct.ht.2 with ⟨e, h0⟩ | ⟨gg, cap, cur, e, _⟩
            · exact ⟨none, 0, by rw [e, h0]⟩
            · exact ⟨_, cap, e⟩
          subst etv
          have cc0 := cell_blk (i := 0) (v := .slice to t tc) hct.hg rfl
          have lw := lt_of_block hct.hg
          clear hct gW hm hTg hC hslv hstv hp h8 h16 hnw
          generalize A.thr t = Q at *
          go_wp2_with (first
            | (go_at_call 50; (with_reducible refine CO.out.mono ?_); rintro e w2 ⟨sv, kv2, rfl, hos, hok2, n2⟩; obtain ⟨sa, sc, rfl⟩ := own_any' hos; obtain ⟨ka, kc, rfl⟩ := own_any' hok2)
            | (go_at_call 22; (with_reducible refine (roots_new_ok _ _ h1' h8').mono ?_); rintro e w3 ⟨rfl, hR3, n3, s3⟩; have S3 := Lib.hid s3; clear s3))
          have hos3 := ownsRow_fr (F := fun _ => False) hos n3 (fun _ _ x => x)
          have hok3 := ownsRow_fr (F := fun _ => False) hok2 n3 (fun _ _ x => x)
          have hR3' : RootsAt w3 w2.heap.size ⟨List.replicate Q.slots.length 0, Q.stack.take 0⟩ := by simpa using hR3
          have kb : ∀ b, slB (.slice ka Q.stack.length kc) (Q.stack.map I) = some b → b < w2.heap.size := (Sl.of hok2).lt
          have sb : ∀ b, slB (.slice sa Q.slots.length sc) (Q.slots.map I) = some b → b < w2.heap.size := (Sl.of hos).lt
          have n23 : w2.heap.size < w3.heap.size := by have := S3.out; omega
          have hwr2 := n2.size
          have Z := Lib.hid (And.intro (Sl.of hos3) (And.intro (Sl.of hok3) (And.intro kb (And.intro sb (Fr.trans n2 n3)))))
          clear hos hok2 hos3 hok3 kb sb n2 n3 hR3 S3
          generalize w2.heap.size = rn at *
          go_loopw [76] (fun iv W => ∃ (j : Nat) (sl : List Int), j ≤ Q.stack.length ∧ iv = I j ∧ sl.length = Q.slots.length ∧ RootsAt W rn ⟨sl, Q.stack.take j⟩ ∧ Fr (· = rn) w3 W) (fun iv _ => Q.stack.length - (intOf iv).toNat)
          case atStart => exact ⟨0, _, by omega, rfl, by simp, hR3', Fr.refl _ _⟩
          case round =>
            clear hR3'
            obtain ⟨j, sl, hj, rfl, hsl, hRj, hfj⟩ := hrel
            by_cases hjl : j < Q.stack.length
            · have hjl' : (j : Int) < Q.stack.length := by omega
              obtain ⟨_, _, q1, q2, q3⟩ := (Z.out.2.1.fr hfj (fun b hb => by have := Z.out.2.2.1 b hb; omega)).elem
              obtain ⟨rfl, _, rfl⟩ := Value.slice.inj q1
              obtain ⟨kb, rfl, -, -, hcell⟩ := q3 j hjl
              have hx0 : 0 ≤ Q.stack.getD j 0 := (Y.out.2.2.2.1 _ (mem_getD0 hjl)).1
              have htk := take_get' hjl
              have hp := Y.out.2.2.2.2.1
              have h16 := Y.out.2.2.2.2.2.2.1
              have ok0 : (⟨sl, Q.stack.take j⟩ : AR).ok 0 := ⟨Int.le_refl _, by simp only; omega⟩
              have cs := roots_set wr rn _ 0 (Q.stack.getD j 0) hRj
              have e1 : (⟨sl, Q.stack.take j⟩ : AR).setR 0 (Q.stack.getD j 0) = (⟨sl.set 0 (Q.stack.getD j 0), Q.stack.take j⟩, 0) := by
                unfold AR.setR; rw [if_pos ok0, if_neg (by omega)]; rfl
              rw [e1] at cs
              have e2 : (⟨sl.set 0 (Q.stack.getD j 0), Q.stack.take j⟩ : AR).pushR 0 = (⟨sl.set 0 (Q.stack.getD j 0), Q.stack.take (j + 1)⟩, 0) := by
                have ok1 : (⟨sl.set 0 (Q.stack.getD j 0), Q.stack.take j⟩ : AR).ok 0 := ⟨Int.le_refl _, by simp only [List.length_set]; omega⟩
                unfold AR.pushR
                rw [if_pos ok1, if_neg (by simp only [List.length_take]; omega)]
                have hg : (⟨sl.set 0 (Q.stack.getD j 0), Q.stack.take j⟩ : AR).get 0 = Q.stack.getD j 0 := by
                  unfold AR.get
                  have : 0 < sl.length := by omega
                  simp [List.getD, this]
                rw [hg, htk]
              have CS := Lib.hid (And.intro cs (And.intro e2 (And.intro hfj hsl)))
              clear cs e1 e2 hRj hfj hsl q1 q3 htk ok0 hp h16 hx0
              generalize Q.stack.getD j 0 = x at *
              go_wp2_with (first
                | (go_at_call 51; (with_reducible refine CS.out.1.mono ?_); rintro e w5 ⟨rfl, h5, f5⟩; have cp := roots_push w5 rn _ 0 h5; rw [CS.out.2.1] at cp; have CP := Lib.hid cp; clear cp)
                | (go_at_call 52; (with_reducible refine CP.out.mono ?_); rintro e w6 ⟨rfl, h6, f6⟩))
              go_roundw
              case rel => exact ⟨j + 1, sl.set 0 x, by omega, by go_num, by rw [List.length_set]; exact CS.out.2.2.2, h6, CS.out.2.2.1.trans (f5.trans f6)⟩
              case measure => simp [intOf]; omega
            · have hjj : j = Q.stack.length := by omega
              rw [hjj, List.take_length] at hRj
              have hle : ((Q.stack.length : Nat) : Int) ≤ j := by omega
              have qj : decide (j < Q.stack.length) = false := decide_eq_false hjl
              clear hjj hjl hj
              go_wp2
              clear qj hle
              obtain ⟨w4, rfl⟩ : ∃ w4 : World, w4 = wr := ⟨_, rfl⟩
              go_loopw [88] (fun iv W => ∃ (i : Nat) (sl : List Int), i ≤ Q.slots.length ∧ iv = I i ∧ sl.length = Q.slots.length ∧ sl.take i = Q.slots.take i ∧ RootsAt W rn ⟨sl, Q.stack⟩ ∧ Fr (· = rn) w3 W) (fun iv _ => Q.slots.length - (intOf iv).toNat)
              case atStart => exact ⟨0, sl, by omega, rfl, hsl, rfl, hRj, hfj⟩
              case round =>
                clear hRj hfj hsl
                obtain ⟨i, sl', hi, rfl, hsl, htake, hRi, hfi⟩ := hrel
                by_cases hil : i < Q.slots.length
                · have hil' : (i : Int) < Q.slots.length := by omega
                  obtain ⟨_, _, q1, q2, q3⟩ := (Z.out.1.fr hfi (fun b hb => by have := Z.out.2.2.2.1 b hb; omega)).elem
                  obtain ⟨rfl, _, rfl⟩ := Value.slice.inj q1
                  obtain ⟨sb, rfl, -, -, hcell⟩ := q3 i hil
                  have hx0 : 0 ≤ Q.slots.getD i 0 := (Y.out.2.2.1 _ (mem_getD0 hil)).1
                  have htk := take_get' hil
                  have ok0 : (⟨sl', Q.stack⟩ : AR).ok i := ⟨by omega, by simp only; omega⟩
                  have cs := roots_set wr rn _ i (Q.slots.getD i 0) hRi
                  have e1 : (⟨sl', Q.stack⟩ : AR).setR i (Q.slots.getD i 0) = (⟨sl'.set i (Q.slots.getD i 0), Q.stack⟩, 0) := by
                    unfold AR.setR; rw [if_pos ok0, if_neg (by omega)]; unfold AR.set; rw [Int.toNat_natCast]
                  rw [e1] at cs
                  have e2 : (sl'.set i (Q.slots.getD i 0)).take (i + 1) = Q.slots.take (i + 1) := by
                    rw [htk, ← htake, List.take_succ_eq_append_getElem (by rw [List.length_set]; omega)]
                    simp [List.take_set_of_le]
                  have CS := Lib.hid (And.intro cs (And.intro e2 (And.intro hfi hsl)))
                  clear cs e1 e2 hRi hfi hsl q1 q3 htk ok0 hx0 htake
                  generalize Q.slots.getD i 0 = x at *
                  go_wp2_with (go_at_call 51; (with_reducible refine CS.out.1.mono ?_); rintro e w5 ⟨rfl, h5, f5⟩)
                  go_roundw
                  case rel => exact ⟨i + 1, sl'.set i x, by omega, by go_num, by rw [List.length_set]; exact CS.out.2.2.2, CS.out.2.1, h5, CS.out.2.2.1.trans f5⟩
                  case measure => simp [intOf]; omega
                · have hii : i = Q.slots.length := by omega
                  have hle : ((Q.slots.length : Nat) : Int) ≤ i := by omega
                  have hsq : sl' = Q.slots := by
                    rw [hii, List.take_length, ← hsl, List.take_length] at htake
                    exact htake
                  subst hsq
                  have hRt : RootsAt wr rn Q := hRi
                  have nW := New.then Z.out.2.2.2.2 hfi (fun q hq x => by omega)
                  have kc0 := nW.cellL cc0 id
                  have bW := New.blk nW Y.out.1.hg
                  have htl : ∀ b, (Value.slice to t tc).ownBlock = some b → W1.heap.size ≤ b := fun b e => (Y.out.1.ht.lt b e).1
                  have hown := (ownsRow_fr (F := fun _ => False) Y.out.1.ht nW (fun _ _ x => x)).alloc (.cells #[Pt rn] 57)
                  have hW1 : W1.heap.size ≤ wr.heap.size := Nat.le_trans Y.out.1.fr.size nW.size
                  have htt : t + 1 ≤ 1000000 := by omega
                  have V := Lib.hid (And.intro hRt (And.intro nW (And.intro bW (And.intro htl hown))))
                  clear hRi hfi hRt nW bW htl hown htake hii hi hil
                  go_wp2_with (at_builtin; (refine wpList_append_fr rfl (.tmp 102) (.tmp 104) 54 rfl 57 (.pointer none) 1 8 Try.underlying54 Try.info57 rfl (by decide) (by decide) W1.heap.size _ _ _ rfl V.out.2.2.2.2 (some ⟨wr.heap.size, 0, none⟩) 1 1 [Pt rn] rfl rfl (by simp) ?_ ?_ ?_ ?_ ?_); (intro ad h; cases h; exact cell_one_new _ _ _); (intro u hu; simp at hu; subst hu; rfl); (exact htt); (simp; omega); intro v' w5 hown5 hfr5 hloc5; obtain ⟨nb5, nc5, rfl⟩ := own_shape hown5 (by omega); have b5 := hfr5.blk (heap_alloc_old V.out.2.2.1) (fun e => by have := V.out.2.2.2.1 _ e; omega); have cr5 := cell_blk (i := 0) (v := .slice to t tc) b5 rfl; have fr5 := free_blk (i := 0) b5)
                  have hnext := Y.out.1.next (rn := rn) (w1 := wr.alloc (.cells #[Pt rn] 57)) (by rw [Y.out.2.1]; exact V.out.1.fr (F := fun _ => False) ((Fr.refl _ _).alloc _) id) (Fr.alloc V.out.2.1 _) hwr2 hown5 hfr5 (hloc5.imp id (fun e => ⟨_, by simp, e⟩)) lcb
                  have NX := Lib.hid hnext
                  clear hnext hfr5 hown5 hloc5 b5
                  go_roundw
                  case rel => exact ⟨t + 1, _, _, by omega, by go_num, NX.out⟩
                  case measure => simp [intOf]; omega
        · have htt : t = A.T.length := by omega
          have hle : ((A.T.length : Nat) : Int) ≤ t := by omega
          rw [htt] at hct
          have hsz := X.out.2.2.2.2.1
          have fin := hct.done X.out.2.1 X.out.1 X.out.2.2.2.1 X.out.2.2.1 X.out.2.2.2.2.2 hmw ⟨by omega, by omega, by omega, by omega, by omega⟩ (fun b e => by have := HS.out.1 b e; omega)
          have F := Lib.hid fin
          clear fin hct htt hlt ht hnw
          go_wp2
          go_ret
          exact ⟨mb + 1, rfl, F.out, by omega⟩
    · intro e hem hes w2 hrg2 hlt2 hf2 hen
      have hem' : e ∈ L.es.toList := by simpa using hem
      obtain ⟨k, hk, ek, ev⟩ := H.out.1.entry hem'
      have hl0 := hrg.left
      have hne : dn k = false := by rw [hdn e hem' k ek]; simpa using hes
      have hmw := HS.out.2
      have hn2 : New w w2 := New.then hnew hf2 (fun i hi x => by omega)
      have hco2 := hco.fr hf2 (by omega) (fun x b hx hb => by have := hco.lt hx hb; omega)
      have hcb2 := hf2.blk hcb (by omega)
      have hgs2 := hgs.fr hf2 (fun b hb => by have := HS.out.1 b hb; omega)
      have hB2 := hf2.size
      have g2 := H.out.1.onNew' hn2
      have bo := g2.ho k hk
      have hr2 := g2.hrv k hk
      have hd2 := g2.hdv k hk
      have hlo : L.o k < w.heap.size := lt_of_block (H.out.1.ho k hk)
      have hmO : A.O.getD k default ∈ A.O := by simp [List.getD, hk]
      have h95 := H.out.2.2.1.refs _ hmO
      have h95d := H.out.2.2.1.data _ hmO
      obtain ⟨ra, rc, er, -⟩ := hr2.shape
      obtain ⟨da, dc, ed, -⟩ := hd2.shape
      simp only [List.length_map] at er ed
      have cc2 := cell_blk (i := 2) (v := .map (some mb)) hcb2 rfl
      have cr := cell_blk (i := 0) (v := L.rv k) bo rfl
      have cd := cell_blk (i := 1) (v := L.dv k) bo rfl
      rw [er] at cr hr2
      rw [ed] at cd hd2
      have K := Lib.hid (And.intro hdn (And.intro hco2 (And.intro hn2 (And.intro hcb2 (And.intro hgs2 (And.intro hr2 (And.intro hd2 (And.intro h95 (And.intro h95d (And.intro hk (And.intro hne (And.intro hem' (And.intro hes (And.intro hrg2 (And.intro hlt2 (And.intro hl0 (And.intro ek hBr)))))))))))))))))
      rw [ek, ev] at hen ⊢
      clear hdn hco hnew hcb hgs hrg hrg2 hlt2 hl0 hf2 hn2 hco2 hcb2 hgs2 g2 bo hr2 hd2 er ed hmO h95 h95d hk hne hem hem' hes ek ev
      generalize hob : A.O.getD k default = ob at *
      have E := Lib.hid hob
      clear hob
      go_wp2
      have lmb := lt_of_block K.out.2.1.hm
      have hnm : L.o k ≠ mb := by omega
      have lb2 : mb + 3 ≤ w2.heap.size := by have := K.out.2.2.2.2.2.2.2.2.2.2.2.2.2.2.2.2.2; omega
      go_region_held3 (fun w' => w'.cell? ⟨mb + 1, 2, none⟩ = some (.map (some mb)) ∧ w'.cell? ⟨L.o k, 0, none⟩ = some (.slice ra ob.refs.length rc) ∧ w'.cell? ⟨L.o k, 1, none⟩ = some (.slice da ob.data.length dc))
        (first | exact ⟨cc2, cr, cd⟩ | exact ⟨na'.cellL cc2 id, na'.cellL cr id, na'.cellL cd id⟩ | exact ⟨nb'.cellL cc2 id, nb'.cellL cr id, nb'.cellL cd id⟩ | exact ⟨nc'.cellL cc2 id, nc'.cellL cr id, nc'.cellL cd id⟩ | exact ⟨md'.cellL cc2 (by simp), md'.cellL cr hnm, md'.cellL cd hnm⟩)
        (first
          | ((go_at_call 44; (refine (clone_int _ (K.out.2.2.2.2.2.1.fr (F := fun _ => False) (by repeat first | exact Fr.refl _ _ | apply Fr.drew) (fun _ _ x => x)) (one_I _) (by have := K.out.2.2.2.2.2.2.2.1; simp; omega)).mono ?_); rintro e wa ⟨va, rfl, owna, na⟩; have na' : New w2 wa := Fr.ofDrew na; simp only [List.length_map] at owna; obtain ⟨aa, ca, rfl⟩ := own_any' owna))
          | ((go_at_call 49; (refine (clone_word _ (K.out.2.2.2.2.2.2.1.fr (F := fun _ => False) na' (fun _ _ x => x)) (one_U' _) (by have := K.out.2.2.2.2.2.2.2.2.1; simp; omega)).mono ?_); rintro e wb ⟨vb, rfl, ownb, nb⟩; have nb' : New w2 wb := Fr.trans na' nb; simp only [List.length_map] at ownb; obtain ⟨ab, cb, rfl⟩ := own_any' ownb; have nc' : New w2 (wb.alloc (.cells #[.slice aa ob.refs.length ca, .slice ab ob.data.length cb] 75)) := Fr.alloc nb' _; obtain ⟨es', c', hmu, hkv', hpu, -⟩ := run_mapUpdate_int (P := Try.prog) Try.underlying53 Try.underlying3 (New.blk nc' K.out.2.1.hm) K.out.2.1.hkv ((k : Int) + 1) (Pt wb.heap.size); have md' : Fr (· = mb) w2 (setBlk (wb.alloc (.cells #[.slice aa ob.refs.length ca, .slice ab ob.data.length cb] 75)) mb (.map es' c')) := Fr.trans (nc'.to _) (Fr.setBlk _ _ _); have M := Lib.hid (And.intro hkv' hpu); clear hkv' hpu)))
      have hfin : RangeAt (setBlk (wb.alloc (.cells #[.slice aa ob.refs.length ca, .slice ab ob.data.length cb] 75)) mb (.map es' c')) L.mb (mb + 2) L.es L.c (seen.push e.born) ∧
          C1 w L A (mb + 3) (mb + 1) mb (.slice ga A.G.length gc) (setBlk (wb.alloc (.cells #[.slice aa ob.refs.length ca, .slice ab ob.data.length cb] 75)) mb (.map es' c')) (seen.push e.born) := by
        obtain ⟨hdn, hco2, hn2, hcb2, hgs2, hr2, hd2, h95, h95d, hk, hne, hem, hes, hrg2, hlt2, hl0, ek, hBr⟩ := K.out
        have hLmb : L.mb < w.heap.size := lt_of_block H.out.1.hm
        have hmw := HS.out.2
        have hE := E.out
        obtain ⟨rfl, rfl⟩ := M.out.2 (hco2.freshKey hk hne)
        have nsz := na'.size
        have nszb := nb.size
        have sa := (Sl.of owna).fr (F := fun _ => False) (nb.trans ((Fr.refl _ _).alloc (.cells #[.slice aa ob.refs.length ca, .slice ab ob.data.length cb] 75))) (fun _ _ x => x)
        have sb := (Sl.of ownb).fr (F := fun _ => False) ((Fr.refl _ _).alloc (.cells #[.slice aa ob.refs.length ca, .slice ab ob.data.length cb] 75)) (fun _ _ x => x)
        have la : ∀ b, slB (.slice aa ob.refs.length ca) (ob.refs.map I) = some b → w2.heap.size ≤ b ∧ b < wa.heap.size := fun b hb => by
          have h1 := (Sl.of owna).lt b hb
          unfold slB at hb
          split at hb
          · cases hb
          · have := (owna.lt b hb).1; exact ⟨by simpa using this, h1⟩
        have lb : ∀ b, slB (.slice ab ob.data.length cb) (ob.data.map U) = some b → wa.heap.size ≤ b ∧ b < wb.heap.size := fun b hb => by
          have h1 := (Sl.of ownb).lt b hb
          unfold slB at hb
          split at hb
          · cases hb
          · exact ⟨(ownb.lt b hb).1, h1⟩
        have hadd := hco2.add hk hne nc' lb2 (by omega) (heap_alloc_new wb _) (by omega) (by rw [hE]; exact sa) (by rw [hE]; exact sb)
          (fun b hb => by rw [hE] at hb; have := la b hb; omega) (fun b hb => by
            rw [hE] at hb
            have h1 := lb b hb
            refine ⟨by omega, by omega, fun h2 => ?_⟩
            rw [hE] at h2
            have := la b h2; omega)
          (Fr.setBlk _ _ _) (setBlk_same (New.blk nc' hco2.hm)) (MapKept.stamped_push hco2.hst (key_ne hco2.hkv (hco2.freshKey hk hne))) M.out.1
        refine ⟨hrg2.fr md' (by omega) (by omega), _, _, _, _, _, _, _, ?_, hadd, New.then hn2 md' (fun i hi x => by omega), md'.blk hcb2 (by omega), hgs2.fr md' (fun b hb => by have := HS.out.1 b hb; omega), Nat.le_trans lb2 md'.size⟩
        intro e' he' j hj
        have hst := (MapKept.stamped_iff _ _).1 H.out.1.hst
        by_cases hjk : j = k
        · subst hjk
          have : e' = e := entry_eq_of_key hst.2.2 he' hem (by rw [hj, ek])
          subst this
          rw [upd_self]; simp
        · rw [upd_other _ _ hjk, hdn e' he' j hj]
          have hb : e'.born ≠ e.born := fun hb => hjk (by
            have := born_inj hst.2.1 he' hem hb
            subst this
            rw [hj] at ek
            injection ek with _ ek
            omega)
          simp [hb]
      have FIN := Lib.hid hfin
      have ML := Lib.hid (And.intro hfin.1.left (And.intro K.out.2.2.2.2.2.2.2.2.2.2.2.2.2.2.2.1 K.out.2.2.2.2.2.2.2.2.2.2.2.2.2.2.1))
      clear hfin
      go_roundw
      case rel => exact ⟨_, _, _, _, _, _, _, _, _, _, _, _, _, _, _, _, _, _, _, _, _, _, _, _, ⟨_, FIN.out.1, FIN.out.2⟩, rfl⟩
      case measure => rw [ML.out.1, ML.out.2.1]; exact ML.out.2.2
end Go.Proofs.Ytnhombeagbhccaa
