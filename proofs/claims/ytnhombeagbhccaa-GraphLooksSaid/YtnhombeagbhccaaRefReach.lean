/- The reference's graph: Reach. -/
import Derived.Test.YtnhombeagbhccaaOuts
namespace Go.Proofs.Ytnhombeagbhccaa
open Go.RowKit

variable {w w' : World} {r : Nat} {L : RL} {A : AG}

theorem Try.info4 : (Try.prog.info? 4).map (fun i => (i.zero, i.size, i.bytes)) = some (some (.bool false), 1, 1) := by kernel_rfl

/-- What stands in all of Reach's loops. -/
structure RJ (w0 : World) (ob : Nat) (A : AG) (w : World) (bs : List Bool) : Prop where
  new : New w0 w
  at_ : OutAt w ob bs
  outs : Outs A bs

theorem RJ.put {w0 : World} {ob : Nat} {bs : List Bool} (h : RJ w0 ob A w bs) (hb : w0.heap.size ≤ ob) {x : Int} (h0 : 0 ≤ x) (hr : x ≠ 0 → A.Reached x) : RJ w0 ob A (w.setCell ⟨ob, x.toNat, none⟩ (.bool true)) (bs.set x.toNat true) :=
  ⟨New.then (F := (· = ob)) h.new ((Fr.refl _ _).set _ _ rfl) (fun i hi e => by omega), h.at_.set _ _, h.outs.set h0 hr⟩

theorem RJ.unset {w0 : World} {ob : Nat} {bs : List Bool} (h : RJ w0 ob A w bs) (hb : w0.heap.size ≤ ob) : RJ w0 ob A (w.setCell ⟨ob, 0, none⟩ (.bool false)) (bs.set 0 false) :=
  ⟨New.then (F := (· = ob)) h.new ((Fr.refl _ _).set _ _ rfl) (fun i hi e => by omega), h.at_.set _ _, h.outs.unset⟩

theorem RJ.onNew {w0 w2 : World} {ob : Nat} {bs : List Bool} (h : RJ w0 ob A w bs) (hn : New w w2) : RJ w0 ob A w2 bs := ⟨Fr.trans h.new hn, h.at_.fr hn id, h.outs⟩

/-- An entry of the row, in its bounds. -/
theorem RJ.entry {w0 : World} {ob : Nat} {bs : List Bool} (h : RJ w0 ob A w bs) {x : Int} (hx : A.In x) : ∃ b, bs[x.toNat]? = some b ∧ w.cell? ⟨ob, x.toNat, none⟩ = some (.bool b) ∧ w.frozen? ⟨ob, x.toNat, none⟩ = false := by
  have := h.outs.len
  have := hx.1
  have := hx.2
  have hl : x.toNat < bs.length := by omega
  exact ⟨_, List.getElem?_eq_getElem hl, h.at_.cell (List.getElem?_eq_getElem hl), h.at_.free _⟩

theorem own_any {base e n : Nat} {v : Value} {xs : List Value} {w : World} (h : w.ownsRow base e 1 v n xs) : ∃ ao cap, v = .slice ao n cap := by
  rcases h.2 with ⟨rfl, rfl⟩ | ⟨g, cap, cur, rfl, _⟩
  · exact ⟨none, 0, rfl⟩
  · exact ⟨_, cap, rfl⟩
theorem own_some {base e n m cap : Nat} {ao : Option Addr} {xs : List Value} {w : World} (h : w.ownsRow base e 1 (.slice ao m cap) n xs) (hn : 0 < n) : ∃ b, ao = some ⟨b, 0, none⟩ := by
  rcases h.2 with ⟨_, h0⟩ | ⟨g, cap, cur, e, _⟩
  · omega
  · injection e with e; exact ⟨g, e⟩

theorem cov_all {bs : List Bool} {R : AR} (h : Cov bs R.all) : Cov bs R.refs := fun x hx h0 => h x (List.mem_filter.2 ⟨hx, by simpa using h0⟩) h0

theorem take_get {l : List Int} {k : Nat} (h : k < l.length) : l.take (k + 1) = l.take k ++ [l.getD k 0] := by
  rw [List.take_succ_eq_append_getElem h]; simp [List.getD, h]

theorem takeT {l : List AR} {k : Nat} (h : k < l.length) {R : AR} (hR : R ∈ l.take (k + 1)) : R ∈ l.take k ∨ R = l.getD k default := by
  rw [List.take_succ_eq_append_getElem h] at hR
  rcases List.mem_append.1 hR with h1 | h1
  · exact .inl h1
  · exact .inr (by simpa [List.getD, h] using h1)

/-- What stands in the search: roots are told. -/
structure R4 (w0 : World) (ob : Nat) (A : AG) (w : World) (bs : List Bool) : Prop where
  j : RJ w0 ob A w bs
  g : Cov bs A.G
  t : ∀ R ∈ A.T, Cov bs R.refs
  z : bs[0]? = some false

/-- What objects ahead of n lead to is told. -/
def Shut (A : AG) (bs : List Bool) (n : Nat) : Prop := ∀ q : Nat, q < n → bs[q + 1]? = some true → Cov bs (A.O.getD q default).refs

theorem R4.put {w0 : World} {ob : Nat} {bs : List Bool} (h : R4 w0 ob A w bs) (hb : w0.heap.size ≤ ob) {x : Int} (h0 : 0 ≤ x) (hx : x ≠ 0) (hr : A.Reached x) : R4 w0 ob A (w.setCell ⟨ob, x.toNat, none⟩ (.bool true)) (bs.set x.toNat true) :=
  ⟨h.j.put hb h0 (fun _ => hr), h.g.set _, fun R hR => (h.t R hR).set _, by rw [List.getElem?_set_ne (by omega)]; exact h.z⟩

theorem Shut.next {bs : List Bool} {q : Nat} (h : Shut A bs q) (hq : bs[q + 1]? = some true → Cov bs (A.O.getD q default).refs) : Shut A bs (q + 1) := by
  intro p hp he
  by_cases e : p = q
  · subst e; exact hq he
  · exact h p (by omega) he

theorem R4.done {w0 : World} {ob : Nat} {bs : List Bool} (h : R4 w0 ob A w bs) (hv : A.Valid) (hc : Shut A bs A.O.length) (x : Nat) (hx : x ≤ A.O.length) : bs[x]? = some true ↔ A.Reached x := by
  refine h.j.outs.done hv h.z h.g h.t (fun n h1 h2 he => ?_) x hx
  have := hc (n - 1) (by omega) (by rw [show n - 1 + 1 = n by omega]; exact he)
  exact this

def boolN : Value → Nat
  | .bool true => 1
  | _ => 0

set_option maxRecDepth 100000 in
set_option maxHeartbeats 4000000 in
theorem ref_Reach (h : RAt w r L A) (hn : 0 < A.T.length) (hv : A.Valid) (hs : A.Small) :
    Calls Try.prog 14 #[Pt r] w fun e w' => ∃ bs : List Bool, e = .returned (.slice (some ⟨w.heap.size, 0, none⟩) (A.O.length + 1) (A.O.length + 1)) ∧ OutAt w' w.heap.size bs ∧ bs.length = A.O.length + 1 ∧ (∀ x : Nat, x ≤ A.O.length → (bs[x]? = some true ↔ A.Reached x)) ∧ New w w' := by
  have hmk := fun w => run_mk (P := Try.prog) Try.underlying39 Try.info4 rfl ((A.O.length : Int) + 1) (by omega) (by have := hs.objs; omega) (by omega) w
  obtain ⟨ao, oc, e1, hoc, -⟩ := h.oshape
  have c2 := h.c2
  rw [e1] at c2
  have hO : ((A.O.length : Nat) : Int) ≤ 1000 := by have := hs.objs; omega
  have H := Lib.hid (And.intro h (And.intro hv (And.intro hs hn)))
  clear e1 h hv hs hn
  go_enter Try.func14, Try.ntmps14
  go_wp2
  have st : RJ w w.heap.size A (w.alloc (.cells (Array.replicate (A.O.length + 1) (.bool false)) 4)) (List.replicate (A.O.length + 1) false) := by
    refine ⟨(Fr.refl _ _).alloc _, ?_, ⟨by simp, fun x hx => ?_⟩⟩
    · unfold OutAt
      rw [heap_alloc_new]; simp
    · rw [List.getElem?_replicate] at hx
      split at hx
      · cases hx
      · cases hx
  have hwb : w.heap.size ≤ w.heap.size := Nat.le_refl _
  generalize w.alloc (.cells (Array.replicate (A.O.length + 1) (.bool false)) 4) = w1 at st ⊢
  generalize hob : w.heap.size = ob at st hwb ⊢
  have HB := Lib.hid hob
  clear hob hwb hmk
  go_loopw [4] (fun i wr => ∃ (k : Nat) (bs : List Bool), k ≤ A.G.length ∧ i = I k ∧ RJ w ob A wr bs ∧ Cov bs (A.G.take k)) (fun i _ => A.G.length - (intOf i).toNat)
  case atStart => exact ⟨0, _, by omega, rfl, st, fun x hx => by simp at hx⟩
  case round =>
    obtain ⟨k, bs, hk, rfl, hj, hc⟩ := hrel
    clear st
    have hR := H.out.1.onNew hj.new
    obtain ⟨ag, cg, c1, hcg, hel⟩ := hR.globs
    have hG8 : ((A.G.length : Nat) : Int) ≤ 8 := by have := H.out.2.2.1.glob; omega
    by_cases hlt : k < A.G.length
    · obtain ⟨gb, rfl, -, -, hcell⟩ := hel k hlt
      have hm : A.G.getD k 0 ∈ A.G := mem_getD0 hlt
      have hin : A.In (A.G.getD k 0) := H.out.2.1.glob _ hm
      obtain ⟨b, hb, hcx, hfx⟩ := hj.entry hin
      have htk : A.G.take (k + 1) = A.G.take k ++ [A.G.getD k 0] := by
        rw [List.take_succ_eq_append_getElem hlt]; simp [List.getD, hlt]
      have hrr : A.G.getD k 0 ≠ 0 → A.Reached (A.G.getD k 0) := fun h0 => .glob hm h0
      have hlt' : (k : Int) < A.G.length := by omega
      have x0 : 0 ≤ A.G.getD k 0 := hin.1
      have x1 : A.G.getD k 0 < (A.O.length : Int) + 1 := by have := hin.2; omega
      have X := Lib.hid (And.intro hj (And.intro hc (And.intro hin (And.intro htk hrr))))
      clear hj hc hin htk hrr hm hb hel hR
      generalize A.G.getD k 0 = x at *
      go_wp2
      go_roundw
      case rel => exact ⟨k + 1, bs.set x.toNat true, by omega, by go_num, X.out.1.put (by have := HB.out; omega) X.out.2.2.1.1 X.out.2.2.2.2, by rw [X.out.2.2.2.1]; exact Cov.push X.out.1.outs X.out.2.1 X.out.2.2.1⟩
      case measure => simp [intOf]; omega
    · have hkk : k = A.G.length := by omega
      rw [hkk, List.take_length] at hc
      have hle : ((A.G.length : Nat) : Int) ≤ k := by omega
      have hT64 : ((A.T.length : Nat) : Int) ≤ 64 := by have := H.out.2.2.1.thr; omega
      have qq : decide (k < A.G.length) = false := decide_eq_false hlt
      clear hkk hlt hk hR hel
      go_wp2
      clear qq
      clear c1 hcg hle hG8
      go_loopw [5] (fun i wt => ∃ (t : Nat) (bs : List Bool), t ≤ A.T.length ∧ i = I t ∧ RJ w ob A wt bs ∧ Cov bs A.G ∧ ∀ R ∈ A.T.take t, Cov bs R.refs) (fun i _ => A.T.length - (intOf i).toNat)
      case atStart => exact ⟨0, _, by omega, rfl, hj, hc, fun R hR => by simp at hR⟩
      case round =>
        clear hj hc
        obtain ⟨t, bs, htt, rfl, hj, hc, hcT⟩ := hrel
        have hR := H.out.1.onNew hj.new
        have hlb : ob < wr.heap.size := lt_of_block hj.at_
        obtain ⟨tb, tc, e1, htc, -, -, -⟩ := hR.tshape H.out.2.2.2
        have c0 := hR.c0
        rw [e1] at c0
        by_cases hlt : t < A.T.length
        · have hok : A.okT t := ⟨by omega, by omega⟩
          obtain ⟨tb', tc', az, cs, ak, ck, e1', -, -, -, -, c0', ct0, ct1, -, hsl, hst, -, -⟩ := hR.thrAt hok
          have e3 := e1.symm.trans e1'
          injection e3 with e3 e4 e5
          injection e3 with e3
          injection e3 with e3
          subst e3 e5
          rw [Int.toNat_natCast] at ct0 ct1
          have hm : A.thr t ∈ A.T := thr_mem hok
          have hTg : A.T.getD t default = A.thr t := by unfold AG.thr; rw [Int.toNat_natCast]
          have CC := Lib.hid (ref09_All _ _ (A.thr t) wr hsl hst (H.out.2.2.1.slots _ hm) (H.out.2.2.1.stack _ hm))
          have h24 : (A.thr t).all.length ≤ 24 := by
            have h1 := H.out.2.2.1.slots _ hm
            have h2 := H.out.2.2.1.stack _ hm
            refine Nat.le_trans (List.length_filter_le _ _) ?_
            simp only [AR.refs, List.length_append]; omega
          have hlt' : (t : Int) < A.T.length := by omega
          have X := Lib.hid (And.intro hj (And.intro hc (And.intro hcT (And.intro hm (And.intro hTg h24)))))
          clear e1 e1' c0' hsl hst hm hTg hj hc hcT hR h24 e4 hok
          generalize A.thr t = R at *
          go_wp2_with (go_at_call 48; (with_reducible refine CC.out.mono ?_); rintro e w2 ⟨v, rfl, hown, nn⟩; obtain ⟨av, cv, rfl⟩ := own_any hown)
          have h24' : ((R.all.length : Nat) : Int) ≤ 24 := by have := X.out.2.2.2.2.2; omega
          have XJ := X.out.1.onNew nn
          go_loopw [7] (fun i wt => ∃ (j : Nat) (bs : List Bool), j ≤ R.all.length ∧ i = I j ∧ RJ w ob A wt bs ∧ Cov bs A.G ∧ (∀ Q ∈ A.T.take t, Cov bs Q.refs) ∧ Cov bs (R.all.take j) ∧ wt.ownsRow (ob + 1) 3 1 (.slice av R.all.length cv) R.all.length (R.all.map I)) (fun i _ => R.all.length - (intOf i).toNat)
          case atStart => exact ⟨0, bs, by omega, rfl, XJ, X.out.2.1, X.out.2.2.1, fun x hx => by simp at hx, hown.1, hown.2.imp id (fun ⟨g, cap, cur, a, b, c⟩ => ⟨g, cap, cur, a, by omega, c⟩)⟩
          case round =>
            clear XJ hown nn
            obtain ⟨j, bs, hjl, rfl, hj, hc, hcT, hcj, hown⟩ := hrel
            by_cases hjt : j < R.all.length
            · obtain ⟨vb, rfl⟩ := own_some hown (by omega)
              have hcell := hown.cellAt j (by omega)
              rw [List.getElem?_map, List.getElem?_eq_getElem hjt, Option.map_some] at hcell
              have hxe : R.all[j] = R.all.getD j 0 := by simp [List.getD, hjt]
              rw [hxe] at hcell
              have hma : R.all.getD j 0 ∈ R.all := mem_getD0 hjt
              have hmr : R.all.getD j 0 ∈ R.refs := (List.mem_filter.1 hma).1
              have hin : A.In (R.all.getD j 0) := H.out.2.1.get X.out.2.2.2.1 hmr
              have hrr : R.all.getD j 0 ≠ 0 → A.Reached (R.all.getD j 0) := fun h0 => .root X.out.2.2.2.1 hmr h0
              have htk := take_get hjt
              obtain ⟨b, hb, hcx, hfx⟩ := hj.entry hin
              have hjt' : (j : Int) < R.all.length := by omega
              have x0 : 0 ≤ R.all.getD j 0 := hin.1
              have x1 : R.all.getD j 0 < (A.O.length : Int) + 1 := by have := hin.2; omega
              have Y := Lib.hid (And.intro hj (And.intro hc (And.intro hcT (And.intro hcj (And.intro hown (And.intro hin (And.intro htk hrr)))))))
              clear hj hc hcT hcj hown hin htk hrr hma hmr hxe hb
              generalize R.all.getD j 0 = x at *
              go_wp2
              go_roundw
              case rel => exact ⟨j + 1, bs.set x.toNat true, by omega, by go_num, Y.out.1.put (by have := HB.out; omega) x0 Y.out.2.2.2.2.2.2.2, Y.out.2.1.set _, fun Q hQ => (Y.out.2.2.1 Q hQ).set _, by rw [Y.out.2.2.2.2.2.2.1]; exact Cov.push Y.out.1.outs Y.out.2.2.2.1 Y.out.2.2.2.2.2.1, ownsRow_fr (F := (· = ob)) Y.out.2.2.2.2.1 ((Fr.refl _ _).set _ _ rfl) (fun b hb => by have := (Y.out.2.2.2.2.1.lt b hb).1; omega)⟩
              case measure => simp [intOf]; omega
            · have hjj : j = R.all.length := by omega
              rw [hjj, List.take_length] at hcj
              have hle : ((R.all.length : Nat) : Int) ≤ j := by omega
              have Y := Lib.hid (And.intro hj (And.intro hc (And.intro hcT hcj)))
              clear hj hc hcT hcj hown hjj hjl hjt
              go_wp2
              go_roundw
              case rel => exact ⟨t + 1, bs, by omega, by go_num, Y.out.1, Y.out.2.1, fun Q hQ => by
                rcases takeT hlt hQ with h1 | h1
                · exact Y.out.2.2.1 Q h1
                · rw [h1, X.out.2.2.2.2.1]; exact cov_all Y.out.2.2.2⟩
              case measure => simp [intOf]; omega
        · have htt2 : t = A.T.length := by omega
          rw [htt2, List.take_length] at hcT
          have hle : ((A.T.length : Nat) : Int) ≤ t := by omega
          have qt : decide (t < A.T.length) = false := decide_eq_false hlt
          have z0 := hj.entry (x := 0) ⟨Int.le_refl _, by omega⟩
          obtain ⟨b0, hb0, hz0, hf0⟩ := z0
          simp only [Int.toNat_zero] at hb0 hz0 hf0
          have X := Lib.hid (And.intro hj (And.intro hc hcT))
          have hb0' : 0 < bs.length := by have := hj.outs.len; omega
          have st4 : R4 w ob A (wr.setCell ⟨ob, 0, none⟩ (.bool false)) (bs.set 0 false) := ⟨hj.unset (by have := HB.out; omega), hc.unset (fun x hx => (H.out.2.1.glob x hx).1), fun R hR => (hcT R hR).unset (fun x hx => (H.out.2.1.get hR hx).1), by rw [List.getElem?_set_self hb0']⟩
          clear htt2 hlt htt hR hj hc hcT hb0 hb0' e1 htc X
          go_wp2
          clear qt hz0 hf0 hle c0
          generalize wr.setCell ⟨ob, 0, none⟩ (.bool false) = w4 at st4 ⊢
          go_loopw [8] (fun mv W => ∃ (m : Bool) (bs : List Bool), mv = .bool m ∧ R4 w ob A W bs ∧ (m = false → Shut A bs A.O.length)) (fun mv W => 2 * falses W ob + boolN mv)
          case atStart => exact ⟨true, _, rfl, st4, fun h => by cases h⟩
          case round =>
            clear st4
            obtain ⟨m, bs, rfl, hj, hsh⟩ := hrel
            cases m with
            | false =>
              have fin := hj.done H.out.2.1 (hsh rfl)
              have F := Lib.hid (And.intro hj.j.at_ (And.intro hj.j.outs.len (And.intro fin hj.j.new)))
              clear fin hj hsh
              go_wp2
              go_ret
              exact ⟨bs, by rw [HB.out]; rfl, by rw [HB.out]; exact F.out.1, F.out.2.1, F.out.2.2.1, F.out.2.2.2⟩
            | true =>
              clear hsh
              have hc0 := hj.j.at_.falses
              go_wp2
              go_loopw [8, 9] (fun mv nv W => ∃ (m : Bool) (q : Nat) (cs : List Bool), mv = .bool m ∧ nv = I ((q : Int) + 1) ∧ q ≤ A.O.length ∧ R4 w ob A W cs ∧ (m = false → Shut A cs q) ∧ cs.count false ≤ bs.count false ∧ (m = true → cs.count false < bs.count false)) (fun _ nv _ => A.O.length + 1 - (intOf nv).toNat)
              case atStart => exact ⟨false, 0, bs, rfl, rfl, by omega, hj, fun _ => fun q hq => by omega, Nat.le_refl _, fun h => by cases h⟩
              case round =>
                clear hj
                obtain ⟨m, q, cs, rfl, rfl, hq, hj, hsh, hct, hcm⟩ := hrel
                have hR := H.out.1.onNew hj.j.new
                have hlb : ob < wr.heap.size := lt_of_block hj.j.at_
                obtain ⟨ao5, oc5, e5, hoc5, -⟩ := hR.oshape
                have c25 := hR.c2
                rw [e5] at c25
                by_cases hlt : q < A.O.length
                · have hlt' : (q : Int) + 1 ≤ A.O.length := by omega
                  obtain ⟨o, ho⟩ : ∃ o, A.O.getD q default = o := ⟨_, rfl⟩
                  have E := Lib.hid ho
                  clear ho
                  have X := Lib.hid (And.intro hj (And.intro hsh (And.intro hct hcm)))
                  clear hj hsh hct hcm e5 hR
                  go_wp2
                  clear c25
                  go_loopw [8, 10] (fun mv iv W => ∃ (m : Bool) (i : Nat) (cs : List Bool), mv = .bool m ∧ iv = I i ∧ i ≤ o.refs.length ∧ R4 w ob A W cs ∧ (m = false → Shut A cs q ∧ (cs[q + 1]? = some true → Cov cs (o.refs.take i))) ∧ cs.count false ≤ bs.count false ∧ (m = true → cs.count false < bs.count false)) (fun _ iv _ => o.refs.length - (intOf iv).toNat)
                  case atStart => exact ⟨m, 0, cs, rfl, rfl, by omega, X.out.1, fun h => ⟨X.out.2.1 h, fun _ x hx => by simp at hx⟩, X.out.2.2.1, X.out.2.2.2⟩
                  case round =>
                    clear X
                    obtain ⟨m, i, cs, rfl, rfl, hi, hj, hsh, hct, hcm⟩ := hrel
                    have hR := H.out.1.onNew hj.j.new
                    have hlb : ob < wr.heap.size := lt_of_block hj.j.at_
                    obtain ⟨bn, hbn, hcn, hfn⟩ := hj.j.entry (x := (q : Int) + 1) ⟨by omega, by omega⟩
                    have en : ((q : Int) + 1).toNat = q + 1 := by omega
                    rw [en] at hbn hcn hfn
                    cases bn with
                    | false =>
                      have X := Lib.hid (And.intro hj (And.intro hsh (And.intro hct (And.intro hcm hbn))))
                      clear hj hsh hct hcm hR hbn en hi
                      go_wp2
                      go_roundw
                      case rel => exact ⟨m, q + 1, cs, rfl, by go_num, by omega, X.out.1, fun h => (X.out.2.1 h).1.next (fun he => by rw [X.out.2.2.2.2] at he; cases he), X.out.2.2.1, X.out.2.2.2.1⟩
                      case measure => simp [intOf]; omega
                    | true =>
                      obtain ⟨ob6, oc6, c26, hoc6, ck0, ck1⟩ := hR.objAt hlt
                      have hrq := hR (.rf q) hlt
                      simp only [RPart] at hrq
                      rw [E.out] at hrq
                      obtain ⟨av, cv, e6, hcv, hel⟩ := hrq.elem
                      rw [e6] at ck0
                      have hmO : o ∈ A.O := by rw [← E.out]; exact mem_getD hlt
                      have h95 : ((o.refs.length : Nat) : Int) ≤ 95 := by have := H.out.2.2.1.refs _ hmO; omega
                      have hqr : A.Reached ((q : Int) + 1) := by
                        have := hj.j.outs.sound (q + 1) hbn (by omega)
                        simpa using this
                      have hq0 : (0 : Int) ≤ (q : Int) := by omega
                      have hq1 : (q : Int) < A.O.length := by omega
                      by_cases hil : i < o.refs.length
                      · obtain ⟨rb, rfl, -, -, hcell⟩ := hel i hil
                        have hmx : o.refs.getD i 0 ∈ o.refs := mem_getD0 hil
                        have hin : A.In (o.refs.getD i 0) := H.out.2.1.refs _ hmO _ hmx
                        have htk := take_get hil
                        have hrx : o.refs.getD i 0 ≠ 0 → A.Reached (o.refs.getD i 0) := fun h0 => .ref hqr (by rw [obj_succ, E.out]; exact hmx) h0
                        obtain ⟨bx, hbx, hcx, hfx⟩ := hj.j.entry hin
                        have hil' : (i : Int) < o.refs.length := by omega
                        have x0 : 0 ≤ o.refs.getD i 0 := hin.1
                        have x1 : o.refs.getD i 0 < (A.O.length : Int) + 1 := by have := hin.2; omega
                        have X := Lib.hid (And.intro hj (And.intro hsh (And.intro hct (And.intro hcm (And.intro hbn (And.intro htk (And.intro hrx (And.intro hbx hil))))))))
                        clear hj hsh hct hcm hR hbn en e6 hel hrq hmO hqr hmx hin htk hrx hbx hi ck1
                        generalize o.refs.getD i 0 = x at *
                        by_cases hx : x = 0
                        · subst hx
                          clear hcx hfx
                          go_wp2
                          go_roundw
                          case rel => exact ⟨m, i + 1, cs, rfl, by go_num, by have := X.out.2.2.2.2.2.2.2.2; omega, X.out.1, fun h => ⟨(X.out.2.1 h).1, fun he => by rw [X.out.2.2.2.2.2.1]; exact ((X.out.2.1 h).2 he).snoc (fun h0 => absurd rfl h0)⟩, X.out.2.2.1, X.out.2.2.2.1⟩
                          case measure => simp [intOf]; omega
                        · have qx : (x != 0) = true := by simpa using hx
                          cases bx with
                          | true =>
                            clear hx
                            go_wp2
                            go_roundw
                            case rel => exact ⟨m, i + 1, cs, rfl, by go_num, by have := X.out.2.2.2.2.2.2.2.2; omega, X.out.1, fun h => ⟨(X.out.2.1 h).1, fun he => by rw [X.out.2.2.2.2.2.1]; exact ((X.out.2.1 h).2 he).snoc (fun _ => X.out.2.2.2.2.2.2.2.1)⟩, X.out.2.2.1, X.out.2.2.2.1⟩
                            case measure => simp [intOf]; omega
                          | false =>
                            have Z := Lib.hid (And.intro hx (count_set_true X.out.2.2.2.2.2.2.2.1))
                            clear hx
                            go_wp2
                            go_roundw
                            case rel => exact ⟨true, i + 1, cs.set x.toNat true, rfl, by go_num, by have := X.out.2.2.2.2.2.2.2.2; omega, X.out.1.put (by have := HB.out; omega) x0 Z.out.1 (X.out.2.2.2.2.2.2.1 Z.out.1), (fun h => by cases h), by have := Z.out.2; have := X.out.2.2.1; omega, fun _ => by have := Z.out.2; have := X.out.2.2.1; omega⟩
                            case measure => simp [intOf]; omega
                      · have hii : i = o.refs.length := by omega
                        rw [hii, List.take_length] at hsh
                        have hle : ((o.refs.length : Nat) : Int) ≤ i := by omega
                        have X := Lib.hid (And.intro hj (And.intro hsh (And.intro hct (And.intro hcm hbn))))
                        clear hj hsh hct hcm hR hbn en e6 hel hrq hmO hqr hi ck1 hii hil
                        go_wp2
                        go_roundw
                        case rel => exact ⟨m, q + 1, cs, rfl, by go_num, by omega, X.out.1, fun h => (X.out.2.1 h).1.next (fun he => by rw [E.out]; exact (X.out.2.1 h).2 he), X.out.2.2.1, X.out.2.2.2.1⟩
                        case measure => simp [intOf]; omega
                · have hqq : q = A.O.length := by omega
                  subst hqq
                  have hle : ¬ ((A.O.length : Int) + 1 ≤ A.O.length) := by omega
                  have hle2 : (A.O.length : Int) < (A.O.length : Int) + 1 := by omega
                  have hfa := hj.j.at_.falses
                  have X := Lib.hid (And.intro hj (And.intro hsh (And.intro hct (And.intro hcm hfa))))
                  have HC0 := Lib.hid hc0
                  clear hj hsh hct hcm hR e5 hfa hlt hq hc0
                  go_wp2
                  go_roundw
                  case rel => exact ⟨m, cs, rfl, X.out.1, X.out.2.1⟩
                  case measure =>
                    have h1 := X.out.2.2.2.2
                    have h2 := HC0.out
                    have h3 := X.out.2.2.1
                    have h4 := X.out.2.2.2.1
                    cases m <;> simp [boolN] at * <;> omega
end Go.Proofs.Ytnhombeagbhccaa
