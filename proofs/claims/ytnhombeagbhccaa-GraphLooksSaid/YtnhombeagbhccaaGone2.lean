/- GraphGone, its walk. -/
import Derived.Test.YtnhombeagbhccaaMineX
import Derived.Test.YtnhombeagbhccaaGone
import Derived.BigQuiet
import Derived.Maps.Own
import Derived.BigRegion
import Derived.Deep.QuietTactic
import Derived.Deep.Cut
import Derived.Deep.Slices
import Derived.Laws.Cells
import Derived.Deep.DeepCutAuto
namespace Go.Proofs.Ytnhombeagbhccaa
open Go.RowKit

/-- A slice of acts, as it came in. -/
def ActsAt (w : World) (v : Value) (l : List AA) : Prop :=
  ∃ ao cap, v = .slice ao l.length cap ∧ l.length ≤ cap ∧ (ao = none → l = []) ∧ (∀ ad, ao = some ad → ∀ i x, l[i]? = some x → ad.block < w.heap.size ∧ ∀ j u, x.cells[j]? = some u → w.cell? (ad.add (i * 6 + j)) = some u) ∧
    ∀ x ∈ l, 0 ≤ x.v ∧ x.v < 18446744073709551616

/-- The map of what is gone. -/
def GoneAt (w : World) (b : Nat) (f : Int → Bool) (m : Nat) : Prop :=
  ∃ es c kv, w.heap[b]? = some (.map es c) ∧ MapKV es kv ∧ ∀ n, lk kv n = if 1 ≤ n ∧ n ≤ m then some (.bool (f n)) else none

theorem GoneAt.fr {w w' : World} {F : Nat → Prop} {b m : Nat} {f : Int → Bool} (h : GoneAt w b f m) (hf : Fr F w w') (hb : ¬ F b) : GoneAt w' b f m := by
  obtain ⟨es, c, kv, h1, h2, h3⟩ := h
  exact ⟨es, c, kv, hf.blk h1 hb, h2, h3⟩

theorem New.below {w w' : World} (h : New w w') : Below w.heap.size w w' := Fr.toBelow h (Nat.le_refl _) (fun _ _ x => x)

theorem add_block (a : Addr) (n : Nat) : (a.add n).block = a.block := by
  unfold Addr.add; split <;> rfl

theorem goneAt_look {w : World} {b m : Nat} {L : List Int} (h : GoneAt w b (goneB L m) m) (n : Int) (hn : goneB L m n = false) :
    (Instr.lookup 42 (.map (some b)) (I n) false).run Try.prog w = .ok (.bool false) w := by
  obtain ⟨es, c, kv, h1, h2, h3⟩ := h
  have hz : ∀ w, (zeroValue 4).run Try.prog w = .ok (.bool false) w := fun w => by kernel_rfl
  rw [run_lookup_int (P := Try.prog) Try.underlying42 Try.underlying3 hz h1 h2 n false, h3, hn]
  by_cases hh : 1 ≤ n ∧ n ≤ (m : Int) <;> simp [hh]

theorem sorted_not {l : List Int} (h : l.Pairwise (· < ·)) {j : Nat} {y : Int} (hy : l[j]? = some y) : y ∉ l.take j := by
  intro hm
  obtain ⟨i, hi⟩ := List.getElem?_of_mem hm
  have hil : i < j := by
    rcases Nat.lt_or_ge i j with h | h
    · exact h
    · rw [List.getElem?_take_eq_none h] at hi; cases hi
  rw [List.getElem?_take_of_lt hil] at hi
  have hjl : j < l.length := (List.getElem?_eq_some_iff.1 hy).1
  have h1 := List.pairwise_iff_getElem.1 h i j (by omega) hjl hil
  rw [List.getElem?_eq_getElem (by omega)] at hi
  rw [List.getElem?_eq_getElem hjl] at hy
  simp only [Option.some.injEq] at hi hy
  omega

theorem sorted_lt {l : List Int} (h : l.Pairwise (· < ·)) {j : Nat} {y z : Int} (hy : l[j + 1]? = some y) (hz : l[j]? = some z) : z < y := by
  have hjl : j + 1 < l.length := (List.getElem?_eq_some_iff.1 hy).1
  have h1 := List.pairwise_iff_getElem.1 h j (j + 1) (by omega) hjl (by omega)
  rw [List.getElem?_eq_getElem (by omega)] at hz
  rw [List.getElem?_eq_getElem hjl] at hy
  simp only [Option.some.injEq] at hz hy
  omega

theorem told_len {A : AG} {l : List Int} (h : A.Told l) (hv : A.Valid) : l.length ≤ A.O.length := by
  refine nodup_len _ _ (h.sorted.imp (fun h e => by omega)) (fun x hx => hv.reached ((h.mem x).1 hx))

theorem take_snoc {l : List Int} {j : Nat} {y : Int} (hy : l[j]? = some y) : l.take (j + 1) = l.take j ++ [y] := by
  rw [List.take_add_one, hy]; rfl

/-- The map of what is gone, while it turns. -/
def GoneMid (w : World) (b : Nat) (f f0 : Int → Bool) (q m : Nat) : Prop :=
  ∃ es c kv, w.heap[b]? = some (.map es c) ∧ MapKV es kv ∧ ∀ n, lk kv n = if 1 ≤ n ∧ n < q then some (.bool (f n)) else if 1 ≤ n ∧ n ≤ m then some (.bool (f0 n)) else none

theorem GoneAt.mid {w : World} {b m : Nat} {f0 : Int → Bool} (h : GoneAt w b f0 m) (f : Int → Bool) : GoneMid w b f f0 1 m := by
  obtain ⟨es, c, kv, h1, h2, h3⟩ := h
  refine ⟨es, c, kv, h1, h2, fun n => ?_⟩
  rw [h3, if_neg (c := 1 ≤ n ∧ n < ((1 : Nat) : Int)) (by omega)]

theorem GoneMid.at {w : World} {b m q : Nat} {f f0 : Int → Bool} (h : GoneMid w b f f0 (q + 1) m) (hm : m ≤ q) : GoneAt w b f q := by
  obtain ⟨es, c, kv, h1, h2, h3⟩ := h
  refine ⟨es, c, kv, h1, h2, fun n => ?_⟩
  rw [h3]
  by_cases hn : 1 ≤ n ∧ n ≤ (q : Int)
  · rw [if_pos (by omega), if_pos hn]
  · rw [if_neg (by omega), if_neg (by omega), if_neg hn]

theorem lk_put (l : List (Int × Value)) (k : Int) (v : Value) (i : Int) : lk (put l k v) i = if i = k then some v else lk l i := by
  induction l with
  | nil =>
    unfold put lk
    by_cases h : i = k
    · subst h; simp
    · have : (k == i) = false := by simpa using fun e => h e.symm
      simp [this, h]
  | cons p l ih =>
    unfold put
    by_cases hp : p.1 = k
    · rw [if_pos hp]
      unfold lk
      by_cases h : i = k
      · subst h; simp
      · have h1 : (k == i) = false := by simpa using fun e => h e.symm
        have h2 : (p.1 == i) = false := by rw [hp]; exact h1
        simp [h1, h2, h]
    · rw [if_neg hp]
      unfold lk at ih ⊢
      by_cases hpi : p.1 = i
      · subst hpi
        simp [hp]
      · have h2 : (p.1 == i) = false := by simpa using hpi
        simp only [List.find?_cons, h2, ih]

theorem mid_step {kv : List (Int × Value)} {l : List Int} {q m m' : Nat} {f0 : Int → Bool} {B : Bool} (h : ∀ n, lk kv n = if 1 ≤ n ∧ n < q then some (.bool (goneB l m' n)) else if 1 ≤ n ∧ n ≤ m then some (.bool (f0 n)) else none)
    (h1 : 1 ≤ q) (h2 : q ≤ m') (hB : decide ((q : Int) ∈ l) = B) :
    ∀ n, lk (put kv q (.bool (!B))) n = if 1 ≤ n ∧ n < ((q + 1 : Nat) : Int) then some (.bool (goneB l m' n)) else if 1 ≤ n ∧ n ≤ m then some (.bool (f0 n)) else none := by
  intro n
  rw [lk_put, h]
  by_cases hn : n = q
  · subst hn
    have e1 : (1 : Int) ≤ q := by omega
    have e2 : (q : Int) ≤ m' := by omega
    rw [if_pos rfl, if_pos (by omega)]
    simp [goneB, e1, e2, hB]
  · rw [if_neg hn]
    by_cases hq : 1 ≤ n ∧ n < (q : Int)
    · rw [if_pos hq, if_pos (by omega)]
    · rw [if_neg hq, if_neg (c := 1 ≤ n ∧ n < ((q + 1 : Nat) : Int)) (by omega)]

/-- An act's cells, as the walk meets them. -/
structure FieldsAt (W : World) (p : Addr) (x : AA) : Prop where
  f0 : W.cell? p = some (.int .u8 x.d)
  f1 : W.cell? ⟨p.block, p.off + 1, none⟩ = some (I x.t)
  f2 : W.cell? ⟨p.block, p.off + 2, none⟩ = some (I x.a)
  f3 : W.cell? ⟨p.block, p.off + 3, none⟩ = some (I x.b)
  f4 : W.cell? ⟨p.block, p.off + 4, none⟩ = some (I x.c)
  f5 : W.cell? ⟨p.block, p.off + 5, none⟩ = some (U x.v)

theorem fields_at {w W : World} {ad : Addr} {k : Nat} {x : AA} (hlt : ad.block < w.heap.size) (h : ∀ j u, x.cells[j]? = some u → w.cell? (ad.add (k * 6 + j)) = some u) (hn : New w W) : FieldsAt W (ad.add (k * 6)) x := by
  have key : ∀ j u, x.cells[j]? = some u → W.cell? ((ad.add (k * 6)).add j) = some u := by
    intro j u hj
    rw [Go.Deep.add_add]
    exact (hn.below.cell (by rw [add_block]; exact hlt)).trans (h j u hj)
  exact ⟨key 0 (.int .u8 x.d) rfl, key 1 (I x.t) rfl, key 2 (I x.a) rfl, key 3 (I x.b) rfl, key 4 (I x.c) rfl, key 5 (U x.v) rfl⟩

set_option maxHeartbeats 8000000 in
set_option maxRecDepth 100000 in
theorem graphGone_walk (t : Nat) (v : Value) (l : List AA) (w : World) (h1 : 1 ≤ t) (h2 : t ≤ 8) (hl : ActsAt w v l) (h150 : l.length ≤ 150) :
    Calls Try.prog 4 #[.int .u8 t, v] w fun e w' => e = .returned (.bool true) ∧ New w w' := by
  obtain ⟨ao, cap, rfl, hcap, hno, hcell, hw⟩ := hl
  have hmm := @run_makeMap Try.prog
  have c0' : Calls Try.prog 8 #[I t, I 4, I 2] w fun e w' => ∃ g, e = .returned (.tuple #[Pt g, I 0]) ∧ Mine w w' g (AG.fresh t 4 2) := mine_New t 4 2 w h1 (by omega) (by omega) (by omega) (by omega)
  have c0 := Lib.hid c0'
  clear c0'
  have h150' : (l.length : Int) ≤ 150 := by omega
  go_enter Try.func4, Try.ntmps4
  go_wp2_with (go_at_call 8; (with_reducible refine c0.out.mono ?_); rintro e w1 ⟨g, rfl, m0⟩)
  have hb1 := m0.new.size
  have hm1 : GoneAt (w1.alloc (.map #[] 0)) w1.heap.size (goneB [] 0) 0 := ⟨#[], 0, [], heap_alloc_new _ _, rfl, fun n => by simp [lk]; omega⟩
  have m1 : MineX w (w1.alloc (.map #[] 0)) g (AG.fresh t 4 2) (· = w1.heap.size) := m0.beside (by rintro b rfl; exact Nat.le_refl _) ((Fr.refl _ _).alloc _)
  have hs1 : w1.heap.size < (w1.alloc (.map #[] 0)).heap.size := by simp
  generalize (w1.alloc (.map #[] 0)) = w2 at hm1 m1 hs1
  generalize w1.heap.size = gb at hb1 hm1 hs1 m1
  have HV := Lib.hid (And.intro (fresh_valid t 4 2) (And.intro (fresh_small t 4 2 (by omega) (by omega) (by omega)) (fresh_told t 4 2)))
  have HC := Lib.hid (And.intro hcell hw)
  clear hmm m0 hcell hw
  go_loopw [7, 9] (fun mv iv W => ∃ (k : Nat) (A : AG) (L : List Int), k ≤ l.length ∧ iv = I k ∧ mv = I A.O.length ∧ A.O.length ≤ k ∧ A.Valid ∧ A.Small ∧ A.Told L ∧ MineX w W g A (· = gb) ∧ GoneAt W gb (goneB L A.O.length) A.O.length) (fun _ iv _ => l.length - (intOf iv).toNat)
  case atStart => exact ⟨0, _, [], by omega, rfl, rfl, by simp [AG.fresh], HV.out.1, HV.out.2.1, HV.out.2.2, m1, hm1⟩
  case round =>
    obtain ⟨k, A, L, hk, rfl, rfl, hAk, hv, hs, hT, hm, hg⟩ := hrel
    have HA := Lib.hid (And.intro hv (And.intro hs hT))
    clear hv hs hT
    by_cases hlt : k < l.length
    · have hlt' : (k : Int) < l.length := by omega
      obtain ⟨ad, rfl⟩ : ∃ ad, ao = some ad := by
        cases ao with
        | none => have := hno rfl; subst this; simp at hlt
        | some ad => exact ⟨ad, rfl⟩
      obtain ⟨x, hx⟩ : ∃ x, l[k]? = some x := ⟨_, List.getElem?_eq_getElem hlt⟩
      have hxv := HC.out.2 x (List.mem_of_getElem? hx)
      obtain ⟨hadl, hcl⟩ := HC.out.1 ad rfl k x hx
      have hF : ∀ W, New w W → FieldsAt W (ad.add (k * 6)) x := fun W hW => fields_at hadl hcl hW
      have HD := Lib.hid (And.intro hx (And.intro hxv hF))
      have hFr := hF _ hm.new
      obtain ⟨hf0, hf1, hf2, hf3, hf4, hf5⟩ := hFr
      clear hx hxv hcl hF
      have hgbl : ∀ b, b = gb → b < wr.heap.size := by
        rintro b rfl
        obtain ⟨es, c, kv, h1, _⟩ := hg
        exact lt_of_block h1
      have cD := Lib.hid (minex_does hm hgbl HA.out.1 HA.out.2.1 x)
      have hgood := act_good HA.out.1 x HD.out.2.1
      go_upto_region 12 with (go_at_call 11; (with_reducible refine cD.out.mono ?_); rintro e w3 ⟨rfl, hm3, hfr3⟩)
      have hg3 := hg.fr hfr3 (fun h => h rfl)
      clear hfr3 hm hg
      have hf3 := (HD.out.2.2 _ hm3.new).f0
      have hmade := act_made HA.out.1 x HD.out.2.1
      have hloads := act_loads HA.out.1 x HA.out.2.2
      generalize (A.act x).2.1 = n at hmade hloads
      generalize (A.act x).2.2 = e at hmade
      generalize hA' : (A.act x).1 = A' at hmade hm3 hgood
      have HM := Lib.hid (And.intro hmade (And.intro hloads (And.intro hgood hA')))
      clear hmade hloads hgood hA'
      go_cut [66] (fun s66 wx => s66 = .bool (x.d == 0 && e == 0) ∧ wx = w3)
      case first =>
        by_cases hd0 : x.d = 0
        · go_wp2_with fail
          go_meet
          case rel => exact ⟨by simp [hd0], rfl⟩
        · go_wp2_with fail
          go_meet
          case rel => exact ⟨by simp [hd0], rfl⟩
      case rest =>
        obtain ⟨rfl, rfl⟩ := hcut
        generalize hB : (x.d == 0 && e == 0) = B
        have HB := Lib.hid hB
        clear hB
        go_upto_if 66 with fail
        go_cut [7] (fun s7 wx => s7 = I A'.O.length ∧ wx = wc)
        case first =>
          cases B with
          | true =>
            have hB := HB.out
            simp only [Bool.and_eq_true, beq_iff_eq] at hB
            obtain ⟨hn1, hlen⟩ := HM.out.1.1 hB.1 hB.2
            have hlen' : ((A'.O.length : Nat) : Int) = A.O.length + 1 := by omega
            have HL := Lib.hid hlen'
            have hA150 : (A.O.length : Int) ≤ 150 := by omega
            subst hn1
            clear hlen hlen' hB
            go_wp2_with fail
            go_meet
            case rel => exact ⟨by rw [HL.out], rfl⟩
          | false =>
            have hB := HB.out
            have hlen := HM.out.1.2 (fun h => by simp [h.1, h.2] at hB)
            have HL := Lib.hid hlen
            clear hlen hB
            go_wp2_with fail
            go_meet
            case rel => exact ⟨by rw [HL.out], rfl⟩
        case rest =>
          obtain ⟨rfl, rfl⟩ := hcut
          go_upto_region 16 with fail
          go_cut [12] (fun s12 wx => s12 = .bool (x.d == 1 || x.d == 5) ∧ wx = wc)
          case first =>
            by_cases hd1 : x.d = 1
            · go_wp2_with fail
              go_meet
              case rel => exact ⟨by simp [hd1], rfl⟩
            · go_wp2_with fail
              go_meet
              case rel => exact ⟨by simp [hd1], rfl⟩
          case rest =>
            obtain ⟨rfl, rfl⟩ := hcut
            go_upto_region 17 with fail
            generalize hB : (x.d == 1 || x.d == 5) = B2
            have HB2 := Lib.hid hB
            clear hB
            go_cut [103] (fun s103 wx => s103 = .bool false ∧ wx = wc)
            case first =>
              cases B2 with
              | false =>
                go_wp2_with fail
                go_meet
                case rel => exact ⟨rfl, rfl⟩
              | true =>
                by_cases he0 : e = 0
                · have hB := HB2.out
                  simp only [Bool.or_eq_true, beq_iff_eq] at hB
                  obtain ⟨hg0, hn1, hn2⟩ := HM.out.2.1 hB
                  have hlk := goneAt_look hg3 n hg0
                  have hA'len := HM.out.2.2.1.2.2
                  have hmono : (A.O.length : Int) ≤ A'.O.length := by
                    by_cases hd : x.d = 0 ∧ e = 0
                    · have := (HM.out.1.1 hd.1 hd.2).2; omega
                    · have := HM.out.1.2 hd; omega
                  have hn3 : n ≤ A'.O.length := by omega
                  have hn4 : (A'.O.length : Int) ≤ 1000 := by
                    have := HA.out.2.1.objs; omega
                  have q2 : (e == 0) = true := by simpa using he0
                  clear hB hg0 hn1 hA'len hmono he0
                  go_wp2_with fail
                  go_meet
                  case rel => exact ⟨by simp; omega, rfl⟩
                · have q2 : (e == 0) = false := by simpa using he0
                  clear he0
                  go_wp2_with fail
                  go_meet
                  case rel => exact ⟨rfl, rfl⟩
            case rest =>
              obtain ⟨rfl, rfl⟩ := hcut
              have hgood := HM.out.2.2.1.1
              have hO2 := HM.out.2.2.1.2.2
              have hs' := hgood.small HA.out.2.1 (by omega)
              have cR := Lib.hid (minex_Reach hm3 hgood.valid hs')
              have hA'150 : (A'.O.length : Int) ≤ 151 := by omega
              have HG := Lib.hid (And.intro hgood hs')
              have hmm := @run_makeMap Try.prog
              clear hgood hs' hO2
              go_wp2_with (go_at_call 13; (with_reducible refine cR.out.mono ?_); rintro e4 w4 ⟨v4, l4, rfl, hT4, hown4, hm4, hn4⟩)
              have hg4 := hg3.fr hn4 (fun x => x)
              have hgb4 : gb < w4.heap.size := by obtain ⟨es, c, kv, h1, _⟩ := hg4; exact lt_of_block h1
              have hx5 : New w4 (w4.alloc (.map #[] 0)) := (Fr.refl _ _).alloc _
              have hg5 := hg4.fr hx5 (fun x => x)
              have hm5 := hm4.onNew hx5
              have hown5 := hown4.alloc (.map #[] 0)
              have hseen5 := SeenAt.new w4
              have hib : w.heap.size ≤ w4.heap.size := hm4.new.size
              have hap5 := hseen5.apart hown5
              generalize w4.alloc (.map #[] 0) = w5 at hx5 hg5 hm5 hown5 hseen5 hap5
              have hx45 : ∀ W F, Fr F w5 W → Fr F w4 W := fun W F h => (hx5.to F).trans h
              generalize hibe : w4.heap.size = ib at hgb4 hseen5 hib hap5
              have HX := Lib.hid (And.intro hm4 (And.intro hx45 hibe))
              clear hx45 hibe
              have HT := Lib.hid hT4
              clear hT4 hown4 hm4 hn4 hg4 hg3 hm3 hx5 hmm
              go_loopw [15] (fun iv W => ∃ j : Nat, j ≤ l4.length ∧ iv = I j ∧ SeenAt W ib (l4.take j) ∧ Fr (· = ib) w5 W) (fun iv _ => l4.length - (intOf iv).toNat)
              case atStart => exact ⟨0, by omega, rfl, hseen5, Fr.refl _ _⟩
              case round =>
                obtain ⟨j, hj, rfl, hseen, hfr⟩ := hrel
                by_cases hjl : j < l4.length
                · have hjl' : (j : Int) < l4.length := by omega
                  obtain ⟨y, hy⟩ : ∃ y, l4[j]? = some y := ⟨_, List.getElem?_eq_getElem hjl⟩
                  have hyl := act_all HA.out.1 x HD.out.2.1 HA.out.2.2 (HM.out.2.2.2 ▸ HT.out) (List.mem_of_getElem? hy)
                  rw [HM.out.2.2.2] at hyl
                  obtain ⟨hy0, hy1, hy2⟩ := hyl
                  have hnot := sorted_not HT.out.sorted hy
                  have htake := take_snoc hy
                  obtain ⟨b, cap4, rfl⟩ := own_shape hown5 (by omega)
                  have hownr := ownsRow_fr hown5 hfr (fun b e x => hap5 (x ▸ e))
                  have hgr := hg5.fr hfr (by omega)
                  have hlk := goneAt_look hgr y hy0
                  have hlkd := goneAt_look (w := wr.drew) hgr y hy0
                  have hc := hownr.cellAt j (by omega)
                  rw [List.getElem?_map, hy] at hc
                  simp only [Option.map_some] at hc
                  have HY := Lib.hid (And.intro hy (And.intro hy0 (And.intro hnot (And.intro htake hownr))))
                  have qy1 : decide (y < 1) = false := by simpa using hy1
                  have qy2 : decide ((A'.O.length : Int) < y) = false := by simpa using hy2
                  clear hy hy0 hnot htake hownr hgr hjl hy1 hy2
                  cases j with
                  | zero =>
                    go_upto_region 24 with fail
                    go_big_region
                    go_wp2_with (at_mapUpdate; (refine wpList_seen_fr rfl (.tmp 150) (.tmp 154) (.const Bt) 42 3 4 rfl Try.underlying42 Try.underlying3 ib (l4.take 0) rfl hseen y HY.out.2.2.1 rfl rfl ?_); intro w6 hseen6 hfr6)
                    go_roundw
                    case rel => exact ⟨1, by omega, rfl, by rw [HY.out.2.2.2.1]; exact hseen6, hfr.trans (Fr.ofDrew hfr6)⟩
                    case measure => simp [intOf]; omega
                  | succ m =>
                    obtain ⟨z, hz⟩ : ∃ z, l4[m]? = some z := ⟨_, List.getElem?_eq_getElem (by omega)⟩
                    have hzy := sorted_lt HT.out.sorted HY.out.1 hz
                    have qz : decide (y ≤ z) = false := by simpa using hzy
                    have hcz := HY.out.2.2.2.2.cellAt m (by omega)
                    rw [List.getElem?_map, hz] at hcz
                    simp only [Option.map_some] at hcz
                    have hm1000 : ((m + 1 : Nat) : Int) < 1000000 := by
                      have := HG.out.2.objs
                      have h2 := told_len HT.out HG.out.1.valid
                      omega
                    have hcz' : wr.cell? ⟨b, (((m + 1 : Nat) : Int) - 1).toNat, none⟩ = some (I z) := by
                      rw [show (((m + 1 : Nat) : Int) - 1).toNat = m from by omega]; exact hcz
                    have hcz2 : wr.cell? ⟨b, (m + 1) - 1, none⟩ = some (I z) := hcz
                    have hseen' : SeenAt wr ib (l4.take (m + 1)) := hseen
                    have hj1 : 1 ≤ m + 1 := by omega
                    clear hz hzy hcz hseen
                    generalize hjm : m + 1 = j at *
                    have HJ := Lib.hid hjm
                    clear hjm
                    have qj : decide (0 < (j : Int)) = true := by simp; omega
                    have hj1' : 1 ≤ (j : Int) := by omega
                    have qj' : decide (0 < j) = true := by simp; omega
                    go_upto_region 24 with fail
                    go_big_region
                    go_wp2_with (at_mapUpdate; (refine wpList_seen_fr rfl (.tmp 150) (.tmp 154) (.const Bt) 42 3 4 rfl Try.underlying42 Try.underlying3 ib (l4.take j) rfl hseen' y HY.out.2.2.1 rfl rfl ?_); intro w6 hseen6 hfr6)
                    go_roundw
                    case rel => exact ⟨j + 1, by omega, by go_num, by rw [HY.out.2.2.2.1]; exact hseen6, hfr.trans (Fr.ofDrew hfr6)⟩
                    case measure => simp [intOf]; omega
                · have hjj : j = l4.length := by omega
                  subst hjj
                  have htk : l4.take l4.length = l4 := List.take_length
                  rw [htk] at hseen
                  have hlen0 : lenOf v4 = l4.length := own_len hown5
                  have hgr := hg5.fr hfr (by omega)
                  obtain ⟨ao4, cap4, rfl⟩ : ∃ ao cap, v4 = .slice ao l4.length cap := by
                    rcases hown5.2 with ⟨rfl, h0⟩ | ⟨b, cap, cur, rfl, _⟩
                    · exact ⟨none, 0, by rw [h0]⟩
                    · exact ⟨_, cap, rfl⟩
                  have hle : (l4.length : Int) ≤ l4.length := Int.le_refl _
                  clear hown5 hlen0 htk
                  go_wp2_with fail
                  have hz4 : ∀ w, (zeroValue 4).run Try.prog w = .ok (.bool false) w := fun w => by kernel_rfl
                  go_loopw [16] (fun iv W => ∃ q : Nat, 1 ≤ q ∧ q ≤ A'.O.length + 1 ∧ iv = I q ∧ GoneMid W gb (goneB l4 A'.O.length) (goneB L A.O.length) q A.O.length ∧ Fr (· = gb) wr W) (fun iv _ => A'.O.length + 1 - (intOf iv).toNat)
                  case atStart => exact ⟨1, by omega, by omega, rfl, hgr.mid _, Fr.refl _ _⟩
                  case round =>
                    obtain ⟨q, hq1, hq2, rfl, hmid, hfrq⟩ := hrel
                    by_cases hql : q ≤ A'.O.length
                    · have hql' : (q : Int) ≤ A'.O.length := by omega
                      have hsq := hseen.fr hfrq (by omega)
                      have hlk := hsq.look (P := Try.prog) Try.underlying42 Try.underlying3 hz4 q
                      generalize hB3 : decide ((q : Int) ∈ l4) = B3 at hlk
                      have HB3 := Lib.hid hB3
                      obtain ⟨es, c, kv, hb1, hb2, hb3⟩ := hmid
                      have HM3 := Lib.hid hb3
                      clear hb3 hB3 hsq
                      go_wp2_with (at_mapUpdate; (refine wpList_mapUpdate_fr rfl (.tmp 160) (.tmp 161) (.tmp 165) 42 3 4 rfl Try.underlying42 Try.underlying3 gb es c kv rfl hb1 hb2 q (.bool (!B3)) rfl rfl ?_); intro w7 es7 c7 hb7 hkv7 hfr7)
                      go_roundw
                      case rel => exact ⟨q + 1, by omega, by omega, by go_num, ⟨es7, c7, _, hb7, hkv7, mid_step HM3.out hq1 hql HB3.out⟩, hfrq.trans hfr7⟩
                      case measure => simp [intOf]; omega
                    · have hqq : q = A'.O.length + 1 := by omega
                      subst hqq
                      have hql' : (A'.O.length : Int) < ((A'.O.length + 1 : Nat) : Int) := by omega
                      go_wp2_with fail
                      have hfx : Fr (fun b => b = ib ∨ b = gb) w5 wr := hfr.trans' hfrq (fun _ _ x => .inl x) (fun _ _ x => .inr x)
                      have hm7 : MineX w wr g A' (· = gb) := HX.out.1.past (HX.out.2.1 _ _ hfx) (fun b x => by
                        rcases x with x | x
                        · exact .inr (by have := HX.out.2.2; omega)
                        · exact .inl x) (fun b x => by subst x; exact hb1)
                      have hle' : A.O.length ≤ A'.O.length := by
                        by_cases hd : x.d = 0 ∧ e = 0
                        · have := (HM.out.1.1 hd.1 hd.2).2; omega
                        · have := HM.out.1.2 hd; omega
                      have hO2 := HM.out.2.2.1.2.2
                      exact ⟨⟨k + 1, A', l4, by omega, by go_num, rfl, by omega, HG.out.1.valid, HG.out.2, HT.out, hm7, hmid.at hle'⟩, by simp [intOf]; omega⟩
    · have hkk : k = l.length := by omega
      subst hkk
      have hle : (l.length : Int) ≤ l.length := Int.le_refl _
      go_wp2_with (go_at_call 7; (with_reducible refine (wakes_call _).mono ?_); rintro e w9 ⟨rfl, n9⟩)
      go_ret
      exact ⟨rfl, Fr.trans hm.new n9⟩
end Go.Proofs.Ytnhombeagbhccaa
