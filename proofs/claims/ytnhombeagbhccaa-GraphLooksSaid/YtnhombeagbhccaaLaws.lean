/- Laws on single operations, over whatever program: make, append, copy, look-ups and stores in maps keyed by int. -/
import Derived.Test.YtnhombeagbhccaaCore
import Derived.StillTailTactics
import Derived.Laws.CopyOwn
import Derived.Laws.AppendOwnNone
namespace Go.Proofs.Ytnhombeagbhccaa
open Go.RowKit

section
variable {P : Program}

theorem madeCells_one (z : Value) (hz : z.cells = #[z]) (n : Nat) : madeCells z.cells (n * 1) = Array.replicate n z := by
  rw [hz]
  apply Array.ext
  · simp [madeCells]
  · intro i h1 h2
    simp [madeCells, Nat.mod_one]

/-- make([]T, n), T of one cell. -/
theorem run_mk {t e : TypeId} {z : Value} {by_ : Nat} (ht : P.underlying t = some (.slice e)) (hi : (P.info? e).map (fun i => (i.zero, i.size, i.bytes)) = some (some z, 1, by_)) (hz : z.cells = #[z])
    (n : Int) (h0 : 0 ≤ n) (hn : n ≤ 1000000) (hb : by_ ≤ 64) (w : World) :
    (Instr.makeSlice t (I n) (I n)).run P w = .ok (.slice (some ⟨w.heap.size, 0, none⟩) n.toNat n.toNat) (w.alloc (.cells (Array.replicate n.toNat z) e)) := by
  obtain ⟨i, hi, h1, h2, h3⟩ := info_parts hi
  have hm : (i.bytes : Int) * n ≤ 64 * 1000000 := by
    rw [h3]
    have : (by_ : Int) ≤ 64 := by omega
    exact Int.le_trans (Int.mul_le_mul_of_nonneg_right this h0) (by omega)
  rw [run_make w t e i z ht hi h1 .i64 .i64 n n h0 (Int.le_refl _) (Int.le_trans hm (by decide)) (by omega), h2, madeCells_one z hz]

theorem wpList_mk_fr {w : World} {ops : Array Oper} {rest : List Oper} {o : Oper} {a : Act} {Q : Exit → Act → World → Prop} (hgd : o.guard = none) (l c : Operand) (t : TypeId)
    (hop : o.op = Op.makeSlice t l c) {e : TypeId} {z : Value} {by_ : Nat} (ht : P.underlying t = some (.slice e)) (hi : (P.info? e).map (fun i => (i.zero, i.size, i.bytes)) = some (some z, 1, by_)) (hz : z.cells = #[z])
    (n : Int) (hl : a.eval l = I n) (hc : a.eval c = I n) (h0 : 0 ≤ n) (hn : n ≤ 1000000) (hb : by_ ≤ 64)
    (h : ∀ w', w'.heap[w.heap.size]? = some (.cells (List.replicate n.toNat z).toArray e (0, 0)) → New w w' → w'.heap.size = w.heap.size + 1 → wpList P ops Q rest (a.put o.dst (.slice (some ⟨w.heap.size, 0, none⟩) n.toNat n.toNat)) w') :
    wpList P ops Q (o :: rest) a w := by
  refine wpList_plain hgd fun K' hK' => ?_
  have hrun := run_mk (P := P) ht hi hz n h0 hn hb w
  unfold Oper.wp
  simp [execOp, hop, hl, hc, hrun, Result.andThen]
  exact hK' _ _ (h _ (by rw [heap_alloc_new]; simp) ((Fr.refl _ _).alloc _) (by simp))

theorem wpList_copy_fr {w : World} {ops : Array Oper} {rest : List Oper} {o : Oper} {a : Act} {Q : Exit → Act → World → Prop} (hgd : o.guard = none) (d s : Operand) (dT sT : TypeId)
    (ho : o.op = .call { callee := .builtin .copy, args := #[d, s], argTypes := #[dT, sT] }) (elem : TypeId) (hu : P.underlying dT = some (.slice elem)) (hsz : (P.info? elem).map (·.size) = some 1)
    (dp sp : Option Addr) (dLen dCap sLen sCap : Nat) (hd : a.eval d = .slice dp dLen dCap) (hs : a.eval s = .slice sp sLen sCap)
    (g off : Nat) (cur : List Value) (t : TypeId) (hg : w.heap[g]? = some (.cells cur.toArray t (0, 0))) (cs : List Value) (hn : cs.length = Nat.min sLen dLen)
    (hpos : 0 < cs.length → dp = some ⟨g, off, none⟩ ∧ ∃ ad, sp = some ad ∧ ∀ j v, cs[j]? = some v → w.cell? (ad.add j) = some v)
    (hfit : off + cs.length ≤ cur.length) (h1 : ∀ v ∈ cs, v.oneCell' = true)
    (h : ∀ w', w'.heap[g]? = some (.cells (splice cur off cs).toArray t (0, 0)) → Fr (· = g) w w' → wpList P ops Q rest (a.put o.dst (goInt cs.length)) w') :
    wpList P ops Q (o :: rest) a w := by
  by_cases h0 : cs.length = 0
  · obtain rfl : cs = [] := List.eq_nil_of_length_eq_zero h0
    refine wpList_copy_nothing hgd d s dT sT ho elem hu hsz dp sp dLen dCap sLen sCap hd hs (by simpa using hn.symm) ?_
    exact h w (by simpa [splice] using hg) (Fr.refl _ _)
  · obtain ⟨rfl, ad, rfl, hsrc⟩ := hpos (by omega)
    refine wpList_copy_own hgd d s dT sT ho elem hu hsz g off dLen dCap ad sLen sCap hd hs cur.toArray t hg cs hn hsrc (by simpa using hfit) h1 ?_
    refine h _ ?_ ⟨rfl, rfl, rfl, by simp [World.setRow], fun k hk hne => ?_⟩
    · simpa [splice] using setRow_heap w g _ _ t _ hg
    · simp only [World.setRow, Array.getElem?_modify]
      rw [if_neg (by omega)]

theorem Fr.ofGrown {w w' : World} {row : Option Nat} (h : w.grownBy w' row) : Fr (fun k => row = some k) w w' :=
  ⟨h.os, h.tape, h.output, h.size, fun k hk hne => h.block k hk (fun e => hne e.symm)⟩

/-- append(s, x...): s nil or owned; x nil, or at an address. -/
theorem wpList_append_fr {w : World} {ops : Array Oper} {rest : List Oper} {o : Oper} {a : Act} {Q : Exit → Act → World → Prop} (hgd : o.guard = none) (s x : Operand) (t : TypeId)
    (ho : o.op = .call { callee := .builtin .append, args := #[s, x], argTypes := #[t, t] })
    (e : TypeId) (z : Value) (size bytes : Nat) (ht : P.underlying t = some (.slice e)) (hi : (P.info? e).map (fun i => (i.zero, i.size, i.bytes)) = some (some z, size, bytes))
    (hzs : z.cells.size = size) (hsz : 0 < size) (hby : bytes ≤ 64)
    (base : Nat) (v : Value) (n : Nat) (xs : List Value) (hs : a.eval s = v) (hown : w.ownsRow base e size v n xs)
    (ao : Option Addr) (m c : Nat) (news : List Value) (hx : a.eval x = .slice ao m c) (hl : news.length = m * size) (hnone : ao = none → m = 0 ∧ c = 0)
    (hnews : ∀ ad, ao = some ad → ∀ j u, news[j]? = some u → w.cell? (ad.add j) = some u) (h1 : ∀ u ∈ news, u.oneCell' = true)
    (hb : n + m ≤ 1000000) (hbase : base ≤ w.heap.size)
    (h : ∀ v' w', w'.ownsRow base e size v' (n + m) (xs ++ news) → Fr (fun k => v.ownBlock = some k) w w' → (v'.ownBlock = v.ownBlock ∨ v'.ownBlock = some w.heap.size) → wpList P ops Q rest (a.put o.dst v') w') :
    wpList P ops Q (o :: rest) a w := by
  obtain ⟨i, hi, h2, h3, h4⟩ := info_parts hi
  cases ao with
  | none =>
    obtain ⟨rfl, rfl⟩ := hnone rfl
    obtain rfl : news = [] := List.eq_nil_of_length_eq_zero (by simpa using hl)
    refine wpList_append_own_none hgd s x t ho base e i size ht hi v n xs hs hown hx ?_
    exact h v w (by simpa using hown) (Fr.refl _ _) (.inl rfl)
  | some ad =>
    have hbb : (n + m) * bytes ≤ 140737488355328 := Nat.le_trans (Nat.mul_le_mul hb hby) (by decide)
    refine wpList_append_own_at w hgd s x t ho base e i z size bytes ht hi h2 h3 h4 hzs hsz v n xs hs hown ad m c news hx hl (hnews ad rfl) h1 (Nat.le_trans hb (by decide)) hbb hbase ?_
    intro v' w' g1 g2 _ g4
    exact h v' w' g1 (Fr.ofGrown g2) g4

/-! ### Maps keyed by int -/

/-- The entries, in their order: keys and elements. -/
def MapKV (es : Array MapEntry) (l : List (Int × Value)) : Prop := es.toList.map (fun e => (e.key, e.val)) = l.map (fun p => (I p.1, p.2))

/-- What a map holds at a key. -/
def lk (l : List (Int × Value)) (k : Int) : Option Value := (l.find? (fun p => p.1 == k)).map (·.2)

theorem findNow_int : ∀ (es : List MapEntry) (l : List (Int × Value)) (k : Int) (i : Nat), es.map (fun e => (e.key, e.val)) = l.map (fun p => (I p.1, p.2)) →
    ∃ r, Instr.findNow (.int .i64) (I k) es i = some r ∧ ((lk l k = none ∧ r = none) ∨ ∃ j v, r = some (i + j, v) ∧ lk l k = some v ∧ j < es.length ∧ l[j]?.map (·.1) = some k ∧ ∀ j', j' < j → l[j']?.map (·.1) ≠ some k)
  | [], l, k, i, h => by
    have : l = [] := by simpa using h.symm
    subst this
    exact ⟨none, rfl, .inl ⟨rfl, rfl⟩⟩
  | e :: es, l, k, i, h => by
    cases l with
    | nil => simp at h
    | cons p l =>
      simp only [List.map_cons, List.cons.injEq, Prod.mk.injEq] at h
      obtain ⟨⟨hk, hv⟩, ht⟩ := h
      by_cases hp : k = p.1
      · subst hp
        exact ⟨some (i, e.val), by simp [Instr.findNow, Instr.sameNow, hk], .inr ⟨0, e.val, rfl, by simp [lk, hv], by simp, by simp, by simp⟩⟩
      · have hp' : (p.1 == k) = false := by simpa using fun e => hp e.symm
        have hp2 : (k == p.1) = false := by simpa using hp
        obtain ⟨r, hr, hh⟩ := findNow_int es l k (i + 1) ht
        refine ⟨r, by simp [Instr.findNow, Instr.sameNow, hk, hp2, hr], ?_⟩
        rcases hh with ⟨h1, h2⟩ | ⟨j, v, h1, h2, h3, h4, h5⟩
        · exact .inl ⟨by simp only [lk, List.find?_cons, hp'] at h1 ⊢; exact h1, h2⟩
        · refine .inr ⟨j + 1, v, by rw [h1]; congr 2; omega, by simp only [lk, List.find?_cons, hp'] at h2 ⊢; exact h2, by simp; omega, by simpa using h4, fun j' hj' => ?_⟩
          cases j' with
          | zero => simpa using fun e => hp e.symm
          | succ j' => simpa using h5 j' (by omega)

theorem run_checkKey_int {K : TypeId} (hK : P.underlying K = some (.int .i64)) (e : Bool) (n : Nat) (k : Int) (w : World) : (Instr.checkKey e (n + 1) K (I k)).run P w = .ok () w :=
  MapKept.run_checkKey hK (by simp [MapKept.IsKey]) e n

/-- m[k], m a map that is there. -/
theorem run_lookup_int {T K E : TypeId} {z : Value} (hT : P.underlying T = some (.map K E)) (hK : P.underlying K = some (.int .i64)) (hz : ∀ w, (zeroValue E).run P w = .ok z w)
    {w : World} {b : Nat} {es : Array MapEntry} {c : Nat} {l : List (Int × Value)} (hb : w.heap[b]? = some (.map es c)) (hkv : MapKV es l) (k : Int) (ok : Bool) :
    (Instr.lookup T (.map (some b)) (I k) ok).run P w = .ok (if ok then .tuple #[(lk l k).getD z, .bool (lk l k).isSome] else (lk l k).getD z) w := by
  obtain ⟨r, hr, hh⟩ := findNow_int es.toList l k 0 hkv
  have h1 := MapKept.run_findKey (P := P) (w := w) hK hr
  have h2 := run_checkKey_int (P := P) hK es.isEmpty 9999 k w
  rcases hh with ⟨ha, rfl⟩ | ⟨j, v, rfl, ha, _⟩
  · simp [Instr.lookup, run_underlying hT, getObj, Sem.run, hb, h2, h1, hz, ha, Result.andThen]
  · simp [Instr.lookup, run_underlying hT, getObj, Sem.run, hb, h2, h1, ha, Result.andThen]

/-- A block of the world becomes another one. -/
def setBlk (w : World) (b : Nat) (o : Obj) : World := { w with heap := w.heap.setIfInBounds b o }

theorem setBlk_same {w : World} {b : Nat} {o o' : Obj} (h : w.heap[b]? = some o) : (setBlk w b o').heap[b]? = some o' := by
  have := lt_of_block h
  simp [setBlk, this]
theorem cell?_setBlk {w : World} {b : Nat} {o : Obj} {a : Addr} (h : a.block ≠ b) : (setBlk w b o).cell? a = w.cell? a := by
  simp [World.cell?, setBlk, Ne.symm h]
theorem Fr.setBlk (w : World) (b : Nat) (o : Obj) : Fr (· = b) w (setBlk w b o) :=
  ⟨rfl, rfl, rfl, by simp [Ytnhombeagbhccaa.setBlk], fun k _ hne => by simp [Ytnhombeagbhccaa.setBlk, Ne.symm hne]⟩

/-- What a map's entries are behind a store. -/
def put (l : List (Int × Value)) (k : Int) (v : Value) : List (Int × Value) :=
  match l with
  | [] => [(k, v)]
  | p :: l => if p.1 = k then (k, v) :: l else p :: put l k v

theorem put_none {l : List (Int × Value)} {k : Int} {v : Value} (h : lk l k = none) : put l k v = l ++ [(k, v)] := by
  induction l with
  | nil => rfl
  | cons p l ih =>
    by_cases hp : p.1 = k
    · simp [lk, hp] at h
    · have hp' : (p.1 == k) = false := by simpa using hp
      simp only [lk, List.find?_cons, hp'] at h
      simp [put, hp, ih h]

theorem put_at {l : List (Int × Value)} {k : Int} {v : Value} : ∀ {j : Nat}, l[j]?.map (·.1) = some k → (∀ j', j' < j → l[j']?.map (·.1) ≠ some k) → put l k v = l.set j (k, v) := by
  induction l with
  | nil => intro j h; simp at h
  | cons p l ih =>
    intro j h h2
    cases j with
    | zero => simp at h; simp [put, h]
    | succ j =>
      have hp : p.1 ≠ k := by simpa using h2 0 (by omega)
      simp only [put, hp, if_false, List.set_cons_succ]
      rw [ih (by simpa using h) (fun j' hj' => by simpa using h2 (j' + 1) (by omega))]

/-- m[k] = v, m a map that is there. -/
theorem run_mapUpdate_int {T K E : TypeId} (hT : P.underlying T = some (.map K E)) (hK : P.underlying K = some (.int .i64))
    {w : World} {b : Nat} {es : Array MapEntry} {c : Nat} {l : List (Int × Value)} (hb : w.heap[b]? = some (.map es c)) (hkv : MapKV es l) (k : Int) (v : Value) :
    ∃ es' c', (Instr.mapUpdate T (.map (some b)) (I k) v).run P w = .ok () (setBlk w b (.map es' c')) ∧ MapKV es' (put l k v) ∧
      ((lk l k = none → es' = es.push { key := I k, val := v, born := c } ∧ c' = c + 1) ∧ (lk l k ≠ none → c' = c ∧ es'.map (·.born) = es.map (·.born))) := by
  obtain ⟨r, hr, hh⟩ := findNow_int es.toList l k 0 hkv
  have h1 := MapKept.run_findKey (P := P) (w := w) hK hr
  have h2 := run_checkKey_int (P := P) hK false 9999 k w
  rcases hh with ⟨ha, rfl⟩ | ⟨j, v', rfl, ha, hj, hjk, hjn⟩
  · refine ⟨es.push { key := I k, val := v, born := c }, c + 1, ?_, ?_, fun _ => ⟨rfl, rfl⟩, fun h => absurd ha h⟩
    · simp [Instr.mapUpdate, run_underlying hT, getObj, setObj, Sem.run, hb, h2, h1, Result.andThen, setBlk]
    · unfold MapKV at hkv ⊢
      rw [put_none ha]; simp [hkv]
  · have hkj : (((es[j]?).map (·.key)).getD (I k)) = I k := by
      have hlen : es.toList.length = l.length := by simpa using congrArg List.length hkv
      have := congrArg (fun x => x[j]?) hkv
      simp only [List.getElem?_map] at this
      have hjl : j < l.length := by omega
      have hje : j < es.size := by simpa using hj
      simp [hjl, hje] at this hjk ⊢
      rw [this.1, hjk]
    refine ⟨es.modify j fun e => { e with key := I k, val := v }, c, ?_, ?_, fun h => by simp [ha] at h, fun _ => ⟨rfl, ?_⟩⟩
    · simp only [Nat.zero_add] at *
      simp [Instr.mapUpdate, run_underlying hT, getObj, setObj, Sem.run, hb, h2, h1, Result.andThen, setBlk, hkj, Instr.keyThatStays, Instr.sameBits]
    · unfold MapKV at hkv ⊢
      rw [put_at hjk hjn]
      apply List.ext_getElem?
      intro x
      have := congrArg (fun y => y[x]?) hkv
      simp only [List.getElem?_map, Array.getElem?_toList, Array.getElem?_modify, List.getElem?_set] at this ⊢
      have hlen : es.toList.length = l.length := by simpa using congrArg List.length hkv
      have hjl : j < l.length := by omega
      have hje : j < es.size := by simpa using hj
      by_cases e : j = x
      · subst e; simp [hjl, hje]
      · simp [e]; simpa using this
    · apply Array.ext_getElem?
      intro x
      simp only [Array.getElem?_map, Array.getElem?_modify]
      by_cases e : j = x
      · subst e; simp only [if_true, Option.map_map]; rfl
      · simp [e]

theorem wpList_mapUpdate_fr {w : World} {ops : Array Oper} {rest : List Oper} {o : Oper} {a : Act} {Q : Exit → Act → World → Prop} (hgd : o.guard = none) (m x y : Operand) (T K E : TypeId)
    (hop : o.op = Op.mapUpdate T m x y) (hT : P.underlying T = some (.map K E)) (hK : P.underlying K = some (.int .i64))
    (b : Nat) (es : Array MapEntry) (c : Nat) (l : List (Int × Value)) (hm : a.eval m = .map (some b)) (hb : w.heap[b]? = some (.map es c)) (hkv : MapKV es l) (k : Int) (v : Value) (hx : a.eval x = I k) (hv : a.eval y = v)
    (h : ∀ w' es' c', w'.heap[b]? = some (.map es' c') → MapKV es' (put l k v) → Fr (· = b) w w' → wpList P ops Q rest (a.put o.dst undef) w') :
    wpList P ops Q (o :: rest) a w := by
  refine wpList_plain hgd fun K' hK' => ?_
  obtain ⟨es', c', hrun, h1, _⟩ := run_mapUpdate_int (P := P) hT hK hb hkv k v
  unfold Oper.wp
  simp [execOp, hop, hm, hx, hv, hrun, Result.andThen]
  exact hK' _ _ (h _ es' c' (setBlk_same hb) h1 (Fr.setBlk _ _ _))

/-- The same as one step of a region that draws its order. -/
theorem step_mapUpdate_fr {w : World} {ops : Array Oper} {o : Oper} {a : Act} {K' : Act → World → Prop} {Q : Exit → Act → World → Prop} {E' : Prop} (hgd : o.guard = none) (m x y : Operand) (T K E : TypeId)
    (hop : o.op = Op.mapUpdate T m x y) (hT : P.underlying T = some (.map K E)) (hK : P.underlying K = some (.int .i64))
    (b : Nat) (es : Array MapEntry) (c : Nat) (l : List (Int × Value)) (hm : a.eval m = .map (some b)) (hb : w.heap[b]? = some (.map es c)) (hkv : MapKV es l) (k : Int) (v : Value) (hx : a.eval x = I k) (hv : a.eval y = v)
    (h : ∀ w' es' c', w'.heap[b]? = some (.map es' c') → MapKV es' (put l k v) → Fr (· = b) w w' → K' (a.put o.dst undef) w') :
    if Region.wanted o (yielded ops a.tmps) = true then Oper.wp P o a w K' Q else E' := by
  have hw : Region.wanted o (yielded ops a.tmps) = true := by simp [Region.wanted, hgd]
  rw [if_pos hw]
  obtain ⟨es', c', hrun, h1, _⟩ := run_mapUpdate_int (P := P) hT hK hb hkv k v
  unfold Oper.wp
  simp [execOp, hop, hm, hx, hv, hrun, Result.andThen]
  exact h _ es' c' (setBlk_same hb) h1 (Fr.setBlk _ _ _)

/-- len(m). -/
theorem run_len_map {T K E ty : TypeId} (hT : P.underlying T = some (.map K E)) {w : World} {b : Nat} {es : Array MapEntry} {c : Nat} {l : List (Int × Value)} (hb : w.heap[b]? = some (.map es c)) (hkv : MapKV es l) :
    (Builtin.len_ #[T] ty #[.map (some b)]).run P w = .ok (I l.length) w := by
  have hlen : es.size = l.length := by simpa using congrArg List.length hkv
  simp [Builtin.len_, run_underlying hT, getObj, Sem.run, hb, Result.andThen, goInt, hlen]

/-- Where x[l:] begins. -/
def cutA (a : Option Addr) (l cap size : Nat) : Option Addr := if cap = l then a else a.map (·.add (l * size))

/-- x[l:], x a slice. -/
theorem run_sliceAt_from {t e : TypeId} (ht : P.underlying t = some (.slice e)) {size : Nat} (he : (P.info? e).map (·.size) = some size) (a : Option Addr) (len cap l : Nat) (h1 : l ≤ len) (h2 : len ≤ cap) (w : World) :
    (Instr.sliceAt t (.slice a len cap) (some (I l)) none none).run P w = .ok (.slice (cutA a l cap size) (len - l) (cap - l)) w := by
  obtain ⟨i, hi, hs⟩ : ∃ i, P.info? e = some i ∧ i.size = size := by
    cases hq : P.info? e with
    | none => simp [hq] at he
    | some i => exact ⟨i, rfl, by simpa [hq] using he⟩
  simp [Instr.sliceAt, Instr.slice, run_underlying ht, Instr.sliceBounds, Instr.sliceBound, asIntOf, sizeOf, typeInfo, hi, Result.andThen, h1, cutA, hs]

/-- x[:h], x a slice. -/
theorem run_sliceAt_to {t e : TypeId} (ht : P.underlying t = some (.slice e)) {size : Nat} (he : (P.info? e).map (·.size) = some size) (a : Option Addr) (len cap h : Nat) (h1 : h ≤ cap) (w : World) :
    (Instr.sliceAt t (.slice a len cap) none (some (I h)) none).run P w = .ok (.slice a h cap) w := by
  obtain ⟨i, hi, hs⟩ : ∃ i, P.info? e = some i ∧ i.size = size := by
    cases hq : P.info? e with
    | none => simp [hq] at he
    | some i => exact ⟨i, rfl, by simpa [hq] using he⟩
  have ha : a.map (fun x => x.add 0) = a := by cases a <;> simp [Addr.add]
  simp [Instr.sliceAt, Instr.slice, run_underlying ht, Instr.sliceBounds, Instr.sliceBound, asIntOf, sizeOf, typeInfo, hi, Result.andThen, h1, ha]

/-- a[:h], a an array behind a pointer, its elements of one cell. -/
theorem run_sliceAt_arr {t e : TypeId} {N : Nat} (ht : P.underlying t = some (.array N e)) (he : (P.info? e).map (·.size) = some 1) (a : Addr) (h : Nat) (hh : h ≤ N) (w : World) :
    (Instr.sliceAt t (.pointer (some a)) none (some (I h)) none).run P w = .ok (.slice (some a) h N) w := by
  have hb : (0 : Int) ≤ (h : Int) ∧ (h : Int) ≤ (N : Int) := by omega
  obtain ⟨i, hi, hs⟩ : ∃ i, P.info? e = some i ∧ i.size = 1 := by
    cases hq : P.info? e with
    | none => simp [hq] at he
    | some i => exact ⟨i, rfl, by simpa [hq] using he⟩
  have ha : a.add 0 = a := by simp [Addr.add]
  simp [Instr.sliceAt, run_underlying ht, Instr.sureAddr, Instr.sliceBounds, Instr.sliceBound, asIntOf, sizeOf, typeInfo, hi, Result.andThen, hh, ha]

end
end Go.Proofs.Ytnhombeagbhccaa
