/- A map that is a set of numbers: what it holds, and its keys, sorted. -/
import Derived.Test.YtnhombeagbhccaaLaws2
import Derived.Test.YtnhombeagbhccaaRoots2
import Derived.Test.YtnhombeagbhccaaShelfKeys
namespace Go.Proofs.Ytnhombeagbhccaa
open Go.RowKit Go.Maps Go.Sort Go.Shelf

abbrev Bt : Value := .bool true

/-- A map whose keys are S, each with true, as they came. -/
def SeenAt (w : World) (b : Nat) (S : List Int) : Prop :=
  ∃ es c, w.heap[b]? = some (.map es c) ∧ MapKept.Stamped es c ∧ MapKV es (S.map fun x => (x, Bt))

theorem lk_seen (S : List Int) (x : Int) : lk (S.map fun x => (x, Bt)) x = if x ∈ S then some Bt else none := by
  induction S with
  | nil => rfl
  | cons y S ih =>
    unfold lk at ih ⊢
    simp only [List.map_cons, List.find?_cons]
    by_cases h : y = x
    · subst h; simp
    · have h' : (y == x) = false := by simpa using h
      have h2 : ¬ x = y := fun e => h e.symm
      simp only [h', ih, List.mem_cons, h2, false_or]

theorem SeenAt.new (w : World) : SeenAt (w.alloc (.map #[] 0)) w.heap.size [] := ⟨#[], 0, heap_alloc_new _ _, MapKept.stamped_empty 0, rfl⟩
theorem SeenAt.fr {w w' : World} {F : Nat → Prop} {b : Nat} {S : List Int} (h : SeenAt w b S) (hf : Fr F w w') (hb : ¬ F b) : SeenAt w' b S := by
  obtain ⟨es, c, h1, h2, h3⟩ := h
  exact ⟨es, c, hf.blk h1 hb, h2, h3⟩
theorem SeenAt.lt {w : World} {b : Nat} {S : List Int} (h : SeenAt w b S) : b < w.heap.size := by
  obtain ⟨es, c, h1, _⟩ := h
  exact lt_of_block h1
theorem SeenAt.nodup {w : World} {b : Nat} {S : List Int} (h : SeenAt w b S) : S.Nodup := by
  obtain ⟨es, c, _, ⟨_, _, h2⟩, h3⟩ := h
  have e : es.toList.map (·.key) = S.map I := by
    have := congrArg (List.map Prod.fst) h3
    simpa [List.map_map, Function.comp_def] using this
  rw [e] at h2
  exact (List.pairwise_map.1 h2).imp (fun h e => h (by rw [e]))

section
variable {P : Program}

/-- seen[x]. -/
theorem SeenAt.look {T : TypeId} (hT : P.underlying T = some (.map 3 4)) (hK : P.underlying 3 = some (.int .i64)) (hz : ∀ w, (zeroValue 4).run P w = .ok (.bool false) w) {w : World} {b : Nat} {S : List Int} (h : SeenAt w b S) (x : Int) :
    (Instr.lookup T (.map (some b)) (I x) false).run P w = .ok (.bool (decide (x ∈ S))) w := by
  obtain ⟨es, c, h1, _, h3⟩ := h
  have := run_lookup_int hT hK hz h1 h3 x false
  rw [this, lk_seen]
  by_cases hx : x ∈ S <;> simp [hx]

/-- seen[x] = true, x a new key. -/
theorem wpList_seen_fr {w : World} {ops : Array Oper} {rest : List Oper} {o : Oper} {a : Act} {Q : Exit → Act → World → Prop} (hgd : o.guard = none) (m x y : Operand) (T K E : TypeId)
    (hop : o.op = Op.mapUpdate T m x y) (hT : P.underlying T = some (.map K E)) (hK : P.underlying K = some (.int .i64))
    (b : Nat) (S : List Int) (hm : a.eval m = .map (some b)) (hs : SeenAt w b S) (k : Int) (hk : k ∉ S) (hx : a.eval x = I k) (hv : a.eval y = Bt)
    (h : ∀ w', SeenAt w' b (S ++ [k]) → Fr (· = b) w w' → wpList P ops Q rest (a.put o.dst undef) w') :
    wpList P ops Q (o :: rest) a w := by
  refine wpList_plain hgd fun K' hK' => ?_
  obtain ⟨es, c, h1, h2, h3⟩ := hs
  obtain ⟨es', c', hrun, _, h4, _⟩ := run_mapUpdate_int (P := P) hT hK h1 h3 k Bt
  obtain ⟨rfl, rfl⟩ := h4 (by rw [lk_seen, if_neg hk])
  unfold Oper.wp
  simp [execOp, hop, hm, hx, hv, hrun, Result.andThen]
  refine hK' _ _ (h _ ⟨_, _, setBlk_same h1, MapKept.stamped_push h2 ?_, ?_⟩ (Fr.setBlk _ _ _))
  · intro e he
    have : (e.key, e.val) ∈ es.toList.map (fun e => (e.key, e.val)) := List.mem_map.2 ⟨e, he, rfl⟩
    rw [h3, List.map_map] at this
    obtain ⟨y, hy, e2⟩ := List.mem_map.1 this
    simp only [Function.comp, Prod.mk.injEq] at e2
    intro e3
    rw [← e2.1] at e3
    injection e3 with _ e3
    exact hk (e3 ▸ hy)
  · unfold MapKV at h3 ⊢
    simp [h3]
end

theorem Try.sortsA (m : Nat) : AnyZI.SortsIn Try.prog Try.sortedA_ren Fence.wide m :=
  ⟨fun blk off cap ss W hH hblk hsz => callsIn_wide.2 (AnyM.slices_Sort_int Try.sortA blk off cap ss W hH hblk hsz),
   fun p cap W => callsIn_wide.2 (AnyM.slices_Sort_int_none Try.sortA p cap W)⟩

/-- maps.Keys. -/
theorem keys_call (b : Nat) (w : World) : Calls Try.prog 47 #[.map (some b)] w fun e w' => e = .returned (.func (.func 72) #[] #[.pointer (some ⟨w.heap.size, 0, none⟩)]) ∧ w' = w.alloc (.cells #[.map (some b)] 42) :=
  (callsIn_wide (n := 5)).1 (AnyZI.keys_in Try.keysA Fence.wide 5 trivial rfl (some b) w)

/-- A set of numbers, in the kit's words. -/
theorem SeenAt.owns {w : World} {b : Nat} {S : List Int} (h : SeenAt w b S) (hS : ∀ x ∈ S, (Lit.int .i64 x).wf = true) (hl : S.length ≤ 1000000) :
    ∃ D : DataW Unit, w.ownsMap Try.prog 3 (plainElem Try.prog 4) b S.length D ∧ (intKeys D).Perm S ∧ Maps.size D = S.length := by
  obtain ⟨es, c, h1, h2, h3⟩ := h
  have hlen : es.toList.length = S.length := by have := congrArg List.length h3; simpa using this
  have hrd : ∀ e ∈ es.toList, ∃ x, x ∈ S ∧ e.key = I x ∧ e.val = Bt := by
    intro e he
    have : (e.key, e.val) ∈ es.toList.map (fun e => (e.key, e.val)) := List.mem_map.2 ⟨e, he, rfl⟩
    rw [h3, List.map_map] at this
    obtain ⟨y, hy, e2⟩ := List.mem_map.1 this
    simp only [Function.comp, Prod.mk.injEq] at e2
    exact ⟨y, hy, e2.1.symm, e2.2.symm⟩
  have hval : (plainElem (H := Unit) Try.prog 4 Bt) = some (.lit (.bool true), []) := plainElem_bool Try.underlying4 true
  have hkey : ∀ x ∈ S, keyOf Try.prog 3 (I x) = some (.int .i64 x) := by
    intro x hx
    have := hS x hx
    simp [keyOf, mapKey, Try.underlying3, this]
  refine ⟨_, ⟨es, c, h1, ⟨?_, h2, ?_⟩, ?_, rfl⟩, ?_, ?_⟩
  · have : es.size = S.length := by simpa using hlen
    rw [this]; simp only [maxLen]; omega
  · intro e he
    obtain ⟨x, hx, hk, hv⟩ := hrd e he
    obtain ⟨ek, ev, eb⟩ := e
    simp only at hk hv
    subst hk hv
    exact ⟨_, WideElems.rd_mk (hkey x hx) hval⟩
  · have : es.size = S.length := by simpa using hlen
    omega
  · show ((es.toList.map _).foldr DataW.insert []).map (fun p => Go.intOf p.1) |>.Perm S
    refine ((WideShapes.sorted_perm _).map _).trans ?_
    have : (es.toList.map (WideElems.rg Try.prog 3 (plainElem (H := Unit) Try.prog 4))).map (fun p => Go.intOf p.1) = S := by
      have e1 : es.toList.map (fun e => (e.key, e.val)) = S.map (fun x => (I x, Bt)) := by simpa [MapKV, List.map_map, Function.comp_def] using h3
      have e2 : ∀ (l : List MapEntry) (S' : List Int), (∀ x ∈ S', x ∈ S) → l.map (fun e => (e.key, e.val)) = S'.map (fun x => (I x, Bt)) →
          (l.map (WideElems.rg Try.prog 3 (plainElem (H := Unit) Try.prog 4))).map (fun p => Go.intOf p.1) = S' := by
        intro l
        induction l with
        | nil => intro S' _ h; cases S' with
          | nil => rfl
          | cons a b => simp at h
        | cons e l ih =>
          intro S' hS' h
          cases S' with
          | nil => simp at h
          | cons x S' =>
            simp only [List.map_cons, List.cons.injEq, Prod.mk.injEq] at h
            obtain ⟨⟨hk, hv⟩, ht⟩ := h
            obtain ⟨ek, ev, eb⟩ := e
            simp only at hk hv
            subst hk hv
            have hxS := hS' x (by simp)
            simp only [List.map_cons]
            rw [ih S' (fun y hy => hS' y (by simp [hy])) ht, WideElems.rg_of (WideElems.rd_mk (hkey x hxS) hval)]
            rfl
      exact e2 _ S (fun _ h => h) e1
    rw [this]
  · simp only [Maps.size]
    rw [(WideShapes.sorted_perm _).length_eq]
    simpa using hlen

set_option maxHeartbeats 1000000 in
/-- slices.Sorted, of maps.Keys. -/
theorem sorted_call (b : Nat) (S : List Int) (w : World) (h : SeenAt w b S) (hS : ∀ x ∈ S, (Lit.int .i64 x).wf = true) (hl : S.length ≤ 1000000) :
    Calls Try.prog 46 #[.func (.func 72) #[] #[.pointer (some ⟨w.heap.size, 0, none⟩)]] (w.alloc (.cells #[.map (some b)] 42)) fun e w' => ∃ (v : Value) (ts : List Int), e = .returned v ∧ ts.Perm S ∧
      w'.ownsRow (w.heap.size + 1) 3 1 v ts.length ((ts.mergeSort (fun x y => decide (x ≤ y))).map I) ∧ New (w.alloc (.cells #[.map (some b)] 42)) w' := by
  obtain ⟨D, hown, hperm, hsize⟩ := h.owns hS hl
  refine (callsIn_wide (n := 5)).1 ?_
  have hbl := hown.lt
  have hseq : SeqGives Fence.wide 2 Try.prog 72 #[.pointer (some ⟨w.heap.size, 0, none⟩)] encZ (fun ss => ss.Perm (intKeys D)) (Maps.size D) (w.alloc (.cells #[.map (some b)] 42)) :=
    AnyZI.keys_gives (ρ := Try.keysA_ren) { Try.keysA with } Fence.wide _ trivial rfl (by omega) w.heap.size b S.length D _ (by simp) (by simp) (by
      obtain ⟨es, clock, hb, Ft, hs, hD⟩ := hown
      exact ⟨es, clock, (Below.heap_alloc _ _ b hbl).trans hb, Ft, hs, hD⟩)
  have cS := AnyZI.sorted_in Try.sortedA Fence.wide 5 trivial trivial trivial trivial rfl (by omega) (Try.sortsA _) (enters_of Try.func71 (by kernel_rfl) rfl) 72 #[.pointer (some ⟨w.heap.size, 0, none⟩)] trivial (enters_of Try.func72 (by kernel_rfl) rfl) _ _ (by rw [hsize]; simp only [maxLen]; omega) (by rw [hsize]; omega) _ hseq
  change CallsIn _ _ Try.prog 46 _ _ _ at cS
  refine cS.mono ?_
  rintro e w' ⟨v, ss, rfl, hSS, hrow, hnil, hb⟩
  rw [World.size_alloc] at hrow
  exact ⟨v, ss, rfl, hSS.trans hperm, hrow, Fr.below hb (Nat.le_refl _) _⟩

end Go.Proofs.Ytnhombeagbhccaa
