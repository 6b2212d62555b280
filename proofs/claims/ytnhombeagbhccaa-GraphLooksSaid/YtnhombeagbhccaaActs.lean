/- Acts on the heap as it should be: what is valid stays so, and what is not reached never is again. No program and no memory stand here. -/
import Derived.Test.YtnhombeagbhccaaWork
namespace Go.Proofs.Ytnhombeagbhccaa

/-- An act: which, of the thread t. -/
structure AA where
  d : Int
  t : Int
  a : Int
  b : Int
  c : Int
  v : Int
instance : Inhabited AA := ⟨⟨0, 0, 0, 0, 0, 0⟩⟩

def AG.act (A : AG) (x : AA) : AG.Ans :=
  if x.d = 0 then A.alloc x.t x.a x.b x.c
  else if x.d = 1 then A.load x.t x.a x.b x.c
  else if x.d = 2 then A.store x.t x.a x.b x.c
  else if x.d = 3 then A.read x.t x.a x.b
  else if x.d = 4 then A.write x.t x.a x.b x.v
  else if x.d = 5 then A.get x.t x.a x.b
  else if x.d = 6 then A.putG x.t x.a x.b
  else if x.d = 7 then A.move x.t x.a x.b
  else if x.d = 8 then A.clear x.t x.a
  else if x.d = 9 then A.push x.t x.a
  else if x.d = 10 then A.pop x.t x.a
  else A.slot x.t x.a

theorem mem_getD' {α : Type} [Inhabited α] {l : List α} {i : Nat} (h : i < l.length) : l.getD i default ∈ l := by
  simp [List.getD, h]
theorem mem_getD0' {l : List Int} {i : Nat} (h : i < l.length) : l.getD i 0 ∈ l := by
  simp [List.getD, h]
theorem mem_set {α : Type} {l : List α} {i : Nat} {x y : α} (h : y ∈ l.set i x) : y = x ∨ y ∈ l := by
  rcases List.mem_or_eq_of_mem_set h with h | h
  · exact .inr h
  · exact .inl h

variable {A : AG}

theorem slotE_ok' {t i x : Int} (h : A.slotE t i = .ok x) : A.okT t ∧ (A.thr t).ok i ∧ x = (A.thr t).get i := by
  unfold AG.slotE at h
  split at h
  · split at h
    · injection h with h; exact ⟨‹_›, ‹_›, h.symm⟩
    · cases h
  · cases h

theorem objE_ok' {t i n : Int} (h : A.objE t i = .ok n) : A.slotE t i = .ok n ∧ n ≠ 0 := by
  unfold AG.objE at h
  split at h
  · split at h
    · cases h
    · injection h with h; subst h; exact ⟨‹_›, ‹_›⟩
  · cases h

theorem thr_mem {t : Int} (h : A.okT t) : A.thr t ∈ A.T := mem_getD' (by unfold AG.okT at h; omega)
theorem get_mem {R : AR} {i : Int} (h : R.ok i) : R.get i ∈ R.refs := List.mem_append.2 (.inl (mem_getD0' (by unfold AR.ok at h; omega)))

/-- A number that a graph may hold. -/
def AG.In (A : AG) (x : Int) : Prop := 0 ≤ x ∧ x ≤ A.O.length

theorem AG.Valid.get (hv : A.Valid) {R : AR} (hR : R ∈ A.T) {x : Int} (hx : x ∈ R.refs) : A.In x := by
  rcases List.mem_append.1 hx with h | h
  · exact hv.slots R hR x h
  · exact hv.stack R hR x h

theorem AG.Valid.slot' (hv : A.Valid) {t i x : Int} (h : A.slotE t i = .ok x) : A.In x := by
  obtain ⟨h1, h2, rfl⟩ := slotE_ok' h
  exact hv.get (thr_mem h1) (get_mem h2)

theorem obj_mem {n : Int} (h1 : 1 ≤ n) (h2 : n ≤ A.O.length) : A.obj n ∈ A.O := mem_getD' (by omega)

theorem AG.Valid.obj' (hv : A.Valid) {t i n : Int} (h : A.objE t i = .ok n) : 1 ≤ n ∧ n ≤ A.O.length ∧ A.obj n ∈ A.O := by
  have h1 := hv.slot' (objE_ok' h).1
  have h2 := (objE_ok' h).2
  unfold AG.In at h1
  exact ⟨by omega, h1.2, obj_mem (by omega) h1.2⟩

/-! ### What is reached -/

theorem slotE_reached {t i x : Int} (h : A.slotE t i = .ok x) (h0 : x ≠ 0) : A.Reached x := by
  obtain ⟨h1, h2, rfl⟩ := slotE_ok' h
  exact .root (thr_mem h1) (get_mem h2) h0

/-- Reached, or the new one. -/
def AG.Or (A : AG) (x : Int) : Prop := x = 0 ∨ A.Reached x ∨ x = A.O.length + 1

/-- A step on which all that stands was reached. -/
structure Steps (A A' : AG) : Prop where
  g : ∀ x ∈ A'.G, A.Or x
  t : ∀ R ∈ A'.T, ∀ x ∈ R.refs, A.Or x
  r : ∀ n, (A.Reached n ∨ n = A.O.length + 1) → ∀ x ∈ (A'.obj n).refs, A.Or x

theorem Steps.reached {A' : AG} (h : Steps A A') {x : Int} (hx : A'.Reached x) : A.Reached x ∨ x = A.O.length + 1 := by
  induction hx with
  | glob hx h0 => exact (h.g _ hx).resolve_left h0
  | root hR hx h0 => exact (h.t _ hR _ hx).resolve_left h0
  | ref hn hx h0 ih => exact (h.r _ ih _ hx).resolve_left h0

theorem or_root {R : AR} (hR : R ∈ A.T) {x : Int} (hx : x ∈ R.refs) : A.Or x := by
  by_cases h : x = 0
  · exact .inl h
  · exact .inr (.inl (.root hR hx h))
theorem or_glob {x : Int} (hx : x ∈ A.G) : A.Or x := by
  by_cases h : x = 0
  · exact .inl h
  · exact .inr (.inl (.glob hx h))
theorem or_slot {t i x : Int} (h : A.slotE t i = .ok x) : A.Or x := by
  by_cases h0 : x = 0
  · exact .inl h0
  · exact .inr (.inl (slotE_reached h h0))

theorem obj_default {n : Int} (h : (A.O.length : Int) < n) : A.obj n = default := by
  unfold AG.obj
  have : A.O[n.toNat - 1]? = none := List.getElem?_eq_none (by omega)
  simp [List.getD, this]

theorem or_ref {n : Int} (hn : A.Reached n ∨ n = A.O.length + 1) {x : Int} (hx : x ∈ (A.obj n).refs) : A.Or x := by
  rcases hn with h | h
  · by_cases h0 : x = 0
    · exact .inl h0
    · exact .inr (.inl (.ref h hx h0))
  · rw [obj_default (by omega)] at hx; cases hx

theorem obj_reached {t i n : Int} (h : A.objE t i = .ok n) : A.Reached n := slotE_reached (objE_ok' h).1 (objE_ok' h).2

/-- What a step keeps. -/
structure Goods (A A' : AG) (m : Nat) : Prop where
  valid : A'.Valid
  steps : Steps A A'
  small : A.Small → m ≤ 1000 → A'.Small
  words : (∀ o ∈ A.O, ∀ x ∈ o.data, 0 ≤ x ∧ x < 18446744073709551616) → ∀ o ∈ A'.O, ∀ x ∈ o.data, 0 ≤ x ∧ x < 18446744073709551616
  len : A'.O.length = m
  thr : A'.T.length = A.T.length
  globs : A'.G.length = A.G.length

theorem Goods.refl (hv : A.Valid) : Goods A A A.O.length :=
  ⟨hv, ⟨fun _ h => or_glob (A := A) h, fun _ hR _ h => or_root (A := A) hR h, fun _ hn _ h => or_ref hn h⟩, fun h _ => h, fun h => h, rfl, rfl, rfl⟩

theorem Goods.setT (hv : A.Valid) {t : Int} {R : AR} (h1 : ∀ x ∈ R.slots, A.In x ∧ A.Or x) (h2 : ∀ x ∈ R.stack, A.In x ∧ A.Or x) (hs : A.Small → R.slots.length ≤ 8 ∧ R.stack.length ≤ 16) : Goods A (A.setT t R) A.O.length := by
  have key : ∀ {Q : AR}, Q ∈ (A.setT t R).T → Q = R ∨ Q ∈ A.T := fun h => mem_set h
  refine ⟨⟨?_, ?_, hv.glob, hv.refs⟩, ⟨fun _ h => or_glob (A := A) h, ?_, fun _ hn _ h => or_ref hn h⟩, ?_, fun h => h, rfl, by simp [AG.setT], rfl⟩
  · intro Q hQ x hx
    rcases key hQ with rfl | h
    · exact (h1 x hx).1
    · exact hv.slots Q h x hx
  · intro Q hQ x hx
    rcases key hQ with rfl | h
    · exact (h2 x hx).1
    · exact hv.stack Q h x hx
  · intro Q hQ x hx
    rcases key hQ with rfl | h
    · rcases List.mem_append.1 hx with hx | hx
      · exact (h1 x hx).2
      · exact (h2 x hx).2
    · exact or_root h hx
  · intro h _
    refine ⟨by simpa [AG.setT] using h.thr, ?_, ?_, h.glob, h.refs, h.data, h.objs⟩
    · intro Q hQ
      rcases key hQ with rfl | hQ
      · exact (hs h).1
      · exact h.slots Q hQ
    · intro Q hQ
      rcases key hQ with rfl | hQ
      · exact (hs h).2
      · exact h.stack Q hQ

theorem Goods.setS (hv : A.Valid) {t i x : Int} (ht : A.okT t) (h1 : A.In x) (h2 : A.Or x) : Goods A (A.setS t i x) A.O.length := by
  have hm := thr_mem ht
  refine .setT hv ?_ (fun y hy => ⟨hv.stack _ hm y hy, or_root hm (List.mem_append.2 (.inr hy))⟩) (fun hs => ⟨by simpa [AR.set] using hs.slots (A.thr t) hm, hs.stack (A.thr t) hm⟩)
  intro y hy
  rcases mem_set hy with rfl | hy
  · exact ⟨h1, h2⟩
  · exact ⟨hv.slots _ hm y hy, or_root hm (List.mem_append.2 (.inl hy))⟩

theorem in_zero : A.In 0 := ⟨Int.le_refl _, by omega⟩

theorem obj_setO {n k : Int} {o : AO} : (A.setO n o).obj k = if n.toNat - 1 = k.toNat - 1 ∧ k.toNat - 1 < A.O.length then o else A.obj k := by
  unfold AG.setO AG.obj
  simp only [List.getD, List.getElem?_set]
  by_cases h : n.toNat - 1 = k.toNat - 1
  · rw [if_pos h]
    by_cases h2 : k.toNat - 1 < A.O.length
    · rw [if_pos (by omega), if_pos ⟨h, h2⟩]; rfl
    · have : A.O[k.toNat - 1]? = none := List.getElem?_eq_none (by omega)
      rw [if_neg (by omega), if_neg (by omega), this]
  · rw [if_neg h, if_neg (fun x => h x.1)]

theorem Goods.setO (hv : A.Valid) {n : Int} {o : AO} (h1 : 1 ≤ n) (h2 : n ≤ A.O.length) (hr : ∀ x ∈ o.refs, A.In x ∧ A.Or x) (hl : o.refs.length = (A.obj n).refs.length) (hd : o.data.length = (A.obj n).data.length)
    (hw : (∀ x ∈ (A.obj n).data, 0 ≤ x ∧ x < 18446744073709551616) → ∀ x ∈ o.data, 0 ≤ x ∧ x < 18446744073709551616) : Goods A (A.setO n o) A.O.length := by
  have key : ∀ {q : AO}, q ∈ (A.setO n o).O → q = o ∨ q ∈ A.O := fun h => mem_set h
  have hlen : (A.setO n o).O.length = A.O.length := by simp [AG.setO]
  have hm := obj_mem h1 h2
  refine ⟨⟨fun R hR x hx => by rw [hlen]; exact hv.slots R hR x hx, fun R hR x hx => by rw [hlen]; exact hv.stack R hR x hx, fun x hx => by rw [hlen]; exact hv.glob x hx, ?_⟩, ⟨fun _ h => or_glob (A := A) h, fun _ hR _ h => or_root (A := A) hR h, ?_⟩, ?_, ?_, hlen, rfl, rfl⟩
  · intro q hq x hx
    rw [hlen]
    rcases key hq with rfl | h
    · exact (hr x hx).1
    · exact hv.refs q h x hx
  · intro k hk x hx
    rw [obj_setO] at hx
    split at hx
    · exact (hr x hx).2
    · exact or_ref hk hx
  · intro h _
    refine ⟨h.thr, h.slots, h.stack, h.glob, ?_, ?_, by rw [hlen]; exact h.objs⟩
    · intro q hq
      rcases key hq with rfl | hq
      · rw [hl]; exact h.refs _ hm
      · exact h.refs q hq
    · intro q hq
      rcases key hq with rfl | hq
      · rw [hd]; exact h.data _ hm
      · exact h.data q hq
  · intro h q hq
    rcases key hq with rfl | hq
    · exact hw (h _ hm)
    · exact h q hq

theorem Goods.setG (hv : A.Valid) {i : Nat} {x : Int} (h1 : A.In x) (h2 : A.Or x) : Goods A { A with G := A.G.set i x } A.O.length := by
  refine ⟨⟨hv.slots, hv.stack, ?_, hv.refs⟩, ⟨?_, fun _ hR _ h => or_root (A := A) hR h, fun _ hn _ h => or_ref (A := A) hn h⟩, fun h _ => ⟨h.thr, h.slots, h.stack, by simpa using h.glob, h.refs, h.data, h.objs⟩, fun h => h, rfl, rfl, by simp⟩
  · intro y hy
    rcases mem_set hy with rfl | hy
    · exact h1
    · exact hv.glob y hy
  · intro y hy
    rcases mem_set hy with rfl | hy
    · exact h2
    · exact or_glob hy


theorem mem_rep {n : Nat} {x : Int} (h : x ∈ List.replicate n (0 : Int)) : x = 0 := (List.mem_replicate.1 h).2

/-- A new object, behind all. -/
theorem Goods.grow (hv : A.Valid) {n k : Nat} (hn : n ≤ 95) (hk : k ≤ 95) : Goods A { A with O := A.O ++ [⟨List.replicate n 0, List.replicate k 0⟩] } (A.O.length + 1) := by
  have key : ∀ {q : AO}, q ∈ A.O ++ [⟨List.replicate n 0, List.replicate k 0⟩] → q ∈ A.O ∨ q = ⟨List.replicate n 0, List.replicate k 0⟩ := fun h => by simpa using h
  have lift : ∀ {x : Int}, A.In x → 0 ≤ x ∧ x ≤ (A.O ++ [(⟨List.replicate n 0, List.replicate k 0⟩ : AO)]).length := fun h => ⟨h.1, by have := h.2; simp; omega⟩
  refine ⟨⟨fun R hR x hx => lift (hv.slots R hR x hx), fun R hR x hx => lift (hv.stack R hR x hx), fun x hx => lift (hv.glob x hx), ?_⟩, ⟨fun _ h => or_glob (A := A) h, fun _ hR _ h => or_root (A := A) hR h, ?_⟩, ?_, ?_, by simp, rfl, rfl⟩
  · intro q hq x hx
    rcases key hq with h | rfl
    · exact lift (hv.refs q h x hx)
    · rw [mem_rep hx]; exact lift in_zero
  · intro m hm x hx
    unfold AG.obj at hx
    by_cases h1 : m.toNat - 1 < A.O.length
    · have e : (A.O ++ [(⟨List.replicate n 0, List.replicate k 0⟩ : AO)]).getD (m.toNat - 1) default = A.obj m := by
        unfold AG.obj
        simp [List.getD, List.getElem?_append_left h1]
      simp only at hx
      rw [e] at hx
      exact or_ref hm hx
    · by_cases h2 : m.toNat - 1 = A.O.length
      · simp only [h2] at hx
        have e : (A.O ++ [(⟨List.replicate n 0, List.replicate k 0⟩ : AO)]).getD A.O.length default = ⟨List.replicate n 0, List.replicate k 0⟩ := by simp [List.getD]
        rw [e] at hx
        exact .inl (mem_rep hx)
      · have e : (A.O ++ [(⟨List.replicate n 0, List.replicate k 0⟩ : AO)]).getD (m.toNat - 1) default = default := by
          have : (A.O ++ [(⟨List.replicate n 0, List.replicate k 0⟩ : AO)])[m.toNat - 1]? = none := List.getElem?_eq_none (by simp; omega)
          simp [List.getD, this]
        simp only at hx
        rw [e] at hx; cases hx
  · intro h hm
    refine ⟨h.thr, h.slots, h.stack, h.glob, ?_, ?_, by simpa using hm⟩
    · intro q hq
      rcases key hq with h1 | rfl
      · exact h.refs q h1
      · simpa using hn
    · intro q hq
      rcases key hq with h1 | rfl
      · exact h.data q h1
      · simpa using hk
  · intro h q hq
    rcases key hq with h1 | rfl
    · exact h q h1
    · intro x hx
      rw [mem_rep hx]; omega

/-- A new object, and a slot that has it. -/
theorem Goods.alloc (hv : A.Valid) {n k : Nat} (hn : n ≤ 95) (hk : k ≤ 95) {t i : Int} (ht : A.okT t) : Goods A (({ A with O := A.O ++ [⟨List.replicate n 0, List.replicate k 0⟩] } : AG).setS t i (A.O.length + 1)) (A.O.length + 1) := by
  have h := Goods.grow hv hn hk
  generalize hA1 : ({ A with O := A.O ++ [⟨List.replicate n 0, List.replicate k 0⟩] } : AG) = A1 at h ⊢
  have hT : A1.T = A.T := by subst hA1; rfl
  have hG : A1.G = A.G := by subst hA1; rfl
  have hthr : A1.thr t = A.thr t := by subst hA1; rfl
  have hm := thr_mem ht
  have key : ∀ {Q : AR}, Q ∈ (A1.setS t i (A.O.length + 1)).T → Q = (A.thr t).set i (A.O.length + 1) ∨ Q ∈ A.T := by
    intro Q hQ
    rcases mem_set hQ with h | h
    · exact .inl (by rw [h, hthr])
    · exact .inr (hT ▸ h)
  have hv1 := h.valid
  have hl := h.len
  have slots : ∀ {Q : AR}, Q = (A.thr t).set i (A.O.length + 1) → ∀ x ∈ Q.slots, x = A.O.length + 1 ∨ x ∈ (A.thr t).slots := by
    rintro Q rfl x hx
    exact mem_set hx
  refine ⟨⟨?_, ?_, hv1.glob, hv1.refs⟩, ⟨fun x hx => h.steps.g x hx, ?_, fun n hn x hx => h.steps.r n hn x hx⟩, ?_, h.words, h.len, by simp [AG.setS, AG.setT, hT], by rw [← hG]; rfl⟩
  · intro Q hQ x hx
    show 0 ≤ x ∧ x ≤ A1.O.length
    rcases key hQ with e | e
    · rcases slots e x hx with h1 | h1
      · omega
      · have := hv.slots _ hm x h1; omega
    · have := hv.slots Q e x hx; omega
  · intro Q hQ x hx
    show 0 ≤ x ∧ x ≤ A1.O.length
    rcases key hQ with e | e
    · subst e
      have := hv.stack _ hm x hx; omega
    · have := hv.stack Q e x hx; omega
  · intro Q hQ x hx
    rcases key hQ with e | e
    · rcases List.mem_append.1 hx with h1 | h1
      · rcases slots e x h1 with h2 | h2
        · exact .inr (.inr h2)
        · exact or_root hm (List.mem_append.2 (.inl h2))
      · subst e
        exact or_root hm (List.mem_append.2 (.inr h1))
    · exact or_root e hx
  · intro hs hle
    have h1 := h.small hs hle
    refine ⟨by simpa [AG.setS, AG.setT, hT] using hs.thr, ?_, ?_, h1.glob, h1.refs, h1.data, h1.objs⟩
    · intro Q hQ
      rcases key hQ with rfl | e
      · simpa [AR.set] using hs.slots (A.thr t) hm
      · exact hs.slots Q e
    · intro Q hQ
      rcases key hQ with rfl | e
      · exact hs.stack (A.thr t) hm
      · exact hs.stack Q e

/-- How many objects there are behind an act. -/
def AG.lenAct (A : AG) (x : AA) : Nat := (A.act x).1.O.length

theorem alloc_ok {t a b c : Int} (h : (A.alloc t a b c).2.2 = 0) (h9 : ∀ e, A.slotE t a = .error e → e ≠ 0) : ∃ x, A.slotE t a = .ok x ∧ 0 ≤ b ∧ b ≤ c ∧ c ≤ 95 := by
  unfold AG.alloc at h
  split at h
  · rename_i e he; exact absurd h (h9 _ he)
  · rename_i x hx
    split at h
    · exact ⟨x, hx, by omega⟩
    · simp at h

theorem alloc_good (hv : A.Valid) (t a b c : Int) : Goods A (A.alloc t a b c).1 (A.alloc t a b c).1.O.length ∧ ((A.alloc t a b c).1.O.length = A.O.length ∨ (A.alloc t a b c).1.O.length = A.O.length + 1) := by
  unfold AG.alloc
  split
  · exact ⟨.refl hv, .inl rfl⟩
  · rename_i x hx
    split
    · have h := Goods.alloc hv (n := b.toNat) (k := (c - b).toNat) (by omega) (by omega) (i := a) (slotE_ok' hx).1
      rw [h.len]
      exact ⟨h, .inr rfl⟩
    · exact ⟨.refl hv, .inl rfl⟩

theorem load_good (hv : A.Valid) (t a b c : Int) : Goods A (A.load t a b c).1 A.O.length := by
  unfold AG.load
  split
  · exact .refl hv
  · rename_i x hx
    split
    · exact .refl hv
    · rename_i n hn
      have ho := hv.obj' hn
      split
      · have hm : (A.obj n).refs.getD c.toNat 0 ∈ (A.obj n).refs := mem_getD0' (by omega)
        exact .setS hv (slotE_ok' hx).1 (hv.refs _ ho.2.2 _ hm) (or_ref (.inl (obj_reached hn)) hm)
      · exact .refl hv

theorem store_good (hv : A.Valid) (t a b c : Int) : Goods A (A.store t a b c).1 A.O.length := by
  unfold AG.store
  split
  · exact .refl hv
  · rename_i x hx
    split
    · exact .refl hv
    · rename_i n hn
      have ho := hv.obj' hn
      split
      · refine .setO hv ho.1 ho.2.1 ?_ (by simp) rfl (fun h => h)
        intro y hy
        rcases mem_set hy with rfl | hy
        · exact ⟨hv.slot' hx, or_slot hx⟩
        · exact ⟨hv.refs _ ho.2.2 y hy, or_ref (.inl (obj_reached hn)) hy⟩
      · exact .refl hv

theorem read_good (hv : A.Valid) (t a b : Int) : Goods A (A.read t a b).1 A.O.length := by
  unfold AG.read
  split
  · exact .refl hv
  · split <;> exact .refl hv

theorem write_good (hv : A.Valid) (t a b v : Int) (hw : 0 ≤ v ∧ v < 18446744073709551616) : Goods A (A.write t a b v).1 A.O.length := by
  unfold AG.write
  split
  · exact .refl hv
  · rename_i n hn
    have ho := hv.obj' hn
    split
    · refine .setO hv ho.1 ho.2.1 (fun y hy => ⟨hv.refs _ ho.2.2 y hy, or_ref (.inl (obj_reached hn)) hy⟩) rfl (by simp) (fun h x hx => ?_)
      rcases mem_set hx with rfl | hx
      · exact hw
      · exact h x hx
    · exact .refl hv

theorem get_good (hv : A.Valid) (t a b : Int) : Goods A (A.get t a b).1 A.O.length := by
  unfold AG.get
  split
  · exact .refl hv
  · rename_i x hx
    split
    · rename_i hg
      have hm : A.G.getD b.toNat 0 ∈ A.G := mem_getD0' (by unfold AG.okG at hg; omega)
      exact .setS hv (slotE_ok' hx).1 (hv.glob _ hm) (or_glob hm)
    · exact .refl hv

theorem putG_good (hv : A.Valid) (t a b : Int) : Goods A (A.putG t a b).1 A.O.length := by
  unfold AG.putG
  split
  · exact .refl hv
  · rename_i x hx
    split
    · exact .setG hv (hv.slot' hx) (or_slot hx)
    · exact .refl hv

theorem move_good (hv : A.Valid) (t a b : Int) : Goods A (A.move t a b).1 A.O.length := by
  unfold AG.move
  split
  · exact .refl hv
  · rename_i x hx
    split
    · exact .refl hv
    · rename_i y hy
      exact .setS hv (slotE_ok' hx).1 (hv.slot' hy) (or_slot hy)

theorem clear_good (hv : A.Valid) (t a : Int) : Goods A (A.clear t a).1 A.O.length := by
  unfold AG.clear
  split
  · exact .refl hv
  · rename_i x hx
    exact .setS hv (slotE_ok' hx).1 in_zero (.inl rfl)

theorem thr_good (hv : A.Valid) {t : Int} (ht : A.okT t) {x : Int} (h : x ∈ (A.thr t).refs) : A.In x ∧ A.Or x := ⟨hv.get (thr_mem ht) h, or_root (thr_mem ht) h⟩

theorem push_good (hv : A.Valid) (t a : Int) : Goods A (A.push t a).1 A.O.length := by
  unfold AG.push
  split
  · rename_i ht
    have hm := thr_mem ht
    unfold AR.pushR
    split
    · rename_i ha
      split
      · exact .setT hv (fun x hx => thr_good hv ht (List.mem_append.2 (.inl hx))) (fun x hx => thr_good hv ht (List.mem_append.2 (.inr hx))) (fun hs => ⟨hs.slots _ hm, hs.stack _ hm⟩)
      · rename_i h16
        refine .setT hv (fun x hx => thr_good hv ht (List.mem_append.2 (.inl hx))) ?_ (fun hs => ⟨hs.slots (A.thr t) hm, by have := hs.stack (A.thr t) hm; simp; omega⟩)
        intro x hx
        rcases List.mem_append.1 hx with hx | hx
        · exact thr_good hv ht (List.mem_append.2 (.inr hx))
        · have : x = (A.thr t).get a := by simpa using hx
          subst this
          exact thr_good hv ht (get_mem ha)
    · exact .setT hv (fun x hx => thr_good hv ht (List.mem_append.2 (.inl hx))) (fun x hx => thr_good hv ht (List.mem_append.2 (.inr hx))) (fun hs => ⟨hs.slots _ hm, hs.stack _ hm⟩)
  · exact .refl hv

theorem pop_good (hv : A.Valid) (t a : Int) : Goods A (A.pop t a).1 A.O.length := by
  unfold AG.pop
  split
  · rename_i ht
    have hm := thr_mem ht
    unfold AR.popR
    split
    · rename_i ha
      split
      · exact .setT hv (fun x hx => thr_good hv ht (List.mem_append.2 (.inl hx))) (fun x hx => thr_good hv ht (List.mem_append.2 (.inr hx))) (fun hs => ⟨hs.slots _ hm, hs.stack _ hm⟩)
      · rename_i h0
        refine .setT hv ?_ ?_ (fun hs => ⟨by simpa [AR.set] using hs.slots _ hm, by have := hs.stack _ hm; simp [AR.set]; omega⟩)
        · intro x hx
          rcases mem_set hx with rfl | hx
          · exact thr_good hv ht (List.mem_append.2 (.inr (mem_getD0' (by omega))))
          · exact thr_good hv ht (List.mem_append.2 (.inl hx))
        · intro x hx
          exact thr_good hv ht (List.mem_append.2 (.inr (List.dropLast_subset _ hx)))
    · exact .setT hv (fun x hx => thr_good hv ht (List.mem_append.2 (.inl hx))) (fun x hx => thr_good hv ht (List.mem_append.2 (.inr hx))) (fun hs => ⟨hs.slots _ hm, hs.stack _ hm⟩)
  · exact .refl hv

theorem slot_good (hv : A.Valid) (t a : Int) : Goods A (A.slot t a).1 A.O.length := by
  unfold AG.slot
  split <;> exact .refl hv

/-- **What each act keeps.** -/
theorem act_good (hv : A.Valid) (x : AA) (hw : 0 ≤ x.v ∧ x.v < 18446744073709551616) : Goods A (A.act x).1 (A.act x).1.O.length ∧ (x.d ≠ 0 → (A.act x).1.O.length = A.O.length) ∧ (A.act x).1.O.length ≤ A.O.length + 1 := by
  have fin : ∀ {A' : AG}, Goods A A' A.O.length → Goods A A' A'.O.length ∧ (x.d ≠ 0 → A'.O.length = A.O.length) ∧ A'.O.length ≤ A.O.length + 1 := by
    intro A' h
    have := h.len
    exact ⟨by rw [this]; exact h, fun _ => this, by omega⟩
  unfold AG.act
  split
  · have h := alloc_good hv x.t x.a x.b x.c
    exact ⟨h.1, fun hx => absurd ‹_› hx, by omega⟩
  repeat' split
  · exact fin (load_good hv ..)
  · exact fin (store_good hv ..)
  · exact fin (read_good hv ..)
  · exact fin (write_good hv _ _ _ _ hw)
  · exact fin (get_good hv ..)
  · exact fin (putG_good hv ..)
  · exact fin (move_good hv ..)
  · exact fin (clear_good hv ..)
  · exact fin (push_good hv ..)
  · exact fin (pop_good hv ..)
  · exact fin (slot_good hv ..)

end Go.Proofs.Ytnhombeagbhccaa
