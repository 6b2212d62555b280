/- Package graph, program side: what a graph is behind a change. -/
import Derived.Test.YtnhombeagbhccaaGraph3
namespace Go.Proofs.Ytnhombeagbhccaa
open Go.RowKit

theorem Sl.set {w : World} {e : Nat} {v : Value} {xs : List Value} (h : Sl w e v xs) {b : Nat} (hb : slB v xs = some b) (j : Nat) (u : Value) : Sl (w.setCell ⟨b, j, none⟩ u) e v (xs.set j u) := by
  rcases h with ⟨rfl, _⟩ | ⟨h1, h2⟩
  · simp [slB] at hb
  · simp only [slB, h1, if_false] at hb
    refine .inr ⟨by simpa using h1, ?_⟩
    obtain ⟨g, cap, cur, rfl, _⟩ := h2.2.resolve_left (fun ⟨e, _⟩ => by subst e; simp [Value.ownBlock] at hb)
    simp only [Value.ownBlock, Option.some.injEq] at hb
    subst hb
    simpa using (h2.stored j u).1

theorem slB_map_set {α : Type} (v : Value) (f : α → Value) (xs : List α) (j : Nat) (x : α) : slB v ((xs.set j x).map f) = slB v (xs.map f) := by
  unfold slB
  cases xs <;> cases j <;> simp

theorem getD_set_self {α : Type} [Inhabited α] {l : List α} {i : Nat} {x : α} (h : i < l.length) : (l.set i x).getD i default = x := by simp [List.getD, h]
theorem getD_set_other {α : Type} [Inhabited α] {l : List α} {i j : Nat} {x : α} (h : i ≠ j) : (l.set i x).getD j default = l.getD j default := by simp [List.getD, h]

variable {w w' : World} {g : Nat} {L : PG} {A : AG}

theorem own_congr {A B : AG} (hG : slB L.gs (A.G.map I) = slB L.gs (B.G.map I)) (hr : ∀ k, slB (L.rv k) ((A.O.getD k default).refs.map I) = slB (L.rv k) ((B.O.getD k default).refs.map I))
    (hd : ∀ k, slB (L.dv k) ((A.O.getD k default).data.map U) = slB (L.dv k) ((B.O.getD k default).data.map U)) (x : Role) : L.own g A x = L.own g B x := by
  cases x with
  | G => exact hG
  | rf k => exact hr k
  | dt k => exact hd k
  | _ => rfl
theorem ok_congr {A B : AG} (hT : A.T.length = B.T.length) (hO : A.O.length = B.O.length) (x : Role) : Role.ok A x ↔ Role.ok B x := by
  cases x <;> simp [Role.ok, hT, hO]

theorem PG.Apart.congr {A B : AG} (h : L.Apart g A) (h1 : ∀ x, L.own g A x = L.own g B x) (h2 : ∀ x, Role.ok A x ↔ Role.ok B x) : L.Apart g B := by
  intro x y b hx hy e1 e2
  exact h x y b ((h2 x).2 hx) ((h2 y).2 hy) ((h1 x).trans e1) ((h1 y).trans e2)
theorem foot_congr {A B : AG} (h1 : ∀ x, L.own g A x = L.own g B x) (h2 : ∀ x, Role.ok A x ↔ Role.ok B x) (b : Nat) : L.foot g A b ↔ L.foot g B b := by
  constructor
  · rintro ⟨x, hx, e⟩; exact ⟨x, (h2 x).1 hx, (h1 x).symm.trans e⟩
  · rintro ⟨x, hx, e⟩; exact ⟨x, (h2 x).2 hx, (h1 x).trans e⟩

/-- Two parts' blocks differ. -/
theorem PG.Apart.ne (h : L.Apart g A) {x y : Role} (hx : Role.ok A x) (hy : Role.ok A y) (hne : x ≠ y) {b c : Nat} (e1 : L.own g A x = some b) (e2 : L.own g A y = some c) : b ≠ c := by
  rintro rfl; exact hne (h x y b hx hy e1 e2)

theorem own_setT (t : Int) (R : AR) (x : Role) : L.own g A x = L.own g (A.setT t R) x := own_congr (A := A) (B := A.setT t R) rfl (fun _ => rfl) (fun _ => rfl) x
theorem ok_setT (t : Int) (R : AR) (x : Role) : Role.ok A x ↔ Role.ok (A.setT t R) x := ok_congr (A := A) (B := A.setT t R) (by simp [AG.setT]) rfl x

theorem GAt.setT (h : GAt w g L A) (ha : L.Apart g A) (t : Int) (ht : A.okT t) {R : AR} (hR : RootsAt w' (L.r t.toNat) R) (hf : Fr (· = L.r t.toNat) w w') : GAt w' g L (A.setT t R) := by
  have htl : t.toNat < A.T.length := by unfold AG.okT at ht; omega
  have nb : ∀ x, Role.ok A x → x ≠ .r t.toNat → ∀ b, L.own g A x = some b → ¬ b = L.r t.toNat := fun x hx hne b e => ha.ne hx (y := .r t.toNat) htl hne e rfl
  have hlen : (A.setT t R).T.length = A.T.length := by simp [AG.setT]
  refine ⟨?_, ?_, h.hG.fr hf (nb .G trivial (by simp)), hf.blk h.hm (nb .m trivial (by simp) _ rfl), h.hkv, h.hkn, h.hks, h.hk, ?_, fun k hk => hf.blk (h.ho k hk) (nb (.o k) hk (by simp) _ rfl), fun k hk => (h.hrv k hk).fr hf (nb (.rf k) hk (by simp)), fun k hk => (h.hdv k hk).fr hf (nb (.dt k) hk (by simp)), h.hst⟩
  · rw [hlen]; exact hf.blk h.hg (nb .g trivial (by simp) g rfl)
  · rw [hlen]; exact ownsRow_fr h.ht hf (fun b e => nb .t trivial (by simp) b (by simpa [Value.ownBlock, PG.own] using e))
  · intro i hi
    rw [hlen] at hi
    by_cases e : t.toNat = i
    · subst e
      simp only [AG.setT]
      rw [getD_set_self htl]; exact hR
    · simp only [AG.setT]
      rw [getD_set_other e]
      exact (h.hr i hi).kept (hf.block _ (h.hr i hi).lt (nb (.r i) hi (by simpa using fun x => e x.symm) _ rfl))

theorem own_setG (i : Nat) (x : Int) (y : Role) : L.own g A y = L.own g { A with G := A.G.set i x } y := own_congr (A := A) (B := { A with G := A.G.set i x }) (slB_map_set _ _ _ _ _).symm (fun _ => rfl) (fun _ => rfl) y

theorem GAt.setG (h : GAt w g L A) (ha : L.Apart g A) (i : Nat) (x : Int) {b : Nat} (hb : slB L.gs (A.G.map I) = some b) : GAt (w.setCell ⟨b, i, none⟩ (I x)) g L { A with G := A.G.set i x } := by
  have hf : Fr (· = b) w (w.setCell ⟨b, i, none⟩ (I x)) := (Fr.refl (· = b) w).set _ _ rfl
  have nb : ∀ y, Role.ok A y → y ≠ .G → ∀ c, L.own g A y = some c → ¬ c = b := fun y hy hne c e => ha.ne hy (y := .G) trivial hne e hb
  refine ⟨hf.blk h.hg (nb .g trivial (by simp) g rfl), ownsRow_fr h.ht hf (fun b e => nb .t trivial (by simp) b (by simpa [Value.ownBlock, PG.own] using e)), ?_, hf.blk h.hm (nb .m trivial (by simp) _ rfl), h.hkv, h.hkn, h.hks, h.hk, ?_, fun k hk => hf.blk (h.ho k hk) (nb (.o k) hk (by simp) _ rfl), fun k hk => (h.hrv k hk).fr hf (nb (.rf k) hk (by simp)), fun k hk => (h.hdv k hk).fr hf (nb (.dt k) hk (by simp)), h.hst⟩
  · have := h.hG.set hb i (I x)
    simpa using this
  · intro j hj
    exact (h.hr j hj).kept (hf.block _ (h.hr j hj).lt (nb (.r j) hj (by simp) _ rfl))

theorem own_setRef (k0 : Nat) (i : Nat) (x : Int) (y : Role) : L.own g A y = L.own g { A with O := A.O.set k0 { A.O.getD k0 default with refs := (A.O.getD k0 default).refs.set i x } } y := by
  refine own_congr ?_ (fun k => ?_) (fun k => ?_) y
  · rfl
  · by_cases e : k0 = k
    · subst e
      by_cases hl : k0 < A.O.length
      · simp only; rw [getD_set_self hl, slB_map_set]
      · simp only; rw [List.set_eq_of_length_le (by omega)]
    · simp only; rw [getD_set_other e]
  · by_cases e : k0 = k
    · subst e
      by_cases hl : k0 < A.O.length
      · simp only; rw [getD_set_self hl]
      · simp only; rw [List.set_eq_of_length_le (by omega)]
    · simp only; rw [getD_set_other e]

theorem own_setDat (k0 : Nat) (i : Nat) (x : Int) (y : Role) : L.own g A y = L.own g { A with O := A.O.set k0 { A.O.getD k0 default with data := (A.O.getD k0 default).data.set i x } } y := by
  refine own_congr ?_ (fun k => ?_) (fun k => ?_) y
  · rfl
  · by_cases e : k0 = k
    · subst e
      by_cases hl : k0 < A.O.length
      · simp only; rw [getD_set_self hl]
      · simp only; rw [List.set_eq_of_length_le (by omega)]
    · simp only; rw [getD_set_other e]
  · by_cases e : k0 = k
    · subst e
      by_cases hl : k0 < A.O.length
      · simp only; rw [getD_set_self hl, slB_map_set]
      · simp only; rw [List.set_eq_of_length_le (by omega)]
    · simp only; rw [getD_set_other e]

theorem GAt.setRef (h : GAt w g L A) (ha : L.Apart g A) (k0 i : Nat) (x : Int) (hk0 : k0 < A.O.length) {b : Nat} (hb : slB (L.rv k0) ((A.O.getD k0 default).refs.map I) = some b) :
    GAt (w.setCell ⟨b, i, none⟩ (I x)) g L { A with O := A.O.set k0 { A.O.getD k0 default with refs := (A.O.getD k0 default).refs.set i x } } := by
  have hf : Fr (· = b) w (w.setCell ⟨b, i, none⟩ (I x)) := (Fr.refl (· = b) w).set _ _ rfl
  have nb : ∀ y, Role.ok A y → y ≠ .rf k0 → ∀ c, L.own g A y = some c → ¬ c = b := fun y hy hne c e => ha.ne hy (y := .rf k0) hk0 hne e hb
  refine ⟨hf.blk h.hg (nb .g trivial (by simp) g rfl), ownsRow_fr h.ht hf (fun b e => nb .t trivial (by simp) b (by simpa [Value.ownBlock, PG.own] using e)), h.hG.fr hf (nb .G trivial (by simp)), hf.blk h.hm (nb .m trivial (by simp) _ rfl), h.hkv, by simpa using h.hkn, by simpa using h.hks, by simpa using h.hk, ?_, fun k hk => hf.blk (h.ho k (by simpa using hk)) (nb (.o k) (show k < A.O.length by simpa using hk) (by simp) _ rfl), ?_, ?_, h.hst⟩
  · intro j hj
    exact (h.hr j hj).kept (hf.block _ (h.hr j hj).lt (nb (.r j) hj (by simp) _ rfl))
  · intro k hk
    have hk' : k < A.O.length := by simpa using hk
    by_cases e : k0 = k
    · subst e
      simp only; rw [getD_set_self hk0]
      have := (h.hrv k0 hk0).set hb i (I x)
      simpa using this
    · simp only; rw [getD_set_other e]
      exact (h.hrv k hk').fr hf (nb (.rf k) hk' (by simpa using fun x => e x.symm))
  · intro k hk
    have hk' : k < A.O.length := by simpa using hk
    by_cases e : k0 = k
    · subst e
      simp only; rw [getD_set_self hk0]
      exact (h.hdv k0 hk0).fr hf (nb (.dt k0) hk0 (by simp))
    · simp only; rw [getD_set_other e]
      exact (h.hdv k hk').fr hf (nb (.dt k) hk' (by simp))

theorem GAt.setDat (h : GAt w g L A) (ha : L.Apart g A) (k0 i : Nat) (x : Int) (hk0 : k0 < A.O.length) {b : Nat} (hb : slB (L.dv k0) ((A.O.getD k0 default).data.map U) = some b) :
    GAt (w.setCell ⟨b, i, none⟩ (U x)) g L { A with O := A.O.set k0 { A.O.getD k0 default with data := (A.O.getD k0 default).data.set i x } } := by
  have hf : Fr (· = b) w (w.setCell ⟨b, i, none⟩ (U x)) := (Fr.refl (· = b) w).set _ _ rfl
  have nb : ∀ y, Role.ok A y → y ≠ .dt k0 → ∀ c, L.own g A y = some c → ¬ c = b := fun y hy hne c e => ha.ne hy (y := .dt k0) hk0 hne e hb
  refine ⟨hf.blk h.hg (nb .g trivial (by simp) g rfl), ownsRow_fr h.ht hf (fun b e => nb .t trivial (by simp) b (by simpa [Value.ownBlock, PG.own] using e)), h.hG.fr hf (nb .G trivial (by simp)), hf.blk h.hm (nb .m trivial (by simp) _ rfl), h.hkv, by simpa using h.hkn, by simpa using h.hks, by simpa using h.hk, ?_, fun k hk => hf.blk (h.ho k (by simpa using hk)) (nb (.o k) (show k < A.O.length by simpa using hk) (by simp) _ rfl), ?_, ?_, h.hst⟩
  · intro j hj
    exact (h.hr j hj).kept (hf.block _ (h.hr j hj).lt (nb (.r j) hj (by simp) _ rfl))
  · intro k hk
    have hk' : k < A.O.length := by simpa using hk
    by_cases e : k0 = k
    · subst e
      simp only; rw [getD_set_self hk0]
      exact (h.hrv k0 hk0).fr hf (nb (.rf k0) hk0 (by simp))
    · simp only; rw [getD_set_other e]
      exact (h.hrv k hk').fr hf (nb (.rf k) hk' (by simp))
  · intro k hk
    have hk' : k < A.O.length := by simpa using hk
    by_cases e : k0 = k
    · subst e
      simp only; rw [getD_set_self hk0]
      have := (h.hdv k0 hk0).set hb i (U x)
      simpa using this
    · simp only; rw [getD_set_other e]
      exact (h.hdv k hk').fr hf (nb (.dt k) hk' (by simpa using fun x => e x.symm))

/-! ### A new object -/

def upd {α : Type} (f : Nat → α) (n : Nat) (x : α) : Nat → α := fun k => if k = n then x else f k
theorem upd_self {α : Type} (f : Nat → α) (n : Nat) (x : α) : upd f n x n = x := by simp [upd]
theorem upd_other {α : Type} (f : Nat → α) {n k : Nat} (x : α) (h : k ≠ n) : upd f n x k = f k := by simp [upd, h]

theorem getD_append_lt {α : Type} [Inhabited α] {l m : List α} {i : Nat} (h : i < l.length) : (l ++ m).getD i default = l.getD i default := by
  simp [List.getD, List.getElem?_append_left h]
theorem getD_append_self {α : Type} [Inhabited α] {l : List α} {x : α} : (l ++ [x]).getD l.length default = x := by simp [List.getD]

theorem lk_append_new {l : List (Int × Value)} {k : Int} {v : Value} (h : lk l k = none) : lk (l ++ [(k, v)]) k = some v := by
  unfold lk at *
  cases hf : l.find? (fun p => p.1 == k) with
  | none => simp [List.find?_append, hf]
  | some p => rw [hf] at h; cases h
theorem lk_append_old {l : List (Int × Value)} {k j : Int} {v : Value} (h : j ≠ k) : lk (l ++ [(k, v)]) j = lk l j := by
  have : (k == j) = false := by simpa using fun e => h e.symm
  unfold lk
  simp only [List.find?_append, List.find?_cons, this, List.find?_nil, Option.or_none]

theorem lk_none {l : List (Int × Value)} {k : Int} (h : ∀ p ∈ l, p.1 ≠ k) : lk l k = none := by
  unfold lk
  rw [List.find?_eq_none.2 (fun p hp => by simpa using h p hp)]
  rfl

/-- The number of a new object is no key yet. -/
theorem GAt.freshKey (h : GAt w g L A) : ∀ x ∈ L.es.toList, x.key ≠ I (A.O.length + 1) := by
  intro x hx
  have : (x.key, x.val) ∈ L.es.toList.map (fun e => (e.key, e.val)) := List.mem_map.2 ⟨x, hx, rfl⟩
  rw [h.hkv] at this
  obtain ⟨p, hp, e⟩ := List.mem_map.1 this
  simp only [Prod.mk.injEq] at e
  intro e2
  rw [← e.1] at e2
  injection e2 with _ e2
  have := (h.hks p hp).2
  omega

/-- The layout behind a new object. -/
def PG.add (L : PG) (m : Nat) (es : Array MapEntry) (c : Nat) (ob : Nat) (rv dv : Value) : PG :=
  { L with es := es, c := c, kv := put L.kv (m + 1 : Nat) (Pt ob), o := upd L.o m ob, rv := upd L.rv m rv, dv := upd L.dv m dv }

theorem GAt.add (h : GAt w g L A) (ha : L.Apart g A) {es : Array MapEntry} {c ob : Nat} {rv dv : Value} {refs data : List Int} (hf : Fr (· = L.mb) w w')
    (hm : w'.heap[L.mb]? = some (.map es c)) (hst : MapKept.Stamped es c) (hkv : MapKV es (put L.kv (A.O.length + 1 : Nat) (Pt ob))) (hob : w'.heap[ob]? = some (.cells #[rv, dv] 75 (0, 0)))
    (hrv : Sl w' 3 rv (refs.map I)) (hdv : Sl w' 31 dv (data.map U)) (n1 : w.heap.size ≤ ob) (n2 : ∀ b, slB rv (refs.map I) = some b → w.heap.size ≤ b ∧ b ≠ ob)
    (n3 : ∀ b, slB dv (data.map U) = some b → w.heap.size ≤ b ∧ b ≠ ob ∧ slB rv (refs.map I) ≠ some b) :
    GAt w' g (L.add A.O.length es c ob rv dv) { A with O := A.O ++ [⟨refs, data⟩] } ∧ (L.add A.O.length es c ob rv dv).Apart g { A with O := A.O ++ [⟨refs, data⟩] } ∧
      ∀ b, (L.add A.O.length es c ob rv dv).foot g { A with O := A.O ++ [⟨refs, data⟩] } b → L.foot g A b ∨ w.heap.size ≤ b := by
  have hno : lk L.kv (A.O.length + 1 : Nat) = none := lk_none (fun p hp => by have := (h.hks p hp).2; omega)
  have hput := put_none (v := Pt ob) hno
  have nb : ∀ y, Role.ok A y → y ≠ .m → ∀ c, L.own g A y = some c → ¬ c = L.mb := fun y hy hne c e => ha.ne hy (y := .m) trivial hne e rfl
  have lt : ∀ k, k < (A.O ++ [(⟨refs, data⟩ : AO)]).length → k ≠ A.O.length → k < A.O.length := fun k hk hne => by simp at hk; omega
  refine ⟨⟨hf.blk h.hg (nb .g trivial (by simp) g rfl), ownsRow_fr h.ht hf (fun b e => nb .t trivial (by simp) b (by simpa [Value.ownBlock, PG.own, PG.add] using e)), h.hG.fr hf (nb .G trivial (by simp)), hm, hkv, ?_, ?_, ?_, ?_, ?_, ?_, ?_, hst⟩, ?_, ?_⟩
  · show (put L.kv (A.O.length + 1 : Nat) (Pt ob)).length = _
    rw [hput]; simp [h.hkn]
  · intro p hp
    simp only [PG.add, hput, List.mem_append, List.mem_singleton] at hp
    rcases hp with hp | rfl
    · have := h.hks p hp; simp; omega
    · simp; omega
  · intro k hk
    by_cases e : k = A.O.length
    · subst e
      simp only [PG.add, hput, upd_self]
      exact lk_append_new hno
    · simp only [PG.add, hput, upd_other _ _ e]
      rw [lk_append_old (by omega)]
      exact h.hk k (lt k hk e)
  · intro j hj
    exact (h.hr j hj).kept (hf.block _ (h.hr j hj).lt (nb (.r j) hj (by simp) _ rfl))
  · intro k hk
    by_cases e : k = A.O.length
    · subst e; simp only [PG.add, upd_self]; exact hob
    · simp only [PG.add, upd_other _ _ e]; exact hf.blk (h.ho k (lt k hk e)) (nb (.o k) (lt k hk e) (by simp) _ rfl)
  · intro k hk
    by_cases e : k = A.O.length
    · subst e; simp only [PG.add, upd_self, getD_append_self]; exact hrv
    · have hl := lt k hk e
      simp only [PG.add, upd_other _ _ e]
      rw [getD_append_lt hl]; exact (h.hrv k hl).fr hf (nb (.rf k) hl (by simp))
  · intro k hk
    by_cases e : k = A.O.length
    · subst e; simp only [PG.add, upd_self, getD_append_self]; exact hdv
    · have hl := lt k hk e
      simp only [PG.add, upd_other _ _ e]
      rw [getD_append_lt hl]; exact (h.hdv k hl).fr hf (nb (.dt k) hl (by simp))
  all_goals
    -- an old part owns what it owned; a new one a new block
    have key : ∀ x b, Role.ok { A with O := A.O ++ [(⟨refs, data⟩ : AO)] } x → (L.add A.O.length es c ob rv dv).own g { A with O := A.O ++ [⟨refs, data⟩] } x = some b →
        (Role.ok A x ∧ L.own g A x = some b) ∨ (w.heap.size ≤ b ∧ ((x = .o A.O.length ∧ b = ob) ∨ (x = .rf A.O.length ∧ slB rv (refs.map I) = some b) ∨ (x = .dt A.O.length ∧ slB dv (data.map U) = some b))) := by
      intro x b hx e
      cases x with
      | o k =>
        by_cases ek : k = A.O.length
        · subst ek
          simp only [PG.own, PG.add, upd_self, Option.some.injEq] at e
          exact .inr ⟨by omega, .inl ⟨rfl, e.symm⟩⟩
        · simp only [PG.own, PG.add, upd_other _ _ ek] at e
          exact .inl ⟨lt k hx ek, e⟩
      | rf k =>
        by_cases ek : k = A.O.length
        · subst ek
          simp only [PG.own, PG.add, upd_self, getD_append_self] at e
          exact .inr ⟨(n2 b e).1, .inr (.inl ⟨rfl, e⟩)⟩
        · have hl := lt k hx ek
          simp only [PG.own, PG.add, upd_other _ _ ek] at e
          rw [getD_append_lt hl] at e
          exact .inl ⟨hl, e⟩
      | dt k =>
        by_cases ek : k = A.O.length
        · subst ek
          simp only [PG.own, PG.add, upd_self, getD_append_self] at e
          exact .inr ⟨(n3 b e).1, .inr (.inr ⟨rfl, e⟩)⟩
        · have hl := lt k hx ek
          simp only [PG.own, PG.add, upd_other _ _ ek] at e
          rw [getD_append_lt hl] at e
          exact .inl ⟨hl, e⟩
      | g => exact .inl ⟨trivial, e⟩
      | t => exact .inl ⟨trivial, e⟩
      | G => exact .inl ⟨trivial, e⟩
      | m => exact .inl ⟨trivial, e⟩
      | r i => exact .inl ⟨hx, e⟩
  · intro x y b hx hy e1 e2
    rcases key x b hx e1 with ⟨h1, h2⟩ | ⟨h1, h2⟩
    · have hb := h.lt b ⟨x, h1, h2⟩
      rcases key y b hy e2 with ⟨h3, h4⟩ | ⟨h3, _⟩
      · exact ha x y b h1 h3 h2 h4
      · omega
    · rcases key y b hy e2 with ⟨h3, h4⟩ | ⟨h3, h4⟩
      · have hb := h.lt b ⟨y, h3, h4⟩; omega
      · rcases h2 with ⟨rfl, e⟩ | ⟨rfl, e⟩ | ⟨rfl, e⟩ <;> rcases h4 with ⟨rfl, e'⟩ | ⟨rfl, e'⟩ | ⟨rfl, e'⟩
        · rfl
        · exact absurd e (n2 b e').2
        · exact absurd e (n3 b e').2.1
        · exact absurd e' (n2 b e).2
        · rfl
        · exact absurd e (n3 b e').2.2
        · exact absurd e' (n3 b e).2.1
        · exact absurd e' (n3 b e).2.2
        · rfl
  · rintro b ⟨x, hx, e⟩
    rcases key x b hx e with h1 | h1
    · exact .inl ⟨x, h1.1, h1.2⟩
    · exact .inr h1.1

end Go.Proofs.Ytnhombeagbhccaa
