/- A clone's objects, some of them made so far. -/
import Derived.Test.YtnhombeagbhccaaLook
import Derived.Test.YtnhombeagbhccaaRange
namespace Go.Proofs.Ytnhombeagbhccaa
open Go.RowKit

def cown (A : AG) (o : Nat → Nat) (rv dv : Nat → Value) : Role → Option Nat
  | .o k => some (o k)
  | .rf k => slB (rv k) ((A.O.getD k default).refs.map I)
  | .dt k => slB (dv k) ((A.O.getD k default).data.map U)
  | _ => none
def cok (A : AG) (dn : Nat → Bool) : Role → Prop
  | .o k | .rf k | .dt k => k < A.O.length ∧ dn k = true
  | _ => False

structure CObj (w : World) (B mb : Nat) (es : Array MapEntry) (c : Nat) (kv : List (Int × Value)) (o : Nat → Nat) (rv dv : Nat → Value) (A : AG) (dn : Nat → Bool) : Prop where
  hm : w.heap[mb]? = some (.map es c)
  hst : MapKept.Stamped es c
  hkv : MapKV es kv
  hks : ∀ p ∈ kv, 1 ≤ p.1 ∧ p.1 ≤ A.O.length
  hk : ∀ k, k < A.O.length → lk kv (k + 1 : Nat) = if dn k = true then some (Pt (o k)) else none
  ho : ∀ k, k < A.O.length → dn k = true → w.heap[o k]? = some (.cells #[rv k, dv k] 75 (0, 0)) ∧ B ≤ o k
  hr : ∀ k, k < A.O.length → dn k = true → Sl w 3 (rv k) ((A.O.getD k default).refs.map I) ∧ ∀ b, slB (rv k) ((A.O.getD k default).refs.map I) = some b → B ≤ b
  hd : ∀ k, k < A.O.length → dn k = true → Sl w 31 (dv k) ((A.O.getD k default).data.map U) ∧ ∀ b, slB (dv k) ((A.O.getD k default).data.map U) = some b → B ≤ b
  ap : ∀ x y b, cok A dn x → cok A dn y → cown A o rv dv x = some b → cown A o rv dv y = some b → x = y

variable {w w1 w2 : World} {A : AG} {B mb c : Nat} {es : Array MapEntry} {kv : List (Int × Value)} {o : Nat → Nat} {rv dv : Nat → Value} {dn : Nat → Bool}

theorem CObj.start (hm : w.heap[mb]? = some (.map #[] 0)) : CObj w B mb #[] 0 [] o rv dv A (fun _ => false) :=
  ⟨hm, MapKept.stamped_empty 0, rfl, (fun p hp => by cases hp), (fun k hk => rfl), (fun k _ h => by cases h), (fun k _ h => by cases h), (fun k _ h => by cases h), (fun x y b hx => by cases x <;> simp [cok] at hx)⟩

theorem CObj.lt (h : CObj w B mb es c kv o rv dv A dn) {x : Role} (hx : cok A dn x) {b : Nat} (e : cown A o rv dv x = some b) : B ≤ b ∧ b < w.heap.size := by
  cases x <;> simp only [cok, cown, Option.some.injEq] at hx e
  · have := h.ho _ hx.1 hx.2
    subst e
    exact ⟨this.2, lt_of_block this.1⟩
  · have := h.hr _ hx.1 hx.2
    exact ⟨this.2 b e, this.1.lt b e⟩
  · have := h.hd _ hx.1 hx.2
    exact ⟨this.2 b e, this.1.lt b e⟩

theorem CObj.fr {F : Nat → Prop} (h : CObj w B mb es c kv o rv dv A dn) (hf : Fr F w w1) (h1 : ¬ F mb) (h2 : ∀ x b, cok A dn x → cown A o rv dv x = some b → ¬ F b) : CObj w1 B mb es c kv o rv dv A dn :=
  ⟨hf.blk h.hm h1, h.hst, h.hkv, h.hks, h.hk, fun k hk hd => ⟨hf.blk (h.ho k hk hd).1 (h2 (.o k) _ ⟨hk, hd⟩ rfl), (h.ho k hk hd).2⟩,
    fun k hk hd => ⟨(h.hr k hk hd).1.fr hf (fun b e => h2 (.rf k) b ⟨hk, hd⟩ e), (h.hr k hk hd).2⟩, fun k hk hd => ⟨(h.hd k hk hd).1.fr hf (fun b e => h2 (.dt k) b ⟨hk, hd⟩ e), (h.hd k hk hd).2⟩, h.ap⟩

theorem CObj.freshKey (h : CObj w B mb es c kv o rv dv A dn) {k : Nat} (hk : k < A.O.length) (hd : dn k = false) : lk kv ((k : Int) + 1) = none := by
  have := h.hk k hk
  rw [hd] at this
  simpa using this

/-- One object more. -/
theorem CObj.add (h : CObj w B mb es c kv o rv dv A dn) {k0 : Nat} (hk0 : k0 < A.O.length) (hdn : dn k0 = false) (n1 : New w w1) (hB : B ≤ w.heap.size) (hmb : mb < B) {ob : Nat} {v1 v2 : Value} {es' : Array MapEntry} {c' : Nat}
    (hob : w1.heap[ob]? = some (.cells #[v1, v2] 75 (0, 0))) (lob : w.heap.size ≤ ob) (s1 : Sl w1 3 v1 ((A.O.getD k0 default).refs.map I)) (s2 : Sl w1 31 v2 ((A.O.getD k0 default).data.map U))
    (l1 : ∀ b, slB v1 ((A.O.getD k0 default).refs.map I) = some b → w.heap.size ≤ b ∧ b ≠ ob) (l2 : ∀ b, slB v2 ((A.O.getD k0 default).data.map U) = some b → w.heap.size ≤ b ∧ b ≠ ob ∧ slB v1 ((A.O.getD k0 default).refs.map I) ≠ some b)
    (f2 : Fr (· = mb) w1 w2) (hm : w2.heap[mb]? = some (.map es' c')) (hst : MapKept.Stamped es' c') (hkv : MapKV es' (put kv ((k0 : Int) + 1) (Pt ob))) :
    CObj w2 B mb es' c' (put kv ((k0 : Int) + 1) (Pt ob)) (upd o k0 ob) (upd rv k0 v1) (upd dv k0 v2) A (upd dn k0 true) := by
  have hno := h.freshKey hk0 hdn
  have hput := put_none (v := Pt ob) hno
  have f12 : Fr (· = mb) w w2 := (n1.to _).trans f2
  have ne : ∀ b, B ≤ b → ¬ b = mb := fun b hb => by omega
  have old : ∀ k, k ≠ k0 → upd dn k0 true k = dn k := fun k hk => upd_other _ _ hk
  refine ⟨hm, hst, hkv, ?_, ?_, ?_, ?_, ?_, ?_⟩
  · intro p hp
    rw [hput] at hp
    rcases List.mem_append.1 hp with hp | hp
    · exact h.hks p hp
    · simp at hp; subst hp; simp only; omega
  · intro k hk
    rw [hput]
    by_cases e : k = k0
    · subst e
      rw [upd_self, upd_self, if_pos rfl]
      have := lk_append_new (v := Pt ob) hno
      simpa using this
    · rw [old k e, upd_other _ _ e, lk_append_old (by omega)]
      exact h.hk k hk
  · intro k hk hd
    by_cases e : k = k0
    · subst e
      rw [upd_self, upd_self, upd_self]
      exact ⟨f2.blk hob (ne _ (by omega)), by omega⟩
    · rw [old k e] at hd
      rw [upd_other _ _ e, upd_other _ _ e, upd_other _ _ e]
      have := h.ho k hk hd
      exact ⟨f12.blk this.1 (ne _ this.2), this.2⟩
  · intro k hk hd
    by_cases e : k = k0
    · subst e
      rw [upd_self]
      exact ⟨s1.fr f2 (fun b e => ne _ (by have := l1 b e; omega)), fun b e => by have := l1 b e; omega⟩
    · rw [old k e] at hd
      rw [upd_other _ _ e]
      have := h.hr k hk hd
      exact ⟨this.1.fr f12 (fun b e => ne _ (this.2 b e)), this.2⟩
  · intro k hk hd
    by_cases e : k = k0
    · subst e
      rw [upd_self]
      exact ⟨s2.fr f2 (fun b e => ne _ (by have := l2 b e; omega)), fun b e => by have := l2 b e; omega⟩
    · rw [old k e] at hd
      rw [upd_other _ _ e]
      have := h.hd k hk hd
      exact ⟨this.1.fr f12 (fun b e => ne _ (this.2 b e)), this.2⟩
  · -- who owns what
    have key : ∀ x b, cok A (upd dn k0 true) x → cown A (upd o k0 ob) (upd rv k0 v1) (upd dv k0 v2) x = some b →
        (cok A dn x ∧ cown A o rv dv x = some b) ∨ (w.heap.size ≤ b ∧ ((x = .o k0 ∧ b = ob) ∨ (x = .rf k0 ∧ slB v1 ((A.O.getD k0 default).refs.map I) = some b) ∨ (x = .dt k0 ∧ slB v2 ((A.O.getD k0 default).data.map U) = some b))) := by
      intro x b hx e
      cases x with
      | o k =>
        by_cases ek : k = k0
        · subst ek
          simp only [cown, upd_self, Option.some.injEq] at e
          exact .inr ⟨by omega, .inl ⟨rfl, e.symm⟩⟩
        · simp only [cok, old k ek] at hx
          simp only [cown, upd_other _ _ ek] at e
          exact .inl ⟨hx, e⟩
      | rf k =>
        by_cases ek : k = k0
        · subst ek
          simp only [cown, upd_self] at e
          exact .inr ⟨(l1 b e).1, .inr (.inl ⟨rfl, e⟩)⟩
        · simp only [cok, old k ek] at hx
          simp only [cown, upd_other _ _ ek] at e
          exact .inl ⟨hx, e⟩
      | dt k =>
        by_cases ek : k = k0
        · subst ek
          simp only [cown, upd_self] at e
          exact .inr ⟨(l2 b e).1, .inr (.inr ⟨rfl, e⟩)⟩
        · simp only [cok, old k ek] at hx
          simp only [cown, upd_other _ _ ek] at e
          exact .inl ⟨hx, e⟩
      | g => exact hx.elim
      | t => exact hx.elim
      | G => exact hx.elim
      | m => exact hx.elim
      | r i => exact hx.elim
    intro x y b hx hy e1 e2
    rcases key x b hx e1 with ⟨h1, h2⟩ | ⟨h1, h2⟩
    · have hb := h.lt h1 h2
      rcases key y b hy e2 with ⟨h3, h4⟩ | ⟨h3, _⟩
      · exact h.ap x y b h1 h3 h2 h4
      · omega
    · rcases key y b hy e2 with ⟨h3, h4⟩ | ⟨h3, h4⟩
      · have hb := h.lt h3 h4; omega
      · rcases h2 with ⟨rfl, e⟩ | ⟨rfl, e⟩ | ⟨rfl, e⟩ <;> rcases h4 with ⟨rfl, e'⟩ | ⟨rfl, e'⟩ | ⟨rfl, e'⟩
        · rfl
        · exact absurd e (l1 b e').2
        · exact absurd e (l2 b e').2.1
        · exact absurd e' (l1 b e).2
        · rfl
        · exact absurd e (l2 b e').2.2
        · exact absurd e' (l2 b e).2.1
        · exact absurd e' (l2 b e).2.2
        · rfl

/-- An entry of a graph's objects. -/
theorem GAt.entry {g : Nat} {L : PG} (h : GAt w g L A) {e : MapEntry} (he : e ∈ L.es.toList) : ∃ k, k < A.O.length ∧ e.key = I ((k : Int) + 1) ∧ e.val = Pt (L.o k) := by
  obtain ⟨i, hi⟩ := List.getElem?_of_mem he
  have hkv : L.es.toList.map (fun e => (e.key, e.val)) = L.kv.map (fun p => (I p.1, p.2)) := h.hkv
  have h1 := congrArg (fun l => l[i]?) hkv
  simp only [List.getElem?_map, hi, Option.map_some] at h1
  obtain ⟨p, hp, hpe⟩ : ∃ p, L.kv[i]? = some p ∧ (e.key, e.val) = (I p.1, p.2) := by
    cases hp : L.kv[i]? with
    | none => rw [hp] at h1; cases h1
    | some p => rw [hp] at h1; injection h1 with h1; exact ⟨p, rfl, h1⟩
  have hpm := List.mem_of_getElem? hp
  have hks := h.hks p hpm
  obtain ⟨k, hk⟩ : ∃ k : Nat, p.1 = (k : Int) + 1 := ⟨(p.1 - 1).toNat, by omega⟩
  have hkl : k < A.O.length := by omega
  injection hpe with e1 e2
  refine ⟨k, hkl, by rw [e1, hk], ?_⟩
  -- the value at that key
  have hlk := h.hk k hkl
  unfold lk at hlk
  cases hf : L.kv.find? (fun q => q.1 == ((k + 1 : Nat) : Int)) with
  | none => rw [hf] at hlk; cases hlk
  | some q =>
    rw [hf] at hlk
    injection hlk with hq
    have hqk : q.1 = (k : Int) + 1 := by have := List.find?_some hf; simpa using this
    obtain ⟨j, hj⟩ := List.getElem?_of_mem (List.mem_of_find?_eq_some hf)
    have h2 := congrArg (fun l => l[j]?) hkv
    simp only [List.getElem?_map, hj, Option.map_some] at h2
    obtain ⟨e', he', hee⟩ : ∃ e', L.es.toList[j]? = some e' ∧ (e'.key, e'.val) = (I q.1, q.2) := by
      cases he' : L.es.toList[j]? with
      | none => rw [he'] at h2; cases h2
      | some e' => rw [he'] at h2; injection h2 with h2; exact ⟨e', rfl, h2⟩
    injection hee with e3 e4
    have : e' = e := entry_eq_of_key ((MapKept.stamped_iff _ _).1 h.hst).2.2 (List.mem_of_getElem? he') he (by rw [e3, e1, hqk, hk])
    rw [← this, e4]
    exact hq

/-- Each object has its entry. -/
theorem GAt.hasEntry {g : Nat} {L : PG} (h : GAt w g L A) {k : Nat} (hk : k < A.O.length) : ∃ e ∈ L.es.toList, e.key = I ((k : Int) + 1) := by
  have hlk := h.hk k hk
  unfold lk at hlk
  cases hf : L.kv.find? (fun q => q.1 == ((k + 1 : Nat) : Int)) with
  | none => rw [hf] at hlk; cases hlk
  | some q =>
    have hqk : q.1 = (k : Int) + 1 := by have := List.find?_some hf; simpa using this
    have hm : (I q.1, q.2) ∈ L.kv.map (fun p => (I p.1, p.2)) := List.mem_map.2 ⟨q, List.mem_of_find?_eq_some hf, rfl⟩
    have hkv : L.es.toList.map (fun e => (e.key, e.val)) = L.kv.map (fun p => (I p.1, p.2)) := h.hkv
    rw [← hkv] at hm
    obtain ⟨e, he, ee⟩ := List.mem_map.1 hm
    injection ee with e1 _
    exact ⟨e, he, by rw [e1, hqk]⟩

end Go.Proofs.Ytnhombeagbhccaa
