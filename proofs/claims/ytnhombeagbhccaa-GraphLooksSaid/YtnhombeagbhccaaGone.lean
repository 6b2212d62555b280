/- What GraphGone leans on, in plain words. No program and no memory stand here. -/
import Derived.Test.YtnhombeagbhccaaActs
namespace Go.Proofs.Ytnhombeagbhccaa

variable {A : AG}

theorem slotE_error {t i e : Int} (h : A.slotE t i = .error e) : e = 2 := by
  unfold AG.slotE at h
  split at h
  · split at h
    · cases h
    · injection h with h; exact h.symm
  · injection h with h; exact h.symm

theorem alloc_made (A : AG) (t a b c : Int) : ((A.alloc t a b c).2.2 = 0 → (A.alloc t a b c).2.1 = A.O.length + 1 ∧ (A.alloc t a b c).1.O.length = A.O.length + 1) ∧ ((A.alloc t a b c).2.2 ≠ 0 → (A.alloc t a b c).1.O.length = A.O.length) := by
  unfold AG.alloc
  split
  · rename_i e he
    have := slotE_error he
    subst this
    exact ⟨fun h => by simp at h, fun _ => rfl⟩
  · split
    · exact ⟨fun _ => ⟨rfl, by simp [AG.setS, AG.setT]⟩, fun h => by simp at h⟩
    · exact ⟨fun h => by simp at h, fun _ => rfl⟩

theorem load_or (t a b c : Int) : (A.load t a b c).2.1 = 0 ∨ A.Reached (A.load t a b c).2.1 := by
  unfold AG.load
  split
  · exact .inl rfl
  · split
    · exact .inl rfl
    · rename_i n hn
      split
      · have hm : (A.obj n).refs.getD c.toNat 0 ∈ (A.obj n).refs := mem_getD0' (by omega)
        by_cases h0 : (A.obj n).refs.getD c.toNat 0 = 0
        · exact .inl h0
        · exact .inr (.ref (obj_reached hn) hm h0)
      · exact .inl rfl

theorem get_or (t a b : Int) : (A.get t a b).2.1 = 0 ∨ A.Reached (A.get t a b).2.1 := by
  unfold AG.get
  split
  · exact .inl rfl
  · split
    · rename_i hg
      have hm : A.G.getD b.toNat 0 ∈ A.G := mem_getD0' (by unfold AG.okG at hg; omega)
      by_cases h0 : A.G.getD b.toNat 0 = 0
      · exact .inl h0
      · exact .inr (.glob hm h0)
    · exact .inl rfl

/-- What is gone: the numbers that were made, and are not reached. -/
def goneB (l : List Int) (m : Nat) (n : Int) : Bool := decide (1 ≤ n) && decide (n ≤ m) && !decide (n ∈ l)

theorem act_made (hv : A.Valid) (x : AA) (hw : 0 ≤ x.v ∧ x.v < 18446744073709551616) :
    (x.d = 0 → (A.act x).2.2 = 0 → (A.act x).2.1 = A.O.length + 1 ∧ (A.act x).1.O.length = A.O.length + 1) ∧ (¬ (x.d = 0 ∧ (A.act x).2.2 = 0) → (A.act x).1.O.length = A.O.length) := by
  obtain ⟨hg, hn0, hle⟩ := act_good hv x hw
  refine ⟨fun hd he => ?_, fun hne => ?_⟩
  · have e : A.act x = A.alloc x.t x.a x.b x.c := by unfold AG.act; rw [if_pos hd]
    rw [e] at he ⊢
    exact (alloc_made A _ _ _ _).1 he
  · by_cases hd : x.d = 0
    · have e : A.act x = A.alloc x.t x.a x.b x.c := by unfold AG.act; rw [if_pos hd]
      rw [e] at hne ⊢
      exact (alloc_made A _ _ _ _).2 (fun h => hne ⟨hd, h⟩)
    · exact hn0 hd

theorem act_loads (hv : A.Valid) (x : AA) {l : List Int} (ht : A.Told l) (hd : x.d = 1 ∨ x.d = 5) : goneB l A.O.length (A.act x).2.1 = false ∧ (A.act x).2.1 ≤ A.O.length ∧ 0 ≤ (A.act x).2.1 := by
  have key : ((A.act x).2.1 = 0 ∨ A.Reached (A.act x).2.1) := by
    rcases hd with hd | hd
    · have e : A.act x = A.load x.t x.a x.b x.c := by unfold AG.act; rw [if_neg (by omega), if_pos hd]
      rw [e]; exact load_or ..
    · have e : A.act x = A.get x.t x.a x.b := by unfold AG.act; rw [if_neg (by omega), if_neg (by omega), if_neg (by omega), if_neg (by omega), if_neg (by omega), if_pos hd]
      rw [e]; exact get_or ..
  rcases key with h | h
  · rw [h]; exact ⟨by simp [goneB], by omega, by omega⟩
  · have h1 := hv.reached h
    have h2 := (ht.mem _).2 h
    exact ⟨by simp [goneB, h2], h1.2, by omega⟩

theorem act_all (hv : A.Valid) (x : AA) (hw : 0 ≤ x.v ∧ x.v < 18446744073709551616) {l l' : List Int} (ht : A.Told l) (ht' : (A.act x).1.Told l') {n : Int} (hn : n ∈ l') : goneB l A.O.length n = false ∧ 1 ≤ n ∧ n ≤ (A.act x).1.O.length := by
  obtain ⟨hg, hn0, hle⟩ := act_good hv x hw
  have h1 := (ht'.mem n).1 hn
  have h2 := hg.valid.reached h1
  refine ⟨?_, h2.1, h2.2⟩
  rcases hg.steps.reached h1 with h | h
  · have := (ht.mem n).2 h
    simp [goneB, this]
  · subst h
    have : ¬ ((A.O.length : Int) + 1 ≤ A.O.length) := by omega
    simp [goneB, this]

theorem fresh_told (t s k : Nat) : (AG.fresh t s k).Told [] := by
  refine ⟨.nil, fun x => ⟨fun h => (by cases h), fun h => ?_⟩⟩
  exfalso
  have key : ∀ x, (AG.fresh t s k).Reached x → False := by
    intro x h
    induction h with
    | glob hx h0 => exact h0 (mem_rep hx)
    | root hR hx h0 =>
      have := (List.mem_replicate.1 hR).2; subst this
      rcases List.mem_append.1 hx with h | h
      · exact h0 (mem_rep h)
      · cases h
    | ref _ _ _ ih => exact ih
  exact key x h

end Go.Proofs.Ytnhombeagbhccaa
