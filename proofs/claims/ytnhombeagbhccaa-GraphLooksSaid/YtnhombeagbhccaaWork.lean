/- What is reached, and the list of work that finds it. No program and no memory stand here. -/
import Derived.Test.YtnhombeagbhccaaAbs
namespace Go.Proofs.Ytnhombeagbhccaa

/-- What is reached. -/
inductive AG.Reached (A : AG) : Int → Prop
  | glob {x : Int} : x ∈ A.G → x ≠ 0 → A.Reached x
  | root {R : AR} {x : Int} : R ∈ A.T → x ∈ R.refs → x ≠ 0 → A.Reached x
  | ref {n x : Int} : A.Reached n → x ∈ (A.obj n).refs → x ≠ 0 → A.Reached x

structure AG.Small (A : AG) : Prop where
  thr : A.T.length ≤ 64
  slots : ∀ R ∈ A.T, R.slots.length ≤ 8
  stack : ∀ R ∈ A.T, R.stack.length ≤ 16
  glob : A.G.length ≤ 8
  refs : ∀ o ∈ A.O, o.refs.length ≤ 95
  data : ∀ o ∈ A.O, o.data.length ≤ 95
  objs : A.O.length ≤ 1000

theorem nodup_len : ∀ (m : Nat) (S : List Int), S.Nodup → (∀ x ∈ S, 1 ≤ x ∧ x ≤ m) → S.length ≤ m
  | 0, S, _, h => by
    cases S with
    | nil => simp
    | cons x S => have := h x (by simp); omega
  | m + 1, S, hn, h => by
    by_cases hm : ((m + 1 : Nat) : Int) ∈ S
    · have h1 := nodup_len m (S.erase ((m + 1 : Nat) : Int)) (hn.erase _) (fun x hx => by
        have h2 := (hn.mem_erase_iff).1 hx
        have h3 := h x h2.2
        have h4 := h2.1
        omega)
      rw [List.length_erase_of_mem hm] at h1
      omega
    · have := nodup_len m S hn (fun x hx => by
        have h3 := h x hx
        have : x ≠ ((m + 1 : Nat) : Int) := fun e => hm (e ▸ hx)
        omega)
      omega

/-- The work that is left, and what has been seen. -/
structure Work (A : AG) (ws S : List Int) : Prop where
  wk : ∀ x ∈ ws, 0 ≤ x ∧ x ≤ A.O.length ∧ (x ≠ 0 → A.Reached x)
  s : ∀ x ∈ S, 1 ≤ x ∧ x ≤ A.O.length ∧ A.Reached x
  globs : ∀ x ∈ A.G, x ≠ 0 → x ∈ ws ∨ x ∈ S
  roots : ∀ R ∈ A.T, ∀ x ∈ R.refs, x ≠ 0 → x ∈ ws ∨ x ∈ S
  refs : ∀ n ∈ S, ∀ x ∈ (A.obj n).refs, x ≠ 0 → x ∈ ws ∨ x ∈ S
  nd : S.Nodup
  len : ws.length + (A.O.length - S.length) * 95 ≤ 8 + A.T.length * 24 + A.O.length * 95

variable {A : AG} {ws S : List Int} {n : Int}

theorem Work.le (h : Work A ws S) : S.length ≤ A.O.length := nodup_len _ _ h.nd (fun x hx => by have := h.s x hx; omega)

theorem Work.pop (h : Work A (ws ++ [n]) S) (hn : n = 0 ∨ n ∈ S) : Work A ws S := by
  have key : ∀ x : Int, x ≠ 0 → (x ∈ ws ++ [n] ∨ x ∈ S) → x ∈ ws ∨ x ∈ S := by
    intro x hx h
    rcases h with h | h
    · rcases List.mem_append.1 h with h | h
      · exact .inl h
      · have : x = n := by simpa using h
        subst this
        rcases hn with rfl | hn
        · exact absurd rfl hx
        · exact .inr hn
    · exact .inr h
  refine ⟨fun x hx => h.wk x (by simp [hx]), h.s, fun x hx h0 => key x h0 (h.globs x hx h0), fun R hR x hx h0 => key x h0 (h.roots R hR x hx h0), fun m hm x hx h0 => key x h0 (h.refs m hm x hx h0), h.nd, ?_⟩
  have := h.len
  simp only [List.length_append, List.length_singleton] at this
  omega

theorem Work.push (h : Work A (ws ++ [n]) S) (h0 : n ≠ 0) (hn : n ∉ S) (hv : A.Valid) (hsm : (A.obj n).refs.length ≤ 95) (hm : A.obj n ∈ A.O) : Work A (ws ++ (A.obj n).refs) (S ++ [n]) := by
  obtain ⟨n1, n2, n3⟩ := h.wk n (by simp)
  have key : ∀ x : Int, (x ∈ ws ++ [n] ∨ x ∈ S) → x ∈ ws ++ (A.obj n).refs ∨ x ∈ S ++ [n] := by
    intro x h
    rcases h with h | h
    · rcases List.mem_append.1 h with h | h
      · exact .inl (by simp [h])
      · exact .inr (by simp at h; simp [h])
    · exact .inr (by simp [h])
  have hnd : (S ++ [n]).Nodup := List.nodup_append.2 ⟨h.nd, by simp, fun a ha b hb e => by simp at hb; subst hb; subst e; exact hn ha⟩
  have hs : ∀ x ∈ S ++ [n], 1 ≤ x ∧ x ≤ A.O.length ∧ A.Reached x := by
    intro x hx
    rcases List.mem_append.1 hx with hx | hx
    · exact h.s x hx
    · have : x = n := by simpa using hx
      subst this
      exact ⟨by omega, n2, n3 h0⟩
  refine ⟨?_, hs, fun x hx h0 => key x (h.globs x hx h0), fun R hR x hx h0 => key x (h.roots R hR x hx h0), ?_, hnd, ?_⟩
  · intro x hx
    rcases List.mem_append.1 hx with hx | hx
    · exact h.wk x (by simp [hx])
    · have := hv.refs _ hm x hx
      exact ⟨this.1, this.2, fun hx0 => .ref (n3 h0) hx hx0⟩
  · intro m hm x hx hx0
    rcases List.mem_append.1 hm with hm | hm
    · exact key x (h.refs m hm x hx hx0)
    · have : m = n := by simpa using hm
      subst this
      exact .inl (by simp [hx])
  · have h1 := nodup_len A.O.length _ hnd (fun x hx => by have := hs x hx; omega)
    have h2 := h.len
    simp only [List.length_append, List.length_singleton] at h1 h2 ⊢
    omega

theorem Work.done (h : Work A [] S) (x : Int) : x ∈ S ↔ A.Reached x := by
  constructor
  · exact fun hx => (h.s x hx).2.2
  · intro hx
    induction hx with
    | glob hx h0 => exact (h.globs _ hx h0).resolve_left (by simp)
    | root hR hx h0 => exact (h.roots _ hR _ hx h0).resolve_left (by simp)
    | ref _ hx h0 ih => exact (h.refs _ ih _ hx h0).resolve_left (by simp)

/-- The work at the beginning. -/
def AG.work (A : AG) (k : Nat) : List Int := A.G ++ (A.T.take k).flatMap AR.all

theorem AG.work_succ (A : AG) {k : Nat} (h : k < A.T.length) : A.work (k + 1) = A.work k ++ (A.T.getD k default).all := by
  unfold AG.work
  rw [List.take_succ_eq_append_getElem h, List.flatMap_append, List.append_assoc]
  simp [List.getD, h]

theorem AG.work_len (A : AG) (hs : A.Small) (k : Nat) (hk : k ≤ A.T.length) : (A.work k).length ≤ 8 + k * 24 := by
  induction k with
  | zero => have := hs.glob; simp [AG.work]; omega
  | succ k ih =>
    rw [A.work_succ (by omega)]
    have h1 := ih (by omega)
    have hm : A.T.getD k default ∈ A.T := by
      have : k < A.T.length := by omega
      simp [List.getD, this]
    have h2 : (A.T.getD k default).all.length ≤ 24 := by
      have := hs.slots _ hm; have := hs.stack _ hm
      refine Nat.le_trans (List.length_filter_le _ _) ?_
      simp only [AR.refs, List.length_append]; omega
    simp only [List.length_append]
    omega

theorem Work.start (hv : A.Valid) (hs : A.Small) : Work A (A.work A.T.length) [] := by
  have hw : A.work A.T.length = A.G ++ A.T.flatMap AR.all := by simp [AG.work]
  refine ⟨?_, by simp, fun x hx h0 => .inl (by rw [hw]; simp [hx]), fun R hR x hx h0 => .inl ?_, by simp, by simp, ?_⟩
  · intro x hx
    rw [hw] at hx
    rcases List.mem_append.1 hx with hx | hx
    · have := hv.glob x hx
      exact ⟨this.1, this.2, fun h0 => .glob hx h0⟩
    · obtain ⟨R, hR, hx⟩ := List.mem_flatMap.1 hx
      have hx2 := (List.mem_filter.1 hx).1
      rcases List.mem_append.1 hx2 with h | h
      · have := hv.slots R hR x h
        exact ⟨this.1, this.2, fun h0 => .root hR hx2 h0⟩
      · have := hv.stack R hR x h
        exact ⟨this.1, this.2, fun h0 => .root hR hx2 h0⟩
  · rw [hw]
    refine List.mem_append.2 (.inr (List.mem_flatMap.2 ⟨R, hR, ?_⟩))
    exact List.mem_filter.2 ⟨hx, by simpa using h0⟩
  · have := A.work_len hs A.T.length (Nat.le_refl _)
    simp only [List.length_nil, Nat.sub_zero]
    omega

/-- A list of what is reached, in order. -/
structure AG.Told (A : AG) (l : List Int) : Prop where
  sorted : l.Pairwise (· < ·)
  mem : ∀ x, x ∈ l ↔ A.Reached x

theorem sorted_told (h : Work A [] S) {ts : List Int} (hp : ts.Perm S) : A.Told (ts.mergeSort (fun x y => decide (x ≤ y))) := by
  refine ⟨?_, fun x => ?_⟩
  · have h1 := List.pairwise_mergeSort (le := fun x y : Int => decide (x ≤ y)) (fun a b c => by simpa using Int.le_trans) (fun a b => by simpa using Int.le_total a b) ts
    have h2 : (ts.mergeSort (fun x y : Int => decide (x ≤ y))).Nodup := (List.mergeSort_perm ts _).nodup_iff.2 (hp.nodup_iff.2 h.nd)
    refine (h1.and h2).imp ?_
    intro a b hab
    have h3 : a ≤ b := by simpa using hab.1
    have h4 : a ≠ b := hab.2
    omega
  · rw [← h.done x, (List.mergeSort_perm ts _).mem_iff, hp.mem_iff]

theorem AG.Valid.reached (hv : A.Valid) {x : Int} (h : A.Reached x) : 1 ≤ x ∧ x ≤ A.O.length := by
  have key : ∀ x : Int, A.Reached x → 0 ≤ x ∧ x ≤ A.O.length ∧ x ≠ 0 := by
    intro x h
    induction h with
    | glob hx h0 => have := hv.glob _ hx; omega
    | root hR hx h0 =>
      rcases List.mem_append.1 hx with h | h
      · have := hv.slots _ hR _ h; omega
      · have := hv.stack _ hR _ h; omega
    | @ref n x hn hx h0 ih =>
      have hm : A.obj n ∈ A.O := by
        unfold AG.obj
        have : n.toNat - 1 < A.O.length := by omega
        simp [List.getD, this]
      have := hv.refs _ hm _ hx; omega
  have := key x h
  omega

end Go.Proofs.Ytnhombeagbhccaa
