/- The reference's graph: where it lies, and what a part that turns leaves of it. -/
import Derived.Test.YtnhombeagbhccaaMineX
namespace Go.Proofs.Ytnhombeagbhccaa
open Go.RowKit

/-- Cells two by two. -/
def pairs (f g : Nat → Value) : Nat → List Value
  | 0 => []
  | n + 1 => pairs f g n ++ [f n, g n]

theorem pairs_len (f g : Nat → Value) (n : Nat) : (pairs f g n).length = n * 2 := by
  induction n with
  | zero => rfl
  | succ n ih => simp [pairs, ih]; omega

theorem pairs_get0 (f g : Nat → Value) {n i : Nat} (h : i < n) : (pairs f g n)[2 * i]? = some (f i) := by
  induction n with
  | zero => omega
  | succ n ih =>
    have hl := pairs_len f g n
    by_cases e : i = n
    · subst e
      simp only [pairs]
      rw [List.getElem?_append_right (by omega), show 2 * i - (pairs f g i).length = 0 by omega]; rfl
    · simp only [pairs]
      rw [List.getElem?_append_left (by omega)]; exact ih (by omega)

theorem pairs_get1 (f g : Nat → Value) {n i : Nat} (h : i < n) : (pairs f g n)[2 * i + 1]? = some (g i) := by
  induction n with
  | zero => omega
  | succ n ih =>
    have hl := pairs_len f g n
    by_cases e : i = n
    · subst e
      simp only [pairs]
      rw [List.getElem?_append_right (by omega), show 2 * i + 1 - (pairs f g i).length = 1 by omega]; rfl
    · simp only [pairs]
      rw [List.getElem?_append_left (by omega)]; exact ih (by omega)

theorem pairs_congr {f g f' g' : Nat → Value} {n : Nat} (h1 : ∀ i, i < n → f i = f' i) (h2 : ∀ i, i < n → g i = g' i) : pairs f g n = pairs f' g' n := by
  induction n with
  | zero => rfl
  | succ n ih => simp only [pairs]; rw [ih (fun i hi => h1 i (by omega)) (fun i hi => h2 i (by omega)), h1 n (by omega), h2 n (by omega)]

theorem pairs_set (f g : Nat → Value) {n i : Nat} (a b : Value) (h : i < n) : ((pairs f g n).set (2 * i) a).set (2 * i + 1) b = pairs (upd f i a) (upd g i b) n := by
  induction n with
  | zero => omega
  | succ n ih =>
    have hl := pairs_len f g n
    simp only [pairs]
    by_cases e : i = n
    · subst e
      rw [List.set_append_right _ _ (by omega), List.set_append_right _ _ (by omega), show 2 * i - (pairs f g i).length = 0 by omega, show 2 * i + 1 - (pairs f g i).length = 1 by omega]
      rw [pairs_congr (f := upd f i a) (f' := f) (g := upd g i b) (g' := g) (fun j hj => upd_other _ _ (by omega)) (fun j hj => upd_other _ _ (by omega)), upd_self, upd_self]
      rfl
    · rw [List.set_append_left _ _ (by omega), List.set_append_left _ _ (by simp; omega), ih (by omega), upd_other _ _ (by omega), upd_other _ _ (by omega)]

structure RL where
  tv : Value
  gs : Value
  ov : Value
  sv : Nat → Value
  kv : Nat → Value
  rv : Nat → Value
  dv : Nat → Value

inductive RR where
  | r | t | G | o
  | s (i : Nat) | st (i : Nat) | rf (k : Nat) | dt (k : Nat)

def RR.ok (A : AG) : RR → Prop
  | .s i | .st i => i < A.T.length
  | .rf k | .dt k => k < A.O.length
  | _ => True

/-- A part that is written in place. -/
def RR.turns : RR → Prop
  | .s _ | .st _ => False
  | _ => True

def RL.own (L : RL) (r : Nat) (A : AG) : RR → Option Nat
  | .r => some r
  | .t => L.tv.ownBlock
  | .G => slB L.gs (A.G.map I)
  | .o => L.ov.ownBlock
  | .s i => slB (L.sv i) ((A.T.getD i default).slots.map I)
  | .st i => slB (L.kv i) ((A.T.getD i default).stack.map I)
  | .rf k => slB (L.rv k) ((A.O.getD k default).refs.map I)
  | .dt k => slB (L.dv k) ((A.O.getD k default).data.map U)

/-- A part lies as it should. -/
def RPart (w : World) (r : Nat) (L : RL) (A : AG) : RR → Prop
  | .r => w.heap[r]? = some (.cells #[L.tv, L.gs, L.ov] 63 (0, 0))
  | .t => w.ownsRow 0 65 2 L.tv A.T.length (pairs L.sv L.kv A.T.length)
  | .G => Sl w 3 L.gs (A.G.map I)
  | .o => w.ownsRow 0 82 2 L.ov A.O.length (pairs L.rv L.dv A.O.length)
  | .s i => Sl w 3 (L.sv i) ((A.T.getD i default).slots.map I)
  | .st i => Sl w 3 (L.kv i) ((A.T.getD i default).stack.map I)
  | .rf k => Sl w 3 (L.rv k) ((A.O.getD k default).refs.map I)
  | .dt k => Sl w 31 (L.dv k) ((A.O.getD k default).data.map U)

def RAt (w : World) (r : Nat) (L : RL) (A : AG) : Prop := ∀ x, RR.ok A x → RPart w r L A x
def RL.Apart (L : RL) (r : Nat) (A : AG) : Prop := ∀ x y b, x.turns → RR.ok A x → RR.ok A y → L.own r A x = some b → L.own r A y = some b → x = y
def RL.foot (L : RL) (r : Nat) (A : AG) (b : Nat) : Prop := ∃ x, RR.ok A x ∧ L.own r A x = some b

variable {w w' w1 : World} {r : Nat} {L L' : RL} {A A' A1 : AG}

theorem RPart.fr {F : Nat → Prop} {x : RR} (h : RPart w r L A x) (hf : Fr F w w') (hF : ∀ b, L.own r A x = some b → ¬ F b) : RPart w' r L A x := by
  cases x with
  | r => exact hf.blk h (hF r rfl)
  | t => exact ownsRow_fr h hf hF
  | o => exact ownsRow_fr h hf hF
  | G => exact Sl.fr h hf hF
  | s i => exact Sl.fr h hf hF
  | st i => exact Sl.fr h hf hF
  | rf k => exact Sl.fr h hf hF
  | dt k => exact Sl.fr h hf hF

theorem RPart.lt {x : RR} (h : RPart w r L A x) : ∀ b, L.own r A x = some b → b < w.heap.size := by
  intro b hb
  cases x with
  | r => cases hb; exact lt_of_block h
  | t => exact (World.ownsRow.lt h b hb).2
  | o => exact (World.ownsRow.lt h b hb).2
  | G => exact Sl.lt h b hb
  | s i => exact Sl.lt h b hb
  | st i => exact Sl.lt h b hb
  | rf k => exact Sl.lt h b hb
  | dt k => exact Sl.lt h b hb

theorem RAt.lt (h : RAt w r L A) : ∀ b, L.foot r A b → b < w.heap.size := by
  rintro b ⟨x, hx, hb⟩
  exact (h x hx).lt b hb

theorem RAt.kept {F : Nat → Prop} (h : RAt w r L A) (hf : Fr F w w') (hF : ∀ b, L.foot r A b → ¬ F b) : RAt w' r L A :=
  fun x hx => (h x hx).fr hf (fun b hb => hF b ⟨x, hx, hb⟩)

theorem RAt.onNew (h : RAt w r L A) (hn : New w w') : RAt w' r L A := h.kept (F := fun _ => False) hn (fun _ _ x => x)

/-- From a graph to a graph: the new one lies where the old one lay, and in new blocks; nothing else that was there turns. -/
def RGoes (w w' : World) (r : Nat) (L : RL) (A A' : AG) : Prop :=
  ∃ L', RAt w' r L' A' ∧ L'.Apart r A' ∧ (∀ b, L'.foot r A' b → L.foot r A b ∨ w.heap.size ≤ b) ∧ Fr (L.foot r A) w w'

theorem RGoes.refl (h : RAt w r L A) (ha : L.Apart r A) : RGoes w w r L A A := ⟨L, h, ha, fun _ x => .inl x, Fr.refl _ _⟩

theorem RGoes.onNew (h : RAt w r L A) (ha : L.Apart r A) (hn : New w w') : RGoes w w' r L A A := ⟨L, h.onNew hn, ha, fun _ x => .inl x, hn.to _⟩

theorem RGoes.past (h : RGoes w w1 r L A A') (hn : New w1 w') : RGoes w w' r L A A' := by
  obtain ⟨L', h1, h2, h3, h4⟩ := h
  exact ⟨L', h1.onNew hn, h2, h3, h4.trans (hn.to _)⟩

theorem RGoes.then (h : RGoes w w1 r L A A1) (k : ∀ L1, RAt w1 r L1 A1 → L1.Apart r A1 → RGoes w1 w' r L1 A1 A') : RGoes w w' r L A A' := by
  obtain ⟨L1, h1, h2, h3, h4⟩ := h
  obtain ⟨L', k1, k2, k3, k4⟩ := k L1 h1 h2
  refine ⟨L', k1, k2, fun b hb => ?_, h4.trans' k4 (fun _ _ x => x) (fun i hi hf => ?_)⟩
  · rcases k3 b hb with h | h
    · exact h3 b h
    · exact .inr (Nat.le_trans h4.size h)
  · rcases h3 i hf with h | h
    · exact h
    · omega

/-- Behind new blocks, a part that goes. -/
theorem RGoes.after (hn : New w w1) (h : RGoes w1 w' r L A A') : RGoes w w' r L A A' := by
  obtain ⟨L', k1, k2, k3, k4⟩ := h
  refine ⟨L', k1, k2, fun b hb => ?_, Fr.trans' hn k4 (fun _ _ x => x.elim) (fun i hi hf => hf)⟩
  rcases k3 b hb with h | h
  · exact .inl h
  · exact .inr (Nat.le_trans hn.size h)

/-- One part turns; what hangs on it is told anew (C). -/
theorem RAt.turn {F : Nat → Prop} (h : RAt w r L A) (ha : L.Apart r A) (hf : Fr F w w') (C : RR → Prop)
    (hF : ∀ b, F b → L.foot r A b)
    (keep : ∀ x, RR.ok A' x → ¬ C x → RR.ok A x ∧ (RPart w' r L A x → RPart w' r L' A' x) ∧ L'.own r A' x = L.own r A x ∧ ∀ b, L.own r A x = some b → ¬ F b)
    (new : ∀ x, RR.ok A' x → C x → RPart w' r L' A' x ∧ ∀ b, L'.own r A' x = some b →
      (∃ y, RR.ok A y ∧ L.own r A y = some b ∧ (y = x ∨ ¬ y.turns ∧ ¬ x.turns)) ∨ (w.heap.size ≤ b ∧ ∀ y, RR.ok A' y → C y → L'.own r A' y = some b → y = x ∨ ¬ x.turns ∧ ¬ y.turns)) :
    RGoes w w' r L A A' := by
  have old : ∀ x b, RR.ok A' x → L'.own r A' x = some b → (∃ y, RR.ok A y ∧ L.own r A y = some b ∧ (y = x ∨ ¬ y.turns ∧ ¬ x.turns)) ∨ (C x ∧ w.heap.size ≤ b ∧ ∀ y, RR.ok A' y → C y → L'.own r A' y = some b → y = x ∨ ¬ x.turns ∧ ¬ y.turns) := by
    intro x b hx hb
    by_cases hc : C x
    · rcases (new x hx hc).2 b hb with h1 | h1
      · exact .inl h1
      · exact .inr ⟨hc, h1⟩
    · have k := keep x hx hc
      rw [k.2.2.1] at hb
      exact .inl ⟨x, k.1, hb, .inl rfl⟩
  refine ⟨L', fun x hx => ?_, ?_, ?_, hf.mono (fun i _ hi => hF i hi)⟩
  · by_cases hc : C x
    · exact (new x hx hc).1
    · have k := keep x hx hc
      exact k.2.1 ((h x k.1).fr hf k.2.2.2)
  · intro x y b ht hx hy e1 e2
    rcases old x b hx e1 with ⟨x', hx', e1', h1⟩ | ⟨c1, n1, u1⟩
    · have l1 := (h x' hx').lt b e1'
      rcases old y b hy e2 with ⟨y', hy', e2', h2⟩ | ⟨c2, n2, u2⟩
      · have e : x' = x := h1.resolve_right (fun z => z.2 ht)
        subst e
        have e := ha x' y' b ht hx' hy' e1' e2'
        subst e
        rcases h2 with h2 | ⟨h2, _⟩
        · exact h2
        · exact absurd ht h2
      · omega
    · rcases old y b hy e2 with ⟨y', hy', e2', h2⟩ | ⟨c2, n2, u2⟩
      · have := (h y' hy').lt b e2'; omega
      · rcases u1 y hy c2 e2 with e | e
        · exact e.symm
        · exact absurd ht e.1
  · rintro b ⟨x, hx, e⟩
    rcases old x b hx e with ⟨y, hy, e', _⟩ | ⟨_, n1, _⟩
    · exact .inl ⟨y, hy, e'⟩
    · exact .inr n1

theorem RL.Apart.ne (ha : L.Apart r A) {x y : RR} (hm : x.turns) (hx : RR.ok A x) (hy : RR.ok A y) (hne : x ≠ y) {b : Nat} (e1 : L.own r A y = some b) : L.own r A x ≠ some b :=
  fun e => hne (ha x y b hm hx hy e e1)

/-- A thread's roots turn. -/
theorem RAt.setT (h : RAt w r L A) (ha : L.Apart r A) {t : Nat} (ht : t < A.T.length) {R : AR} {sv kv : Value} (hf : Fr (fun b => L.tv.ownBlock = some b) w w')
    (hT : w'.ownsRow 0 65 2 L.tv A.T.length (pairs (upd L.sv t sv) (upd L.kv t kv) A.T.length)) (hs : Sl w' 3 sv (R.slots.map I)) (hk : Sl w' 3 kv (R.stack.map I))
    (fs : ∀ b, slB sv (R.slots.map I) = some b → L.own r A (.s t) = some b ∨ L.own r A (.st t) = some b ∨ w.heap.size ≤ b)
    (fk : ∀ b, slB kv (R.stack.map I) = some b → L.own r A (.s t) = some b ∨ L.own r A (.st t) = some b ∨ w.heap.size ≤ b) :
    RGoes w w' r L A { A with T := A.T.set t R } := by
  have nF : ∀ x, RR.ok A x → x ≠ .t → ∀ b, L.own r A x = some b → ¬ L.tv.ownBlock = some b := fun x hx hne b e => ha.ne (x := .t) trivial trivial hx (fun e => hne e.symm) e
  have g0 : (A.T.set t R).getD t default = R := by simp [List.getD, ht]
  have g1 : ∀ i, i ≠ t → (A.T.set t R).getD i default = A.T.getD i default := fun i hi => by simp [List.getD, Ne.symm hi]
  have hlen : (A.T.set t R).length = A.T.length := by simp
  refine RAt.turn (L' := { L with sv := upd L.sv t sv, kv := upd L.kv t kv }) h ha hf (fun x => x = .t ∨ x = .s t ∨ x = .st t) (fun b hb => ⟨.t, trivial, hb⟩) ?_ ?_
  · intro x hx hc
    have hxok : RR.ok A x := by cases x <;> first | trivial | (simp only [RR.ok] at hx ⊢; first | exact hx | (simp at hx; exact hx))
    refine ⟨hxok, ?_, ?_, fun b hb => nF x hxok (fun e => hc (.inl e)) b hb⟩
    · cases x with
      | s i =>
        have hi : i ≠ t := fun e => hc (.inr (.inl (by rw [e])))
        simp only [RPart]
        rw [g1 i hi, upd_other _ _ hi]; exact id
      | st i =>
        have hi : i ≠ t := fun e => hc (.inr (.inr (by rw [e])))
        simp only [RPart]
        rw [g1 i hi, upd_other _ _ hi]; exact id
      | t => exact absurd (.inl rfl) hc
      | r => exact id
      | G => exact id
      | o => exact id
      | rf k => exact id
      | dt k => exact id
    · cases x with
      | s i =>
        have hi : i ≠ t := fun e => hc (.inr (.inl (by rw [e])))
        simp only [RL.own]
        rw [g1 i hi, upd_other _ _ hi]
      | st i =>
        have hi : i ≠ t := fun e => hc (.inr (.inr (by rw [e])))
        simp only [RL.own]
        rw [g1 i hi, upd_other _ _ hi]
      | t => exact absurd (.inl rfl) hc
      | _ => rfl
  · rintro x hx (rfl | rfl | rfl)
    · refine ⟨?_, fun b hb => .inl ⟨.t, trivial, hb, .inl rfl⟩⟩
      simp only [RPart, hlen]; exact hT
    · refine ⟨?_, fun b hb => ?_⟩
      · simp only [RPart]; rw [g0, upd_self]; exact hs
      · simp only [RL.own] at hb; rw [g0, upd_self] at hb
        rcases fs b hb with h1 | h1 | h1
        · exact .inl ⟨.s t, ht, h1, .inl rfl⟩
        · exact .inl ⟨.st t, ht, h1, .inr ⟨id, id⟩⟩
        · refine .inr ⟨h1, ?_⟩
          rintro y hy (rfl | rfl | rfl) e
          · have := (h .t trivial).lt b e; omega
          · exact .inl rfl
          · exact .inr ⟨id, id⟩
    · refine ⟨?_, fun b hb => ?_⟩
      · simp only [RPart]; rw [g0, upd_self]; exact hk
      · simp only [RL.own] at hb; rw [g0, upd_self] at hb
        rcases fk b hb with h1 | h1 | h1
        · exact .inl ⟨.s t, ht, h1, .inr ⟨id, id⟩⟩
        · exact .inl ⟨.st t, ht, h1, .inl rfl⟩
        · refine .inr ⟨h1, ?_⟩
          rintro y hy (rfl | rfl | rfl) e
          · have := (h .t trivial).lt b e; omega
          · exact .inr ⟨id, id⟩
          · exact .inl rfl

/-- A global root turns. -/
theorem RAt.setG (h : RAt w r L A) (ha : L.Apart r A) (i : Nat) (x : Int) {b : Nat} (hb : slB L.gs (A.G.map I) = some b) : RGoes w (w.setCell ⟨b, i, none⟩ (I x)) r L A { A with G := A.G.set i x } := by
  have hf : Fr (· = b) w (w.setCell ⟨b, i, none⟩ (I x)) := (Fr.refl (· = b) w).set _ _ rfl
  have nF : ∀ x, RR.ok A x → x ≠ .G → ∀ c, L.own r A x = some c → ¬ c = b := fun x hx hne c e e2 => ha.ne (x := .G) trivial (by trivial) hx (fun e => hne e.symm) (e2 ▸ e) hb
  refine RAt.turn (L' := L) h ha hf (fun x => x = .G) (fun c hc => ⟨.G, by trivial, by rw [hc]; exact hb⟩) ?_ ?_
  · intro x hx hc
    have hxok : RR.ok A x := by cases x <;> exact hx
    refine ⟨hxok, ?_, ?_, nF x hxok hc⟩
    · cases x <;> first | exact id | exact absurd rfl hc
    · cases x <;> first | rfl | exact absurd rfl hc
  · rintro x hx rfl
    refine ⟨?_, fun c hc => .inl ⟨.G, by trivial, ?_, .inl rfl⟩⟩
    · have := Sl.set (h .G (by trivial)) hb i (I x)
      simpa [RPart] using this
    · simp only [RL.own] at hc ⊢
      rwa [slB_map_set] at hc

/-- An object's references turn. -/
theorem RAt.setRef (h : RAt w r L A) (ha : L.Apart r A) (k0 i : Nat) (x : Int) (hk0 : k0 < A.O.length) {b : Nat} (hb : slB (L.rv k0) ((A.O.getD k0 default).refs.map I) = some b) :
    RGoes w (w.setCell ⟨b, i, none⟩ (I x)) r L A { A with O := A.O.set k0 { A.O.getD k0 default with refs := (A.O.getD k0 default).refs.set i x } } := by
  have hf : Fr (· = b) w (w.setCell ⟨b, i, none⟩ (I x)) := (Fr.refl (· = b) w).set _ _ rfl
  have nF : ∀ x, RR.ok A x → x ≠ .rf k0 → ∀ c, L.own r A x = some c → ¬ c = b := fun x hx hne c e e2 => ha.ne (x := .rf k0) (by trivial) hk0 hx (fun e => hne e.symm) (e2 ▸ e) hb
  have g0 : ∀ o : AO, (A.O.set k0 o).getD k0 default = o := fun o => by simp [List.getD, hk0]
  have g1 : ∀ (o : AO) k, k ≠ k0 → (A.O.set k0 o).getD k default = A.O.getD k default := fun o k hk => by simp [List.getD, Ne.symm hk]
  have hlen : ∀ o : AO, (A.O.set k0 o).length = A.O.length := fun o => by simp
  refine RAt.turn (L' := L) h ha hf (fun x => x = .rf k0) (fun c hc => ⟨.rf k0, hk0, by rw [hc]; exact hb⟩) ?_ ?_
  · intro x hx hc
    have hxok : RR.ok A x := by cases x <;> simp only [RR.ok, hlen] at hx ⊢ <;> exact hx
    refine ⟨hxok, ?_, ?_, nF x hxok hc⟩
    · cases x with
      | rf k => simp only [RPart]; rw [g1 _ k (fun e => hc (by rw [e]))]; exact id
      | dt k =>
        simp only [RPart]
        by_cases e : k = k0
        · subst e; rw [g0]; exact id
        · rw [g1 _ k e]; exact id
      | o => simp only [RPart, hlen]; exact id
      | _ => exact id
    · cases x with
      | rf k => simp only [RL.own]; rw [g1 _ k (fun e => hc (by rw [e]))]
      | dt k =>
        simp only [RL.own]
        by_cases e : k = k0
        · subst e; rw [g0]
        · rw [g1 _ k e]
      | _ => rfl
  · rintro x hx rfl
    refine ⟨?_, fun c hc => .inl ⟨.rf k0, hk0, ?_, .inl rfl⟩⟩
    · have := Sl.set (h (.rf k0) hk0) hb i (I x)
      simp only [RPart]; rw [g0]; simpa using this
    · simp only [RL.own] at hc ⊢
      rw [g0] at hc
      simp only [slB_map_set] at hc
      exact hc

/-- An object's data turn. -/
theorem RAt.setDat (h : RAt w r L A) (ha : L.Apart r A) (k0 i : Nat) (x : Int) (hk0 : k0 < A.O.length) {b : Nat} (hb : slB (L.dv k0) ((A.O.getD k0 default).data.map U) = some b) :
    RGoes w (w.setCell ⟨b, i, none⟩ (U x)) r L A { A with O := A.O.set k0 { A.O.getD k0 default with data := (A.O.getD k0 default).data.set i x } } := by
  have hf : Fr (· = b) w (w.setCell ⟨b, i, none⟩ (U x)) := (Fr.refl (· = b) w).set _ _ rfl
  have nF : ∀ x, RR.ok A x → x ≠ .dt k0 → ∀ c, L.own r A x = some c → ¬ c = b := fun x hx hne c e e2 => ha.ne (x := .dt k0) (by trivial) hk0 hx (fun e => hne e.symm) (e2 ▸ e) hb
  have g0 : ∀ o : AO, (A.O.set k0 o).getD k0 default = o := fun o => by simp [List.getD, hk0]
  have g1 : ∀ (o : AO) k, k ≠ k0 → (A.O.set k0 o).getD k default = A.O.getD k default := fun o k hk => by simp [List.getD, Ne.symm hk]
  have hlen : ∀ o : AO, (A.O.set k0 o).length = A.O.length := fun o => by simp
  refine RAt.turn (L' := L) h ha hf (fun x => x = .dt k0) (fun c hc => ⟨.dt k0, hk0, by rw [hc]; exact hb⟩) ?_ ?_
  · intro x hx hc
    have hxok : RR.ok A x := by cases x <;> simp only [RR.ok, hlen] at hx ⊢ <;> exact hx
    refine ⟨hxok, ?_, ?_, nF x hxok hc⟩
    · cases x with
      | dt k => simp only [RPart]; rw [g1 _ k (fun e => hc (by rw [e]))]; exact id
      | rf k =>
        simp only [RPart]
        by_cases e : k = k0
        · subst e; rw [g0]; exact id
        · rw [g1 _ k e]; exact id
      | o => simp only [RPart, hlen]; exact id
      | _ => exact id
    · cases x with
      | dt k => simp only [RL.own]; rw [g1 _ k (fun e => hc (by rw [e]))]
      | rf k =>
        simp only [RL.own]
        by_cases e : k = k0
        · subst e; rw [g0]
        · rw [g1 _ k e]
      | _ => rfl
  · rintro x hx rfl
    refine ⟨?_, fun c hc => .inl ⟨.dt k0, hk0, ?_, .inl rfl⟩⟩
    · have := Sl.set (h (.dt k0) hk0) hb i (U x)
      simp only [RPart]; rw [g0]; simpa using this
    · simp only [RL.own] at hc ⊢
      rw [g0] at hc
      simp only [slB_map_set] at hc
      exact hc

/-- A new object. -/
theorem RAt.addO (h : RAt w r L A) (ha : L.Apart r A) {refs data : List Int} {ov rv dv : Value} (hf : Fr (fun b => L.ov.ownBlock = some b ∨ b = r) w w')
    (hR : w'.heap[r]? = some (.cells #[L.tv, L.gs, ov] 63 (0, 0))) (hO : w'.ownsRow 0 82 2 ov (A.O.length + 1) (pairs L.rv L.dv A.O.length ++ [rv, dv]))
    (hrv : Sl w' 3 rv (refs.map I)) (hdv : Sl w' 31 dv (data.map U)) (no : ∀ b, ov.ownBlock = some b → L.ov.ownBlock = some b ∨ w.heap.size ≤ b)
    (nr : ∀ b, slB rv (refs.map I) = some b → w.heap.size ≤ b ∧ ov.ownBlock ≠ some b) (nd : ∀ b, slB dv (data.map U) = some b → w.heap.size ≤ b ∧ ov.ownBlock ≠ some b ∧ slB rv (refs.map I) ≠ some b) :
    RGoes w w' r L A { A with O := A.O ++ [⟨refs, data⟩] } := by
  have nF : ∀ x, RR.ok A x → x ≠ .o → x ≠ .r → ∀ c, L.own r A x = some c → ¬ (L.ov.ownBlock = some c ∨ c = r) := by
    rintro x hx h1 h2 c e (e2 | e2)
    · exact ha.ne (x := .o) (by trivial) (by trivial) hx (fun e => h1 e.symm) e e2
    · exact ha.ne (x := .r) (by trivial) (by trivial) hx (fun e => h2 e.symm) e (by rw [e2]; rfl)
  have g0 : (A.O ++ [(⟨refs, data⟩ : AO)]).getD A.O.length default = ⟨refs, data⟩ := by simp [List.getD]
  have g1 : ∀ k, k < A.O.length → (A.O ++ [(⟨refs, data⟩ : AO)]).getD k default = A.O.getD k default := fun k hk => by simp [List.getD, List.getElem?_append_left hk]
  have hlen : (A.O ++ [(⟨refs, data⟩ : AO)]).length = A.O.length + 1 := by simp
  have hr := lt_of_block (h .r (by trivial))
  refine RAt.turn (L' := { L with ov := ov, rv := upd L.rv A.O.length rv, dv := upd L.dv A.O.length dv }) h ha hf (fun x => x = .r ∨ x = .o ∨ x = .rf A.O.length ∨ x = .dt A.O.length)
    (fun c hc => hc.elim (fun e => ⟨.o, by trivial, e⟩) (fun e => ⟨.r, by trivial, by rw [e]; rfl⟩)) ?_ ?_
  · intro x hx hc
    have hxok : RR.ok A x := by
      cases x with
      | rf k => simp only [RR.ok, hlen] at hx ⊢; have : k ≠ A.O.length := fun e => hc (.inr (.inr (.inl (by rw [e])))); omega
      | dt k => simp only [RR.ok, hlen] at hx ⊢; have : k ≠ A.O.length := fun e => hc (.inr (.inr (.inr (by rw [e])))); omega
      | _ => exact hx
    refine ⟨hxok, ?_, ?_, nF x hxok (fun e => hc (.inr (.inl e))) (fun e => hc (.inl e))⟩
    · cases x with
      | rf k => simp only [RPart]; rw [g1 k hxok, upd_other _ _ (by simp only [RR.ok] at hxok; omega)]; exact id
      | dt k => simp only [RPart]; rw [g1 k hxok, upd_other _ _ (by simp only [RR.ok] at hxok; omega)]; exact id
      | o => exact absurd (.inr (.inl rfl)) hc
      | r => exact absurd (.inl rfl) hc
      | _ => exact id
    · cases x with
      | rf k => simp only [RL.own]; rw [g1 k hxok, upd_other _ _ (by simp only [RR.ok] at hxok; omega)]
      | dt k => simp only [RL.own]; rw [g1 k hxok, upd_other _ _ (by simp only [RR.ok] at hxok; omega)]
      | o => exact absurd (.inr (.inl rfl)) hc
      | r => exact absurd (.inl rfl) hc
      | _ => rfl
  · rintro x hx (rfl | rfl | rfl | rfl)
    · exact ⟨hR, fun b hb => .inl ⟨.r, by trivial, hb, .inl rfl⟩⟩
    · refine ⟨?_, fun b hb => ?_⟩
      · simp only [RPart, hlen, pairs, upd_self]
        rw [pairs_congr (f := upd L.rv A.O.length rv) (f' := L.rv) (g := upd L.dv A.O.length dv) (g' := L.dv) (fun j hj => upd_other _ _ (by omega)) (fun j hj => upd_other _ _ (by omega))]
        exact hO
      · rcases no b hb with h1 | h1
        · exact .inl ⟨.o, by trivial, h1, .inl rfl⟩
        · refine .inr ⟨h1, ?_⟩
          rintro y hy (rfl | rfl | rfl | rfl) e
          · cases e; omega
          · exact .inl rfl
          · simp only [RL.own] at e hb; rw [g0, upd_self] at e; exact absurd hb (nr b e).2
          · simp only [RL.own] at e hb; rw [g0, upd_self] at e; exact absurd hb (nd b e).2.1
    · refine ⟨?_, fun b hb => ?_⟩
      · simp only [RPart]; rw [g0, upd_self]; exact hrv
      · simp only [RL.own] at hb; rw [g0, upd_self] at hb
        refine .inr ⟨(nr b hb).1, ?_⟩
        have h1 := (nr b hb).1
        rintro y hy (rfl | rfl | rfl | rfl) e
        · cases e; omega
        · exact absurd e (nr b hb).2
        · exact .inl rfl
        · simp only [RL.own] at e; rw [g0, upd_self] at e; exact absurd hb (nd b e).2.2
    · refine ⟨?_, fun b hb => ?_⟩
      · simp only [RPart]; rw [g0, upd_self]; exact hdv
      · simp only [RL.own] at hb; rw [g0, upd_self] at hb
        refine .inr ⟨(nd b hb).1, ?_⟩
        have h1 := (nd b hb).1
        rintro y hy (rfl | rfl | rfl | rfl) e
        · cases e; omega
        · exact absurd e (nd b hb).2.1
        · simp only [RL.own] at e; rw [g0, upd_self] at e; exact absurd e (nd b hb).2.2
        · exact .inl rfl

/-! ### What cells hold -/

theorem RAt.c0 (h : RAt w r L A) : w.cell? ⟨r, 0, none⟩ = some L.tv := cell_blk (h .r (by trivial)) rfl
theorem RAt.c1 (h : RAt w r L A) : w.cell? ⟨r, 1, none⟩ = some L.gs := cell_blk (h .r (by trivial)) rfl
theorem RAt.c2 (h : RAt w r L A) : w.cell? ⟨r, 2, none⟩ = some L.ov := cell_blk (h .r (by trivial)) rfl

/-- The row of threads. -/
theorem RAt.tshape (h : RAt w r L A) (hn : 0 < A.T.length) : ∃ tb tc, L.tv = .slice (some ⟨tb, 0, none⟩) A.T.length tc ∧ A.T.length ≤ tc ∧ L.tv.ownBlock = some tb ∧ (∀ j, w.frozen? ⟨tb, j, none⟩ = false) ∧
    ∀ i, i < A.T.length → w.cell? ⟨tb, i * 2, none⟩ = some (L.sv i) ∧ w.cell? ⟨tb, i * 2 + 1, none⟩ = some (L.kv i) := by
  have ht := h .t (by trivial)
  simp only [RPart] at ht
  rcases ht.2 with ⟨_, h0⟩ | ⟨g, cap, cur, e, h1, h2, h3, _⟩
  · omega
  · rw [e] at ht
    refine ⟨g, cap, e, h3, by rw [e]; rfl, fun j => ht.frozenAt j, fun i hi => ⟨?_, ?_⟩⟩
    · rw [ht.cellAt (i * 2) (by omega), Nat.mul_comm]; exact pairs_get0 _ _ hi
    · rw [ht.cellAt (i * 2 + 1) (by omega), Nat.mul_comm]; exact pairs_get1 _ _ hi

/-- The row of objects. -/
theorem RAt.oshape (h : RAt w r L A) : ∃ ao oc, L.ov = .slice ao A.O.length oc ∧ A.O.length ≤ oc ∧ (0 < A.O.length → ∃ ob, ao = some ⟨ob, 0, none⟩ ∧
    ∀ i, i < A.O.length → w.cell? ⟨ob, i * 2, none⟩ = some (L.rv i) ∧ w.cell? ⟨ob, i * 2 + 1, none⟩ = some (L.dv i)) := by
  have ht := h .o (by trivial)
  simp only [RPart] at ht
  rcases ht.2 with ⟨e, h0⟩ | ⟨g, cap, cur, e, h1, h2, h3, _⟩
  · exact ⟨none, 0, by rw [e, h0], by omega, fun h => by omega⟩
  · rw [e] at ht
    refine ⟨_, cap, e, h3, fun _ => ⟨g, rfl, fun i hi => ⟨?_, ?_⟩⟩⟩
    · rw [ht.cellAt (i * 2) (by omega), Nat.mul_comm]; exact pairs_get0 _ _ hi
    · rw [ht.cellAt (i * 2 + 1) (by omega), Nat.mul_comm]; exact pairs_get1 _ _ hi

end Go.Proofs.Ytnhombeagbhccaa
