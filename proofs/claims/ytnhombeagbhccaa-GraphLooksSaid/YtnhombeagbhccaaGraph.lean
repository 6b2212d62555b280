/- Package graph, program side: where a graph lies, and what its helpers answer. -/
import Derived.Test.YtnhombeagbhccaaRoots2
import Derived.Defers
import Derived.Recover
namespace Go.Proofs.Ytnhombeagbhccaa
open Go.RowKit

abbrev U (n : Int) : Value := .int .u64 n

/-- A slice value that holds xs; an empty one owns nothing. -/
def Sl (w : World) (e : TypeId) (v : Value) (xs : List Value) : Prop :=
  (xs = [] ∧ ∃ ao cap, v = .slice ao 0 cap ∧ (ao = none → cap = 0)) ∨ (xs ≠ [] ∧ w.ownsRow 0 e 1 v xs.length xs)
def slB (v : Value) (xs : List Value) : Option Nat := if xs = [] then none else v.ownBlock

theorem ownsRow_fr {w w' : World} {F : Nat → Prop} {base e size n : Nat} {v : Value} {xs : List Value} (h : w.ownsRow base e size v n xs) (hf : Fr F w w') (hb : ∀ b, v.ownBlock = some b → ¬ F b) : w'.ownsRow base e size v n xs := by
  refine ⟨h.1, h.2.imp id ?_⟩
  rintro ⟨g, cap, cur, rfl, h1, h2, h3⟩
  exact ⟨g, cap, cur, rfl, h1, hf.blk h2 (hb g rfl), h3⟩

theorem Sl.fr {w w' : World} {F : Nat → Prop} {e : Nat} {v : Value} {xs : List Value} (h : Sl w e v xs) (hf : Fr F w w') (hb : ∀ b, slB v xs = some b → ¬ F b) : Sl w' e v xs := by
  refine h.imp id ?_
  rintro ⟨h1, h2⟩
  exact ⟨h1, ownsRow_fr h2 hf (fun b e => hb b (by simp [slB, h1, e]))⟩

theorem Sl.lt {w : World} {e : Nat} {v : Value} {xs : List Value} (h : Sl w e v xs) : ∀ b, slB v xs = some b → b < w.heap.size := by
  intro b hb
  rcases h with ⟨h1, _⟩ | ⟨h1, h2⟩
  · simp [slB, h1] at hb
  · simp only [slB, h1, if_false] at hb; exact (h2.lt b hb).2

theorem Sl.of {w : World} {base e : Nat} {v : Value} {n : Nat} {xs : List Value} (h : w.ownsRow base e 1 v n xs) : Sl w e v xs := by
  have hn : xs.length = n := by have := h.1; omega
  subst hn
  have h' : w.ownsRow 0 e 1 v xs.length xs := ⟨h.1, h.2.imp id (fun ⟨g, cap, cur, a, _, c⟩ => ⟨g, cap, cur, a, Nat.zero_le _, c⟩)⟩
  by_cases hx : xs = []
  · subst hx
    refine .inl ⟨rfl, ?_⟩
    rcases h'.2 with ⟨rfl, _⟩ | ⟨g, cap, cur, rfl, _⟩
    · exact ⟨none, 0, rfl, fun _ => rfl⟩
    · exact ⟨_, cap, rfl, fun h => by simp at h⟩
  · exact .inr ⟨hx, h'⟩

/-- The shape of a slice value, and its cells. -/
theorem Sl.shape {w : World} {e : Nat} {v : Value} {xs : List Value} (h : Sl w e v xs) :
    ∃ ao cap, v = .slice ao xs.length cap ∧ xs.length ≤ cap ∧ (ao = none → xs.length = 0 ∧ cap = 0) ∧ (∀ ad, ao = some ad → ∀ j u, xs[j]? = some u → w.cell? (ad.add j) = some u) ∧
      (xs ≠ [] → ∃ b, ao = some ⟨b, 0, none⟩ ∧ slB v xs = some b ∧ ∀ j, w.frozen? ⟨b, j, none⟩ = false) := by
  rcases h with ⟨rfl, ao, cap, rfl, h2⟩ | ⟨h1, h2⟩
  · exact ⟨ao, cap, rfl, by simp, fun e => ⟨rfl, h2 e⟩, fun _ _ j u hj => by simp at hj, fun h => absurd rfl h⟩
  · rcases h2.2 with ⟨rfl, h3⟩ | ⟨g, cap, cur, rfl, h3, h4, h5, _⟩
    · exact absurd (List.eq_nil_of_length_eq_zero h3) h1
    · exact ⟨_, cap, rfl, h5, fun e => by simp at e, fun ad e => by cases e; exact h2.cells rfl, fun _ => ⟨g, rfl, by simp [slB, h1, Value.ownBlock], fun j => free_blk h4⟩⟩

/-- Where a graph's parts lie. -/
structure PG where
  tb : Nat
  tc : Nat
  gs : Value
  mb : Nat
  es : Array MapEntry
  c : Nat
  kv : List (Int × Value)
  r : Nat → Nat
  o : Nat → Nat
  rv : Nat → Value
  dv : Nat → Value

structure GAt (w : World) (g : Nat) (L : PG) (A : AG) : Prop where
  hg : w.heap[g]? = some (.cells #[.slice (some ⟨L.tb, 0, none⟩) A.T.length L.tc, L.gs, .map (some L.mb)] 56 (0, 0))
  ht : w.ownsRow 0 57 1 (.slice (some ⟨L.tb, 0, none⟩) A.T.length L.tc) A.T.length ((List.range A.T.length).map fun i => Pt (L.r i))
  hG : Sl w 3 L.gs (A.G.map I)
  hm : w.heap[L.mb]? = some (.map L.es L.c)
  hkv : MapKV L.es L.kv
  hkn : L.kv.length = A.O.length
  hks : ∀ p ∈ L.kv, 1 ≤ p.1 ∧ p.1 ≤ A.O.length
  hk : ∀ k, k < A.O.length → lk L.kv (k + 1 : Nat) = some (Pt (L.o k))
  hr : ∀ i, i < A.T.length → RootsAt w (L.r i) (A.T.getD i default)
  ho : ∀ k, k < A.O.length → w.heap[L.o k]? = some (.cells #[L.rv k, L.dv k] 75 (0, 0))
  hrv : ∀ k, k < A.O.length → Sl w 3 (L.rv k) ((A.O.getD k default).refs.map I)
  hdv : ∀ k, k < A.O.length → Sl w 31 (L.dv k) ((A.O.getD k default).data.map U)
  hst : MapKept.Stamped L.es L.c

inductive Role where
  | g | t | G | m
  | r (i : Nat) | o (k : Nat) | rf (k : Nat) | dt (k : Nat)

def Role.ok (A : AG) : Role → Prop
  | .r i => i < A.T.length
  | .o k | .rf k | .dt k => k < A.O.length
  | _ => True

def PG.own (L : PG) (g : Nat) (A : AG) : Role → Option Nat
  | .g => some g
  | .t => some L.tb
  | .G => slB L.gs (A.G.map I)
  | .m => some L.mb
  | .r i => some (L.r i)
  | .o k => some (L.o k)
  | .rf k => slB (L.rv k) ((A.O.getD k default).refs.map I)
  | .dt k => slB (L.dv k) ((A.O.getD k default).data.map U)

/-- No block plays two parts. -/
def PG.Apart (L : PG) (g : Nat) (A : AG) : Prop := ∀ x y b, Role.ok A x → Role.ok A y → L.own g A x = some b → L.own g A y = some b → x = y

/-- The blocks of a graph. -/
def PG.foot (L : PG) (g : Nat) (A : AG) (b : Nat) : Prop := ∃ x, Role.ok A x ∧ L.own g A x = some b

theorem GAt.lt {w : World} {g : Nat} {L : PG} {A : AG} (h : GAt w g L A) : ∀ b, L.foot g A b → b < w.heap.size := by
  rintro b ⟨x, hx, hb⟩
  cases x <;> simp only [PG.own, Option.some.injEq, Role.ok] at hb hx
  · subst hb; exact lt_of_block h.hg
  · subst hb; exact (h.ht.lt _ rfl).2
  · exact h.hG.lt b hb
  · subst hb; exact lt_of_block h.hm
  · subst hb; exact (h.hr _ hx).lt
  · subst hb; exact lt_of_block (h.ho _ hx)
  · exact (h.hrv _ hx).lt b hb
  · exact (h.hdv _ hx).lt b hb

theorem GAt.kept {w w' : World} {g : Nat} {L : PG} {A : AG} {F : Nat → Prop} (h : GAt w g L A) (hf : Fr F w w') (hF : ∀ b, L.foot g A b → ¬ F b) : GAt w' g L A := by
  have hb : ∀ x, Role.ok A x → ∀ b, L.own g A x = some b → ¬ F b := fun x hx b e => hF b ⟨x, hx, e⟩
  refine ⟨hf.blk h.hg (hb .g trivial g rfl), ownsRow_fr h.ht hf (fun b e => hb .t trivial b (by simpa [Value.ownBlock, PG.own] using e)), h.hG.fr hf (hb .G trivial), hf.blk h.hm (hb .m trivial _ rfl), h.hkv, h.hkn, h.hks, h.hk, ?_, ?_, ?_, ?_, h.hst⟩
  · intro i hi; exact (h.hr i hi).kept (hf.block _ (h.hr i hi).lt (hb (.r i) hi _ rfl))
  · intro k hk; exact hf.blk (h.ho k hk) (hb (.o k) hk _ rfl)
  · intro k hk; exact (h.hrv k hk).fr hf (hb (.rf k) hk)
  · intro k hk; exact (h.hdv k hk).fr hf (hb (.dt k) hk)

/-! ### ask, ends -/

abbrev thrown (e : Int) : Ending := .panicked [{ v := .iface 25 (I e), recovered := false }]

theorem ask_yes (e : Int) (w : World) : Calls Try.prog 58 #[.bool true, I e] w fun x w' => x = .returned (.tuple #[]) ∧ w = w' := by
  go_enter Try.func58, Try.ntmps58
  go_wp2
  go_end0
  exact ⟨rfl, rfl⟩

theorem ask_no (e : Int) (w : World) : Calls Try.prog 58 #[.bool false, I e] w fun x w' => x = thrown e ∧ w = w' := by
  go_enter Try.func58, Try.ntmps58
  go_wp2
  exact ⟨rfl, rfl, rfl⟩

end Go.Proofs.Ytnhombeagbhccaa
