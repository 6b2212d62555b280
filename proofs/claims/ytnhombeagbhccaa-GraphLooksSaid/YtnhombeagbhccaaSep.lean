/- Several graphs beside each other. -/
import Derived.Test.YtnhombeagbhccaaPlays2
import Derived.Test.YtnhombeagbhccaaClone
import Derived.Test.YtnhombeagbhccaaLooks
namespace Go.Proofs.Ytnhombeagbhccaa
open Go.RowKit

/-- Something that lies in blocks of its own. -/
structure Comp where
  P : World → Prop
  F : Nat → Prop
  keep : ∀ (w w' : World) (G : Nat → Prop), P w → Fr G w w' → (∀ b, F b → ¬ G b) → P w'
  lt : ∀ w, P w → ∀ b, F b → b < w.heap.size

def gcomp (g : Nat) (L : PG) (A : AG) : Comp :=
  ⟨fun w => GAt w g L A ∧ L.Apart g A, L.foot g A, fun _ _ _ h hf hb => ⟨h.1.kept hf hb, h.2⟩, fun _ h => h.1.lt⟩
def rcomp (r : Nat) (L : RL) (A : AG) : Comp :=
  ⟨fun w => RAt w r L A ∧ L.Apart r A, L.foot r A, fun _ _ _ h hf hb => ⟨h.1.kept hf hb, h.2⟩, fun _ h => h.1.lt⟩

structure All (w0 w : World) (cs : List Comp) : Prop where
  at_ : ∀ c ∈ cs, c.P w
  sep : cs.Pairwise (fun a b => ∀ x, a.F x → ¬ b.F x)
  ge : ∀ c ∈ cs, ∀ b, c.F b → w0.heap.size ≤ b
  new : New w0 w

variable {w0 w w' : World} {cs pre post : List Comp} {c c' : Comp}

theorem All.onNew (h : All w0 w cs) (hn : New w w') : All w0 w' cs :=
  ⟨fun c hc => c.keep w w' _ (h.at_ c hc) hn (fun _ _ x => x), h.sep, h.ge, Fr.trans h.new hn⟩

theorem All.add (h : All w0 w cs) (hn : New w w') (hc : c.P w') (hF : ∀ b, c.F b → w.heap.size ≤ b) : All w0 w' (c :: cs) := by
  have h2 := h.onNew hn
  refine ⟨fun d hd => ?_, List.pairwise_cons.2 ⟨fun d hd x h1 h3 => ?_, h.sep⟩, fun d hd b hb => ?_, h2.new⟩
  · rcases List.mem_cons.1 hd with rfl | hd
    · exact hc
    · exact h2.at_ d hd
  · have := hF x h1
    have := d.lt w (h.at_ d hd) x h3
    omega
  · rcases List.mem_cons.1 hd with rfl | hd
    · exact Nat.le_trans h.new.size (hF b hb)
    · exact h.ge d hd b hb

theorem All.step (h : All w0 w (pre ++ c :: post)) (hf : Fr c.F w w') (hc : c'.P w') (hF : ∀ b, c'.F b → c.F b ∨ w.heap.size ≤ b) : All w0 w' (pre ++ c' :: post) := by
  have hs := List.pairwise_append.1 h.sep
  have hs2 := List.pairwise_cons.1 hs.2.1
  have cin : c ∈ pre ++ c :: post := by simp
  have p1 : ∀ d ∈ pre, ∀ x, d.F x → ¬ c.F x := fun d hd x hx => hs.2.2 d hd c (by simp) x hx
  have p2 : ∀ d ∈ post, ∀ x, c.F x → ¬ d.F x := fun d hd x hx => hs2.1 d hd x hx
  have kept : ∀ d ∈ pre ++ post, d.P w' := by
    intro d hd
    rcases List.mem_append.1 hd with hd | hd
    · exact d.keep w w' _ (h.at_ d (by simp [hd])) hf (fun b hb hcb => p1 d hd b hb hcb)
    · exact d.keep w w' _ (h.at_ d (by simp [hd])) hf (fun b hb hcb => p2 d hd b hcb hb)
  have far : ∀ d ∈ pre ++ c :: post, ∀ b, d.F b → b < w.heap.size := fun d hd b hb => d.lt w (h.at_ d hd) b hb
  refine ⟨fun d hd => ?_, List.pairwise_append.2 ⟨hs.1, List.pairwise_cons.2 ⟨fun d hd x hx hdx => ?_, hs2.2⟩, fun d hd e he x hx hex => ?_⟩, fun d hd b hb => ?_, h.new.then hf (fun i hi hx => by have := h.ge c cin i hx; omega)⟩
  · rcases List.mem_append.1 hd with hd | hd
    · exact kept d (by simp [hd])
    · rcases List.mem_cons.1 hd with rfl | hd
      · exact hc
      · exact kept d (by simp [hd])
  · rcases hF x hx with h1 | h1
    · exact p2 d hd x h1 hdx
    · have := far d (by simp [hd]) x hdx; omega
  · rcases List.mem_cons.1 he with rfl | he
    · rcases hF x hex with h1 | h1
      · exact p1 d hd x hx h1
      · have := far d (by simp [hd]) x hx; omega
    · exact hs.2.2 d hd e (by simp [he]) x hx hex
  · rcases List.mem_append.1 hd with hd | hd
    · exact h.ge d (by simp [hd]) b hb
    · rcases List.mem_cons.1 hd with rfl | hd
      · rcases hF b hb with h1 | h1
        · exact h.ge c cin b h1
        · exact Nat.le_trans h.new.size h1
      · exact h.ge d (by simp [hd]) b hb

theorem all_does {g : Nat} {L : PG} {A : AG} (h : All w0 w (pre ++ gcomp g L A :: post)) (hv : A.Valid) (hs : A.Small) (x : AA) :
    Calls Try.prog 11 #[Pt g, x.val] w fun E W => E = .returned (.tuple #[U (A.act x).2.1, I (A.act x).2.2]) ∧ ∃ L', All w0 W (pre ++ gcomp g L' (A.act x).1 :: post) := by
  have hc := h.at_ (gcomp g L A) (by simp)
  exact (does_graph hc.1 hc.2 hv hs x).mono fun _ W ⟨a, L', k1, k2, k3, k4⟩ => ⟨a, L', h.step (c' := gcomp g L' (A.act x).1) k4 ⟨k1, k2⟩ k3⟩

theorem all_says {r : Nat} {L : RL} {A : AG} (h : All w0 w (pre ++ rcomp r L A :: post)) (hn : 0 < A.T.length) (hv : A.Valid) (hs : A.Small) (x : AA) :
    Calls Try.prog 12 #[Pt r, x.val] w fun E W => E = .returned (.tuple #[U (A.act x).2.1, I (A.act x).2.2]) ∧ ∃ L', All w0 W (pre ++ rcomp r L' (A.act x).1 :: post) := by
  have hc := h.at_ (rcomp r L A) (by simp)
  exact (says_graph hc.1 hc.2 hn hv hs x).mono fun _ W ⟨a, L', k1, k2, k3, k4⟩ => ⟨a, L', h.step (c' := rcomp r L' (A.act x).1) k4 ⟨k1, k2⟩ k3⟩

theorem all_New (h : All w0 w cs) (t s k : Nat) (h2 : t ≤ 64) (h4 : k ≤ 8) (h6 : s ≤ 8) :
    Calls Try.prog 10 #[I t, I s, I k] w fun e w' => ∃ r, e = .returned (Pt r) ∧ ∃ R, All w0 w' (rcomp r R (AG.fresh t s k) :: cs) :=
  (ref_New t s k w h2 h4 h6).mono fun _ _ ⟨r, a, R, b1, b2, b3, b4⟩ => ⟨r, a, R, h.add b4 ⟨b1, b2⟩ b3⟩

theorem all_Clone {g : Nat} {L : PG} {A : AG} (h : All w0 w cs) (hg : gcomp g L A ∈ cs) (hv : A.Valid) (hs : A.Small) (hT : 0 < A.T.length) :
    Calls Try.prog 15 #[Pt g] w fun e w' => ∃ c, e = .returned (Pt c) ∧ ∃ L', All w0 w' (gcomp c L' A :: cs) :=
  (graph_Clone (h.at_ _ hg).1 hv hs hT).mono fun _ _ ⟨c, a, ⟨L', k1, k2, k3, k4⟩, _⟩ => ⟨c, a, L', h.add k4 ⟨k1, k2⟩ k3⟩

theorem all_looks {g r : Nat} {L : PG} {R : RL} {A : AG} (h : All w0 w cs) (hg : gcomp g L A ∈ cs) (hr : rcomp r R A ∈ cs) (hs : A.Small) (hT : 0 < A.T.length) :
    Calls Try.prog 16 #[Pt g, Pt r] w fun e w' => e = .returned (.bool true) ∧ All w0 w' cs :=
  (looks_same (h.at_ _ hg).1 (h.at_ _ hr).1 hs hT).mono fun _ _ ⟨a, b⟩ => ⟨a, h.onNew b⟩

end Go.Proofs.Ytnhombeagbhccaa
