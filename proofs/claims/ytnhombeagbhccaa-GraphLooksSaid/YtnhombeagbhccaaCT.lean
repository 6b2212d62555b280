/- A clone's threads, some of them made so far; the whole clone. -/
import Derived.Test.YtnhombeagbhccaaCObj
import Derived.Test.YtnhombeagbhccaaMine
namespace Go.Proofs.Ytnhombeagbhccaa
open Go.RowKit

structure CT (W1 w : World) (cb mb : Nat) (v1 : Value) (A : AG) (k : Nat) (tv : Value) (r : Nat → Nat) : Prop where
  hg : w.heap[cb]? = some (.cells #[tv, v1, .map (some mb)] 56 (0, 0))
  ht : w.ownsRow W1.heap.size 57 1 tv k ((List.range k).map fun i => Pt (r i))
  hr : ∀ i, i < k → RootsAt w (r i) (A.T.getD i default) ∧ W1.heap.size ≤ r i
  inj : ∀ i j, i < j → j < k → r i < r j
  ne : ∀ i, i < k → tv.ownBlock ≠ some (r i)
  fr : Fr (· = cb) W1 w

theorem CT.next {W1 w w1 w2 : World} {cb mb : Nat} {v1 : Value} {A : AG} {k rn : Nat} {tv tv' : Value} {r : Nat → Nat} (h : CT W1 w cb mb v1 A k tv r)
    (h1 : RootsAt w1 rn (A.T.getD k default)) (h2 : New w w1) (lr : w.heap.size ≤ rn) (ht : w2.ownsRow W1.heap.size 57 1 tv' (k + 1) (((List.range k).map fun i => Pt (r i)) ++ [Pt rn]))
    (hf : Fr (fun b => tv.ownBlock = some b) w1 w2) (hl : tv'.ownBlock = tv.ownBlock ∨ ∃ b, w1.heap.size ≤ b ∧ tv'.ownBlock = some b) (hcb : cb < W1.heap.size) :
    CT W1 (w2.setCell ⟨cb, 0, none⟩ tv') cb mb v1 A (k + 1) tv' (upd r k rn) := by
  have hlow : ∀ b, b < W1.heap.size → tv.ownBlock ≠ some b := fun b hb e => by have := (h.ht.lt b e).1; omega
  have hW := h.fr.size
  have f1 : Fr (fun b => tv.ownBlock = some b) w w2 := (h2.to _).trans hf
  have f2 : Fr (fun b => tv.ownBlock = some b ∨ b = cb) w (w2.setCell ⟨cb, 0, none⟩ tv') := (f1.mono (fun _ _ x => .inl x)).set _ _ (.inr rfl)
  have fg : Fr (· = cb) w2 (w2.setCell ⟨cb, 0, none⟩ tv') := (Fr.refl _ _).set _ _ rfl
  have hrange : (List.range (k + 1)).map (fun i => Pt (upd r k rn i)) = ((List.range k).map fun i => Pt (r i)) ++ [Pt rn] := by
    rw [List.range_succ, List.map_append]
    congr 1
    · refine List.map_congr_left fun i hi => ?_
      have := List.mem_range.1 hi
      rw [upd_other _ _ (by omega)]
    · simp [upd_self]
  have tvB : ∀ b, tv'.ownBlock = some b → W1.heap.size ≤ b := fun b e => (ht.lt b e).1
  refine ⟨?_, ?_, ?_, ?_, ?_, ?_⟩
  · exact heap_setCell_same (i := 0) tv' (f1.blk h.hg (hlow cb hcb))
  · rw [hrange]; exact ownsRow_fr ht fg (fun b e => by have := tvB b e; omega)
  · intro i hi
    by_cases e : i = k
    · subst e
      rw [upd_self]
      refine ⟨(h1.fr hf ?_).fr fg ?_, by omega⟩
      · intro x; have := (h.ht.lt _ x).2; omega
      · omega
    · rw [upd_other _ _ e]
      have hik : i < k := by omega
      refine ⟨(h.hr i hik).1.fr f2 ?_, (h.hr i hik).2⟩
      rintro (x | x)
      · exact h.ne i hik x
      · have := (h.hr i hik).2; omega
  · intro i j hij hj
    by_cases e : j = k
    · subst e
      rw [upd_self, upd_other _ _ (by omega)]
      have := (h.hr i hij).1.lt
      omega
    · rw [upd_other _ _ e, upd_other _ _ (by omega)]
      exact h.inj i j hij (by omega)
  · intro i hi
    by_cases e : i = k
    · subst e
      rw [upd_self]
      rcases hl with hl | ⟨b, hb, hl⟩
      · rw [hl]; intro x; have := (h.ht.lt _ x).2; omega
      · rw [hl]; intro x; injection x with x; have := h1.lt; omega
    · rw [upd_other _ _ e]
      have hik : i < k := by omega
      rcases hl with hl | ⟨b, hb, hl⟩
      · rw [hl]; exact h.ne i hik
      · rw [hl]; intro x; injection x with x; have := (h.hr i hik).1.lt; have := h2.size; omega
  · exact h.fr.trans' f2 (fun _ _ x => x) (fun i hi x => x.elim (fun x => absurd x (hlow i hi)) id)

def isK : Role → Prop
  | .o _ | .rf _ | .dt _ => True
  | _ => False
def isR : Role → Prop
  | .r _ => True
  | _ => False

theorem nodup_ge : ∀ (m : Nat) (S : List Int), S.Nodup → (∀ x : Int, 1 ≤ x → x ≤ m → x ∈ S) → m ≤ S.length
  | 0, S, _, _ => by omega
  | m + 1, S, hn, h => by
    have hm := h ((m + 1 : Nat) : Int) (by omega) (by omega)
    have h1 := nodup_ge m (S.erase ((m + 1 : Nat) : Int)) (hn.erase _) (fun x h1 h2 => by
      refine (hn.mem_erase_iff).2 ⟨by omega, h x h1 (by omega)⟩)
    rw [List.length_erase_of_mem hm] at h1
    have : 0 < S.length := List.length_pos_of_mem hm
    omega

theorem CT.done {w W1 wr : World} {cb mb : Nat} {ga : Option Addr} {gc : Nat} {A : AG} {tv : Value} {r : Nat → Nat} {es : Array MapEntry} {c : Nat} {kv : List (Int × Value)} {o : Nat → Nat} {rv dv : Nat → Value} {dn : Nat → Bool} {B : Nat}
    (h : CT W1 wr cb mb (.slice ga A.G.length gc) A A.T.length tv r) (hco : CObj W1 B mb es c kv o rv dv A dn) (hall : ∀ k, k < A.O.length → dn k = true) (hgs : Sl W1 3 (.slice ga A.G.length gc) (A.G.map I)) (hn : New w W1)
    (hT : 0 < A.T.length) (hmb : w.heap.size ≤ mb) (hB : mb < B ∧ cb < B ∧ mb ≠ cb ∧ w.heap.size ≤ cb ∧ B ≤ W1.heap.size) (hgB : ∀ b, slB (.slice ga A.G.length gc) (A.G.map I) = some b → w.heap.size ≤ b ∧ b < mb ∧ b ≠ cb) :
    Mine w wr cb A := by
  rcases h.ht.2 with ⟨_, h0⟩ | ⟨tb, cap, cur, htv, h1, h2, h3, h4⟩
  · omega
  have hco2 := hco.fr h.fr (by omega) (fun x b hx hb => by have := hco.lt hx hb; omega)
  have hne := h.ne
  rw [htv] at hne
  simp only [Value.ownBlock] at hne
  have lo := fun x (hx : cok A dn x) b (e : cown A o rv dv x = some b) => hco.lt hx e
  have ok' : ∀ x, Role.ok A x → isK x → cok A dn x := by
    intro x hx hs
    cases x <;> first | exact hs.elim | exact ⟨hx, hall _ hx⟩
  have hk : ∀ k, k < A.O.length → lk kv (k + 1 : Nat) = some (Pt (o k)) := fun k hk => by rw [hco.hk k hk, if_pos (hall k hk)]
  have hkn : kv.length = A.O.length := by
    have hkeys : (kv.map (·.1)).Nodup := by
      have h5 := ((MapKept.stamped_iff _ _).1 hco.hst).2.2
      have h6 : es.toList.map (·.key) = kv.map (fun p => I p.1) := by
        have := congrArg (List.map Prod.fst) hco.hkv
        simpa [List.map_map, Function.comp_def] using this
      have h7 : (es.toList.map (·.key)).Pairwise (· ≠ ·) := List.pairwise_map.2 h5
      rw [h6] at h7
      have h8 := List.pairwise_map.1 h7
      exact List.pairwise_map.2 (h8.imp (fun hh e => hh (by rw [e])))
    have a1 := nodup_len A.O.length _ hkeys (fun x hx => by obtain ⟨p, hp, rfl⟩ := List.mem_map.1 hx; have := hco.hks p hp; omega)
    have a2 := nodup_ge A.O.length _ hkeys (fun x h1 h2 => by
      obtain ⟨k, rfl⟩ : ∃ k : Nat, x = (k : Int) + 1 := ⟨(x - 1).toNat, by omega⟩
      have := hk k (by omega)
      unfold lk at this
      cases hf : kv.find? (fun q => q.1 == ((k + 1 : Nat) : Int)) with
      | none => rw [hf] at this; cases this
      | some q =>
        have hq : q.1 = (k : Int) + 1 := by have := List.find?_some hf; simpa using this
        exact List.mem_map.2 ⟨q, List.mem_of_find?_eq_some hf, hq⟩)
    simp only [List.length_map] at a1 a2
    omega
  refine ⟨⟨tb, cap, .slice ga A.G.length gc, mb, es, c, kv, r, o, rv, dv⟩, ⟨?_, ?_, ?_, hco2.hm, hco.hkv, hkn, hco.hks, hk, ?_, ?_, ?_, ?_, hco.hst⟩, ?_, ?_, ?_⟩
  · have := h.hg; rw [htv] at this; exact this
  · have := h.ht; rw [htv] at this
    exact ⟨this.1, this.2.imp id (fun ⟨g, cap, cur, a, _, c⟩ => ⟨g, cap, cur, a, Nat.zero_le _, c⟩)⟩
  · exact hgs.fr h.fr (fun b e => (hgB b e).2.2)
  · exact fun i hi => (h.hr i hi).1
  · exact fun k hk => (hco2.ho k hk (hall k hk)).1
  · exact fun k hk => (hco2.hr k hk (hall k hk)).1
  · exact fun k hk => (hco2.hd k hk (hall k hk)).1
  · have hrr : ∀ i j, i < A.T.length → j < A.T.length → r i = r j → i = j := by
      intro i j hi hj e
      rcases Nat.lt_trichotomy i j with x | x | x
      · have := h.inj i j x hj; omega
      · exact x
      · have := h.inj j i x hi; omega
    have kk : ∀ x b, Role.ok A x → isK x → PG.own ⟨tb, cap, .slice ga A.G.length gc, mb, es, c, kv, r, o, rv, dv⟩ cb A x = some b → B ≤ b ∧ b < W1.heap.size := by
      intro x b hx hs e
      refine hco.lt (ok' x hx hs) (b := b) ?_
      cases x <;> first | exact hs.elim | exact e
    have rr : ∀ x b, Role.ok A x → isR x → PG.own ⟨tb, cap, .slice ga A.G.length gc, mb, es, c, kv, r, o, rv, dv⟩ cb A x = some b → W1.heap.size ≤ b ∧ b ≠ tb := by
      intro x b hx hs e
      cases x <;> first | exact hs.elim | skip
      rename_i i
      simp only [PG.own, Option.some.injEq] at e
      subst e
      exact ⟨(h.hr i hx).2, fun e => hne i hx (by rw [e])⟩
    have gg : ∀ b, PG.own ⟨tb, cap, .slice ga A.G.length gc, mb, es, c, kv, r, o, rv, dv⟩ cb A .G = some b → w.heap.size ≤ b ∧ b < mb ∧ b ≠ cb := hgB
    intro x y b hx hy e1 e2
    have both : isK x → isK y → x = y := by
      intro s1 s2
      refine hco.ap x y b (ok' x hx s1) (ok' y hy s2) ?_ ?_
      · cases x <;> first | exact s1.elim | exact e1
      · cases y <;> first | exact s2.elim | exact e2
    have eg : ∀ {z}, PG.own ⟨tb, cap, .slice ga A.G.length gc, mb, es, c, kv, r, o, rv, dv⟩ cb A .g = some z → z = cb := fun e => by injection e with e; exact e.symm
    have et : ∀ {z}, PG.own ⟨tb, cap, .slice ga A.G.length gc, mb, es, c, kv, r, o, rv, dv⟩ cb A .t = some z → z = tb := fun e => by injection e with e; exact e.symm
    have em : ∀ {z}, PG.own ⟨tb, cap, .slice ga A.G.length gc, mb, es, c, kv, r, o, rv, dv⟩ cb A .m = some z → z = mb := fun e => by injection e with e; exact e.symm
    cases x <;> cases y <;> first
      | rfl
      | (exfalso; have := eg e1; have := et e2; omega)
      | (exfalso; have := eg e1; have := gg b e2; omega)
      | (exfalso; have := eg e1; have := em e2; omega)
      | (exfalso; have := eg e1; have := rr _ b hy trivial e2; omega)
      | (exfalso; have := eg e1; have := kk _ b hy trivial e2; omega)
      | (exfalso; have := et e1; have := eg e2; omega)
      | (exfalso; have := et e1; have := gg b e2; omega)
      | (exfalso; have := et e1; have := em e2; omega)
      | (exfalso; have := et e1; have := rr _ b hy trivial e2; omega)
      | (exfalso; have := et e1; have := kk _ b hy trivial e2; omega)
      | (exfalso; have := gg b e1; have := eg e2; omega)
      | (exfalso; have := gg b e1; have := et e2; omega)
      | (exfalso; have := gg b e1; have := em e2; omega)
      | (exfalso; have := gg b e1; have := rr _ b hy trivial e2; omega)
      | (exfalso; have := gg b e1; have := kk _ b hy trivial e2; omega)
      | (exfalso; have := em e1; have := eg e2; omega)
      | (exfalso; have := em e1; have := et e2; omega)
      | (exfalso; have := em e1; have := gg b e2; omega)
      | (exfalso; have := em e1; have := rr _ b hy trivial e2; omega)
      | (exfalso; have := em e1; have := kk _ b hy trivial e2; omega)
      | (exfalso; have := rr _ b hx trivial e1; have := eg e2; omega)
      | (exfalso; have := rr _ b hx trivial e1; have := et e2; omega)
      | (exfalso; have := rr _ b hx trivial e1; have := gg b e2; omega)
      | (exfalso; have := rr _ b hx trivial e1; have := em e2; omega)
      | (exfalso; have := rr _ b hx trivial e1; have := kk _ b hy trivial e2; omega)
      | (exfalso; have := kk _ b hx trivial e1; have := eg e2; omega)
      | (exfalso; have := kk _ b hx trivial e1; have := et e2; omega)
      | (exfalso; have := kk _ b hx trivial e1; have := gg b e2; omega)
      | (exfalso; have := kk _ b hx trivial e1; have := em e2; omega)
      | (exfalso; have := kk _ b hx trivial e1; have := rr _ b hy trivial e2; omega)
      | exact both trivial trivial
      | (simp only [PG.own, Option.some.injEq] at e1 e2; congr 1; exact hrr _ _ hx hy (e1.trans e2.symm))
  · rintro b ⟨x, hx, e⟩
    have hW := hn.size
    cases x <;> simp only [PG.own, Option.some.injEq, Role.ok] at e hx
    · omega
    · omega
    · exact (hgB b e).1
    · omega
    · have := (h.hr _ hx).2; omega
    · have := lo (.o _) ⟨hx, hall _ hx⟩ b (by simp [cown, e]); omega
    · have := lo (.rf _) ⟨hx, hall _ hx⟩ b e; omega
    · have := lo (.dt _) ⟨hx, hall _ hx⟩ b e; omega
  · exact New.then hn h.fr (fun i hi x => by omega)

end Go.Proofs.Ytnhombeagbhccaa
