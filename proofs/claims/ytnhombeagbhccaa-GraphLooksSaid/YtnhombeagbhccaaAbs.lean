/- The heap as it should be, as lists of numbers: what each act answers, and does. No program and no memory stand here. -/
namespace Go.Proofs.Ytnhombeagbhccaa

structure AR where
  slots : List Int
  stack : List Int
instance : Inhabited AR := ⟨⟨[], []⟩⟩

namespace AR
def ok (R : AR) (i : Int) : Prop := 0 ≤ i ∧ i < R.slots.length
instance (R : AR) (i : Int) : Decidable (R.ok i) := inferInstanceAs (Decidable (_ ∧ _))
def get (R : AR) (i : Int) : Int := R.slots.getD i.toNat 0
def set (R : AR) (i x : Int) : AR := { R with slots := R.slots.set i.toNat x }
def setR (R : AR) (i x : Int) : AR × Int := if R.ok i then (if x < 0 then (R, 2) else (R.set i x, 0)) else (R, 2)
def pushR (R : AR) (i : Int) : AR × Int := if R.ok i then (if R.stack.length = 16 then (R, 4) else ({ R with stack := R.stack ++ [R.get i] }, 0)) else (R, 2)
def popR (R : AR) (i : Int) : AR × Int :=
  if R.ok i then (if R.stack.length = 0 then (R, 5) else (({ R with stack := R.stack.dropLast } : AR).set i (R.stack.getD (R.stack.length - 1) 0), 0)) else (R, 2)
def refs (R : AR) : List Int := R.slots ++ R.stack
def all (R : AR) : List Int := R.refs.filter (fun x => x != 0)
end AR

structure AO where
  refs : List Int
  data : List Int
instance : Inhabited AO := ⟨⟨[], []⟩⟩

structure AG where
  T : List AR
  G : List Int
  O : List AO
instance : Inhabited AG := ⟨⟨[], [], []⟩⟩

namespace AG
def thr (A : AG) (t : Int) : AR := A.T.getD t.toNat default
def okT (A : AG) (t : Int) : Prop := 0 ≤ t ∧ t < A.T.length
instance (A : AG) (t : Int) : Decidable (A.okT t) := inferInstanceAs (Decidable (_ ∧ _))
def obj (A : AG) (n : Int) : AO := A.O.getD (n.toNat - 1) default

/-- The reference of a slot. -/
def slotE (A : AG) (t i : Int) : Except Int Int :=
  if A.okT t then (if (A.thr t).ok i then .ok ((A.thr t).get i) else .error 2) else .error 2
/-- The number of a slot's object. -/
def objE (A : AG) (t i : Int) : Except Int Int :=
  match A.slotE t i with
  | .ok n => if n = 0 then .error 5 else .ok n
  | .error e => .error e

def setT (A : AG) (t : Int) (R : AR) : AG := { A with T := A.T.set t.toNat R }
def setS (A : AG) (t i x : Int) : AG := A.setT t ((A.thr t).set i x)
def setO (A : AG) (n : Int) (o : AO) : AG := { A with O := A.O.set (n.toNat - 1) o }

/-- An answer: the graph behind it, a number, an error. -/
abbrev Ans := AG × Int × Int

def alloc (A : AG) (t dst refs size : Int) : Ans :=
  match A.slotE t dst with
  | .error e => (A, 0, e)
  | .ok _ => if 0 ≤ refs ∧ refs ≤ size ∧ size ≤ 95 then
      (({ A with O := A.O ++ [⟨List.replicate refs.toNat 0, List.replicate (size - refs).toNat 0⟩] } : AG).setS t dst (A.O.length + 1), A.O.length + 1, 0)
    else (A, 0, 2)

def load (A : AG) (t dst src i : Int) : Ans :=
  match A.slotE t dst with
  | .error e => (A, 0, e)
  | .ok _ => match A.objE t src with
    | .error e => (A, 0, e)
    | .ok n => if 0 ≤ i ∧ i < (A.obj n).refs.length then (A.setS t dst ((A.obj n).refs.getD i.toNat 0), (A.obj n).refs.getD i.toNat 0, 0) else (A, 0, 2)

def store (A : AG) (t o i val : Int) : Ans :=
  match A.slotE t val with
  | .error e => (A, 0, e)
  | .ok x => match A.objE t o with
    | .error e => (A, 0, e)
    | .ok n => if 0 ≤ i ∧ i < (A.obj n).refs.length then (A.setO n { A.obj n with refs := (A.obj n).refs.set i.toNat x }, 0, 0) else (A, 0, 2)

def read (A : AG) (t src i : Int) : Ans :=
  match A.objE t src with
  | .error e => (A, 0, e)
  | .ok n => if 0 ≤ i ∧ i < (A.obj n).data.length then (A, (A.obj n).data.getD i.toNat 0, 0) else (A, 0, 2)

def write (A : AG) (t o i v : Int) : Ans :=
  match A.objE t o with
  | .error e => (A, 0, e)
  | .ok n => if 0 ≤ i ∧ i < (A.obj n).data.length then (A.setO n { A.obj n with data := (A.obj n).data.set i.toNat v }, 0, 0) else (A, 0, 2)

def okG (A : AG) (i : Int) : Prop := 0 ≤ i ∧ i < A.G.length
instance (A : AG) (i : Int) : Decidable (A.okG i) := inferInstanceAs (Decidable (_ ∧ _))

def get (A : AG) (t dst i : Int) : Ans :=
  match A.slotE t dst with
  | .error e => (A, 0, e)
  | .ok _ => if A.okG i then (A.setS t dst (A.G.getD i.toNat 0), A.G.getD i.toNat 0, 0) else (A, 0, 2)

def putG (A : AG) (t i val : Int) : Ans :=
  match A.slotE t val with
  | .error e => (A, 0, e)
  | .ok x => if A.okG i then ({ A with G := A.G.set i.toNat x }, 0, 0) else (A, 0, 2)

def move (A : AG) (t dst src : Int) : Ans :=
  match A.slotE t dst with
  | .error e => (A, 0, e)
  | .ok _ => match A.slotE t src with
    | .error e => (A, 0, e)
    | .ok x => (A.setS t dst x, 0, 0)

def clear (A : AG) (t dst : Int) : Ans :=
  match A.slotE t dst with
  | .error e => (A, 0, e)
  | .ok _ => (A.setS t dst 0, 0, 0)

def push (A : AG) (t i : Int) : Ans := if A.okT t then (A.setT t ((A.thr t).pushR i).1, 0, ((A.thr t).pushR i).2) else (A, 0, 2)
def pop (A : AG) (t i : Int) : Ans := if A.okT t then (A.setT t ((A.thr t).popR i).1, 0, ((A.thr t).popR i).2) else (A, 0, 2)
def slot (A : AG) (t i : Int) : Ans :=
  match A.slotE t i with
  | .error e => (A, 0, e)
  | .ok x => (A, x, 0)

/-- The graph that New makes. -/
def fresh (t s k : Nat) : AG := ⟨List.replicate t ⟨List.replicate s 0, []⟩, List.replicate k 0, []⟩

/-- Every reference is an object's number, or 0. -/
structure Valid (A : AG) : Prop where
  slots : ∀ R ∈ A.T, ∀ x ∈ R.slots, 0 ≤ x ∧ x ≤ A.O.length
  stack : ∀ R ∈ A.T, ∀ x ∈ R.stack, 0 ≤ x ∧ x ≤ A.O.length
  glob : ∀ x ∈ A.G, 0 ≤ x ∧ x ≤ A.O.length
  refs : ∀ o ∈ A.O, ∀ x ∈ o.refs, 0 ≤ x ∧ x ≤ A.O.length
end AG
end Go.Proofs.Ytnhombeagbhccaa
