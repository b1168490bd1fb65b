/- The parser of formulas as a plain function on lists of bytes. No program is in sight. -/
namespace Go.Proofs.YthofkdpmgjkgkaaGreat
namespace Fm

/-- A node: its kind and its symbol. -/
abbrev Nd := Int × Int

def falsum : List Nd := [(1, 0)]
def truth : List Nd := [(4, 0), (1, 0), (1, 0)]
def vari (v : Int) : List Nd := [(0, v)]
def join (k : Int) (a b : List Nd) : List Nd := (k, 0) :: (a ++ b)
def pre (k : Int) (a : List Nd) : List Nd := (k, 0) :: a
def neg (a : List Nd) : List Nd := join 4 a falsum

/-- The state of a reader: the position and whether the byte there cannot follow. -/
abbrev St := Nat × Bool
abbrev Res := List Nd × St

/-- 'take': is the byte next? -/
def sees (s : List UInt8) (st : St) (c : UInt8) : Bool := !st.2 && (s[st.1]? == some c)
def step (st : St) : St := (st.1 + 1, st.2)
def need (s : List UInt8) (st : St) (c : UInt8) : St := if sees s st c then step st else (st.1, true)

/-- 'a = join(kind, a, sub())' as long as the byte is next. -/
def loop (s : List UInt8) (k : Int) (c : UInt8) (sub : St → Res) : Nat → List Nd → St → Res
  | 0, a, st => (a, st)
  | m + 1, a, st => if sees s st c then let r := sub (step st); loop s k c sub m (join k a r.1) r.2 else (a, st)

def andF (s : List UInt8) (m : Nat) (sub : St → Res) (st : St) : Res := let r := sub st; loop s 2 38 sub m r.1 r.2
def orF (s : List UInt8) (m : Nat) (sub : St → Res) (st : St) : Res := let r := andF s m sub st; loop s 3 124 (andF s m sub) m r.1 r.2
def impF (s : List UInt8) (m : Nat) (sub : St → Res) : Nat → St → Res
  | 0, st => orF s m sub st
  | i + 1, st => let r := orF s m sub st; if sees s r.2 62 then let q := impF s m sub i (step r.2); (join 4 r.1 q.1, q.2) else r

/-- The letter that is next, if one of 'pqrstu' is. -/
def letter (s : List UInt8) (st : St) : Option Nat := if st.2 then none else
  match s[st.1]? with
  | some c => if 112 ≤ c.toNat ∧ c.toNat ≤ 117 then some (c.toNat - 112) else none
  | none => none

def preF (s : List UInt8) (m : Nat) : Nat → St → Res
  | 0, st => (falsum, (st.1, true))
  | f + 1, st =>
    if sees s st 126 then let r := preF s m f (step st); (neg r.1, r.2)
    else if sees s st 91 then let r := preF s m f (need s (step st) 93); (pre 5 r.1, r.2)
    else if sees s st 60 then let r := preF s m f (need s (step st) 62); (pre 6 r.1, r.2)
    else if sees s st 70 then (falsum, step st)
    else if sees s st 84 then (truth, step st)
    else if sees s st 40 then let r := impF s m (preF s m f) m (step st); (r.1, need s r.2 41)
    else match letter s st with
      | some v => (vari v, step st)
      | none => (falsum, (st.1, true))

/-- The whole text: with enough fuel. -/
def parse (s : List UInt8) (m : Nat) : Res := impF s m (preF s m m) m (0, false)

end Fm
end Go.Proofs.YthofkdpmgjkgkaaGreat
