/- Texts in one file: Bt Base Parse0 Nodes RowLem Ints MbT MbV Bx Parse1 Tree MoT EncI Lit Join TakeP WalkP WalkA Round ParseI Take WalkQ WalkB ParseF Part Agree Equal Write Good TxP Strs FitS PutP PutU WfP WfS AppI MbB. -/
import Derived.WalkKit
import Derived.Laws.BitsLemmas
import Derived.Laws.Bits64
import Derived.WalkSpells
import Derived.WalkLawsBesides
import Derived.Lib.Hide
import Derived.Deep.Draws
import Derived.Deep.AppendLies
import Derived.Maps.AppendAt
import Derived.Lib.AppendZerosOnto
import Derived.Test.YtjlnompmhgjaaaaGreatProg
import Derived.Deep.RegionHeld3
import Derived.Deep.QuietTactic
import Derived.BigQuiet
import Derived.Deep.LoopGhost
import Derived.Deep.OwnRows
import Derived.Outline
import Derived.Lib.SlicesS
import Derived.Lib.OthersKept
import Derived.Shelf.Sort.Plain
import Derived.Shelf.Slices.CompactS
import Derived.Shelf.Slices.In.SortNone
import Derived.Lib.OwnBridge
import Derived.Lib.RowBridge
import Derived.Sort.OwnSorted
import Derived.OwnWalk
set_option linter.all false

/- Masks: bit operations on int64 that are not negative. No program is in sight. -/
namespace Go.Proofs.YtjlnompmhgjaaaaGreat
open Go.RowKit

theorem ofInt_64 (a : Nat) (ha : a < 9223372036854775808) : (BitVec.ofInt 64 (a : Int)).toNat = a := by
  rw [BitVec.ofInt_natCast, BitVec.toNat_ofNat]; exact Nat.mod_eq_of_lt (by omega)
theorem and_i64 (a b : Nat) (ha : a < 9223372036854775808) (hb : b < 9223372036854775808) : bits .and .i64 (a : Int) (b : Int) = ((a &&& b : Nat) : Int) := by
  have hx : a &&& b < 2 ^ 63 := Nat.and_lt_two_pow _ (by omega)
  show IntKind.i64.wrap ((BitVec.ofInt 64 (a : Int) &&& BitVec.ofInt 64 (b : Int)).toNat : Int) = _
  rw [BitVec.toNat_and, ofInt_64 a ha, ofInt_64 b hb, IntKind.wrap_i64]
  omega
theorem or_i64 (a b : Nat) (ha : a < 9223372036854775808) (hb : b < 9223372036854775808) : bits .or .i64 (a : Int) (b : Int) = ((a ||| b : Nat) : Int) := by
  have hx : a ||| b < 2 ^ 63 := Nat.or_lt_two_pow (by omega) (by omega)
  show IntKind.i64.wrap ((BitVec.ofInt 64 (a : Int) ||| BitVec.ofInt 64 (b : Int)).toNat : Int) = _
  rw [BitVec.toNat_or, ofInt_64 a ha, ofInt_64 b hb, IntKind.wrap_i64]
  omega
def dif (a b : Nat) : Nat := a ^^^ (a &&& b)
theorem dif_bit (a b i : Nat) : (dif a b).testBit i = (a.testBit i && !b.testBit i) := by
  unfold dif
  rw [Nat.testBit_xor, Nat.testBit_and]
  cases a.testBit i <;> cases b.testBit i <;> rfl
theorem andNot_i64 (a b : Nat) (ha : a < 9223372036854775808) (hb : b < 9223372036854775808) : bits .andNot .i64 (a : Int) (b : Int) = ((dif a b : Nat) : Int) := by
  have e : (BitVec.ofInt 64 (a : Int) &&& ~~~BitVec.ofInt 64 (b : Int)).toNat = dif a b := by
    apply Nat.eq_of_testBit_eq
    intro i
    rw [dif_bit, BitVec.testBit_toNat, BitVec.getLsbD_and, BitVec.getLsbD_not, ← BitVec.testBit_toNat, ← BitVec.testBit_toNat, ofInt_64 a ha, ofInt_64 b hb]
    by_cases hi : i < 64
    · simp [hi]
    · have : a.testBit i = false := Nat.testBit_lt_two_pow (Nat.lt_of_lt_of_le ha (Nat.le_trans (by decide : 9223372036854775808 ≤ 2 ^ 64) (Nat.pow_le_pow_right (by omega) (by omega))))
      simp [this]
  have hx : dif a b < 2 ^ 63 := by
    unfold dif
    exact Nat.xor_lt_two_pow (by omega) (Nat.and_lt_two_pow _ (by omega))
  show IntKind.i64.wrap ((BitVec.ofInt 64 (a : Int) &&& ~~~BitVec.ofInt 64 (b : Int)).toNat : Int) = _
  rw [e, IntKind.wrap_i64]
  omega
theorem bit_i64 (m i : Nat) (hm : m < 9223372036854775808) : (bits .and .i64 ((m / 2 ^ i : Nat) : Int) 1 == 1) = m.testBit i := by
  have h1 : m / 2 ^ i < 9223372036854775808 := Nat.lt_of_le_of_lt (Nat.div_le_self _ _) hm
  have h2 := and_i64 (m / 2 ^ i) 1 h1 (by decide)
  rw [show ((1 : Nat) : Int) = 1 from rfl] at h2
  rw [h2, Nat.and_one_is_mod, Nat.testBit_eq_decide_div_mod_eq]
  rcases Nat.mod_two_eq_zero_or_one (m / 2 ^ i) with h | h
  · rw [h]; rfl
  · rw [h]; rfl
def mem (m n : Nat) : List Int := ((List.range n).filter m.testBit).map fun i : Nat => (i : Int)
end Go.Proofs.YtjlnompmhgjaaaaGreat


/- Words for memory: what a call leaves as it was, a slice that reads as a row of cells, an append onto a row of the call's own. No program is in sight. -/
namespace Go.Proofs.YtjlnompmhgjaaaaGreat
open Go.RowKit

def Grew (a b : World) : Prop := Below a.heap.size a b
theorem Grew.refl (w : World) : Grew w w := Below.refl _ _
theorem Grew.size {a b : World} (h : Grew a b) : a.heap.size ≤ b.heap.size := Below.size h
theorem Grew.trans {a b c : World} (h : Grew a b) (k : Grew b c) : Grew a c := Below.trans h (Below.mono k (Below.size h))
theorem Grew.drew {a b : World} (h : Grew a b) : Grew a b.drew := Below.drew h
theorem Grew.drewN {a b : World} (h : Grew a b) (n : Nat) : Grew a (b.drewN n) := ⟨h.os, h.tape, h.output, h.size, h.block⟩
theorem Grew.alloc {a b : World} (h : Grew a b) (o : Obj) : Grew a (b.alloc o) := Below.alloc h (Below.size h) o
theorem Grew.of_alloc {a b : World} {o : Obj} (h : Grew (a.alloc o) b) : Grew a b := ((Grew.refl a).alloc o).trans h
theorem Grew.setCell {a b : World} (h : Grew a b) {p : Addr} (hp : a.heap.size ≤ p.block) (u : Value) : Grew a (b.setCell p u) := Below.setCell h hp u
theorem Grew.cell {a b : World} (h : Grew a b) {p : Addr} (hp : p.block < a.heap.size) : b.cell? p = a.cell? p := Below.cell h hp
theorem Grew.block {a b : World} (h : Grew a b) {k : Nat} (hp : k < a.heap.size) : b.heap[k]? = a.heap[k]? := Below.block h k hp
theorem Grew.grown {a b c : World} {row : Option Nat} (h : Grew a b) (hg : b.grownBy c row) (hr : ∀ k, row = some k → a.heap.size ≤ k) : Grew a c := Below.grown h hg (Below.size h) hr
theorem Grew.by_ {a b : World} (h : Grew a b) (row : Option Nat) : a.grownBy b row := ⟨h.os, h.tape, h.output, h.size, fun _ hi _ => h.block hi⟩
theorem Grew.below {a b : World} (h : Grew a b) : Below a.heap.size a b := h

def Only (g : Nat) (a b : World) : Prop := a.grownBy b (some g)
theorem Only.refl (g : Nat) (w : World) : Only g w w := World.grownBy.refl w _
theorem Only.size {g : Nat} {a b : World} (h : Only g a b) : a.heap.size ≤ b.heap.size := World.grownBy.size h
theorem Only.trans {g : Nat} {a b c : World} (h : Only g a b) (k : Only g b c) : Only g a c := World.grownBy.trans h k
theorem Only.drew {g : Nat} {a b : World} (h : Only g a b) : Only g a b.drew := ⟨h.os, h.tape, h.output, h.size, h.block⟩
theorem Only.drewN {g : Nat} {a b : World} (h : Only g a b) (n : Nat) : Only g a (b.drewN n) := ⟨h.os, h.tape, h.output, h.size, h.block⟩
theorem Grew.only {g : Nat} {a b : World} (h : Grew a b) : Only g a b := h.by_ _
theorem Only.grew {g : Nat} {a b c : World} (h : Only g a b) (k : Grew b c) : Only g a c := Only.trans h k.only
theorem Only.alloc {g : Nat} {a b : World} (h : Only g a b) (o : Obj) : Only g a (b.alloc o) := h.grew ((Grew.refl b).alloc o)
theorem Only.setCell {g o : Nat} {a b : World} (h : Only g a b) (u : Value) : Only g a (b.setCell ⟨g, o, none⟩ u) :=
  ⟨h.os, h.tape, h.output, by simpa [World.setCell] using h.size, fun _ hi hne => (Below.heap_setCell b ⟨g, o, none⟩ u _ (by rintro rfl; exact hne rfl)).trans (World.grownBy.block h _ hi hne)⟩
theorem Only.block {g : Nat} {a b : World} (h : Only g a b) {k : Nat} (hk : k < a.heap.size) (hne : k ≠ g) : b.heap[k]? = a.heap[k]? :=
  World.grownBy.block h k hk (fun e => hne (by injection e))
theorem Only.cell {g : Nat} {a b : World} (h : Only g a b) {p : Addr} (hk : p.block < a.heap.size) (hne : p.block ≠ g) : b.cell? p = a.cell? p :=
  World.cell?_of_block (h.block hk hne)
theorem Only.grew_of {g : Nat} {a b c : World} (h : Only g b c) (k : Grew a b) (hg : a.heap.size ≤ g) : Grew a c :=
  ⟨h.os.trans k.os, h.tape.trans k.tape, h.output.trans k.output, Nat.le_trans k.size h.size, fun i hi => (h.block (Nat.lt_of_lt_of_le hi k.size) (by omega)).trans (k.block hi)⟩

def Rd (w : World) (k : Nat) (v : Value) (n : Nat) (xs : List Value) : Prop :=
  xs.length = n * k ∧ n ≤ 9223372036854775807 ∧
  ((v = .slice none 0 0 ∧ n = 0) ∨ ∃ b o c, v = .slice (some ⟨b, o, none⟩) n c ∧ n ≤ c ∧ c ≤ 9223372036854775807 ∧ b < w.heap.size ∧ ∀ j u, xs[j]? = some u → w.cell? ⟨b, o + j, none⟩ = some u)

theorem Rd.grew {w w' : World} {k n : Nat} {v : Value} {xs : List Value} (h : Rd w k v n xs) (hb : Grew w w') : Rd w' k v n xs := by
  obtain ⟨h1, h2, h3⟩ := h
  refine ⟨h1, h2, ?_⟩
  rcases h3 with h3 | ⟨b, o, c, rfl, h4, h5, h6, h7⟩
  · exact .inl h3
  · exact .inr ⟨b, o, c, rfl, h4, h5, Nat.lt_of_lt_of_le h6 hb.size, fun j u hu => (hb.cell (p := ⟨b, o + j, none⟩) h6).trans (h7 j u hu)⟩

theorem Rd.nil_ (w : World) (k : Nat) : Rd w k (.slice none 0 0) 0 [] := ⟨by simp, by omega, .inl ⟨rfl, rfl⟩⟩

theorem Rd.of_own {w : World} {base : Nat} {e : TypeId} {k n : Nat} {v : Value} {xs : List Value} (h : w.ownsRow base e k v n xs) : Rd w k v n xs := by
  obtain ⟨h1, h2⟩ := h
  rcases h2 with ⟨rfl, rfl⟩ | ⟨g, cap, cur, rfl, hb, hg, hnc, hcm, hcs, ht⟩
  · exact ⟨h1, by omega, .inl ⟨rfl, rfl⟩⟩
  · refine ⟨h1, Nat.le_trans hnc hcm, .inr ⟨g, 0, cap, rfl, hnc, hcm, (Array.getElem?_eq_some_iff.1 hg).1, fun j u hu => ?_⟩⟩
    rw [Nat.zero_add, cell_of_row w g j cur e (0, 0) hg]
    rw [← ht, List.getElem?_take] at hu
    split at hu
    · simpa using hu
    · cases hu

theorem wpList_append_rd {P : Program} (w : World) {ops : Array Oper} {rest : List Oper} {o : Oper} {a : Act} {Q : Exit → Act → World → Prop} (hgd : o.guard = none) (s x : Operand) (t : TypeId)
    (ho : o.op = .call { callee := .builtin .append, args := #[s, x], argTypes := #[t, t] })
    (base : Nat) (e : TypeId) (i : TypeInfo) (z : Value) (size bytes : Nat) (ht : P.underlying t = some (.slice e)) (hi : P.info? e = some i) (hz : i.zero = some z)
    (hsize : i.size = size) (hby : i.bytes = bytes) (hzs : z.cells.size = size) (hsz : 0 < size)
    (v : Value) (n : Nat) (xs : List Value) (hs : a.eval s = v) (hown : w.ownsRow base e size v n xs)
    (vx : Value) (m : Nat) (news : List Value) (hx : a.eval x = vx) (hr : Rd w size vx m news) (h1 : ∀ u ∈ news, u.oneCell' = true)
    (h63 : n + m ≤ maxLen) (hbytes : (n + m) * bytes ≤ 140737488355328) (hbase : base ≤ w.heap.size)
    (h : ∀ v' w', w'.ownsRow base e size v' (n + m) (xs ++ news) → w.grownBy w' v.ownBlock → (v'.ownBlock = v.ownBlock ∨ v'.ownBlock = some w.heap.size) → wpList P ops Q rest (a.put o.dst v') w') :
    wpList P ops Q (o :: rest) a w := by
  obtain ⟨hl, _, hr⟩ := hr
  rcases hr with ⟨rfl, rfl⟩ | ⟨b, of, c, rfl, _, _, _, hc⟩
  · have hnews : news = [] := List.eq_nil_of_length_eq_zero (by simpa using hl)
    subst hnews
    refine wpList_plain hgd fun K hK => ?_
    have hrun := run_append_owned_none (P := P) w base t o.type e i size ht hi v n xs hown
    unfold Oper.wp execOp
    simp only [ho, resolve, invoke, builtin, Sem.run_bind, Sem.run_pure, Result.andThen_ok, List.map_toArray, List.map_cons, List.map_nil, hs, hx, hrun]
    exact hK _ _ (h v w (by simpa using hown) (World.grownBy.refl _ _) (.inl rfl))
  · exact wpList_append_own_at w hgd s x t ho base e i z size bytes ht hi hz hsize hby hzs hsz v n xs hs hown ⟨b, of, none⟩ m c news hx hl (fun j u hu => by rw [Addr.add_lit]; exact hc j u hu) h1 h63 hbytes hbase fun v' w' h2 h3 _ h4 => h v' w' h2 h3 h4

theorem own_only {w w' : World} {base : Nat} {e : TypeId} {k n g : Nat} {v : Value} {xs : List Value} (h : w.ownsRow base e k v n xs) (hb : Only g w w') (hne : v.ownBlock ≠ some g) : w'.ownsRow base e k v n xs :=
  h.kept hb (.inr hne)
theorem own_grew {w w' : World} {base : Nat} {e : TypeId} {k n : Nat} {v : Value} {xs : List Value} (h : w.ownsRow base e k v n xs) (hb : Grew w w') : w'.ownsRow base e k v n xs :=
  h.kept (row := none) (hb.by_ _) (by cases hv : v.ownBlock <;> simp)
theorem own_base {w : World} {base base' : Nat} {e : TypeId} {k n : Nat} {v : Value} {xs : List Value} (h : w.ownsRow base e k v n xs) (hb : base' ≤ base) : w.ownsRow base' e k v n xs := by
  obtain ⟨h1, h2⟩ := h
  refine ⟨h1, ?_⟩
  rcases h2 with h2 | ⟨g, cap, cur, h3, h4, h5⟩
  · exact .inl h2
  · exact .inr ⟨g, cap, cur, h3, by omega, h5⟩
theorem own_ne {w : World} {base : Nat} {e e' : TypeId} {k n g : Nat} {v : Value} {xs : List Value} {cs : Array Value} (h : w.ownsRow base e k v n xs) (hg : w.heap[g]? = some (.cells cs e' (0, 0))) (hne : e ≠ e') : v.ownBlock ≠ some g := by
  rcases h.2 with ⟨rfl, _⟩ | ⟨g', cap, cur, rfl, _, hh, _⟩
  · simp [Value.ownBlock]
  · intro he
    have : g' = g := by simpa [Value.ownBlock] using he
    subst this
    rw [hh] at hg
    injection hg with hg
    injection hg with _ ht
    exact hne ht
theorem own_of_ge {w : World} {base g : Nat} {e : TypeId} {k n : Nat} {v : Value} {xs : List Value} (h : w.ownsRow base e k v n xs) (hv : v.ownBlock = some g) : base ≤ g := (h.lt g hv).1
theorem blk_set {w : World} {g : Nat} {t : TypeId} {cs : Array Value} (h : w.heap[g]? = some (.cells cs t (0, 0))) (i : Nat) (u : Value) : (w.setCell ⟨g, i, none⟩ u).heap[g]? = some (.cells (cs.setIfInBounds i u) t (0, 0)) := by
  simp [World.setCell, Array.getElem?_modify, h]
theorem blk_frozen {w : World} {g : Nat} {t : TypeId} {cs : Array Value} (h : w.heap[g]? = some (.cells cs t (0, 0))) (i : Nat) : w.frozen? ⟨g, i, none⟩ = false := by simp [World.frozen?, h]
theorem blk_cell {w : World} {g : Nat} {t : TypeId} {cs : Array Value} (h : w.heap[g]? = some (.cells cs t (0, 0))) (i : Nat) : w.cell? ⟨g, i, none⟩ = cs[i]? := cell_of_row w g i cs t (0, 0) h
theorem blk_lt {w : World} {g : Nat} {o : Obj} (h : w.heap[g]? = some o) : g < w.heap.size := (Array.getElem?_eq_some_iff.1 h).1
theorem blk_new (w : World) (o : Obj) : (w.alloc o).heap[w.heap.size]? = some o := heap_alloc_new w o
theorem run_grow_nil {P : Program} (w : World) (t tn ty e : TypeId) (i : TypeInfo) (z : Value) (size : Nat) (ht : P.underlying t = some (.slice e)) (htn : P.underlying tn = some (.int .i64)) (hi : P.info? e = some i) (hz : i.zero = some z) (hsize : i.size = size) (hzs : z.cells.size = size) (hs : 0 < size)
    (n : Nat) (h0 : 0 < n) (hb : n * i.bytes ≤ 140737488355328) (h63 : n ≤ 4611686018427387904) :
    ∃ G cs, n ≤ G ∧ G ≤ 9223372036854775807 ∧ cs.size = G * size ∧ (Builtin.append_ #[t, tn] ty #[.slice none 0 0, .int .i64 n]).run P w = .ok (.slice (some ⟨w.heap.size, 0, none⟩) n G) (w.drew.alloc (.cells cs e)) := by
  have h := Lib.run_append_grow_zeros (P := P) w t tn ty e i z .i64 .i64 ht htn hi hz none 0 0 [] (run_firstCells_none w.drew i.size 0 0 0) n h0 (by omega) (by omega) (by omega) (by omega) (by
    have := growslice_fits (need := 0 + n) (old := 0) (bytes := i.bytes) (by omega) (by simpa using hb)
    exact this)
  simp only [Nat.zero_add] at h
  have hge := grownCap_ge w n 0 e
  have hle := grownCap_le_maxLen w n 0 e (by unfold maxLen; omega)
  unfold maxLen at hle
  refine ⟨_, _, hge, hle, ?_, h⟩
  simp only [Array.size_append, size_zeroCells, hzs, List.size_toArray, List.length_nil, Nat.zero_add, ← Nat.add_mul]
  congr 1
  omega

end Go.Proofs.YtjlnompmhgjaaaaGreat


/- The parser of formulas as a plain function on lists of bytes. No program is in sight. -/
namespace Go.Proofs.YtjlnompmhgjaaaaGreat
namespace Fm

abbrev Nd := Int × Int

def falsum : List Nd := [(1, 0)]
def truth : List Nd := [(4, 0), (1, 0), (1, 0)]
def vari (v : Int) : List Nd := [(0, v)]
def join (k : Int) (a b : List Nd) : List Nd := (k, 0) :: (a ++ b)
def pre (k : Int) (a : List Nd) : List Nd := (k, 0) :: a
def neg (a : List Nd) : List Nd := join 4 a falsum

abbrev St := Nat × Bool
abbrev Res := List Nd × St

def sees (s : List UInt8) (st : St) (c : UInt8) : Bool := !st.2 && (s[st.1]? == some c)
def step (st : St) : St := (st.1 + 1, st.2)
def need (s : List UInt8) (st : St) (c : UInt8) : St := if sees s st c then step st else (st.1, true)

def loop (s : List UInt8) (k : Int) (c : UInt8) (sub : St → Res) : Nat → List Nd → St → Res
  | 0, a, st => (a, st)
  | m + 1, a, st => if sees s st c then let r := sub (step st); loop s k c sub m (join k a r.1) r.2 else (a, st)

def andF (s : List UInt8) (m : Nat) (sub : St → Res) (st : St) : Res := let r := sub st; loop s 2 38 sub m r.1 r.2
def orF (s : List UInt8) (m : Nat) (sub : St → Res) (st : St) : Res := let r := andF s m sub st; loop s 3 124 (andF s m sub) m r.1 r.2
def impF (s : List UInt8) (m : Nat) (sub : St → Res) : Nat → St → Res
  | 0, st => orF s m sub st
  | i + 1, st => let r := orF s m sub st; if sees s r.2 62 then let q := impF s m sub i (step r.2); (join 4 r.1 q.1, q.2) else r

def letter (s : List UInt8) (st : St) : Option Nat := if st.2 then none else
  match s[st.1]? with
  | some c => if 112 ≤ c.toNat ∧ c.toNat ≤ 117 then some (c.toNat - 112) else none
  | none => none

def preF (s : List UInt8) (m : Nat) : Nat → St → Res
  | 0, st => (falsum, (st.1, true))
  | f + 1, st =>
    if sees s st 126 then let r := preF s m f (step st); (neg r.1, r.2)
    else if sees s st 91 then let r := preF s m f (need s (step st) 93); (pre 5 r.1, r.2)
    else if sees s st 60 then let r := preF s m f (need s (step st) 62); (pre 6 r.1, r.2)
    else if sees s st 70 then (falsum, step st)
    else if sees s st 84 then (truth, step st)
    else if sees s st 40 then let r := impF s m (preF s m f) m (step st); (r.1, need s r.2 41)
    else match letter s st with
      | some v => (vari v, step st)
      | none => (falsum, (st.1, true))

def parse (s : List UInt8) (m : Nat) : Res := impF s m (preF s m m) m (0, false)

end Fm
end Go.Proofs.YtjlnompmhgjaaaaGreat


/- Slices of nodes, as lists of pairs of numbers. -/
namespace Go.Proofs.YtjlnompmhgjaaaaGreat
open Go.RowKit
open Fm (Nd)

def kd (xs : List Nd) (i : Nat) : Int := (xs.getD i (0, 0)).1
def sy (xs : List Nd) (i : Nat) : Int := (xs.getD i (0, 0)).2
def cells (xs : List Nd) : List Value := xs.flatMap fun x => [.int .i64 x.1, .int .i64 x.2]

theorem cells_cons (x : Nd) (xs : List Nd) : cells (x :: xs) = .int .i64 x.1 :: .int .i64 x.2 :: cells xs := rfl
theorem cells_append (xs ys : List Nd) : cells (xs ++ ys) = cells xs ++ cells ys := by simp [cells, List.flatMap_append]
theorem cells_length (xs : List Nd) : (cells xs).length = xs.length * 2 := by
  induction xs with
  | nil => rfl
  | cons x xs ih => rw [cells_cons]; simp [ih]; omega
theorem cells_one (xs : List Nd) : ∀ u ∈ cells xs, u.oneCell' = true := by
  intro u hu
  simp only [cells, List.mem_flatMap] at hu
  obtain ⟨x, _, hx⟩ := hu
  simp at hx
  rcases hx with rfl | rfl <;> rfl
theorem cells_at (xs : List Nd) : ∀ i, i < xs.length → (cells xs)[i * 2]? = some (.int .i64 (kd xs i)) ∧ (cells xs)[i * 2 + 1]? = some (.int .i64 (sy xs i)) := by
  induction xs with
  | nil => intro i hi; simp at hi
  | cons x xs ih =>
    intro i hi
    match i with
    | 0 => exact ⟨rfl, rfl⟩
    | i + 1 =>
      have h := ih i (by simpa using hi)
      rw [cells_cons]
      have e1 : (i + 1) * 2 = i * 2 + 1 + 1 := by omega
      rw [e1]
      simp only [List.getElem?_cons_succ]
      have k1 : kd (x :: xs) (i + 1) = kd xs i := rfl
      have k2 : sy (x :: xs) (i + 1) = sy xs i := rfl
      rw [k1, k2]
      exact h
theorem cells_ext {cs : List Value} {xs : List Nd} (hl : cs.length = xs.length * 2) (h : ∀ i, i < xs.length → cs[i * 2]? = some (.int .i64 (kd xs i)) ∧ cs[i * 2 + 1]? = some (.int .i64 (sy xs i))) : cs = cells xs := by
  apply List.ext_getElem? 
  intro j
  by_cases hj : j < xs.length * 2
  · have hd := Nat.div_add_mod j 2
    have hi : j / 2 < xs.length := by omega
    have h1 := h (j / 2) hi
    have h2 := cells_at xs (j / 2) hi
    rcases Nat.mod_two_eq_zero_or_one j with hm | hm
    · have e : j = j / 2 * 2 := by omega
      rw [e, h1.1, h2.1]
    · have e : j = j / 2 * 2 + 1 := by omega
      rw [e, h1.2, h2.2]
  · rw [List.getElem?_eq_none (by omega), List.getElem?_eq_none (by rw [cells_length]; omega)]
theorem kd_lt {xs : List Nd} {i : Nat} (h : i < xs.length) : xs[i] = (kd xs i, sy xs i) := by
  simp [kd, sy, List.getD, h]
theorem nd_ext {xs ys : List Nd} (hl : xs.length = ys.length) (h : ∀ i, i < xs.length → kd xs i = kd ys i ∧ sy xs i = sy ys i) : xs = ys := by
  apply List.ext_getElem hl
  intro i h1 h2
  rw [kd_lt h1, kd_lt h2, (h i h1).1, (h i h1).2]

def Nodes (w : World) (v : Value) (xs : List Nd) : Prop := Rd w 2 v xs.length (cells xs)
def Own (w : World) (B : Nat) (v : Value) (xs : List Nd) : Prop := w.ownsRow B 53 2 v xs.length (cells xs)

theorem Nodes.grew {w w' : World} {v : Value} {xs : List Nd} (h : Nodes w v xs) (hb : Grew w w') : Nodes w' v xs := Rd.grew h hb
theorem Nodes.nil_ (w : World) : Nodes w (.slice none 0 0) [] := Rd.nil_ w 2
theorem Own.nodes {w : World} {B : Nat} {v : Value} {xs : List Nd} (h : Own w B v xs) : Nodes w v xs := Rd.of_own h
theorem Own.nil_ (w : World) (B : Nat) : Own w B (.slice none 0 0) [] := World.ownsRow_nil w B _ 2
theorem Own.grew {w w' : World} {B : Nat} {v : Value} {xs : List Nd} (h : Own w B v xs) (hb : Grew w w') : Own w' B v xs := own_grew h hb
theorem Own.only {w w' : World} {B g : Nat} {v : Value} {xs : List Nd} (h : Own w B v xs) (hb : Only g w w') (hne : v.ownBlock ≠ some g) : Own w' B v xs := own_only h hb hne
theorem Own.base {w : World} {B B' : Nat} {v : Value} {xs : List Nd} (h : Own w B v xs) (hb : B' ≤ B) : Own w B' v xs := own_base h hb

theorem Nodes.open_ {w : World} {v : Value} {xs : List Nd} (h : Nodes w v xs) :
    (v = .slice none 0 0 ∧ xs = []) ∨ ∃ b o c, v = .slice (some ⟨b, o, none⟩) xs.length c ∧ xs.length ≤ c ∧ c ≤ 9223372036854775807 ∧ b < w.heap.size ∧
      ∀ i, i < xs.length → ∀ W, Grew w W → W.cell? ⟨b, o + i * 2, none⟩ = some (.int .i64 (kd xs i)) ∧ W.cell? ⟨b, o + i * 2 + 1, none⟩ = some (.int .i64 (sy xs i)) := by
  obtain ⟨_, _, h3⟩ := h
  rcases h3 with ⟨h4, h5⟩ | ⟨b, o, c, h4, h5, h6, h7, h8⟩
  · exact .inl ⟨h4, List.eq_nil_of_length_eq_zero h5⟩
  · refine .inr ⟨b, o, c, h4, h5, h6, h7, fun i hi W hW => ?_⟩
    obtain ⟨k1, k2⟩ := cells_at xs i hi
    exact ⟨(hW.cell (p := ⟨b, o + i * 2, none⟩) h7).trans (h8 _ _ k1), (hW.cell (p := ⟨b, o + i * 2 + 1, none⟩) h7).trans (h8 _ _ k2)⟩
theorem Own.open_ {w : World} {B : Nat} {v : Value} {xs : List Nd} (h : Own w B v xs) :
    (v = .slice none 0 0 ∧ xs = []) ∨ ∃ g c cur, v = .slice (some ⟨g, 0, none⟩) xs.length c ∧ B ≤ g ∧ g < w.heap.size ∧ w.heap[g]? = some (.cells cur 53 (0, 0)) ∧ xs.length ≤ c ∧ c ≤ 9223372036854775807 ∧ cur.size = c * 2 ∧
      ∀ i, i < xs.length → cur[i * 2]? = some (.int .i64 (kd xs i)) ∧ cur[i * 2 + 1]? = some (.int .i64 (sy xs i)) := by
  obtain ⟨_, h2⟩ := h
  rcases h2 with ⟨rfl, h5⟩ | ⟨g, cap, cur, rfl, hb, hg, hnc, hcm, hcs, ht⟩
  · exact .inl ⟨rfl, List.eq_nil_of_length_eq_zero h5⟩
  · refine .inr ⟨g, cap, cur, rfl, hb, (Array.getElem?_eq_some_iff.1 hg).1, hg, hnc, hcm, hcs, fun i hi => ?_⟩
    obtain ⟨k1, k2⟩ := cells_at xs i hi
    rw [← ht, List.getElem?_take] at k1 k2
    rw [if_pos (by omega)] at k1 k2
    exact ⟨by simpa using k1, by simpa using k2⟩
theorem Own.mk_ {w : World} {B : Nat} {xs : List Nd} {g c : Nat} {cur : Array Value} (hB : B ≤ g) (hg : w.heap[g]? = some (.cells cur 53 (0, 0))) (hnc : xs.length ≤ c) (hcm : c ≤ 9223372036854775807) (hcs : cur.size = c * 2)
    (hc : ∀ i, i < xs.length → cur[i * 2]? = some (.int .i64 (kd xs i)) ∧ cur[i * 2 + 1]? = some (.int .i64 (sy xs i))) : Own w B (.slice (some ⟨g, 0, none⟩) xs.length c) xs := by
  refine ⟨cells_length xs, .inr ⟨g, c, cur, rfl, hB, hg, hnc, hcm, hcs, cells_ext (by simp; omega) fun i hi => ?_⟩⟩
  rw [List.getElem?_take, List.getElem?_take, if_pos (by omega), if_pos (by omega)]
  obtain ⟨k1, k2⟩ := hc i hi
  exact ⟨by simpa using k1, by simpa using k2⟩
theorem Own.lit (w : World) (B : Nat) (xs : List Nd) (cs : Array Value) (hB : B ≤ w.heap.size) (hn : xs.length ≤ 9223372036854775807) (hc : cs.toList = cells xs) :
    Own (w.alloc (.cells cs 53)) B (.slice (some ⟨w.heap.size, 0, none⟩) xs.length xs.length) xs := by
  have hl : cs.size = xs.length * 2 := by rw [← Array.length_toList, hc, cells_length]
  have h := World.ownsRow_lit (e := 53) (size := 2) w cs xs.length hB hn hl
  rw [hc] at h
  exact h

theorem Tryz.infoNd : (Tryz.prog.info? 53).map (fun i => (i.zero, i.size, i.bytes)) = some (some (.agg #[.int .i64 0, .int .i64 0]), 2, 16) := by kernel_rfl

theorem nodes_slice {w : World} {v : Value} {xs : List Nd} (h : Nodes w v xs) : ∃ A c, v = .slice A xs.length c := by
  rcases h.open_ with ⟨rfl, rfl⟩ | ⟨b, o, c, rfl, _⟩
  · exact ⟨_, _, rfl⟩
  · exact ⟨_, _, rfl⟩

theorem Tryz.ndGuard : Tryz.prog.eqGuardType Tryz.prog.depth 53 = false := by kernel_rfl
theorem Tryz.ndEq (a b c d : Int) (w : World) : (Op.equalIn 10000 53 (.agg #[.int .i64 a, .int .i64 b]) (.agg #[.int .i64 c, .int .i64 d])).run Tryz.prog w = .ok (a == c && b == d) w := by
  have u2 := Tryz.underlying2
  have hS : Tryz.prog.underlying 53 = some (.struct (Tryz.prog.fieldsOf 53)) := by kernel_rfl
  have hp : Tryz.prog.stoodInHeld 53 = false := by kernel_rfl
  rw [show (10000 : Nat) = 9999 + 1 from rfl, run_equalIn_agg w 9999 53 _ _ hS hp]
  simp only [Program.fieldsOf, Tryz.underlying53]
  go_simp
  by_cases h1 : a = c <;> by_cases h2 : b = d <;> simp [h1, h2]
theorem Tryz.ndNeq (a b c d : Int) (w : World) : (binOp .neq 53 (.agg #[.int .i64 a, .int .i64 b]) (.agg #[.int .i64 c, .int .i64 d])).run Tryz.prog w = .ok (.bool (!(a == c && b == d))) w := by
  rw [run_neq_struct, Tryz.ndEq]; rfl

theorem big2 {n m : Nat} (h : n + m ≤ 1099511627776) : n + m ≤ maxLen ∧ (n + m) * 16 ≤ 140737488355328 := by
  unfold maxLen; omega

theorem wpList_app {ops : Array Oper} {rest : List Oper} {o : Oper} {a : Act} {Q : Exit → Act → World → Prop} {w w0 : World} (s x : Operand) (hgd : o.guard = none)
    (ho : o.op = .call { callee := .builtin .append, args := #[s, x], argTypes := #[31, 31] })
    (v : Value) (xs : List Nd) (hs : a.eval s = v) (hown : Own w w0.heap.size v xs) (hg : Grew w0 w) (vx : Value) (ys : List Nd) (hx : a.eval x = vx) (hr : Nodes w vx ys) (hn : xs.length + ys.length ≤ 1099511627776)
    (h : ∀ v' w', Own w' w0.heap.size v' (xs ++ ys) → Grew w0 w' → w.grownBy w' v.ownBlock → wpList Tryz.prog ops Q rest (a.put o.dst v') w') : wpList Tryz.prog ops Q (o :: rest) a w := by
  obtain ⟨i0, hi0, hz0, hz1, hz2⟩ := info_parts Tryz.infoNd
  refine wpList_append_rd w hgd s x _ ho w0.heap.size 53 i0 _ 2 16 Tryz.underlying31 hi0 hz0 hz1 hz2 rfl (by omega) v xs.length (cells xs) hs hown vx ys.length (cells ys) hx hr (cells_one ys) (big2 hn).1 (big2 hn).2 hg.size ?_
  intro v' w' h1 h2 h3
  refine h v' w' ?_ (hg.grown h2 fun k hk => (hown.lt k hk).1) h2
  unfold Own
  rw [cells_append, List.length_append]
  exact h1

end Go.Proofs.YtjlnompmhgjaaaaGreat


/- A row that is written: other rows stay, older worlds have not changed. -/
namespace Go.Proofs.YtjlnompmhgjaaaaGreat
open Go.RowKit

end Go.Proofs.YtjlnompmhgjaaaaGreat


/- Slices of int64 in memory, and the laws' own helpers on them. -/
namespace Go.Proofs.YtjlnompmhgjaaaaGreat
open Go.RowKit

def it (L : List Int) (i : Nat) : Int := L.getD i 0
def icells (L : List Int) : List Value := L.map (Value.int .i64)
theorem icells_length (L : List Int) : (icells L).length = L.length * 1 := by simp [icells]
theorem icells_one (L : List Int) : ∀ u ∈ icells L, u.oneCell' = true := by
  intro u hu
  simp only [icells, List.mem_map] at hu
  obtain ⟨s, _, rfl⟩ := hu
  rfl
theorem icells_at {L : List Int} {i : Nat} (h : i < L.length) : (icells L)[i]? = some (.int .i64 (it L i)) := by simp [icells, it, List.getD, h]
theorem icells_append (K L : List Int) : icells (K ++ L) = icells K ++ icells L := by simp [icells]
theorem it_get {L : List Int} {i : Nat} (h : i < L.length) : L[i] = it L i := by simp [it, List.getD, h]
def Ints (w : World) (v : Value) (L : List Int) : Prop := Rd w 1 v L.length (icells L)
def OwnI (w : World) (B : Nat) (v : Value) (L : List Int) : Prop := w.ownsRow B 2 1 v L.length (icells L)
theorem Ints.grew {w w' : World} {v : Value} {L : List Int} (h : Ints w v L) (hb : Grew w w') : Ints w' v L := Rd.grew h hb
theorem Ints.nil_ (w : World) : Ints w (.slice none 0 0) [] := Rd.nil_ w 1
theorem OwnI.ints {w : World} {B : Nat} {v : Value} {L : List Int} (h : OwnI w B v L) : Ints w v L := Rd.of_own h
theorem OwnI.nil_ (w : World) (B : Nat) : OwnI w B (.slice none 0 0) [] := World.ownsRow_nil w B _ 1
theorem OwnI.grew {w w' : World} {B : Nat} {v : Value} {L : List Int} (h : OwnI w B v L) (hb : Grew w w') : OwnI w' B v L := own_grew h hb
theorem OwnI.base {w : World} {B B' : Nat} {v : Value} {L : List Int} (h : OwnI w B v L) (hb : B' ≤ B) : OwnI w B' v L := own_base h hb
theorem Ints.open_ {w : World} {v : Value} {L : List Int} (h : Ints w v L) :
    (v = .slice none 0 0 ∧ L = []) ∨ ∃ b o c, v = .slice (some ⟨b, o, none⟩) L.length c ∧ L.length ≤ c ∧ c ≤ 9223372036854775807 ∧ b < w.heap.size ∧
      ∀ i, i < L.length → ∀ W, Grew w W → W.cell? ⟨b, o + i, none⟩ = some (.int .i64 (it L i)) := by
  obtain ⟨_, _, h3⟩ := h
  rcases h3 with ⟨h4, h5⟩ | ⟨b, o, c, h4, h5, h6, h7, h8⟩
  · exact .inl ⟨h4, List.eq_nil_of_length_eq_zero h5⟩
  · exact .inr ⟨b, o, c, h4, h5, h6, h7, fun i hi W hW => (hW.cell (p := ⟨b, o + i, none⟩) h7).trans (h8 _ _ (icells_at hi))⟩
theorem ints_slice {w : World} {v : Value} {L : List Int} (h : Ints w v L) : ∃ A c, v = .slice A L.length c := by
  rcases h.open_ with ⟨rfl, rfl⟩ | ⟨b, o, c, rfl, _⟩
  · exact ⟨_, _, rfl⟩
  · exact ⟨_, _, rfl⟩
theorem OwnI.mk_ {w : World} {B : Nat} {L : List Int} {g c : Nat} {cur : Array Value} (hB : B ≤ g) (hg : w.heap[g]? = some (.cells cur 2 (0, 0))) (hnc : L.length ≤ c) (hcm : c ≤ 9223372036854775807) (hcs : cur.size = c)
    (hc : ∀ i, i < L.length → cur[i]? = some (.int .i64 (it L i))) : OwnI w B (.slice (some ⟨g, 0, none⟩) L.length c) L := by
  refine ⟨icells_length L, .inr ⟨g, c, cur, rfl, hB, hg, hnc, hcm, by omega, ?_⟩⟩
  apply List.ext_getElem?
  intro j
  rw [List.getElem?_take]
  by_cases hj : j < L.length
  · rw [if_pos (by omega), icells_at hj]
    simpa using hc j hj
  · rw [if_neg (by omega), List.getElem?_eq_none (by rw [icells_length]; omega)]
theorem Tryz.infoI : (Tryz.prog.info? 2).map (fun i => (i.zero, i.size, i.bytes)) = some (some (.int .i64 0), 1, 8) := by kernel_rfl
def GivesI (w : World) (L : List Int) (e : Ending) (w' : World) : Prop := ∃ v, e = .returned v ∧ OwnI w' w.heap.size v L ∧ Grew w w'

end Go.Proofs.YtjlnompmhgjaaaaGreat


/- Masks, plain: rows of numbers that are masks; members, images, squeezed masks. No program is in sight. -/
namespace Go.Proofs.YtjlnompmhgjaaaaGreat
open Go.RowKit

def zs (L : List Nat) : List Int := L.map fun i : Nat => (i : Int)
def nt (L : List Nat) (i : Nat) : Nat := L.getD i 0
theorem zs_len (L : List Nat) : (zs L).length = L.length := by simp [zs]
theorem zs_it {L : List Nat} {i : Nat} (h : i < L.length) : it (zs L) i = ((nt L i : Nat) : Int) := by simp [it, zs, nt, List.getD, h]
theorem zs_append (K L : List Nat) : zs (K ++ L) = zs K ++ zs L := by simp [zs]
theorem zs_one (x : Nat) : zs [x] = [(x : Int)] := rfl
theorem nt_get {L : List Nat} {i : Nat} (h : i < L.length) : L[i] = nt L i := by simp [nt, List.getD, h]
theorem nt_mem {L : List Nat} {i : Nat} (h : i < L.length) : nt L i ∈ L := by rw [← nt_get h]; exact List.getElem_mem h
theorem mem_nt {L : List Nat} {x : Nat} (h : x ∈ L) : ∃ i, i < L.length ∧ nt L i = x := by
  obtain ⟨i, hi, rfl⟩ := List.getElem_of_mem h
  exact ⟨i, hi, (nt_get hi).symm⟩
theorem take_succ_nt {L : List Nat} {i : Nat} (h : i < L.length) : L.take (i + 1) = L.take i ++ [nt L i] := by
  rw [List.take_add_one, List.getElem?_eq_getElem h, nt_get h]; rfl
def Sm (L : List Nat) : Prop := ∀ m ∈ L, m < 1073741824
theorem Sm.at_ {L : List Nat} (h : Sm L) {i : Nat} (hi : i < L.length) : nt L i < 1073741824 := h _ (nt_mem hi)
theorem Sm.nil_ : Sm [] := fun m h => absurd h (by simp)
theorem Sm.app {K : List Nat} {x : Nat} (h : Sm K) (hx : x < 1073741824) : Sm (K ++ [x]) := by
  intro m hm
  rw [List.mem_append, List.mem_singleton] at hm
  rcases hm with hm | rfl
  · exact h _ hm
  · exact hx

def mb (m n : Nat) : List Nat := (List.range n).filter m.testBit
theorem mb_mem {m n x : Nat} : x ∈ mb m n ↔ x < n ∧ m.testBit x = true := by
  unfold mb; rw [List.mem_filter, List.mem_range]
theorem mb_yes {m n : Nat} (h : m.testBit n = true) : mb m (n + 1) = mb m n ++ [n] := by
  unfold mb; rw [List.range_succ, List.filter_append]; simp [h]
theorem mb_no {m n : Nat} (h : m.testBit n = false) : mb m (n + 1) = mb m n := by
  unfold mb; rw [List.range_succ, List.filter_append]; simp [h]
theorem mb_len (m n : Nat) : (mb m n).length ≤ n := by
  unfold mb
  have := List.length_filter_le m.testBit (List.range n)
  simpa using this
theorem div_zero_lt {m n : Nat} (h : m / 2 ^ n = 0) : m < 2 ^ n := by
  rcases Nat.lt_or_ge m (2 ^ n) with h1 | h1
  · exact h1
  · have := Nat.div_pos h1 (Nat.pow_pos (by omega)); omega
theorem bit_lt {m n i : Nat} (hm : m < 2 ^ n) (h : m.testBit i = true) : i < n := by
  rcases Nat.lt_or_ge i n with h1 | h1
  · exact h1
  · have := Nat.testBit_lt_two_pow (Nat.lt_of_lt_of_le hm (Nat.pow_le_pow_right (by omega) h1))
    rw [this] at h; cases h
theorem mb_top {m n : Nat} (h : m < 2 ^ n) : ∀ k, n ≤ k → mb m k = mb m n := by
  intro k hk
  induction k with
  | zero =>
    obtain rfl : n = 0 := by omega
    rfl
  | succ k ih =>
    by_cases he : n = k + 1
    · rw [he]
    · have hb : m.testBit k = false := Nat.testBit_lt_two_pow (Nat.lt_of_lt_of_le h (Nat.pow_le_pow_right (by omega) (by omega)))
      rw [mb_no hb, ih (by omega)]
def mbs (m : Nat) : List Nat := mb m 30
theorem mbs_len (m : Nat) : (mbs m).length ≤ 30 := mb_len m 30
theorem mbs_of {m n : Nat} (_ : m < 1073741824) (h : m / 2 ^ n = 0) (hn : n ≤ 30) : mb m n = mbs m := ((mb_top (div_zero_lt h)) 30 hn).symm
theorem mbs_mem {m x : Nat} (hm : m < 1073741824) : x ∈ mbs m ↔ m.testBit x = true := by
  unfold mbs
  rw [mb_mem]
  exact ⟨fun h => h.2, fun h => ⟨bit_lt (n := 30) (by omega) h, h⟩⟩
theorem mbs_lt {m n x : Nat} (hm : m < 2 ^ n) (hx : x ∈ mbs m) : x < n := bit_lt hm (mb_mem.1 hx).2
theorem pow30 {k : Nat} (h : k < 30) : 2 ^ k < 1073741824 := by
  have : 2 ^ k < 2 ^ 30 := Nat.pow_lt_pow_right (by omega) h
  omega
theorem pow30' {k : Nat} (h : k ≤ 30) : 2 ^ k ≤ 1073741824 := by
  have : 2 ^ k ≤ 2 ^ 30 := Nat.pow_le_pow_right (by omega) h
  omega
theorem pow63 {k : Nat} (h : k ≤ 30) : IntKind.i64.wrap (1 * 2 ^ k) = ((2 ^ k : Nat) : Int) := by
  have h1 := pow30' h
  have h2 : (((2 ^ k : Nat) : Int)) = (2 : Int) ^ k := by rw [Int.natCast_pow]; rfl
  rw [Int.one_mul, ← h2, IntKind.wrap_i64]
  generalize (2 ^ k : Nat) = p at h1
  omega
theorem or_sm {a b : Nat} (ha : a < 1073741824) (hb : b < 1073741824) : a ||| b < 1073741824 := Nat.or_lt_two_pow (n := 30) ha hb
theorem or_n {a b n : Nat} (ha : a < 2 ^ n) (hb : b < 2 ^ n) : a ||| b < 2 ^ n := Nat.or_lt_two_pow ha hb

theorem wrap_pow {k : Nat} (h : k ≤ 30) : wrap64 (2 ^ k) = ((2 ^ k : Nat) : Int) := by
  have h1 := pow63 h
  rw [Int.one_mul] at h1
  rw [← h1]
  unfold wrap64
  rw [IntKind.wrap_i64]
theorem bit_e (m i : Nat) (hm : m < 9223372036854775808) : (bits .and .i64 ((m : Int) / 2 ^ i) 1 == 1) = m.testBit i := by
  have h := bit_i64 m i hm
  rw [Int.natCast_ediv, Int.natCast_pow] at h
  exact h

theorem div_e (m i : Nat) : (m : Int) / 2 ^ i = ((m / 2 ^ i : Nat) : Int) := by
  rw [Int.natCast_ediv, Int.natCast_pow]; rfl

def orK (A is : List Nat) : Nat → Nat
  | 0 => 0
  | k + 1 => orK A is k ||| nt A (nt is k)
theorem orK_sm {A is : List Nat} (h : Sm A) : ∀ k, orK A is k < 1073741824
  | 0 => by show 0 < _; omega
  | k + 1 => by
    refine or_sm (orK_sm h k) ?_
    unfold nt
    by_cases hi : is.getD k 0 < A.length
    · exact Sm.at_ h hi
    · rw [List.getD_eq_getElem?_getD, List.getElem?_eq_none (by omega)]; show 0 < _; omega
theorem orK_bit (A is : List Nat) (x : Nat) : ∀ k, (orK A is k).testBit x = true ↔ ∃ j, j < k ∧ (nt A (nt is j)).testBit x = true
  | 0 => by show (0 : Nat).testBit x = true ↔ _; simp
  | k + 1 => by
    show ((orK A is k ||| nt A (nt is k)).testBit x = true) ↔ _
    rw [Nat.testBit_or, Bool.or_eq_true, orK_bit A is x k]
    constructor
    · rintro (⟨j, hj, h⟩ | h)
      · exact ⟨j, by omega, h⟩
      · exact ⟨k, by omega, h⟩
    · rintro ⟨j, hj, h⟩
      by_cases he : j = k
      · exact .inr (he ▸ h)
      · exact .inl ⟨j, by omega, h⟩
def img (A : List Nat) (m : Nat) : Nat := orK A (mbs m) (mbs m).length
theorem img_bit {A : List Nat} {m : Nat} (hm : m < 1073741824) (x : Nat) : (img A m).testBit x = true ↔ ∃ j, m.testBit j = true ∧ (nt A j).testBit x = true := by
  unfold img
  rw [orK_bit]
  constructor
  · rintro ⟨j, hj, h⟩
    exact ⟨_, (mbs_mem hm).1 (nt_mem hj), h⟩
  · rintro ⟨j, hj, h⟩
    obtain ⟨k, hk, rfl⟩ := mem_nt ((mbs_mem hm).2 hj)
    exact ⟨k, hk, h⟩
def imK (A : List Nat) (m : Nat) : Nat → Nat
  | 0 => 0
  | k + 1 => if m.testBit k then imK A m k ||| nt A k else imK A m k
theorem imK_sm {A : List Nat} {m : Nat} (h : Sm A) : ∀ k, k ≤ A.length → imK A m k < 1073741824
  | 0, _ => by show 0 < _; omega
  | k + 1, hk => by
    unfold imK
    split
    · exact or_sm (imK_sm h k (by omega)) (h.at_ (by omega))
    · exact imK_sm h k (by omega)
theorem imK_bit (A : List Nat) (m x : Nat) : ∀ k, (imK A m k).testBit x = true ↔ ∃ j, j < k ∧ m.testBit j = true ∧ (nt A j).testBit x = true
  | 0 => by show (0 : Nat).testBit x = true ↔ _; simp
  | k + 1 => by
    have ih := imK_bit A m x k
    have hone : (∃ j, j < k + 1 ∧ m.testBit j = true ∧ (nt A j).testBit x = true) ↔ (∃ j, j < k ∧ m.testBit j = true ∧ (nt A j).testBit x = true) ∨ (m.testBit k = true ∧ (nt A k).testBit x = true) := by
      constructor
      · rintro ⟨j, hj, h⟩
        by_cases he : j = k
        · exact .inr (he ▸ h)
        · exact .inl ⟨j, by omega, h⟩
      · rintro (⟨j, hj, h⟩ | h)
        · exact ⟨j, by omega, h⟩
        · exact ⟨k, by omega, h⟩
    rw [hone, ← ih, show imK A m (k + 1) = if m.testBit k = true then imK A m k ||| nt A k else imK A m k from rfl]
    cases hb : m.testBit k with
    | true => rw [if_pos rfl, Nat.testBit_or, Bool.or_eq_true]; simp
    | false => rw [if_neg (by simp)]; simp
theorem img_imK {A : List Nat} {m : Nat} (hm : m < 2 ^ A.length) (hn : A.length ≤ 30) : imK A m A.length = img A m := by
  have hm' : m < 1073741824 := Nat.lt_of_lt_of_le hm (pow30' hn)
  apply Nat.eq_of_testBit_eq
  intro x
  rw [Bool.eq_iff_iff, imK_bit, img_bit hm']
  constructor
  · rintro ⟨j, hj, h⟩; exact ⟨j, h⟩
  · rintro ⟨j, h⟩; exact ⟨j, bit_lt hm h.1, h⟩

def mk (n : Nat) (x : Int) : Bool := decide (0 ≤ x ∧ x ≤ ((2 ^ n : Nat) : Int) - 1)
theorem nats_of {n : Nat} : ∀ {L : List Int}, (∀ x ∈ L, mk n x = true) → ∃ M : List Nat, L = zs M ∧ M.length = L.length ∧ ∀ m ∈ M, m < 2 ^ n
  | [], _ => ⟨[], rfl, rfl, fun m h => absurd h (by simp)⟩
  | x :: L, h => by
    obtain ⟨M, h1, h2, h3⟩ := nats_of (L := L) fun y hy => h y (List.mem_cons_of_mem _ hy)
    have hx := h x List.mem_cons_self
    have hx := of_decide_eq_true hx
    have hp : (0 : Nat) < 2 ^ n := Nat.pow_pos (by omega)
    refine ⟨x.toNat :: M, ?_, by simp [h2], ?_⟩
    · show x :: L = _ :: zs M
      rw [← h1]
      have he2 : x = ((x.toNat : Nat) : Int) := by omega
      exact congrArg (· :: L) he2
    · intro m hm
      rcases List.mem_cons.1 hm with rfl | hm
      · generalize (2 ^ n : Nat) = p at hp hx ⊢
        omega
      · exact h3 m hm
end Go.Proofs.YtjlnompmhgjaaaaGreat


/- Relations, plain: reflexive, transitive (by Warshall's closure), antisymmetric (by the inverse). No program is in sight. -/
namespace Go.Proofs.YtjlnompmhgjaaaaGreat
open Go.RowKit

def AllK (p : Nat → Bool) (k : Nat) : Prop := ∀ i, i < k → p i = true
theorem AllK.zero (p : Nat → Bool) : AllK p 0 := fun i hi => absurd hi (by omega)
theorem AllK.succ {p : Nat → Bool} {k : Nat} (h : AllK p k) (h1 : p k = true) : AllK p (k + 1) := by
  intro i hi
  by_cases he : i = k
  · rw [he]; exact h1
  · exact h i (by omega)
def Rl (A : List Nat) : Prop := A.length ≤ 30 ∧ ∀ m ∈ A, m < 2 ^ A.length
theorem Rl.lt {A : List Nat} (h : Rl A) {i : Nat} (hi : i < A.length) : nt A i < 2 ^ A.length := h.2 _ (nt_mem hi)
theorem Rl.sm {A : List Nat} (h : Rl A) : Sm A := fun m hm => Nat.lt_of_lt_of_le (h.2 m hm) (pow30' h.1)
theorem Rl.bit {A : List Nat} (h : Rl A) {i x : Nat} (hi : i < A.length) (hx : (nt A i).testBit x = true) : x < A.length := bit_lt (h.lt hi) hx

theorem dif_zero {a b : Nat} : dif a b = 0 ↔ ∀ z, a.testBit z = true → b.testBit z = true := by
  constructor
  · intro h z hz
    have := congrArg (fun n => n.testBit z) h
    simp only [dif_bit, Nat.zero_testBit, hz, Bool.true_and] at this
    simpa using this
  · intro h
    apply Nat.eq_of_testBit_eq
    intro z
    rw [dif_bit, Nat.zero_testBit]
    cases hz : a.testBit z with
    | false => rfl
    | true => rw [h z hz]; rfl
/-! The inverse. -/
def Bk (a : Nat → Nat) (n i k : Nat) (f : Nat → Nat) : Prop :=
  ∀ j, j < n → f j < 1073741824 ∧ ∀ x, (f j).testBit x = true ↔ ((x < i ∧ (a x).testBit j = true) ∨ (x = i ∧ j ∈ (mbs (a i)).take k))
theorem Bk.zero (a : Nat → Nat) (n : Nat) : Bk a n 0 0 (fun _ => 0) := by
  intro j _
  refine ⟨by show 0 < 1073741824; omega, fun x => ?_⟩
  rw [Nat.zero_testBit]
  constructor
  · intro h; cases h
  · rintro (⟨h, _⟩ | ⟨_, h⟩)
    · omega
    · rw [List.take_zero] at h; cases h
theorem Bk.step {a : Nat → Nat} {n i k : Nat} {f f' : Nat → Nat} (h : Bk a n i k f) (hk : k < (mbs (a i)).length) (hi : i < 30) (h1 : f' (nt (mbs (a i)) k) = f (nt (mbs (a i)) k) ||| 2 ^ i) (h2 : ∀ j, j < n → j ≠ nt (mbs (a i)) k → f' j = f j) : Bk a n i (k + 1) f' := by
  intro j hj
  obtain ⟨b1, b2⟩ := h j hj
  rw [take_succ_nt hk]
  by_cases he : j = nt (mbs (a i)) k
  · rw [he, h1, ← he]
    refine ⟨or_sm b1 (pow30 hi), fun x => ?_⟩
    rw [Nat.testBit_or, Bool.or_eq_true, b2 x, Nat.testBit_two_pow, decide_eq_true_eq, List.mem_append, List.mem_singleton]
    constructor
    · rintro ((h | ⟨h, hm⟩) | h)
      · exact .inl h
      · exact .inr ⟨h, .inl hm⟩
      · exact .inr ⟨h.symm, .inr rfl⟩
    · rintro (h | ⟨h, hm⟩)
      · exact .inl (.inl h)
      · exact .inr h.symm
  · rw [h2 j hj he]
    refine ⟨b1, fun x => ?_⟩
    rw [b2 x, List.mem_append, List.mem_singleton]
    constructor
    · rintro (h | ⟨h, hm⟩)
      · exact .inl h
      · exact .inr ⟨h, .inl hm⟩
    · rintro (h | ⟨h, hm | hm⟩)
      · exact .inl h
      · exact .inr ⟨h, hm⟩
      · exact absurd hm he
theorem Bk.next {a : Nat → Nat} {n i : Nat} {f : Nat → Nat} (h : Bk a n i (mbs (a i)).length f) (ha : a i < 1073741824) : Bk a n (i + 1) 0 f := by
  intro j hj
  obtain ⟨b1, b2⟩ := h j hj
  refine ⟨b1, fun x => ?_⟩
  rw [b2 x, List.take_length, List.take_zero, mbs_mem ha]
  constructor
  · rintro (⟨h, hb⟩ | ⟨h, hb⟩)
    · exact .inl ⟨by omega, hb⟩
    · exact .inl ⟨by omega, by rw [h]; exact hb⟩
  · rintro (⟨h, hb⟩ | ⟨_, h⟩)
    · by_cases he : x = i
      · exact .inr ⟨he, by rw [← he]; exact hb⟩
      · exact .inl ⟨by omega, hb⟩
    · cases h
theorem Bk.bit {a : Nat → Nat} {n : Nat} {f : Nat → Nat} (h : Bk a n n 0 f) {j : Nat} (hj : j < n) (x : Nat) : (f j).testBit x = true ↔ x < n ∧ (a x).testBit j = true := by
  rw [(h j hj).2 x]
  constructor
  · rintro (h | ⟨_, h⟩)
    · exact h
    · rw [List.take_zero] at h; cases h
  · exact .inl
/-! The transitive closure. -/
def Wr (a : Nat → Nat) (n j i : Nat) (f : Nat → Nat) : Prop :=
  (∀ x, x < n → f x < 1073741824 ∧ ∀ z, (a x).testBit z = true → (f x).testBit z = true) ∧
  (∀ x y, x < n → (y < j ∨ (y = j ∧ x < i)) → (a x).testBit y = true → ∀ z, (a y).testBit z = true → (f x).testBit z = true) ∧
  ((∀ x y z, x < n → (a x).testBit y = true → (a y).testBit z = true → (a x).testBit z = true) → ∀ x, x < n → f x = a x)
theorem Wr.zero {A : List Nat} (h : Rl A) : Wr (nt A) A.length 0 0 (nt A) :=
  ⟨fun _ hx => ⟨h.sm.at_ hx, fun _ hz => hz⟩, fun x y _ hy => by omega, fun _ _ _ => rfl⟩
theorem Wr.next {a : Nat → Nat} {n j : Nat} {f : Nat → Nat} (h : Wr a n j n f) : Wr a n (j + 1) 0 f := by
  refine ⟨h.1, fun x y hx hy => h.2.1 x y hx ?_, h.2.2⟩
  rcases hy with hy | ⟨_, hy⟩
  · by_cases he : y = j
    · exact .inr ⟨he, hx⟩
    · exact .inl (by omega)
  · omega
theorem Wr.skip {a : Nat → Nat} {n j i : Nat} {f : Nat → Nat} (h : Wr a n j i f) (hi : i < n) (hb : (f i).testBit j = false) : Wr a n j (i + 1) f := by
  refine ⟨h.1, fun x y hx hy hxy => ?_, h.2.2⟩
  by_cases he : y = j ∧ x = i
  · obtain ⟨rfl, rfl⟩ := he
    rw [(h.1 x hi).2 y hxy] at hb
    cases hb
  · refine h.2.1 x y hx ?_ hxy
    rcases hy with hy | ⟨hy, hx2⟩
    · exact .inl hy
    · exact .inr ⟨hy, by omega⟩
theorem Wr.step {a : Nat → Nat} {n j i : Nat} {f f' : Nat → Nat} (h : Wr a n j i f) (hi : i < n) (hj : j < n) (hb : (f i).testBit j = true) (h1 : f' i = f i ||| f j) (h2 : ∀ x, x < n → x ≠ i → f' x = f x) : Wr a n j (i + 1) f' := by
  have hup : ∀ x, x < n → ∀ z, (f x).testBit z = true → (f' x).testBit z = true := by
    intro x hx z hz
    by_cases he : x = i
    · rw [he, h1, Nat.testBit_or, ← he, hz]; rfl
    · rw [h2 x hx he]; exact hz
  refine ⟨fun x hx => ⟨?_, fun z hz => hup x hx z ((h.1 x hx).2 z hz)⟩, fun x y hx hy hxy z hyz => ?_, fun ht x hx => ?_⟩
  · by_cases he : x = i
    · rw [he, h1]; exact or_sm (h.1 i hi).1 (h.1 j hj).1
    · rw [h2 x hx he]; exact (h.1 x hx).1
  · by_cases he : y = j ∧ x = i
    · obtain ⟨rfl, rfl⟩ := he
      rw [h1, Nat.testBit_or, (h.1 y hj).2 z hyz]
      simp
    · refine hup x hx z (h.2.1 x y hx ?_ hxy z hyz)
      rcases hy with hy | ⟨hy, hx2⟩
      · exact .inl hy
      · exact .inr ⟨hy, by omega⟩
  · have hf := h.2.2 ht
    by_cases he : x = i
    · subst he
      rw [h1, hf x hx, hf j hj]
      rw [hf x hx] at hb
      apply Nat.eq_of_testBit_eq
      intro z
      rw [Nat.testBit_or]
      cases hax : (a x).testBit z with
      | true => rfl
      | false =>
        cases hjz : (a j).testBit z with
        | false => rfl
        | true => rw [ht x j z hx hb hjz] at hax; cases hax
    · rw [h2 x hx he]; exact hf x hx
end Go.Proofs.YtjlnompmhgjaaaaGreat


/- Boxes, full masks, implications of sets, plain. No program is in sight. -/
namespace Go.Proofs.YtjlnompmhgjaaaaGreat
open Go.RowKit

def bxK (A : List Nat) (m : Nat) : Nat → Nat
  | 0 => 0
  | k + 1 => if dif (nt A k) m = 0 then bxK A m k ||| 2 ^ k else bxK A m k
theorem bxK_yes {A : List Nat} {m k : Nat} (h : decide (dif (nt A k) m = 0) = true) : bxK A m (k + 1) = bxK A m k ||| 2 ^ k := by
  show (if _ then _ else _) = _
  rw [if_pos (of_decide_eq_true h)]
theorem bxK_no {A : List Nat} {m k : Nat} (h : decide (dif (nt A k) m = 0) = false) : bxK A m (k + 1) = bxK A m k := by
  show (if _ then _ else _) = _
  rw [if_neg (of_decide_eq_false h)]
theorem bxK_lt (A : List Nat) (m : Nat) : ∀ k, bxK A m k < 2 ^ k
  | 0 => by show 0 < _; omega
  | k + 1 => by
    have ih := bxK_lt A m k
    have h2 : 2 ^ (k + 1) = 2 * 2 ^ k := by rw [Nat.pow_succ]; omega
    unfold bxK
    split
    · exact or_n (by omega) (by omega)
    · omega
theorem bxK_sm {A : List Nat} {m k : Nat} (h : k ≤ 30) : bxK A m k < 1073741824 := Nat.lt_of_lt_of_le (bxK_lt _ _ _) (pow30' h)
theorem bxK_bit (A : List Nat) (m x : Nat) : ∀ k, (bxK A m k).testBit x = true ↔ x < k ∧ ∀ z, (nt A x).testBit z = true → m.testBit z = true
  | 0 => by show (0 : Nat).testBit x = true ↔ _; simp
  | k + 1 => by
    have ih := bxK_bit A m x k
    have hlt := bxK_lt A m k
    rw [show bxK A m (k + 1) = if dif (nt A k) m = 0 then bxK A m k ||| 2 ^ k else bxK A m k from rfl]
    by_cases hd : dif (nt A k) m = 0
    · rw [if_pos hd, Nat.testBit_or, Bool.or_eq_true, ih, Nat.testBit_two_pow]
      constructor
      · rintro (⟨h1, h2⟩ | h1)
        · exact ⟨by omega, h2⟩
        · obtain rfl : k = x := by simpa using h1
          exact ⟨by omega, dif_zero.1 hd⟩
      · rintro ⟨h1, h2⟩
        by_cases hx : k = x
        · exact .inr (by simp [hx])
        · exact .inl ⟨by omega, h2⟩
    · rw [if_neg hd, ih]
      constructor
      · rintro ⟨h1, h2⟩; exact ⟨by omega, h2⟩
      · rintro ⟨h1, h2⟩
        by_cases hx : x = k
        · exact absurd (dif_zero.2 (hx ▸ h2)) hd
        · exact ⟨by omega, h2⟩
def bx (A : List Nat) (m : Nat) : Nat := bxK A m A.length
theorem bx_lt (A : List Nat) (m : Nat) : bx A m < 2 ^ A.length := bxK_lt A m A.length
theorem bx_bit {A : List Nat} {m x : Nat} : (bx A m).testBit x = true ↔ x < A.length ∧ ∀ z, (nt A x).testBit z = true → m.testBit z = true := bxK_bit A m x A.length
theorem and_dif {a m : Nat} : (a &&& m = a) ↔ dif a m = 0 := by
  rw [dif_zero]
  constructor
  · intro h z hz
    rw [← h, Nat.testBit_and] at hz
    simp only [Bool.and_eq_true] at hz
    exact hz.2
  · intro h
    apply Nat.eq_of_testBit_eq
    intro z
    rw [Nat.testBit_and]
    cases hz : a.testBit z with
    | false => rfl
    | true => rw [h z hz]; rfl
theorem dif_le {a b : Nat} : dif a b ≤ a := by
  have h : dif a b &&& a = dif a b := and_dif.2 (dif_zero.2 fun z hz => by rw [dif_bit] at hz; simp only [Bool.and_eq_true] at hz; exact hz.1)
  rw [← h]
  exact Nat.and_le_right
def full (n : Nat) : Nat := 2 ^ n - 1
theorem full_bit (n x : Nat) : (full n).testBit x = decide (x < n) := Nat.testBit_two_pow_sub_one n x
theorem full_lt (n : Nat) : full n < 2 ^ n := by
  have : 0 < 2 ^ n := Nat.pow_pos (by omega)
  unfold full; omega
theorem full_cast (n : Nat) : ((full n : Nat) : Int) = ((2 ^ n : Nat) : Int) - 1 := by
  have : 0 < 2 ^ n := Nat.pow_pos (by omega)
  unfold full
  generalize 2 ^ n = p at *
  omega
def ar (A : List Nat) (a b : Nat) : Nat := bx A (dif (full A.length) a ||| b)
end Go.Proofs.YtjlnompmhgjaaaaGreat


/- The plain parser: how far it comes, how many nodes it makes, which byte is next. No program is in sight. -/
namespace Go.Proofs.YtjlnompmhgjaaaaGreat
namespace Fm

theorem sees_eq {s : List UInt8} {st : St} {c : UInt8} (h : sees s st c = true) : st.2 = false ∧ s[st.1]? = some c := by
  unfold sees at h
  simp only [Bool.and_eq_true, Bool.not_eq_true', beq_iff_eq] at h
  exact h
theorem sees_lt {s : List UInt8} {st : St} {c : UInt8} (h : sees s st c = true) : st.1 < s.length := by
  have := (sees_eq h).2
  rcases Nat.lt_or_ge st.1 s.length with h1 | h1
  · exact h1
  · rw [List.getElem?_eq_none h1] at this; cases this
theorem sees_other {s : List UInt8} {st : St} {c d : UInt8} (h : sees s st c = true) (hne : c ≠ d) : sees s st d = false := by
  obtain ⟨h1, h2⟩ := sees_eq h
  unfold sees
  rw [h1, h2]
  simp [hne]
theorem letter_some {s : List UInt8} {st : St} {v : Nat} (h : letter s st = some v) : v < 6 ∧ sees s st (UInt8.ofNat (112 + v)) = true := by
  unfold letter at h
  split at h
  · cases h
  · rename_i hb
    have hb' : st.2 = false := by simpa using hb
    split at h
    · rename_i c hc
      split at h
      · rename_i hr
        injection h with h
        subst h
        refine ⟨by omega, ?_⟩
        unfold sees
        have e : UInt8.ofNat (112 + (c.toNat - 112)) = c := by
          apply UInt8.toNat_inj.1
          rw [UInt8.toNat_ofNat']
          omega
        rw [hb', hc, e]
        simp
      · cases h
    · cases h
theorem letter_of_sees {s : List UInt8} {st : St} {v : Nat} (hv : v < 6) (h : sees s st (UInt8.ofNat (112 + v)) = true) : letter s st = some v := by
  obtain ⟨h1, h2⟩ := sees_eq h
  unfold letter
  rw [h1, h2]
  have e : (UInt8.ofNat (112 + v)).toNat = 112 + v := by rw [UInt8.toNat_ofNat']; omega
  simp only [e]
  rw [if_neg (by simp), if_pos (by omega)]
  congr 1
  omega
theorem letter_none {s : List UInt8} {st : St} (h : letter s st = none) (v : Nat) (hv : v < 6) : sees s st (UInt8.ofNat (112 + v)) = false := by
  cases hs : sees s st (UInt8.ofNat (112 + v)) with
  | false => rfl
  | true => rw [letter_of_sees hv hs] at h; cases h
theorem letter_ne {s : List UInt8} {st : St} {v i : Nat} (h : letter s st = some v) (hi : i < 6) (hne : i ≠ v) : sees s st (UInt8.ofNat (112 + i)) = false := by
  cases hs : sees s st (UInt8.ofNat (112 + i)) with
  | false => rfl
  | true => rw [letter_of_sees hi hs] at h; injection h with h; exact absurd h hne
def Ok (s : List UInt8) (st : St) (r : Res) : Prop := st.1 ≤ r.2.1 ∧ r.2.1 ≤ s.length ∧ r.1.length ≤ 3 * (r.2.1 - st.1) + 1

theorem need_pos {s : List UInt8} {st : St} {c : UInt8} (h : st.1 ≤ s.length) : st.1 ≤ (need s st c).1 ∧ (need s st c).1 ≤ s.length := by
  unfold need
  split
  · rename_i hs
    have := sees_lt hs
    simp only [step]
    omega
  · exact ⟨Nat.le_refl _, h⟩

theorem loop_ok {s : List UInt8} {k : Int} {c : UInt8} {sub : St → Res} (hsub : ∀ st, st.1 ≤ s.length → Ok s st (sub st)) : ∀ (m : Nat) (a : List Nd) (st st0 : St), st0.1 ≤ st.1 → st.1 ≤ s.length → a.length ≤ 3 * (st.1 - st0.1) + 1 → Ok s st0 (loop s k c sub m a st) := by
  intro m
  induction m with
  | zero => intro a st st0 h1 h2 h3; exact ⟨h1, h2, h3⟩
  | succ m ih =>
    intro a st st0 h1 h2 h3
    unfold loop
    split
    · rename_i hs
      have hlt := sees_lt hs
      have h := hsub (step st) (by simp only [step]; omega)
      obtain ⟨g1, g2, g3⟩ := h
      simp only [step] at g1 g2 g3
      refine ih _ _ st0 (by simp only [step]; omega) (by simp only [step]; omega) ?_
      simp only [join, List.length_cons, List.length_append, step]
      omega
    · exact ⟨h1, h2, h3⟩

theorem andF_ok {s : List UInt8} {m : Nat} {sub : St → Res} (hsub : ∀ st, st.1 ≤ s.length → Ok s st (sub st)) (st : St) (h : st.1 ≤ s.length) : Ok s st (andF s m sub st) := by
  obtain ⟨g1, g2, g3⟩ := hsub st h
  exact loop_ok hsub m _ _ st g1 g2 g3
theorem orF_ok {s : List UInt8} {m : Nat} {sub : St → Res} (hsub : ∀ st, st.1 ≤ s.length → Ok s st (sub st)) (st : St) (h : st.1 ≤ s.length) : Ok s st (orF s m sub st) := by
  obtain ⟨g1, g2, g3⟩ := andF_ok (m := m) hsub st h
  exact loop_ok (fun st h => andF_ok hsub st h) m _ _ st g1 g2 g3
theorem impF_ok {s : List UInt8} {m : Nat} {sub : St → Res} (hsub : ∀ st, st.1 ≤ s.length → Ok s st (sub st)) : ∀ (i : Nat) (st : St), st.1 ≤ s.length → Ok s st (impF s m sub i st) := by
  intro i
  induction i with
  | zero => intro st h; exact orF_ok hsub st h
  | succ i ih =>
    intro st h
    unfold impF
    obtain ⟨g1, g2, g3⟩ := orF_ok (m := m) hsub st h
    dsimp only
    split
    · rename_i hs
      have hlt := sees_lt hs
      obtain ⟨k1, k2, k3⟩ := ih (step (orF s m sub st).2) (by simp only [step]; omega)
      simp only [step] at k1 k2 k3
      refine ⟨by simp only [step]; omega, by simp only [step]; omega, ?_⟩
      simp only [join, List.length_cons, List.length_append, step]
      omega
    · exact ⟨g1, g2, g3⟩
theorem preF_ok {s : List UInt8} {m : Nat} : ∀ (f : Nat) (st : St), st.1 ≤ s.length → Ok s st (preF s m f st) := by
  intro f
  induction f with
  | zero => intro st h; exact ⟨Nat.le_refl _, h, by simp [preF, falsum]⟩
  | succ f ih =>
    intro st h
    unfold preF
    split
    · rename_i hs
      have hlt := sees_lt hs
      obtain ⟨k1, k2, k3⟩ := ih (step st) (by simp only [step]; omega)
      simp only [step] at k1 k2 k3
      refine ⟨by simp only [step]; omega, by simp only [step]; omega, ?_⟩
      simp only [neg, join, falsum, List.length_cons, List.length_append, List.length_nil, step]
      omega
    split
    · rename_i hs
      have hlt := sees_lt hs
      obtain ⟨n1, n2⟩ := need_pos (s := s) (st := step st) (c := 93) (by simp only [step]; omega)
      obtain ⟨k1, k2, k3⟩ := ih (need s (step st) 93) n2
      have e : (step st).1 = st.1 + 1 := rfl
      refine ⟨by simp only; omega, by simp only; omega, ?_⟩
      simp only [pre, List.length_cons]
      omega
    split
    · rename_i hs
      have hlt := sees_lt hs
      obtain ⟨n1, n2⟩ := need_pos (s := s) (st := step st) (c := 62) (by simp only [step]; omega)
      obtain ⟨k1, k2, k3⟩ := ih (need s (step st) 62) n2
      have e : (step st).1 = st.1 + 1 := rfl
      refine ⟨by simp only; omega, by simp only; omega, ?_⟩
      simp only [pre, List.length_cons]
      omega
    split
    · rename_i hs
      have hlt := sees_lt hs
      exact ⟨by simp only [step]; omega, by simp only [step]; omega, by simp [falsum]⟩
    split
    · rename_i hs
      have hlt := sees_lt hs
      exact ⟨by simp only [step]; omega, by simp only [step]; omega, by simp only [truth, step, List.length_cons, List.length_nil]; omega⟩
    split
    · rename_i hs
      have hlt := sees_lt hs
      obtain ⟨k1, k2, k3⟩ := impF_ok (m := m) ih m (step st) (by simp only [step]; omega)
      obtain ⟨n1, n2⟩ := need_pos (s := s) (st := (impF s m (preF s m f) m (step st)).2) (c := 41) k2
      have e : (step st).1 = st.1 + 1 := rfl
      refine ⟨by simp only; omega, n2, ?_⟩
      simp only
      omega
    split
    · rename_i v hv
      have hlt := sees_lt (letter_some hv).2
      exact ⟨by simp only [step]; omega, by simp only [step]; omega, by simp [vari]⟩
    · exact ⟨Nat.le_refl _, h, by simp [falsum]⟩

theorem parse_ok (s : List UInt8) (m : Nat) : Ok s (0, false) (parse s m) := impF_ok (fun st h => preF_ok m st h) m (0, false) (by simp)

theorem preF_not {s : List UInt8} {m f : Nat} {st : St} (h : sees s st 126 = true) : preF s m (f + 1) st = (neg (preF s m f (step st)).1, (preF s m f (step st)).2) := by
  rw [preF, if_pos h]
theorem preF_box {s : List UInt8} {m f : Nat} {st : St} (h : sees s st 91 = true) : preF s m (f + 1) st = (pre 5 (preF s m f (need s (step st) 93)).1, (preF s m f (need s (step st) 93)).2) := by
  rw [preF, if_neg (by rw [sees_other h (by decide)]; decide), if_pos h]
theorem preF_dia {s : List UInt8} {m f : Nat} {st : St} (h : sees s st 60 = true) : preF s m (f + 1) st = (pre 6 (preF s m f (need s (step st) 62)).1, (preF s m f (need s (step st) 62)).2) := by
  rw [preF, if_neg (by rw [sees_other h (by decide)]; decide), if_neg (by rw [sees_other h (by decide)]; decide), if_pos h]
theorem preF_fls {s : List UInt8} {m f : Nat} {st : St} (h : sees s st 70 = true) : preF s m (f + 1) st = (falsum, step st) := by
  rw [preF, if_neg (by rw [sees_other h (by decide)]; decide), if_neg (by rw [sees_other h (by decide)]; decide), if_neg (by rw [sees_other h (by decide)]; decide), if_pos h]
theorem preF_tru {s : List UInt8} {m f : Nat} {st : St} (h : sees s st 84 = true) : preF s m (f + 1) st = (truth, step st) := by
  rw [preF, if_neg (by rw [sees_other h (by decide)]; decide), if_neg (by rw [sees_other h (by decide)]; decide), if_neg (by rw [sees_other h (by decide)]; decide), if_neg (by rw [sees_other h (by decide)]; decide), if_pos h]
theorem preF_par {s : List UInt8} {m f : Nat} {st : St} (h : sees s st 40 = true) : preF s m (f + 1) st = ((impF s m (preF s m f) m (step st)).1, need s (impF s m (preF s m f) m (step st)).2 41) := by
  rw [preF, if_neg (by rw [sees_other h (by decide)]; decide), if_neg (by rw [sees_other h (by decide)]; decide), if_neg (by rw [sees_other h (by decide)]; decide), if_neg (by rw [sees_other h (by decide)]; decide), if_neg (by rw [sees_other h (by decide)]; decide), if_pos h]
theorem sees_low {s : List UInt8} {st : St} {v : Nat} {c : UInt8} (h : letter s st = some v) (hc : c.toNat < 112 ∨ 117 < c.toNat) : sees s st c = false := by
  refine sees_other (letter_some h).2 fun e => ?_
  have := (letter_some h).1
  have h2 : (UInt8.ofNat (112 + v)).toNat = 112 + v := by rw [UInt8.toNat_ofNat']; omega
  rw [e] at h2
  omega
theorem preF_var {s : List UInt8} {m f : Nat} {st : St} {v : Nat} (h : letter s st = some v) : preF s m (f + 1) st = (vari v, step st) := by
  rw [preF, if_neg (by rw [sees_low h (by decide)]; decide), if_neg (by rw [sees_low h (by decide)]; decide), if_neg (by rw [sees_low h (by decide)]; decide), if_neg (by rw [sees_low h (by decide)]; decide), if_neg (by rw [sees_low h (by decide)]; decide), if_neg (by rw [sees_low h (by decide)]; decide), h]
theorem preF_bad {s : List UInt8} {m f : Nat} {st : St} (h1 : sees s st 126 = false) (h2 : sees s st 91 = false) (h3 : sees s st 60 = false) (h4 : sees s st 70 = false) (h5 : sees s st 84 = false) (h6 : sees s st 40 = false) (h : letter s st = none) : preF s m (f + 1) st = (falsum, (st.1, true)) := by
  rw [preF, if_neg (by rw [h1]; decide), if_neg (by rw [h2]; decide), if_neg (by rw [h3]; decide), if_neg (by rw [h4]; decide), if_neg (by rw [h5]; decide), if_neg (by rw [h6]; decide), h]
theorem impF_yes {s : List UInt8} {m i : Nat} {sub : St → Res} {st : St} (h : sees s (orF s m sub st).2 62 = true) : impF s m sub (i + 1) st = (join 4 (orF s m sub st).1 (impF s m sub i (step (orF s m sub st).2)).1, (impF s m sub i (step (orF s m sub st).2)).2) := by
  rw [impF]; dsimp only; rw [if_pos h]
theorem impF_no {s : List UInt8} {m i : Nat} {sub : St → Res} {st : St} (h : sees s (orF s m sub st).2 62 = false) : impF s m sub (i + 1) st = orF s m sub st := by
  rw [impF]; dsimp only; rw [if_neg (by rw [h]; decide)]

end Fm
end Go.Proofs.YtjlnompmhgjaaaaGreat


/- Formulas as trees, their lists of nodes and their texts. No program is in sight. -/
namespace Go.Proofs.YtjlnompmhgjaaaaGreat
namespace Fm

inductive Tree where
  | var (v : Fin 6)
  | fls
  | and (a b : Tree)
  | or (a b : Tree)
  | imp (a b : Tree)
  | box (a : Tree)
  | dia (a : Tree)

def enc : Tree → List Nd
  | .var v => [(0, (v.val : Int))]
  | .fls => [(1, 0)]
  | .and a b => (2, 0) :: (enc a ++ enc b)
  | .or a b => (3, 0) :: (enc a ++ enc b)
  | .imp a b => (4, 0) :: (enc a ++ enc b)
  | .box a => (5, 0) :: enc a
  | .dia a => (6, 0) :: enc a

theorem enc_pos (t : Tree) : 1 ≤ (enc t).length := by cases t <;> simp [enc]

def isF : Tree → Bool
  | .fls => true
  | _ => false
theorem isF_eq {t : Tree} (h : isF t = true) : t = .fls := by cases t <;> simp_all [isF]

def arity (k : Int) : Nat := if k = 2 ∨ k = 3 ∨ k = 4 then 2 else if k = 5 ∨ k = 6 then 1 else 0
theorem arity_le (k : Int) : arity k ≤ 2 := by unfold arity; split; omega; split <;> omega

def scan : List Nd → Nat → Option Nat
  | _, 0 => some 0
  | [], _ + 1 => none
  | x :: xs, o + 1 => (scan xs (o + arity x.1)).map (· + 1)

theorem scan_zero (xs : List Nd) : scan xs 0 = some 0 := by cases xs <;> rfl
theorem scan_nil (o : Nat) : scan [] (o + 1) = none := rfl
theorem scan_cons (x : Nd) (xs : List Nd) (o : Nat) : scan (x :: xs) (o + 1) = (scan xs (o + arity x.1)).map (· + 1) := rfl

theorem scan_enc (t : Tree) : ∀ (rest : List Nd) (o : Nat), scan (enc t ++ rest) (o + 1) = (scan rest o).map (· + (enc t).length) := by
  induction t with
  | var v => intro rest o; simp [enc, scan_cons, arity]
  | fls => intro rest o; simp [enc, scan_cons, arity]
  | and a b iha ihb =>
    intro rest o
    simp only [enc, List.cons_append, scan_cons, List.append_assoc]
    rw [show arity 2 = 2 from rfl, show o + 2 = (o + 1) + 1 from rfl, iha, ihb]
    cases scan rest o <;> simp; omega
  | or a b iha ihb =>
    intro rest o
    simp only [enc, List.cons_append, scan_cons, List.append_assoc]
    rw [show arity 3 = 2 from rfl, show o + 2 = (o + 1) + 1 from rfl, iha, ihb]
    cases scan rest o <;> simp; omega
  | imp a b iha ihb =>
    intro rest o
    simp only [enc, List.cons_append, scan_cons, List.append_assoc]
    rw [show arity 4 = 2 from rfl, show o + 2 = (o + 1) + 1 from rfl, iha, ihb]
    cases scan rest o <;> simp; omega
  | box a iha =>
    intro rest o
    simp only [enc, List.cons_append, scan_cons]
    rw [show arity 5 = 1 from rfl, iha]
    cases scan rest o <;> simp; omega
  | dia a iha =>
    intro rest o
    simp only [enc, List.cons_append, scan_cons]
    rw [show arity 6 = 1 from rfl, iha]
    cases scan rest o <;> simp; omega
theorem scan_one (t : Tree) (rest : List Nd) : scan (enc t ++ rest) 1 = some (enc t).length := by
  rw [scan_enc t rest 0, scan_zero]; simp
def own : Tree → Nat
  | .and _ _ => 2
  | .or _ _ => 1
  | .imp _ b => if isF b then 3 else 0
  | _ => 3
def wrap (l o : Nat) (s : List UInt8) : List UInt8 := if o < l then [40] ++ s ++ [41] else s
def txt : Tree → Nat → List UInt8
  | .var v, _ => [UInt8.ofNat (112 + v.val)]
  | .fls, _ => [70]
  | .and a b, l => wrap l 2 (txt a 2 ++ [38] ++ txt b 3)
  | .or a b, l => wrap l 1 (txt a 1 ++ [124] ++ txt b 2)
  | .imp a b, l => if isF b then (if isF a then [84] else [126] ++ txt a 3) else wrap l 0 (txt a 1 ++ [62] ++ txt b 0)
  | .box a, _ => [91, 93] ++ txt a 3
  | .dia a, _ => [60, 62] ++ txt a 3

theorem wrap_len (l o : Nat) (s : List UInt8) : (wrap l o s).length ≤ s.length + 2 := by
  unfold wrap; split <;> simp
theorem txt_len (t : Tree) : ∀ l, (txt t l).length ≤ 4 * (enc t).length := by
  induction t with
  | var v => intro l; simp [txt, enc]
  | fls => intro l; simp [txt, enc]
  | and a b iha ihb =>
    intro l
    have := wrap_len l 2 (txt a 2 ++ [38] ++ txt b 3)
    have h1 := iha 2
    have h2 := ihb 3
    simp only [txt, enc, List.length_cons, List.length_append, List.length_nil] at *
    omega
  | or a b iha ihb =>
    intro l
    have := wrap_len l 1 (txt a 1 ++ [124] ++ txt b 2)
    have h1 := iha 1
    have h2 := ihb 2
    simp only [txt, enc, List.length_cons, List.length_append, List.length_nil] at *
    omega
  | imp a b iha ihb =>
    intro l
    have := wrap_len l 0 (txt a 1 ++ [62] ++ txt b 0)
    have h1 := iha 1
    have h2 := ihb 0
    have h3 := iha 3
    have h4 := enc_pos a
    simp only [txt]
    split
    · split
      · simp [enc]; omega
      · simp only [enc, List.length_cons, List.length_append, List.length_nil]; omega
    · simp only [enc, List.length_cons, List.length_append, List.length_nil] at *; omega
  | box a iha =>
    intro l
    have h3 := iha 3
    simp only [txt, enc, List.length_cons, List.length_append, List.length_nil]; omega
  | dia a iha =>
    intro l
    have h3 := iha 3
    simp only [txt, enc, List.length_cons, List.length_append, List.length_nil]; omega

def IsEnc (xs : List Nd) : Prop := ∃ t, xs = enc t
theorem isEnc_join {k : Int} {a b : List Nd} (hk : k = 2 ∨ k = 3 ∨ k = 4) (ha : IsEnc a) (hb : IsEnc b) : IsEnc (join k a b) := by
  obtain ⟨s, rfl⟩ := ha
  obtain ⟨t, rfl⟩ := hb
  rcases hk with rfl | rfl | rfl
  · exact ⟨.and s t, rfl⟩
  · exact ⟨.or s t, rfl⟩
  · exact ⟨.imp s t, rfl⟩
theorem isEnc_pre {k : Int} {a : List Nd} (hk : k = 5 ∨ k = 6) (ha : IsEnc a) : IsEnc (pre k a) := by
  obtain ⟨s, rfl⟩ := ha
  rcases hk with rfl | rfl
  · exact ⟨.box s, rfl⟩
  · exact ⟨.dia s, rfl⟩
theorem isEnc_falsum : IsEnc falsum := ⟨.fls, rfl⟩
theorem loop_enc {s : List UInt8} {k : Int} {c : UInt8} {sub : St → Res} (hk : k = 2 ∨ k = 3 ∨ k = 4) (hsub : ∀ st, IsEnc (sub st).1) : ∀ (m : Nat) (a : List Nd) (st : St), IsEnc a → IsEnc (loop s k c sub m a st).1 := by
  intro m
  induction m with
  | zero => intro a st h; exact h
  | succ m ih =>
    intro a st h
    unfold loop
    split
    · exact ih _ _ (isEnc_join hk h (hsub _))
    · exact h
theorem andF_enc {s : List UInt8} {m : Nat} {sub : St → Res} (hsub : ∀ st, IsEnc (sub st).1) (st : St) : IsEnc (andF s m sub st).1 := loop_enc (.inl rfl) hsub _ _ _ (hsub st)
theorem orF_enc {s : List UInt8} {m : Nat} {sub : St → Res} (hsub : ∀ st, IsEnc (sub st).1) (st : St) : IsEnc (orF s m sub st).1 := loop_enc (.inr (.inl rfl)) (fun st => andF_enc hsub st) _ _ _ (andF_enc hsub st)
theorem impF_enc {s : List UInt8} {m : Nat} {sub : St → Res} (hsub : ∀ st, IsEnc (sub st).1) : ∀ (i : Nat) (st : St), IsEnc (impF s m sub i st).1 := by
  intro i
  induction i with
  | zero => intro st; exact orF_enc hsub st
  | succ i ih =>
    intro st
    unfold impF
    dsimp only
    split
    · exact isEnc_join (.inr (.inr rfl)) (orF_enc hsub st) (ih _)
    · exact orF_enc hsub st
theorem preF_enc {s : List UInt8} {m : Nat} : ∀ (f : Nat) (st : St), IsEnc (preF s m f st).1 := by
  intro f
  induction f with
  | zero => intro st; exact isEnc_falsum
  | succ f ih =>
    intro st
    unfold preF
    split
    · exact isEnc_join (.inr (.inr rfl)) (ih _) isEnc_falsum
    split
    · exact isEnc_pre (.inl rfl) (ih _)
    split
    · exact isEnc_pre (.inr rfl) (ih _)
    split
    · exact isEnc_falsum
    split
    · exact ⟨.imp .fls .fls, rfl⟩
    split
    · exact impF_enc ih _ _
    split
    · rename_i v hv
      exact ⟨.var ⟨v, (letter_some hv).1⟩, rfl⟩
    · exact isEnc_falsum
theorem parse_enc (s : List UInt8) (m : Nat) : IsEnc (parse s m).1 := impF_enc (fun st => preF_enc m st) m _

end Fm
end Go.Proofs.YtjlnompmhgjaaaaGreat


/- Modal truth on finite frames, plain: the sets of worlds at which formulas are true; truth at a world by a relation. No program is in sight. -/
namespace Go.Proofs.YtjlnompmhgjaaaaGreat
open Go.RowKit
open Fm (Nd Tree)

def mv (A V : List Nat) : Tree → Nat
  | .var v => nt V v.val
  | .fls => 0
  | .and a b => mv A V a &&& mv A V b
  | .or a b => mv A V a ||| mv A V b
  | .imp a b => dif (full A.length) (mv A V a) ||| mv A V b
  | .box a => bx A (mv A V a)
  | .dia a => dif (full A.length) (bx A (dif (full A.length) (mv A V a)))

def tr (R : Nat → Nat → Prop) (V : Nat → Nat → Prop) : Tree → Nat → Prop
  | .var v, x => V v.val x
  | .fls, _ => False
  | .and a b, x => tr R V a x ∧ tr R V b x
  | .or a b, x => tr R V a x ∨ tr R V b x
  | .imp a b, x => tr R V a x → tr R V b x
  | .box a, x => ∀ y, R x y → tr R V a y
  | .dia a, x => ∃ y, R x y ∧ tr R V a y

def rl (A : List Nat) (x y : Nat) : Prop := (nt A x).testBit y = true
def vl (V : List Nat) (v x : Nat) : Prop := (nt V v).testBit x = true

theorem dif_lt {n a b : Nat} (h : a < 2 ^ n) : dif a b < 2 ^ n := Nat.lt_of_le_of_lt dif_le h
theorem nt_lt {V : List Nat} {n v : Nat} (hV : ∀ m ∈ V, m < 2 ^ n) : nt V v < 2 ^ n := by
  by_cases h : v < V.length
  · exact hV _ (nt_mem h)
  · unfold nt; rw [List.getD_eq_getElem?_getD, List.getElem?_eq_none (by omega)]; exact Nat.pow_pos (by omega)
theorem mv_lt {A V : List Nat} (hV : ∀ m ∈ V, m < 2 ^ A.length) : ∀ t : Tree, mv A V t < 2 ^ A.length
  | .var v => nt_lt hV
  | .fls => Nat.pow_pos (by omega)
  | .and a b => Nat.and_lt_two_pow _ (mv_lt hV b)
  | .or a b => Nat.or_lt_two_pow (mv_lt hV a) (mv_lt hV b)
  | .imp a b => Nat.or_lt_two_pow (dif_lt (full_lt _)) (mv_lt hV b)
  | .box a => bx_lt _ _
  | .dia a => dif_lt (full_lt _)

theorem mv_bit {A V : List Nat} (hA : Rl A) : ∀ (t : Tree) (x : Nat), x < A.length → ((mv A V t).testBit x = true ↔ tr (rl A) (vl V) t x)
  | .var v, x, _ => Iff.rfl
  | .fls, x, _ => by show (0 : Nat).testBit x = true ↔ False; simp
  | .and a b, x, hx => by
    show (mv A V a &&& mv A V b).testBit x = true ↔ _ ∧ _
    rw [Nat.testBit_and, Bool.and_eq_true, mv_bit hA a x hx, mv_bit hA b x hx]
  | .or a b, x, hx => by
    show (mv A V a ||| mv A V b).testBit x = true ↔ _ ∨ _
    rw [Nat.testBit_or, Bool.or_eq_true, mv_bit hA a x hx, mv_bit hA b x hx]
  | .imp a b, x, hx => by
    show (dif (full A.length) (mv A V a) ||| mv A V b).testBit x = true ↔ (_ → _)
    rw [Nat.testBit_or, dif_bit, full_bit, decide_eq_true hx, Bool.true_and, ← mv_bit hA a x hx, ← mv_bit hA b x hx]
    cases (mv A V a).testBit x <;> cases (mv A V b).testBit x <;> simp
  | .box a, x, hx => by
    show (bx A (mv A V a)).testBit x = true ↔ ∀ y, rl A x y → _
    rw [bx_bit]
    exact ⟨fun ⟨_, h⟩ y hy => (mv_bit hA a y (hA.bit hx hy)).1 (h y hy), fun h => ⟨hx, fun y hy => (mv_bit hA a y (hA.bit hx hy)).2 (h y hy)⟩⟩
  | .dia a, x, hx => by
    show (dif (full A.length) (bx A (dif (full A.length) (mv A V a)))).testBit x = true ↔ ∃ y, rl A x y ∧ _
    rw [dif_bit, full_bit, decide_eq_true hx, Bool.true_and, Bool.not_eq_true']
    constructor
    · intro h
      apply Classical.byContradiction
      intro hn
      have : (bx A (dif (full A.length) (mv A V a))).testBit x = true := bx_bit.2 ⟨hx, fun y hy => by
        have hy' := hA.bit hx hy
        rw [dif_bit, full_bit, decide_eq_true hy', Bool.true_and, Bool.not_eq_true']
        cases hb : (mv A V a).testBit y with
        | false => rfl
        | true => exact absurd ⟨y, hy, (mv_bit hA a y hy').1 hb⟩ hn⟩
      rw [h] at this
      cases this
    · rintro ⟨y, hy, ht⟩
      cases hb : (bx A (dif (full A.length) (mv A V a))).testBit x with
      | false => rfl
      | true =>
        have hy' := hA.bit hx hy
        have h2 := (bx_bit.1 hb).2 y hy
        rw [dif_bit, full_bit, decide_eq_true hy', Bool.true_and, (mv_bit hA a y hy').2 ht] at h2
        cases h2

end Go.Proofs.YtjlnompmhgjaaaaGreat


/- A list of nodes is that of one formula at most. No program is in sight. -/
namespace Go.Proofs.YtjlnompmhgjaaaaGreat
open Fm (Nd)

theorem enc_pre (t : Fm.Tree) : ∀ (u : Fm.Tree) (a b : List Nd), Fm.enc t ++ a = Fm.enc u ++ b → t = u ∧ a = b := by
  induction t with
  | var v =>
    intro u a b h
    cases u <;> simp [Fm.enc] at h
    exact ⟨congrArg Fm.Tree.var (Fin.ext (by have := h.1; omega)), h.2⟩
  | fls =>
    intro u a b h
    cases u <;> simp [Fm.enc] at h
    exact ⟨rfl, h⟩
  | and x y hx hy =>
    intro u a b h
    cases u <;> simp [Fm.enc] at h
    obtain ⟨e1, h1⟩ := hx _ _ _ h
    obtain ⟨e2, h2⟩ := hy _ _ _ h1
    exact ⟨by rw [e1, e2], h2⟩
  | or x y hx hy =>
    intro u a b h
    cases u <;> simp [Fm.enc] at h
    obtain ⟨e1, h1⟩ := hx _ _ _ h
    obtain ⟨e2, h2⟩ := hy _ _ _ h1
    exact ⟨by rw [e1, e2], h2⟩
  | imp x y hx hy =>
    intro u a b h
    cases u <;> simp [Fm.enc] at h
    obtain ⟨e1, h1⟩ := hx _ _ _ h
    obtain ⟨e2, h2⟩ := hy _ _ _ h1
    exact ⟨by rw [e1, e2], h2⟩
  | box x hx =>
    intro u a b h
    cases u <;> simp [Fm.enc] at h
    obtain ⟨e1, h1⟩ := hx _ _ _ h
    exact ⟨by rw [e1], h1⟩
  | dia x hx =>
    intro u a b h
    cases u <;> simp [Fm.enc] at h
    obtain ⟨e1, h1⟩ := hx _ _ _ h
    exact ⟨by rw [e1], h1⟩
theorem enc_inj {t u : Fm.Tree} (h : Fm.enc t = Fm.enc u) : t = u := (enc_pre t u [] [] (by simpa using h)).1

end Go.Proofs.YtjlnompmhgjaaaaGreat


/- The smallest formulas, and the formulas of a kind: the program's and the reference's makers. -/
namespace Go.Proofs.YtjlnompmhgjaaaaGreat
open Go.RowKit
open Fm (Nd)

def Gives (w : World) (xs : List Nd) (e : Ending) (w' : World) : Prop := ∃ v, e = .returned v ∧ Own w' w.heap.size v xs ∧ Grew w w'

theorem Own.one (w : World) (B : Nat) (k s : Int) (hB : B ≤ w.heap.size) : Own (w.alloc (.cells #[.int .i64 k, .int .i64 s] 53)) B (.slice (some ⟨w.heap.size, 0, none⟩) 1 1) [(k, s)] :=
  Own.lit w B [(k, s)] #[.int .i64 k, .int .i64 s] hB (by simp) rfl

theorem l02Pair_c (k : Int) (va vb : Value) (xs ys : List Nd) (w : World) (ha : Nodes w va xs) (hb : Nodes w vb ys) (hn : xs.length + ys.length ≤ 1099511627775) :
    Calls Tryz.prog 78 #[.int .i64 k, va, vb] w (Gives w (Fm.join k xs ys)) := by
  go_enter Tryz.func78, Tryz.ntmps78
  go_wp2_with (first
    | (at_builtin; refine wpList_app (w0 := w) (.tmp 9) (.tmp 10) rfl rfl _ [(k, 0)] rfl (Own.one w _ k 0 (Nat.le_refl _)) ((Grew.refl w).alloc _) va xs rfl (ha.grew ((Grew.refl w).alloc _)) (by simp; omega) ?_; intro v1 w1 hown1 hg1 _)
    | (at_builtin; refine wpList_app (w0 := w) (.tmp 11) (.tmp 12) rfl rfl _ _ rfl hown1 hg1 vb ys rfl (hb.grew hg1) (by simp; omega) ?_; intro v2 w2 hown2 hg2 _))
  go_ret
  exact ⟨_, rfl, by simpa [Fm.join] using hown2, hg2⟩
theorem l02Pre_c (k : Int) (va : Value) (xs : List Nd) (w : World) (ha : Nodes w va xs) (hn : xs.length ≤ 1099511627775) :
    Calls Tryz.prog 50 #[.int .i64 k, va] w (Gives w (Fm.pre k xs)) := by
  go_enter Tryz.func50, Tryz.ntmps50
  go_wp2_with (first
    | (at_builtin; refine wpList_app (w0 := w) _ _ rfl rfl _ [(k, 0)] rfl (Own.one w _ k 0 (Nat.le_refl _)) ((Grew.refl w).alloc _) va xs rfl (ha.grew ((Grew.refl w).alloc _)) (by simp; omega) ?_; intro v1 w1 hown1 hg1 _))
  go_ret
  exact ⟨_, rfl, by simpa [Fm.pre] using hown1, hg1⟩

theorem l02False_c (w : World) : Calls Tryz.prog 79 #[] w (Gives w Fm.falsum) := by
  have h := Own.one w _ 1 0 (Nat.le_refl _)
  go_enter Tryz.func79, Tryz.ntmps79
  go_wp2_with fail
  go_ret
  exact ⟨_, rfl, h, (Grew.refl w).alloc _⟩

theorem l02Var_c (v : Int) (w : World) : Calls Tryz.prog 45 #[.int .i64 v] w (Gives w (Fm.vari v)) := by
  have h := Own.one w _ 0 v (Nat.le_refl _)
  go_enter Tryz.func45, Tryz.ntmps45
  go_wp2_with fail
  go_ret
  exact ⟨_, rfl, h, (Grew.refl w).alloc _⟩

theorem l02Not_c (va : Value) (xs : List Nd) (w : World) (ha : Nodes w va xs) (hn : xs.length ≤ 1099511627774) :
    Calls Tryz.prog 46 #[va] w (Gives w (Fm.neg xs)) := by
  go_enter Tryz.func46, Tryz.ntmps46
  go_wp2_with fail
  refine (l02False_c _).mono ?_
  rintro e w1 ⟨v1, rfl, ho1, hg1⟩
  go_wp2_with fail
  refine (l02Pair_c _ _ _ xs Fm.falsum _ (ha.grew hg1) ho1.nodes (by simp [Fm.falsum]; omega)).mono ?_
  rintro e w2 ⟨v2, rfl, ho2, hg2⟩
  go_wp2_with fail
  go_ret
  exact ⟨_, rfl, ho2.base hg1.size, hg1.trans hg2⟩

theorem l02True_c (w : World) : Calls Tryz.prog 82 #[] w (Gives w Fm.truth) := by
  go_enter Tryz.func82, Tryz.ntmps82
  go_wp2_with fail
  refine (l02False_c _).mono ?_
  rintro e w1 ⟨v1, rfl, ho1, hg1⟩
  go_wp2_with fail
  refine (l02Not_c _ Fm.falsum _ ho1.nodes (by simp [Fm.falsum])).mono ?_
  rintro e w2 ⟨v2, rfl, ho2, hg2⟩
  go_wp2_with fail
  go_ret
  exact ⟨_, rfl, ho2.base hg1.size, hg1.trans hg2⟩

theorem falsum_c (w : World) : Calls Tryz.prog 72 #[] w (Gives w Fm.falsum) := by
  have h := Own.one w _ 1 0 (Nat.le_refl _)
  go_enter Tryz.func72, Tryz.ntmps72
  go_wp2_with fail
  go_ret
  exact ⟨_, rfl, h, (Grew.refl w).alloc _⟩

theorem truth_c (w : World) : Calls Tryz.prog 71 #[] w (Gives w Fm.truth) := by
  have h := Own.lit w w.heap.size Fm.truth #[.int .i64 4, .int .i64 0, .int .i64 1, .int .i64 0, .int .i64 1, .int .i64 0] (Nat.le_refl _) (by simp [Fm.truth]) rfl
  go_enter Tryz.func71, Tryz.ntmps71
  go_wp2_with fail
  go_ret
  exact ⟨_, rfl, h, (Grew.refl w).alloc _⟩

theorem variable_c (v : Int) (w : World) : Calls Tryz.prog 70 #[.int .i64 v] w (Gives w (Fm.vari v)) := by
  have h := Own.one w _ 0 v (Nat.le_refl _)
  go_enter Tryz.func70, Tryz.ntmps70
  go_wp2_with fail
  go_ret
  exact ⟨_, rfl, h, (Grew.refl w).alloc _⟩

theorem grow_c (n : Nat) (w : World) (hn : n ≤ 1099511627776) :
    Calls Tryz.prog 119 #[.slice none 0 0, .int .i64 n] w (Gives w []) := by
  obtain ⟨i0, hi0, hz0, hz1, hz2⟩ := info_parts Tryz.infoNd
  rcases Nat.eq_zero_or_pos n with rfl | h0
  · go_enter Tryz.func119, Tryz.ntmps119
    go_wp2_with fail
    go_ret
    exact ⟨_, rfl, Own.nil_ _ _, Grew.refl _⟩
  · have hr := fun ty => run_grow_nil (P := Tryz.prog) w 31 3 ty 53 i0 _ 2 Tryz.underlying31 Tryz.underlying3 hi0 hz0 hz1 rfl (by omega) n h0 (by rw [hz2]; omega) (by omega)
    have HR := Lib.hid hr
    clear hr hz0 hz1 hz2 hi0
    go_enter Tryz.func119, Tryz.ntmps119
    go_wp2_with (at_builtin; obtain ⟨G, cs, hG1, hG2, hcs, hrun⟩ := HR.out _; refine Lib.wpList_append_run _ rfl _ _ _ _ rfl _ _ rfl rfl _ _ hrun ?_; have HC := Lib.hid hcs; clear hcs hrun)
    go_ret
    refine ⟨_, rfl, ?_, ((Grew.refl w).alloc _).drew⟩
    exact Own.mk_ (xs := []) (Nat.le_refl _) (blk_new w _) (by simp) hG2 HC.out (by simp)

def Lists (w : World) (v : Value) (L : List (List Nd)) : Prop :=
  (v = .slice none 0 0 ∧ L = []) ∨ ∃ b o c, v = .slice (some ⟨b, o, none⟩) L.length c ∧ L.length ≤ c ∧ c ≤ 9223372036854775807 ∧ b < w.heap.size ∧
    ∀ i, i < L.length → ∃ u, w.cell? ⟨b, o + i, none⟩ = some u ∧ Nodes w u (L.getD i [])
theorem Lists.grew {w w' : World} {v : Value} {L : List (List Nd)} (h : Lists w v L) (hb : Grew w w') : Lists w' v L := by
  rcases h with h | ⟨b, o, c, h1, h2, h3, h4, h5⟩
  · exact .inl h
  · refine .inr ⟨b, o, c, h1, h2, h3, Nat.lt_of_lt_of_le h4 hb.size, fun i hi => ?_⟩
    obtain ⟨u, h6, h7⟩ := h5 i hi
    exact ⟨u, (hb.cell (p := ⟨b, o + i, none⟩) h4).trans h6, h7.grew hb⟩
def total (L : List (List Nd)) (k : Nat) : Nat := ((L.take k).flatten).length
theorem total_zero (L : List (List Nd)) : total L 0 = 0 := by unfold total; rw [List.take_zero]; rfl
theorem total_succ {L : List (List Nd)} {k : Nat} (h : k < L.length) : total L (k + 1) = total L k + (L.getD k []).length := by
  unfold total
  rw [List.take_succ_eq_append_getElem h, List.flatten_append, List.length_append]
  simp [List.getD, h]
theorem total_mono {L : List (List Nd)} {k : Nat} : total L k ≤ L.flatten.length := by
  rw [total]
  have : L.flatten = (L.take k).flatten ++ (L.drop k).flatten := by rw [← List.flatten_append, List.take_append_drop]
  rw [this, List.length_append]
  omega
theorem concat_c (v : Value) (L : List (List Nd)) (w : World) (hL : Lists w v L) (hk : L.length ≤ 1099511627776) (hn : L.flatten.length ≤ 1099511627776) :
    Calls Tryz.prog 106 #[v] w (Gives w L.flatten) := by
  have hfull : total L L.length = L.flatten.length := by unfold total; rw [List.take_length]
  rcases hL with ⟨rfl, rfl⟩ | ⟨b, o, c, rfl, hc, hm, hb, hcell⟩
  · go_enter Tryz.func106, Tryz.ntmps106
    go_wp2_with fail
    refine wp_loop_rounds 1 ?_; rw [rounds_succ]
    go_wp2_with fail
    refine (grow_c 0 _ (by omega)).mono ?_
    rintro e w1 ⟨v1, rfl, ho1, hg1⟩
    go_wp2_with fail
    refine wp_loop_rounds 1 ?_; rw [rounds_succ]
    go_wp2_with fail
    go_ret
    exact ⟨_, rfl, ho1, hg1⟩
  · have HF := Lib.hid hfull
    have HC := Lib.hid hcell
    have HN := Lib.hid hn
    clear hfull hcell hn
    generalize hK : L.length = K at *
    have HK := Lib.hid hK
    clear hK
    go_enter Tryz.func106, Tryz.ntmps106
    go_wp2_with fail
    go_loopw [3, 5, 11] (fun n _ i wr => ∃ j : Nat, j ≤ K ∧ i = .int .i64 j ∧ n = .int .i64 (total L j) ∧ Grew w wr) (fun _ _ i _ => K - (intOf i).toNat)
    case atStart => exact ⟨0, Nat.zero_le _, rfl, by simp [total_zero], Grew.refl _⟩
    case round =>
      obtain ⟨j, hj, rfl, rfl, hB⟩ := hrel
      by_cases hlt : j < K
      · have hltL : j < L.length := by rw [HK.out]; exact hlt
        obtain ⟨u, hu1, hu2⟩ := HC.out j hlt
        have hs : total L (j + 1) = total L j + (L.getD j []).length := total_succ hltL
        have hle : total L (j + 1) ≤ 1099511627776 := Nat.le_trans total_mono HN.out
        generalize L.getD j [] = X at *
        obtain ⟨A, cc, rfl⟩ := nodes_slice hu2
        have k1 : ∀ W, Grew w W → W.cell? ⟨b, o + j, none⟩ = some (.slice A X.length cc) := fun W hW => (hW.cell (p := ⟨b, o + j, none⟩) hb).trans hu1
        rw [hs] at hle
        have HS := Lib.hid hs
        clear hs hu1 hu2
        go_wp2_with fail
        go_roundw
        case rel => exact ⟨j + 1, by omega, by go_num, by rw [HS.out]; go_num, by assumption⟩
        case measure => simp [intOf]; omega
      · have hjK : j = K := by omega
        subst hjK
        go_wp2_with fail
        refine (grow_c (total L j) _ (by rw [HF.out]; exact HN.out)).mono ?_
        rintro e w1 ⟨v1, rfl, ho1, hg1⟩
        have hg1' := hB.trans hg1
        have ho1' := ho1.base hB.size
        clear ho1 hg1 hlt
        go_wp2_with fail
        go_loopw [6, 8, 27] (fun v _ i wx => ∃ n : Nat, n ≤ j ∧ i = .int .i64 n ∧ Own wx w.heap.size v (L.take n).flatten ∧ Grew w wx) (fun _ _ i _ => j - (intOf i).toNat)
        case atStart => exact ⟨0, Nat.zero_le _, rfl, by simpa using ho1', hg1'⟩
        case round =>
          obtain ⟨n, hn, rfl, hown, hG⟩ := hrel
          by_cases hlt : n < j
          · have hltL : n < L.length := by rw [HK.out]; exact hlt
            obtain ⟨u, hu1, hu2⟩ := HC.out n hlt
            have hs : total L (n + 1) = total L n + (L.getD n []).length := total_succ hltL
            have hle : total L (n + 1) ≤ 1099511627776 := Nat.le_trans total_mono HN.out
            have hfl : (L.take (n + 1)).flatten = (L.take n).flatten ++ L.getD n [] := by
              rw [List.take_succ_eq_append_getElem hltL, List.flatten_append]
              simp [List.getD, hltL]
            have htl : (L.take n).flatten.length = total L n := rfl
            generalize L.getD n [] = X at *
            have k1 : ∀ W, Grew w W → W.cell? ⟨b, o + n, none⟩ = some u := fun W hW => (hW.cell (p := ⟨b, o + n, none⟩) hb).trans hu1
            have hbd : (L.take n).flatten.length + X.length ≤ 1099511627776 := by rw [htl, ← hs]; exact hle
            have HFL := Lib.hid hfl
            generalize (L.take n).flatten = Y at *
            clear hs hu1 htl hle hfl
            obtain ⟨A, cc, rfl⟩ := nodes_slice hu2
            go_wp2_with (first
              | (at_builtin; refine wpList_app (w0 := w) _ _ rfl rfl _ Y rfl hown hG _ X rfl (hu2.grew hG) hbd ?_; intro v2 w2 hown2 hg2 _))
            go_roundw
            case rel => exact ⟨n + 1, by omega, by go_num, by rw [HFL.out]; assumption, by assumption⟩
            case measure => simp [intOf]; omega
          · have hnj : n = j := by omega
            subst hnj
            have hfl : (L.take n).flatten = L.flatten := by rw [← HK.out, List.take_length]
            rw [hfl] at hown
            clear hfl
            go_wp2_with fail
            go_ret
            exact ⟨_, rfl, hown, hG⟩
end Go.Proofs.YtjlnompmhgjaaaaGreat


/- The program's makers over slices.Concat. -/
namespace Go.Proofs.YtjlnompmhgjaaaaGreat
open Go.RowKit
open Fm (Nd)

theorem lists_new (w : World) (t : TypeId) (us : List Value) (L : List (List Nd)) (hm : L.length ≤ 9223372036854775807)
    (h : ∀ i, i < L.length → ∃ u, us[i]? = some u ∧ Nodes w u (L.getD i [])) : Lists (w.alloc (.cells us.toArray t)) (.slice (some ⟨w.heap.size, 0, none⟩) L.length L.length) L := by
  refine .inr ⟨w.heap.size, 0, L.length, rfl, Nat.le_refl _, hm, by simp, fun i hi => ?_⟩
  obtain ⟨u, h1, h2⟩ := h i hi
  refine ⟨u, ?_, h2.grew ((Grew.refl w).alloc _)⟩
  rw [Nat.zero_add, blk_cell (blk_new w _)]
  simpa using h1

theorem join_c (k : Int) (va vb : Value) (xs ys : List Nd) (w : World) (ha : Nodes w va xs) (hb : Nodes w vb ys) (hn : xs.length + ys.length ≤ 1099511627775) :
    Calls Tryz.prog 101 #[.int .i64 k, va, vb] w (Gives w (Fm.join k xs ys)) := by
  have o1 := Own.one w w.heap.size k 0 (Nat.le_refl _)
  have g1 := (Grew.refl w).alloc (.cells #[.int .i64 k, .int .i64 0] 53)
  have hl := lists_new (w.alloc (.cells #[.int .i64 k, .int .i64 0] 53)) 31 [.slice (some ⟨w.heap.size, 0, none⟩) 1 1, va, vb] [[(k, 0)], xs, ys] (by simp) (fun i hi => by
    match i, hi with
    | 0, _ => exact ⟨_, rfl, o1.nodes⟩
    | 1, _ => exact ⟨_, rfl, ha.grew g1⟩
    | 2, _ => exact ⟨_, rfl, hb.grew g1⟩)
  obtain ⟨A, ca, rfl⟩ := nodes_slice ha
  obtain ⟨B, cb, rfl⟩ := nodes_slice hb
  simp only [List.length_cons, List.length_nil, World.size_alloc] at hl
  go_enter Tryz.func101, Tryz.ntmps101
  go_wp2_with fail
  refine (concat_c _ _ _ hl (by simp) (by simp; omega)).mono ?_
  rintro e w1 ⟨v1, rfl, ho1, hg1⟩
  go_wp2_with fail
  go_ret
  exact ⟨_, rfl, by simpa [Fm.join] using ho1.base (by simp; omega), hg1.of_alloc.of_alloc⟩

theorem prefix_c (k : Int) (va : Value) (xs : List Nd) (w : World) (ha : Nodes w va xs) (hn : xs.length ≤ 1099511627775) :
    Calls Tryz.prog 76 #[.int .i64 k, va] w (Gives w (Fm.pre k xs)) := by
  have o1 := Own.one w w.heap.size k 0 (Nat.le_refl _)
  have g1 := (Grew.refl w).alloc (.cells #[.int .i64 k, .int .i64 0] 53)
  have hl := lists_new (w.alloc (.cells #[.int .i64 k, .int .i64 0] 53)) 31 [.slice (some ⟨w.heap.size, 0, none⟩) 1 1, va] [[(k, 0)], xs] (by simp) (fun i hi => by
    match i, hi with
    | 0, _ => exact ⟨_, rfl, o1.nodes⟩
    | 1, _ => exact ⟨_, rfl, ha.grew g1⟩)
  obtain ⟨A, ca, rfl⟩ := nodes_slice ha
  simp only [List.length_cons, List.length_nil, World.size_alloc] at hl
  go_enter Tryz.func76, Tryz.ntmps76
  go_wp2_with fail
  refine (concat_c _ _ _ hl (by simp) (by simp; omega)).mono ?_
  rintro e w1 ⟨v1, rfl, ho1, hg1⟩
  go_wp2_with fail
  go_ret
  exact ⟨_, rfl, by simpa [Fm.pre] using ho1.base (by simp; omega), hg1.of_alloc.of_alloc⟩

theorem negation_c (va : Value) (xs : List Nd) (w : World) (ha : Nodes w va xs) (hn : xs.length ≤ 1099511627774) :
    Calls Tryz.prog 69 #[va] w (Gives w (Fm.neg xs)) := by
  go_enter Tryz.func69, Tryz.ntmps69
  go_wp2_with fail
  refine (falsum_c _).mono ?_
  rintro e w1 ⟨v1, rfl, ho1, hg1⟩
  go_wp2_with fail
  refine (join_c _ _ _ xs Fm.falsum _ (ha.grew hg1) ho1.nodes (by simp [Fm.falsum]; omega)).mono ?_
  rintro e w2 ⟨v2, rfl, ho2, hg2⟩
  go_wp2_with fail
  go_ret
  exact ⟨_, rfl, ho2.base hg1.size, hg1.trans hg2⟩
end Go.Proofs.YtjlnompmhgjaaaaGreat


/- The readers' first steps: take, need, l02Take, l02Need. -/
namespace Go.Proofs.YtjlnompmhgjaaaaGreat
open Go.RowKit

def Rdr (w : World) (g : Nat) (T : TypeId) (s : ByteArray) (st : Fm.St) : Prop := w.heap[g]? = some (.cells #[.string s, .int .i64 st.1, .bool st.2] T (0, 0))
theorem Rdr.text {w : World} {g T : Nat} {s : ByteArray} {st : Fm.St} (h : Rdr w g T s st) : w.cell? ⟨g, 0, none⟩ = some (.string s) := by rw [blk_cell h]; rfl
theorem Rdr.at_ {w : World} {g T : Nat} {s : ByteArray} {st : Fm.St} (h : Rdr w g T s st) : w.cell? ⟨g, 1, none⟩ = some (.int .i64 st.1) := by rw [blk_cell h]; rfl
theorem Rdr.bad {w : World} {g T : Nat} {s : ByteArray} {st : Fm.St} (h : Rdr w g T s st) : w.cell? ⟨g, 2, none⟩ = some (.bool st.2) := by rw [blk_cell h]; rfl
theorem Rdr.free {w : World} {g T : Nat} {s : ByteArray} {st : Fm.St} (h : Rdr w g T s st) (i : Nat) : w.frozen? ⟨g, i, none⟩ = false := blk_frozen h i
theorem Rdr.lt {w : World} {g T : Nat} {s : ByteArray} {st : Fm.St} (h : Rdr w g T s st) : g < w.heap.size := blk_lt h
theorem Rdr.grew {w w' : World} {g T : Nat} {s : ByteArray} {st : Fm.St} (h : Rdr w g T s st) (hg : Grew w w') : Rdr w' g T s st := (hg.block h.lt).trans h
theorem Rdr.move {w : World} {g T : Nat} {s : ByteArray} {st : Fm.St} (h : Rdr w g T s st) (n : Nat) : Rdr (w.setCell ⟨g, 1, none⟩ (.int .i64 n)) g T s (n, st.2) := blk_set h 1 _
theorem Rdr.spoil {w : World} {g T : Nat} {s : ByteArray} {st : Fm.St} (h : Rdr w g T s st) : Rdr (w.setCell ⟨g, 2, none⟩ (.bool true)) g T s (st.1, true) := blk_set h 2 _

def Took (w : World) (g : Nat) (T : TypeId) (s : ByteArray) (st : Fm.St) (c : UInt8) (e : Ending) (w' : World) : Prop :=
  e = .returned (.bool (Fm.sees s.data.toList st c)) ∧ Rdr w' g T s (if Fm.sees s.data.toList st c then Fm.step st else st) ∧ Only g w w'

theorem sees_bad (s : List UInt8) (p : Nat) (c : UInt8) : Fm.sees s (p, true) c = false := rfl
theorem sees_end (s : ByteArray) (p : Nat) (c : UInt8) (h : s.size ≤ p) : Fm.sees s.data.toList (p, false) c = false := by
  have : s.data.toList[p]? = none := by rw [Array.getElem?_toList, Array.getElem?_eq_none]; exact h
  simp [Fm.sees, this]
theorem sees_in (s : ByteArray) (p : Nat) (c : UInt8) (h : p < s.size) : Fm.sees s.data.toList (p, false) c = (s[p] == c) := by
  have : s.data.toList[p]? = some s[p] := by rw [Array.getElem?_toList]; exact Array.getElem?_eq_getElem h
  simp [Fm.sees, this]
theorem byte_eq (a b : UInt8) : ((a.toNat : Int) == b.toNat) = (a == b) := by
  rw [Bool.eq_iff_iff]; simp only [beq_iff_eq, ← UInt8.toNat_inj]; omega
theorem Took.no {w w' : World} {g T : Nat} {s : ByteArray} {st : Fm.St} {c : UInt8} (h : Rdr w g T s st) (hs : Fm.sees s.data.toList st c = false) (hw : Grew w w') : Took w g T s st c (.returned (.bool false)) w' := by
  unfold Took; rw [hs]; exact ⟨rfl, h.grew hw, hw.only⟩
theorem Took.yes {w w' : World} {g T : Nat} {s : ByteArray} {p : Nat} {b : Bool} {c : UInt8} (h : Rdr w g T s (p, b)) (hs : Fm.sees s.data.toList (p, b) c = true) (hw : Grew w w') : Took w g T s (p, b) c (.returned (.bool true)) (w'.setCell ⟨g, 1, none⟩ (.int .i64 ((p : Int) + 1))) := by
  unfold Took; rw [hs]; exact ⟨rfl, (h.grew hw).move (p + 1), hw.only.setCell _⟩

end Go.Proofs.YtjlnompmhgjaaaaGreat


/- The program's reader: what its functions read is what the plain parser gives. -/
namespace Go.Proofs.YtjlnompmhgjaaaaGreat
open Go.RowKit
open Fm (Nd)

def Reads (w : World) (g : Nat) (T : TypeId) (s : ByteArray) (r : Fm.Res) (e : Ending) (w' : World) : Prop :=
  ∃ v, e = .returned v ∧ Own w' w.heap.size v r.1 ∧ Rdr w' g T s r.2 ∧ Only g w w'

theorem own_rdr_ne {w : World} {B g : Nat} {v : Value} {xs : List Nd} {T : TypeId} {s : ByteArray} {st : Fm.St} (h : Own w B v xs) (hr : Rdr w g T s st) (hne : 53 ≠ T) : v.ownBlock ≠ some g := own_ne h hr hne

theorem size_toList (s : ByteArray) : s.data.toList.length = s.size := by simp

def Sub (F : FuncId) (T : TypeId) (s : ByteArray) (f : Nat) (sub : Fm.St → Fm.Res) : Prop :=
  ∀ (g : Nat) (st : Fm.St) (w : World), Rdr w g T s st → st.1 ≤ s.size → s.size - st.1 < f → Calls Tryz.prog F #[.pointer (some ⟨g, 0, none⟩)] w (Reads w g T s (sub st))

end Go.Proofs.YtjlnompmhgjaaaaGreat


/- The program's reader: the two lowest levels. -/
namespace Go.Proofs.YtjlnompmhgjaaaaGreat
open Go.RowKit
open Fm (Nd)

end Go.Proofs.YtjlnompmhgjaaaaGreat


/- The text of a formula is parsed to the formula. No program is in sight. -/
namespace Go.Proofs.YtjlnompmhgjaaaaGreat
namespace Fm

theorem sees_drop {s : List UInt8} {i : Nat} {c : UInt8} {r : List UInt8} (h : s.drop i = c :: r) (d : UInt8) : sees s (i, false) d = (c == d) := by
  have h1 : s[i]? = some c := by
    have := congrArg List.head? h
    simpa using this
  unfold sees
  rw [h1]
  rw [Bool.eq_iff_iff]
  simp
theorem sees_none {s : List UInt8} {i : Nat} {r : List UInt8} {d : UInt8} (h : s.drop i = r) (hd : r.head? ≠ some d) : sees s (i, false) d = false := by
  have h1 : s[i]? = r.head? := by rw [← h]; simp
  unfold sees
  rw [h1]
  cases hr : r.head? with
  | none => rfl
  | some c =>
    rw [hr] at hd
    have : c ≠ d := fun e => hd (by rw [e])
    simp [this]
theorem drop_tail {s : List UInt8} {i : Nat} {x r : List UInt8} (h : s.drop i = x ++ r) : s.drop (i + x.length) = r := by
  rw [← List.drop_drop, h, List.drop_left]
theorem drop_len {s : List UInt8} {i : Nat} {x r : List UInt8} (h : s.drop i = x ++ r) (hx : 1 ≤ x.length) : i + x.length ≤ s.length := by
  have := congrArg List.length h
  simp only [List.length_drop, List.length_append] at this
  omega
theorem txt_pos (t : Tree) (l : Nat) : 1 ≤ (txt t l).length := by
  cases t with
  | var v => simp [txt]
  | fls => simp [txt]
  | and a b => simp only [txt, wrap]; split <;> simp <;> omega
  | or a b => simp only [txt, wrap]; split <;> simp <;> omega
  | imp a b => simp only [txt, wrap]; split <;> split <;> simp <;> omega
  | box a => simp only [txt, List.length_append, List.length_cons]; omega
  | dia a => simp only [txt, List.length_append, List.length_cons]; omega

section
variable (s : List UInt8) (m : Nat)
def P3 (t : Tree) : Prop := ∀ (f i : Nat) (r : List UInt8), s.drop i = txt t 3 ++ r → s.length - i < f → preF s m f (i, false) = (enc t, (i + (txt t 3).length, false))
def P2 (t : Tree) : Prop := ∀ (f i : Nat) (r : List UInt8), s.drop i = txt t 2 ++ r → s.length - i < f →
  ∃ k, s.length - (i + (txt t 2).length) < k ∧ andF s m (preF s m f) (i, false) = loop s 2 38 (preF s m f) k (enc t) (i + (txt t 2).length, false)
def P1 (t : Tree) : Prop := ∀ (f i : Nat) (r : List UInt8), s.drop i = txt t 1 ++ r → s.length - i < f → r.head? ≠ some 38 →
  ∃ k, s.length - (i + (txt t 1).length) < k ∧ orF s m (preF s m f) (i, false) = loop s 3 124 (andF s m (preF s m f)) k (enc t) (i + (txt t 1).length, false)
def P0 (t : Tree) : Prop := ∀ (f n i : Nat) (r : List UInt8), s.drop i = txt t 0 ++ r → s.length - i < f → s.length - i < n → r.head? ≠ some 38 → r.head? ≠ some 124 → r.head? ≠ some 62 →
  impF s m (preF s m f) n (i, false) = (enc t, (i + (txt t 0).length, false))
end

section
variable {s : List UInt8} {m : Nat}

theorem loop_stop {k : Int} {c : UInt8} {sub : St → Res} {n : Nat} {a : List Nd} {st : St} (h : sees s st c = false) : loop s k c sub n a st = (a, st) := by
  cases n with
  | zero => rfl
  | succ n => rw [loop, if_neg (by rw [h]; decide)]

theorem up2 (hm : s.length < m) {t : Tree} (ht : txt t 2 = txt t 3) (h : P3 s m t) : P2 s m t := by
  intro f i r hd hf
  rw [ht] at hd ⊢
  refine ⟨m, by omega, ?_⟩
  have := h f i r hd hf
  rw [andF, this]
theorem up1 (hm : s.length < m) {t : Tree} (ht : txt t 1 = txt t 2) (h : P2 s m t) : P1 s m t := by
  intro f i r hd hf hr
  rw [ht] at hd ⊢
  obtain ⟨k, hk, he⟩ := h f i r hd hf
  have hs := sees_none (drop_tail hd) hr
  rw [loop_stop hs] at he
  refine ⟨m, by omega, ?_⟩
  rw [orF, he]
theorem up0 {t : Tree} (ht : txt t 0 = txt t 1) (h : P1 s m t) : P0 s m t := by
  intro f n i r hd hf hn h1 h2 h3
  rw [ht] at hd ⊢
  obtain ⟨k, hk, he⟩ := h f i r hd hf h1
  rw [loop_stop (sees_none (drop_tail hd) h2)] at he
  cases n with
  | zero => omega
  | succ n =>
    rw [impF_no (by rw [he]; exact sees_none (drop_tail hd) h3), he]
theorem down3 (hm : s.length < m) {t : Tree} (ht : txt t 3 = [40] ++ txt t 0 ++ [41]) (h : P0 s m t) : P3 s m t := by
  intro f i r hd hf
  have hp := txt_pos t 0
  rw [ht] at hd ⊢
  have hlen := drop_len hd (by simp)
  simp only [List.length_append, List.length_cons, List.length_nil] at hlen
  simp only [List.append_assoc, List.cons_append, List.nil_append] at hd
  have h1 : s.drop (i + 1) = txt t 0 ++ (41 :: r) := drop_tail (x := [40]) (r := txt t 0 ++ (41 :: r)) hd
  have h2 : s.drop (i + 1 + (txt t 0).length) = 41 :: r := drop_tail h1
  cases f with
  | zero => omega
  | succ f =>
    have h40 : sees s (i, false) 40 = true := by rw [sees_drop hd]; rfl
    rw [preF_par h40, show step (i, false) = (i + 1, false) from rfl]
    rw [h f m (i + 1) (41 :: r) h1 (by omega) (by omega) (by simp) (by simp) (by simp)]
    have h41 : sees s (i + 1 + (txt t 0).length, false) 41 = true := by rw [sees_drop h2]; rfl
    simp only [need, h41, if_true, step, List.length_append, List.length_cons, List.length_nil]
    congr 2
    omega

theorem all_fls (hm : s.length < m) : P3 s m .fls ∧ P2 s m .fls ∧ P1 s m .fls ∧ P0 s m .fls := by
  have h3 : P3 s m .fls := by
    intro f i r hd hf
    have hd' : s.drop i = 70 :: r := hd
    have hlen := drop_len hd (by simp [txt])
    simp only [txt, List.length_cons, List.length_nil] at hlen
    cases f with
    | zero => omega
    | succ f => rw [preF_fls (by rw [sees_drop hd']; rfl)]; rfl
  have h2 := up2 hm rfl h3
  have h1 := up1 hm rfl h2
  exact ⟨h3, h2, h1, up0 rfl h1⟩
theorem all_tru (hm : s.length < m) : P3 s m (.imp .fls .fls) ∧ P2 s m (.imp .fls .fls) ∧ P1 s m (.imp .fls .fls) ∧ P0 s m (.imp .fls .fls) := by
  have h3 : P3 s m (.imp .fls .fls) := by
    intro f i r hd hf
    have hd' : s.drop i = 84 :: r := hd
    have hlen := drop_len hd (by simp [txt, isF])
    simp only [txt, isF, if_true, List.length_cons, List.length_nil] at hlen
    cases f with
    | zero => omega
    | succ f => rw [preF_tru (by rw [sees_drop hd']; rfl)]; rfl
  have h2 := up2 hm rfl h3
  have h1 := up1 hm rfl h2
  exact ⟨h3, h2, h1, up0 rfl h1⟩
theorem all_var (hm : s.length < m) (v : Fin 6) : P3 s m (.var v) ∧ P2 s m (.var v) ∧ P1 s m (.var v) ∧ P0 s m (.var v) := by
  have h3 : P3 s m (.var v) := by
    intro f i r hd hf
    have hd' : s.drop i = UInt8.ofNat (112 + v.val) :: r := hd
    have hlen := drop_len hd (by simp [txt])
    simp only [txt, List.length_cons, List.length_nil] at hlen
    cases f with
    | zero => omega
    | succ f =>
      have hl : letter s (i, false) = some v.val := letter_of_sees v.isLt (by rw [sees_drop hd']; simp)
      rw [preF_var hl]; rfl
  have h2 := up2 hm rfl h3
  have h1 := up1 hm rfl h2
  exact ⟨h3, h2, h1, up0 rfl h1⟩
theorem all_not (hm : s.length < m) {x : Tree} (hx : isF x = false) (h : P3 s m x) : P3 s m (.imp x .fls) ∧ P2 s m (.imp x .fls) ∧ P1 s m (.imp x .fls) ∧ P0 s m (.imp x .fls) := by
  have ht : ∀ l, txt (.imp x .fls) l = [126] ++ txt x 3 := by intro l; rw [txt, if_pos (show isF .fls = true from rfl), if_neg (by rw [hx]; decide)]
  have h3 : P3 s m (.imp x .fls) := by
    intro f i r hd hf
    rw [ht] at hd ⊢
    have hlen := drop_len hd (by simp)
    simp only [List.length_append, List.length_cons, List.length_nil] at hlen
    have hd' : s.drop i = 126 :: (txt x 3 ++ r) := by simpa using hd
    have h1 : s.drop (i + 1) = txt x 3 ++ r := drop_tail (x := [126]) (r := txt x 3 ++ r) hd'
    cases f with
    | zero => omega
    | succ f =>
      rw [preF_not (by rw [sees_drop hd']; rfl), show step (i, false) = (i + 1, false) from rfl, h f (i + 1) r h1 (by omega)]
      simp only [List.length_append, List.length_cons, List.length_nil]
      refine Prod.ext rfl (Prod.ext (by simp only; omega) rfl)
  have h2 := up2 hm (by rw [ht, ht]) h3
  have h1 := up1 hm (by rw [ht, ht]) h2
  exact ⟨h3, h2, h1, up0 (by rw [ht, ht]) h1⟩
theorem all_box (hm : s.length < m) {x : Tree} (h : P3 s m x) : P3 s m (.box x) ∧ P2 s m (.box x) ∧ P1 s m (.box x) ∧ P0 s m (.box x) := by
  have h3 : P3 s m (.box x) := by
    intro f i r hd hf
    have hd' : s.drop i = 91 :: (93 :: (txt x 3 ++ r)) := by simpa [txt] using hd
    have hlen := drop_len hd (by simp [txt])
    simp only [txt, List.length_append, List.length_cons, List.length_nil] at hlen
    have h1 : s.drop (i + 1) = 93 :: (txt x 3 ++ r) := drop_tail (x := [91]) (r := 93 :: (txt x 3 ++ r)) hd'
    have h2 : s.drop (i + 2) = txt x 3 ++ r := drop_tail (x := [91, 93]) (r := txt x 3 ++ r) hd'
    cases f with
    | zero => omega
    | succ f =>
      have h93 : sees s (i + 1, false) 93 = true := by rw [sees_drop h1]; rfl
      rw [preF_box (by rw [sees_drop hd']; rfl), show step (i, false) = (i + 1, false) from rfl, show need s (i + 1, false) 93 = (i + 2, false) by simp [need, h93, step], h f (i + 2) r h2 (by omega)]
      simp only [txt, List.length_append, List.length_cons, List.length_nil]
      refine Prod.ext rfl (Prod.ext (by simp only; omega) rfl)
  have h2 := up2 hm rfl h3
  have h1 := up1 hm rfl h2
  exact ⟨h3, h2, h1, up0 rfl h1⟩
theorem all_dia (hm : s.length < m) {x : Tree} (h : P3 s m x) : P3 s m (.dia x) ∧ P2 s m (.dia x) ∧ P1 s m (.dia x) ∧ P0 s m (.dia x) := by
  have h3 : P3 s m (.dia x) := by
    intro f i r hd hf
    have hd' : s.drop i = 60 :: (62 :: (txt x 3 ++ r)) := by simpa [txt] using hd
    have hlen := drop_len hd (by simp [txt])
    simp only [txt, List.length_append, List.length_cons, List.length_nil] at hlen
    have h1 : s.drop (i + 1) = 62 :: (txt x 3 ++ r) := drop_tail (x := [60]) (r := 62 :: (txt x 3 ++ r)) hd'
    have h2 : s.drop (i + 2) = txt x 3 ++ r := drop_tail (x := [60, 62]) (r := txt x 3 ++ r) hd'
    cases f with
    | zero => omega
    | succ f =>
      have h93 : sees s (i + 1, false) 62 = true := by rw [sees_drop h1]; rfl
      rw [preF_dia (by rw [sees_drop hd']; rfl), show step (i, false) = (i + 1, false) from rfl, show need s (i + 1, false) 62 = (i + 2, false) by simp [need, h93, step], h f (i + 2) r h2 (by omega)]
      simp only [txt, List.length_append, List.length_cons, List.length_nil]
      refine Prod.ext rfl (Prod.ext (by simp only; omega) rfl)
  have h2 := up2 hm rfl h3
  have h1 := up1 hm rfl h2
  exact ⟨h3, h2, h1, up0 rfl h1⟩

theorem all_and (hm : s.length < m) {x y : Tree} (hx : P2 s m x) (hy : P3 s m y) : P3 s m (.and x y) ∧ P2 s m (.and x y) ∧ P1 s m (.and x y) ∧ P0 s m (.and x y) := by
  have ht : ∀ l, l ≤ 2 → txt (.and x y) l = txt x 2 ++ [38] ++ txt y 3 := by intro l hl; rw [txt, wrap, if_neg (by omega)]
  have h2 : P2 s m (.and x y) := by
    intro f i r hd hf
    rw [ht 2 (by omega)] at hd ⊢
    simp only [List.append_assoc, List.cons_append, List.nil_append] at hd
    obtain ⟨k, hk, he⟩ := hx f i _ hd hf
    have d1 := drop_tail hd
    have d2 : s.drop (i + (txt x 2).length + 1) = txt y 3 ++ r := drop_tail (x := [38]) (r := txt y 3 ++ r) d1
    have hp := txt_pos y 3
    have hlen := drop_len d2 hp
    obtain ⟨q, rfl⟩ : ∃ q, k = q + 1 := ⟨k - 1, by omega⟩
    refine ⟨q, ?_, ?_⟩
    · simp only [List.length_append, List.length_cons, List.length_nil]; omega
    · rw [he, loop, if_pos (by rw [sees_drop d1]; rfl), show step (i + (txt x 2).length, false) = (i + (txt x 2).length + 1, false) from rfl, hy f _ r d2 (by omega)]
      simp only [List.length_append, List.length_cons, List.length_nil]
      rw [show i + (txt x 2).length + 1 + (txt y 3).length = i + ((txt x 2).length + (0 + 1) + (txt y 3).length) by omega]
      rfl
  have h1 := up1 hm (by rw [ht 1 (by omega), ht 2 (by omega)]) h2
  have h0 := up0 (by rw [ht 0 (by omega), ht 1 (by omega)]) h1
  exact ⟨down3 hm (by rw [ht 0 (by omega), txt, wrap, if_pos (by omega)]) h0, h2, h1, h0⟩
theorem all_or (hm : s.length < m) {x y : Tree} (hx : P1 s m x) (hy : P2 s m y) : P3 s m (.or x y) ∧ P2 s m (.or x y) ∧ P1 s m (.or x y) ∧ P0 s m (.or x y) := by
  have ht : ∀ l, l ≤ 1 → txt (.or x y) l = txt x 1 ++ [124] ++ txt y 2 := by intro l hl; rw [txt, wrap, if_neg (by omega)]
  have hw : ∀ l, 2 ≤ l → txt (.or x y) l = [40] ++ txt (.or x y) 0 ++ [41] := by intro l hl; rw [ht 0 (by omega), txt, wrap, if_pos (by omega)]
  have h1 : P1 s m (.or x y) := by
    intro f i r hd hf hr
    rw [ht 1 (by omega)] at hd ⊢
    simp only [List.append_assoc, List.cons_append, List.nil_append] at hd
    obtain ⟨k, hk, he⟩ := hx f i _ hd hf (by simp)
    have d1 := drop_tail hd
    have d2 : s.drop (i + (txt x 1).length + 1) = txt y 2 ++ r := drop_tail (x := [124]) (r := txt y 2 ++ r) d1
    have hp := txt_pos y 2
    have hlen := drop_len d2 hp
    obtain ⟨q, rfl⟩ : ∃ q, k = q + 1 := ⟨k - 1, by omega⟩
    refine ⟨q, ?_, ?_⟩
    · simp only [List.length_append, List.length_cons, List.length_nil]; omega
    · obtain ⟨k2, hk2, he2⟩ := hy f _ r d2 (by omega)
      rw [loop_stop (sees_none (drop_tail d2) hr)] at he2
      rw [he, loop, if_pos (by rw [sees_drop d1]; rfl), show step (i + (txt x 1).length, false) = (i + (txt x 1).length + 1, false) from rfl, he2]
      simp only [List.length_append, List.length_cons, List.length_nil]
      rw [show i + (txt x 1).length + 1 + (txt y 2).length = i + ((txt x 1).length + (0 + 1) + (txt y 2).length) by omega]
      rfl
  have h0 := up0 (by rw [ht 0 (by omega), ht 1 (by omega)]) h1
  have h3 := down3 hm (hw 3 (by omega)) h0
  exact ⟨h3, up2 hm (by rw [hw 2 (by omega), hw 3 (by omega)]) h3, h1, h0⟩
theorem all_imp (hm : s.length < m) {x y : Tree} (hf : isF y = false) (hx : P1 s m x) (hy : P0 s m y) : P3 s m (.imp x y) ∧ P2 s m (.imp x y) ∧ P1 s m (.imp x y) ∧ P0 s m (.imp x y) := by
  have ht : txt (.imp x y) 0 = txt x 1 ++ [62] ++ txt y 0 := by rw [txt, if_neg (by rw [hf]; decide), wrap, if_neg (by omega)]
  have hw : ∀ l, 1 ≤ l → txt (.imp x y) l = [40] ++ txt (.imp x y) 0 ++ [41] := by intro l hl; rw [ht, txt, if_neg (by rw [hf]; decide), wrap, if_pos (by omega)]
  have h0 : P0 s m (.imp x y) := by
    intro f n i r hd hf hn q1 q2 q3
    rw [ht] at hd ⊢
    simp only [List.append_assoc, List.cons_append, List.nil_append] at hd
    obtain ⟨k, hk, he⟩ := hx f i _ hd hf (by simp)
    have d1 := drop_tail hd
    have d2 : s.drop (i + (txt x 1).length + 1) = txt y 0 ++ r := drop_tail (x := [62]) (r := txt y 0 ++ r) d1
    have hp := txt_pos y 0
    have hlen := drop_len d2 hp
    rw [loop_stop (by rw [sees_drop d1]; rfl)] at he
    cases n with
    | zero => omega
    | succ n =>
      have hsee : sees s (orF s m (preF s m f) (i, false)).2 62 = true := by rw [he, sees_drop d1]; rfl
      rw [impF_yes hsee, he]
      dsimp only
      rw [show step (i + (txt x 1).length, false) = (i + (txt x 1).length + 1, false) from rfl, hy f n _ r d2 (by omega) (by omega) q1 q2 q3]
      simp only [List.length_append, List.length_cons, List.length_nil]
      refine Prod.ext rfl (Prod.ext (by simp only; omega) rfl)
  have h3 := down3 hm (hw 3 (by omega)) h0
  have h2 := up2 hm (by rw [hw 2 (by omega), hw 3 (by omega)]) h3
  exact ⟨h3, h2, up1 hm (by rw [hw 1 (by omega), hw 2 (by omega)]) h2, h0⟩

theorem all_levels (hm : s.length < m) (t : Tree) : P3 s m t ∧ P2 s m t ∧ P1 s m t ∧ P0 s m t := by
  induction t with
  | var v => exact all_var hm v
  | fls => exact all_fls hm
  | and x y hx hy => exact all_and hm hx.2.1 hy.1
  | or x y hx hy => exact all_or hm hx.2.2.1 hy.2.1
  | imp x y hx hy =>
    cases hf : isF y with
    | true =>
      obtain rfl := isF_eq hf
      cases hg : isF x with
      | true => obtain rfl := isF_eq hg; exact all_tru hm
      | false => exact all_not hm hg hx.1
    | false => exact all_imp hm hf hx.2.2.1 hy.2.2.2
  | box x hx => exact all_box hm hx.1
  | dia x hx => exact all_dia hm hx.1
end

theorem parse_txt (t : Tree) (m : Nat) (hm : (txt t 0).length < m) : parse (txt t 0) m = (enc t, ((txt t 0).length, false)) := by
  have h := (all_levels (s := txt t 0) hm t).2.2.2 m m 0 [] (by simp) (by omega) (by omega) (by simp) (by simp) (by simp)
  rw [parse, h]
  simp

end Fm

def bs (l : List UInt8) : ByteArray := ⟨l.toArray⟩
theorem bs_append (a b : List UInt8) : bs a ++ bs b = bs (a ++ b) := by
  apply ByteArray.ext
  simp [bs]
theorem bs_size (a : List UInt8) : (bs a).size = a.length := by simp [bs, ByteArray.size]
theorem bs_list (a : List UInt8) : (bs a).data.toList = a := by simp [bs]
namespace Fm
def fuel : Nat := 1048577
def read (s : ByteArray) : Res := parse s.data.toList fuel
def whole (s : ByteArray) : Bool := !(read s).2.2 && decide (s.size ≤ (read s).2.1)
def pf (s : ByteArray) : List Nd × Nat × Int :=
  if 200 < s.size then ([], 0, 3) else if whole s = false then ([], (read s).2.1, 6) else if 40 < (read s).1.length then ([], 0, 3) else ((read s).1, 0, 0)
theorem read_ok (s : ByteArray) : (read s).2.1 ≤ s.size ∧ (read s).1.length ≤ 3 * s.size + 1 := by
  obtain ⟨h1, h2, h3⟩ := parse_ok s.data.toList fuel
  rw [show s.data.toList.length = s.size from by simp] at h2
  exact ⟨h2, by unfold read; omega⟩
theorem read_ne (s : ByteArray) : (read s).1 ≠ [] := by
  obtain ⟨t, h⟩ := parse_enc s.data.toList fuel
  have := enc_pos t
  unfold read
  rw [h]
  intro h0
  rw [h0] at this
  simp at this
theorem pf_len (s : ByteArray) : (pf s).1.length ≤ 40 := by
  unfold pf
  split
  · simp
  split
  · simp
  split
  · simp
  · simp only; omega
end Fm

def Fm.rd (s : ByteArray) : List Nd × Int := if Fm.whole s = false then ([], ((Fm.read s).2.1 : Int)) else ((Fm.read s).1, -1)


namespace Fm
theorem read_txt (t : Tree) (h : (txt t 0).length < fuel) : read (bs (txt t 0)) = (enc t, ((txt t 0).length, false)) := by
  rw [read, bs_list, parse_txt t fuel h]
theorem whole_txt (t : Tree) (h : (txt t 0).length < fuel) : whole (bs (txt t 0)) = true := by
  rw [whole, read_txt t h, bs_size]
  simp
theorem pf_txt (t : Tree) (h : (txt t 0).length ≤ 200) (hn : (enc t).length ≤ 40) : pf (bs (txt t 0)) = (enc t, 0, 0) := by
  have hf : (txt t 0).length < fuel := by unfold fuel; omega
  rw [pf, if_neg (by rw [bs_size]; omega), if_neg (by rw [whole_txt t hf]; decide), read_txt t hf, if_neg (by simp only; omega)]
end Fm
end Go.Proofs.YtjlnompmhgjaaaaGreat


/- ParseFormula, of the program and of the reference: both give what the plain parser gives. -/
namespace Go.Proofs.YtjlnompmhgjaaaaGreat
open Go.RowKit
open Fm (Nd)

def Gives3 (w : World) (r : List Nd × Nat × Int) (e : Ending) (w' : World) : Prop := ∃ v, e = .returned (.tuple #[v, .int .i64 r.2.1, .int .i64 r.2.2]) ∧ Own w' w.heap.size v r.1 ∧ Grew w w' ∧ (r.1 = [] → v = .slice none 0 0)

theorem Rdr.new (w : World) (T : TypeId) (s : ByteArray) : Rdr (w.alloc (.cells #[.string s, .int .i64 0, .bool false] T)) w.heap.size T s (0, false) := blk_new w _

def Gives2 (w : World) (xs : List Nd) (n : Int) (e : Ending) (w' : World) : Prop := ∃ v, e = .returned (.tuple #[v, .int .i64 n]) ∧ Own w' w.heap.size v xs ∧ Grew w w'

end Go.Proofs.YtjlnompmhgjaaaaGreat


/- The reference's reader: l02Take, l02Need. -/
namespace Go.Proofs.YtjlnompmhgjaaaaGreat
open Go.RowKit

theorem l02Take_c (g T : Nat) (s : ByteArray) (st : Fm.St) (c : UInt8) (m : Int) (w : World) (h : Rdr w g T s st) (hs : s.size ≤ 1099511627776) (hat : st.1 ≤ s.size) (hm : m = (c.toNat : Int)) :
    Calls Tryz.prog 136 #[.pointer (some ⟨g, 0, none⟩), .int .u8 m] w (Took w g T s st c) := by
  subst hm
  have c0 := h.text
  have c1 := h.at_
  have c2 := h.bad
  have hf := h.free 1
  obtain ⟨p, b⟩ := st
  simp only at c0 c1 c2 hat
  by_cases hb : b = true
  · subst hb
    have HH := Lib.hid h
    clear h
    go_enter Tryz.func136, Tryz.ntmps136
    go_wp2_with fail
    go_quiet (fail)
    go_wp2_with fail
    go_ret
    exact Took.no HH.out (sees_bad _ _ _) ((Grew.refl _).drewN _)
  · have hb' : b = false := by simpa using hb
    subst hb'
    by_cases hlt : p < s.size
    · have hd : decide ((p : Int) < (s.size : Int)) = true := by simp; omega
      have HH := Lib.hid h
      clear h hb
      go_enter Tryz.func136, Tryz.ntmps136
      go_wp2_with fail
      go_quiet (fail)
      go_wp2_with fail
      · have h1 : ((s[p].toNat : Int) == c.toNat) = true := by assumption
        go_ret
        exact Took.yes HH.out (by rw [sees_in s p c hlt]; rw [byte_eq] at h1; simpa using h1) ((Grew.refl _).drewN _)
      · have h1 : ((s[p].toNat : Int) == c.toNat) = false := by assumption
        go_ret
        exact Took.no HH.out (by rw [sees_in s p c hlt]; rw [byte_eq] at h1; simpa using h1) ((Grew.refl _).drewN _)
    · have hd : decide ((p : Int) < (s.size : Int)) = false := by simp; omega
      have HH := Lib.hid h
      clear h hb
      go_enter Tryz.func136, Tryz.ntmps136
      go_wp2_with fail
      go_quiet (fail)
      go_wp2_with fail
      go_ret
      exact Took.no HH.out (sees_end _ _ _ (by omega)) ((Grew.refl _).drewN _)

theorem l02Take_yes (g T : Nat) (s : ByteArray) (st : Fm.St) (c : UInt8) (m : Int) (w : World) (h : Rdr w g T s st) (hs : s.size ≤ 1099511627776) (hat : st.1 ≤ s.size) (hm : m = (c.toNat : Int)) (hsee : Fm.sees s.data.toList st c = true) :
    Calls Tryz.prog 136 #[.pointer (some ⟨g, 0, none⟩), .int .u8 m] w fun e w' => e = .returned (.bool true) ∧ Rdr w' g T s (Fm.step st) ∧ Only g w w' :=
  (l02Take_c g T s st c m w h hs hat hm).mono fun e w' hh => by
    unfold Took at hh; rw [hsee] at hh; exact hh
theorem l02Take_no (g T : Nat) (s : ByteArray) (st : Fm.St) (c : UInt8) (m : Int) (w : World) (h : Rdr w g T s st) (hs : s.size ≤ 1099511627776) (hat : st.1 ≤ s.size) (hm : m = (c.toNat : Int)) (hsee : Fm.sees s.data.toList st c = false) :
    Calls Tryz.prog 136 #[.pointer (some ⟨g, 0, none⟩), .int .u8 m] w fun e w' => e = .returned (.bool false) ∧ Rdr w' g T s st ∧ Only g w w' :=
  (l02Take_c g T s st c m w h hs hat hm).mono fun e w' hh => by
    unfold Took at hh; rw [hsee] at hh; exact hh
theorem l02Need_c (g T : Nat) (s : ByteArray) (st : Fm.St) (c : UInt8) (m : Int) (w : World) (h : Rdr w g T s st) (hs : s.size ≤ 1099511627776) (hat : st.1 ≤ s.size) (hm : m = (c.toNat : Int)) :
    Calls Tryz.prog 152 #[.pointer (some ⟨g, 0, none⟩), .int .u8 m] w fun e w' => e = .returned (.tuple #[]) ∧ Rdr w' g T s (Fm.need s.data.toList st c) ∧ Only g w w' := by
  subst hm
  by_cases hsee : Fm.sees s.data.toList st c = true
  · have hn : Fm.need s.data.toList st c = Fm.step st := by unfold Fm.need; rw [if_pos hsee]
    rw [hn]
    clear hn
    go_enter Tryz.func152, Tryz.ntmps152
    go_wp2_with fail
    refine (l02Take_yes g T s st c _ _ h hs hat rfl hsee).mono ?_
    rintro e w1 ⟨rfl, h1, o1⟩
    go_wp2_with fail
    go_end0
    exact ⟨rfl, h1, o1⟩
  · have hsee' : Fm.sees s.data.toList st c = false := by simpa using hsee
    have hn : Fm.need s.data.toList st c = (st.1, true) := by unfold Fm.need; rw [if_neg hsee]
    rw [hn]
    clear hn hsee
    go_enter Tryz.func152, Tryz.ntmps152
    go_wp2_with fail
    refine (l02Take_no g T s st c _ _ h hs hat rfl hsee').mono ?_
    rintro e w1 ⟨rfl, h1, o1⟩
    have c2 := h1.bad
    have hf := h1.free 2
    have HH := Lib.hid h1
    clear h1
    go_wp2_with fail
    go_end0
    exact ⟨rfl, HH.out.spoil, o1.setCell _⟩
end Go.Proofs.YtjlnompmhgjaaaaGreat


/- The reference's reader: what l02Imply, l02Or, l02And read is what the plain parser gives. -/
namespace Go.Proofs.YtjlnompmhgjaaaaGreat
open Go.RowKit
open Fm (Nd)

theorem l02And_c (T : TypeId) (hT : 53 ≠ T) (s : ByteArray) (f m : Nat) (sub : Fm.St → Fm.Res) (hs : s.size ≤ 1048576) (hm : s.size < m) (hok : ∀ st : Fm.St, st.1 ≤ s.data.toList.length → Fm.Ok s.data.toList st (sub st))
    (hsub : Sub 151 T s f sub) : Sub 148 T s f (fun st => Fm.loop s.data.toList 2 38 sub m (sub st).1 (sub st).2) := by
  intro g st w hR hat hfu
  have HS := Lib.hid hsub
  have HO := Lib.hid hok
  clear hsub hok
  have hsz := size_toList s
  have h0 : Fm.Ok s.data.toList st (sub st) := HO.out st (by rw [hsz]; exact hat)
  show Calls _ _ _ _ (Reads w g T s (Fm.loop s.data.toList 2 38 sub m (sub st).1 (sub st).2))
  obtain ⟨R, hR0⟩ : ∃ R, R = Fm.loop s.data.toList 2 38 sub m (sub st).1 (sub st).2 := ⟨_, rfl⟩
  rw [← hR0]
  have hend := Lib.hid hR0
  clear hR0
  have HZ := Lib.hid hsz
  clear hsz
  go_enter Tryz.func148, Tryz.ntmps148
  go_wp2_with fail
  refine (HS.out g st _ hR hat hfu).mono ?_
  rintro e w1 ⟨v1, rfl, ho1, hR1, hO1⟩
  generalize sub st = r1 at *
  obtain ⟨k1, k2, k3⟩ := h0
  rw [HZ.out] at k2
  go_wp2_with fail
  go_loopg [3] m (fun i v wr => ∃ (a : List Nd) (st' : Fm.St), Own wr w.heap.size v a ∧ Rdr wr g T s st' ∧ Only g w wr ∧ Hid (Fm.loop s.data.toList 2 38 sub i a st' = R) ∧ s.size - st'.1 < i ∧ st.1 ≤ st'.1 ∧ st'.1 ≤ s.size ∧ a.length ≤ 3 * st'.1 + 1)
  case atStart => exact ⟨r1.1, r1.2, ho1, hR1, hO1, hend.out.symm, by omega, by omega, by omega, by omega⟩
  case round =>
    obtain ⟨a, st', hown, hR', hO', hl, hi, hst, hst2, hlen⟩ := hrel
    have hne := own_rdr_ne hown hR' hT
    clear hend ho1 hR1 hO1 k1 k2 k3 hR
    obtain ⟨j, rfl⟩ : ∃ j, gk = j + 1 := ⟨gk - 1, by omega⟩
    by_cases hsee : Fm.sees s.data.toList st' 38 = true
    · have hlt := Fm.sees_lt hsee
      rw [HZ.out] at hlt
      have hl2 : Hid (Fm.loop s.data.toList 2 38 sub j (Fm.join 2 a (sub (Fm.step st')).1) (sub (Fm.step st')).2 = R) := by
        have := hl.out
        rw [Fm.loop, if_pos hsee] at this
        exact this
      obtain ⟨k1, k2, k3⟩ : Fm.Ok s.data.toList (Fm.step st') (sub (Fm.step st')) := HO.out (Fm.step st') (by rw [HZ.out]; exact hlt)
      rw [HZ.out] at k2
      have e1 : (Fm.step st').1 = st'.1 + 1 := rfl
      rw [e1] at k1 k3
      have hfu2 : s.size - (Fm.step st').1 < f := by rw [e1]; omega
      have hat2 : (Fm.step st').1 ≤ s.size := by rw [e1]; omega
      clear hl e1
      go_wp2_with fail
      refine (l02Take_yes g T s st' 38 _ _ hR' (by omega) hst2 rfl hsee).mono ?_
      rintro e w2 ⟨rfl, hR2, hO2⟩
      clear hsee hR'
      generalize Fm.step st' = st2 at *
      go_wp2_with fail
      refine (HS.out g st2 _ hR2 hat2 hfu2).mono ?_
      rintro e w3 ⟨v3, rfl, ho3, hR3, hO3⟩
      generalize sub st2 = r3 at *
      go_wp2_with fail
      refine (l02Pair_c 2 _ _ a r3.1 _ ((hown.only hO2 hne).only hO3 hne).nodes ho3.nodes (by omega)).mono ?_
      rintro e w4 ⟨v4, rfl, ho4, hg4⟩
      go_wp2_with fail
      go_roundg j
      case measure => omega
      case rel => exact ⟨_, r3.2, ho4.base (by have := hO'.size; have := hO2.size; have := hO3.size; omega), hR3.grew hg4, ((hO'.trans hO2).trans hO3).grew hg4, hl2, by omega, by omega, by omega, by simp only [Fm.join, List.length_cons, List.length_append]; omega⟩
    · have hsee' : Fm.sees s.data.toList st' 38 = false := by simpa using hsee
      have hl2 : Hid (R = (a, st')) := by
        have := hl.out
        rw [Fm.loop, if_neg hsee] at this
        exact this.symm
      clear hsee hl
      go_wp2_with fail
      refine (l02Take_no g T s st' 38 _ _ hR' (by omega) hst2 rfl hsee').mono ?_
      rintro e w2 ⟨rfl, hR2, hO2⟩
      go_wp2_with fail
      go_ret
      rw [hl2.out]
      exact ⟨_, rfl, hown.only hO2 hne, hR2, hO'.trans hO2⟩
theorem l02Or_c (T : TypeId) (hT : 53 ≠ T) (s : ByteArray) (f m : Nat) (sub : Fm.St → Fm.Res) (hs : s.size ≤ 1048576) (hm : s.size < m) (hok : ∀ st : Fm.St, st.1 ≤ s.data.toList.length → Fm.Ok s.data.toList st (sub st))
    (hsub : Sub 148 T s f sub) : Sub 135 T s f (fun st => Fm.loop s.data.toList 3 124 sub m (sub st).1 (sub st).2) := by
  intro g st w hR hat hfu
  have HS := Lib.hid hsub
  have HO := Lib.hid hok
  clear hsub hok
  have hsz := size_toList s
  have h0 : Fm.Ok s.data.toList st (sub st) := HO.out st (by rw [hsz]; exact hat)
  show Calls _ _ _ _ (Reads w g T s (Fm.loop s.data.toList 3 124 sub m (sub st).1 (sub st).2))
  obtain ⟨R, hR0⟩ : ∃ R, R = Fm.loop s.data.toList 3 124 sub m (sub st).1 (sub st).2 := ⟨_, rfl⟩
  rw [← hR0]
  have hend := Lib.hid hR0
  clear hR0
  have HZ := Lib.hid hsz
  clear hsz
  go_enter Tryz.func135, Tryz.ntmps135
  go_wp2_with fail
  refine (HS.out g st _ hR hat hfu).mono ?_
  rintro e w1 ⟨v1, rfl, ho1, hR1, hO1⟩
  generalize sub st = r1 at *
  obtain ⟨k1, k2, k3⟩ := h0
  rw [HZ.out] at k2
  go_wp2_with fail
  go_loopg [3] m (fun i v wr => ∃ (a : List Nd) (st' : Fm.St), Own wr w.heap.size v a ∧ Rdr wr g T s st' ∧ Only g w wr ∧ Hid (Fm.loop s.data.toList 3 124 sub i a st' = R) ∧ s.size - st'.1 < i ∧ st.1 ≤ st'.1 ∧ st'.1 ≤ s.size ∧ a.length ≤ 3 * st'.1 + 1)
  case atStart => exact ⟨r1.1, r1.2, ho1, hR1, hO1, hend.out.symm, by omega, by omega, by omega, by omega⟩
  case round =>
    obtain ⟨a, st', hown, hR', hO', hl, hi, hst, hst2, hlen⟩ := hrel
    have hne := own_rdr_ne hown hR' hT
    clear hend ho1 hR1 hO1 k1 k2 k3 hR
    obtain ⟨j, rfl⟩ : ∃ j, gk = j + 1 := ⟨gk - 1, by omega⟩
    by_cases hsee : Fm.sees s.data.toList st' 124 = true
    · have hlt := Fm.sees_lt hsee
      rw [HZ.out] at hlt
      have hl2 : Hid (Fm.loop s.data.toList 3 124 sub j (Fm.join 3 a (sub (Fm.step st')).1) (sub (Fm.step st')).2 = R) := by
        have := hl.out
        rw [Fm.loop, if_pos hsee] at this
        exact this
      obtain ⟨k1, k2, k3⟩ : Fm.Ok s.data.toList (Fm.step st') (sub (Fm.step st')) := HO.out (Fm.step st') (by rw [HZ.out]; exact hlt)
      rw [HZ.out] at k2
      have e1 : (Fm.step st').1 = st'.1 + 1 := rfl
      rw [e1] at k1 k3
      have hfu2 : s.size - (Fm.step st').1 < f := by rw [e1]; omega
      have hat2 : (Fm.step st').1 ≤ s.size := by rw [e1]; omega
      clear hl e1
      go_wp2_with fail
      refine (l02Take_yes g T s st' 124 _ _ hR' (by omega) hst2 rfl hsee).mono ?_
      rintro e w2 ⟨rfl, hR2, hO2⟩
      clear hsee hR'
      generalize Fm.step st' = st2 at *
      go_wp2_with fail
      refine (HS.out g st2 _ hR2 hat2 hfu2).mono ?_
      rintro e w3 ⟨v3, rfl, ho3, hR3, hO3⟩
      generalize sub st2 = r3 at *
      go_wp2_with fail
      refine (l02Pair_c 3 _ _ a r3.1 _ ((hown.only hO2 hne).only hO3 hne).nodes ho3.nodes (by omega)).mono ?_
      rintro e w4 ⟨v4, rfl, ho4, hg4⟩
      go_wp2_with fail
      go_roundg j
      case measure => omega
      case rel => exact ⟨_, r3.2, ho4.base (by have := hO'.size; have := hO2.size; have := hO3.size; omega), hR3.grew hg4, ((hO'.trans hO2).trans hO3).grew hg4, hl2, by omega, by omega, by omega, by simp only [Fm.join, List.length_cons, List.length_append]; omega⟩
    · have hsee' : Fm.sees s.data.toList st' 124 = false := by simpa using hsee
      have hl2 : Hid (R = (a, st')) := by
        have := hl.out
        rw [Fm.loop, if_neg hsee] at this
        exact this.symm
      clear hsee hl
      go_wp2_with fail
      refine (l02Take_no g T s st' 124 _ _ hR' (by omega) hst2 rfl hsee').mono ?_
      rintro e w2 ⟨rfl, hR2, hO2⟩
      go_wp2_with fail
      go_ret
      rw [hl2.out]
      exact ⟨_, rfl, hown.only hO2 hne, hR2, hO'.trans hO2⟩

theorem l02Imply_c (T : TypeId) (hT : 53 ≠ T) (s : ByteArray) (f m : Nat) (sub : Fm.St → Fm.Res) (hs : s.size ≤ 1048576) (hok : ∀ st : Fm.St, st.1 ≤ s.data.toList.length → Fm.Ok s.data.toList st (sub st))
    (hsub : Sub 135 T s f (Fm.orF s.data.toList m sub)) : ∀ (i : Nat) (g : Nat) (st : Fm.St) (w : World), Rdr w g T s st → st.1 ≤ s.size → s.size - st.1 < i → s.size - st.1 < f →
      Calls Tryz.prog 121 #[.pointer (some ⟨g, 0, none⟩)] w (Reads w g T s (Fm.impF s.data.toList m sub i st)) := by
  intro i
  induction i with
  | zero => intro g st w _ _ h; omega
  | succ i ih =>
    intro g st w hR hat hi hfu
    have HS := Lib.hid hsub
    have HI := Lib.hid ih
    clear hsub ih
    have hsz := size_toList s
    have h0 : Fm.Ok s.data.toList st (Fm.orF s.data.toList m sub st) := Fm.orF_ok hok st (by rw [hsz]; exact hat)
    have hy := @Fm.impF_yes s.data.toList m i sub st
    have hn := @Fm.impF_no s.data.toList m i sub st
    have hk := fun st h => Fm.impF_ok (m := m) hok i st h
    have HK := Lib.hid hk
    have HZ := Lib.hid hsz
    clear hsz hok hk
    have HC := fun g h1 => HS.out g st w h1 hat hfu
    have HD := Lib.hid HC
    clear HC HS
    generalize Fm.orF s.data.toList m sub st = r1 at *
    obtain ⟨k1, k2, k3⟩ := h0
    rw [HZ.out] at k2
    by_cases hsee : Fm.sees s.data.toList r1.2 62 = true
    · have hlt := Fm.sees_lt hsee
      rw [HZ.out] at hlt
      have e1 : (Fm.step r1.2).1 = r1.2.1 + 1 := rfl
      obtain ⟨q1, q2, q3⟩ := HK.out (Fm.step r1.2) (by rw [HZ.out, e1]; exact hlt)
      rw [HZ.out] at q2
      rw [e1] at q1 q3
      have hq := HI.out g (Fm.step r1.2)
      rw [e1] at hq
      have HQ := Lib.hid hq
      rw [hy hsee]
      clear hy hn HI hq HK e1
      go_enter Tryz.func121, Tryz.ntmps121
      go_wp2_with fail
      refine (HD.out g hR).mono ?_
      rintro e w1 ⟨v1, rfl, ho1, hR1, hO1⟩
      have hne := own_rdr_ne ho1 hR1 hT
      go_wp2_with fail
      refine (l02Take_yes g T s r1.2 62 _ _ hR1 (by omega) (by omega) rfl hsee).mono ?_
      rintro e w2 ⟨rfl, hR2, hO2⟩
      go_wp2_with fail
      refine (HQ.out _ hR2 (by omega) (by omega) (by omega)).mono ?_
      rintro e w3 ⟨v3, rfl, ho3, hR3, hO3⟩
      generalize Fm.impF s.data.toList m sub i (Fm.step r1.2) = r3 at *
      go_wp2_with fail
      refine (l02Pair_c 4 _ _ r1.1 r3.1 _ ((ho1.only hO2 hne).only hO3 hne).nodes ho3.nodes (by omega)).mono ?_
      rintro e w4 ⟨v4, rfl, ho4, hg4⟩
      go_wp2_with fail
      go_ret
      exact ⟨_, rfl, ho4.base (by have := hO1.size; have := hO2.size; have := hO3.size; omega), hR3.grew hg4, ((hO1.trans hO2).trans hO3).grew hg4⟩
    · have hsee' : Fm.sees s.data.toList r1.2 62 = false := by simpa using hsee
      rw [hn hsee']
      clear hy hn HI HK hsee
      go_enter Tryz.func121, Tryz.ntmps121
      go_wp2_with fail
      refine (HD.out g hR).mono ?_
      rintro e w1 ⟨v1, rfl, ho1, hR1, hO1⟩
      have hne := own_rdr_ne ho1 hR1 hT
      go_wp2_with fail
      refine (l02Take_no g T s r1.2 62 _ _ hR1 (by omega) (by omega) rfl hsee').mono ?_
      rintro e w2 ⟨rfl, hR2, hO2⟩
      go_wp2_with fail
      go_ret
      exact ⟨_, rfl, ho1.only hO2 hne, hR2, hO1.trans hO2⟩

end Go.Proofs.YtjlnompmhgjaaaaGreat


/- The reference's reader: l02Prefix and l02Imply. -/
namespace Go.Proofs.YtjlnompmhgjaaaaGreat
open Go.RowKit
open Fm (Nd)

theorem index_letter (w : World) (i : Nat) (hi : i < 6) :
    (Instr.index 9 (.string ⟨#[112, 113, 114, 115, 116, 117]⟩) (.int .i64 i)).run Tryz.prog w = .ok (.int .u8 (112 + (i : Int))) w := by
  have h6 : i = 0 ∨ i = 1 ∨ i = 2 ∨ i = 3 ∨ i = 4 ∨ i = 5 := by omega
  rcases h6 with rfl | rfl | rfl | rfl | rfl | rfl <;> (simp [Instr.index, run_underlying Tryz.underlying9, go_sem]; rfl)
theorem letter_byte2 {i : Nat} (hi : i < 6) : 112 + (i : Int) = ((UInt8.ofNat (112 + i)).toNat : Int) := by
  rw [UInt8.toNat_ofNat']; omega

set_option maxHeartbeats 1000000 in
theorem l02Prefix_step (T : TypeId) (hT : 53 ≠ T) (s : ByteArray) (f m : Nat) (hs : s.size ≤ 1048576)
    (himp : Sub 121 T s f (Fm.impF s.data.toList m (Fm.preF s.data.toList m f) m)) (hp : Sub 151 T s f (Fm.preF s.data.toList m f))
    (g : Nat) (st : Fm.St) (w : World) (hR : Rdr w g T s st) (hat : st.1 ≤ s.size) (hfu : s.size - st.1 < f + 1) :
    Calls Tryz.prog 151 #[.pointer (some ⟨g, 0, none⟩)] w (Reads w g T s (Fm.preF s.data.toList m (f + 1) st)) := by
  have HI := Lib.hid himp
  have HP := Lib.hid hp
  have HZ := Lib.hid (size_toList s)
  clear himp hp
  cases hl : Fm.letter s.data.toList st with
  | some v =>
    rw [Fm.preF_var hl]
    have hv := (Fm.letter_some hl).1
    have hvs := (Fm.letter_some hl).2
    have HN := Lib.hid (fun i hi hne => @Fm.letter_ne s.data.toList st v i hl hi hne)
    clear hl HI HP
    go_enter Tryz.func151, Tryz.ntmps151
    go_wp2_with fail
    go_loopg [4] 6 (fun n x wr => ∃ i : Nat, n = 6 - i ∧ i ≤ v ∧ x = .int .i64 i ∧ Rdr wr g T s st ∧ Only g w wr)
    case atStart => exact ⟨0, rfl, Nat.zero_le _, rfl, hR, Only.refl _ _⟩
    case round =>
      obtain ⟨i, rfl, hiv, rfl, hRr, hOr⟩ := hrel
      have hix := fun w => index_letter w i (by omega)
      by_cases hiv2 : i = v
      · subst hiv2
        go_wp2_with fail
        refine (l02Take_yes g T s st _ _ _ hRr (by omega) hat (letter_byte2 (by omega)) hvs).mono ?_
        rintro e w4 ⟨rfl, hR6, hO6⟩
        go_wp2_with fail
        refine (l02Var_c _ _).mono ?_
        rintro e w5 ⟨v5, rfl, ho5, hg5⟩
        go_wp2_with fail
        go_ret
        exact ⟨_, rfl, ho5.base (hOr.trans hO6).size, hR6.grew hg5, (hOr.trans hO6).grew hg5⟩
      · have hs0 := HN.out i (by omega) hiv2
        go_wp2_with fail
        refine (l02Take_no g T s st _ _ _ hRr (by omega) hat (letter_byte2 (by omega)) hs0).mono ?_
        rintro e w4 ⟨rfl, hR6, hO6⟩
        go_wp2_with fail
        go_roundg (6 - (i + 1))
        case measure => omega
        case rel => exact ⟨i + 1, rfl, by omega, by go_num, hR6, hOr.trans hO6⟩
  | none =>
    have HN := Lib.hid (fun i hi => @Fm.letter_none s.data.toList st hl i hi)
    have HL := Lib.hid hl
    clear hl
    obtain ⟨R, hR0⟩ : ∃ R, R = Fm.preF s.data.toList m (f + 1) st := ⟨_, rfl⟩
    rw [← hR0]
    have HE := Lib.hid hR0
    clear hR0
    go_enter Tryz.func151, Tryz.ntmps151
    go_wp2_with fail
    go_loopg [4] 7 (fun n x wr => ∃ i : Nat, n = 7 - i ∧ i ≤ 6 ∧ x = .int .i64 i ∧ Rdr wr g T s st ∧ Only g w wr)
    case atStart => exact ⟨0, rfl, Nat.zero_le _, rfl, hR, Only.refl _ _⟩
    case round =>
      obtain ⟨i, rfl, hiv, rfl, hRr, hOr⟩ := hrel
      clear hR
      by_cases hi6 : i < 6
      · have hix := fun w => index_letter w i hi6
        have hs0 := HN.out i hi6
        go_wp2_with fail
        refine (l02Take_no g T s st _ _ _ hRr (by omega) hat (letter_byte2 hi6) hs0).mono ?_
        rintro e w4 ⟨rfl, hR6, hO6⟩
        go_wp2_with fail
        go_roundg (7 - (i + 1))
        case measure => omega
        case rel => exact ⟨i + 1, rfl, by omega, by go_num, hR6, hOr.trans hO6⟩
      · have hi66 : i = 6 := by omega
        subst hi66
        clear HN hi6 hiv
        go_wp2_with fail
        by_cases h70 : Fm.sees s.data.toList st 70 = true
        · have hE := HE.out
          rw [Fm.preF_fls h70] at hE
          subst hE
          refine (l02Take_yes g T s st 70 _ _ hRr (by omega) hat rfl h70).mono ?_
          rintro e w101 ⟨rfl, hR101, hO101⟩
          go_wp2_with fail
          refine (l02False_c _).mono ?_
          rintro e wz ⟨vz, rfl, hoz, hgz⟩
          go_wp2_with fail
          go_ret
          exact ⟨_, rfl, hoz.base ((hOr).trans hO101).size, hR101.grew hgz, ((hOr).trans hO101).grew hgz⟩
        have h70' : Fm.sees s.data.toList st 70 = false := by simpa using h70
        clear h70
        refine (l02Take_no g T s st 70 _ _ hRr (by omega) hat rfl h70').mono ?_
        rintro e w1 ⟨rfl, hR1, hO1⟩
        go_wp2_with fail
        by_cases h84 : Fm.sees s.data.toList st 84 = true
        · have hE := HE.out
          rw [Fm.preF_tru h84] at hE
          subst hE
          refine (l02Take_yes g T s st 84 _ _ hR1 (by omega) hat rfl h84).mono ?_
          rintro e w102 ⟨rfl, hR102, hO102⟩
          go_wp2_with fail
          refine (l02True_c _).mono ?_
          rintro e wz ⟨vz, rfl, hoz, hgz⟩
          go_wp2_with fail
          go_ret
          exact ⟨_, rfl, hoz.base (((hOr).trans hO1).trans hO102).size, hR102.grew hgz, (((hOr).trans hO1).trans hO102).grew hgz⟩
        have h84' : Fm.sees s.data.toList st 84 = false := by simpa using h84
        clear h84
        refine (l02Take_no g T s st 84 _ _ hR1 (by omega) hat rfl h84').mono ?_
        rintro e w2 ⟨rfl, hR2, hO2⟩
        go_wp2_with fail
        by_cases h126 : Fm.sees s.data.toList st 126 = true
        · have hE := HE.out
          rw [Fm.preF_not h126] at hE
          subst hE
          have hlt := Fm.sees_lt h126
          rw [HZ.out] at hlt
          have e1 : (Fm.step st).1 = st.1 + 1 := rfl
          have hk : Fm.Ok s.data.toList (Fm.step st) (Fm.preF s.data.toList m f (Fm.step st)) := Fm.preF_ok f (Fm.step st) (by rw [HZ.out]; exact hlt)
          obtain ⟨k1, k2, k3⟩ := hk
          rw [HZ.out] at k2
          rw [e1] at k1 k3
          have hq := HP.out g (Fm.step st)
          rw [e1] at hq
          have HQ := Lib.hid hq
          clear hq e1 HI HP
          generalize Fm.preF s.data.toList m f (Fm.step st) = r at *
          refine (l02Take_yes g T s st 126 _ _ hR2 (by omega) hat rfl h126).mono ?_
          rintro e w103 ⟨rfl, hR103, hO103⟩
          go_wp2_with fail
          refine (HQ.out _ hR103 (by omega) (by omega)).mono ?_
          rintro e wx ⟨vx, rfl, hox, hRx, hOx⟩
          go_wp2_with fail
          refine (l02Not_c _ r.1 _ hox.nodes (by omega)).mono ?_
          rintro e wz ⟨vz, rfl, hoz, hgz⟩
          go_wp2_with fail
          go_ret
          exact ⟨_, rfl, hoz.base (((((hOr).trans hO1).trans hO2).trans hO103).trans hOx).size, hRx.grew hgz, (((((hOr).trans hO1).trans hO2).trans hO103).trans hOx).grew hgz⟩
        have h126' : Fm.sees s.data.toList st 126 = false := by simpa using h126
        clear h126
        refine (l02Take_no g T s st 126 _ _ hR2 (by omega) hat rfl h126').mono ?_
        rintro e w3 ⟨rfl, hR3, hO3⟩
        go_wp2_with fail
        by_cases h91 : Fm.sees s.data.toList st 91 = true
        · have hE := HE.out
          rw [Fm.preF_box h91] at hE
          subst hE
          have hlt := Fm.sees_lt h91
          rw [HZ.out] at hlt
          have e1 : (Fm.step st).1 = st.1 + 1 := rfl
          have hn := Fm.need_pos (s := s.data.toList) (st := Fm.step st) (c := 93) (by rw [HZ.out, e1]; exact hlt)
          rw [HZ.out, e1] at hn
          obtain ⟨n1, n2⟩ := hn
          have hk : Fm.Ok s.data.toList (Fm.need s.data.toList (Fm.step st) 93) (Fm.preF s.data.toList m f (Fm.need s.data.toList (Fm.step st) 93)) := Fm.preF_ok f _ (by rw [HZ.out]; exact n2)
          obtain ⟨k1, k2, k3⟩ := hk
          rw [HZ.out] at k2
          have HQ := Lib.hid (HP.out g (Fm.need s.data.toList (Fm.step st) 93))
          have hat1 : (Fm.step st).1 ≤ s.size := by rw [e1]; omega
          clear e1 HI HP
          refine (l02Take_yes g T s st 91 _ _ hR3 (by omega) hat rfl h91).mono ?_
          rintro e w104 ⟨rfl, hR104, hO104⟩
          go_wp2_with fail
          refine (l02Need_c g T s (Fm.step st) 93 _ _ hR104 (by omega) hat1 rfl).mono ?_
          rintro e wy ⟨rfl, hRy, hOy⟩
          generalize Fm.need s.data.toList (Fm.step st) 93 = st2 at *
          generalize Fm.preF s.data.toList m f st2 = r at *
          go_wp2_with fail
          refine (HQ.out _ hRy (by omega) (by omega)).mono ?_
          rintro e wx ⟨vx, rfl, hox, hRx, hOx⟩
          go_wp2_with fail
          refine (l02Pre_c 5 _ r.1 _ hox.nodes (by omega)).mono ?_
          rintro e wz ⟨vz, rfl, hoz, hgz⟩
          go_wp2_with fail
          go_ret
          exact ⟨_, rfl, hoz.base (((((((hOr).trans hO1).trans hO2).trans hO3).trans hO104).trans hOy).trans hOx).size, hRx.grew hgz, (((((((hOr).trans hO1).trans hO2).trans hO3).trans hO104).trans hOy).trans hOx).grew hgz⟩
        have h91' : Fm.sees s.data.toList st 91 = false := by simpa using h91
        clear h91
        refine (l02Take_no g T s st 91 _ _ hR3 (by omega) hat rfl h91').mono ?_
        rintro e w4 ⟨rfl, hR4, hO4⟩
        go_wp2_with fail
        by_cases h60 : Fm.sees s.data.toList st 60 = true
        · have hE := HE.out
          rw [Fm.preF_dia h60] at hE
          subst hE
          have hlt := Fm.sees_lt h60
          rw [HZ.out] at hlt
          have e1 : (Fm.step st).1 = st.1 + 1 := rfl
          have hn := Fm.need_pos (s := s.data.toList) (st := Fm.step st) (c := 62) (by rw [HZ.out, e1]; exact hlt)
          rw [HZ.out, e1] at hn
          obtain ⟨n1, n2⟩ := hn
          have hk : Fm.Ok s.data.toList (Fm.need s.data.toList (Fm.step st) 62) (Fm.preF s.data.toList m f (Fm.need s.data.toList (Fm.step st) 62)) := Fm.preF_ok f _ (by rw [HZ.out]; exact n2)
          obtain ⟨k1, k2, k3⟩ := hk
          rw [HZ.out] at k2
          have HQ := Lib.hid (HP.out g (Fm.need s.data.toList (Fm.step st) 62))
          have hat1 : (Fm.step st).1 ≤ s.size := by rw [e1]; omega
          clear e1 HI HP
          refine (l02Take_yes g T s st 60 _ _ hR4 (by omega) hat rfl h60).mono ?_
          rintro e w105 ⟨rfl, hR105, hO105⟩
          go_wp2_with fail
          refine (l02Need_c g T s (Fm.step st) 62 _ _ hR105 (by omega) hat1 rfl).mono ?_
          rintro e wy ⟨rfl, hRy, hOy⟩
          generalize Fm.need s.data.toList (Fm.step st) 62 = st2 at *
          generalize Fm.preF s.data.toList m f st2 = r at *
          go_wp2_with fail
          refine (HQ.out _ hRy (by omega) (by omega)).mono ?_
          rintro e wx ⟨vx, rfl, hox, hRx, hOx⟩
          go_wp2_with fail
          refine (l02Pre_c 6 _ r.1 _ hox.nodes (by omega)).mono ?_
          rintro e wz ⟨vz, rfl, hoz, hgz⟩
          go_wp2_with fail
          go_ret
          exact ⟨_, rfl, hoz.base ((((((((hOr).trans hO1).trans hO2).trans hO3).trans hO4).trans hO105).trans hOy).trans hOx).size, hRx.grew hgz, ((((((((hOr).trans hO1).trans hO2).trans hO3).trans hO4).trans hO105).trans hOy).trans hOx).grew hgz⟩
        have h60' : Fm.sees s.data.toList st 60 = false := by simpa using h60
        clear h60
        refine (l02Take_no g T s st 60 _ _ hR4 (by omega) hat rfl h60').mono ?_
        rintro e w5 ⟨rfl, hR5, hO5⟩
        go_wp2_with fail
        by_cases h40 : Fm.sees s.data.toList st 40 = true
        · have hE := HE.out
          rw [Fm.preF_par h40] at hE
          subst hE
          have hlt := Fm.sees_lt h40
          rw [HZ.out] at hlt
          have hk : Fm.Ok s.data.toList (Fm.step st) (Fm.impF s.data.toList m (Fm.preF s.data.toList m f) m (Fm.step st)) := Fm.impF_ok (fun st h => Fm.preF_ok f st h) m (Fm.step st) (by rw [HZ.out]; exact hlt)
          have e1 : (Fm.step st).1 = st.1 + 1 := rfl
          obtain ⟨k1, k2, k3⟩ := hk
          rw [HZ.out] at k2
          rw [e1] at k1 k3
          have hq := HI.out g (Fm.step st)
          rw [e1] at hq
          have HQ := Lib.hid hq
          clear hq e1 HI HP
          generalize Fm.impF s.data.toList m (Fm.preF s.data.toList m f) m (Fm.step st) = r at *
          refine (l02Take_yes g T s st 40 _ _ hR5 (by omega) hat rfl h40).mono ?_
          rintro e w106 ⟨rfl, hR106, hO106⟩
          go_wp2_with fail
          refine (HQ.out _ hR106 (by omega) (by omega)).mono ?_
          rintro e wx ⟨vx, rfl, hox, hRx, hOx⟩
          have hne := own_rdr_ne hox hRx hT
          go_wp2_with fail
          refine (l02Need_c g T s r.2 41 _ _ hRx (by omega) (by omega) rfl).mono ?_
          rintro e wz ⟨rfl, hRz, hOz⟩
          go_wp2_with fail
          go_ret
          exact ⟨_, rfl, (hox.only hOz hne).base (((((((hOr).trans hO1).trans hO2).trans hO3).trans hO4).trans hO5).trans hO106).size, hRz, ((((((((hOr).trans hO1).trans hO2).trans hO3).trans hO4).trans hO5).trans hO106).trans hOx).trans hOz⟩
        have h40' : Fm.sees s.data.toList st 40 = false := by simpa using h40
        clear h40
        refine (l02Take_no g T s st 40 _ _ hR5 (by omega) hat rfl h40').mono ?_
        rintro e w6 ⟨rfl, hR6, hO6⟩
        have hE := HE.out
        have h126x := Fm.preF_bad (m := m) (f := f) h126' h91' h60' h70' h84' h40' HL.out
        rw [h126x] at hE
        subst hE
        clear h126x HL
        have c2 := hR6.bad
        have hf := hR6.free 2
        have HH := Lib.hid hR6
        clear hRr hR1 hR2 hR3 hR4 hR5 hR6
        go_wp2_with fail
        refine (l02False_c _).mono ?_
        rintro e wz ⟨vz, rfl, hoz, hgz⟩
        go_wp2_with fail
        go_ret
        exact ⟨_, rfl, hoz.base ((((((((hOr).trans hO1).trans hO2).trans hO3).trans hO4).trans hO5).trans hO6).setCell _).size, HH.out.spoil.grew hgz, ((((((((hOr).trans hO1).trans hO2).trans hO3).trans hO4).trans hO5).trans hO6).setCell _).grew hgz⟩

theorem l02Prefix_sub (T : TypeId) (hT : 53 ≠ T) (s : ByteArray) (m : Nat) (hs : s.size ≤ 1048576) (hm : s.size < m) : ∀ f, f ≤ m → Sub 151 T s f (Fm.preF s.data.toList m f) := by
  intro f
  induction f with
  | zero => intro _ g st w _ _ h; omega
  | succ f ih =>
    intro hfm g st w hR hat hfu
    have hp := ih (by omega)
    have hok : ∀ st : Fm.St, st.1 ≤ s.data.toList.length → Fm.Ok s.data.toList st (Fm.preF s.data.toList m f st) := fun st h => Fm.preF_ok f st h
    have hand := l02And_c T hT s f m _ hs hm hok hp
    have hor := l02Or_c T hT s f m _ hs hm (fun st h => Fm.andF_ok (m := m) hok st h) hand
    have himp := l02Imply_c T hT s f m _ hs hok hor m
    exact l02Prefix_step T hT s f m hs (fun g st w h1 h2 h3 => himp g st w h1 h2 (by omega) h3) hp g st w hR hat hfu

theorem l02Imply_top (T : TypeId) (hT : 53 ≠ T) (s : ByteArray) (m : Nat) (hs : s.size ≤ 1048576) (hm : s.size < m) (g : Nat) (w : World) (hR : Rdr w g T s (0, false)) :
    Calls Tryz.prog 121 #[.pointer (some ⟨g, 0, none⟩)] w (Reads w g T s (Fm.parse s.data.toList m)) := by
  have hok : ∀ st : Fm.St, st.1 ≤ s.data.toList.length → Fm.Ok s.data.toList st (Fm.preF s.data.toList m m st) := fun st h => Fm.preF_ok m st h
  have hand := l02And_c T hT s m m _ hs hm hok (l02Prefix_sub T hT s m hs hm m (Nat.le_refl _))
  have hor := l02Or_c T hT s m m _ hs hm (fun st h => Fm.andF_ok (m := m) hok st h) hand
  exact l02Imply_c T hT s m m _ hs hok hor m g (0, false) w hR (by simp) (by simpa using hm) (by simpa using hm)
end Go.Proofs.YtjlnompmhgjaaaaGreat


/- The readers of whole texts: ParseFormula of the reference. -/
namespace Go.Proofs.YtjlnompmhgjaaaaGreat
open Go.RowKit
open Fm (Nd)

theorem l02Read_c (s : ByteArray) (w : World) (hs : s.size ≤ 1048576) :
    Calls Tryz.prog 110 #[.string s] w (Gives2 w (Fm.rd s).1 (Fm.rd s).2) := by
  obtain ⟨hr1, hr2⟩ := Fm.read_ok s
  have hxs : Hid ((Fm.read s).1 ≠ []) := Fm.read_ne s
  have HT := Lib.hid (fun g w hR => l02Imply_top 121 (by decide) s Fm.fuel (by omega) (by unfold Fm.fuel; omega) g w hR)
  have hpf : Hid (Fm.rd s = if Fm.whole s = false then ([], ((Fm.read s).2.1 : Int)) else ((Fm.read s).1, -1)) := rfl
  have hwh : Hid (Fm.whole s = (!(Fm.read s).2.2 && decide (s.size ≤ (Fm.read s).2.1))) := rfl
  generalize Fm.rd s = P at *
  generalize Fm.whole s = W at *
  have hrd : Fm.parse s.data.toList Fm.fuel = Fm.read s := rfl
  rw [hrd] at HT
  clear hrd
  generalize Fm.read s = r at *
  obtain ⟨xs, p, b⟩ := r
  simp only at hr1 hr2 hpf hwh
  clear hxs
  have HR0 := Lib.hid (Rdr.new w 121 s)
  by_cases hb : b = true
  · subst hb
    have hP : P = ([], (p : Int)) := by rw [hpf.out, hwh.out]; simp
    subst hP
    clear hpf hwh
    go_enter Tryz.func110, Tryz.ntmps110
    go_wp2_with fail
    refine (HT.out _ _ HR0.out).mono ?_
    rintro e w1 ⟨v1, rfl, ho1, hR1, hO1⟩
    have c1 := hR1.at_
    have c2 := hR1.bad
    have hG := hO1.grew_of ((Grew.refl w).alloc _) (Nat.le_refl _)
    clear hR1 hO1
    go_wp2_with fail
    go_quiet (fail)
    go_wp2_with fail
    go_ret2
    exact ⟨_, rfl, Own.nil_ _ _, hG.drewN _⟩
  have hb' : b = false := by simpa using hb
  subst hb'
  clear hb
  by_cases hlt : p < s.size
  · have hP : P = ([], (p : Int)) := by
      rw [hpf.out, hwh.out]
      simp [hlt]
    subst hP
    clear hpf hwh
    go_enter Tryz.func110, Tryz.ntmps110
    go_wp2_with fail
    refine (HT.out _ _ HR0.out).mono ?_
    rintro e w1 ⟨v1, rfl, ho1, hR1, hO1⟩
    have c1 := hR1.at_
    have c2 := hR1.bad
    have hG := hO1.grew_of ((Grew.refl w).alloc _) (Nat.le_refl _)
    clear hR1 hO1
    go_wp2_with fail
    go_quiet (fail)
    go_wp2_with fail
    go_ret2
    exact ⟨_, rfl, Own.nil_ _ _, hG.drewN _⟩
  · have hP : P = (xs, -1) := by
      rw [hpf.out, hwh.out]
      simp [Nat.le_of_not_lt hlt]
    subst hP
    clear hpf hwh
    go_enter Tryz.func110, Tryz.ntmps110
    go_wp2_with fail
    refine (HT.out _ _ HR0.out).mono ?_
    rintro e w1 ⟨v1, rfl, ho1, hR1, hO1⟩
    have c1 := hR1.at_
    have c2 := hR1.bad
    have hG := hO1.grew_of ((Grew.refl w).alloc _) (Nat.le_refl _)
    obtain ⟨A, ca, rfl⟩ := nodes_slice ho1.nodes
    clear hR1 hO1
    go_wp2_with fail
    go_ret2
    exact ⟨_, rfl, ho1.base (by simp), hG⟩

theorem specParse_c (s : ByteArray) (w : World) (hs : s.size ≤ 140737488355328) :
    Calls Tryz.prog 81 #[.string s] w (Gives3 w (Fm.pf s)) := by
  by_cases hbig : 200 < s.size
  · have hp : Fm.pf s = ([], 0, 3) := by unfold Fm.pf; rw [if_pos hbig]
    rw [hp]
    clear hp
    go_enter Tryz.func81, Tryz.ntmps81
    go_wp2_with fail
    go_ret3
    exact ⟨_, rfl, Own.nil_ _ _, Grew.refl _, fun _ => rfl⟩
  have hL := fun w => l02Read_c s w (by omega)
  have hpf : Hid (Fm.pf s = if Fm.whole s = false then ([], (Fm.read s).2.1, 6) else if 40 < (Fm.read s).1.length then ([], 0, 3) else ((Fm.read s).1, 0, 0)) := by
    unfold Fm.pf Hid; rw [if_neg hbig]
  have hrd : Hid (Fm.rd s = if Fm.whole s = false then ([], ((Fm.read s).2.1 : Int)) else ((Fm.read s).1, -1)) := rfl
  obtain ⟨hr1, hr2⟩ := Fm.read_ok s
  have hxs : Hid ((Fm.read s).1 ≠ []) := Fm.read_ne s
  have HL := Lib.hid hL
  clear hL
  generalize Fm.pf s = P at *
  generalize Fm.rd s = Q at *
  generalize Fm.whole s = W at *
  generalize Fm.read s = r at *
  obtain ⟨xs, p, b⟩ := r
  simp only at hr1 hr2 hpf hrd hxs
  by_cases hW : W = false
  · have hP : P = ([], p, 6) := by rw [hpf.out, if_pos hW]
    have hQ : Q = ([], (p : Int)) := by rw [hrd.out, if_pos hW]
    subst hP hQ
    clear hpf hrd hW
    go_enter Tryz.func81, Tryz.ntmps81
    go_wp2_with fail
    refine (HL.out _).mono ?_
    rintro e w1 ⟨v1, rfl, ho1, hG⟩
    go_wp2_with fail
    go_ret3
    exact ⟨_, rfl, Own.nil_ _ _, hG, fun _ => rfl⟩
  · have hQ : Q = (xs, -1) := by rw [hrd.out, if_neg hW]
    subst hQ
    by_cases h40 : 40 < xs.length
    · have hP : P = ([], 0, 3) := by rw [hpf.out, if_neg hW, if_pos h40]
      subst hP
      clear hpf hrd hW
      go_enter Tryz.func81, Tryz.ntmps81
      go_wp2_with fail
      refine (HL.out _).mono ?_
      rintro e w1 ⟨v1, rfl, ho1, hG⟩
      obtain ⟨A, ca, rfl⟩ := nodes_slice ho1.nodes
      go_wp2_with fail
      go_ret3
      exact ⟨_, rfl, Own.nil_ _ _, hG, fun _ => rfl⟩
    · have hP : P = (xs, 0, 0) := by rw [hpf.out, if_neg hW, if_neg h40]
      subst hP
      clear hpf hrd hW
      go_enter Tryz.func81, Tryz.ntmps81
      go_wp2_with fail
      refine (HL.out _).mono ?_
      rintro e w1 ⟨v1, rfl, ho1, hG⟩
      obtain ⟨A, ca, rfl⟩ := nodes_slice ho1.nodes
      go_wp2_with fail
      go_ret3
      exact ⟨_, rfl, ho1, hG, fun h => absurd h hxs.out⟩
end Go.Proofs.YtjlnompmhgjaaaaGreat


/- Where the part at an index ends; the parts of a formula. -/
namespace Go.Proofs.YtjlnompmhgjaaaaGreat
open Go.RowKit
open Fm (Nd Tree)

theorem partsOf_c (k : Int) (w : World) :
    Calls Tryz.prog 113 #[.int .i64 k] w fun e w' => e = .returned (.int .i64 (Fm.arity k)) ∧ Grew w w' := by
  by_cases h2 : k = 2 ∨ k = 3 ∨ k = 4
  · have ha : Fm.arity k = 2 := by unfold Fm.arity; rw [if_pos h2]
    rw [ha]
    rcases h2 with rfl | rfl | rfl
    all_goals
      go_enter Tryz.func113, Tryz.ntmps113
      go_wp2_with fail
      go_ret
      exact ⟨rfl, Grew.refl _⟩
  by_cases h1 : k = 5 ∨ k = 6
  · have ha : Fm.arity k = 1 := by unfold Fm.arity; rw [if_neg h2, if_pos h1]
    rw [ha]
    rcases h1 with rfl | rfl
    all_goals
      go_enter Tryz.func113, Tryz.ntmps113
      go_wp2_with fail
      go_ret
      exact ⟨rfl, Grew.refl _⟩
  · have ha : Fm.arity k = 0 := by unfold Fm.arity; rw [if_neg h2, if_neg h1]
    rw [ha]
    have n2 : (k == 2) = false := by simp; omega
    have n3 : (k == 3) = false := by simp; omega
    have n4 : (k == 4) = false := by simp; omega
    have n5 : (k == 5) = false := by simp; omega
    have n6 : (k == 6) = false := by simp; omega
    clear h1 h2 ha
    go_enter Tryz.func113, Tryz.ntmps113
    go_wp2_with fail
    go_ret
    exact ⟨rfl, Grew.refl _⟩

def pval (j : Nat) : Option Nat → Int
  | some n => (j : Int) + n
  | none => -1
theorem pval_succ (j : Nat) (o : Option Nat) : pval j (o.map (· + 1)) = pval (j + 1) o := by
  cases o with
  | none => rfl
  | some n => show (j : Int) + ((n + 1 : Nat) : Int) = ((j + 1 : Nat) : Int) + n; omega
def pend (xs : List Nd) (i : Nat) : Int := pval i (Fm.scan (xs.drop i) 1)

theorem scan_step {xs : List Nd} {j o : Nat} (hj : j < xs.length) : Fm.scan (xs.drop j) (o + 1) = (Fm.scan (xs.drop (j + 1)) (o + Fm.arity (kd xs j))).map (· + 1) := by
  rw [List.drop_eq_getElem_cons hj, Fm.scan_cons, kd_lt hj]

theorem partEnd_c (v : Value) (xs : List Nd) (i : Nat) (w : World) (h : Nodes w v xs) (hn : xs.length ≤ 1099511627776) (hi : i ≤ 1099511627776) :
    Calls Tryz.prog 87 #[v, .int .i64 i] w fun e w' => e = .returned (.int .i64 (pend xs i)) ∧ Grew w w' := by
  rcases h.open_ with ⟨rfl, rfl⟩ | ⟨b, o, c, rfl, hc, hm, hb, hf⟩
  · have hp : pend [] i = -1 := by simp [pend, Fm.scan_nil, pval]
    rw [hp]
    clear hp
    go_enter Tryz.func87, Tryz.ntmps87
    go_wp2_with fail
    refine wp_loop_rounds 1 ?_; rw [rounds_succ]
    go_wp2_with fail
    go_ret
    exact ⟨rfl, Grew.refl _⟩
  · clear h
    obtain ⟨P, hP⟩ : ∃ P, P = pend xs i := ⟨_, rfl⟩
    rw [← hP]
    -- the rest of the scan decides the result
    have hstart : Hid (P = pval i (Fm.scan (xs.drop i) 1)) := hP
    have hstep := fun j o hj => @scan_step xs j o hj
    have HS := Lib.hid hstep
    have HL : Hid (∀ j, xs.length ≤ j → xs.drop j = []) := Lib.hid fun j hj => List.drop_eq_nil_of_le hj
    clear hP hstep
    have HF := Lib.hid hf
    clear hf
    generalize hN : xs.length = n at *
    clear hN
    go_enter Tryz.func87, Tryz.ntmps87
    go_wp2_with fail
    go_loopg [1, 5] (n + 1 - i) (fun k x y wr => ∃ j op : Nat, x = .int .i64 j ∧ y = .int .i64 op ∧ Grew w wr ∧ i ≤ j ∧ op ≤ j - i + 1 ∧ k = n + 1 - j ∧ j ≤ i + n ∧ Hid (P = pval j (Fm.scan (xs.drop j) op)))
    case atStart => exact ⟨i, 1, rfl, rfl, Grew.refl _, Nat.le_refl _, by omega, rfl, by omega, hstart⟩
    case round =>
      obtain ⟨j, op, rfl, rfl, hB, hij, hop, rfl, hjn, HP⟩ := hrel
      by_cases hz : op = 0
      · subst hz
        have hv : Hid (P = (j : Int)) := Lib.hid (by rw [HP.out, Fm.scan_zero]; simp [pval])
        clear HP
        go_wp2_with fail
        go_ret
        rw [hv.out]
        exact ⟨rfl, hB⟩
      · obtain ⟨q, rfl⟩ : ∃ q, op = q + 1 := ⟨op - 1, by omega⟩
        by_cases hlt : j < n
        · have k1 : ∀ W, Grew w W → W.cell? ⟨b, o + j * 2, none⟩ = some (.int .i64 (kd xs j)) := fun W hW => (HF.out j hlt W hW).1
          have hv : Hid (P = pval (j + 1) (Fm.scan (xs.drop (j + 1)) (q + Fm.arity (kd xs j)))) := Lib.hid (by rw [HP.out, HS.out j q hlt, pval_succ])
          have har := Fm.arity_le (kd xs j)
          clear HP hz
          go_wp2_with fail
          refine (partsOf_c _ _).mono ?_
          rintro e w1 ⟨rfl, hg1⟩
          generalize Fm.arity (kd xs j) = ar at *
          go_wp2_with fail
          go_roundg (n + 1 - (j + 1))
          case measure => omega
          case rel => exact ⟨j + 1, q + ar, by go_num, by go_num, hB.trans hg1, by omega, by omega, rfl, by omega, hv⟩
        · have hv : Hid (P = -1) := Lib.hid (by rw [HP.out, HL.out j (by omega), Fm.scan_nil]; rfl)
          clear HP
          go_wp2_with fail
          go_ret
          rw [hv.out]
          exact ⟨rfl, hB⟩
theorem l02Parts_c (k : Int) (w : World) :
    Calls Tryz.prog 134 #[.int .i64 k] w fun e w' => e = .returned (.int .i64 (Fm.arity k)) ∧ Grew w w' := by
  by_cases h2 : k = 2 ∨ k = 3 ∨ k = 4
  · have ha : Fm.arity k = 2 := by unfold Fm.arity; rw [if_pos h2]
    rw [ha]
    rcases h2 with rfl | rfl | rfl
    all_goals
      go_enter Tryz.func134, Tryz.ntmps134
      go_wp2_with fail
      go_ret
      exact ⟨rfl, Grew.refl _⟩
  by_cases h1 : k = 5 ∨ k = 6
  · have ha : Fm.arity k = 1 := by unfold Fm.arity; rw [if_neg h2, if_pos h1]
    rw [ha]
    rcases h1 with rfl | rfl
    all_goals
      go_enter Tryz.func134, Tryz.ntmps134
      go_wp2_with fail
      go_ret
      exact ⟨rfl, Grew.refl _⟩
  · have ha : Fm.arity k = 0 := by unfold Fm.arity; rw [if_neg h2, if_neg h1]
    rw [ha]
    have n2 : (k == 2) = false := by simp; omega
    have n3 : (k == 3) = false := by simp; omega
    have n4 : (k == 4) = false := by simp; omega
    have n5 : (k == 5) = false := by simp; omega
    have n6 : (k == 6) = false := by simp; omega
    clear h1 h2 ha
    go_enter Tryz.func134, Tryz.ntmps134
    go_wp2_with fail
    go_ret
    exact ⟨rfl, Grew.refl _⟩

theorem l02Part_c (v : Value) (xs : List Nd) (i : Nat) (w : World) (h : Nodes w v xs) (hn : xs.length ≤ 1099511627776) (hi : i ≤ 1099511627776) :
    Calls Tryz.prog 120 #[v, .int .i64 i] w fun e w' => e = .returned (.int .i64 (pend xs i)) ∧ Grew w w' := by
  rcases h.open_ with ⟨rfl, rfl⟩ | ⟨b, o, c, rfl, hc, hm, hb, hf⟩
  · have hp : pend [] i = -1 := by simp [pend, Fm.scan_nil, pval]
    rw [hp]
    clear hp
    go_enter Tryz.func120, Tryz.ntmps120
    go_wp2_with fail
    refine wp_loop_rounds 1 ?_; rw [rounds_succ]
    go_wp2_with fail
    go_ret
    exact ⟨rfl, Grew.refl _⟩
  · clear h
    obtain ⟨P, hP⟩ : ∃ P, P = pend xs i := ⟨_, rfl⟩
    rw [← hP]
    -- the rest of the scan decides the result
    have hstart : Hid (P = pval i (Fm.scan (xs.drop i) 1)) := hP
    have hstep := fun j o hj => @scan_step xs j o hj
    have HS := Lib.hid hstep
    have HL : Hid (∀ j, xs.length ≤ j → xs.drop j = []) := Lib.hid fun j hj => List.drop_eq_nil_of_le hj
    clear hP hstep
    have HF := Lib.hid hf
    clear hf
    generalize hN : xs.length = n at *
    clear hN
    go_enter Tryz.func120, Tryz.ntmps120
    go_wp2_with fail
    go_loopg [1, 5] (n + 1 - i) (fun k x y wr => ∃ j op : Nat, x = .int .i64 j ∧ y = .int .i64 op ∧ Grew w wr ∧ i ≤ j ∧ op ≤ j - i + 1 ∧ k = n + 1 - j ∧ j ≤ i + n ∧ Hid (P = pval j (Fm.scan (xs.drop j) op)))
    case atStart => exact ⟨i, 1, rfl, rfl, Grew.refl _, Nat.le_refl _, by omega, rfl, by omega, hstart⟩
    case round =>
      obtain ⟨j, op, rfl, rfl, hB, hij, hop, rfl, hjn, HP⟩ := hrel
      by_cases hz : op = 0
      · subst hz
        have hv : Hid (P = (j : Int)) := Lib.hid (by rw [HP.out, Fm.scan_zero]; simp [pval])
        clear HP
        go_wp2_with fail
        go_ret
        rw [hv.out]
        exact ⟨rfl, hB⟩
      · obtain ⟨q, rfl⟩ : ∃ q, op = q + 1 := ⟨op - 1, by omega⟩
        by_cases hlt : j < n
        · have k1 : ∀ W, Grew w W → W.cell? ⟨b, o + j * 2, none⟩ = some (.int .i64 (kd xs j)) := fun W hW => (HF.out j hlt W hW).1
          have hv : Hid (P = pval (j + 1) (Fm.scan (xs.drop (j + 1)) (q + Fm.arity (kd xs j)))) := Lib.hid (by rw [HP.out, HS.out j q hlt, pval_succ])
          have har := Fm.arity_le (kd xs j)
          clear HP hz
          go_wp2_with fail
          refine (l02Parts_c _ _).mono ?_
          rintro e w1 ⟨rfl, hg1⟩
          generalize Fm.arity (kd xs j) = ar at *
          go_wp2_with fail
          go_roundg (n + 1 - (j + 1))
          case measure => omega
          case rel => exact ⟨j + 1, q + ar, by go_num, by go_num, hB.trans hg1, by omega, by omega, rfl, by omega, hv⟩
        · have hv : Hid (P = -1) := Lib.hid (by rw [HP.out, HL.out j (by omega), Fm.scan_nil]; rfl)
          clear HP
          go_wp2_with fail
          go_ret
          rw [hv.out]
          exact ⟨rfl, hB⟩

theorem cells_drop (xs : List Nd) : ∀ i, cells (xs.drop i) = (cells xs).drop (i * 2) := by
  induction xs with
  | nil => intro i; simp [cells]
  | cons x xs ih =>
    intro i
    cases i with
    | zero => simp
    | succ i =>
      rw [List.drop_succ_cons, ih, cells_cons, show (i + 1) * 2 = i * 2 + 1 + 1 by omega]
      rfl
theorem cells_take (xs : List Nd) : ∀ i, cells (xs.take i) = (cells xs).take (i * 2) := by
  induction xs with
  | nil => intro i; simp [cells]
  | cons x xs ih =>
    intro i
    cases i with
    | zero => simp [cells]
    | succ i =>
      rw [List.take_succ_cons, cells_cons, ih, cells_cons, show (i + 1) * 2 = i * 2 + 1 + 1 by omega]
      rfl
theorem Nodes.sub {w : World} {b o n c : Nat} {xs : List Nd} (h : Nodes w (.slice (some ⟨b, o, none⟩) n c) xs) (i m c' : Nat) (him : i + m ≤ xs.length) (hc : m ≤ c') (hc' : c' ≤ 9223372036854775807) :
    Nodes w (.slice (some ⟨b, o + i * 2, none⟩) m c') ((xs.drop i).take m) := by
  obtain ⟨h1, h2, h3⟩ := h
  have hl : ((xs.drop i).take m).length = m := by simp; omega
  refine ⟨cells_length _, by omega, .inr ?_⟩
  rcases h3 with ⟨h4, _⟩ | ⟨b', o', c0, h4, h5, h6, h7, h8⟩
  · cases h4
  · simp only [Value.slice.injEq, Option.some.injEq, Addr.mk.injEq, and_true] at h4
    obtain ⟨⟨rfl, rfl⟩, rfl, rfl⟩ := h4
    refine ⟨b, o + i * 2, c', by rw [hl], by omega, hc', h7, fun j u hu => ?_⟩
    rw [cells_take, List.getElem?_take] at hu
    split at hu
    · rw [cells_drop, List.getElem?_drop] at hu
      have := h8 _ _ hu
      rw [show o + i * 2 + j = o + (i * 2 + j) by omega]
      exact this
    · cases hu

def At (xs : List Nd) (i : Nat) (t : Tree) : Prop := ∃ rest, xs.drop i = Fm.enc t ++ rest
theorem At.pend {xs : List Nd} {i : Nat} {t : Tree} (h : At xs i t) : pend xs i = (i : Int) + (Fm.enc t).length := by
  obtain ⟨rest, h⟩ := h
  rw [Go.Proofs.YtjlnompmhgjaaaaGreat.pend, h, Fm.scan_one]; rfl
theorem At.take {xs : List Nd} {i : Nat} {t : Tree} (h : At xs i t) : (xs.drop i).take (Fm.enc t).length = Fm.enc t := by
  obtain ⟨rest, h⟩ := h
  rw [h, List.take_left']; rfl
theorem At.le {xs : List Nd} {i : Nat} {t : Tree} (h : At xs i t) : i + (Fm.enc t).length ≤ xs.length := by
  obtain ⟨rest, h⟩ := h
  have h1 := congrArg List.length h
  have h2 := Fm.enc_pos t
  simp only [List.length_drop, List.length_append] at h1
  omega

def Cuts (w : World) (xs : List Nd) (e : Ending) (w' : World) : Prop := ∃ v, e = .returned v ∧ Nodes w' v xs ∧ Grew w w'

theorem partEnd_at (v : Value) (xs : List Nd) (i : Nat) (t : Tree) (w : World) (h : Nodes w v xs) (hn : xs.length ≤ 1099511627776) (ht : At xs i t) :
    Calls Tryz.prog 87 #[v, .int .i64 i] w fun e w' => e = .returned (.int .i64 ((i : Int) + (Fm.enc t).length)) ∧ Grew w w' := by
  have := partEnd_c v xs i w h hn (by have := ht.le; omega)
  rw [ht.pend] at this
  exact this
theorem l02Part_at (v : Value) (xs : List Nd) (i : Nat) (t : Tree) (w : World) (h : Nodes w v xs) (hn : xs.length ≤ 1099511627776) (ht : At xs i t) :
    Calls Tryz.prog 120 #[v, .int .i64 i] w fun e w' => e = .returned (.int .i64 ((i : Int) + (Fm.enc t).length)) ∧ Grew w w' := by
  have := l02Part_c v xs i w h hn (by have := ht.le; omega)
  rw [ht.pend] at this
  exact this

theorem part_c (v : Value) (xs : List Nd) (i : Nat) (t : Tree) (w : World) (h : Nodes w v xs) (hn : xs.length ≤ 1099511627776) (ht : At xs i t) :
    Calls Tryz.prog 150 #[v, .int .i64 i] w (Cuts w (Fm.enc t)) := by
  have hle := ht.le
  have hpos := Fm.enc_pos t
  rcases h.open_ with ⟨rfl, rfl⟩ | ⟨b, o, c, rfl, hc, hm, hb, hf⟩
  · simp only [List.length_nil] at hle; omega
  · have hsub := h.sub i (Fm.enc t).length (Fm.enc t).length hle (Nat.le_refl _) (by omega)
    rw [ht.take] at hsub
    have HH := Lib.hid h
    have HS := Lib.hid hsub
    have HT := Lib.hid ht
    clear h hf hsub ht
    go_enter Tryz.func150, Tryz.ntmps150
    go_wp2_with fail
    refine (partEnd_at _ xs i t _ HH.out hn HT.out).mono ?_
    rintro e w1 ⟨rfl, hg1⟩
    go_wp2_with fail
    refine (partEnd_at _ xs i t _ (HH.out.grew hg1) hn HT.out).mono ?_
    rintro e w2 ⟨rfl, hg2⟩
    go_wp2_with fail
    go_ret
    refine ⟨_, rfl, ?_, hg1.trans hg2⟩
    rw [Nat.add_sub_cancel_left]
    exact HS.out.grew (hg1.trans hg2)

def kindOf : Tree → Int
  | .var _ => 0
  | .fls => 1
  | .and _ _ => 2
  | .or _ _ => 3
  | .imp _ _ => 4
  | .box _ => 5
  | .dia _ => 6

theorem kd_enc (t : Tree) : kd (Fm.enc t) 0 = kindOf t := by cases t <;> rfl
theorem isF_kind (t : Tree) : Fm.isF t = (kindOf t == 1) := by cases t <;> rfl

def isNeg : Tree → Bool
  | .imp _ b => Fm.isF b
  | _ => false

theorem at_first {xs : List Nd} {k : Nd} {a : Tree} {rest : List Nd} (h : xs = k :: (Fm.enc a ++ rest)) : At xs 1 a := ⟨rest, by rw [h]; rfl⟩
theorem at_second {xs : List Nd} {k : Nd} {a b : Tree} (h : xs = k :: (Fm.enc a ++ Fm.enc b)) : At xs (1 + (Fm.enc a).length) b :=
  ⟨[], by rw [h, Nat.add_comm, List.drop_succ_cons, List.drop_left', List.append_nil]; rfl⟩

def Says (w : World) (s : List UInt8) (e : Ending) (w' : World) : Prop := e = .returned (.string (bs s)) ∧ Grew w w'

theorem nodes_head {w : World} {v : Value} {t : Tree} (h : Nodes w v (Fm.enc t)) : ∃ b o c, v = .slice (some ⟨b, o, none⟩) (Fm.enc t).length c ∧ (Fm.enc t).length ≤ c ∧ c ≤ 9223372036854775807 ∧ ∀ W, Grew w W → W.cell? ⟨b, o, none⟩ = some (.int .i64 (kindOf t)) := by
  have hpos := Fm.enc_pos t
  rcases h.open_ with ⟨rfl, h0⟩ | ⟨b, o, c, rfl, hc, hm, hb, hf⟩
  · rw [h0] at hpos; simp at hpos
  · refine ⟨b, o, c, rfl, hc, hm, fun W hW => ?_⟩
    have := (hf 0 (by omega) W hW).1
    rw [kd_enc] at this
    simpa using this

theorem letter_cut {q : Nat} (h : q < 6) : ByteArray.extract ⟨#[112, 113, 114, 115, 116, 117]⟩ q (q + 1) = bs [UInt8.ofNat (112 + q)] := by
  have h6 : q = 0 ∨ q = 1 ∨ q = 2 ∨ q = 3 ∨ q = 4 ∨ q = 5 := by omega
  rcases h6 with rfl | rfl | rfl | rfl | rfl | rfl <;> decide
end Go.Proofs.YtjlnompmhgjaaaaGreat


/- Two lists of nodes that agree as far as k. -/
namespace Go.Proofs.YtjlnompmhgjaaaaGreat
open Go.RowKit
open Fm (Nd)

def Agree (xs ys : List Nd) (k : Nat) : Prop := ∀ i, i < k → kd xs i = kd ys i ∧ sy xs i = sy ys i
theorem Agree.zero (xs ys : List Nd) : Agree xs ys 0 := fun i hi => absurd hi (by omega)
theorem Agree.succ {xs ys : List Nd} {k : Nat} (h : Agree xs ys k) (h1 : kd xs k = kd ys k) (h2 : sy xs k = sy ys k) : Agree xs ys (k + 1) := by
  intro i hi
  rcases Nat.lt_or_ge i k with hk | hk
  · exact h i hk
  · obtain rfl : i = k := by omega
    exact ⟨h1, h2⟩
end Go.Proofs.YtjlnompmhgjaaaaGreat


/- The reference's l02Equal on lists of nodes. -/
namespace Go.Proofs.YtjlnompmhgjaaaaGreat
open Go.RowKit
open Fm (Nd)

theorem agree_all {xs ys : List Nd} (hl : xs.length = ys.length) (h : Agree xs ys xs.length) : xs = ys := nd_ext hl h

theorem l02Equal_c (v1 v2 : Value) (xs ys : List Nd) (w : World) (h1 : Nodes w v1 xs) (h2 : Nodes w v2 ys) (hn : xs.length ≤ 1099511627776) :
    Calls Tryz.prog 109 #[v1, v2] w fun e w' => e = .returned (.bool (decide (xs = ys))) ∧ Grew w w' := by
  by_cases hl : xs.length = ys.length
  · rcases h1.open_ with ⟨rfl, rfl⟩ | ⟨b1, o1, c1, rfl, hc1, hm1, hb1, hf⟩
    · obtain rfl : ys = [] := List.eq_nil_of_length_eq_zero (by simpa using hl.symm)
      obtain ⟨A, c, rfl⟩ := nodes_slice h2
      simp only [List.length_nil]
      clear hl
      go_enter Tryz.func109, Tryz.ntmps109
      go_wp2_with fail
      refine wp_loop_rounds 1 ?_; rw [rounds_succ]
      go_wp2_with fail
      go_ret
      exact ⟨by simp, Grew.refl _⟩
    · rcases h2.open_ with ⟨rfl, rfl⟩ | ⟨b2, o2, c2, rfl, hc2, hm2, hb2, hh⟩
      · obtain rfl : xs = [] := List.eq_nil_of_length_eq_zero (by simpa using hl)
        simp only [List.length_nil]
        clear hl
        go_enter Tryz.func109, Tryz.ntmps109
        go_wp2_with fail
        refine wp_loop_rounds 1 ?_; rw [rounds_succ]
        go_wp2_with fail
        go_ret
        exact ⟨by simp, Grew.refl _⟩
      · clear h1 h2
        have HE := Lib.hid (fun h => agree_all hl h)
        rw [← hl] at hc2 hh ⊢
        have HF := Lib.hid hf
        have HH := Lib.hid hh
        have HX := Lib.hid (fun (h : xs = ys) (i : Nat) => (⟨by rw [h], by rw [h]⟩ : kd xs i = kd ys i ∧ sy xs i = sy ys i))
        obtain ⟨D, hD⟩ : ∃ D, D = decide (xs = ys) := ⟨_, rfl⟩
        rw [← hD]
        have HD := Lib.hid hD
        clear hl hf hh hD
        generalize hN : xs.length = n at *
        clear hN
        go_enter Tryz.func109, Tryz.ntmps109
        go_wp2_with fail
        go_loopg [5] n (fun k i wr => ∃ j : Nat, j ≤ n ∧ k = n - j ∧ i = .int .i64 j ∧ Grew w wr ∧ Hid (Agree xs ys j))
        case atStart => exact ⟨0, Nat.zero_le _, by omega, rfl, Grew.refl _, Agree.zero _ _⟩
        case round =>
          obtain ⟨j, hj, rfl, rfl, hB, HA⟩ := hrel
          by_cases hlt : j < n
          · have k1 : ∀ W, Grew w W → W.cell? ⟨b1, o1 + j * 2, none⟩ = some (.int .i64 (kd xs j)) := fun W hW => (HF.out j hlt W hW).1
            have k2 : ∀ W, Grew w W → W.cell? ⟨b1, o1 + j * 2 + 1, none⟩ = some (.int .i64 (sy xs j)) := fun W hW => (HF.out j hlt W hW).2
            have k3 : ∀ W, Grew w W → W.cell? ⟨b2, o2 + j * 2, none⟩ = some (.int .i64 (kd ys j)) := fun W hW => (HH.out j hlt W hW).1
            have k4 : ∀ W, Grew w W → W.cell? ⟨b2, o2 + j * 2 + 1, none⟩ = some (.int .i64 (sy ys j)) := fun W hW => (HH.out j hlt W hW).2
            have hgd := Tryz.ndGuard
            by_cases he : kd xs j = kd ys j ∧ sy xs j = sy ys j
            · have hq : ∀ W, (binOp .neq 53 (.agg #[.int .i64 (kd xs j), .int .i64 (sy xs j)]) (.agg #[.int .i64 (kd ys j), .int .i64 (sy ys j)])).run Tryz.prog W = .ok (.bool false) W := fun W => by
                rw [Tryz.ndNeq, he.1, he.2]; simp
              have HB := Lib.hid (HA.out.succ he.1 he.2)
              clear he HA
              go_wp2_with fail
              go_quiet (fail)
              go_wp2_with fail
              go_roundg (n - (j + 1))
              case measure => omega
              case rel => exact ⟨j + 1, by omega, rfl, by go_num, hB.drewN _, HB⟩
            · have hq : ∀ W, (binOp .neq 53 (.agg #[.int .i64 (kd xs j), .int .i64 (sy xs j)]) (.agg #[.int .i64 (kd ys j), .int .i64 (sy ys j)])).run Tryz.prog W = .ok (.bool true) W := fun W => by
                have hz : (kd xs j == kd ys j && sy xs j == sy ys j) = false := by
                  cases hz : (kd xs j == kd ys j && sy xs j == sy ys j) with
                  | false => rfl
                  | true => simp at hz; exact absurd hz he
                rw [Tryz.ndNeq, hz]
                simp
              have hv : Hid (D = false) := Lib.hid (by rw [HD.out]; exact decide_eq_false fun h => he (HX.out h j))
              clear he HA
              go_wp2_with fail
              go_quiet (fail)
              go_wp2_with fail
              go_ret
              rw [hv.out]
              exact ⟨rfl, hB.drewN _⟩
          · have hjn : j = n := by omega
            subst hjn
            have hv : Hid (D = true) := Lib.hid (by rw [HD.out]; exact decide_eq_true (HE.out HA.out))
            go_wp2_with fail
            go_ret
            rw [hv.out]
            exact ⟨rfl, hB⟩
  · have hne : xs ≠ ys := fun h => hl (by rw [h])
    rw [decide_eq_false hne]
    obtain ⟨A, c, rfl⟩ := nodes_slice h1
    obtain ⟨B, d, rfl⟩ := nodes_slice h2
    have hl' : (((xs.length : Nat) : Int) != ((ys.length : Nat) : Int)) = true := by simp; omega
    clear hl h1 h2 hne
    go_enter Tryz.func109, Tryz.ntmps109
    go_wp2_with fail
    go_ret
    exact ⟨rfl, Grew.refl _⟩
end Go.Proofs.YtjlnompmhgjaaaaGreat


/- The text of a formula: the reference's l02Write. -/
namespace Go.Proofs.YtjlnompmhgjaaaaGreat
open Go.RowKit
open Fm (Nd Tree)

theorem l02Left_c (v : Value) (xs : List Nd) (a : Tree) (w : World) (h : Nodes w v xs) (hn : xs.length ≤ 1099511627776) (ha : At xs 1 a) :
    Calls Tryz.prog 107 #[v] w (Cuts w (Fm.enc a)) := by
  have hle := ha.le
  have hpos := Fm.enc_pos a
  rcases h.open_ with ⟨rfl, rfl⟩ | ⟨b, o, c, rfl, hc, hm, hb, hf⟩
  · simp only [List.length_nil] at hle; omega
  · have hsub := h.sub 1 (Fm.enc a).length (c - 1) hle (by omega) (by omega)
    rw [ha.take] at hsub
    have HH := Lib.hid h
    have HS := Lib.hid hsub
    have HT := Lib.hid ha
    clear h hf hsub ha
    go_enter Tryz.func107, Tryz.ntmps107
    go_wp2_with fail
    refine (l02Part_at _ xs 1 a _ HH.out hn HT.out).mono ?_
    rintro e w1 ⟨rfl, hg1⟩
    go_wp2_with fail
    go_ret
    refine ⟨_, rfl, ?_, hg1⟩
    rw [Nat.add_sub_cancel_left]
    exact HS.out.grew hg1

theorem l02Right_c (v : Value) (xs : List Nd) (a t : Tree) (w : World) (h : Nodes w v xs) (hn : xs.length ≤ 1099511627776) (ha : At xs 1 a) (ht : At xs (1 + (Fm.enc a).length) t) (hl : xs.length = 1 + (Fm.enc a).length + (Fm.enc t).length) :
    Calls Tryz.prog 108 #[v] w (Cuts w (Fm.enc t)) := by
  have hle := ha.le
  have hpos := Fm.enc_pos t
  rcases h.open_ with ⟨rfl, rfl⟩ | ⟨b, o, c, rfl, hc, hm, hb, hf⟩
  · simp only [List.length_nil] at hle; omega
  · have hsub := h.sub (1 + (Fm.enc a).length) (Fm.enc t).length (c - (1 + (Fm.enc a).length)) (by omega) (by omega) (by omega)
    rw [ht.take] at hsub
    have HH := Lib.hid h
    have HS := Lib.hid hsub
    have HA := Lib.hid ha
    have hk : (Fm.enc t).length = xs.length - (1 + (Fm.enc a).length) := by omega
    rw [hk] at HS
    have hlt : 1 + (Fm.enc a).length < xs.length := by omega
    clear h hf hsub ha ht hl hk hpos
    go_enter Tryz.func108, Tryz.ntmps108
    go_wp2_with fail
    refine (l02Part_at _ xs 1 a _ HH.out hn HA.out).mono ?_
    rintro e w1 ⟨rfl, hg1⟩
    go_wp2_with fail
    go_ret
    exact ⟨_, rfl, HS.out.grew hg1, hg1⟩

def WriteOk (t : Tree) : Prop := ∀ (l : Nat) (v : Value) (w : World), l ≤ 3 → Nodes w v (Fm.enc t) → (Fm.enc t).length ≤ 1048576 →
  Calls Tryz.prog 80 #[v, .int .i64 l] w (Says w (Fm.txt t l))

theorem enc_fls {t : Tree} (h : Fm.enc t = [(1, 0)]) : t = .fls := by
  cases t <;> simp_all [Fm.enc]
theorem enc_truth {x y : Tree} (h : Fm.enc (.imp x y) = Fm.truth) : x = .fls ∧ y = .fls := by
  have hx := Fm.enc_pos x
  have hy := Fm.enc_pos y
  have h1 : Fm.enc x ++ Fm.enc y = [(1, 0), (1, 0)] := by
    have : (4, 0) :: (Fm.enc x ++ Fm.enc y) = ((4, 0) : Nd) :: [(1, 0), (1, 0)] := h
    injection this
  have hl := congrArg List.length h1
  simp only [List.length_append, List.length_cons, List.length_nil] at hl
  have h2 : Fm.enc x = [(1, 0)] := by
    have := congrArg (List.take 1) h1
    rw [List.take_append_of_le_length hx, List.take_of_length_le (by omega)] at this
    exact this
  have h3 : Fm.enc y = [(1, 0)] := by
    rw [h2] at h1
    simpa using h1
  exact ⟨enc_fls h2, enc_fls h3⟩

theorem write_and_n (x y : Tree) (hx : WriteOk x) (hy : WriteOk y) (l : Nat) (v : Value) (w : World) (hl : l ≤ 2) (h : Nodes w v (Fm.enc (.and x y))) (hn : (Fm.enc (.and x y)).length ≤ 1048576) :
    Calls Tryz.prog 80 #[v, .int .i64 l] w (Says w (Fm.txt (.and x y) l)) := by
  have hE : Fm.txt (.and x y) l = Fm.txt x 2 ++ [38] ++ Fm.txt y 3 := by
    rw [Fm.txt, Fm.wrap, if_neg (by omega)]
  rw [hE]
  obtain ⟨b, o, c, rfl, hc, hm, k1⟩ := nodes_head h
  have hpos := Fm.enc_pos (.and x y)
  have HH := Lib.hid h
  have hg0 := Grew.refl w
  rw [show kindOf (.and x y) = 2 from rfl] at k1
  have HA := Lib.hid (at_first (xs := Fm.enc (.and x y)) (k := (2, 0)) (a := x) (rest := Fm.enc y) rfl)
  have HB := Lib.hid (at_second (xs := Fm.enc (.and x y)) (k := (2, 0)) (a := x) (b := y) rfl)
  have hlen : (Fm.enc (.and x y)).length = 1 + (Fm.enc x).length + (Fm.enc y).length := by simp [Fm.enc]; omega
  have HN := Lib.hid hlen
  have h1 := Fm.txt_len x 2
  have h2 := Fm.txt_len y 3
  have HX := Lib.hid hx
  have HY := Lib.hid hy
  have hn1 : (Fm.enc x).length ≤ 1048576 := by omega
  have hn2 : (Fm.enc y).length ≤ 1048576 := by omega
  have hpy := Fm.enc_pos y
  clear hE h hx hy hlen
  generalize Fm.enc (.and x y) = T at *
  have s1 := bs_size (Fm.txt x 2)
  have s2 := bs_size (Fm.txt y 3)
  have z1 : (bs (Fm.txt x 2)).size ≤ 4194304 := by omega
  have z2 : (bs (Fm.txt y 3)).size ≤ 4194304 := by omega
  have HE : Hid (bs (Fm.txt x 2) ++ bs [38] ++ bs (Fm.txt y 3) = bs (Fm.txt x 2 ++ [38] ++ Fm.txt y 3)) := by unfold Hid; simp only [bs_append]
  clear s1 s2 h1 h2
  generalize Fm.txt x 2 ++ [38] ++ Fm.txt y 3 = Z at *
  go_enter Tryz.func80, Tryz.ntmps80
  go_wp2_with fail
  refine (l02Left_c _ T x _ (HH.out.grew (Grew.refl w)) (by omega) HA.out).mono ?_
  rintro e w2 ⟨v2, rfl, hN2, hg2⟩
  go_wp2_with fail
  refine (HX.out 2 _ _ (by omega) hN2 hn1).mono ?_
  rintro e w3 ⟨rfl, hg3⟩
  go_wp2_with fail
  refine (l02Right_c _ T x y _ (HH.out.grew (((Grew.refl w).trans hg2).trans hg3)) (by omega) HA.out HB.out HN.out).mono ?_
  rintro e w4 ⟨v4, rfl, hN4, hg4⟩
  go_wp2_with fail
  refine (HY.out 3 _ _ (by omega) hN4 hn2).mono ?_
  rintro e w5 ⟨rfl, hg5⟩
  go_wp2_with fail
  go_ret
  exact ⟨congrArg (fun z => Ending.returned (.string z)) HE.out, ((((Grew.refl w).trans hg2).trans hg3).trans hg4).trans hg5⟩

theorem write_or_n (x y : Tree) (hx : WriteOk x) (hy : WriteOk y) (l : Nat) (v : Value) (w : World) (hl : l ≤ 1) (h : Nodes w v (Fm.enc (.or x y))) (hn : (Fm.enc (.or x y)).length ≤ 1048576) :
    Calls Tryz.prog 80 #[v, .int .i64 l] w (Says w (Fm.txt (.or x y) l)) := by
  have hE : Fm.txt (.or x y) l = Fm.txt x 1 ++ [124] ++ Fm.txt y 2 := by
    rw [Fm.txt, Fm.wrap, if_neg (by omega)]
  rw [hE]
  obtain ⟨b, o, c, rfl, hc, hm, k1⟩ := nodes_head h
  have hpos := Fm.enc_pos (.or x y)
  have HH := Lib.hid h
  have hg0 := Grew.refl w
  rw [show kindOf (.or x y) = 3 from rfl] at k1
  have HA := Lib.hid (at_first (xs := Fm.enc (.or x y)) (k := (3, 0)) (a := x) (rest := Fm.enc y) rfl)
  have HB := Lib.hid (at_second (xs := Fm.enc (.or x y)) (k := (3, 0)) (a := x) (b := y) rfl)
  have hlen : (Fm.enc (.or x y)).length = 1 + (Fm.enc x).length + (Fm.enc y).length := by simp [Fm.enc]; omega
  have HN := Lib.hid hlen
  have h1 := Fm.txt_len x 1
  have h2 := Fm.txt_len y 2
  have HX := Lib.hid hx
  have HY := Lib.hid hy
  have hn1 : (Fm.enc x).length ≤ 1048576 := by omega
  have hn2 : (Fm.enc y).length ≤ 1048576 := by omega
  have hpy := Fm.enc_pos y
  clear hE h hx hy hlen
  generalize Fm.enc (.or x y) = T at *
  have s1 := bs_size (Fm.txt x 1)
  have s2 := bs_size (Fm.txt y 2)
  have z1 : (bs (Fm.txt x 1)).size ≤ 4194304 := by omega
  have z2 : (bs (Fm.txt y 2)).size ≤ 4194304 := by omega
  have HE : Hid (bs (Fm.txt x 1) ++ bs [124] ++ bs (Fm.txt y 2) = bs (Fm.txt x 1 ++ [124] ++ Fm.txt y 2)) := by unfold Hid; simp only [bs_append]
  clear s1 s2 h1 h2
  generalize Fm.txt x 1 ++ [124] ++ Fm.txt y 2 = Z at *
  go_enter Tryz.func80, Tryz.ntmps80
  go_wp2_with fail
  refine (l02Left_c _ T x _ (HH.out.grew (Grew.refl w)) (by omega) HA.out).mono ?_
  rintro e w2 ⟨v2, rfl, hN2, hg2⟩
  go_wp2_with fail
  refine (HX.out 1 _ _ (by omega) hN2 hn1).mono ?_
  rintro e w3 ⟨rfl, hg3⟩
  go_wp2_with fail
  refine (l02Right_c _ T x y _ (HH.out.grew (((Grew.refl w).trans hg2).trans hg3)) (by omega) HA.out HB.out HN.out).mono ?_
  rintro e w4 ⟨v4, rfl, hN4, hg4⟩
  go_wp2_with fail
  refine (HY.out 2 _ _ (by omega) hN4 hn2).mono ?_
  rintro e w5 ⟨rfl, hg5⟩
  go_wp2_with fail
  go_ret
  exact ⟨congrArg (fun z => Ending.returned (.string z)) HE.out, ((((Grew.refl w).trans hg2).trans hg3).trans hg4).trans hg5⟩

theorem write_imp_n (x y : Tree) (hf : Fm.isF y = false) (hx : WriteOk x) (hy : WriteOk y) (l : Nat) (v : Value) (w : World) (hl : l ≤ 0) (h : Nodes w v (Fm.enc (.imp x y))) (hn : (Fm.enc (.imp x y)).length ≤ 1048576) :
    Calls Tryz.prog 80 #[v, .int .i64 l] w (Says w (Fm.txt (.imp x y) l)) := by
  have hE : Fm.txt (.imp x y) l = Fm.txt x 1 ++ [62] ++ Fm.txt y 0 := by
    rw [Fm.txt, if_neg (by simp [hf]), Fm.wrap, if_neg (by omega)]
  rw [hE]
  obtain ⟨b, o, c, rfl, hc, hm, k1⟩ := nodes_head h
  have hpos := Fm.enc_pos (.imp x y)
  have HH := Lib.hid h
  have hg0 := Grew.refl w
  have HQ := Lib.hid (fun v2 w h1 h2 => l02Equal_c (.slice (some ⟨b, o, none⟩) (Fm.enc (.imp x y)).length c) v2 (Fm.enc (.imp x y)) Fm.truth w h1 h2 (by omega))
  rw [decide_eq_false (fun h => by have := (enc_truth h).2; rw [this] at hf; cases hf)] at HQ
  have hky : (kindOf y == 1) = false := by rw [← isF_kind]; exact hf
  rw [show kindOf (.imp x y) = 4 from rfl] at k1
  have HA := Lib.hid (at_first (xs := Fm.enc (.imp x y)) (k := (4, 0)) (a := x) (rest := Fm.enc y) rfl)
  have HB := Lib.hid (at_second (xs := Fm.enc (.imp x y)) (k := (4, 0)) (a := x) (b := y) rfl)
  have hlen : (Fm.enc (.imp x y)).length = 1 + (Fm.enc x).length + (Fm.enc y).length := by simp [Fm.enc]; omega
  have HN := Lib.hid hlen
  have h1 := Fm.txt_len x 1
  have h2 := Fm.txt_len y 0
  have HX := Lib.hid hx
  have HY := Lib.hid hy
  have hn1 : (Fm.enc x).length ≤ 1048576 := by omega
  have hn2 : (Fm.enc y).length ≤ 1048576 := by omega
  have hpy := Fm.enc_pos y
  clear hE h hx hy hlen hf
  generalize Fm.enc (.imp x y) = T at *
  have s1 := bs_size (Fm.txt x 1)
  have s2 := bs_size (Fm.txt y 0)
  have z1 : (bs (Fm.txt x 1)).size ≤ 4194304 := by omega
  have z2 : (bs (Fm.txt y 0)).size ≤ 4194304 := by omega
  have HE : Hid (bs (Fm.txt x 1) ++ bs [62] ++ bs (Fm.txt y 0) = bs (Fm.txt x 1 ++ [62] ++ Fm.txt y 0)) := by unfold Hid; simp only [bs_append]
  clear s1 s2 h1 h2
  generalize Fm.txt x 1 ++ [62] ++ Fm.txt y 0 = Z at *
  go_enter Tryz.func80, Tryz.ntmps80
  go_wp2_with fail
  refine (l02True_c _).mono ?_
  rintro e w01 ⟨v01, rfl, ho01, hg01⟩
  go_wp2_with fail
  refine (HQ.out _ _ (HH.out.grew hg01) ho01.nodes).mono ?_
  rintro e w02 ⟨rfl, hg02⟩
  have hg2x := hg01.trans hg02
  go_wp2_with fail
  refine (l02Right_c _ T x y _ (HH.out.grew hg2x) (by omega) HA.out HB.out HN.out).mono ?_
  rintro e w03 ⟨v03, rfl, hN03, hg03⟩
  obtain ⟨b3, o3, c3, rfl, hc3, hm3, k3⟩ := nodes_head hN03
  have hg3x := hg2x.trans hg03
  have hgr3 := Grew.refl w03
  go_wp2_with fail
  clear k3
  refine (l02Left_c _ T x _ (HH.out.grew hg3x) (by omega) HA.out).mono ?_
  rintro e w2 ⟨v2, rfl, hN2, hg2⟩
  go_wp2_with fail
  refine (HX.out 1 _ _ (by omega) hN2 hn1).mono ?_
  rintro e w3 ⟨rfl, hg3⟩
  go_wp2_with fail
  refine (l02Right_c _ T x y _ (HH.out.grew ((hg3x.trans hg2).trans hg3)) (by omega) HA.out HB.out HN.out).mono ?_
  rintro e w4 ⟨v4, rfl, hN4, hg4⟩
  go_wp2_with fail
  refine (HY.out 0 _ _ (by omega) hN4 hn2).mono ?_
  rintro e w5 ⟨rfl, hg5⟩
  go_wp2_with fail
  go_ret
  exact ⟨congrArg (fun z => Ending.returned (.string z)) HE.out, (((hg3x.trans hg2).trans hg3).trans hg4).trans hg5⟩

theorem write_and_w (x y : Tree) (hx : WriteOk x) (hy : WriteOk y) (l : Nat) (v : Value) (w : World) (hl : 2 < l) (h : Nodes w v (Fm.enc (.and x y))) (hn : (Fm.enc (.and x y)).length ≤ 1048576) :
    Calls Tryz.prog 80 #[v, .int .i64 l] w (Says w (Fm.txt (.and x y) l)) := by
  have hE : Fm.txt (.and x y) l = [40] ++ (Fm.txt x 2 ++ [38] ++ Fm.txt y 3) ++ [41] := by
    rw [Fm.txt, Fm.wrap, if_pos (by omega)]
  rw [hE]
  obtain ⟨b, o, c, rfl, hc, hm, k1⟩ := nodes_head h
  have hpos := Fm.enc_pos (.and x y)
  have HH := Lib.hid h
  have hg0 := Grew.refl w
  rw [show kindOf (.and x y) = 2 from rfl] at k1
  have HA := Lib.hid (at_first (xs := Fm.enc (.and x y)) (k := (2, 0)) (a := x) (rest := Fm.enc y) rfl)
  have HB := Lib.hid (at_second (xs := Fm.enc (.and x y)) (k := (2, 0)) (a := x) (b := y) rfl)
  have hlen : (Fm.enc (.and x y)).length = 1 + (Fm.enc x).length + (Fm.enc y).length := by simp [Fm.enc]; omega
  have HN := Lib.hid hlen
  have h1 := Fm.txt_len x 2
  have h2 := Fm.txt_len y 3
  have HX := Lib.hid hx
  have HY := Lib.hid hy
  have hn1 : (Fm.enc x).length ≤ 1048576 := by omega
  have hn2 : (Fm.enc y).length ≤ 1048576 := by omega
  have hpy := Fm.enc_pos y
  clear hE h hx hy hlen
  generalize Fm.enc (.and x y) = T at *
  have s1 := bs_size (Fm.txt x 2)
  have s2 := bs_size (Fm.txt y 3)
  have z1 : (bs (Fm.txt x 2)).size ≤ 4194304 := by omega
  have z2 : (bs (Fm.txt y 3)).size ≤ 4194304 := by omega
  have HE : Hid (bs [40] ++ (bs (Fm.txt x 2) ++ bs [38] ++ bs (Fm.txt y 3)) ++ bs [41] = bs ([40] ++ (Fm.txt x 2 ++ [38] ++ Fm.txt y 3) ++ [41])) := by unfold Hid; simp only [bs_append]
  clear s1 s2 h1 h2
  generalize [40] ++ (Fm.txt x 2 ++ [38] ++ Fm.txt y 3) ++ [41] = Z at *
  go_enter Tryz.func80, Tryz.ntmps80
  go_wp2_with fail
  refine (l02Left_c _ T x _ (HH.out.grew (Grew.refl w)) (by omega) HA.out).mono ?_
  rintro e w2 ⟨v2, rfl, hN2, hg2⟩
  go_wp2_with fail
  refine (HX.out 2 _ _ (by omega) hN2 hn1).mono ?_
  rintro e w3 ⟨rfl, hg3⟩
  go_wp2_with fail
  refine (l02Right_c _ T x y _ (HH.out.grew (((Grew.refl w).trans hg2).trans hg3)) (by omega) HA.out HB.out HN.out).mono ?_
  rintro e w4 ⟨v4, rfl, hN4, hg4⟩
  go_wp2_with fail
  refine (HY.out 3 _ _ (by omega) hN4 hn2).mono ?_
  rintro e w5 ⟨rfl, hg5⟩
  go_wp2_with fail
  go_ret
  exact ⟨congrArg (fun z => Ending.returned (.string z)) HE.out, ((((Grew.refl w).trans hg2).trans hg3).trans hg4).trans hg5⟩

theorem write_or_w (x y : Tree) (hx : WriteOk x) (hy : WriteOk y) (l : Nat) (v : Value) (w : World) (hl : 1 < l) (h : Nodes w v (Fm.enc (.or x y))) (hn : (Fm.enc (.or x y)).length ≤ 1048576) :
    Calls Tryz.prog 80 #[v, .int .i64 l] w (Says w (Fm.txt (.or x y) l)) := by
  have hE : Fm.txt (.or x y) l = [40] ++ (Fm.txt x 1 ++ [124] ++ Fm.txt y 2) ++ [41] := by
    rw [Fm.txt, Fm.wrap, if_pos (by omega)]
  rw [hE]
  obtain ⟨b, o, c, rfl, hc, hm, k1⟩ := nodes_head h
  have hpos := Fm.enc_pos (.or x y)
  have HH := Lib.hid h
  have hg0 := Grew.refl w
  rw [show kindOf (.or x y) = 3 from rfl] at k1
  have HA := Lib.hid (at_first (xs := Fm.enc (.or x y)) (k := (3, 0)) (a := x) (rest := Fm.enc y) rfl)
  have HB := Lib.hid (at_second (xs := Fm.enc (.or x y)) (k := (3, 0)) (a := x) (b := y) rfl)
  have hlen : (Fm.enc (.or x y)).length = 1 + (Fm.enc x).length + (Fm.enc y).length := by simp [Fm.enc]; omega
  have HN := Lib.hid hlen
  have h1 := Fm.txt_len x 1
  have h2 := Fm.txt_len y 2
  have HX := Lib.hid hx
  have HY := Lib.hid hy
  have hn1 : (Fm.enc x).length ≤ 1048576 := by omega
  have hn2 : (Fm.enc y).length ≤ 1048576 := by omega
  have hpy := Fm.enc_pos y
  clear hE h hx hy hlen
  generalize Fm.enc (.or x y) = T at *
  have s1 := bs_size (Fm.txt x 1)
  have s2 := bs_size (Fm.txt y 2)
  have z1 : (bs (Fm.txt x 1)).size ≤ 4194304 := by omega
  have z2 : (bs (Fm.txt y 2)).size ≤ 4194304 := by omega
  have HE : Hid (bs [40] ++ (bs (Fm.txt x 1) ++ bs [124] ++ bs (Fm.txt y 2)) ++ bs [41] = bs ([40] ++ (Fm.txt x 1 ++ [124] ++ Fm.txt y 2) ++ [41])) := by unfold Hid; simp only [bs_append]
  clear s1 s2 h1 h2
  generalize [40] ++ (Fm.txt x 1 ++ [124] ++ Fm.txt y 2) ++ [41] = Z at *
  go_enter Tryz.func80, Tryz.ntmps80
  go_wp2_with fail
  refine (l02Left_c _ T x _ (HH.out.grew (Grew.refl w)) (by omega) HA.out).mono ?_
  rintro e w2 ⟨v2, rfl, hN2, hg2⟩
  go_wp2_with fail
  refine (HX.out 1 _ _ (by omega) hN2 hn1).mono ?_
  rintro e w3 ⟨rfl, hg3⟩
  go_wp2_with fail
  refine (l02Right_c _ T x y _ (HH.out.grew (((Grew.refl w).trans hg2).trans hg3)) (by omega) HA.out HB.out HN.out).mono ?_
  rintro e w4 ⟨v4, rfl, hN4, hg4⟩
  go_wp2_with fail
  refine (HY.out 2 _ _ (by omega) hN4 hn2).mono ?_
  rintro e w5 ⟨rfl, hg5⟩
  go_wp2_with fail
  go_ret
  exact ⟨congrArg (fun z => Ending.returned (.string z)) HE.out, ((((Grew.refl w).trans hg2).trans hg3).trans hg4).trans hg5⟩

theorem write_imp_w (x y : Tree) (hf : Fm.isF y = false) (hx : WriteOk x) (hy : WriteOk y) (l : Nat) (v : Value) (w : World) (hl : 0 < l) (h : Nodes w v (Fm.enc (.imp x y))) (hn : (Fm.enc (.imp x y)).length ≤ 1048576) :
    Calls Tryz.prog 80 #[v, .int .i64 l] w (Says w (Fm.txt (.imp x y) l)) := by
  have hE : Fm.txt (.imp x y) l = [40] ++ (Fm.txt x 1 ++ [62] ++ Fm.txt y 0) ++ [41] := by
    rw [Fm.txt, if_neg (by simp [hf]), Fm.wrap, if_pos (by omega)]
  rw [hE]
  obtain ⟨b, o, c, rfl, hc, hm, k1⟩ := nodes_head h
  have hpos := Fm.enc_pos (.imp x y)
  have HH := Lib.hid h
  have hg0 := Grew.refl w
  have HQ := Lib.hid (fun v2 w h1 h2 => l02Equal_c (.slice (some ⟨b, o, none⟩) (Fm.enc (.imp x y)).length c) v2 (Fm.enc (.imp x y)) Fm.truth w h1 h2 (by omega))
  rw [decide_eq_false (fun h => by have := (enc_truth h).2; rw [this] at hf; cases hf)] at HQ
  have hky : (kindOf y == 1) = false := by rw [← isF_kind]; exact hf
  rw [show kindOf (.imp x y) = 4 from rfl] at k1
  have HA := Lib.hid (at_first (xs := Fm.enc (.imp x y)) (k := (4, 0)) (a := x) (rest := Fm.enc y) rfl)
  have HB := Lib.hid (at_second (xs := Fm.enc (.imp x y)) (k := (4, 0)) (a := x) (b := y) rfl)
  have hlen : (Fm.enc (.imp x y)).length = 1 + (Fm.enc x).length + (Fm.enc y).length := by simp [Fm.enc]; omega
  have HN := Lib.hid hlen
  have h1 := Fm.txt_len x 1
  have h2 := Fm.txt_len y 0
  have HX := Lib.hid hx
  have HY := Lib.hid hy
  have hn1 : (Fm.enc x).length ≤ 1048576 := by omega
  have hn2 : (Fm.enc y).length ≤ 1048576 := by omega
  have hpy := Fm.enc_pos y
  clear hE h hx hy hlen hf
  generalize Fm.enc (.imp x y) = T at *
  have s1 := bs_size (Fm.txt x 1)
  have s2 := bs_size (Fm.txt y 0)
  have z1 : (bs (Fm.txt x 1)).size ≤ 4194304 := by omega
  have z2 : (bs (Fm.txt y 0)).size ≤ 4194304 := by omega
  have HE : Hid (bs [40] ++ (bs (Fm.txt x 1) ++ bs [62] ++ bs (Fm.txt y 0)) ++ bs [41] = bs ([40] ++ (Fm.txt x 1 ++ [62] ++ Fm.txt y 0) ++ [41])) := by unfold Hid; simp only [bs_append]
  clear s1 s2 h1 h2
  generalize [40] ++ (Fm.txt x 1 ++ [62] ++ Fm.txt y 0) ++ [41] = Z at *
  go_enter Tryz.func80, Tryz.ntmps80
  go_wp2_with fail
  refine (l02True_c _).mono ?_
  rintro e w01 ⟨v01, rfl, ho01, hg01⟩
  go_wp2_with fail
  refine (HQ.out _ _ (HH.out.grew hg01) ho01.nodes).mono ?_
  rintro e w02 ⟨rfl, hg02⟩
  have hg2x := hg01.trans hg02
  go_wp2_with fail
  refine (l02Right_c _ T x y _ (HH.out.grew hg2x) (by omega) HA.out HB.out HN.out).mono ?_
  rintro e w03 ⟨v03, rfl, hN03, hg03⟩
  obtain ⟨b3, o3, c3, rfl, hc3, hm3, k3⟩ := nodes_head hN03
  have hg3x := hg2x.trans hg03
  have hgr3 := Grew.refl w03
  go_wp2_with fail
  clear k3
  refine (l02Left_c _ T x _ (HH.out.grew hg3x) (by omega) HA.out).mono ?_
  rintro e w2 ⟨v2, rfl, hN2, hg2⟩
  go_wp2_with fail
  refine (HX.out 1 _ _ (by omega) hN2 hn1).mono ?_
  rintro e w3 ⟨rfl, hg3⟩
  go_wp2_with fail
  refine (l02Right_c _ T x y _ (HH.out.grew ((hg3x.trans hg2).trans hg3)) (by omega) HA.out HB.out HN.out).mono ?_
  rintro e w4 ⟨v4, rfl, hN4, hg4⟩
  go_wp2_with fail
  refine (HY.out 0 _ _ (by omega) hN4 hn2).mono ?_
  rintro e w5 ⟨rfl, hg5⟩
  go_wp2_with fail
  go_ret
  exact ⟨congrArg (fun z => Ending.returned (.string z)) HE.out, (((hg3x.trans hg2).trans hg3).trans hg4).trans hg5⟩

theorem write_box (x : Tree) (hx : WriteOk x) : WriteOk (.box x) := by
  intro l v w hl h hn
  have hE : Fm.txt (.box x) l = [91, 93] ++ Fm.txt x 3 := rfl
  rw [hE]
  obtain ⟨b, o, c, rfl, hc, hm, k1⟩ := nodes_head h
  have hpos := Fm.enc_pos (.box x)
  have HH := Lib.hid h
  have hg0 := Grew.refl w
  rw [show kindOf (.box x) = 5 from rfl] at k1
  have ha := at_first (xs := Fm.enc (.box x)) (k := (5, 0)) (a := x) (rest := []) (by simp [Fm.enc])
  have hlen : (Fm.enc (.box x)).length = 1 + (Fm.enc x).length := by simp [Fm.enc]; omega
  have hsub := h.sub 1 (Fm.enc x).length (c - 1) (by omega) (by omega) (by omega)
  rw [ha.take] at hsub
  have HS := Lib.hid hsub
  have hpx := Fm.enc_pos x
  rw [show (Fm.enc x).length = (Fm.enc (.box x)).length - 1 by omega] at HS
  have h1 := Fm.txt_len x 3
  have HX := Lib.hid hx
  have hn1 : (Fm.enc x).length ≤ 1048576 := by omega
  have hc1 : 1 < (Fm.enc (.box x)).length := by omega
  clear hE h hx hlen ha hsub
  generalize Fm.enc (.box x) = T at *
  have s1 := bs_size (Fm.txt x 3)
  have z1 : (bs (Fm.txt x 3)).size ≤ 4194304 := by omega
  have HE : Hid (bs [91, 93] ++ bs (Fm.txt x 3) = bs ([91, 93] ++ Fm.txt x 3)) := by unfold Hid; rw [bs_append]
  clear s1 h1
  generalize [91, 93] ++ Fm.txt x 3 = Z at *
  go_enter Tryz.func80, Tryz.ntmps80
  go_wp2_with fail
  refine (HX.out 3 _ _ (by omega) HS.out hn1).mono ?_
  rintro e w3 ⟨rfl, hg3⟩
  go_wp2_with fail
  go_ret
  exact ⟨congrArg (fun z => Ending.returned (.string z)) HE.out, hg3⟩

theorem write_dia (x : Tree) (hx : WriteOk x) : WriteOk (.dia x) := by
  intro l v w hl h hn
  have hE : Fm.txt (.dia x) l = [60, 62] ++ Fm.txt x 3 := rfl
  rw [hE]
  obtain ⟨b, o, c, rfl, hc, hm, k1⟩ := nodes_head h
  have hpos := Fm.enc_pos (.dia x)
  have HH := Lib.hid h
  have hg0 := Grew.refl w
  rw [show kindOf (.dia x) = 6 from rfl] at k1
  have ha := at_first (xs := Fm.enc (.dia x)) (k := (6, 0)) (a := x) (rest := []) (by simp [Fm.enc])
  have hlen : (Fm.enc (.dia x)).length = 1 + (Fm.enc x).length := by simp [Fm.enc]; omega
  have hsub := h.sub 1 (Fm.enc x).length (c - 1) (by omega) (by omega) (by omega)
  rw [ha.take] at hsub
  have HS := Lib.hid hsub
  have hpx := Fm.enc_pos x
  rw [show (Fm.enc x).length = (Fm.enc (.dia x)).length - 1 by omega] at HS
  have h1 := Fm.txt_len x 3
  have HX := Lib.hid hx
  have hn1 : (Fm.enc x).length ≤ 1048576 := by omega
  have hc1 : 1 < (Fm.enc (.dia x)).length := by omega
  clear hE h hx hlen ha hsub
  generalize Fm.enc (.dia x) = T at *
  have s1 := bs_size (Fm.txt x 3)
  have z1 : (bs (Fm.txt x 3)).size ≤ 4194304 := by omega
  have HE : Hid (bs [60, 62] ++ bs (Fm.txt x 3) = bs ([60, 62] ++ Fm.txt x 3)) := by unfold Hid; rw [bs_append]
  clear s1 h1
  generalize [60, 62] ++ Fm.txt x 3 = Z at *
  go_enter Tryz.func80, Tryz.ntmps80
  go_wp2_with fail
  refine (HX.out 3 _ _ (by omega) HS.out hn1).mono ?_
  rintro e w3 ⟨rfl, hg3⟩
  go_wp2_with fail
  go_ret
  exact ⟨congrArg (fun z => Ending.returned (.string z)) HE.out, hg3⟩

theorem write_tru (x : Tree) (hf : Fm.isF x = true) : WriteOk (.imp x .fls) := by
  intro l v w hl h hn
  have hE : Fm.txt (.imp x .fls) l = [84] := by
    rw [Fm.txt, if_pos (show Fm.isF .fls = true from rfl), if_pos hf]
  rw [hE]
  obtain ⟨b, o, c, rfl, hc, hm, k1⟩ := nodes_head h
  have hpos := Fm.enc_pos (.imp x .fls)
  have HH := Lib.hid h
  have hg0 := Grew.refl w
  have HQ := Lib.hid (fun v2 w h1 h2 => l02Equal_c (.slice (some ⟨b, o, none⟩) (Fm.enc (.imp x .fls)).length c) v2 (Fm.enc (.imp x .fls)) Fm.truth w h1 h2 (by omega))
  rw [decide_eq_true (by rw [Fm.isF_eq hf]; rfl)] at HQ
  rw [show kindOf (.imp x .fls) = 4 from rfl] at k1
  have HA := Lib.hid (at_first (xs := Fm.enc (.imp x .fls)) (k := (4, 0)) (a := x) (rest := Fm.enc .fls) rfl)
  have HB := Lib.hid (at_second (xs := Fm.enc (.imp x .fls)) (k := (4, 0)) (a := x) (b := .fls) rfl)
  have hlen : (Fm.enc (.imp x .fls)).length = 1 + (Fm.enc x).length + (Fm.enc .fls).length := by simp [Fm.enc]; omega
  have HN := Lib.hid hlen
  have hn1 : (Fm.enc x).length ≤ 1048576 := by omega
  clear hE h hlen hf
  generalize Fm.enc (.imp x .fls) = T at *
  go_enter Tryz.func80, Tryz.ntmps80
  go_wp2_with fail
  refine (l02True_c _).mono ?_
  rintro e w01 ⟨v01, rfl, ho01, hg01⟩
  go_wp2_with fail
  refine (HQ.out _ _ (HH.out.grew hg01) ho01.nodes).mono ?_
  rintro e w02 ⟨rfl, hg02⟩
  have hg2x := hg01.trans hg02
  go_wp2_with fail
  go_ret
  exact ⟨rfl, hg2x⟩

theorem write_not (x : Tree) (hf : Fm.isF x = false) (hx : WriteOk x) : WriteOk (.imp x .fls) := by
  intro l v w hl h hn
  have hE : Fm.txt (.imp x .fls) l = [126] ++ Fm.txt x 3 := by
    rw [Fm.txt, if_pos (show Fm.isF .fls = true from rfl), if_neg (by simp [hf])]
  rw [hE]
  obtain ⟨b, o, c, rfl, hc, hm, k1⟩ := nodes_head h
  have hpos := Fm.enc_pos (.imp x .fls)
  have HH := Lib.hid h
  have hg0 := Grew.refl w
  have HQ := Lib.hid (fun v2 w h1 h2 => l02Equal_c (.slice (some ⟨b, o, none⟩) (Fm.enc (.imp x .fls)).length c) v2 (Fm.enc (.imp x .fls)) Fm.truth w h1 h2 (by omega))
  rw [decide_eq_false (fun h => by have := (enc_truth h).1; rw [this] at hf; cases hf)] at HQ
  rw [show kindOf (.imp x .fls) = 4 from rfl] at k1
  have HA := Lib.hid (at_first (xs := Fm.enc (.imp x .fls)) (k := (4, 0)) (a := x) (rest := Fm.enc .fls) rfl)
  have HB := Lib.hid (at_second (xs := Fm.enc (.imp x .fls)) (k := (4, 0)) (a := x) (b := .fls) rfl)
  have hlen : (Fm.enc (.imp x .fls)).length = 1 + (Fm.enc x).length + (Fm.enc .fls).length := by simp [Fm.enc]; omega
  have HN := Lib.hid hlen
  have hn1 : (Fm.enc x).length ≤ 1048576 := by omega
  have h1 := Fm.txt_len x 3
  have HX := Lib.hid hx
  have s1 := bs_size (Fm.txt x 3)
  have z1 : (bs (Fm.txt x 3)).size ≤ 4194304 := by omega
  have HE : Hid (bs [126] ++ bs (Fm.txt x 3) = bs ([126] ++ Fm.txt x 3)) := by unfold Hid; rw [bs_append]
  clear s1 h1 hx
  generalize [126] ++ Fm.txt x 3 = Z at *
  clear hE h hlen hf
  generalize Fm.enc (.imp x .fls) = T at *
  go_enter Tryz.func80, Tryz.ntmps80
  go_wp2_with fail
  refine (l02True_c _).mono ?_
  rintro e w01 ⟨v01, rfl, ho01, hg01⟩
  go_wp2_with fail
  refine (HQ.out _ _ (HH.out.grew hg01) ho01.nodes).mono ?_
  rintro e w02 ⟨rfl, hg02⟩
  have hg2x := hg01.trans hg02
  go_wp2_with fail
  refine (l02Right_c _ T x .fls _ (HH.out.grew hg2x) (by omega) HA.out HB.out HN.out).mono ?_
  rintro e w03 ⟨v03, rfl, hN03, hg03⟩
  obtain ⟨b3, o3, c3, rfl, hc3, hm3, k3⟩ := nodes_head hN03
  rw [show kindOf .fls = 1 from rfl] at k3
  have hp3 := Fm.enc_pos .fls
  have hg3x := hg2x.trans hg03
  have hgr3 := Grew.refl w03
  go_wp2_with fail
  clear k3
  refine (l02Left_c _ T x _ (HH.out.grew hg3x) (by omega) HA.out).mono ?_
  rintro e w4 ⟨v4, rfl, hN4, hg4⟩
  go_wp2_with fail
  refine (HX.out 3 _ _ (by omega) hN4 hn1).mono ?_
  rintro e w5 ⟨rfl, hg5⟩
  go_wp2_with fail
  go_ret
  exact ⟨congrArg (fun z => Ending.returned (.string z)) HE.out, (hg3x.trans hg4).trans hg5⟩

theorem write_fls : WriteOk .fls := by
  intro l v w hl h hn
  have hE : Fm.txt .fls l = [70] := rfl
  rw [hE]
  obtain ⟨b, o, c, rfl, hc, hm, k1⟩ := nodes_head h
  have hpos := Fm.enc_pos (.fls)
  have HH := Lib.hid h
  have hg0 := Grew.refl w
  rw [show kindOf .fls = 1 from rfl] at k1
  clear hE h
  generalize Fm.enc .fls = T at *
  go_enter Tryz.func80, Tryz.ntmps80
  go_wp2_with fail
  go_ret
  exact ⟨rfl, hg0⟩

theorem write_var (n : Fin 6) : WriteOk (.var n) := by
  intro l v w hl h hn
  have hE : Fm.txt (.var n) l = [UInt8.ofNat (112 + n.val)] := rfl
  rw [hE]
  have k2 : ∃ b o c, v = .slice (some ⟨b, o, none⟩) (Fm.enc (.var n)).length c ∧ ∀ W, Grew w W → W.cell? ⟨b, o + 1, none⟩ = some (.int .i64 (n.val : Int)) := by
    rcases h.open_ with ⟨_, h0⟩ | ⟨b, o, c, hv, _, _, _, hf⟩
    · simp [Fm.enc] at h0
    · refine ⟨b, o, c, hv, fun W hW => ?_⟩
      have := (hf 0 (by simp [Fm.enc]) W hW).2
      rw [show sy (Fm.enc (.var n)) 0 = (n.val : Int) from rfl] at this
      simpa using this
  obtain ⟨b, o, c, rfl, hc, hm, k1⟩ := nodes_head h
  have hpos := Fm.enc_pos (.var n)
  have HH := Lib.hid h
  have hg0 := Grew.refl w
  obtain ⟨b', o', c', hv', k2⟩ := k2
  simp only [Value.slice.injEq, Option.some.injEq, Addr.mk.injEq, and_true, true_and] at hv'
  obtain ⟨⟨rfl, rfl⟩, rfl⟩ := hv'
  rw [show kindOf (.var n) = 0 from rfl] at k1
  have hn6 := n.isLt
  clear hE h
  generalize Fm.enc (.var n) = T at *
  generalize n.val = q at *
  go_enter Tryz.func80, Tryz.ntmps80
  go_wp2_with fail
  go_quiet (fail)
  go_wp2_with fail
  go_ret
  exact ⟨congrArg (fun z => Ending.returned (.string z)) (letter_cut hn6), hg0.drewN _⟩

theorem write_ok (t : Tree) : WriteOk t := by
  induction t with
  | var n => exact write_var n
  | fls => exact write_fls
  | and x y hx hy =>
    intro l v w hl h hn
    rcases Nat.lt_or_ge 2 l with hw | hw
    · exact write_and_w x y hx hy l v w hw h hn
    · exact write_and_n x y hx hy l v w hw h hn
  | or x y hx hy =>
    intro l v w hl h hn
    rcases Nat.lt_or_ge 1 l with hw | hw
    · exact write_or_w x y hx hy l v w hw h hn
    · exact write_or_n x y hx hy l v w hw h hn
  | imp x y hx hy =>
    cases hf : Fm.isF y with
    | true =>
      obtain rfl := Fm.isF_eq hf
      cases hg : Fm.isF x with
      | true => exact write_tru x hg
      | false => exact write_not x hg hx
    | false =>
      intro l v w hl h hn
      rcases Nat.lt_or_ge 0 l with hw | hw
      · exact write_imp_w x y hf hx hy l v w hw h hn
      · exact write_imp_n x y hf hx hy l v w hw h hn
  | box x hx => exact write_box x hx
  | dia x hx => exact write_dia x hx

theorem l02Text_c (t : Tree) (v : Value) (w : World) (h : Nodes w v (Fm.enc t)) (hn : (Fm.enc t).length ≤ 1048576) :
    Calls Tryz.prog 48 #[v] w (Says w (Fm.txt t 0)) := by
  have HT := Lib.hid (write_ok t 0 v w (by omega) h hn)
  go_enter Tryz.func48, Tryz.ntmps48
  go_wp2_with fail
  refine HT.out.mono ?_
  rintro e w1 ⟨rfl, hg1⟩
  go_wp2_with fail
  go_ret
  exact ⟨rfl, hg1⟩
end Go.Proofs.YtjlnompmhgjaaaaGreat


/- A text that reads to a tree whose text it is. -/
namespace Go.Proofs.YtjlnompmhgjaaaaGreat
open Go.RowKit
open Fm (Nd)

def IsGood (s : ByteArray) : Prop := ∃ t, Fm.pf s = (Fm.enc t, 0, 0) ∧ bs (Fm.txt t 0) = s
noncomputable def gd (s : ByteArray) : Bool := @decide (IsGood s) (Classical.propDecidable _)
theorem gd_true {s : ByteArray} (h : IsGood s) : gd s = true := by
  unfold gd
  exact @decide_eq_true _ (Classical.propDecidable _) h
theorem gd_false {s : ByteArray} (h : ¬ IsGood s) : gd s = false := by
  unfold gd
  exact @decide_eq_false _ (Classical.propDecidable _) h

theorem pf_cases (s : ByteArray) : (∃ t, Fm.pf s = (Fm.enc t, 0, 0)) ∨ ∃ p c, Fm.pf s = ([], p, c) ∧ (c == 0) = false := by
  unfold Fm.pf
  split
  · exact .inr ⟨_, _, rfl, by decide⟩
  · split
    · exact .inr ⟨_, _, rfl, by decide⟩
    · split
      · exact .inr ⟨_, _, rfl, by decide⟩
      · obtain ⟨t, ht⟩ := Fm.parse_enc s.data.toList Fm.fuel
        refine .inl ⟨t, ?_⟩
        rw [← ht]
        rfl
theorem gd_bad {s : ByteArray} {p : Nat} {c : Int} (h : Fm.pf s = ([], p, c)) (hc : (c == 0) = false) : gd s = false := by
  apply gd_false
  rintro ⟨t, ht, _⟩
  rw [h] at ht
  simp only [Prod.mk.injEq] at ht
  rw [ht.2.2] at hc
  cases hc
theorem gd_tree {s : ByteArray} {t : Fm.Tree} (h : Fm.pf s = (Fm.enc t, 0, 0)) : gd s = ((bs (Fm.txt t 0)).toList == s.toList) := by
  have e : ((bs (Fm.txt t 0)).toList == s.toList) = true ↔ bs (Fm.txt t 0) = s := by
    exact Lib.bytes_beq_iff _ _
  cases hb : ((bs (Fm.txt t 0)).toList == s.toList) with
  | true => exact gd_true ⟨t, h, e.1 hb⟩
  | false =>
    apply gd_false
    rintro ⟨u, hu, hs⟩
    rw [h] at hu
    simp only [Prod.mk.injEq, and_true] at hu
    have := enc_inj hu
    subst this
    rw [e.2 hs] at hb
    cases hb

def GivesG (w : World) (s : ByteArray) (e : Ending) (w' : World) : Prop := ∃ v, e = .returned (.tuple #[v, .bool (gd s)]) ∧ Own w' w.heap.size v (Fm.pf s).1 ∧ Grew w w'

theorem l02Good_c (s : ByteArray) (w : World) (hs : s.size ≤ 140737488355328) :
    Calls Tryz.prog 49 #[.string s] w (GivesG w s) := by
  have HP := fun w => specParse_c s w hs
  unfold GivesG
  rcases pf_cases s with ⟨t, ht⟩ | ⟨p, c, hp, hc⟩
  · have hn := Fm.pf_len s
    rw [gd_tree ht]
    rw [ht] at HP hn ⊢
    simp only at HP hn ⊢
    replace HP := Lib.hid HP
    have HT := Lib.hid (fun v w h => l02Text_c t v w h (by omega))
    clear ht
    generalize Fm.enc t = xs at *
    go_enter Tryz.func49, Tryz.ntmps49
    go_wp2_with fail
    refine (HP.out _).mono ?_
    rintro e w1 ⟨v1, rfl, ho1, hg1, _⟩
    go_wp2_with fail
    refine (HT.out _ _ ho1.nodes).mono ?_
    rintro e w2 ⟨rfl, hg2⟩
    go_wp2_with fail
    go_ret2
    exact ⟨_, rfl, ho1.grew hg2, hg1.trans hg2⟩
  · rw [gd_bad hp hc]
    rw [hp] at HP ⊢
    replace HP := Lib.hid HP
    clear hp
    go_enter Tryz.func49, Tryz.ntmps49
    go_wp2_with fail
    refine (HP.out _).mono ?_
    rintro e w1 ⟨v1, rfl, ho1, hg1, _⟩
    go_wp2_with fail
    go_ret2
    exact ⟨.slice none 0 0, rfl, Own.nil_ _ _, hg1⟩
end Go.Proofs.YtjlnompmhgjaaaaGreat


/- The texts of formulas. No program is in sight. -/
namespace Go.Proofs.YtjlnompmhgjaaaaGreat
open Go.RowKit

def tx (A : Fm.Tree) : ByteArray := bs (Fm.txt A 0)
theorem tx_pf {A : Fm.Tree} (h : (Fm.enc A).length ≤ 40) : Fm.pf (tx A) = (Fm.enc A, 0, 0) := Fm.pf_txt A (by have := Fm.txt_len A 0; omega) h
theorem tx_size {A : Fm.Tree} (h : (Fm.enc A).length ≤ 40) : (tx A).size ≤ 160 := by
  unfold tx
  rw [bs_size]
  have := Fm.txt_len A 0
  omega
theorem tx_inj {A B : Fm.Tree} (ha : (Fm.enc A).length ≤ 40) (hb : (Fm.enc B).length ≤ 40) (h : tx A = tx B) : A = B := by
  have h1 := tx_pf ha
  rw [h, tx_pf hb] at h1
  simp only [Prod.mk.injEq, and_true] at h1
  exact (enc_inj h1).symm
end Go.Proofs.YtjlnompmhgjaaaaGreat


/- Slices of strings. -/
namespace Go.Proofs.YtjlnompmhgjaaaaGreat
open Go.RowKit

def st (L : List ByteArray) (i : Nat) : ByteArray := L.getD i ByteArray.empty
def scells (L : List ByteArray) : List Value := L.map Value.string
theorem scells_length (L : List ByteArray) : (scells L).length = L.length * 1 := by simp [scells]
theorem scells_one (L : List ByteArray) : ∀ u ∈ scells L, u.oneCell' = true := by
  intro u hu
  simp only [scells, List.mem_map] at hu
  obtain ⟨x, _, rfl⟩ := hu
  rfl
theorem scells_at {L : List ByteArray} {i : Nat} (h : i < L.length) : (scells L)[i]? = some (.string (st L i)) := by simp [scells, st, List.getD, h]
theorem scells_append (K L : List ByteArray) : scells (K ++ L) = scells K ++ scells L := by simp [scells]
theorem st_get {L : List ByteArray} {i : Nat} (h : i < L.length) : L[i] = st L i := by simp [st, List.getD, h]

def Strs (w : World) (v : Value) (L : List ByteArray) : Prop := Rd w 1 v L.length (scells L)
def OwnS (w : World) (B : Nat) (v : Value) (L : List ByteArray) : Prop := w.ownsRow B 9 1 v L.length (scells L)
theorem Strs.grew {w w' : World} {v : Value} {L : List ByteArray} (h : Strs w v L) (hb : Grew w w') : Strs w' v L := Rd.grew h hb
theorem Strs.nil_ (w : World) : Strs w (.slice none 0 0) [] := Rd.nil_ w 1
theorem OwnS.strs {w : World} {B : Nat} {v : Value} {L : List ByteArray} (h : OwnS w B v L) : Strs w v L := Rd.of_own h
theorem OwnS.nil_ (w : World) (B : Nat) : OwnS w B (.slice none 0 0) [] := World.ownsRow_nil w B _ 1
theorem OwnS.grew {w w' : World} {B : Nat} {v : Value} {L : List ByteArray} (h : OwnS w B v L) (hb : Grew w w') : OwnS w' B v L := own_grew h hb
theorem OwnS.base {w : World} {B B' : Nat} {v : Value} {L : List ByteArray} (h : OwnS w B v L) (hb : B' ≤ B) : OwnS w B' v L := own_base h hb

theorem Strs.open_ {w : World} {v : Value} {L : List ByteArray} (h : Strs w v L) :
    (v = .slice none 0 0 ∧ L = []) ∨ ∃ b o c, v = .slice (some ⟨b, o, none⟩) L.length c ∧ L.length ≤ c ∧ c ≤ 9223372036854775807 ∧ b < w.heap.size ∧
      ∀ i, i < L.length → ∀ W, Grew w W → W.cell? ⟨b, o + i, none⟩ = some (.string (st L i)) := by
  obtain ⟨_, _, h3⟩ := h
  rcases h3 with ⟨h4, h5⟩ | ⟨b, o, c, h4, h5, h6, h7, h8⟩
  · exact .inl ⟨h4, List.eq_nil_of_length_eq_zero h5⟩
  · exact .inr ⟨b, o, c, h4, h5, h6, h7, fun i hi W hW => (hW.cell (p := ⟨b, o + i, none⟩) h7).trans (h8 _ _ (scells_at hi))⟩
theorem strs_slice {w : World} {v : Value} {L : List ByteArray} (h : Strs w v L) : ∃ A c, v = .slice A L.length c := by
  rcases h.open_ with ⟨rfl, rfl⟩ | ⟨b, o, c, rfl, _⟩
  · exact ⟨_, _, rfl⟩
  · exact ⟨_, _, rfl⟩
theorem OwnS.lit (w : World) (B : Nat) (L : List ByteArray) (cs : Array Value) (hB : B ≤ w.heap.size) (hn : L.length ≤ 9223372036854775807) (hc : cs.toList = scells L) :
    OwnS (w.alloc (.cells cs 9)) B (.slice (some ⟨w.heap.size, 0, none⟩) L.length L.length) L := by
  have hl : cs.size = L.length * 1 := by rw [← Array.length_toList, hc, scells_length]
  have h := World.ownsRow_lit (e := 9) (size := 1) w cs L.length hB hn hl
  rw [hc] at h
  exact h
theorem OwnS.mk_ {w : World} {B : Nat} {L : List ByteArray} {g c : Nat} {cur : Array Value} (hB : B ≤ g) (hg : w.heap[g]? = some (.cells cur 9 (0, 0))) (hnc : L.length ≤ c) (hcm : c ≤ 9223372036854775807) (hcs : cur.size = c)
    (hc : ∀ i, i < L.length → cur[i]? = some (.string (st L i))) : OwnS w B (.slice (some ⟨g, 0, none⟩) L.length c) L := by
  refine ⟨scells_length L, .inr ⟨g, c, cur, rfl, hB, hg, hnc, hcm, by omega, ?_⟩⟩
  apply List.ext_getElem?
  intro j
  rw [List.getElem?_take]
  by_cases hj : j < L.length
  · rw [if_pos (by omega), scells_at hj]
    simpa using hc j hj
  · rw [if_neg (by omega), List.getElem?_eq_none (by rw [scells_length]; omega)]

theorem Tryz.infoStr : (Tryz.prog.info? 9).map (fun i => (i.zero, i.size, i.bytes)) = some (some (.string ByteArray.empty), 1, 16) := by kernel_rfl

end Go.Proofs.YtjlnompmhgjaaaaGreat


/- Strings that are not larger than memory. -/
namespace Go.Proofs.YtjlnompmhgjaaaaGreat
open Go.RowKit

end Go.Proofs.YtjlnompmhgjaaaaGreat


/- Texts sorted, each once. -/
namespace Go.Proofs.YtjlnompmhgjaaaaGreat
open Go.RowKit Go.Sort

/-! What compacting leaves. -/
theorem compact_sub (zs : List (List UInt8)) : (Lib.compact zs).Sublist zs := by
  have h : ((List.range zs.toArray.size).map (zs.toArray[·]!)) = zs := by have := Lib.range_map_get zs.toArray; simpa using this
  unfold Lib.compact Lib.compactUpTo
  have h2 := ((List.filter_sublist (l := List.range zs.length) (p := Lib.keeps zs.toArray)).map (zs.toArray[·]!))
  rw [show (List.range zs.length).map (zs.toArray[·]!) = zs by simpa using h] at h2
  exact h2
theorem compact_has (d : Array (List UInt8)) (m : Nat) : ∀ j, j < m → d[j]! ∈ Lib.compactUpTo d m := by
  intro j
  induction j with
  | zero =>
    intro hj
    exact List.mem_map.2 ⟨0, List.mem_filter.2 ⟨List.mem_range.2 hj, Lib.keeps_lt_one d 0 (by omega)⟩, rfl⟩
  | succ j ih =>
    intro hj
    by_cases h : d[j + 1]! = d[j]!
    · rw [h]; exact ih (by omega)
    · exact List.mem_map.2 ⟨j + 1, List.mem_filter.2 ⟨List.mem_range.2 hj, Lib.keeps_pos (by simpa using h)⟩, rfl⟩
theorem compact_mem (zs : List (List UInt8)) (x : List UInt8) : x ∈ Lib.compact zs ↔ x ∈ zs := by
  constructor
  · exact fun h => (compact_sub zs).subset h
  · intro h
    obtain ⟨j, hj, rfl⟩ := List.getElem_of_mem h
    have := compact_has zs.toArray zs.length j hj
    simpa [Lib.compact, getElem!_pos, hj] using this

def bl (L : List ByteArray) : List (List UInt8) := L.map (·.data.toList)
def putB (L : List ByteArray) : List (List UInt8) := Lib.compact ((bl L).mergeSort fun x y => decide (x ≤ y))
theorem putB_mem (L : List ByteArray) (x : List UInt8) : x ∈ putB L ↔ x ∈ bl L := by
  unfold putB
  rw [compact_mem, (List.mergeSort_perm _ _).mem_iff]
def putS (L : List ByteArray) : List ByteArray := (putB L).map fun b => (⟨b.toArray⟩ : ByteArray)

end Go.Proofs.YtjlnompmhgjaaaaGreat


/- Texts in ascending order: what put makes. No program is in sight. -/
namespace Go.Proofs.YtjlnompmhgjaaaaGreat
open Go.RowKit Go.Sort

theorem blt_le {a b : List UInt8} (h : a ≤ b) (hne : a ≠ b) : a < b := by
  by_cases h2 : a < b
  · exact h2
  · exact absurd (List.le_antisymm h (List.not_lt.1 h2)) hne
theorem upToB_lt (d : Array (List UInt8)) (hs : ∀ i j, i ≤ j → j < d.size → d[i]! ≤ d[j]!) : ∀ m, m ≤ d.size → (Lib.compactUpTo d m).Pairwise (· < ·) ∧ (∀ x ∈ Lib.compactUpTo d m, ∃ i, i < m ∧ x = d[i]!)
  | 0, _ => ⟨by simp [Lib.compactUpTo], fun x hx => by simp [Lib.compactUpTo] at hx⟩
  | m + 1, hm => by
    obtain ⟨h1, h2⟩ := upToB_lt d hs m (by omega)
    rw [Lib.compactUpTo_succ]
    by_cases hk : Lib.keeps d m = true
    · rw [if_pos hk]
      have hlt : ∀ i, i < m → d[i]! < d[m]! := fun i hi => by
        have h4 := hs i (m - 1) (by omega) (by omega)
        have h5 := hs (m - 1) m (by omega) (by omega)
        have h6 : ¬ d[m]! = d[m - 1]! := fun e => by
          rw [Lib.keeps_neg (by omega) e] at hk
          cases hk
        exact List.lt_of_le_of_lt h4 (blt_le h5 fun e => h6 e.symm)
      refine ⟨?_, fun x hx => ?_⟩
      · rw [List.pairwise_append]
        refine ⟨h1, List.pairwise_singleton _ _, fun x hx y hy => ?_⟩
        obtain ⟨i, hi, rfl⟩ := h2 x hx
        obtain rfl : y = d[m]! := by simpa using hy
        exact hlt i hi
      · rcases List.mem_append.1 hx with hx | hx
        · obtain ⟨i, hi, rfl⟩ := h2 x hx
          exact ⟨i, by omega, rfl⟩
        · exact ⟨m, by omega, by simpa using hx⟩
    · rw [if_neg hk, List.append_nil]
      refine ⟨h1, fun x hx => ?_⟩
      obtain ⟨i, hi, rfl⟩ := h2 x hx
      exact ⟨i, by omega, rfl⟩
theorem arrB_get {L : List (List UInt8)} {i : Nat} (h : i < L.length) : L.toArray[i]! = L[i] := by
  rw [getElem!_pos L.toArray i (by simpa using h)]
  simp
theorem sortedB_at {L : List (List UInt8)} (h : L.Pairwise (· ≤ ·)) {i j : Nat} (hij : i ≤ j) (hj : j < L.toArray.size) : L.toArray[i]! ≤ L.toArray[j]! := by
  have hj2 : j < L.length := by simpa using hj
  by_cases e : i = j
  · subst e; exact List.le_refl _
  · have := List.pairwise_iff_getElem.1 h i j (by omega) hj2 (by omega)
    have h1 : L.toArray[i]! = L[i]'(by omega) := arrB_get (by omega)
    have h2 : L.toArray[j]! = L[j]'(by omega) := arrB_get hj2
    rw [h1, h2]
    exact this
theorem mergeB_sorted (L : List (List UInt8)) : (L.mergeSort fun x y => decide (x ≤ y)).Pairwise (· ≤ ·) := by
  have h := List.pairwise_mergeSort (le := fun x y : List UInt8 => decide (x ≤ y)) (fun a b c h1 h2 => by simp only [decide_eq_true_eq] at h1 h2 ⊢; exact List.le_trans h1 h2) (fun a b => by simp only [Bool.or_eq_true, decide_eq_true_eq]; exact List.le_total a b) L
  exact h.imp (fun h => by simpa using h)

def Up (L : List ByteArray) : Prop := L.Pairwise fun a b => a.data.toList < b.data.toList
theorem putS_mem (L : List ByteArray) (s : ByteArray) : s ∈ putS L ↔ s ∈ L := by
  unfold putS
  constructor
  · intro h
    obtain ⟨b, hb, rfl⟩ := List.mem_map.1 h
    rw [putB_mem] at hb
    obtain ⟨s, hs, rfl⟩ := List.mem_map.1 hb
    have e : (⟨s.data.toList.toArray⟩ : ByteArray) = s := by cases s; simp
    rw [e]
    exact hs
  · intro h
    refine List.mem_map.2 ⟨s.data.toList, (putB_mem L _).2 (List.mem_map.2 ⟨s, h, rfl⟩), ?_⟩
    cases s; simp
theorem putS_up (L : List ByteArray) : Up (putS L) := by
  unfold Up putS
  rw [List.pairwise_map]
  refine (upToB_lt _ (fun _ _ h1 h2 => sortedB_at (mergeB_sorted (bl L)) h1 h2) _ (by simp)).1.imp ?_
  intro a b h
  simpa using h
theorem bdata_inj {a b : ByteArray} (h : a.data.toList = b.data.toList) : a = b := by
  cases a; cases b; simpa using h
theorem up_ext : ∀ {L M : List ByteArray}, Up L → Up M → (∀ x, x ∈ L ↔ x ∈ M) → L = M
  | [], [], _, _, _ => rfl
  | [], b :: M, _, _, h => absurd ((h b).2 (by simp)) (by simp)
  | a :: L, [], _, _, h => absurd ((h a).1 (by simp)) (by simp)
  | a :: L, b :: M, h1, h2, h => by
    obtain ⟨h3, h4⟩ := List.pairwise_cons.1 h1
    obtain ⟨h5, h6⟩ := List.pairwise_cons.1 h2
    have hab : a = b := by
      have ha := (h a).1 (by simp)
      have hb := (h b).2 (by simp)
      rcases List.mem_cons.1 ha with e | ha
      · exact e
      rcases List.mem_cons.1 hb with e | hb
      · exact e.symm
      exact absurd (List.lt_trans (h5 a ha) (h3 b hb)) (List.lt_irrefl _)
    subst hab
    congr 1
    refine up_ext h4 h6 fun x => ⟨fun hx => ?_, fun hx => ?_⟩
    · rcases List.mem_cons.1 ((h x).1 (List.mem_cons_of_mem _ hx)) with e | hx2
      · have := h3 x hx; rw [e] at this; exact absurd this (List.lt_irrefl _)
      · exact hx2
    · rcases List.mem_cons.1 ((h x).2 (List.mem_cons_of_mem _ hx)) with e | hx2
      · have := h5 x hx; rw [e] at this; exact absurd this (List.lt_irrefl _)
      · exact hx2

end Go.Proofs.YtjlnompmhgjaaaaGreat


/- Bounded bisimulations and world formulas, plain: where the formula of a world is true. No program is in sight. -/
namespace Go.Proofs.YtjlnompmhgjaaaaGreat
open Go.RowKit
open Fm (Nd Tree)

def pmk (p : Nat → Bool) : Nat → Nat
  | 0 => 0
  | k + 1 => if p k = true then pmk p k ||| 2 ^ k else pmk p k
theorem pmk_yes {p : Nat → Bool} {k : Nat} (h : p k = true) : pmk p (k + 1) = pmk p k ||| 2 ^ k := by rw [pmk, if_pos h]
theorem pmk_no {p : Nat → Bool} {k : Nat} (h : p k = false) : pmk p (k + 1) = pmk p k := by rw [pmk, if_neg (by rw [h]; simp)]
theorem pmk_lt (p : Nat → Bool) : ∀ k, pmk p k < 2 ^ k
  | 0 => by simp [pmk]
  | k + 1 => by
    have h := pmk_lt p k
    have h2 : (2 : Nat) ^ k < 2 ^ (k + 1) := Nat.pow_lt_pow_right (by omega) (by omega)
    unfold pmk
    split
    · exact Nat.or_lt_two_pow (Nat.lt_trans h h2) h2
    · exact Nat.lt_trans h h2
theorem pmk_bit (p : Nat → Bool) (i : Nat) : ∀ k, (pmk p k).testBit i = (decide (i < k) && p i)
  | 0 => by simp [pmk]
  | k + 1 => by
    have ih := pmk_bit p i k
    by_cases hk : p k = true
    · rw [pmk_yes hk, Nat.testBit_or, ih, Nat.testBit_two_pow]
      by_cases hi : i = k
      · subst hi; simp [hk]
      · have e1 : decide (k = i) = false := decide_eq_false (fun h => hi h.symm)
        have e2 : decide (i < k + 1) = decide (i < k) := by congr 1; exact propext ⟨fun _ => by omega, fun _ => by omega⟩
        rw [e1, e2, Bool.or_false]
    · rw [pmk_no (by simpa using hk), ih]
      by_cases hi : i = k
      · subst hi
        have : p i = false := by simpa using hk
        simp [this]
      · have e2 : decide (i < k + 1) = decide (i < k) := by congr 1; exact propext ⟨fun _ => by omega, fun _ => by omega⟩
        rw [e2]

def atB (V : List Nat) (x y : Nat) : Bool := (List.range 6).all fun v => (nt V v).testBit x == (nt V v).testBit y
theorem atB_iff {V : List Nat} {x y : Nat} : atB V x y = true ↔ ∀ v, v < 6 → (nt V v).testBit x = (nt V v).testBit y := by
  unfold atB
  rw [List.all_eq_true]
  simp only [List.mem_range, beq_iff_eq]
def fthB (A L : List Nat) (x y : Nat) : Bool := (mbs (nt A x)).all fun s => !(nt L s &&& nt A y == 0)
def bakB (A L : List Nat) (x y : Nat) : Bool := dif (nt A y) (img L (nt A x)) == 0
def stB (A V L : List Nat) (x y : Nat) : Bool := atB V x y && (fthB A L x y && bakB A L x y)
def lks (A V : List Nat) : Nat → List Nat
  | 0 => (List.range A.length).map fun x => pmk (atB V x) A.length
  | k + 1 => (List.range A.length).map fun x => pmk (stB A V (lks A V k) x) A.length
theorem lks_len (A V : List Nat) (k : Nat) : (lks A V k).length = A.length := by cases k <;> simp [lks]
theorem nt_map {f : Nat → Nat} {n x : Nat} (h : x < n) : nt ((List.range n).map f) x = f x := by simp [nt, List.getD, h]
theorem lks_lt (A V : List Nat) (k : Nat) : ∀ m ∈ lks A V k, m < 2 ^ A.length := by
  intro m hm
  cases k <;>
  · unfold lks at hm
    obtain ⟨x, _, rfl⟩ := List.mem_map.1 hm
    exact pmk_lt _ _
def bsm (A V : List Nat) : Nat → Nat → Nat → Prop
  | 0, x, y => atB V x y = true
  | k + 1, x, y => atB V x y = true ∧ (∀ i, rl A x i → ∃ j, rl A y j ∧ bsm A V k i j) ∧ ∀ j, rl A y j → ∃ i, rl A x i ∧ bsm A V k i j
theorem and_zero {a b : Nat} : a &&& b = 0 ↔ ∀ z, a.testBit z = true → b.testBit z = true → False := by
  constructor
  · intro h z h1 h2
    have := congrArg (fun n => n.testBit z) h
    simp [Nat.testBit_and, h1, h2] at this
  · intro h
    refine Nat.eq_of_testBit_eq fun z => ?_
    rw [Nat.testBit_and, Nat.zero_testBit]
    cases h1 : a.testBit z with
    | false => rfl
    | true =>
      cases h2 : b.testBit z with
      | false => rfl
      | true => exact (h z h1 h2).elim
theorem fthB_iff {A L : List Nat} (hA : Rl A) {x y : Nat} (hx : x < A.length) : fthB A L x y = true ↔ ∀ i, rl A x i → ∃ j, rl A y j ∧ (nt L i).testBit j = true := by
  unfold fthB
  rw [List.all_eq_true]
  constructor
  · intro h i hi
    have h1 := h i ((mbs_mem (hA.sm.at_ hx)).2 hi)
    rw [Bool.not_eq_true', beq_eq_false_iff_ne] at h1
    refine Classical.byContradiction fun hc => h1 (and_zero.2 fun z h2 h3 => hc ⟨z, h3, h2⟩)
  · intro h i hi
    obtain ⟨j, h1, h2⟩ := h i ((mbs_mem (hA.sm.at_ hx)).1 hi)
    rw [Bool.not_eq_true', beq_eq_false_iff_ne]
    intro h3
    exact and_zero.1 h3 j h2 h1
theorem bakB_iff {A L : List Nat} (hA : Rl A) {x y : Nat} (hx : x < A.length) : bakB A L x y = true ↔ ∀ j, rl A y j → ∃ i, rl A x i ∧ (nt L i).testBit j = true := by
  unfold bakB
  rw [beq_iff_eq, dif_zero]
  constructor
  · intro h j hj
    exact (img_bit (hA.sm.at_ hx) j).1 (h j hj)
  · intro h j hj
    exact (img_bit (hA.sm.at_ hx) j).2 (h j hj)
theorem lks_bit {A V : List Nat} (hA : Rl A) : ∀ (k x y : Nat), x < A.length → ((nt (lks A V k) x).testBit y = true ↔ y < A.length ∧ bsm A V k x y)
  | 0, x, y, hx => by
    unfold lks
    rw [nt_map hx, pmk_bit, Bool.and_eq_true, decide_eq_true_eq]
    exact Iff.rfl
  | k + 1, x, y, hx => by
    unfold lks
    rw [nt_map hx, pmk_bit, Bool.and_eq_true, decide_eq_true_eq]
    refine and_congr_right fun hy => ?_
    unfold stB bsm
    rw [Bool.and_eq_true, Bool.and_eq_true, fthB_iff hA hx, bakB_iff hA hx]
    refine and_congr_right fun _ => and_congr ?_ ?_
    · refine forall_congr' fun i => imp_congr_right fun hi => exists_congr fun j => and_congr_right fun hj => ?_
      rw [lks_bit hA k i j (hA.bit hx hi)]
      exact ⟨fun h => h.2, fun h => ⟨hA.bit hy hj, h⟩⟩
    · refine forall_congr' fun j => imp_congr_right fun hj => exists_congr fun i => and_congr_right fun hi => ?_
      rw [lks_bit hA k i j (hA.bit hx hi)]
      exact ⟨fun h => h.2, fun h => ⟨hA.bit hy hj, h⟩⟩

def vr (v : Nat) : Tree := .var ⟨v % 6, Nat.mod_lt _ (by omega)⟩
def lit (V : List Nat) (w v : Nat) : Tree := if (nt V v).testBit w = true then vr v else .imp (vr v) .fls
def lits (V : List Nat) (n w : Nat) : List Tree := (List.range n).map (lit V w)
def jnT (op : Tree → Tree → Tree) (e : Tree) : List Tree → Tree
  | [] => e
  | a :: r => r.foldl op a
theorem tr_and {R : Nat → Nat → Prop} {V : Nat → Nat → Prop} {x : Nat} : ∀ (L : List Tree), tr R V (jnT .and (.imp .fls .fls) L) x ↔ ∀ a ∈ L, tr R V a x
  | [] => by simp [jnT, tr]
  | a :: r => by
    have key : ∀ (r : List Tree) (a : Tree), tr R V (r.foldl .and a) x ↔ tr R V a x ∧ ∀ b ∈ r, tr R V b x := by
      intro r
      induction r with
      | nil => intro a; simp
      | cons b r ih => intro a; rw [List.foldl_cons, ih]; simp [tr, and_assoc]
    show tr R V (r.foldl .and a) x ↔ _
    rw [key]
    simp
theorem tr_or {R : Nat → Nat → Prop} {V : Nat → Nat → Prop} {x : Nat} : ∀ (L : List Tree), tr R V (jnT .or .fls L) x ↔ ∃ a ∈ L, tr R V a x
  | [] => by simp [jnT, tr]
  | a :: r => by
    have key : ∀ (r : List Tree) (a : Tree), tr R V (r.foldl .or a) x ↔ tr R V a x ∨ ∃ b ∈ r, tr R V b x := by
      intro r
      induction r with
      | nil => intro a; simp
      | cons b r ih => intro a; rw [List.foldl_cons, ih]; simp [tr, or_assoc]
    show tr R V (r.foldl .or a) x ↔ _
    rw [key]
    simp
noncomputable def foM (s : ByteArray) : Tree := @dite _ (∃ A : Tree, (Fm.enc A).length ≤ 40 ∧ tx A = s) (Classical.propDecidable _) (fun h => Classical.choose h) (fun _ => .fls)
theorem foM_tx {A : Tree} (h : (Fm.enc A).length ≤ 40) : foM (tx A) = A := by
  have hx : ∃ B : Tree, (Fm.enc B).length ≤ 40 ∧ tx B = tx A := ⟨A, h, rfl⟩
  unfold foM
  rw [dif_pos hx]
  obtain ⟨h1, h2⟩ := Classical.choose_spec hx
  exact tx_inj h1 h h2
noncomputable def srtT (L : List Tree) : List Tree := (putS (L.map tx)).map foM
theorem srtT_mem {L : List Tree} (h : ∀ a ∈ L, (Fm.enc a).length ≤ 40) {a : Tree} : a ∈ srtT L ↔ a ∈ L := by
  unfold srtT
  simp only [List.mem_map, putS_mem]
  constructor
  · rintro ⟨s, ⟨b, hb, rfl⟩, rfl⟩
    rw [foM_tx (h b hb)]
    exact hb
  · intro ha
    exact ⟨tx a, ⟨a, ha, rfl⟩, foM_tx (h a ha)⟩
theorem srtT_tx {L : List Tree} (h : ∀ a ∈ L, (Fm.enc a).length ≤ 40) : (srtT L).map tx = putS (L.map tx) := by
  unfold srtT
  rw [List.map_map]
  conv => rhs; rw [← List.map_id (putS (L.map tx))]
  refine List.map_congr_left fun s hs => ?_
  rw [putS_mem] at hs
  obtain ⟨b, hb, rfl⟩ := List.mem_map.1 hs
  show tx (foM (tx b)) = _
  rw [foM_tx (h b hb)]
  rfl
noncomputable def upT (lt : List Tree) (seen : List (Option Tree)) : Option Tree :=
  if seen.all (·.isSome) = true then
    (let T := jnT .and (.imp .fls .fls) (lt ++ (srtT (seen.filterMap id)).map .dia ++ [.box (jnT .or .fls (srtT (seen.filterMap id)))])
     if (Fm.enc T).length ≤ 40 then some T else none)
  else none
noncomputable def wlT (A V : List Nat) (n : Nat) : Nat → Nat → Option Tree
  | 0, w => some (jnT .and (.imp .fls .fls) (lits V n w))
  | k + 1, w => upT (lits V n w) ((mbs (nt A w)).map (wlT A V n k))
theorem upT_ok {lt : List Tree} {seen : List (Option Tree)} {T : Tree} (h : upT lt seen = some T) :
    (∀ o ∈ seen, ∃ a, o = some a) ∧ T = jnT .and (.imp .fls .fls) (lt ++ (srtT (seen.filterMap id)).map .dia ++ [.box (jnT .or .fls (srtT (seen.filterMap id)))]) ∧ (Fm.enc T).length ≤ 40 := by
  unfold upT at h
  split at h
  · rename_i h1
    dsimp only at h
    split at h
    · rename_i h2
      simp only [Option.some.injEq] at h
      subst h
      refine ⟨fun o ho => ?_, rfl, h2⟩
      have := List.all_eq_true.1 h1 o ho
      cases o with
      | none => cases this
      | some a => exact ⟨a, rfl⟩
    · cases h
  · cases h
theorem jn_len (k : Tree → Tree → Tree) (hk : ∀ a b, (Fm.enc (k a b)).length = 1 + (Fm.enc a).length + (Fm.enc b).length) : ∀ (r : List Tree) (a : Tree) (N : Nat), (∀ b ∈ r, (Fm.enc b).length ≤ N) → (Fm.enc (r.foldl k a)).length ≤ (Fm.enc a).length + r.length * (N + 1)
  | [], a, N, _ => by simp
  | b :: r, a, N, h => by
    rw [List.foldl_cons, List.length_cons, Nat.succ_mul]
    have h1 := jn_len k hk r (k a b) N (fun c hc => h c (List.mem_cons_of_mem _ hc))
    have h2 := hk a b
    have h3 := h b (List.mem_cons_self ..)
    omega
theorem lit_len (V : List Nat) (w v : Nat) : (Fm.enc (lit V w v)).length ≤ 3 := by
  unfold lit vr
  split <;> simp [Fm.enc]
theorem wlT_len {A V : List Nat} {n : Nat} (hn : n ≤ 6) : ∀ {k w : Nat} {T : Tree}, wlT A V n k w = some T → (Fm.enc T).length ≤ 40
  | 0, w, T, h => by
    unfold wlT at h
    simp only [Option.some.injEq] at h
    subst h
    unfold jnT
    split
    · simp [Fm.enc]
    · rename_i a r he
      have hl := congrArg List.length he
      have hm : ∀ b ∈ a :: r, (Fm.enc b).length ≤ 3 := fun b hb => by
        rw [← he] at hb
        obtain ⟨v, _, rfl⟩ := List.mem_map.1 hb
        exact lit_len V w v
      have h1 := jn_len .and (fun a b => by simp [Fm.enc]; omega) r a 3 (fun b hb => hm b (List.mem_cons_of_mem _ hb))
      have h2 := hm a (List.mem_cons_self ..)
      simp only [lits, List.length_map, List.length_range, List.length_cons] at hl
      omega
  | k + 1, w, T, h => (upT_ok h).2.2
theorem wlT_congr {A V V' : List Nat} {n : Nat} (h : ∀ v, v < n → nt V v = nt V' v) : ∀ k w, wlT A V n k w = wlT A V' n k w
  | 0, w => by
    have : lits V n w = lits V' n w := List.map_congr_left fun v hv => by unfold lit; rw [h v (List.mem_range.1 hv)]
    unfold wlT
    rw [this]
  | k + 1, w => by
    have e1 : lits V n w = lits V' n w := List.map_congr_left fun v hv => by unfold lit; rw [h v (List.mem_range.1 hv)]
    have e2 : (mbs (nt A w)).map (wlT A V n k) = (mbs (nt A w)).map (wlT A V' n k) := List.map_congr_left fun v _ => wlT_congr h k v
    unfold wlT
    rw [e1, e2]
theorem tr_vr {R : Nat → Nat → Prop} {V : List Nat} {v x : Nat} (hv : v < 6) : tr R (vl V) (vr v) x ↔ (nt V v).testBit x = true := by
  show (nt V (v % 6)).testBit x = true ↔ _
  rw [Nat.mod_eq_of_lt hv]
theorem tr_lits {R : Nat → Nat → Prop} {V : List Nat} {n w y : Nat} (hn : n ≤ 6) (hV : ∀ v, n ≤ v → v < 6 → nt V v = 0) : (∀ a ∈ lits V n w, tr R (vl V) a y) ↔ atB V w y = true := by
  rw [atB_iff]
  have key : ∀ v, v < 6 → (tr R (vl V) (lit V w v) y ↔ (nt V v).testBit w = (nt V v).testBit y) := by
    intro v hv
    unfold lit
    cases hw : (nt V v).testBit w with
    | true =>
      rw [if_pos rfl, tr_vr hv]
      exact ⟨fun h => h.symm, fun h => h.symm⟩
    | false =>
      rw [if_neg (by simp)]
      show (tr R (vl V) (vr v) y → False) ↔ _
      rw [tr_vr hv]
      cases (nt V v).testBit y <;> simp
  constructor
  · intro h v hv
    by_cases hvn : v < n
    · exact (key v hv).1 (h _ (List.mem_map.2 ⟨v, List.mem_range.2 hvn, rfl⟩))
    · rw [hV v (by omega) hv]; simp
  · intro h a ha
    obtain ⟨v, hv, rfl⟩ := List.mem_map.1 ha
    have hv := List.mem_range.1 hv
    exact (key v (by omega)).2 (h v (by omega))
theorem wl_true {A V : List Nat} {n : Nat} (hA : Rl A) (hn : n ≤ 6) (hV : ∀ v, n ≤ v → v < 6 → nt V v = 0) : ∀ (k w : Nat) (T : Tree), w < A.length → wlT A V n k w = some T → ∀ y, y < A.length → (tr (rl A) (vl V) T y ↔ bsm A V k w y)
  | 0, w, T, hw, h, y, hy => by
    unfold wlT at h
    simp only [Option.some.injEq] at h
    subst h
    rw [tr_and, tr_lits hn hV]
    exact Iff.rfl
  | k + 1, w, T, hw, h, y, hy => by
    obtain ⟨h1, rfl, _⟩ := upT_ok h
    have hso : ∀ i, rl A w i → ∃ T, wlT A V n k i = some T := fun i hi => h1 _ (List.mem_map.2 ⟨i, (mbs_mem (hA.sm.at_ hw)).2 hi, rfl⟩)
    have hfm : ∀ a, a ∈ ((mbs (nt A w)).map (wlT A V n k)).filterMap id ↔ ∃ i, rl A w i ∧ wlT A V n k i = some a := by
      intro a
      simp only [List.mem_filterMap, List.mem_map, id]
      constructor
      · rintro ⟨o, ⟨i, hi, rfl⟩, ho⟩
        exact ⟨i, (mbs_mem (hA.sm.at_ hw)).1 hi, ho⟩
      · rintro ⟨i, hi, ho⟩
        exact ⟨_, ⟨i, (mbs_mem (hA.sm.at_ hw)).2 hi, rfl⟩, ho⟩
    have hsz : ∀ a ∈ ((mbs (nt A w)).map (wlT A V n k)).filterMap id, (Fm.enc a).length ≤ 40 := fun a ha => by
      obtain ⟨i, _, hi⟩ := (hfm a).1 ha
      exact wlT_len hn hi
    generalize ((mbs (nt A w)).map (wlT A V n k)).filterMap id = S at *
    rw [tr_and]
    have e : (∀ a ∈ lits V n w ++ (srtT S).map .dia ++ [.box (jnT .or .fls (srtT S))], tr (rl A) (vl V) a y) ↔
        (∀ a ∈ lits V n w, tr (rl A) (vl V) a y) ∧ (∀ a ∈ S, ∃ j, rl A y j ∧ tr (rl A) (vl V) a j) ∧ (∀ j, rl A y j → ∃ a ∈ S, tr (rl A) (vl V) a j) := by
      simp only [List.mem_append, List.mem_map, List.mem_singleton]
      constructor
      · intro hh
        refine ⟨fun a ha => hh a (.inl (.inl ha)), fun a ha => hh (.dia a) (.inl (.inr ⟨a, (srtT_mem hsz).2 ha, rfl⟩)), fun j hj => ?_⟩
        obtain ⟨a, ha, ht⟩ := (tr_or _).1 (hh _ (.inr rfl) j hj)
        exact ⟨a, (srtT_mem hsz).1 ha, ht⟩
      · rintro ⟨hh1, hh2, hh3⟩ a ((ha | ⟨b, hb, rfl⟩) | rfl)
        · exact hh1 a ha
        · exact hh2 b ((srtT_mem hsz).1 hb)
        · intro j hj
          obtain ⟨a, ha, ht⟩ := hh3 j hj
          exact (tr_or _).2 ⟨a, (srtT_mem hsz).2 ha, ht⟩
    rw [e, tr_lits hn hV]
    unfold bsm
    refine and_congr_right fun _ => and_congr ?_ ?_
    · constructor
      · intro hh i hi
        obtain ⟨T, hT⟩ := hso i hi
        obtain ⟨j, hj, ht⟩ := hh T ((hfm T).2 ⟨i, hi, hT⟩)
        exact ⟨j, hj, (wl_true hA hn hV k i T (hA.bit hw hi) hT j (hA.bit hy hj)).1 ht⟩
      · intro hh a ha
        obtain ⟨i, hi, hT⟩ := (hfm a).1 ha
        obtain ⟨j, hj, ht⟩ := hh i hi
        exact ⟨j, hj, (wl_true hA hn hV k i a (hA.bit hw hi) hT j (hA.bit hy hj)).2 ht⟩
    · constructor
      · intro hh j hj
        obtain ⟨a, ha, ht⟩ := hh j hj
        obtain ⟨i, hi, hT⟩ := (hfm a).1 ha
        exact ⟨i, hi, (wl_true hA hn hV k i a (hA.bit hw hi) hT j (hA.bit hy hj)).1 ht⟩
      · intro hh j hj
        obtain ⟨i, hi, ht⟩ := hh j hj
        obtain ⟨T, hT⟩ := hso i hi
        exact ⟨T, (hfm T).2 ⟨i, hi, hT⟩, (wl_true hA hn hV k i T (hA.bit hw hi) hT j (hA.bit hy hj)).2 ht⟩
theorem wl_mv {A V : List Nat} {n k w : Nat} {T : Tree} (hA : Rl A) (hn : n ≤ 6) (hl : ∀ m ∈ V, m < 2 ^ A.length) (hV : ∀ v, n ≤ v → v < 6 → nt V v = 0) (hw : w < A.length) (h : wlT A V n k w = some T) : mv A V T = nt (lks A V k) w := by
  refine Nat.eq_of_testBit_eq fun y => ?_
  have h1 := mv_lt hl T
  have h2 : nt (lks A V k) w < 2 ^ A.length := lks_lt A V k _ (nt_mem (by rw [lks_len]; exact hw))
  by_cases hy : y < A.length
  · have e1 := mv_bit hA (V := V) T y hy
    have e2 := lks_bit hA (V := V) k w y hw
    rw [wl_true hA hn hV k w T hw h y hy] at e1
    rw [Bool.eq_iff_iff, e1, e2]
    exact ⟨fun h => ⟨hy, h⟩, fun h => h.2⟩
  · have hp : 2 ^ A.length ≤ 2 ^ y := Nat.pow_le_pow_right (by omega) (by omega)
    rw [Nat.testBit_lt_two_pow (Nat.lt_of_lt_of_le h1 hp), Nat.testBit_lt_two_pow (Nat.lt_of_lt_of_le h2 hp)]
end Go.Proofs.YtjlnompmhgjaaaaGreat


/- Sorting formulas by their texts, plain: what an insertion keeps. No program is in sight. -/
namespace Go.Proofs.YtjlnompmhgjaaaaGreat
open Go.RowKit
open Fm (Nd Tree)

def leT (a b : Tree) : Prop := (tx a).data.toList ≤ (tx b).data.toList
def ltT (a b : Tree) : Prop := (tx a).data.toList < (tx b).data.toList
theorem leT_trans {a b c : Tree} (h : leT a b) (h2 : leT b c) : leT a c := List.le_trans h h2
theorem leT_of_lt {a b : Tree} (h : ltT a b) : leT a b := List.not_lt.1 (fun h2 => List.lt_irrefl _ (List.lt_trans h h2))
theorem leT_of_not {a b : Tree} (h : ¬ ltT a b) : leT b a := List.not_lt.1 h
def swF {α : Type} (F : Nat → α) (j i : Nat) : α := if i = j then F (j - 1) else if i = j - 1 then F j else F i
theorem swF_at {α : Type} (F : Nat → α) (j : Nat) : swF F j j = F (j - 1) := if_pos rfl
theorem swF_below {α : Type} (F : Nat → α) {j : Nat} (h : 0 < j) : swF F j (j - 1) = F j := by unfold swF; rw [if_neg (by omega), if_pos rfl]
theorem swF_else {α : Type} (F : Nat → α) {j i : Nat} (h : i ≠ j) (h2 : i ≠ j - 1) : swF F j i = F i := by unfold swF; rw [if_neg h, if_neg h2]
def SrtK (T : Nat → Tree) (i : Nat) : Prop := ∀ p q, p < q → q < i → leT (T p) (T q)
def SrtM (T : Nat → Tree) (i j : Nat) : Prop := (∀ p q, p < q → q < i + 1 → p ≠ j → q ≠ j → leT (T p) (T q)) ∧ ∀ q, j < q → q < i + 1 → leT (T j) (T q)
theorem SrtK.start {T : Nat → Tree} {i : Nat} (h : SrtK T i) : SrtM T i i := ⟨fun p q h1 h2 _ h4 => h p q h1 (by omega), fun q h1 h2 => absurd h1 (by omega)⟩
theorem SrtM.step {T : Nat → Tree} {i j : Nat} (h : SrtM T i j) (hj : 0 < j) (hl : ltT (T j) (T (j - 1))) : SrtM (swF T j) i (j - 1) := by
  refine ⟨fun p q h1 h2 h3 h4 => ?_, fun q h1 h2 => ?_⟩
  · by_cases hq : q = j
    · subst hq
      rw [swF_at, swF_else T (by omega) h3]
      exact h.1 p (q - 1) (by omega) (by omega) (by omega) (by omega)
    · by_cases hp : p = j
      · subst hp
        rw [swF_at, swF_else T hq h4]
        exact h.1 (p - 1) q (by omega) h2 (by omega) hq
      · rw [swF_else T hp h3, swF_else T hq h4]
        exact h.1 p q h1 h2 hp hq
  · rw [swF_below T hj]
    by_cases hq : q = j
    · subst hq
      rw [swF_at]
      exact leT_of_lt hl
    · rw [swF_else T hq (by omega)]
      exact h.2 q (by omega) h2
theorem SrtM.done {T : Nat → Tree} {i j : Nat} (h : SrtM T i j) (hd : j = 0 ∨ ¬ ltT (T j) (T (j - 1))) : SrtK T (i + 1) := by
  intro p q h1 h2
  by_cases hq : q = j
  · subst hq
    rcases hd with hd | hd
    · omega
    · have h3 := leT_of_not hd
      by_cases hp : p = q - 1
      · rw [hp]; exact h3
      · exact leT_trans (h.1 p (q - 1) (by omega) (by omega) (by omega) (by omega)) h3
  · by_cases hp : p = j
    · subst hp; exact h.2 q h1 h2
    · exact h.1 p q h1 h2 hp hq
def MemK (T T0 : Nat → Tree) (n : Nat) : Prop := ∀ t, (∃ k, k < n ∧ T k = t) ↔ ∃ k, k < n ∧ T0 k = t
theorem MemK.refl (T : Nat → Tree) (n : Nat) : MemK T T n := fun _ => Iff.rfl
theorem MemK.sw {T T0 : Nat → Tree} {n j : Nat} (h : MemK T T0 n) (hj : 0 < j) (hn : j < n) : MemK (swF T j) T0 n := by
  intro t
  rw [← h t]
  constructor
  · rintro ⟨k, hk, rfl⟩
    by_cases h1 : k = j
    · subst h1; exact ⟨k - 1, by omega, (swF_at T k).symm⟩
    · by_cases h2 : k = j - 1
      · subst h2; exact ⟨j, hn, (swF_below T hj).symm⟩
      · exact ⟨k, hk, (swF_else T h1 h2).symm⟩
  · rintro ⟨k, hk, rfl⟩
    by_cases h1 : k = j
    · subst h1; exact ⟨k - 1, by omega, swF_below T hj⟩
    · by_cases h2 : k = j - 1
      · subst h2; exact ⟨j, hn, swF_at T j⟩
      · exact ⟨k, hk, swF_else T h1 h2⟩
end Go.Proofs.YtjlnompmhgjaaaaGreat


/- Appends of numbers. -/
namespace Go.Proofs.YtjlnompmhgjaaaaGreat
open Go.RowKit

theorem wpList_appI {ops : Array Oper} {rest : List Oper} {o : Oper} {a : Act} {Q : Exit → Act → World → Prop} {w w0 : World} (s x : Operand) (hgd : o.guard = none)
    (ho : o.op = .call { callee := .builtin .append, args := #[s, x], argTypes := #[24, 24] })
    (v : Value) (L : List Int) (hs : a.eval s = v) (hown : OwnI w w0.heap.size v L) (hg : Grew w0 w) (vx : Value) (k : Int) (hx : a.eval x = vx) (hr : Rd w 1 vx 1 [.int .i64 k]) (hn : L.length ≤ 1048576)
    (h : ∀ v' w', OwnI w' w0.heap.size v' (L ++ [k]) → Grew w0 w' → w.grownBy w' v.ownBlock → wpList Tryz.prog ops Q rest (a.put o.dst v') w') : wpList Tryz.prog ops Q (o :: rest) a w := by
  obtain ⟨i0, hi0, hz0, hz1, hz2⟩ := info_parts Tryz.infoI
  refine wpList_append_rd w hgd s x _ ho w0.heap.size 2 i0 _ 1 8 Tryz.underlying24 hi0 hz0 hz1 hz2 rfl (by omega) v L.length (icells L) hs hown vx 1 [.int .i64 k] hx hr (by simp [Value.oneCell']) (by unfold maxLen; omega) (by omega) hg.size ?_
  intro v' w' h1 h2 h3
  refine h v' w' ?_ (hg.grown h2 fun k hk => (hown.lt k hk).1) h2
  unfold OwnI
  rw [List.length_append, icells_append]
  exact h1
theorem rd_litI (w : World) (k : Int) (t : TypeId) : Rd (w.alloc (.cells #[.int .i64 k] t)) 1 (.slice (some ⟨w.heap.size, 0, none⟩) 1 1) 1 [.int .i64 k] := by
  refine ⟨rfl, by omega, .inr ⟨w.heap.size, 0, 1, rfl, by omega, by omega, by simp, fun j x hx => ?_⟩⟩
  have hj : j = 0 := by
    have := (List.getElem?_eq_some_iff.1 hx).1
    simp at this
    omega
  subst hj
  simp at hx
  subst hx
  simp
theorem own_emptyI (w : World) : OwnI (w.alloc (.cells #[] 2)) w.heap.size (.slice (some ⟨w.heap.size, 0, none⟩) 0 0) [] :=
  World.ownsRow_lit (e := 2) (size := 1) w #[] 0 (Nat.le_refl _) (by omega) rfl
end Go.Proofs.YtjlnompmhgjaaaaGreat


/- Masks: single members (has, within; l01Bit, l01One). -/
namespace Go.Proofs.YtjlnompmhgjaaaaGreat
open Go.RowKit
theorem has_q (m i : Nat) (hm : m < 9223372036854775808) (hi : i < 64) (w : World) :
    Calls Tryz.prog 39 #[.int .i64 (m : Int), .int .i64 (i : Int)] w fun e w' => e = .returned (.bool (m.testBit i)) ∧ w' = w := by
  have hb := bit_e m i hm
  go_enter Tryz.func39, Tryz.ntmps39
  go_wp2_with fail
  go_ret
  exact ⟨rfl, rfl⟩
theorem has_c (m i : Nat) (hm : m < 9223372036854775808) (hi : i < 64) (w : World) :
    Calls Tryz.prog 39 #[.int .i64 (m : Int), .int .i64 (i : Int)] w fun e w' => e = .returned (.bool (m.testBit i)) ∧ Grew w w' :=
  (has_q m i hm hi w).mono fun _ _ h => ⟨h.1, h.2 ▸ Grew.refl _⟩
theorem l01Bit_q (m i : Nat) (hm : m < 9223372036854775808) (hi : i < 64) (w : World) :
    Calls Tryz.prog 44 #[.int .i64 (m : Int), .int .i64 (i : Int)] w fun e w' => e = .returned (.bool (m.testBit i)) ∧ w' = w := by
  have hb := bit_e m i hm
  go_enter Tryz.func44, Tryz.ntmps44
  go_wp2_with fail
  go_ret
  exact ⟨rfl, rfl⟩
theorem l01Bit_c (m i : Nat) (hm : m < 9223372036854775808) (hi : i < 64) (w : World) :
    Calls Tryz.prog 44 #[.int .i64 (m : Int), .int .i64 (i : Int)] w fun e w' => e = .returned (.bool (m.testBit i)) ∧ Grew w w' :=
  (l01Bit_q m i hm hi w).mono fun _ _ h => ⟨h.1, h.2 ▸ Grew.refl _⟩
theorem l01One_q (i : Nat) (hi : i ≤ 30) (w : World) :
    Calls Tryz.prog 94 #[.int .i64 (i : Int)] w fun e w' => e = .returned (.int .i64 ((2 ^ i : Nat) : Int)) ∧ w' = w := by
  have hb := wrap_pow hi
  go_enter Tryz.func94, Tryz.ntmps94
  go_wp2_with fail
  go_ret
  exact ⟨congrArg (fun b => Ending.returned (.int .i64 b)) hb, rfl⟩
theorem l01One_c (i : Nat) (hi : i ≤ 30) (w : World) :
    Calls Tryz.prog 94 #[.int .i64 (i : Int)] w fun e w' => e = .returned (.int .i64 ((2 ^ i : Nat) : Int)) ∧ Grew w w' :=
  (l01One_q i hi w).mono fun _ _ h => ⟨h.1, h.2 ▸ Grew.refl _⟩
theorem l01Full_q (i : Nat) (hi : i ≤ 30) (w : World) :
    Calls Tryz.prog 63 #[.int .i64 (i : Int)] w fun e w' => e = .returned (.int .i64 (((2 ^ i : Nat) : Int) - 1)) ∧ w' = w := by
  have hp := pow30' hi
  have HO := Lib.hid (l01One_q i hi)
  generalize (2 ^ i : Nat) = p at *
  go_enter Tryz.func63, Tryz.ntmps63
  go_wp2_with fail
  refine (HO.out _).mono ?_
  rintro e w1 ⟨rfl, rfl⟩
  go_wp2_with fail
  go_ret
  exact ⟨rfl, rfl⟩
theorem within_q (m i : Nat) (hm : m < 9223372036854775808) (hi : i < 9223372036854775808) (w : World) :
    Calls Tryz.prog 91 #[.int .i64 (m : Int), .int .i64 (i : Int)] w fun e w' => e = .returned (.bool (decide (dif m i = 0))) ∧ w' = w := by
  have hb := andNot_i64 m i hm hi
  go_enter Tryz.func91, Tryz.ntmps91
  go_wp2_with fail
  go_ret
  refine ⟨congrArg (fun b => Ending.returned (.bool b)) ?_, rfl⟩
  rw [Bool.eq_iff_iff]
  simp
theorem within_c (m i : Nat) (hm : m < 9223372036854775808) (hi : i < 9223372036854775808) (w : World) :
    Calls Tryz.prog 91 #[.int .i64 (m : Int), .int .i64 (i : Int)] w fun e w' => e = .returned (.bool (decide (dif m i = 0))) ∧ Grew w w' :=
  (within_q m i hm hi w).mono fun _ _ h => ⟨h.1, h.2 ▸ Grew.refl _⟩
theorem inRange_q (k lo hi : Int) (w : World) : Calls Tryz.prog 19 #[.int .i64 k, .int .i64 lo, .int .i64 hi] w fun e w' => e = .returned (.bool (decide (lo ≤ k ∧ k ≤ hi))) ∧ w' = w := by
  by_cases h : lo ≤ k
  · have hd : decide (lo ≤ k ∧ k ≤ hi) = decide (k ≤ hi) := by simp [h]
    rw [hd]
    go_enter Tryz.func19, Tryz.ntmps19
    go_wp2_with fail
    go_ret
    exact ⟨rfl, rfl⟩
  · have hd : decide (lo ≤ k ∧ k ≤ hi) = false := by simp [h]
    rw [hd]
    go_enter Tryz.func19, Tryz.ntmps19
    go_wp2_with fail
    go_ret
    exact ⟨rfl, rfl⟩
theorem l01In_q (k lo hi : Int) (w : World) : Calls Tryz.prog 23 #[.int .i64 k, .int .i64 lo, .int .i64 hi] w fun e w' => e = .returned (.bool (decide (lo ≤ k ∧ k ≤ hi))) ∧ w' = w := by
  by_cases h : lo ≤ k
  · have hd : decide (lo ≤ k ∧ k ≤ hi) = decide (k ≤ hi) := by simp [h]
    rw [hd]
    go_enter Tryz.func23, Tryz.ntmps23
    go_wp2_with fail
    go_ret
    exact ⟨rfl, rfl⟩
  · have hd : decide (lo ≤ k ∧ k ≤ hi) = false := by simp [h]
    rw [hd]
    go_enter Tryz.func23, Tryz.ntmps23
    go_wp2_with fail
    go_ret
    exact ⟨rfl, rfl⟩
end Go.Proofs.YtjlnompmhgjaaaaGreat

