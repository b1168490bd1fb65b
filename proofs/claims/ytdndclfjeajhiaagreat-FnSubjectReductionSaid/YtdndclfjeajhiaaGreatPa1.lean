/- Texts in one file: Base Parse0 Nodes Tm TmCont Src Strs SrD Parse1 Tree EncI Lit Join TakeP WalkP WalkA Round ParseI Take WalkQ WalkB ParseF Part Agree Equal. -/
import Derived.WalkKit
import Derived.WalkSpells
import Derived.WalkLawsBesides
import Derived.Lib.Hide
import Derived.Deep.Draws
import Derived.Deep.AppendLies
import Derived.Maps.AppendAt
import Derived.Lib.AppendZerosOnto
import Derived.Test.YtdndclfjeajhiaaGreatProg
import Derived.Deep.RegionHeld3
import Derived.Deep.QuietTactic
import Derived.BigQuiet
import Derived.Deep.LoopGhost
import Derived.Outline
import Derived.Shelf.Abstract
import Derived.Conc.WgArith
import Derived.Laws.Bits64
import Derived.OwnWalk
import Derived.Lib.SlicesS
import Derived.Lib.OthersKept
set_option linter.all false

/- Words for memory: what a call leaves as it was, a slice that reads as a row of cells, an append onto a row of the call's own. No program is in sight. -/
namespace Go.Proofs.YtdndclfjeajhiaaGreat
open Go.RowKit

/-- Nothing that was there has changed; there may be new blocks. -/
def Grew (a b : World) : Prop := Below a.heap.size a b
theorem Grew.refl (w : World) : Grew w w := Below.refl _ _
theorem Grew.size {a b : World} (h : Grew a b) : a.heap.size ≤ b.heap.size := Below.size h
theorem Grew.trans {a b c : World} (h : Grew a b) (k : Grew b c) : Grew a c := Below.trans h (Below.mono k (Below.size h))
theorem Grew.drew {a b : World} (h : Grew a b) : Grew a b.drew := Below.drew h
theorem Grew.drewN {a b : World} (h : Grew a b) (n : Nat) : Grew a (b.drewN n) := ⟨h.os, h.tape, h.output, h.size, h.block⟩
theorem Grew.alloc {a b : World} (h : Grew a b) (o : Obj) : Grew a (b.alloc o) := Below.alloc h (Below.size h) o
theorem Grew.of_drew {a b : World} (h : Grew a.drew b) : Grew a b := ⟨h.os, h.tape, h.output, h.size, h.block⟩
theorem Grew.of_drewN {a b : World} {n : Nat} (h : Grew (a.drewN n) b) : Grew a b := ⟨h.os, h.tape, h.output, h.size, h.block⟩
theorem Grew.of_alloc {a b : World} {o : Obj} (h : Grew (a.alloc o) b) : Grew a b := ((Grew.refl a).alloc o).trans h
theorem Grew.setCell {a b : World} (h : Grew a b) {p : Addr} (hp : a.heap.size ≤ p.block) (u : Value) : Grew a (b.setCell p u) := Below.setCell h hp u
theorem Grew.cell {a b : World} (h : Grew a b) {p : Addr} (hp : p.block < a.heap.size) : b.cell? p = a.cell? p := Below.cell h hp
theorem Grew.block {a b : World} (h : Grew a b) {k : Nat} (hp : k < a.heap.size) : b.heap[k]? = a.heap[k]? := Below.block h k hp
theorem Grew.grown {a b c : World} {row : Option Nat} (h : Grew a b) (hg : b.grownBy c row) (hr : ∀ k, row = some k → a.heap.size ≤ k) : Grew a c := Below.grown h hg (Below.size h) hr
theorem Grew.by_ {a b : World} (h : Grew a b) (row : Option Nat) : a.grownBy b row := ⟨h.os, h.tape, h.output, h.size, fun _ hi _ => h.block hi⟩
theorem Grew.below {a b : World} (h : Grew a b) : Below a.heap.size a b := h

/-- Of what was there block g alone may have changed. -/
def Only (g : Nat) (a b : World) : Prop := a.grownBy b (some g)
theorem Only.refl (g : Nat) (w : World) : Only g w w := World.grownBy.refl w _
theorem Only.size {g : Nat} {a b : World} (h : Only g a b) : a.heap.size ≤ b.heap.size := World.grownBy.size h
theorem Only.trans {g : Nat} {a b c : World} (h : Only g a b) (k : Only g b c) : Only g a c := World.grownBy.trans h k
theorem Only.drew {g : Nat} {a b : World} (h : Only g a b) : Only g a b.drew := ⟨h.os, h.tape, h.output, h.size, h.block⟩
theorem Only.drewN {g : Nat} {a b : World} (h : Only g a b) (n : Nat) : Only g a (b.drewN n) := ⟨h.os, h.tape, h.output, h.size, h.block⟩
theorem Grew.only {g : Nat} {a b : World} (h : Grew a b) : Only g a b := h.by_ _
theorem Only.grew {g : Nat} {a b c : World} (h : Only g a b) (k : Grew b c) : Only g a c := Only.trans h k.only
theorem Only.alloc {g : Nat} {a b : World} (h : Only g a b) (o : Obj) : Only g a (b.alloc o) := h.grew ((Grew.refl b).alloc o)
theorem Only.setCell {g o : Nat} {a b : World} (h : Only g a b) (u : Value) : Only g a (b.setCell ⟨g, o, none⟩ u) :=
  ⟨h.os, h.tape, h.output, by simpa [World.setCell] using h.size, fun _ hi hne => (Below.heap_setCell b ⟨g, o, none⟩ u _ (by rintro rfl; exact hne rfl)).trans (World.grownBy.block h _ hi hne)⟩
theorem Only.block {g : Nat} {a b : World} (h : Only g a b) {k : Nat} (hk : k < a.heap.size) (hne : k ≠ g) : b.heap[k]? = a.heap[k]? :=
  World.grownBy.block h k hk (fun e => hne (by injection e))
theorem Only.cell {g : Nat} {a b : World} (h : Only g a b) {p : Addr} (hk : p.block < a.heap.size) (hne : p.block ≠ g) : b.cell? p = a.cell? p :=
  World.cell?_of_block (h.block hk hne)
/-- Where the block is newer than a, nothing of a has changed. -/
theorem Only.grew_of {g : Nat} {a b c : World} (h : Only g b c) (k : Grew a b) (hg : a.heap.size ≤ g) : Grew a c :=
  ⟨h.os.trans k.os, h.tape.trans k.tape, h.output.trans k.output, Nat.le_trans k.size h.size, fun i hi => (h.block (Nat.lt_of_lt_of_le hi k.size) (by omega)).trans (k.block hi)⟩

/-- The slice value v has n elements of k cells each, which hold xs. -/
def Rd (w : World) (k : Nat) (v : Value) (n : Nat) (xs : List Value) : Prop :=
  xs.length = n * k ∧ n ≤ 9223372036854775807 ∧
  ((v = .slice none 0 0 ∧ n = 0) ∨ ∃ b o c, v = .slice (some ⟨b, o, none⟩) n c ∧ n ≤ c ∧ c ≤ 9223372036854775807 ∧ b < w.heap.size ∧ ∀ j u, xs[j]? = some u → w.cell? ⟨b, o + j, none⟩ = some u)

theorem Rd.grew {w w' : World} {k n : Nat} {v : Value} {xs : List Value} (h : Rd w k v n xs) (hb : Grew w w') : Rd w' k v n xs := by
  obtain ⟨h1, h2, h3⟩ := h
  refine ⟨h1, h2, ?_⟩
  rcases h3 with h3 | ⟨b, o, c, rfl, h4, h5, h6, h7⟩
  · exact .inl h3
  · exact .inr ⟨b, o, c, rfl, h4, h5, Nat.lt_of_lt_of_le h6 hb.size, fun j u hu => (hb.cell (p := ⟨b, o + j, none⟩) h6).trans (h7 j u hu)⟩

theorem Rd.nil_ (w : World) (k : Nat) : Rd w k (.slice none 0 0) 0 [] := ⟨by simp, by omega, .inl ⟨rfl, rfl⟩⟩

theorem Rd.of_own {w : World} {base : Nat} {e : TypeId} {k n : Nat} {v : Value} {xs : List Value} (h : w.ownsRow base e k v n xs) : Rd w k v n xs := by
  obtain ⟨h1, h2⟩ := h
  rcases h2 with ⟨rfl, rfl⟩ | ⟨g, cap, cur, rfl, hb, hg, hnc, hcm, hcs, ht⟩
  · exact ⟨h1, by omega, .inl ⟨rfl, rfl⟩⟩
  · refine ⟨h1, Nat.le_trans hnc hcm, .inr ⟨g, 0, cap, rfl, hnc, hcm, (Array.getElem?_eq_some_iff.1 hg).1, fun j u hu => ?_⟩⟩
    rw [Nat.zero_add, cell_of_row w g j cur e (0, 0) hg]
    rw [← ht, List.getElem?_take] at hu
    split at hu
    · simpa using hu
    · cases hu

/-- An append of what reads as a row, nil or not, onto a row of the call's own. -/
theorem wpList_append_rd {P : Program} (w : World) {ops : Array Oper} {rest : List Oper} {o : Oper} {a : Act} {Q : Exit → Act → World → Prop} (hgd : o.guard = none) (s x : Operand) (t : TypeId)
    (ho : o.op = .call { callee := .builtin .append, args := #[s, x], argTypes := #[t, t] })
    (base : Nat) (e : TypeId) (i : TypeInfo) (z : Value) (size bytes : Nat) (ht : P.underlying t = some (.slice e)) (hi : P.info? e = some i) (hz : i.zero = some z)
    (hsize : i.size = size) (hby : i.bytes = bytes) (hzs : z.cells.size = size) (hsz : 0 < size)
    (v : Value) (n : Nat) (xs : List Value) (hs : a.eval s = v) (hown : w.ownsRow base e size v n xs)
    (vx : Value) (m : Nat) (news : List Value) (hx : a.eval x = vx) (hr : Rd w size vx m news) (h1 : ∀ u ∈ news, u.oneCell' = true)
    (h63 : n + m ≤ maxLen) (hbytes : (n + m) * bytes ≤ 140737488355328) (hbase : base ≤ w.heap.size)
    (h : ∀ v' w', w'.ownsRow base e size v' (n + m) (xs ++ news) → w.grownBy w' v.ownBlock → (v'.ownBlock = v.ownBlock ∨ v'.ownBlock = some w.heap.size) → wpList P ops Q rest (a.put o.dst v') w') :
    wpList P ops Q (o :: rest) a w := by
  obtain ⟨hl, _, hr⟩ := hr
  rcases hr with ⟨rfl, rfl⟩ | ⟨b, of, c, rfl, _, _, _, hc⟩
  · have hnews : news = [] := List.eq_nil_of_length_eq_zero (by simpa using hl)
    subst hnews
    refine wpList_plain hgd fun K hK => ?_
    have hrun := run_append_owned_none (P := P) w base t o.type e i size ht hi v n xs hown
    unfold Oper.wp execOp
    simp only [ho, resolve, invoke, builtin, Sem.run_bind, Sem.run_pure, Result.andThen_ok, List.map_toArray, List.map_cons, List.map_nil, hs, hx, hrun]
    exact hK _ _ (h v w (by simpa using hown) (World.grownBy.refl _ _) (.inl rfl))
  · exact wpList_append_own_at w hgd s x t ho base e i z size bytes ht hi hz hsize hby hzs hsz v n xs hs hown ⟨b, of, none⟩ m c news hx hl (fun j u hu => by rw [Addr.add_lit]; exact hc j u hu) h1 h63 hbytes hbase fun v' w' h2 h3 _ h4 => h v' w' h2 h3 h4

/-- Of a row of the call's own nothing turns while another block is written. -/
theorem own_only {w w' : World} {base : Nat} {e : TypeId} {k n g : Nat} {v : Value} {xs : List Value} (h : w.ownsRow base e k v n xs) (hb : Only g w w') (hne : v.ownBlock ≠ some g) : w'.ownsRow base e k v n xs :=
  h.kept hb (.inr hne)
theorem own_grew {w w' : World} {base : Nat} {e : TypeId} {k n : Nat} {v : Value} {xs : List Value} (h : w.ownsRow base e k v n xs) (hb : Grew w w') : w'.ownsRow base e k v n xs :=
  h.kept (row := none) (hb.by_ _) (by cases hv : v.ownBlock <;> simp)
theorem own_base {w : World} {base base' : Nat} {e : TypeId} {k n : Nat} {v : Value} {xs : List Value} (h : w.ownsRow base e k v n xs) (hb : base' ≤ base) : w.ownsRow base' e k v n xs := by
  obtain ⟨h1, h2⟩ := h
  refine ⟨h1, ?_⟩
  rcases h2 with h2 | ⟨g, cap, cur, h3, h4, h5⟩
  · exact .inl h2
  · exact .inr ⟨g, cap, cur, h3, by omega, h5⟩
/-- A row of the call's own is no block of another element type. -/
theorem own_ne {w : World} {base : Nat} {e e' : TypeId} {k n g : Nat} {v : Value} {xs : List Value} {cs : Array Value} (h : w.ownsRow base e k v n xs) (hg : w.heap[g]? = some (.cells cs e' (0, 0))) (hne : e ≠ e') : v.ownBlock ≠ some g := by
  rcases h.2 with ⟨rfl, _⟩ | ⟨g', cap, cur, rfl, _, hh, _⟩
  · simp [Value.ownBlock]
  · intro he
    have : g' = g := by simpa [Value.ownBlock] using he
    subst this
    rw [hh] at hg
    injection hg with hg
    injection hg with _ ht
    exact hne ht
theorem own_of_ge {w : World} {base g : Nat} {e : TypeId} {k n : Nat} {v : Value} {xs : List Value} (h : w.ownsRow base e k v n xs) (hv : v.ownBlock = some g) : base ≤ g := (h.lt g hv).1
/-- Two rows of the call's own, one newer than the other's world. -/
theorem own_new_ne {w w' : World} {base : Nat} {e e' : TypeId} {k n k' n' : Nat} {v v' : Value} {xs xs' : List Value} (h : w.ownsRow base e k v n xs) (h' : w'.ownsRow w.heap.size e' k' v' n' xs') (g : Nat) (hg : v'.ownBlock = some g) : v.ownBlock ≠ some g := by
  intro hv
  have h1 := (h.lt g hv).2
  have h2 := (h'.lt g hg).1
  omega

/-- A store into a block that is known whole. -/
theorem blk_set {w : World} {g : Nat} {t : TypeId} {cs : Array Value} (h : w.heap[g]? = some (.cells cs t (0, 0))) (i : Nat) (u : Value) : (w.setCell ⟨g, i, none⟩ u).heap[g]? = some (.cells (cs.setIfInBounds i u) t (0, 0)) := by
  simp [World.setCell, Array.getElem?_modify, h]
theorem blk_frozen {w : World} {g : Nat} {t : TypeId} {cs : Array Value} (h : w.heap[g]? = some (.cells cs t (0, 0))) (i : Nat) : w.frozen? ⟨g, i, none⟩ = false := by simp [World.frozen?, h]
theorem blk_cell {w : World} {g : Nat} {t : TypeId} {cs : Array Value} (h : w.heap[g]? = some (.cells cs t (0, 0))) (i : Nat) : w.cell? ⟨g, i, none⟩ = cs[i]? := cell_of_row w g i cs t (0, 0) h
theorem blk_lt {w : World} {g : Nat} {o : Obj} (h : w.heap[g]? = some o) : g < w.heap.size := (Array.getElem?_eq_some_iff.1 h).1
theorem blk_new (w : World) (o : Obj) : (w.alloc o).heap[w.heap.size]? = some o := heap_alloc_new w o
/-- Two cells of an array are written: the pairs below stay, the new pair stands there. -/
theorem pair_step {cur : Array Value} {F G : Nat → Value} {j : Nat} (hs : j * 2 + 1 < cur.size) (h : ∀ i, i < j → cur[i * 2]? = some (F i) ∧ cur[i * 2 + 1]? = some (G i)) :
    ∀ i, i < j + 1 → ((cur.setIfInBounds (j * 2) (F j)).setIfInBounds (j * 2 + 1) (G j))[i * 2]? = some (F i) ∧ ((cur.setIfInBounds (j * 2) (F j)).setIfInBounds (j * 2 + 1) (G j))[i * 2 + 1]? = some (G i) := by
  intro i hi
  simp only [Array.getElem?_setIfInBounds, Array.size_setIfInBounds]
  rcases Nat.lt_or_ge i j with hk | hk
  · rw [if_neg (by omega), if_neg (by omega), if_neg (by omega), if_neg (by omega)]
    exact h i hk
  · obtain rfl : i = j := by omega
    rw [if_neg (by omega), if_pos rfl, if_pos (by omega), if_pos rfl, if_pos (by omega)]
    exact ⟨rfl, rfl⟩

/-- 'append([]T(nil), make([]T, n)...)', n not 0. -/
theorem run_grow_nil {P : Program} (w : World) (t tn ty e : TypeId) (i : TypeInfo) (z : Value) (size : Nat) (ht : P.underlying t = some (.slice e)) (htn : P.underlying tn = some (.int .i64)) (hi : P.info? e = some i) (hz : i.zero = some z) (hsize : i.size = size) (hzs : z.cells.size = size) (hs : 0 < size)
    (n : Nat) (h0 : 0 < n) (hb : n * i.bytes ≤ 140737488355328) (h63 : n ≤ 4611686018427387904) :
    ∃ G cs, n ≤ G ∧ G ≤ 9223372036854775807 ∧ cs.size = G * size ∧ (Builtin.append_ #[t, tn] ty #[.slice none 0 0, .int .i64 n]).run P w = .ok (.slice (some ⟨w.heap.size, 0, none⟩) n G) (w.drew.alloc (.cells cs e)) := by
  have h := Lib.run_append_grow_zeros (P := P) w t tn ty e i z .i64 .i64 ht htn hi hz none 0 0 [] (run_firstCells_none w.drew i.size 0 0 0) n h0 (by omega) (by omega) (by omega) (by omega) (by
    have := growslice_fits (need := 0 + n) (old := 0) (bytes := i.bytes) (by omega) (by simpa using hb)
    exact this)
  simp only [Nat.zero_add] at h
  have hge := grownCap_ge w n 0 e
  have hle := grownCap_le_maxLen w n 0 e (by unfold maxLen; omega)
  unfold maxLen at hle
  refine ⟨_, _, hge, hle, ?_, h⟩
  simp only [Array.size_append, size_zeroCells, hzs, List.size_toArray, List.length_nil, Nat.zero_add, ← Nat.add_mul]
  congr 1
  omega

end Go.Proofs.YtdndclfjeajhiaaGreat

/- The parser of formulas as a plain function on lists of bytes. No program is in sight. -/
namespace Go.Proofs.YtdndclfjeajhiaaGreat
namespace Fm

/-- A node: its kind and its symbol. -/
abbrev Nd := Int × Int

def falsum : List Nd := [(1, 0)]
def truth : List Nd := [(4, 0), (1, 0), (1, 0)]
def vari (v : Int) : List Nd := [(0, v)]
def join (k : Int) (a b : List Nd) : List Nd := (k, 0) :: (a ++ b)
def pre (k : Int) (a : List Nd) : List Nd := (k, 0) :: a
def neg (a : List Nd) : List Nd := join 4 a falsum

/-- The state of a reader: the position and whether the byte there cannot follow. -/
abbrev St := Nat × Bool
abbrev Res := List Nd × St

/-- 'take': is the byte next? -/
def sees (s : List UInt8) (st : St) (c : UInt8) : Bool := !st.2 && (s[st.1]? == some c)
def step (st : St) : St := (st.1 + 1, st.2)
def need (s : List UInt8) (st : St) (c : UInt8) : St := if sees s st c then step st else (st.1, true)

/-- 'a = join(kind, a, sub())' as long as the byte is next. -/
def loop (s : List UInt8) (k : Int) (c : UInt8) (sub : St → Res) : Nat → List Nd → St → Res
  | 0, a, st => (a, st)
  | m + 1, a, st => if sees s st c then let r := sub (step st); loop s k c sub m (join k a r.1) r.2 else (a, st)

def andF (s : List UInt8) (m : Nat) (sub : St → Res) (st : St) : Res := let r := sub st; loop s 2 38 sub m r.1 r.2
def orF (s : List UInt8) (m : Nat) (sub : St → Res) (st : St) : Res := let r := andF s m sub st; loop s 3 124 (andF s m sub) m r.1 r.2
def impF (s : List UInt8) (m : Nat) (sub : St → Res) : Nat → St → Res
  | 0, st => orF s m sub st
  | i + 1, st => let r := orF s m sub st; if sees s r.2 62 then let q := impF s m sub i (step r.2); (join 4 r.1 q.1, q.2) else r

/-- The letter that is next, if one of 'pqrstu' is. -/
def letter (s : List UInt8) (st : St) : Option Nat := if st.2 then none else
  match s[st.1]? with
  | some c => if 112 ≤ c.toNat ∧ c.toNat ≤ 117 then some (c.toNat - 112) else none
  | none => none

def preF (s : List UInt8) (m : Nat) : Nat → St → Res
  | 0, st => (falsum, (st.1, true))
  | f + 1, st =>
    if sees s st 126 then let r := preF s m f (step st); (neg r.1, r.2)
    else if sees s st 91 then let r := preF s m f (need s (step st) 93); (pre 5 r.1, r.2)
    else if sees s st 60 then let r := preF s m f (need s (step st) 62); (pre 6 r.1, r.2)
    else if sees s st 70 then (falsum, step st)
    else if sees s st 84 then (truth, step st)
    else if sees s st 40 then let r := impF s m (preF s m f) m (step st); (r.1, need s r.2 41)
    else match letter s st with
      | some v => (vari v, step st)
      | none => (falsum, (st.1, true))

/-- The whole text: with enough fuel. -/
def parse (s : List UInt8) (m : Nat) : Res := impF s m (preF s m m) m (0, false)

end Fm
end Go.Proofs.YtdndclfjeajhiaaGreat

/- Slices of nodes, as lists of pairs of numbers. -/
namespace Go.Proofs.YtdndclfjeajhiaaGreat
open Go.RowKit
open Fm (Nd)

def kd (xs : List Nd) (i : Nat) : Int := (xs.getD i (0, 0)).1
def sy (xs : List Nd) (i : Nat) : Int := (xs.getD i (0, 0)).2
def cells (xs : List Nd) : List Value := xs.flatMap fun x => [.int .i64 x.1, .int .i64 x.2]

theorem cells_nil : cells [] = [] := rfl
theorem cells_cons (x : Nd) (xs : List Nd) : cells (x :: xs) = .int .i64 x.1 :: .int .i64 x.2 :: cells xs := rfl
theorem cells_append (xs ys : List Nd) : cells (xs ++ ys) = cells xs ++ cells ys := by simp [cells, List.flatMap_append]
theorem cells_length (xs : List Nd) : (cells xs).length = xs.length * 2 := by
  induction xs with
  | nil => rfl
  | cons x xs ih => rw [cells_cons]; simp [ih]; omega
theorem cells_one (xs : List Nd) : ∀ u ∈ cells xs, u.oneCell' = true := by
  intro u hu
  simp only [cells, List.mem_flatMap] at hu
  obtain ⟨x, _, hx⟩ := hu
  simp at hx
  rcases hx with rfl | rfl <;> rfl
theorem cells_at (xs : List Nd) : ∀ i, i < xs.length → (cells xs)[i * 2]? = some (.int .i64 (kd xs i)) ∧ (cells xs)[i * 2 + 1]? = some (.int .i64 (sy xs i)) := by
  induction xs with
  | nil => intro i hi; simp at hi
  | cons x xs ih =>
    intro i hi
    match i with
    | 0 => exact ⟨rfl, rfl⟩
    | i + 1 =>
      have h := ih i (by simpa using hi)
      rw [cells_cons]
      have e1 : (i + 1) * 2 = i * 2 + 1 + 1 := by omega
      rw [e1]
      simp only [List.getElem?_cons_succ]
      have k1 : kd (x :: xs) (i + 1) = kd xs i := rfl
      have k2 : sy (x :: xs) (i + 1) = sy xs i := rfl
      rw [k1, k2]
      exact h
theorem cells_ext {cs : List Value} {xs : List Nd} (hl : cs.length = xs.length * 2) (h : ∀ i, i < xs.length → cs[i * 2]? = some (.int .i64 (kd xs i)) ∧ cs[i * 2 + 1]? = some (.int .i64 (sy xs i))) : cs = cells xs := by
  apply List.ext_getElem? 
  intro j
  by_cases hj : j < xs.length * 2
  · have hd := Nat.div_add_mod j 2
    have hi : j / 2 < xs.length := by omega
    have h1 := h (j / 2) hi
    have h2 := cells_at xs (j / 2) hi
    rcases Nat.mod_two_eq_zero_or_one j with hm | hm
    · have e : j = j / 2 * 2 := by omega
      rw [e, h1.1, h2.1]
    · have e : j = j / 2 * 2 + 1 := by omega
      rw [e, h1.2, h2.2]
  · rw [List.getElem?_eq_none (by omega), List.getElem?_eq_none (by rw [cells_length]; omega)]
theorem kd_lt {xs : List Nd} {i : Nat} (h : i < xs.length) : xs[i] = (kd xs i, sy xs i) := by
  simp [kd, sy, List.getD, h]
theorem nd_ext {xs ys : List Nd} (hl : xs.length = ys.length) (h : ∀ i, i < xs.length → kd xs i = kd ys i ∧ sy xs i = sy ys i) : xs = ys := by
  apply List.ext_getElem hl
  intro i h1 h2
  rw [kd_lt h1, kd_lt h2, (h i h1).1, (h i h1).2]

/-- The value reads as the list. -/
def Nodes (w : World) (v : Value) (xs : List Nd) : Prop := Rd w 2 v xs.length (cells xs)
/-- The value is a row of the call's own, newer than block B, that holds the list. -/
def Own (w : World) (B : Nat) (v : Value) (xs : List Nd) : Prop := w.ownsRow B 101 2 v xs.length (cells xs)

theorem Nodes.grew {w w' : World} {v : Value} {xs : List Nd} (h : Nodes w v xs) (hb : Grew w w') : Nodes w' v xs := Rd.grew h hb
theorem Nodes.nil_ (w : World) : Nodes w (.slice none 0 0) [] := Rd.nil_ w 2
theorem Own.nodes {w : World} {B : Nat} {v : Value} {xs : List Nd} (h : Own w B v xs) : Nodes w v xs := Rd.of_own h
theorem Own.nil_ (w : World) (B : Nat) : Own w B (.slice none 0 0) [] := World.ownsRow_nil w B _ 2
theorem Own.grew {w w' : World} {B : Nat} {v : Value} {xs : List Nd} (h : Own w B v xs) (hb : Grew w w') : Own w' B v xs := own_grew h hb
theorem Own.only {w w' : World} {B g : Nat} {v : Value} {xs : List Nd} (h : Own w B v xs) (hb : Only g w w') (hne : v.ownBlock ≠ some g) : Own w' B v xs := own_only h hb hne
theorem Own.base {w : World} {B B' : Nat} {v : Value} {xs : List Nd} (h : Own w B v xs) (hb : B' ≤ B) : Own w B' v xs := own_base h hb

theorem Nodes.open_ {w : World} {v : Value} {xs : List Nd} (h : Nodes w v xs) :
    (v = .slice none 0 0 ∧ xs = []) ∨ ∃ b o c, v = .slice (some ⟨b, o, none⟩) xs.length c ∧ xs.length ≤ c ∧ c ≤ 9223372036854775807 ∧ b < w.heap.size ∧
      ∀ i, i < xs.length → ∀ W, Grew w W → W.cell? ⟨b, o + i * 2, none⟩ = some (.int .i64 (kd xs i)) ∧ W.cell? ⟨b, o + i * 2 + 1, none⟩ = some (.int .i64 (sy xs i)) := by
  obtain ⟨_, _, h3⟩ := h
  rcases h3 with ⟨h4, h5⟩ | ⟨b, o, c, h4, h5, h6, h7, h8⟩
  · exact .inl ⟨h4, List.eq_nil_of_length_eq_zero h5⟩
  · refine .inr ⟨b, o, c, h4, h5, h6, h7, fun i hi W hW => ?_⟩
    obtain ⟨k1, k2⟩ := cells_at xs i hi
    exact ⟨(hW.cell (p := ⟨b, o + i * 2, none⟩) h7).trans (h8 _ _ k1), (hW.cell (p := ⟨b, o + i * 2 + 1, none⟩) h7).trans (h8 _ _ k2)⟩
theorem Nodes.len_le {w : World} {v : Value} {xs : List Nd} (h : Nodes w v xs) : xs.length ≤ 9223372036854775807 := h.2.1

/-- A row of the call's own, opened: its block. -/
theorem Own.open_ {w : World} {B : Nat} {v : Value} {xs : List Nd} (h : Own w B v xs) :
    (v = .slice none 0 0 ∧ xs = []) ∨ ∃ g c cur, v = .slice (some ⟨g, 0, none⟩) xs.length c ∧ B ≤ g ∧ g < w.heap.size ∧ w.heap[g]? = some (.cells cur 101 (0, 0)) ∧ xs.length ≤ c ∧ c ≤ 9223372036854775807 ∧ cur.size = c * 2 ∧
      ∀ i, i < xs.length → cur[i * 2]? = some (.int .i64 (kd xs i)) ∧ cur[i * 2 + 1]? = some (.int .i64 (sy xs i)) := by
  obtain ⟨_, h2⟩ := h
  rcases h2 with ⟨rfl, h5⟩ | ⟨g, cap, cur, rfl, hb, hg, hnc, hcm, hcs, ht⟩
  · exact .inl ⟨rfl, List.eq_nil_of_length_eq_zero h5⟩
  · refine .inr ⟨g, cap, cur, rfl, hb, (Array.getElem?_eq_some_iff.1 hg).1, hg, hnc, hcm, hcs, fun i hi => ?_⟩
    obtain ⟨k1, k2⟩ := cells_at xs i hi
    rw [← ht, List.getElem?_take] at k1 k2
    rw [if_pos (by omega)] at k1 k2
    exact ⟨by simpa using k1, by simpa using k2⟩
theorem Own.mk_ {w : World} {B : Nat} {xs : List Nd} {g c : Nat} {cur : Array Value} (hB : B ≤ g) (hg : w.heap[g]? = some (.cells cur 101 (0, 0))) (hnc : xs.length ≤ c) (hcm : c ≤ 9223372036854775807) (hcs : cur.size = c * 2)
    (hc : ∀ i, i < xs.length → cur[i * 2]? = some (.int .i64 (kd xs i)) ∧ cur[i * 2 + 1]? = some (.int .i64 (sy xs i))) : Own w B (.slice (some ⟨g, 0, none⟩) xs.length c) xs := by
  refine ⟨cells_length xs, .inr ⟨g, c, cur, rfl, hB, hg, hnc, hcm, hcs, cells_ext (by simp; omega) fun i hi => ?_⟩⟩
  rw [List.getElem?_take, List.getElem?_take, if_pos (by omega), if_pos (by omega)]
  obtain ⟨k1, k2⟩ := hc i hi
  exact ⟨by simpa using k1, by simpa using k2⟩
/-- A literal of nodes in a new block. -/
theorem Own.lit (w : World) (B : Nat) (xs : List Nd) (cs : Array Value) (hB : B ≤ w.heap.size) (hn : xs.length ≤ 9223372036854775807) (hc : cs.toList = cells xs) :
    Own (w.alloc (.cells cs 101)) B (.slice (some ⟨w.heap.size, 0, none⟩) xs.length xs.length) xs := by
  have hl : cs.size = xs.length * 2 := by rw [← Array.length_toList, hc, cells_length]
  have h := World.ownsRow_lit (e := 101) (size := 2) w cs xs.length hB hn hl
  rw [hc] at h
  exact h

theorem Tryz.infoNd : (Tryz.prog.info? 101).map (fun i => (i.zero, i.size, i.bytes)) = some (some (.agg #[.int .i64 0, .int .i64 0]), 2, 16) := by kernel_rfl

theorem nodes_slice {w : World} {v : Value} {xs : List Nd} (h : Nodes w v xs) : ∃ A c, v = .slice A xs.length c := by
  rcases h.open_ with ⟨rfl, rfl⟩ | ⟨b, o, c, rfl, _⟩
  · exact ⟨_, _, rfl⟩
  · exact ⟨_, _, rfl⟩

/-- Two nodes, compared. -/
theorem Tryz.ndGuard : Tryz.prog.eqGuardType Tryz.prog.depth 101 = false := by kernel_rfl
theorem Tryz.ndEq (a b c d : Int) (w : World) : (Op.equalIn 10000 101 (.agg #[.int .i64 a, .int .i64 b]) (.agg #[.int .i64 c, .int .i64 d])).run Tryz.prog w = .ok (a == c && b == d) w := by
  have u2 := Tryz.underlying2
  have hS : Tryz.prog.underlying 101 = some (.struct (Tryz.prog.fieldsOf 101)) := by kernel_rfl
  have hp : Tryz.prog.stoodInHeld 101 = false := by kernel_rfl
  rw [show (10000 : Nat) = 9999 + 1 from rfl, run_equalIn_agg w 9999 101 _ _ hS hp]
  simp only [Program.fieldsOf, Tryz.underlying101]
  go_simp
  by_cases h1 : a = c <;> by_cases h2 : b = d <;> simp [h1, h2]
theorem Tryz.ndNeq (a b c d : Int) (w : World) : (binOp .neq 101 (.agg #[.int .i64 a, .int .i64 b]) (.agg #[.int .i64 c, .int .i64 d])).run Tryz.prog w = .ok (.bool (!(a == c && b == d))) w := by
  rw [run_neq_struct, Tryz.ndEq]; rfl

theorem big2 {n m : Nat} (h : n + m ≤ 1099511627776) : n + m ≤ maxLen ∧ (n + m) * 16 ≤ 140737488355328 := by
  unfold maxLen; omega

/-- 'out = append(out, xs...)', out a row of the call's own. -/
theorem wpList_app {ops : Array Oper} {rest : List Oper} {o : Oper} {a : Act} {Q : Exit → Act → World → Prop} {w w0 : World} (s x : Operand) (hgd : o.guard = none)
    (ho : o.op = .call { callee := .builtin .append, args := #[s, x], argTypes := #[83, 83] })
    (v : Value) (xs : List Nd) (hs : a.eval s = v) (hown : Own w w0.heap.size v xs) (hg : Grew w0 w) (vx : Value) (ys : List Nd) (hx : a.eval x = vx) (hr : Nodes w vx ys) (hn : xs.length + ys.length ≤ 1099511627776)
    (h : ∀ v' w', Own w' w0.heap.size v' (xs ++ ys) → Grew w0 w' → w.grownBy w' v.ownBlock → wpList Tryz.prog ops Q rest (a.put o.dst v') w') : wpList Tryz.prog ops Q (o :: rest) a w := by
  obtain ⟨i0, hi0, hz0, hz1, hz2⟩ := info_parts Tryz.infoNd
  refine wpList_append_rd w hgd s x _ ho w0.heap.size 101 i0 _ 2 16 Tryz.underlying83 hi0 hz0 hz1 hz2 rfl (by omega) v xs.length (cells xs) hs hown vx ys.length (cells ys) hx hr (cells_one ys) (big2 hn).1 (big2 hn).2 hg.size ?_
  intro v' w' h1 h2 h3
  refine h v' w' ?_ (hg.grown h2 fun k hk => (hown.lt k hk).1) h2
  unfold Own
  rw [cells_append, List.length_append]
  exact h1

end Go.Proofs.YtdndclfjeajhiaaGreat

/- Slices of the nodes of terms, as lists of triples. -/
namespace Go.Proofs.YtdndclfjeajhiaaGreat
open Go.RowKit

abbrev Tn := Int × Int × ByteArray
def tk (xs : List Tn) (i : Nat) : Int := (xs.getD i (0, 0, ByteArray.empty)).1
def tn (xs : List Tn) (i : Nat) : Int := (xs.getD i (0, 0, ByteArray.empty)).2.1
def tt (xs : List Tn) (i : Nat) : ByteArray := (xs.getD i (0, 0, ByteArray.empty)).2.2
def tcells (xs : List Tn) : List Value := xs.flatMap fun x => [.int .i64 x.1, .int .i64 x.2.1, .string x.2.2]

theorem tcells_nil : tcells [] = [] := rfl
theorem tcells_cons (x : Tn) (xs : List Tn) : tcells (x :: xs) = .int .i64 x.1 :: .int .i64 x.2.1 :: .string x.2.2 :: tcells xs := rfl
theorem tcells_append (xs ys : List Tn) : tcells (xs ++ ys) = tcells xs ++ tcells ys := by simp [tcells, List.flatMap_append]
theorem tcells_length (xs : List Tn) : (tcells xs).length = xs.length * 3 := by
  induction xs with
  | nil => rfl
  | cons x xs ih => rw [tcells_cons]; simp [ih]; omega
theorem tcells_one (xs : List Tn) : ∀ u ∈ tcells xs, u.oneCell' = true := by
  intro u hu
  simp only [tcells, List.mem_flatMap] at hu
  obtain ⟨x, _, hx⟩ := hu
  simp at hx
  rcases hx with rfl | rfl | rfl <;> rfl
theorem tcells_at (xs : List Tn) : ∀ i, i < xs.length → (tcells xs)[i * 3]? = some (.int .i64 (tk xs i)) ∧ (tcells xs)[i * 3 + 1]? = some (.int .i64 (tn xs i)) ∧ (tcells xs)[i * 3 + 2]? = some (.string (tt xs i)) := by
  induction xs with
  | nil => intro i hi; simp at hi
  | cons x xs ih =>
    intro i hi
    match i with
    | 0 => exact ⟨rfl, rfl, rfl⟩
    | i + 1 =>
      have h := ih i (by simpa using hi)
      rw [tcells_cons]
      have e1 : (i + 1) * 3 = i * 3 + 1 + 1 + 1 := by omega
      rw [e1]
      simp only [List.getElem?_cons_succ]
      exact h
theorem tcells_ext {cs : List Value} {xs : List Tn} (hl : cs.length = xs.length * 3) (h : ∀ i, i < xs.length → cs[i * 3]? = some (.int .i64 (tk xs i)) ∧ cs[i * 3 + 1]? = some (.int .i64 (tn xs i)) ∧ cs[i * 3 + 2]? = some (.string (tt xs i))) : cs = tcells xs := by
  apply List.ext_getElem?
  intro j
  by_cases hj : j < xs.length * 3
  · have hd := Nat.div_add_mod j 3
    have hm := Nat.mod_lt j (show 0 < 3 by omega)
    have hi : j / 3 < xs.length := by omega
    have h1 := h (j / 3) hi
    have h2 := tcells_at xs (j / 3) hi
    have hc : j % 3 = 0 ∨ j % 3 = 1 ∨ j % 3 = 2 := by omega
    rcases hc with hm | hm | hm
    · have e : j = j / 3 * 3 := by omega
      rw [e, h1.1, h2.1]
    · have e : j = j / 3 * 3 + 1 := by omega
      rw [e, h1.2.1, h2.2.1]
    · have e : j = j / 3 * 3 + 2 := by omega
      rw [e, h1.2.2, h2.2.2]
  · rw [List.getElem?_eq_none (by omega), List.getElem?_eq_none (by rw [tcells_length]; omega)]
theorem tk_lt {xs : List Tn} {i : Nat} (h : i < xs.length) : xs[i] = (tk xs i, tn xs i, tt xs i) := by
  simp [tk, tn, tt, List.getD, h]
theorem tn_ext {xs ys : List Tn} (hl : xs.length = ys.length) (h : ∀ i, i < xs.length → tk xs i = tk ys i ∧ tn xs i = tn ys i ∧ tt xs i = tt ys i) : xs = ys := by
  apply List.ext_getElem hl
  intro i h1 h2
  rw [tk_lt h1, tk_lt h2, (h i h1).1, (h i h1).2.1, (h i h1).2.2]

/-- The value reads as the list. -/
def Tms (w : World) (v : Value) (xs : List Tn) : Prop := Rd w 3 v xs.length (tcells xs)
/-- The value is a row of the call's own, newer than block B, that holds the list. -/
def OwnT (w : World) (B : Nat) (v : Value) (xs : List Tn) : Prop := w.ownsRow B 50 3 v xs.length (tcells xs)

theorem Tms.grew {w w' : World} {v : Value} {xs : List Tn} (h : Tms w v xs) (hb : Grew w w') : Tms w' v xs := Rd.grew h hb
theorem Tms.nil_ (w : World) : Tms w (.slice none 0 0) [] := Rd.nil_ w 3
theorem OwnT.tms {w : World} {B : Nat} {v : Value} {xs : List Tn} (h : OwnT w B v xs) : Tms w v xs := Rd.of_own h
theorem OwnT.nil_ (w : World) (B : Nat) : OwnT w B (.slice none 0 0) [] := World.ownsRow_nil w B _ 3
theorem OwnT.grew {w w' : World} {B : Nat} {v : Value} {xs : List Tn} (h : OwnT w B v xs) (hb : Grew w w') : OwnT w' B v xs := own_grew h hb
theorem OwnT.only {w w' : World} {B g : Nat} {v : Value} {xs : List Tn} (h : OwnT w B v xs) (hb : Only g w w') (hne : v.ownBlock ≠ some g) : OwnT w' B v xs := own_only h hb hne
theorem OwnT.base {w : World} {B B' : Nat} {v : Value} {xs : List Tn} (h : OwnT w B v xs) (hb : B' ≤ B) : OwnT w B' v xs := own_base h hb

theorem Tms.open_ {w : World} {v : Value} {xs : List Tn} (h : Tms w v xs) :
    (v = .slice none 0 0 ∧ xs = []) ∨ ∃ b o c, v = .slice (some ⟨b, o, none⟩) xs.length c ∧ xs.length ≤ c ∧ c ≤ 9223372036854775807 ∧ b < w.heap.size ∧
      ∀ i, i < xs.length → ∀ W, Grew w W → W.cell? ⟨b, o + i * 3, none⟩ = some (.int .i64 (tk xs i)) ∧ W.cell? ⟨b, o + i * 3 + 1, none⟩ = some (.int .i64 (tn xs i)) ∧ W.cell? ⟨b, o + i * 3 + 2, none⟩ = some (.string (tt xs i)) := by
  obtain ⟨_, _, h3⟩ := h
  rcases h3 with ⟨h4, h5⟩ | ⟨b, o, c, h4, h5, h6, h7, h8⟩
  · exact .inl ⟨h4, List.eq_nil_of_length_eq_zero h5⟩
  · refine .inr ⟨b, o, c, h4, h5, h6, h7, fun i hi W hW => ?_⟩
    obtain ⟨k1, k2, k3⟩ := tcells_at xs i hi
    exact ⟨(hW.cell (p := ⟨b, o + i * 3, none⟩) h7).trans (h8 _ _ k1), (hW.cell (p := ⟨b, o + i * 3 + 1, none⟩) h7).trans (h8 _ _ k2), (hW.cell (p := ⟨b, o + i * 3 + 2, none⟩) h7).trans (h8 _ _ k3)⟩
theorem Tms.len_le {w : World} {v : Value} {xs : List Tn} (h : Tms w v xs) : xs.length ≤ 9223372036854775807 := h.2.1
theorem tms_slice {w : World} {v : Value} {xs : List Tn} (h : Tms w v xs) : ∃ A c, v = .slice A xs.length c := by
  rcases h.open_ with ⟨rfl, rfl⟩ | ⟨b, o, c, rfl, _⟩
  · exact ⟨_, _, rfl⟩
  · exact ⟨_, _, rfl⟩

/-- A row of the call's own, opened: its block. -/
theorem OwnT.open_ {w : World} {B : Nat} {v : Value} {xs : List Tn} (h : OwnT w B v xs) :
    (v = .slice none 0 0 ∧ xs = []) ∨ ∃ g c cur, v = .slice (some ⟨g, 0, none⟩) xs.length c ∧ B ≤ g ∧ g < w.heap.size ∧ w.heap[g]? = some (.cells cur 50 (0, 0)) ∧ xs.length ≤ c ∧ c ≤ 9223372036854775807 ∧ cur.size = c * 3 ∧
      ∀ i, i < xs.length → cur[i * 3]? = some (.int .i64 (tk xs i)) ∧ cur[i * 3 + 1]? = some (.int .i64 (tn xs i)) ∧ cur[i * 3 + 2]? = some (.string (tt xs i)) := by
  obtain ⟨_, h2⟩ := h
  rcases h2 with ⟨rfl, h5⟩ | ⟨g, cap, cur, rfl, hb, hg, hnc, hcm, hcs, ht⟩
  · exact .inl ⟨rfl, List.eq_nil_of_length_eq_zero h5⟩
  · refine .inr ⟨g, cap, cur, rfl, hb, (Array.getElem?_eq_some_iff.1 hg).1, hg, hnc, hcm, hcs, fun i hi => ?_⟩
    obtain ⟨k1, k2, k3⟩ := tcells_at xs i hi
    rw [← ht, List.getElem?_take] at k1 k2 k3
    rw [if_pos (by omega)] at k1 k2 k3
    exact ⟨by simpa using k1, by simpa using k2, by simpa using k3⟩
theorem OwnT.mk_ {w : World} {B : Nat} {xs : List Tn} {g c : Nat} {cur : Array Value} (hB : B ≤ g) (hg : w.heap[g]? = some (.cells cur 50 (0, 0))) (hnc : xs.length ≤ c) (hcm : c ≤ 9223372036854775807) (hcs : cur.size = c * 3)
    (hc : ∀ i, i < xs.length → cur[i * 3]? = some (.int .i64 (tk xs i)) ∧ cur[i * 3 + 1]? = some (.int .i64 (tn xs i)) ∧ cur[i * 3 + 2]? = some (.string (tt xs i))) : OwnT w B (.slice (some ⟨g, 0, none⟩) xs.length c) xs := by
  refine ⟨tcells_length xs, .inr ⟨g, c, cur, rfl, hB, hg, hnc, hcm, hcs, tcells_ext (by simp; omega) fun i hi => ?_⟩⟩
  rw [List.getElem?_take, List.getElem?_take, List.getElem?_take, if_pos (by omega), if_pos (by omega), if_pos (by omega)]
  obtain ⟨k1, k2, k3⟩ := hc i hi
  exact ⟨by simpa using k1, by simpa using k2, by simpa using k3⟩
/-- A literal of nodes in a new block. -/
theorem OwnT.lit (w : World) (B : Nat) (xs : List Tn) (cs : Array Value) (hB : B ≤ w.heap.size) (hn : xs.length ≤ 9223372036854775807) (hc : cs.toList = tcells xs) :
    OwnT (w.alloc (.cells cs 50)) B (.slice (some ⟨w.heap.size, 0, none⟩) xs.length xs.length) xs := by
  have hl : cs.size = xs.length * 3 := by rw [← Array.length_toList, hc, tcells_length]
  have h := World.ownsRow_lit (e := 50) (size := 3) w cs xs.length hB hn hl
  rw [hc] at h
  exact h

theorem infoTn : (Tryz.prog.info? 50).map (fun i => (i.zero, i.size, i.bytes)) = some (some (.agg #[.int .i64 0, .int .i64 0, .string ByteArray.empty]), 3, 32) := by kernel_rfl

theorem big3 {n m : Nat} (h : n + m ≤ 1099511627776) : n + m ≤ maxLen ∧ (n + m) * 32 ≤ 140737488355328 := by
  unfold maxLen; omega

/-- 'out = append(out, xs...)', out a row of the call's own. -/
theorem wpList_appT {ops : Array Oper} {rest : List Oper} {o : Oper} {a : Act} {Q : Exit → Act → World → Prop} {w w0 : World} (s x : Operand) (hgd : o.guard = none)
    (ho : o.op = .call { callee := .builtin .append, args := #[s, x], argTypes := #[25, 25] })
    (v : Value) (xs : List Tn) (hs : a.eval s = v) (hown : OwnT w w0.heap.size v xs) (hg : Grew w0 w) (vx : Value) (ys : List Tn) (hx : a.eval x = vx) (hr : Tms w vx ys) (hn : xs.length + ys.length ≤ 1099511627776)
    (h : ∀ v' w', OwnT w' w0.heap.size v' (xs ++ ys) → Grew w0 w' → w.grownBy w' v.ownBlock → wpList Tryz.prog ops Q rest (a.put o.dst v') w') : wpList Tryz.prog ops Q (o :: rest) a w := by
  obtain ⟨i0, hi0, hz0, hz1, hz2⟩ := info_parts infoTn
  refine wpList_append_rd w hgd s x _ ho w0.heap.size 50 i0 _ 3 32 Tryz.underlying25 hi0 hz0 hz1 hz2 rfl (by omega) v xs.length (tcells xs) hs hown vx ys.length (tcells ys) hx hr (tcells_one ys) (big3 hn).1 (big3 hn).2 hg.size ?_
  intro v' w' h1 h2 h3
  refine h v' w' ?_ (hg.grown h2 fun k hk => (hown.lt k hk).1) h2
  unfold OwnT
  rw [tcells_append, List.length_append]
  exact h1

theorem tcells_drop (xs : List Tn) : ∀ i, tcells (xs.drop i) = (tcells xs).drop (i * 3) := by
  induction xs with
  | nil => intro i; simp [tcells]
  | cons x xs ih =>
    intro i
    cases i with
    | zero => simp
    | succ i =>
      rw [List.drop_succ_cons, ih, tcells_cons, show (i + 1) * 3 = i * 3 + 1 + 1 + 1 by omega]
      rfl
theorem tcells_take (xs : List Tn) : ∀ i, tcells (xs.take i) = (tcells xs).take (i * 3) := by
  induction xs with
  | nil => intro i; simp [tcells]
  | cons x xs ih =>
    intro i
    cases i with
    | zero => simp [tcells]
    | succ i =>
      rw [List.take_succ_cons, tcells_cons, ih, tcells_cons, show (i + 1) * 3 = i * 3 + 1 + 1 + 1 by omega]
      rfl
/-- A cut of a slice of nodes. -/
theorem Tms.sub {w : World} {b o n c : Nat} {xs : List Tn} (h : Tms w (.slice (some ⟨b, o, none⟩) n c) xs) (i m c' : Nat) (him : i + m ≤ xs.length) (hc : m ≤ c') (hc' : c' ≤ 9223372036854775807) :
    Tms w (.slice (some ⟨b, o + i * 3, none⟩) m c') ((xs.drop i).take m) := by
  obtain ⟨h1, h2, h3⟩ := h
  have hl : ((xs.drop i).take m).length = m := by simp; omega
  refine ⟨tcells_length _, by omega, .inr ?_⟩
  rcases h3 with ⟨h4, _⟩ | ⟨b', o', c0, h4, h5, h6, h7, h8⟩
  · cases h4
  · simp only [Value.slice.injEq, Option.some.injEq, Addr.mk.injEq, and_true] at h4
    obtain ⟨⟨rfl, rfl⟩, rfl, rfl⟩ := h4
    refine ⟨b, o + i * 3, c', by rw [hl], by omega, hc', h7, fun j u hu => ?_⟩
    rw [tcells_take, List.getElem?_take] at hu
    split at hu
    · rw [tcells_drop, List.getElem?_drop] at hu
      have := h8 _ _ hu
      rw [show o + i * 3 + j = o + (i * 3 + j) by omega]
      exact this
    · cases hu
end Go.Proofs.YtdndclfjeajhiaaGreat

/- A predicate on nodes of terms: IndexFunc, ContainsFunc. -/
namespace Go.Proofs.YtdndclfjeajhiaaGreat
open Go.RowKit

/-- None of the first k nodes meets the predicate. -/
def NoneT (p : Int → Int → ByteArray → Bool) (xs : List Tn) (k : Nat) : Prop := ∀ i, i < k → p (tk xs i) (tn xs i) (tt xs i) = false
theorem NoneT.zero (p : Int → Int → ByteArray → Bool) (xs : List Tn) : NoneT p xs 0 := fun i hi => absurd hi (by omega)
theorem NoneT.succ {p : Int → Int → ByteArray → Bool} {xs : List Tn} {k : Nat} (h : NoneT p xs k) (h1 : p (tk xs k) (tn xs k) (tt xs k) = false) : NoneT p xs (k + 1) := by
  intro i hi
  rcases Nat.lt_or_ge i k with hk | hk
  · exact h i hk
  · obtain rfl : i = k := by omega
    exact h1
/-- Some node meets the predicate. -/
noncomputable def anyT (p : Int → Int → ByteArray → Bool) (xs : List Tn) : Bool := !@decide (NoneT p xs xs.length) (Classical.propDecidable _)
theorem anyT_no {p : Int → Int → ByteArray → Bool} {xs : List Tn} (h : NoneT p xs xs.length) : anyT p xs = false := by
  unfold anyT
  rw [@decide_eq_true _ (Classical.propDecidable _) h]
  rfl
theorem anyT_at {p : Int → Int → ByteArray → Bool} {xs : List Tn} {k : Nat} (hk : k < xs.length) (h : p (tk xs k) (tn xs k) (tt xs k) = true) : anyT p xs = true := by
  unfold anyT
  rw [@decide_eq_false _ (Classical.propDecidable _) fun H => by rw [H k hk] at h; cases h]
  rfl
theorem anyT_none {p : Int → Int → ByteArray → Bool} {xs : List Tn} (h : anyT p xs = false) {k : Nat} (hk : k < xs.length) : p (tk xs k) (tn xs k) (tt xs k) = false := by
  cases hp : p (tk xs k) (tn xs k) (tt xs k) with
  | false => rfl
  | true => rw [anyT_at hk hp] at h; cases h

/-- What the function value gives at a node. -/
def PredT (f : Nat) (p : Int → Int → ByteArray → Bool) : Prop := ∀ a b s W, s.size ≤ 140737488355328 → Calls Tryz.prog f #[.agg #[.int .i64 a, .int .i64 b, .string s]] W fun e w' => e = .returned (.bool (p a b s)) ∧ Grew W w'
/-- No type is longer than memory. -/
def FitsT (xs : List Tn) : Prop := ∀ i, i < xs.length → (tt xs i).size ≤ 1048576

theorem indexFuncT_c (v : Value) (xs : List Tn) (f : Nat) (p : Int → Int → ByteArray → Bool) (w : World) (h : Tms w v xs) (hfit : FitsT xs) (hf : PredT f p) (eg : ∀ args w, (callFunc f args).run Tryz.prog w = .ok (.enter f args) w) :
    Calls Tryz.prog 85 #[v, .func (.func f) #[] #[]] w fun e w' => ∃ r : Int, e = .returned (.int .i64 r) ∧ Grew w w' ∧ decide (0 ≤ r) = anyT p xs := by
  rcases h.open_ with ⟨rfl, rfl⟩ | ⟨b, o, c, rfl, hc, hm, hb, hcell⟩
  · rw [anyT_no (NoneT.zero _ _)]
    clear h hf hfit
    go_enter Tryz.func85, Tryz.ntmps85
    go_wp2_with fail
    refine wp_loop_rounds 1 ?_; rw [rounds_succ]
    go_wp2_with fail
    go_ret
    exact ⟨_, rfl, Grew.refl _, rfl⟩
  obtain ⟨R, hR⟩ : ∃ R, R = anyT p xs := ⟨_, rfl⟩
  rw [← hR]
  have HA := Lib.hid (fun k hk h => hR.trans (@anyT_at p xs k hk h))
  have HZ := Lib.hid (fun h => hR.trans (@anyT_no p xs h))
  have HC := Lib.hid hcell
  have HF := Lib.hid hf
  unfold FitsT at hfit
  have HT := Lib.hid hfit
  clear hcell h hf hR hfit
  generalize hN : xs.length = n at *
  clear hN
  go_enter Tryz.func85, Tryz.ntmps85
  go_wp2_with fail
  go_loopw [5, 8] (fun _ i wr => ∃ j : Nat, j ≤ n ∧ i = .int .i64 j ∧ Grew w wr ∧ Hid (NoneT p xs j)) (fun _ i _ => n - (intOf i).toNat)
  case atStart => exact ⟨0, Nat.zero_le _, rfl, Grew.refl _, NoneT.zero _ _⟩
  case round =>
    obtain ⟨j, hj, rfl, hB, HJ⟩ := hrel
    by_cases hlt : j < n
    · have k1 := (HC.out j hlt _ hB).1
      have k2 := (HC.out j hlt _ hB).2.1
      have k3 := (HC.out j hlt _ hB).2.2
      have hz := HT.out j hlt
      have hA := Lib.hid (HA.out j hlt)
      have hS := Lib.hid (fun h => HJ.out.succ (k := j) h)
      generalize tk xs j = x at *
      generalize tn xs j = y at *
      generalize tt xs j = z at *
      go_wp2_with fail
      go_at_fn f
      refine (HF.out x y z _ (by omega)).mono ?_
      rintro e w1 ⟨rfl, hg1⟩
      have hB1 := hB.trans hg1
      cases hp : p x y z with
      | true =>
        have hv := hA.out hp
        go_wp2_with fail
        go_ret
        exact ⟨_, rfl, hB1, by rw [hv]; simp⟩
      | false =>
        have hs := Lib.hid (hS.out hp)
        go_wp2_with fail
        go_roundw
        case rel => exact ⟨j + 1, by omega, by go_num, hB1, hs⟩
        case measure => simp [intOf]; omega
    · obtain rfl : j = n := by omega
      have hv := Lib.hid (HZ.out HJ.out)
      go_wp2_with fail
      go_ret
      exact ⟨_, rfl, hB, by rw [hv.out]; rfl⟩

theorem containsFuncT_c (v : Value) (xs : List Tn) (f : Nat) (p : Int → Int → ByteArray → Bool) (w : World) (h : Tms w v xs) (hfit : FitsT xs) (hf : PredT f p) (eg : ∀ args w, (callFunc f args).run Tryz.prog w = .ok (.enter f args) w) :
    Calls Tryz.prog 52 #[v, .func (.func f) #[] #[]] w fun e w' => e = .returned (.bool (anyT p xs)) ∧ Grew w w' := by
  have HI := Lib.hid (indexFuncT_c v xs f p w h hfit hf eg)
  clear h hf eg hfit
  generalize anyT p xs = R at *
  go_enter Tryz.func52, Tryz.ntmps52
  go_wp2_with fail
  refine HI.out.mono ?_
  rintro e w1 ⟨r, rfl, hg1, hr⟩
  go_wp2_with fail
  go_ret
  exact ⟨by rw [← hr]; rfl, hg1⟩
end Go.Proofs.YtdndclfjeajhiaaGreat

/- The source of the drawn inputs: l01Next. -/
namespace Go.Proofs.YtdndclfjeajhiaaGreat
open Go.RowKit

/-- The bytes that the source reads, in a block before block g. -/
def Code (w : World) (g : Nat) (v : Value) (N : Nat) : Prop :=
  N ≤ 4096 ∧ (∃ A c, v = .slice A N c) ∧ (0 < N → ∃ b o c, v = .slice (some ⟨b, o, none⟩) N c ∧ b < g ∧ N ≤ c ∧ c ≤ 9223372036854775807 ∧ ∀ j, j < N → ∃ x : Int, 0 ≤ x ∧ x ≤ 255 ∧ w.cell? ⟨b, o + j, none⟩ = some (.int .u8 x))
theorem Code.only {w w' : World} {g : Nat} {v : Value} {N : Nat} (h : Code w g v N) (hg : g < w.heap.size) (ho : Only g w w') : Code w' g v N := by
  obtain ⟨h1, h2, h3⟩ := h
  refine ⟨h1, h2, fun hp => ?_⟩
  obtain ⟨b, o, c, e, hb, hc, hm, hx⟩ := h3 hp
  refine ⟨b, o, c, e, hb, hc, hm, fun j hj => ?_⟩
  obtain ⟨x, x0, x1, hcell⟩ := hx j hj
  exact ⟨x, x0, x1, (ho.cell (p := ⟨b, o + j, none⟩) (by show b < _; omega) (by show b ≠ g; omega)).trans hcell⟩

def Src (w : World) (g : Nat) (v : Value) (N : Nat) : Prop :=
  Code w g v N ∧ ∃ (i : Nat) (h : Int), i ≤ N ∧ 0 ≤ h ∧ h ≤ 18446744073709551615 ∧ w.heap[g]? = some (.cells #[v, .int .i64 i, .int .u64 h] 72 (0, 0))
theorem Src.lt {w : World} {g : Nat} {v : Value} {N : Nat} (h : Src w g v N) : g < w.heap.size := by
  obtain ⟨_, _, _, _, _, _, h⟩ := h
  exact blk_lt h
theorem Src.grew {w w' : World} {g : Nat} {v : Value} {N : Nat} (h : Src w g v N) (hg : Grew w w') : Src w' g v N := by
  have hl := h.lt
  obtain ⟨h1, i, x, h2, h3, h4, h5⟩ := h
  exact ⟨h1.only hl hg.only, i, x, h2, h3, h4, (hg.block hl).trans h5⟩

theorem small_hash (X : Int) (h0 : 0 ≤ X) (h1 : X ≤ 18446744073709551615) : 0 ≤ wrap64 (bits .and .u64 (X / 8589934592) 16777215) ∧ wrap64 (bits .and .u64 (X / 8589934592) 16777215) ≤ 16777215 := by
  have h := bits_mask .u64 63 (by decide) Go.ConcN.wraps_u64_63 24 (by decide) (X / 8589934592) (by omega) (by omega)
  have e : ((2 : Int) ^ 24 - 1) = 16777215 := by decide
  have e2 : ((2 : Int) ^ 24) = 16777216 := by decide
  rw [e, e2] at h
  rw [h]
  unfold wrap64
  omega

theorem l01Next_c (g : Nat) (v : Value) (N : Nat) (n : Int) (w : World) (h : Src w g v N) (hn : n ≤ 9223372036854775807) :
    Calls Tryz.prog 49 #[.pointer (some ⟨g, 0, none⟩), .int .i64 n] w fun e w' => ∃ r : Int, e = .returned (.int .i64 r) ∧ 0 ≤ r ∧ (1 ≤ n → r < n) ∧ (n < 1 → r = 0) ∧ Src w' g v N ∧ Only g w w' := by
  by_cases h1 : n < 1
  · have HS := Lib.hid h
    clear h
    go_enter Tryz.func49, Tryz.ntmps49
    go_wp2_with fail
    go_ret
    exact ⟨_, rfl, by omega, fun h => absurd h (by omega), fun _ => rfl, HS.out, Only.refl _ _⟩
  obtain ⟨hC, i, hh, hi, hh0, hh1, hb⟩ := h
  have c0 : w.cell? ⟨g, 0, none⟩ = some v := by rw [blk_cell hb]; rfl
  have c1 : w.cell? ⟨g, 1, none⟩ = some (.int .i64 i) := by rw [blk_cell hb]; rfl
  have c2 : w.cell? ⟨g, 2, none⟩ = some (.int .u64 hh) := by rw [blk_cell hb]; rfl
  have f1 := blk_frozen hb 1
  have f2 := blk_frozen hb 2
  obtain ⟨A, c, rfl⟩ := hC.2.1
  have hN := hC.1
  have HB := Lib.hid hb
  have HC := Lib.hid hC
  clear hb hC
  go_enter Tryz.func49, Tryz.ntmps49
  go_wp2_with fail
  have hX0 : 0 ≤ IntKind.u64.wrap (IntKind.u64.wrap (hh * 6364136223846793005) + 1442695040888963407) := by rw [IntKind.wrap_u64]; omega
  have hX1 : IntKind.u64.wrap (IntKind.u64.wrap (hh * 6364136223846793005) + 1442695040888963407) ≤ 18446744073709551615 := by rw [IntKind.wrap_u64]; omega
  generalize IntKind.u64.wrap (IntKind.u64.wrap (hh * 6364136223846793005) + 1442695040888963407) = X at *
  obtain ⟨hY0, hY1⟩ := small_hash X hX0 hX1
  generalize wrap64 (bits .and .u64 (X / 8589934592) 16777215) = Y at *
  have hb1 := blk_set HB.out 2 (.int .u64 X)
  have ho1 := (Only.refl g w).setCell (o := 2) (.int .u64 X)
  have hC1 := HC.out.only (blk_lt HB.out) ho1
  clear c0 c1 c2 f1 f2 HB HC
  generalize w.setCell ⟨g, 2, none⟩ (.int .u64 X) = w1 at *
  have c0 : w1.cell? ⟨g, 0, none⟩ = some (.slice A N c) := by rw [blk_cell hb1]; rfl
  have c1 : w1.cell? ⟨g, 1, none⟩ = some (.int .i64 i) := by rw [blk_cell hb1]; rfl
  have f1 := blk_frozen hb1 1
  have HB := Lib.hid hb1
  clear hb1
  by_cases hlt : i < N
  · obtain ⟨b, o, c', e, hbg, hc, hm, hx⟩ := hC1.2.2 (by omega)
    obtain ⟨x, hx0, hx1, k1⟩ := hx i hlt
    obtain ⟨rfl, rfl⟩ : A = some ⟨b, o, none⟩ ∧ c = c' := by simpa using e
    have HC := Lib.hid hC1
    clear hC1 e hx
    go_quiet (fail)
    go_wp2_with fail
    go_quiet (fail)
    go_wp2_with fail
    go_ret
    exact ⟨_, rfl, Int.emod_nonneg _ (by omega), fun _ => Int.emod_lt_of_pos _ (by omega), fun h => absurd h (by omega), ⟨HC.out.only (blk_lt HB.out) (Only.setCell ((Only.refl g w1).drewN _) _), i + 1, X, by omega, hX0, hX1, blk_set (w := w1.drewN _) HB.out 1 _⟩, ho1.trans (Only.setCell ((Only.refl g w1).drewN _) _)⟩
  · have HC := Lib.hid hC1
    clear hC1
    go_quiet (fail)
    go_wp2_with fail
    go_ret
    exact ⟨_, rfl, Int.emod_nonneg _ (by omega), fun _ => Int.emod_lt_of_pos _ (by omega), fun h => absurd h (by omega), ⟨HC.out.only (blk_lt HB.out) ((Only.refl g w1).drewN _), i, X, by omega, hX0, hX1, HB.out⟩, ho1.drewN _⟩
end Go.Proofs.YtdndclfjeajhiaaGreat

/- Slices of strings. -/
namespace Go.Proofs.YtdndclfjeajhiaaGreat
open Go.RowKit

def st (L : List ByteArray) (i : Nat) : ByteArray := L.getD i ByteArray.empty
def scells (L : List ByteArray) : List Value := L.map Value.string
theorem scells_length (L : List ByteArray) : (scells L).length = L.length * 1 := by simp [scells]
theorem scells_one (L : List ByteArray) : ∀ u ∈ scells L, u.oneCell' = true := by
  intro u hu
  simp only [scells, List.mem_map] at hu
  obtain ⟨x, _, rfl⟩ := hu
  rfl
theorem scells_at {L : List ByteArray} {i : Nat} (h : i < L.length) : (scells L)[i]? = some (.string (st L i)) := by simp [scells, st, List.getD, h]
theorem scells_append (K L : List ByteArray) : scells (K ++ L) = scells K ++ scells L := by simp [scells]
theorem st_get {L : List ByteArray} {i : Nat} (h : i < L.length) : L[i] = st L i := by simp [st, List.getD, h]

/-- The value reads as the list of strings. -/
def Strs (w : World) (v : Value) (L : List ByteArray) : Prop := Rd w 1 v L.length (scells L)
/-- A row of the call's own that holds the strings. -/
def OwnS (w : World) (B : Nat) (v : Value) (L : List ByteArray) : Prop := w.ownsRow B 9 1 v L.length (scells L)
theorem Strs.grew {w w' : World} {v : Value} {L : List ByteArray} (h : Strs w v L) (hb : Grew w w') : Strs w' v L := Rd.grew h hb
theorem Strs.nil_ (w : World) : Strs w (.slice none 0 0) [] := Rd.nil_ w 1
theorem OwnS.strs {w : World} {B : Nat} {v : Value} {L : List ByteArray} (h : OwnS w B v L) : Strs w v L := Rd.of_own h
theorem OwnS.nil_ (w : World) (B : Nat) : OwnS w B (.slice none 0 0) [] := World.ownsRow_nil w B _ 1
theorem OwnS.grew {w w' : World} {B : Nat} {v : Value} {L : List ByteArray} (h : OwnS w B v L) (hb : Grew w w') : OwnS w' B v L := own_grew h hb
theorem OwnS.base {w : World} {B B' : Nat} {v : Value} {L : List ByteArray} (h : OwnS w B v L) (hb : B' ≤ B) : OwnS w B' v L := own_base h hb

theorem Strs.open_ {w : World} {v : Value} {L : List ByteArray} (h : Strs w v L) :
    (v = .slice none 0 0 ∧ L = []) ∨ ∃ b o c, v = .slice (some ⟨b, o, none⟩) L.length c ∧ L.length ≤ c ∧ c ≤ 9223372036854775807 ∧ b < w.heap.size ∧
      ∀ i, i < L.length → ∀ W, Grew w W → W.cell? ⟨b, o + i, none⟩ = some (.string (st L i)) := by
  obtain ⟨_, _, h3⟩ := h
  rcases h3 with ⟨h4, h5⟩ | ⟨b, o, c, h4, h5, h6, h7, h8⟩
  · exact .inl ⟨h4, List.eq_nil_of_length_eq_zero h5⟩
  · exact .inr ⟨b, o, c, h4, h5, h6, h7, fun i hi W hW => (hW.cell (p := ⟨b, o + i, none⟩) h7).trans (h8 _ _ (scells_at hi))⟩
theorem strs_slice {w : World} {v : Value} {L : List ByteArray} (h : Strs w v L) : ∃ A c, v = .slice A L.length c := by
  rcases h.open_ with ⟨rfl, rfl⟩ | ⟨b, o, c, rfl, _⟩
  · exact ⟨_, _, rfl⟩
  · exact ⟨_, _, rfl⟩
/-- A literal of strings in a new block. -/
theorem OwnS.lit (w : World) (B : Nat) (L : List ByteArray) (cs : Array Value) (hB : B ≤ w.heap.size) (hn : L.length ≤ 9223372036854775807) (hc : cs.toList = scells L) :
    OwnS (w.alloc (.cells cs 9)) B (.slice (some ⟨w.heap.size, 0, none⟩) L.length L.length) L := by
  have hl : cs.size = L.length * 1 := by rw [← Array.length_toList, hc, scells_length]
  have h := World.ownsRow_lit (e := 9) (size := 1) w cs L.length hB hn hl
  rw [hc] at h
  exact h
theorem OwnS.mk_ {w : World} {B : Nat} {L : List ByteArray} {g c : Nat} {cur : Array Value} (hB : B ≤ g) (hg : w.heap[g]? = some (.cells cur 9 (0, 0))) (hnc : L.length ≤ c) (hcm : c ≤ 9223372036854775807) (hcs : cur.size = c)
    (hc : ∀ i, i < L.length → cur[i]? = some (.string (st L i))) : OwnS w B (.slice (some ⟨g, 0, none⟩) L.length c) L := by
  refine ⟨scells_length L, .inr ⟨g, c, cur, rfl, hB, hg, hnc, hcm, by omega, ?_⟩⟩
  apply List.ext_getElem?
  intro j
  rw [List.getElem?_take]
  by_cases hj : j < L.length
  · rw [if_pos (by omega), scells_at hj]
    simpa using hc j hj
  · rw [if_neg (by omega), List.getElem?_eq_none (by rw [scells_length]; omega)]

theorem Tryz.infoStr : (Tryz.prog.info? 9).map (fun i => (i.zero, i.size, i.bytes)) = some (some (.string ByteArray.empty), 1, 16) := by kernel_rfl

/-- The call returns a new list of strings. -/
def GivesS (w : World) (L : List ByteArray) (e : Ending) (w' : World) : Prop := ∃ v, e = .returned v ∧ OwnS w' w.heap.size v L ∧ Grew w w'

end Go.Proofs.YtdndclfjeajhiaaGreat

/- The parts of a drawn term: l26Var, l26Join, l26Place of the reference. -/
namespace Go.Proofs.YtdndclfjeajhiaaGreat
open Go.RowKit

/-- An own row of fitting nodes, not empty, at most n. -/
def PT (w : World) (B : Nat) (v : Value) (n : Nat) : Prop := ∃ xs, OwnT w B v xs ∧ FitsT xs ∧ 0 < xs.length ∧ xs.length ≤ n
theorem PT.grew {w w' : World} {B n : Nat} {v : Value} (h : PT w B v n) (hg : Grew w w') : PT w' B v n := by
  obtain ⟨xs, a, b, c, d⟩ := h; exact ⟨xs, a.grew hg, b, c, d⟩
theorem PT.base {w : World} {B B' n : Nat} {v : Value} (h : PT w B v n) (hg : B' ≤ B) : PT w B' v n := by
  obtain ⟨xs, a, b, c, d⟩ := h; exact ⟨xs, a.base hg, b, c, d⟩
theorem PT.le {w : World} {B n m : Nat} {v : Value} (h : PT w B v n) (hg : n ≤ m) : PT w B v m := by
  obtain ⟨xs, a, b, c, d⟩ := h; exact ⟨xs, a, b, c, by omega⟩
theorem ownT_of_ge {w : World} {B : Nat} {v : Value} {xs : List Tn} (h : OwnT w B v xs) {g : Nat} (he : v.ownBlock = some g) : B ≤ g := by
  rcases h.open_ with ⟨rfl, _⟩ | ⟨b, c, cur, rfl, hB, _⟩
  · cases he
  · cases he; exact hB
theorem OwnT.src {w w' : World} {B g : Nat} {v : Value} {xs : List Tn} (h : OwnT w B v xs) (hg : g < B) (ho : Only g w w') : OwnT w' B v xs :=
  own_only h ho (fun he => by have := ownT_of_ge h he; omega)
theorem PT.src {w w' : World} {B g n : Nat} {v : Value} (h : PT w B v n) (hg : g < B) (ho : Only g w w') : PT w' B v n := by
  obtain ⟨xs, a, b, c, d⟩ := h; exact ⟨xs, a.src hg ho, b, c, d⟩
theorem PT.slice {w : World} {B n : Nat} {v : Value} (h : PT w B v n) : ∃ A m c, v = .slice A m c := by
  obtain ⟨xs, a, _⟩ := h
  obtain ⟨A, c, rfl⟩ := tms_slice a.tms
  exact ⟨_, _, _, rfl⟩
theorem fitsT_cons {k n : Int} {t : ByteArray} {xs : List Tn} (ht : t.size ≤ 1048576) (h : FitsT xs) : FitsT ((k, n, t) :: xs) := by
  intro i hi
  cases i with
  | zero => exact ht
  | succ i => exact h i (by simpa using hi)
theorem tt_app (xs ys : List Tn) (i : Nat) : tt (xs ++ ys) i = if i < xs.length then tt xs i else tt ys (i - xs.length) := by
  unfold tt
  by_cases h : i < xs.length
  · rw [if_pos h]; simp only [List.getD]; rw [List.getElem?_append_left h]
  · rw [if_neg h]; simp only [List.getD]; rw [List.getElem?_append_right (by omega)]
theorem FitsT.app {xs ys : List Tn} (h : FitsT xs) (k : FitsT ys) : FitsT (xs ++ ys) := by
  intro i hi
  rw [tt_app]
  split
  · exact h i (by assumption)
  · exact k _ (by simp at hi; omega)

theorem l26Var_c (n : Int) (w : World) : Calls Tryz.prog 79 #[.int .i64 n] w fun e w' => ∃ v, e = .returned v ∧ PT w' w.heap.size v 1 ∧ Grew w w' := by
  go_enter Tryz.func79, Tryz.ntmps79
  go_wp2_with fail
  go_ret
  exact ⟨_, rfl, ⟨[(0, n, ByteArray.empty)], OwnT.lit w _ [(0, n, ByteArray.empty)] _ (Nat.le_refl _) (by simp) rfl, by intro i hi; simp at hi; subst hi; show ByteArray.empty.size ≤ _; decide, by simp, by simp⟩, (Grew.refl w).alloc _⟩

theorem l26Place_c (v : Value) (L : List ByteArray) (s : ByteArray) (w : World) (h : Strs w v L) :
    Calls Tryz.prog 84 #[v, .string s] w fun e w' => ∃ r : Int, e = .returned (.int .i64 r) ∧ Grew w w' := by
  rcases h.open_ with ⟨rfl, rfl⟩ | ⟨b, o, c, rfl, hc, hm, hb, hcell⟩
  · clear h
    go_enter Tryz.func84, Tryz.ntmps84
    go_wp2_with fail
    refine wp_loop_rounds 1 ?_; rw [rounds_succ]
    go_wp2_with fail
    go_ret
    exact ⟨_, rfl, Grew.refl _⟩
  have HC := Lib.hid hcell
  clear h hcell
  generalize hN : L.length = n at *
  clear hN
  go_enter Tryz.func84, Tryz.ntmps84
  go_wp2_with fail
  go_loopw [5] (fun i wr => ∃ j : Nat, j ≤ n ∧ i = .int .i64 j ∧ Grew w wr) (fun i _ => n - (intOf i).toNat)
  case atStart => exact ⟨0, Nat.zero_le _, rfl, Grew.refl _⟩
  case round =>
    obtain ⟨j, hj, rfl, hB⟩ := hrel
    by_cases hlt : j < n
    · have k1 := HC.out j hlt _ hB
      generalize st L j = x at *
      go_wp2_with fail
      · go_ret
        exact ⟨_, rfl, hB⟩
      · go_roundw
        case rel => exact ⟨j + 1, by omega, by go_num, hB⟩
        case measure => simp [intOf]; omega
    · go_wp2_with fail
      go_ret
      exact ⟨_, rfl, hB⟩

theorem l26Join_c (k : Int) (t : ByteArray) (ht : t.size ≤ 1048576) (b m : Nat) (hm0 : m ≤ 3) (X : List (Value × List Tn)) (hX : X.length = m) (w : World)
    (hb : b < w.heap.size) (hc : ∀ j (h : j < X.length), w.cell? ⟨b, j, none⟩ = some (X[j]).1 ∧ Tms w (X[j]).1 (X[j]).2 ∧ FitsT (X[j]).2 ∧ (X[j]).2.length ≤ 1000000) :
    Calls Tryz.prog 77 #[.int .i64 k, .string t, .slice (some ⟨b, 0, none⟩) m m] w fun e w' => ∃ v, e = .returned v ∧ PT w' w.heap.size v (1 + (X.flatMap (·.2)).length) ∧ Grew w w' := by
  have HC := Lib.hid hc
  clear hc
  have hone := OwnT.lit w w.heap.size [(k, 0, t)] #[.int .i64 k, .int .i64 0, .string t] (Nat.le_refl _) (by simp) rfl
  have HO := Lib.hid hone
  clear hone
  go_enter Tryz.func77, Tryz.ntmps77
  go_wp2_with fail
  go_loopw [8, 7] (fun i v wr => ∃ (j : Nat) (ys : List Tn), j ≤ m ∧ i = .int .i64 j ∧ OwnT wr w.heap.size v ys ∧ FitsT ys ∧ ys.length = 1 + ((X.take j).flatMap (·.2)).length ∧ ys.length ≤ 1 + j * 1000000 ∧ Grew w wr) (fun i _ _ => m - (intOf i).toNat)
  case atStart => exact ⟨0, _, Nat.zero_le _, rfl, HO.out, fitsT_cons ht (by intro i hi; simp at hi), by simp, by simp, (Grew.refl w).alloc _⟩
  case round =>
    obtain ⟨j, ys, hj, rfl, ho, hf, hl, hl2, hB⟩ := hrel
    obtain ⟨A, c, rfl⟩ := tms_slice ho.tms
    have HO2 := Lib.hid ho
    clear ho
    by_cases hlt : j < m
    · have hjx : j < X.length := by omega
      obtain ⟨k1, k2, k3, k4⟩ := HC.out j hjx
      have k1' := (hB.cell (p := ⟨b, j, none⟩) hb).trans k1
      have k2' := k2.grew hB
      have htk : ((X.take (j + 1)).flatMap (·.2)).length = ((X.take j).flatMap (·.2)).length + (X[j]).2.length := by
        rw [List.take_add_one, List.getElem?_eq_getElem hjx, List.flatMap_append, List.length_append]; simp only [Option.toList_some, List.flatMap_cons, List.flatMap_nil, List.append_nil]
      generalize (X[j]).1 = vx at *
      generalize (X[j]).2 = xs at *
      have HK := Lib.hid k2'
      clear k1 k2 k2'
      go_wp2_with (first
        | (at_builtin; refine wpList_appT (w0 := w) _ _ rfl rfl _ ys rfl HO2.out hB _ xs rfl HK.out (by omega) ?_; intro v1 w1 hown1 hg1 _))
      obtain ⟨A1, c1, rfl⟩ := tms_slice hown1.tms
      go_wp2_with fail
      go_roundw
      case rel => exact ⟨j + 1, _, by omega, by go_num, hown1, hf.app k3, by rw [List.length_append, htk, hl]; omega, by rw [List.length_append]; omega, hg1⟩
      case measure => simp [intOf]; omega
    · go_wp2_with fail
      go_ret
      refine ⟨_, rfl, ⟨ys, HO2.out, hf, by omega, ?_⟩, hB⟩
      rw [hl, List.take_of_length_le (by omega)]
      exact Nat.le_refl _
end Go.Proofs.YtdndclfjeajhiaaGreat

/- The plain parser: how far it comes, how many nodes it makes, which byte is next. No program is in sight. -/
namespace Go.Proofs.YtdndclfjeajhiaaGreat
namespace Fm

theorem sees_eq {s : List UInt8} {st : St} {c : UInt8} (h : sees s st c = true) : st.2 = false ∧ s[st.1]? = some c := by
  unfold sees at h
  simp only [Bool.and_eq_true, Bool.not_eq_true', beq_iff_eq] at h
  exact h
theorem sees_lt {s : List UInt8} {st : St} {c : UInt8} (h : sees s st c = true) : st.1 < s.length := by
  have := (sees_eq h).2
  rcases Nat.lt_or_ge st.1 s.length with h1 | h1
  · exact h1
  · rw [List.getElem?_eq_none h1] at this; cases this
theorem sees_other {s : List UInt8} {st : St} {c d : UInt8} (h : sees s st c = true) (hne : c ≠ d) : sees s st d = false := by
  obtain ⟨h1, h2⟩ := sees_eq h
  unfold sees
  rw [h1, h2]
  simp [hne]
theorem letter_some {s : List UInt8} {st : St} {v : Nat} (h : letter s st = some v) : v < 6 ∧ sees s st (UInt8.ofNat (112 + v)) = true := by
  unfold letter at h
  split at h
  · cases h
  · rename_i hb
    have hb' : st.2 = false := by simpa using hb
    split at h
    · rename_i c hc
      split at h
      · rename_i hr
        injection h with h
        subst h
        refine ⟨by omega, ?_⟩
        unfold sees
        have e : UInt8.ofNat (112 + (c.toNat - 112)) = c := by
          apply UInt8.toNat_inj.1
          rw [UInt8.toNat_ofNat']
          omega
        rw [hb', hc, e]
        simp
      · cases h
    · cases h
theorem letter_of_sees {s : List UInt8} {st : St} {v : Nat} (hv : v < 6) (h : sees s st (UInt8.ofNat (112 + v)) = true) : letter s st = some v := by
  obtain ⟨h1, h2⟩ := sees_eq h
  unfold letter
  rw [h1, h2]
  have e : (UInt8.ofNat (112 + v)).toNat = 112 + v := by rw [UInt8.toNat_ofNat']; omega
  simp only [e]
  rw [if_neg (by simp), if_pos (by omega)]
  congr 1
  omega
theorem letter_none {s : List UInt8} {st : St} (h : letter s st = none) (v : Nat) (hv : v < 6) : sees s st (UInt8.ofNat (112 + v)) = false := by
  cases hs : sees s st (UInt8.ofNat (112 + v)) with
  | false => rfl
  | true => rw [letter_of_sees hv hs] at h; cases h
theorem letter_ne {s : List UInt8} {st : St} {v i : Nat} (h : letter s st = some v) (hi : i < 6) (hne : i ≠ v) : sees s st (UInt8.ofNat (112 + i)) = false := by
  cases hs : sees s st (UInt8.ofNat (112 + i)) with
  | false => rfl
  | true => rw [letter_of_sees hi hs] at h; injection h with h; exact absurd h hne
theorem letter_of_other {s : List UInt8} {st : St} {c : UInt8} (h : sees s st c = true) (hc : c.toNat < 112 ∨ 117 < c.toNat) : letter s st = none := by
  obtain ⟨h1, h2⟩ := sees_eq h
  unfold letter
  rw [h1, h2]
  simp only
  rw [if_neg (by simp), if_neg (by omega)]

/-- A result that does not run backwards or over the end, and is not too long. -/
def Ok (s : List UInt8) (st : St) (r : Res) : Prop := st.1 ≤ r.2.1 ∧ r.2.1 ≤ s.length ∧ r.1.length ≤ 3 * (r.2.1 - st.1) + 1

theorem need_pos {s : List UInt8} {st : St} {c : UInt8} (h : st.1 ≤ s.length) : st.1 ≤ (need s st c).1 ∧ (need s st c).1 ≤ s.length := by
  unfold need
  split
  · rename_i hs
    have := sees_lt hs
    simp only [step]
    omega
  · exact ⟨Nat.le_refl _, h⟩

theorem loop_ok {s : List UInt8} {k : Int} {c : UInt8} {sub : St → Res} (hsub : ∀ st, st.1 ≤ s.length → Ok s st (sub st)) : ∀ (m : Nat) (a : List Nd) (st st0 : St), st0.1 ≤ st.1 → st.1 ≤ s.length → a.length ≤ 3 * (st.1 - st0.1) + 1 → Ok s st0 (loop s k c sub m a st) := by
  intro m
  induction m with
  | zero => intro a st st0 h1 h2 h3; exact ⟨h1, h2, h3⟩
  | succ m ih =>
    intro a st st0 h1 h2 h3
    unfold loop
    split
    · rename_i hs
      have hlt := sees_lt hs
      have h := hsub (step st) (by simp only [step]; omega)
      obtain ⟨g1, g2, g3⟩ := h
      simp only [step] at g1 g2 g3
      refine ih _ _ st0 (by simp only [step]; omega) (by simp only [step]; omega) ?_
      simp only [join, List.length_cons, List.length_append, step]
      omega
    · exact ⟨h1, h2, h3⟩

theorem andF_ok {s : List UInt8} {m : Nat} {sub : St → Res} (hsub : ∀ st, st.1 ≤ s.length → Ok s st (sub st)) (st : St) (h : st.1 ≤ s.length) : Ok s st (andF s m sub st) := by
  obtain ⟨g1, g2, g3⟩ := hsub st h
  exact loop_ok hsub m _ _ st g1 g2 g3
theorem orF_ok {s : List UInt8} {m : Nat} {sub : St → Res} (hsub : ∀ st, st.1 ≤ s.length → Ok s st (sub st)) (st : St) (h : st.1 ≤ s.length) : Ok s st (orF s m sub st) := by
  obtain ⟨g1, g2, g3⟩ := andF_ok (m := m) hsub st h
  exact loop_ok (fun st h => andF_ok hsub st h) m _ _ st g1 g2 g3
theorem impF_ok {s : List UInt8} {m : Nat} {sub : St → Res} (hsub : ∀ st, st.1 ≤ s.length → Ok s st (sub st)) : ∀ (i : Nat) (st : St), st.1 ≤ s.length → Ok s st (impF s m sub i st) := by
  intro i
  induction i with
  | zero => intro st h; exact orF_ok hsub st h
  | succ i ih =>
    intro st h
    unfold impF
    obtain ⟨g1, g2, g3⟩ := orF_ok (m := m) hsub st h
    dsimp only
    split
    · rename_i hs
      have hlt := sees_lt hs
      obtain ⟨k1, k2, k3⟩ := ih (step (orF s m sub st).2) (by simp only [step]; omega)
      simp only [step] at k1 k2 k3
      refine ⟨by simp only [step]; omega, by simp only [step]; omega, ?_⟩
      simp only [join, List.length_cons, List.length_append, step]
      omega
    · exact ⟨g1, g2, g3⟩
theorem preF_ok {s : List UInt8} {m : Nat} : ∀ (f : Nat) (st : St), st.1 ≤ s.length → Ok s st (preF s m f st) := by
  intro f
  induction f with
  | zero => intro st h; exact ⟨Nat.le_refl _, h, by simp [preF, falsum]⟩
  | succ f ih =>
    intro st h
    unfold preF
    split
    · rename_i hs
      have hlt := sees_lt hs
      obtain ⟨k1, k2, k3⟩ := ih (step st) (by simp only [step]; omega)
      simp only [step] at k1 k2 k3
      refine ⟨by simp only [step]; omega, by simp only [step]; omega, ?_⟩
      simp only [neg, join, falsum, List.length_cons, List.length_append, List.length_nil, step]
      omega
    split
    · rename_i hs
      have hlt := sees_lt hs
      obtain ⟨n1, n2⟩ := need_pos (s := s) (st := step st) (c := 93) (by simp only [step]; omega)
      obtain ⟨k1, k2, k3⟩ := ih (need s (step st) 93) n2
      have e : (step st).1 = st.1 + 1 := rfl
      refine ⟨by simp only; omega, by simp only; omega, ?_⟩
      simp only [pre, List.length_cons]
      omega
    split
    · rename_i hs
      have hlt := sees_lt hs
      obtain ⟨n1, n2⟩ := need_pos (s := s) (st := step st) (c := 62) (by simp only [step]; omega)
      obtain ⟨k1, k2, k3⟩ := ih (need s (step st) 62) n2
      have e : (step st).1 = st.1 + 1 := rfl
      refine ⟨by simp only; omega, by simp only; omega, ?_⟩
      simp only [pre, List.length_cons]
      omega
    split
    · rename_i hs
      have hlt := sees_lt hs
      exact ⟨by simp only [step]; omega, by simp only [step]; omega, by simp [falsum]⟩
    split
    · rename_i hs
      have hlt := sees_lt hs
      exact ⟨by simp only [step]; omega, by simp only [step]; omega, by simp only [truth, step, List.length_cons, List.length_nil]; omega⟩
    split
    · rename_i hs
      have hlt := sees_lt hs
      obtain ⟨k1, k2, k3⟩ := impF_ok (m := m) ih m (step st) (by simp only [step]; omega)
      obtain ⟨n1, n2⟩ := need_pos (s := s) (st := (impF s m (preF s m f) m (step st)).2) (c := 41) k2
      have e : (step st).1 = st.1 + 1 := rfl
      refine ⟨by simp only; omega, n2, ?_⟩
      simp only
      omega
    split
    · rename_i v hv
      have hlt := sees_lt (letter_some hv).2
      exact ⟨by simp only [step]; omega, by simp only [step]; omega, by simp [vari]⟩
    · exact ⟨Nat.le_refl _, h, by simp [falsum]⟩

theorem parse_ok (s : List UInt8) (m : Nat) : Ok s (0, false) (parse s m) := impF_ok (fun st h => preF_ok m st h) m (0, false) (by simp)

theorem preF_not {s : List UInt8} {m f : Nat} {st : St} (h : sees s st 126 = true) : preF s m (f + 1) st = (neg (preF s m f (step st)).1, (preF s m f (step st)).2) := by
  rw [preF, if_pos h]
theorem preF_box {s : List UInt8} {m f : Nat} {st : St} (h : sees s st 91 = true) : preF s m (f + 1) st = (pre 5 (preF s m f (need s (step st) 93)).1, (preF s m f (need s (step st) 93)).2) := by
  rw [preF, if_neg (by rw [sees_other h (by decide)]; decide), if_pos h]
theorem preF_dia {s : List UInt8} {m f : Nat} {st : St} (h : sees s st 60 = true) : preF s m (f + 1) st = (pre 6 (preF s m f (need s (step st) 62)).1, (preF s m f (need s (step st) 62)).2) := by
  rw [preF, if_neg (by rw [sees_other h (by decide)]; decide), if_neg (by rw [sees_other h (by decide)]; decide), if_pos h]
theorem preF_fls {s : List UInt8} {m f : Nat} {st : St} (h : sees s st 70 = true) : preF s m (f + 1) st = (falsum, step st) := by
  rw [preF, if_neg (by rw [sees_other h (by decide)]; decide), if_neg (by rw [sees_other h (by decide)]; decide), if_neg (by rw [sees_other h (by decide)]; decide), if_pos h]
theorem preF_tru {s : List UInt8} {m f : Nat} {st : St} (h : sees s st 84 = true) : preF s m (f + 1) st = (truth, step st) := by
  rw [preF, if_neg (by rw [sees_other h (by decide)]; decide), if_neg (by rw [sees_other h (by decide)]; decide), if_neg (by rw [sees_other h (by decide)]; decide), if_neg (by rw [sees_other h (by decide)]; decide), if_pos h]
theorem preF_par {s : List UInt8} {m f : Nat} {st : St} (h : sees s st 40 = true) : preF s m (f + 1) st = ((impF s m (preF s m f) m (step st)).1, need s (impF s m (preF s m f) m (step st)).2 41) := by
  rw [preF, if_neg (by rw [sees_other h (by decide)]; decide), if_neg (by rw [sees_other h (by decide)]; decide), if_neg (by rw [sees_other h (by decide)]; decide), if_neg (by rw [sees_other h (by decide)]; decide), if_neg (by rw [sees_other h (by decide)]; decide), if_pos h]
theorem sees_low {s : List UInt8} {st : St} {v : Nat} {c : UInt8} (h : letter s st = some v) (hc : c.toNat < 112 ∨ 117 < c.toNat) : sees s st c = false := by
  refine sees_other (letter_some h).2 fun e => ?_
  have := (letter_some h).1
  have h2 : (UInt8.ofNat (112 + v)).toNat = 112 + v := by rw [UInt8.toNat_ofNat']; omega
  rw [e] at h2
  omega
theorem preF_var {s : List UInt8} {m f : Nat} {st : St} {v : Nat} (h : letter s st = some v) : preF s m (f + 1) st = (vari v, step st) := by
  rw [preF, if_neg (by rw [sees_low h (by decide)]; decide), if_neg (by rw [sees_low h (by decide)]; decide), if_neg (by rw [sees_low h (by decide)]; decide), if_neg (by rw [sees_low h (by decide)]; decide), if_neg (by rw [sees_low h (by decide)]; decide), if_neg (by rw [sees_low h (by decide)]; decide), h]
theorem preF_bad {s : List UInt8} {m f : Nat} {st : St} (h1 : sees s st 126 = false) (h2 : sees s st 91 = false) (h3 : sees s st 60 = false) (h4 : sees s st 70 = false) (h5 : sees s st 84 = false) (h6 : sees s st 40 = false) (h : letter s st = none) : preF s m (f + 1) st = (falsum, (st.1, true)) := by
  rw [preF, if_neg (by rw [h1]; decide), if_neg (by rw [h2]; decide), if_neg (by rw [h3]; decide), if_neg (by rw [h4]; decide), if_neg (by rw [h5]; decide), if_neg (by rw [h6]; decide), h]
theorem impF_yes {s : List UInt8} {m i : Nat} {sub : St → Res} {st : St} (h : sees s (orF s m sub st).2 62 = true) : impF s m sub (i + 1) st = (join 4 (orF s m sub st).1 (impF s m sub i (step (orF s m sub st).2)).1, (impF s m sub i (step (orF s m sub st).2)).2) := by
  rw [impF]; dsimp only; rw [if_pos h]
theorem impF_no {s : List UInt8} {m i : Nat} {sub : St → Res} {st : St} (h : sees s (orF s m sub st).2 62 = false) : impF s m sub (i + 1) st = orF s m sub st := by
  rw [impF]; dsimp only; rw [if_neg (by rw [h]; decide)]

end Fm
end Go.Proofs.YtdndclfjeajhiaaGreat

/- Formulas as trees, their lists of nodes and their texts. No program is in sight. -/
namespace Go.Proofs.YtdndclfjeajhiaaGreat
namespace Fm

inductive Tree where
  | var (v : Fin 6)
  | fls
  | and (a b : Tree)
  | or (a b : Tree)
  | imp (a b : Tree)
  | box (a : Tree)
  | dia (a : Tree)

/-- The list of the nodes. -/
def enc : Tree → List Nd
  | .var v => [(0, (v.val : Int))]
  | .fls => [(1, 0)]
  | .and a b => (2, 0) :: (enc a ++ enc b)
  | .or a b => (3, 0) :: (enc a ++ enc b)
  | .imp a b => (4, 0) :: (enc a ++ enc b)
  | .box a => (5, 0) :: enc a
  | .dia a => (6, 0) :: enc a

theorem enc_pos (t : Tree) : 1 ≤ (enc t).length := by cases t <;> simp [enc]

def isF : Tree → Bool
  | .fls => true
  | _ => false
theorem isF_eq {t : Tree} (h : isF t = true) : t = .fls := by cases t <;> simp_all [isF]

/-- How many parts the nodes of a kind have. -/
def arity (k : Int) : Nat := if k = 2 ∨ k = 3 ∨ k = 4 then 2 else if k = 5 ∨ k = 6 then 1 else 0
theorem arity_le (k : Int) : arity k ≤ 2 := by unfold arity; split; omega; split <;> omega

/-- How many nodes are read till no part is open. -/
def scan : List Nd → Nat → Option Nat
  | _, 0 => some 0
  | [], _ + 1 => none
  | x :: xs, o + 1 => (scan xs (o + arity x.1)).map (· + 1)

theorem scan_zero (xs : List Nd) : scan xs 0 = some 0 := by cases xs <;> rfl
theorem scan_nil (o : Nat) : scan [] (o + 1) = none := rfl
theorem scan_cons (x : Nd) (xs : List Nd) (o : Nat) : scan (x :: xs) (o + 1) = (scan xs (o + arity x.1)).map (· + 1) := rfl

theorem scan_enc (t : Tree) : ∀ (rest : List Nd) (o : Nat), scan (enc t ++ rest) (o + 1) = (scan rest o).map (· + (enc t).length) := by
  induction t with
  | var v => intro rest o; simp [enc, scan_cons, arity]
  | fls => intro rest o; simp [enc, scan_cons, arity]
  | and a b iha ihb =>
    intro rest o
    simp only [enc, List.cons_append, scan_cons, List.append_assoc]
    rw [show arity 2 = 2 from rfl, show o + 2 = (o + 1) + 1 from rfl, iha, ihb]
    cases scan rest o <;> simp; omega
  | or a b iha ihb =>
    intro rest o
    simp only [enc, List.cons_append, scan_cons, List.append_assoc]
    rw [show arity 3 = 2 from rfl, show o + 2 = (o + 1) + 1 from rfl, iha, ihb]
    cases scan rest o <;> simp; omega
  | imp a b iha ihb =>
    intro rest o
    simp only [enc, List.cons_append, scan_cons, List.append_assoc]
    rw [show arity 4 = 2 from rfl, show o + 2 = (o + 1) + 1 from rfl, iha, ihb]
    cases scan rest o <;> simp; omega
  | box a iha =>
    intro rest o
    simp only [enc, List.cons_append, scan_cons]
    rw [show arity 5 = 1 from rfl, iha]
    cases scan rest o <;> simp; omega
  | dia a iha =>
    intro rest o
    simp only [enc, List.cons_append, scan_cons]
    rw [show arity 6 = 1 from rfl, iha]
    cases scan rest o <;> simp; omega
theorem scan_one (t : Tree) (rest : List Nd) : scan (enc t ++ rest) 1 = some (enc t).length := by
  rw [scan_enc t rest 0, scan_zero]; simp
theorem scan_le : ∀ (xs : List Nd) (o n : Nat), scan xs o = some n → n ≤ xs.length := by
  intro xs
  induction xs with
  | nil => intro o n h; cases o with
    | zero => simp [scan_zero] at h; omega
    | succ o => simp [scan_nil] at h
  | cons x xs ih => intro o n h; cases o with
    | zero => simp [scan_zero] at h; omega
    | succ o =>
      rw [scan_cons] at h
      cases hs : scan xs (o + arity x.1) with
      | none => rw [hs] at h; simp at h
      | some m => rw [hs] at h; simp at h; have := ih _ _ hs; simp; omega

/-- The level of the grammar at which a text stands. -/
def own : Tree → Nat
  | .and _ _ => 2
  | .or _ _ => 1
  | .imp _ b => if isF b then 3 else 0
  | _ => 3
def wrap (l o : Nat) (s : List UInt8) : List UInt8 := if o < l then [40] ++ s ++ [41] else s
/-- The text at a level. -/
def txt : Tree → Nat → List UInt8
  | .var v, _ => [UInt8.ofNat (112 + v.val)]
  | .fls, _ => [70]
  | .and a b, l => wrap l 2 (txt a 2 ++ [38] ++ txt b 3)
  | .or a b, l => wrap l 1 (txt a 1 ++ [124] ++ txt b 2)
  | .imp a b, l => if isF b then (if isF a then [84] else [126] ++ txt a 3) else wrap l 0 (txt a 1 ++ [62] ++ txt b 0)
  | .box a, _ => [91, 93] ++ txt a 3
  | .dia a, _ => [60, 62] ++ txt a 3

theorem wrap_len (l o : Nat) (s : List UInt8) : (wrap l o s).length ≤ s.length + 2 := by
  unfold wrap; split <;> simp
theorem txt_len (t : Tree) : ∀ l, (txt t l).length ≤ 4 * (enc t).length := by
  induction t with
  | var v => intro l; simp [txt, enc]
  | fls => intro l; simp [txt, enc]
  | and a b iha ihb =>
    intro l
    have := wrap_len l 2 (txt a 2 ++ [38] ++ txt b 3)
    have h1 := iha 2
    have h2 := ihb 3
    simp only [txt, enc, List.length_cons, List.length_append, List.length_nil] at *
    omega
  | or a b iha ihb =>
    intro l
    have := wrap_len l 1 (txt a 1 ++ [124] ++ txt b 2)
    have h1 := iha 1
    have h2 := ihb 2
    simp only [txt, enc, List.length_cons, List.length_append, List.length_nil] at *
    omega
  | imp a b iha ihb =>
    intro l
    have := wrap_len l 0 (txt a 1 ++ [62] ++ txt b 0)
    have h1 := iha 1
    have h2 := ihb 0
    have h3 := iha 3
    have h4 := enc_pos a
    simp only [txt]
    split
    · split
      · simp [enc]; omega
      · simp only [enc, List.length_cons, List.length_append, List.length_nil]; omega
    · simp only [enc, List.length_cons, List.length_append, List.length_nil] at *; omega
  | box a iha =>
    intro l
    have h3 := iha 3
    simp only [txt, enc, List.length_cons, List.length_append, List.length_nil]; omega
  | dia a iha =>
    intro l
    have h3 := iha 3
    simp only [txt, enc, List.length_cons, List.length_append, List.length_nil]; omega

theorem arity_enc (t : Tree) : ∃ x rest, enc t = x :: rest := by cases t <;> exact ⟨_, _, rfl⟩

/-- Every list that the parser makes is that of a tree. -/
def IsEnc (xs : List Nd) : Prop := ∃ t, xs = enc t
theorem isEnc_join {k : Int} {a b : List Nd} (hk : k = 2 ∨ k = 3 ∨ k = 4) (ha : IsEnc a) (hb : IsEnc b) : IsEnc (join k a b) := by
  obtain ⟨s, rfl⟩ := ha
  obtain ⟨t, rfl⟩ := hb
  rcases hk with rfl | rfl | rfl
  · exact ⟨.and s t, rfl⟩
  · exact ⟨.or s t, rfl⟩
  · exact ⟨.imp s t, rfl⟩
theorem isEnc_pre {k : Int} {a : List Nd} (hk : k = 5 ∨ k = 6) (ha : IsEnc a) : IsEnc (pre k a) := by
  obtain ⟨s, rfl⟩ := ha
  rcases hk with rfl | rfl
  · exact ⟨.box s, rfl⟩
  · exact ⟨.dia s, rfl⟩
theorem isEnc_falsum : IsEnc falsum := ⟨.fls, rfl⟩
theorem loop_enc {s : List UInt8} {k : Int} {c : UInt8} {sub : St → Res} (hk : k = 2 ∨ k = 3 ∨ k = 4) (hsub : ∀ st, IsEnc (sub st).1) : ∀ (m : Nat) (a : List Nd) (st : St), IsEnc a → IsEnc (loop s k c sub m a st).1 := by
  intro m
  induction m with
  | zero => intro a st h; exact h
  | succ m ih =>
    intro a st h
    unfold loop
    split
    · exact ih _ _ (isEnc_join hk h (hsub _))
    · exact h
theorem andF_enc {s : List UInt8} {m : Nat} {sub : St → Res} (hsub : ∀ st, IsEnc (sub st).1) (st : St) : IsEnc (andF s m sub st).1 := loop_enc (.inl rfl) hsub _ _ _ (hsub st)
theorem orF_enc {s : List UInt8} {m : Nat} {sub : St → Res} (hsub : ∀ st, IsEnc (sub st).1) (st : St) : IsEnc (orF s m sub st).1 := loop_enc (.inr (.inl rfl)) (fun st => andF_enc hsub st) _ _ _ (andF_enc hsub st)
theorem impF_enc {s : List UInt8} {m : Nat} {sub : St → Res} (hsub : ∀ st, IsEnc (sub st).1) : ∀ (i : Nat) (st : St), IsEnc (impF s m sub i st).1 := by
  intro i
  induction i with
  | zero => intro st; exact orF_enc hsub st
  | succ i ih =>
    intro st
    unfold impF
    dsimp only
    split
    · exact isEnc_join (.inr (.inr rfl)) (orF_enc hsub st) (ih _)
    · exact orF_enc hsub st
theorem preF_enc {s : List UInt8} {m : Nat} : ∀ (f : Nat) (st : St), IsEnc (preF s m f st).1 := by
  intro f
  induction f with
  | zero => intro st; exact isEnc_falsum
  | succ f ih =>
    intro st
    unfold preF
    split
    · exact isEnc_join (.inr (.inr rfl)) (ih _) isEnc_falsum
    split
    · exact isEnc_pre (.inl rfl) (ih _)
    split
    · exact isEnc_pre (.inr rfl) (ih _)
    split
    · exact isEnc_falsum
    split
    · exact ⟨.imp .fls .fls, rfl⟩
    split
    · exact impF_enc ih _ _
    split
    · rename_i v hv
      exact ⟨.var ⟨v, (letter_some hv).1⟩, rfl⟩
    · exact isEnc_falsum
theorem parse_enc (s : List UInt8) (m : Nat) : IsEnc (parse s m).1 := impF_enc (fun st => preF_enc m st) m _

end Fm
end Go.Proofs.YtdndclfjeajhiaaGreat

/- A list of nodes is that of one formula at most. No program is in sight. -/
namespace Go.Proofs.YtdndclfjeajhiaaGreat
open Fm (Nd)

theorem enc_pre (t : Fm.Tree) : ∀ (u : Fm.Tree) (a b : List Nd), Fm.enc t ++ a = Fm.enc u ++ b → t = u ∧ a = b := by
  induction t with
  | var v =>
    intro u a b h
    cases u <;> simp [Fm.enc] at h
    exact ⟨congrArg Fm.Tree.var (Fin.ext (by have := h.1; omega)), h.2⟩
  | fls =>
    intro u a b h
    cases u <;> simp [Fm.enc] at h
    exact ⟨rfl, h⟩
  | and x y hx hy =>
    intro u a b h
    cases u <;> simp [Fm.enc] at h
    obtain ⟨e1, h1⟩ := hx _ _ _ h
    obtain ⟨e2, h2⟩ := hy _ _ _ h1
    exact ⟨by rw [e1, e2], h2⟩
  | or x y hx hy =>
    intro u a b h
    cases u <;> simp [Fm.enc] at h
    obtain ⟨e1, h1⟩ := hx _ _ _ h
    obtain ⟨e2, h2⟩ := hy _ _ _ h1
    exact ⟨by rw [e1, e2], h2⟩
  | imp x y hx hy =>
    intro u a b h
    cases u <;> simp [Fm.enc] at h
    obtain ⟨e1, h1⟩ := hx _ _ _ h
    obtain ⟨e2, h2⟩ := hy _ _ _ h1
    exact ⟨by rw [e1, e2], h2⟩
  | box x hx =>
    intro u a b h
    cases u <;> simp [Fm.enc] at h
    obtain ⟨e1, h1⟩ := hx _ _ _ h
    exact ⟨by rw [e1], h1⟩
  | dia x hx =>
    intro u a b h
    cases u <;> simp [Fm.enc] at h
    obtain ⟨e1, h1⟩ := hx _ _ _ h
    exact ⟨by rw [e1], h1⟩
theorem enc_inj {t u : Fm.Tree} (h : Fm.enc t = Fm.enc u) : t = u := (enc_pre t u [] [] (by simpa using h)).1

end Go.Proofs.YtdndclfjeajhiaaGreat

/- The smallest formulas, and the formulas of a kind: the program's and the reference's makers. -/
namespace Go.Proofs.YtdndclfjeajhiaaGreat
open Go.RowKit
open Fm (Nd)

/-- The call returns a new list of nodes and changes nothing that was there. -/
def Gives (w : World) (xs : List Nd) (e : Ending) (w' : World) : Prop := ∃ v, e = .returned v ∧ Own w' w.heap.size v xs ∧ Grew w w'

/-- A new block that holds one node. -/
theorem Own.one (w : World) (B : Nat) (k s : Int) (hB : B ≤ w.heap.size) : Own (w.alloc (.cells #[.int .i64 k, .int .i64 s] 101)) B (.slice (some ⟨w.heap.size, 0, none⟩) 1 1) [(k, s)] :=
  Own.lit w B [(k, s)] #[.int .i64 k, .int .i64 s] hB (by simp) rfl

theorem l02Pair_c (k : Int) (va vb : Value) (xs ys : List Nd) (w : World) (ha : Nodes w va xs) (hb : Nodes w vb ys) (hn : xs.length + ys.length ≤ 1099511627775) :
    Calls Tryz.prog 98 #[.int .i64 k, va, vb] w (Gives w (Fm.join k xs ys)) := by
  go_enter Tryz.func98, Tryz.ntmps98
  go_wp2_with (first
    | (at_builtin; refine wpList_app (w0 := w) (.tmp 9) (.tmp 10) rfl rfl _ [(k, 0)] rfl (Own.one w _ k 0 (Nat.le_refl _)) ((Grew.refl w).alloc _) va xs rfl (ha.grew ((Grew.refl w).alloc _)) (by simp; omega) ?_; intro v1 w1 hown1 hg1 _)
    | (at_builtin; refine wpList_app (w0 := w) (.tmp 11) (.tmp 12) rfl rfl _ _ rfl hown1 hg1 vb ys rfl (hb.grew hg1) (by simp; omega) ?_; intro v2 w2 hown2 hg2 _))
  go_ret
  exact ⟨_, rfl, by simpa [Fm.join] using hown2, hg2⟩
theorem l02Pre_c (k : Int) (va : Value) (xs : List Nd) (w : World) (ha : Nodes w va xs) (hn : xs.length ≤ 1099511627775) :
    Calls Tryz.prog 155 #[.int .i64 k, va] w (Gives w (Fm.pre k xs)) := by
  go_enter Tryz.func155, Tryz.ntmps155
  go_wp2_with (first
    | (at_builtin; refine wpList_app (w0 := w) _ _ rfl rfl _ [(k, 0)] rfl (Own.one w _ k 0 (Nat.le_refl _)) ((Grew.refl w).alloc _) va xs rfl (ha.grew ((Grew.refl w).alloc _)) (by simp; omega) ?_; intro v1 w1 hown1 hg1 _))
  go_ret
  exact ⟨_, rfl, by simpa [Fm.pre] using hown1, hg1⟩

theorem l02False_c (w : World) : Calls Tryz.prog 127 #[] w (Gives w Fm.falsum) := by
  have h := Own.one w _ 1 0 (Nat.le_refl _)
  go_enter Tryz.func127, Tryz.ntmps127
  go_wp2_with fail
  go_ret
  exact ⟨_, rfl, h, (Grew.refl w).alloc _⟩

theorem l02Var_c (v : Int) (w : World) : Calls Tryz.prog 153 #[.int .i64 v] w (Gives w (Fm.vari v)) := by
  have h := Own.one w _ 0 v (Nat.le_refl _)
  go_enter Tryz.func153, Tryz.ntmps153
  go_wp2_with fail
  go_ret
  exact ⟨_, rfl, h, (Grew.refl w).alloc _⟩

theorem l02Not_c (va : Value) (xs : List Nd) (w : World) (ha : Nodes w va xs) (hn : xs.length ≤ 1099511627774) :
    Calls Tryz.prog 126 #[va] w (Gives w (Fm.neg xs)) := by
  go_enter Tryz.func126, Tryz.ntmps126
  go_wp2_with fail
  refine (l02False_c _).mono ?_
  rintro e w1 ⟨v1, rfl, ho1, hg1⟩
  go_wp2_with fail
  refine (l02Pair_c _ _ _ xs Fm.falsum _ (ha.grew hg1) ho1.nodes (by simp [Fm.falsum]; omega)).mono ?_
  rintro e w2 ⟨v2, rfl, ho2, hg2⟩
  go_wp2_with fail
  go_ret
  exact ⟨_, rfl, ho2.base hg1.size, hg1.trans hg2⟩

theorem l02True_c (w : World) : Calls Tryz.prog 118 #[] w (Gives w Fm.truth) := by
  go_enter Tryz.func118, Tryz.ntmps118
  go_wp2_with fail
  refine (l02False_c _).mono ?_
  rintro e w1 ⟨v1, rfl, ho1, hg1⟩
  go_wp2_with fail
  refine (l02Not_c _ Fm.falsum _ ho1.nodes (by simp [Fm.falsum])).mono ?_
  rintro e w2 ⟨v2, rfl, ho2, hg2⟩
  go_wp2_with fail
  go_ret
  exact ⟨_, rfl, ho2.base hg1.size, hg1.trans hg2⟩

theorem falsum_c (w : World) : Calls Tryz.prog 150 #[] w (Gives w Fm.falsum) := by
  have h := Own.one w _ 1 0 (Nat.le_refl _)
  go_enter Tryz.func150, Tryz.ntmps150
  go_wp2_with fail
  go_ret
  exact ⟨_, rfl, h, (Grew.refl w).alloc _⟩

theorem truth_c (w : World) : Calls Tryz.prog 151 #[] w (Gives w Fm.truth) := by
  have h := Own.lit w w.heap.size Fm.truth #[.int .i64 4, .int .i64 0, .int .i64 1, .int .i64 0, .int .i64 1, .int .i64 0] (Nat.le_refl _) (by simp [Fm.truth]) rfl
  go_enter Tryz.func151, Tryz.ntmps151
  go_wp2_with fail
  go_ret
  exact ⟨_, rfl, h, (Grew.refl w).alloc _⟩

theorem variable_c (v : Int) (w : World) : Calls Tryz.prog 152 #[.int .i64 v] w (Gives w (Fm.vari v)) := by
  have h := Own.one w _ 0 v (Nat.le_refl _)
  go_enter Tryz.func152, Tryz.ntmps152
  go_wp2_with fail
  go_ret
  exact ⟨_, rfl, h, (Grew.refl w).alloc _⟩

theorem grow_c (n : Nat) (w : World) (hn : n ≤ 1099511627776) :
    Calls Tryz.prog 136 #[.slice none 0 0, .int .i64 n] w (Gives w []) := by
  obtain ⟨i0, hi0, hz0, hz1, hz2⟩ := info_parts Tryz.infoNd
  rcases Nat.eq_zero_or_pos n with rfl | h0
  · go_enter Tryz.func136, Tryz.ntmps136
    go_wp2_with fail
    go_ret
    exact ⟨_, rfl, Own.nil_ _ _, Grew.refl _⟩
  · have hr := fun ty => run_grow_nil (P := Tryz.prog) w 83 3 ty 101 i0 _ 2 Tryz.underlying83 Tryz.underlying3 hi0 hz0 hz1 rfl (by omega) n h0 (by rw [hz2]; omega) (by omega)
    have HR := Lib.hid hr
    clear hr hz0 hz1 hz2 hi0
    go_enter Tryz.func136, Tryz.ntmps136
    go_wp2_with (at_builtin; obtain ⟨G, cs, hG1, hG2, hcs, hrun⟩ := HR.out _; refine Lib.wpList_append_run _ rfl _ _ _ _ rfl _ _ rfl rfl _ _ hrun ?_; have HC := Lib.hid hcs; clear hcs hrun)
    go_ret
    refine ⟨_, rfl, ?_, ((Grew.refl w).alloc _).drew⟩
    exact Own.mk_ (xs := []) (Nat.le_refl _) (blk_new w _) (by simp) hG2 HC.out (by simp)

/-- A slice of k slices of nodes that lies in memory: the j-th reads as L[j]. -/
def Lists (w : World) (v : Value) (L : List (List Nd)) : Prop :=
  (v = .slice none 0 0 ∧ L = []) ∨ ∃ b o c, v = .slice (some ⟨b, o, none⟩) L.length c ∧ L.length ≤ c ∧ c ≤ 9223372036854775807 ∧ b < w.heap.size ∧
    ∀ i, i < L.length → ∃ u, w.cell? ⟨b, o + i, none⟩ = some u ∧ Nodes w u (L.getD i [])
theorem Lists.grew {w w' : World} {v : Value} {L : List (List Nd)} (h : Lists w v L) (hb : Grew w w') : Lists w' v L := by
  rcases h with h | ⟨b, o, c, h1, h2, h3, h4, h5⟩
  · exact .inl h
  · refine .inr ⟨b, o, c, h1, h2, h3, Nat.lt_of_lt_of_le h4 hb.size, fun i hi => ?_⟩
    obtain ⟨u, h6, h7⟩ := h5 i hi
    exact ⟨u, (hb.cell (p := ⟨b, o + i, none⟩) h4).trans h6, h7.grew hb⟩
/-- How many nodes the first k lists have. -/
def total (L : List (List Nd)) (k : Nat) : Nat := ((L.take k).flatten).length
theorem total_zero (L : List (List Nd)) : total L 0 = 0 := by unfold total; rw [List.take_zero]; rfl
theorem total_succ {L : List (List Nd)} {k : Nat} (h : k < L.length) : total L (k + 1) = total L k + (L.getD k []).length := by
  unfold total
  rw [List.take_succ_eq_append_getElem h, List.flatten_append, List.length_append]
  simp [List.getD, h]
theorem total_mono {L : List (List Nd)} {k : Nat} : total L k ≤ L.flatten.length := by
  rw [total]
  have : L.flatten = (L.take k).flatten ++ (L.drop k).flatten := by rw [← List.flatten_append, List.take_append_drop]
  rw [this, List.length_append]
  omega
theorem concat_c (v : Value) (L : List (List Nd)) (w : World) (hL : Lists w v L) (hk : L.length ≤ 1099511627776) (hn : L.flatten.length ≤ 1099511627776) :
    Calls Tryz.prog 124 #[v] w (Gives w L.flatten) := by
  have hfull : total L L.length = L.flatten.length := by unfold total; rw [List.take_length]
  rcases hL with ⟨rfl, rfl⟩ | ⟨b, o, c, rfl, hc, hm, hb, hcell⟩
  · go_enter Tryz.func124, Tryz.ntmps124
    go_wp2_with fail
    refine wp_loop_rounds 1 ?_; rw [rounds_succ]
    go_wp2_with fail
    refine (grow_c 0 _ (by omega)).mono ?_
    rintro e w1 ⟨v1, rfl, ho1, hg1⟩
    go_wp2_with fail
    refine wp_loop_rounds 1 ?_; rw [rounds_succ]
    go_wp2_with fail
    go_ret
    exact ⟨_, rfl, ho1, hg1⟩
  · have HF := Lib.hid hfull
    have HC := Lib.hid hcell
    have HN := Lib.hid hn
    clear hfull hcell hn
    generalize hK : L.length = K at *
    have HK := Lib.hid hK
    clear hK
    go_enter Tryz.func124, Tryz.ntmps124
    go_wp2_with fail
    go_loopw [3, 5, 11] (fun n _ i wr => ∃ j : Nat, j ≤ K ∧ i = .int .i64 j ∧ n = .int .i64 (total L j) ∧ Grew w wr) (fun _ _ i _ => K - (intOf i).toNat)
    case atStart => exact ⟨0, Nat.zero_le _, rfl, by simp [total_zero], Grew.refl _⟩
    case round =>
      obtain ⟨j, hj, rfl, rfl, hB⟩ := hrel
      by_cases hlt : j < K
      · have hltL : j < L.length := by rw [HK.out]; exact hlt
        obtain ⟨u, hu1, hu2⟩ := HC.out j hlt
        have hs : total L (j + 1) = total L j + (L.getD j []).length := total_succ hltL
        have hle : total L (j + 1) ≤ 1099511627776 := Nat.le_trans total_mono HN.out
        generalize L.getD j [] = X at *
        obtain ⟨A, cc, rfl⟩ := nodes_slice hu2
        have k1 : ∀ W, Grew w W → W.cell? ⟨b, o + j, none⟩ = some (.slice A X.length cc) := fun W hW => (hW.cell (p := ⟨b, o + j, none⟩) hb).trans hu1
        rw [hs] at hle
        have HS := Lib.hid hs
        clear hs hu1 hu2
        go_wp2_with fail
        go_roundw
        case rel => exact ⟨j + 1, by omega, by go_num, by rw [HS.out]; go_num, by assumption⟩
        case measure => simp [intOf]; omega
      · have hjK : j = K := by omega
        subst hjK
        go_wp2_with fail
        refine (grow_c (total L j) _ (by rw [HF.out]; exact HN.out)).mono ?_
        rintro e w1 ⟨v1, rfl, ho1, hg1⟩
        have hg1' := hB.trans hg1
        have ho1' := ho1.base hB.size
        clear ho1 hg1 hlt
        go_wp2_with fail
        go_loopw [6, 8, 27] (fun v _ i wx => ∃ n : Nat, n ≤ j ∧ i = .int .i64 n ∧ Own wx w.heap.size v (L.take n).flatten ∧ Grew w wx) (fun _ _ i _ => j - (intOf i).toNat)
        case atStart => exact ⟨0, Nat.zero_le _, rfl, by simpa using ho1', hg1'⟩
        case round =>
          obtain ⟨n, hn, rfl, hown, hG⟩ := hrel
          by_cases hlt : n < j
          · have hltL : n < L.length := by rw [HK.out]; exact hlt
            obtain ⟨u, hu1, hu2⟩ := HC.out n hlt
            have hs : total L (n + 1) = total L n + (L.getD n []).length := total_succ hltL
            have hle : total L (n + 1) ≤ 1099511627776 := Nat.le_trans total_mono HN.out
            have hfl : (L.take (n + 1)).flatten = (L.take n).flatten ++ L.getD n [] := by
              rw [List.take_succ_eq_append_getElem hltL, List.flatten_append]
              simp [List.getD, hltL]
            have htl : (L.take n).flatten.length = total L n := rfl
            generalize L.getD n [] = X at *
            have k1 : ∀ W, Grew w W → W.cell? ⟨b, o + n, none⟩ = some u := fun W hW => (hW.cell (p := ⟨b, o + n, none⟩) hb).trans hu1
            have hbd : (L.take n).flatten.length + X.length ≤ 1099511627776 := by rw [htl, ← hs]; exact hle
            have HFL := Lib.hid hfl
            generalize (L.take n).flatten = Y at *
            clear hs hu1 htl hle hfl
            obtain ⟨A, cc, rfl⟩ := nodes_slice hu2
            go_wp2_with (first
              | (at_builtin; refine wpList_app (w0 := w) _ _ rfl rfl _ Y rfl hown hG _ X rfl (hu2.grew hG) hbd ?_; intro v2 w2 hown2 hg2 _))
            go_roundw
            case rel => exact ⟨n + 1, by omega, by go_num, by rw [HFL.out]; assumption, by assumption⟩
            case measure => simp [intOf]; omega
          · have hnj : n = j := by omega
            subst hnj
            have hfl : (L.take n).flatten = L.flatten := by rw [← HK.out, List.take_length]
            rw [hfl] at hown
            clear hfl
            go_wp2_with fail
            go_ret
            exact ⟨_, rfl, hown, hG⟩
end Go.Proofs.YtdndclfjeajhiaaGreat

/- The program's makers over slices.Concat. -/
namespace Go.Proofs.YtdndclfjeajhiaaGreat
open Go.RowKit
open Fm (Nd)

/-- A block that has just been made and holds slices of nodes. -/
theorem lists_new (w : World) (t : TypeId) (us : List Value) (L : List (List Nd)) (hm : L.length ≤ 9223372036854775807)
    (h : ∀ i, i < L.length → ∃ u, us[i]? = some u ∧ Nodes w u (L.getD i [])) : Lists (w.alloc (.cells us.toArray t)) (.slice (some ⟨w.heap.size, 0, none⟩) L.length L.length) L := by
  refine .inr ⟨w.heap.size, 0, L.length, rfl, Nat.le_refl _, hm, by simp, fun i hi => ?_⟩
  obtain ⟨u, h1, h2⟩ := h i hi
  refine ⟨u, ?_, h2.grew ((Grew.refl w).alloc _)⟩
  rw [Nat.zero_add, blk_cell (blk_new w _)]
  simpa using h1

theorem join_c (k : Int) (va vb : Value) (xs ys : List Nd) (w : World) (ha : Nodes w va xs) (hb : Nodes w vb ys) (hn : xs.length + ys.length ≤ 1099511627775) :
    Calls Tryz.prog 111 #[.int .i64 k, va, vb] w (Gives w (Fm.join k xs ys)) := by
  have o1 := Own.one w w.heap.size k 0 (Nat.le_refl _)
  have g1 := (Grew.refl w).alloc (.cells #[.int .i64 k, .int .i64 0] 101)
  have hl := lists_new (w.alloc (.cells #[.int .i64 k, .int .i64 0] 101)) 83 [.slice (some ⟨w.heap.size, 0, none⟩) 1 1, va, vb] [[(k, 0)], xs, ys] (by simp) (fun i hi => by
    match i, hi with
    | 0, _ => exact ⟨_, rfl, o1.nodes⟩
    | 1, _ => exact ⟨_, rfl, ha.grew g1⟩
    | 2, _ => exact ⟨_, rfl, hb.grew g1⟩)
  obtain ⟨A, ca, rfl⟩ := nodes_slice ha
  obtain ⟨B, cb, rfl⟩ := nodes_slice hb
  simp only [List.length_cons, List.length_nil, World.size_alloc] at hl
  go_enter Tryz.func111, Tryz.ntmps111
  go_wp2_with fail
  refine (concat_c _ _ _ hl (by simp) (by simp; omega)).mono ?_
  rintro e w1 ⟨v1, rfl, ho1, hg1⟩
  go_wp2_with fail
  go_ret
  exact ⟨_, rfl, by simpa [Fm.join] using ho1.base (by simp; omega), hg1.of_alloc.of_alloc⟩

theorem prefix_c (k : Int) (va : Value) (xs : List Nd) (w : World) (ha : Nodes w va xs) (hn : xs.length ≤ 1099511627775) :
    Calls Tryz.prog 147 #[.int .i64 k, va] w (Gives w (Fm.pre k xs)) := by
  have o1 := Own.one w w.heap.size k 0 (Nat.le_refl _)
  have g1 := (Grew.refl w).alloc (.cells #[.int .i64 k, .int .i64 0] 101)
  have hl := lists_new (w.alloc (.cells #[.int .i64 k, .int .i64 0] 101)) 83 [.slice (some ⟨w.heap.size, 0, none⟩) 1 1, va] [[(k, 0)], xs] (by simp) (fun i hi => by
    match i, hi with
    | 0, _ => exact ⟨_, rfl, o1.nodes⟩
    | 1, _ => exact ⟨_, rfl, ha.grew g1⟩)
  obtain ⟨A, ca, rfl⟩ := nodes_slice ha
  simp only [List.length_cons, List.length_nil, World.size_alloc] at hl
  go_enter Tryz.func147, Tryz.ntmps147
  go_wp2_with fail
  refine (concat_c _ _ _ hl (by simp) (by simp; omega)).mono ?_
  rintro e w1 ⟨v1, rfl, ho1, hg1⟩
  go_wp2_with fail
  go_ret
  exact ⟨_, rfl, by simpa [Fm.pre] using ho1.base (by simp; omega), hg1.of_alloc.of_alloc⟩

theorem negation_c (va : Value) (xs : List Nd) (w : World) (ha : Nodes w va xs) (hn : xs.length ≤ 1099511627774) :
    Calls Tryz.prog 145 #[va] w (Gives w (Fm.neg xs)) := by
  go_enter Tryz.func145, Tryz.ntmps145
  go_wp2_with fail
  refine (falsum_c _).mono ?_
  rintro e w1 ⟨v1, rfl, ho1, hg1⟩
  go_wp2_with fail
  refine (join_c _ _ _ xs Fm.falsum _ (ha.grew hg1) ho1.nodes (by simp [Fm.falsum]; omega)).mono ?_
  rintro e w2 ⟨v2, rfl, ho2, hg2⟩
  go_wp2_with fail
  go_ret
  exact ⟨_, rfl, ho2.base hg1.size, hg1.trans hg2⟩
end Go.Proofs.YtdndclfjeajhiaaGreat

/- The readers' first steps: take, need, l02Take, l02Need. -/
namespace Go.Proofs.YtdndclfjeajhiaaGreat
open Go.RowKit

/-- Block g holds a reader: its text, its position, whether it is bad. -/
def Rdr (w : World) (g : Nat) (T : TypeId) (s : ByteArray) (st : Fm.St) : Prop := w.heap[g]? = some (.cells #[.string s, .int .i64 st.1, .bool st.2] T (0, 0))
theorem Rdr.text {w : World} {g T : Nat} {s : ByteArray} {st : Fm.St} (h : Rdr w g T s st) : w.cell? ⟨g, 0, none⟩ = some (.string s) := by rw [blk_cell h]; rfl
theorem Rdr.at_ {w : World} {g T : Nat} {s : ByteArray} {st : Fm.St} (h : Rdr w g T s st) : w.cell? ⟨g, 1, none⟩ = some (.int .i64 st.1) := by rw [blk_cell h]; rfl
theorem Rdr.bad {w : World} {g T : Nat} {s : ByteArray} {st : Fm.St} (h : Rdr w g T s st) : w.cell? ⟨g, 2, none⟩ = some (.bool st.2) := by rw [blk_cell h]; rfl
theorem Rdr.free {w : World} {g T : Nat} {s : ByteArray} {st : Fm.St} (h : Rdr w g T s st) (i : Nat) : w.frozen? ⟨g, i, none⟩ = false := blk_frozen h i
theorem Rdr.lt {w : World} {g T : Nat} {s : ByteArray} {st : Fm.St} (h : Rdr w g T s st) : g < w.heap.size := blk_lt h
theorem Rdr.grew {w w' : World} {g T : Nat} {s : ByteArray} {st : Fm.St} (h : Rdr w g T s st) (hg : Grew w w') : Rdr w' g T s st := (hg.block h.lt).trans h
theorem Rdr.move {w : World} {g T : Nat} {s : ByteArray} {st : Fm.St} (h : Rdr w g T s st) (n : Nat) : Rdr (w.setCell ⟨g, 1, none⟩ (.int .i64 n)) g T s (n, st.2) := blk_set h 1 _
theorem Rdr.spoil {w : World} {g T : Nat} {s : ByteArray} {st : Fm.St} (h : Rdr w g T s st) : Rdr (w.setCell ⟨g, 2, none⟩ (.bool true)) g T s (st.1, true) := blk_set h 2 _

/-- What 'take' leaves. -/
def Took (w : World) (g : Nat) (T : TypeId) (s : ByteArray) (st : Fm.St) (c : UInt8) (e : Ending) (w' : World) : Prop :=
  e = .returned (.bool (Fm.sees s.data.toList st c)) ∧ Rdr w' g T s (if Fm.sees s.data.toList st c then Fm.step st else st) ∧ Only g w w'

theorem sees_bad (s : List UInt8) (p : Nat) (c : UInt8) : Fm.sees s (p, true) c = false := rfl
theorem sees_end (s : ByteArray) (p : Nat) (c : UInt8) (h : s.size ≤ p) : Fm.sees s.data.toList (p, false) c = false := by
  have : s.data.toList[p]? = none := by rw [Array.getElem?_toList, Array.getElem?_eq_none]; exact h
  simp [Fm.sees, this]
theorem sees_in (s : ByteArray) (p : Nat) (c : UInt8) (h : p < s.size) : Fm.sees s.data.toList (p, false) c = (s[p] == c) := by
  have : s.data.toList[p]? = some s[p] := by rw [Array.getElem?_toList]; exact Array.getElem?_eq_getElem h
  simp [Fm.sees, this]
theorem byte_eq (a b : UInt8) : ((a.toNat : Int) == b.toNat) = (a == b) := by
  rw [Bool.eq_iff_iff]; simp only [beq_iff_eq, ← UInt8.toNat_inj]; omega
theorem byte_ne (a b : UInt8) : ((a.toNat : Int) != b.toNat) = !(a == b) := by
  rw [bne, byte_eq]

theorem Took.no {w w' : World} {g T : Nat} {s : ByteArray} {st : Fm.St} {c : UInt8} (h : Rdr w g T s st) (hs : Fm.sees s.data.toList st c = false) (hw : Grew w w') : Took w g T s st c (.returned (.bool false)) w' := by
  unfold Took; rw [hs]; exact ⟨rfl, h.grew hw, hw.only⟩
theorem Took.yes {w w' : World} {g T : Nat} {s : ByteArray} {p : Nat} {b : Bool} {c : UInt8} (h : Rdr w g T s (p, b)) (hs : Fm.sees s.data.toList (p, b) c = true) (hw : Grew w w') : Took w g T s (p, b) c (.returned (.bool true)) (w'.setCell ⟨g, 1, none⟩ (.int .i64 ((p : Int) + 1))) := by
  unfold Took; rw [hs]; exact ⟨rfl, (h.grew hw).move (p + 1), hw.only.setCell _⟩

theorem take_c (g T : Nat) (s : ByteArray) (st : Fm.St) (c : UInt8) (m : Int) (w : World) (h : Rdr w g T s st) (hs : s.size ≤ 1099511627776) (hat : st.1 ≤ s.size) (hm : m = (c.toNat : Int)) :
    Calls Tryz.prog 134 #[.pointer (some ⟨g, 0, none⟩), .int .u8 m] w (Took w g T s st c) := by
  subst hm
  have c0 := h.text
  have c1 := h.at_
  have c2 := h.bad
  have hf := h.free 1
  obtain ⟨p, b⟩ := st
  simp only at c0 c1 c2 hat
  by_cases hb : b = true
  · subst hb
    have HH := Lib.hid h
    clear h
    go_enter Tryz.func134, Tryz.ntmps134
    go_wp2_with fail
    go_quiet (fail)
    go_wp2_with fail
    go_ret
    exact Took.no HH.out (sees_bad _ _ _) ((Grew.refl _).drewN _)
  · have hb' : b = false := by simpa using hb
    subst hb'
    by_cases hlt : p < s.size
    · have hd : decide ((s.size : Int) ≤ (p : Int)) = false := by simp; omega
      have HH := Lib.hid h
      clear h hb
      go_enter Tryz.func134, Tryz.ntmps134
      go_wp2_with fail
      go_quiet (fail)
      go_wp2_with fail
      · have h1 : s.size ≤ p ∨ ((s[p].toNat : Int) != c.toNat) = true := by assumption
        go_ret
        exact Took.no HH.out (by rw [sees_in s p c hlt]; rcases h1 with h1 | h1; omega; rw [byte_ne] at h1; simpa using h1) ((Grew.refl _).drewN _)
      · have h1 : ¬ s.size ≤ p ∧ ((s[p].toNat : Int) != c.toNat) = false := by assumption
        go_ret
        exact Took.yes HH.out (by rw [sees_in s p c hlt]; have := h1.2; rw [byte_ne] at this; simpa using this) ((Grew.refl _).drewN _)
    · have hd : decide ((s.size : Int) ≤ (p : Int)) = true := by simp; omega
      have HH := Lib.hid h
      clear h hb
      go_enter Tryz.func134, Tryz.ntmps134
      go_wp2_with fail
      go_quiet (fail)
      go_wp2_with fail
      go_ret
      exact Took.no HH.out (sees_end _ _ _ (by omega)) ((Grew.refl _).drewN _)

theorem take_yes (g T : Nat) (s : ByteArray) (st : Fm.St) (c : UInt8) (m : Int) (w : World) (h : Rdr w g T s st) (hs : s.size ≤ 1099511627776) (hat : st.1 ≤ s.size) (hm : m = (c.toNat : Int)) (hsee : Fm.sees s.data.toList st c = true) :
    Calls Tryz.prog 134 #[.pointer (some ⟨g, 0, none⟩), .int .u8 m] w fun e w' => e = .returned (.bool true) ∧ Rdr w' g T s (Fm.step st) ∧ Only g w w' :=
  (take_c g T s st c m w h hs hat hm).mono fun e w' hh => by
    unfold Took at hh; rw [hsee] at hh; exact hh
theorem take_no (g T : Nat) (s : ByteArray) (st : Fm.St) (c : UInt8) (m : Int) (w : World) (h : Rdr w g T s st) (hs : s.size ≤ 1099511627776) (hat : st.1 ≤ s.size) (hm : m = (c.toNat : Int)) (hsee : Fm.sees s.data.toList st c = false) :
    Calls Tryz.prog 134 #[.pointer (some ⟨g, 0, none⟩), .int .u8 m] w fun e w' => e = .returned (.bool false) ∧ Rdr w' g T s st ∧ Only g w w' :=
  (take_c g T s st c m w h hs hat hm).mono fun e w' hh => by
    unfold Took at hh; rw [hsee] at hh; exact hh
theorem need_c (g T : Nat) (s : ByteArray) (st : Fm.St) (c : UInt8) (m : Int) (w : World) (h : Rdr w g T s st) (hs : s.size ≤ 1099511627776) (hat : st.1 ≤ s.size) (hm : m = (c.toNat : Int)) :
    Calls Tryz.prog 146 #[.pointer (some ⟨g, 0, none⟩), .int .u8 m] w fun e w' => e = .returned (.tuple #[]) ∧ Rdr w' g T s (Fm.need s.data.toList st c) ∧ Only g w w' := by
  subst hm
  by_cases hsee : Fm.sees s.data.toList st c = true
  · have hn : Fm.need s.data.toList st c = Fm.step st := by unfold Fm.need; rw [if_pos hsee]
    rw [hn]
    clear hn
    go_enter Tryz.func146, Tryz.ntmps146
    go_wp2_with fail
    refine (take_yes g T s st c _ _ h hs hat rfl hsee).mono ?_
    rintro e w1 ⟨rfl, h1, o1⟩
    go_wp2_with fail
    go_end0
    exact ⟨rfl, h1, o1⟩
  · have hsee' : Fm.sees s.data.toList st c = false := by simpa using hsee
    have hn : Fm.need s.data.toList st c = (st.1, true) := by unfold Fm.need; rw [if_neg hsee]
    rw [hn]
    clear hn hsee
    go_enter Tryz.func146, Tryz.ntmps146
    go_wp2_with fail
    refine (take_no g T s st c _ _ h hs hat rfl hsee').mono ?_
    rintro e w1 ⟨rfl, h1, o1⟩
    have c2 := h1.bad
    have hf := h1.free 2
    have HH := Lib.hid h1
    clear h1
    go_wp2_with fail
    go_end0
    exact ⟨rfl, HH.out.spoil, o1.setCell _⟩

end Go.Proofs.YtdndclfjeajhiaaGreat

/- The program's reader: what its functions read is what the plain parser gives. -/
namespace Go.Proofs.YtdndclfjeajhiaaGreat
open Go.RowKit
open Fm (Nd)

/-- The call returns the list r.1 in new memory, and the reader stands at r.2. -/
def Reads (w : World) (g : Nat) (T : TypeId) (s : ByteArray) (r : Fm.Res) (e : Ending) (w' : World) : Prop :=
  ∃ v, e = .returned v ∧ Own w' w.heap.size v r.1 ∧ Rdr w' g T s r.2 ∧ Only g w w'

theorem own_rdr_ne {w : World} {B g : Nat} {v : Value} {xs : List Nd} {T : TypeId} {s : ByteArray} {st : Fm.St} (h : Own w B v xs) (hr : Rdr w g T s st) (hne : 101 ≠ T) : v.ownBlock ≠ some g := own_ne h hr hne

theorem size_toList (s : ByteArray) : s.data.toList.length = s.size := by simp

/-- One 'join' in a loop of 'and' or 'or'. -/
theorem Reads.ok_len {s : ByteArray} {st : Fm.St} {r : Fm.Res} (h : Fm.Ok s.data.toList st r) (hs : s.size ≤ 1048576) : r.1.length ≤ 3145729 := by
  obtain ⟨h1, h2, h3⟩ := h
  rw [size_toList] at h2
  omega

/-- The contract of a function that reads, for a plain function sub and all states from which less than f bytes are left. -/
def Sub (F : FuncId) (T : TypeId) (s : ByteArray) (f : Nat) (sub : Fm.St → Fm.Res) : Prop :=
  ∀ (g : Nat) (st : Fm.St) (w : World), Rdr w g T s st → st.1 ≤ s.size → s.size - st.1 < f → Calls Tryz.prog F #[.pointer (some ⟨g, 0, none⟩)] w (Reads w g T s (sub st))

theorem and_c (T : TypeId) (hT : 101 ≠ T) (s : ByteArray) (f m : Nat) (sub : Fm.St → Fm.Res) (hs : s.size ≤ 1048576) (hm : s.size < m) (hok : ∀ st : Fm.St, st.1 ≤ s.data.toList.length → Fm.Ok s.data.toList st (sub st))
    (hsub : Sub 143 T s f sub) : Sub 140 T s f (fun st => Fm.loop s.data.toList 2 38 sub m (sub st).1 (sub st).2) := by
  intro g st w hR hat hfu
  have HS := Lib.hid hsub
  have HO := Lib.hid hok
  clear hsub hok
  have hsz := size_toList s
  have h0 : Fm.Ok s.data.toList st (sub st) := HO.out st (by rw [hsz]; exact hat)
  show Calls _ _ _ _ (Reads w g T s (Fm.loop s.data.toList 2 38 sub m (sub st).1 (sub st).2))
  obtain ⟨R, hR0⟩ : ∃ R, R = Fm.loop s.data.toList 2 38 sub m (sub st).1 (sub st).2 := ⟨_, rfl⟩
  rw [← hR0]
  have hend := Lib.hid hR0
  clear hR0
  have HZ := Lib.hid hsz
  clear hsz
  go_enter Tryz.func140, Tryz.ntmps140
  go_wp2_with fail
  refine (HS.out g st _ hR hat hfu).mono ?_
  rintro e w1 ⟨v1, rfl, ho1, hR1, hO1⟩
  generalize sub st = r1 at *
  obtain ⟨k1, k2, k3⟩ := h0
  rw [HZ.out] at k2
  go_wp2_with fail
  go_loopg [3] m (fun i v wr => ∃ (a : List Nd) (st' : Fm.St), Own wr w.heap.size v a ∧ Rdr wr g T s st' ∧ Only g w wr ∧ Hid (Fm.loop s.data.toList 2 38 sub i a st' = R) ∧ s.size - st'.1 < i ∧ st.1 ≤ st'.1 ∧ st'.1 ≤ s.size ∧ a.length ≤ 3 * st'.1 + 1)
  case atStart => exact ⟨r1.1, r1.2, ho1, hR1, hO1, hend.out.symm, by omega, by omega, by omega, by omega⟩
  case round =>
    obtain ⟨a, st', hown, hR', hO', hl, hi, hst, hst2, hlen⟩ := hrel
    have hne := own_rdr_ne hown hR' hT
    clear hend ho1 hR1 hO1 k1 k2 k3 hR
    obtain ⟨j, rfl⟩ : ∃ j, gk = j + 1 := ⟨gk - 1, by omega⟩
    by_cases hsee : Fm.sees s.data.toList st' 38 = true
    · have hlt := Fm.sees_lt hsee
      rw [HZ.out] at hlt
      have hl2 : Hid (Fm.loop s.data.toList 2 38 sub j (Fm.join 2 a (sub (Fm.step st')).1) (sub (Fm.step st')).2 = R) := by
        have := hl.out
        rw [Fm.loop, if_pos hsee] at this
        exact this
      obtain ⟨k1, k2, k3⟩ : Fm.Ok s.data.toList (Fm.step st') (sub (Fm.step st')) := HO.out (Fm.step st') (by rw [HZ.out]; exact hlt)
      rw [HZ.out] at k2
      have e1 : (Fm.step st').1 = st'.1 + 1 := rfl
      rw [e1] at k1 k3
      have hfu2 : s.size - (Fm.step st').1 < f := by rw [e1]; omega
      have hat2 : (Fm.step st').1 ≤ s.size := by rw [e1]; omega
      clear hl e1
      go_wp2_with fail
      refine (take_yes g T s st' 38 _ _ hR' (by omega) hst2 rfl hsee).mono ?_
      rintro e w2 ⟨rfl, hR2, hO2⟩
      clear hsee hR'
      generalize Fm.step st' = st2 at *
      go_wp2_with fail
      refine (HS.out g st2 _ hR2 hat2 hfu2).mono ?_
      rintro e w3 ⟨v3, rfl, ho3, hR3, hO3⟩
      generalize sub st2 = r3 at *
      go_wp2_with fail
      refine (join_c 2 _ _ a r3.1 _ ((hown.only hO2 hne).only hO3 hne).nodes ho3.nodes (by omega)).mono ?_
      rintro e w4 ⟨v4, rfl, ho4, hg4⟩
      go_wp2_with fail
      go_roundg j
      case measure => omega
      case rel => exact ⟨_, r3.2, ho4.base (by have := hO'.size; have := hO2.size; have := hO3.size; omega), hR3.grew hg4, ((hO'.trans hO2).trans hO3).grew hg4, hl2, by omega, by omega, by omega, by simp only [Fm.join, List.length_cons, List.length_append]; omega⟩
    · have hsee' : Fm.sees s.data.toList st' 38 = false := by simpa using hsee
      have hl2 : Hid (R = (a, st')) := by
        have := hl.out
        rw [Fm.loop, if_neg hsee] at this
        exact this.symm
      clear hsee hl
      go_wp2_with fail
      refine (take_no g T s st' 38 _ _ hR' (by omega) hst2 rfl hsee').mono ?_
      rintro e w2 ⟨rfl, hR2, hO2⟩
      go_wp2_with fail
      go_ret
      rw [hl2.out]
      exact ⟨_, rfl, hown.only hO2 hne, hR2, hO'.trans hO2⟩
theorem or_c (T : TypeId) (hT : 101 ≠ T) (s : ByteArray) (f m : Nat) (sub : Fm.St → Fm.Res) (hs : s.size ≤ 1048576) (hm : s.size < m) (hok : ∀ st : Fm.St, st.1 ≤ s.data.toList.length → Fm.Ok s.data.toList st (sub st))
    (hsub : Sub 140 T s f sub) : Sub 133 T s f (fun st => Fm.loop s.data.toList 3 124 sub m (sub st).1 (sub st).2) := by
  intro g st w hR hat hfu
  have HS := Lib.hid hsub
  have HO := Lib.hid hok
  clear hsub hok
  have hsz := size_toList s
  have h0 : Fm.Ok s.data.toList st (sub st) := HO.out st (by rw [hsz]; exact hat)
  show Calls _ _ _ _ (Reads w g T s (Fm.loop s.data.toList 3 124 sub m (sub st).1 (sub st).2))
  obtain ⟨R, hR0⟩ : ∃ R, R = Fm.loop s.data.toList 3 124 sub m (sub st).1 (sub st).2 := ⟨_, rfl⟩
  rw [← hR0]
  have hend := Lib.hid hR0
  clear hR0
  have HZ := Lib.hid hsz
  clear hsz
  go_enter Tryz.func133, Tryz.ntmps133
  go_wp2_with fail
  refine (HS.out g st _ hR hat hfu).mono ?_
  rintro e w1 ⟨v1, rfl, ho1, hR1, hO1⟩
  generalize sub st = r1 at *
  obtain ⟨k1, k2, k3⟩ := h0
  rw [HZ.out] at k2
  go_wp2_with fail
  go_loopg [3] m (fun i v wr => ∃ (a : List Nd) (st' : Fm.St), Own wr w.heap.size v a ∧ Rdr wr g T s st' ∧ Only g w wr ∧ Hid (Fm.loop s.data.toList 3 124 sub i a st' = R) ∧ s.size - st'.1 < i ∧ st.1 ≤ st'.1 ∧ st'.1 ≤ s.size ∧ a.length ≤ 3 * st'.1 + 1)
  case atStart => exact ⟨r1.1, r1.2, ho1, hR1, hO1, hend.out.symm, by omega, by omega, by omega, by omega⟩
  case round =>
    obtain ⟨a, st', hown, hR', hO', hl, hi, hst, hst2, hlen⟩ := hrel
    have hne := own_rdr_ne hown hR' hT
    clear hend ho1 hR1 hO1 k1 k2 k3 hR
    obtain ⟨j, rfl⟩ : ∃ j, gk = j + 1 := ⟨gk - 1, by omega⟩
    by_cases hsee : Fm.sees s.data.toList st' 124 = true
    · have hlt := Fm.sees_lt hsee
      rw [HZ.out] at hlt
      have hl2 : Hid (Fm.loop s.data.toList 3 124 sub j (Fm.join 3 a (sub (Fm.step st')).1) (sub (Fm.step st')).2 = R) := by
        have := hl.out
        rw [Fm.loop, if_pos hsee] at this
        exact this
      obtain ⟨k1, k2, k3⟩ : Fm.Ok s.data.toList (Fm.step st') (sub (Fm.step st')) := HO.out (Fm.step st') (by rw [HZ.out]; exact hlt)
      rw [HZ.out] at k2
      have e1 : (Fm.step st').1 = st'.1 + 1 := rfl
      rw [e1] at k1 k3
      have hfu2 : s.size - (Fm.step st').1 < f := by rw [e1]; omega
      have hat2 : (Fm.step st').1 ≤ s.size := by rw [e1]; omega
      clear hl e1
      go_wp2_with fail
      refine (take_yes g T s st' 124 _ _ hR' (by omega) hst2 rfl hsee).mono ?_
      rintro e w2 ⟨rfl, hR2, hO2⟩
      clear hsee hR'
      generalize Fm.step st' = st2 at *
      go_wp2_with fail
      refine (HS.out g st2 _ hR2 hat2 hfu2).mono ?_
      rintro e w3 ⟨v3, rfl, ho3, hR3, hO3⟩
      generalize sub st2 = r3 at *
      go_wp2_with fail
      refine (join_c 3 _ _ a r3.1 _ ((hown.only hO2 hne).only hO3 hne).nodes ho3.nodes (by omega)).mono ?_
      rintro e w4 ⟨v4, rfl, ho4, hg4⟩
      go_wp2_with fail
      go_roundg j
      case measure => omega
      case rel => exact ⟨_, r3.2, ho4.base (by have := hO'.size; have := hO2.size; have := hO3.size; omega), hR3.grew hg4, ((hO'.trans hO2).trans hO3).grew hg4, hl2, by omega, by omega, by omega, by simp only [Fm.join, List.length_cons, List.length_append]; omega⟩
    · have hsee' : Fm.sees s.data.toList st' 124 = false := by simpa using hsee
      have hl2 : Hid (R = (a, st')) := by
        have := hl.out
        rw [Fm.loop, if_neg hsee] at this
        exact this.symm
      clear hsee hl
      go_wp2_with fail
      refine (take_no g T s st' 124 _ _ hR' (by omega) hst2 rfl hsee').mono ?_
      rintro e w2 ⟨rfl, hR2, hO2⟩
      go_wp2_with fail
      go_ret
      rw [hl2.out]
      exact ⟨_, rfl, hown.only hO2 hne, hR2, hO'.trans hO2⟩

theorem imply_c (T : TypeId) (hT : 101 ≠ T) (s : ByteArray) (f m : Nat) (sub : Fm.St → Fm.Res) (hs : s.size ≤ 1048576) (hok : ∀ st : Fm.St, st.1 ≤ s.data.toList.length → Fm.Ok s.data.toList st (sub st))
    (hsub : Sub 133 T s f (Fm.orF s.data.toList m sub)) : ∀ (i : Nat) (g : Nat) (st : Fm.St) (w : World), Rdr w g T s st → st.1 ≤ s.size → s.size - st.1 < i → s.size - st.1 < f →
      Calls Tryz.prog 122 #[.pointer (some ⟨g, 0, none⟩)] w (Reads w g T s (Fm.impF s.data.toList m sub i st)) := by
  intro i
  induction i with
  | zero => intro g st w _ _ h; omega
  | succ i ih =>
    intro g st w hR hat hi hfu
    have HS := Lib.hid hsub
    have HI := Lib.hid ih
    clear hsub ih
    have hsz := size_toList s
    have h0 : Fm.Ok s.data.toList st (Fm.orF s.data.toList m sub st) := Fm.orF_ok hok st (by rw [hsz]; exact hat)
    have hy := @Fm.impF_yes s.data.toList m i sub st
    have hn := @Fm.impF_no s.data.toList m i sub st
    have hk := fun st h => Fm.impF_ok (m := m) hok i st h
    have HK := Lib.hid hk
    have HZ := Lib.hid hsz
    clear hsz hok hk
    have HC := fun g h1 => HS.out g st w h1 hat hfu
    have HD := Lib.hid HC
    clear HC HS
    generalize Fm.orF s.data.toList m sub st = r1 at *
    obtain ⟨k1, k2, k3⟩ := h0
    rw [HZ.out] at k2
    by_cases hsee : Fm.sees s.data.toList r1.2 62 = true
    · have hlt := Fm.sees_lt hsee
      rw [HZ.out] at hlt
      have e1 : (Fm.step r1.2).1 = r1.2.1 + 1 := rfl
      obtain ⟨q1, q2, q3⟩ := HK.out (Fm.step r1.2) (by rw [HZ.out, e1]; exact hlt)
      rw [HZ.out] at q2
      rw [e1] at q1 q3
      have hq := HI.out g (Fm.step r1.2)
      rw [e1] at hq
      have HQ := Lib.hid hq
      rw [hy hsee]
      clear hy hn HI hq HK e1
      go_enter Tryz.func122, Tryz.ntmps122
      go_wp2_with fail
      refine (HD.out g hR).mono ?_
      rintro e w1 ⟨v1, rfl, ho1, hR1, hO1⟩
      have hne := own_rdr_ne ho1 hR1 hT
      go_wp2_with fail
      refine (take_yes g T s r1.2 62 _ _ hR1 (by omega) (by omega) rfl hsee).mono ?_
      rintro e w2 ⟨rfl, hR2, hO2⟩
      go_wp2_with fail
      refine (HQ.out _ hR2 (by omega) (by omega) (by omega)).mono ?_
      rintro e w3 ⟨v3, rfl, ho3, hR3, hO3⟩
      generalize Fm.impF s.data.toList m sub i (Fm.step r1.2) = r3 at *
      go_wp2_with fail
      refine (join_c 4 _ _ r1.1 r3.1 _ ((ho1.only hO2 hne).only hO3 hne).nodes ho3.nodes (by omega)).mono ?_
      rintro e w4 ⟨v4, rfl, ho4, hg4⟩
      go_wp2_with fail
      go_ret
      exact ⟨_, rfl, ho4.base (by have := hO1.size; have := hO2.size; have := hO3.size; omega), hR3.grew hg4, ((hO1.trans hO2).trans hO3).grew hg4⟩
    · have hsee' : Fm.sees s.data.toList r1.2 62 = false := by simpa using hsee
      rw [hn hsee']
      clear hy hn HI HK hsee
      go_enter Tryz.func122, Tryz.ntmps122
      go_wp2_with fail
      refine (HD.out g hR).mono ?_
      rintro e w1 ⟨v1, rfl, ho1, hR1, hO1⟩
      have hne := own_rdr_ne ho1 hR1 hT
      go_wp2_with fail
      refine (take_no g T s r1.2 62 _ _ hR1 (by omega) (by omega) rfl hsee').mono ?_
      rintro e w2 ⟨rfl, hR2, hO2⟩
      go_wp2_with fail
      go_ret
      exact ⟨_, rfl, ho1.only hO2 hne, hR2, hO1.trans hO2⟩

end Go.Proofs.YtdndclfjeajhiaaGreat

/- The program's reader: the two lowest levels. -/
namespace Go.Proofs.YtdndclfjeajhiaaGreat
open Go.RowKit
open Fm (Nd)

/-- The range over the letters, at a block of the call's own. -/
def letters : ByteArray := ⟨#[112, 113, 114, 115, 116, 117]⟩
theorem only_iterAt {g k : Nat} {a b : World} (h : Only g a b) (hk : a.heap.size ≤ k) (s : ByteArray) (p : Nat) : Only g a (b.iterAt k s p) :=
  ⟨h.os, h.tape, h.output, by rw [Lib.iterAt_size]; exact h.size, fun i hi hne => (Lib.iterAt_other b k i s p (by omega)).trans (World.grownBy.block h i hi hne)⟩
theorem Rdr.iterAt {w : World} {g T k : Nat} {s : ByteArray} {st : Fm.St} (h : Rdr w g T s st) (hk : g ≠ k) (x : ByteArray) (p : Nat) : Rdr (w.iterAt k x p) g T s st := (Lib.iterAt_other w k g x p hk).trans h

theorem next_letter {P : Program} (w : World) (k i : Nat) (ty : TypeId) (hk : w.heap[k]? = some (.stringIter letters i)) (hi : i < 6) :
    (Instr.next (.pointer (some ⟨k, 0, none⟩)) true ty).run P w = .ok (.tuple #[.bool true, .int .i64 i, .int .i32 (112 + (i : Int))]) (w.iterAt k letters (i + 1)) := by
  have h6 : i = 0 ∨ i = 1 ∨ i = 2 ∨ i = 3 ∨ i = 4 ∨ i = 5 := by omega
  rcases h6 with rfl | rfl | rfl | rfl | rfl | rfl <;> exact Lib.run_next_ascii_at w k letters _ ty hk (by decide) (by decide)
theorem letter_byte {i : Nat} (hi : i < 6) : 112 + (i : Int) = ((UInt8.ofNat (112 + i)).toNat : Int) := by
  rw [UInt8.toNat_ofNat']; omega

theorem atom_c (T : TypeId) (hT : 101 ≠ T) (s : ByteArray) (f m : Nat) (hs : s.size ≤ 1048576)
    (himp : Sub 122 T s f (Fm.impF s.data.toList m (Fm.preF s.data.toList m f) m)) (g : Nat) (st : Fm.St) (w : World) (hR : Rdr w g T s st) (hat : st.1 ≤ s.size) (hfu : s.size - st.1 < f + 1)
    (h126 : Fm.sees s.data.toList st 126 = false) (h91 : Fm.sees s.data.toList st 91 = false) (h60 : Fm.sees s.data.toList st 60 = false) :
    Calls Tryz.prog 148 #[.pointer (some ⟨g, 0, none⟩)] w (Reads w g T s (Fm.preF s.data.toList m (f + 1) st)) := by
  have HI := Lib.hid himp
  have HZ := Lib.hid (size_toList s)
  clear himp
  by_cases h70 : Fm.sees s.data.toList st 70 = true
  · rw [Fm.preF_fls h70]
    go_enter Tryz.func148, Tryz.ntmps148
    go_wp2_with fail
    refine (take_yes g T s st 70 _ _ hR (by omega) hat rfl h70).mono ?_
    rintro e w1 ⟨rfl, hR1, hO1⟩
    go_wp2_with fail
    refine (falsum_c _).mono ?_
    rintro e w2 ⟨v2, rfl, ho2, hg2⟩
    go_wp2_with fail
    go_ret
    exact ⟨_, rfl, ho2.base hO1.size, hR1.grew hg2, hO1.grew hg2⟩
  have h70' : Fm.sees s.data.toList st 70 = false := by simpa using h70
  by_cases h84 : Fm.sees s.data.toList st 84 = true
  · rw [Fm.preF_tru h84]
    clear h70
    go_enter Tryz.func148, Tryz.ntmps148
    go_wp2_with fail
    refine (take_no g T s st 70 _ _ hR (by omega) hat rfl h70').mono ?_
    rintro e w1 ⟨rfl, hR1, hO1⟩
    go_wp2_with fail
    refine (take_yes g T s st 84 _ _ hR1 (by omega) hat rfl h84).mono ?_
    rintro e w2 ⟨rfl, hR2, hO2⟩
    go_wp2_with fail
    refine (truth_c _).mono ?_
    rintro e w3 ⟨v3, rfl, ho3, hg3⟩
    go_wp2_with fail
    go_ret
    exact ⟨_, rfl, ho3.base (Nat.le_trans hO1.size hO2.size), hR2.grew hg3, (hO1.trans hO2).grew hg3⟩
  have h84' : Fm.sees s.data.toList st 84 = false := by simpa using h84
  clear h70 h84
  by_cases h40 : Fm.sees s.data.toList st 40 = true
  · rw [Fm.preF_par h40]
    have hlt := Fm.sees_lt h40
    rw [HZ.out] at hlt
    have hk : Fm.Ok s.data.toList (Fm.step st) (Fm.impF s.data.toList m (Fm.preF s.data.toList m f) m (Fm.step st)) := Fm.impF_ok (fun st h => Fm.preF_ok f st h) m (Fm.step st) (by rw [HZ.out]; exact hlt)
    have e1 : (Fm.step st).1 = st.1 + 1 := rfl
    obtain ⟨k1, k2, k3⟩ := hk
    rw [HZ.out] at k2
    rw [e1] at k1 k3
    have hq := HI.out g (Fm.step st)
    rw [e1] at hq
    have HQ := Lib.hid hq
    clear hq e1 HI
    generalize Fm.impF s.data.toList m (Fm.preF s.data.toList m f) m (Fm.step st) = r at *
    go_enter Tryz.func148, Tryz.ntmps148
    go_wp2_with fail
    refine (take_no g T s st 70 _ _ hR (by omega) hat rfl h70').mono ?_
    rintro e w1 ⟨rfl, hR1, hO1⟩
    go_wp2_with fail
    refine (take_no g T s st 84 _ _ hR1 (by omega) hat rfl h84').mono ?_
    rintro e w2 ⟨rfl, hR2, hO2⟩
    go_wp2_with fail
    refine (take_yes g T s st 40 _ _ hR2 (by omega) hat rfl h40).mono ?_
    rintro e w3 ⟨rfl, hR3, hO3⟩
    go_wp2_with fail
    refine (HQ.out _ hR3 (by omega) (by omega)).mono ?_
    rintro e w4 ⟨v4, rfl, ho4, hR4, hO4⟩
    have hne := own_rdr_ne ho4 hR4 hT
    go_wp2_with fail
    refine (need_c g T s r.2 41 _ _ hR4 (by omega) (by omega) rfl).mono ?_
    rintro e w5 ⟨rfl, hR5, hO5⟩
    go_wp2_with fail
    go_ret
    exact ⟨_, rfl, (ho4.only hO5 hne).base (by have := hO1.size; have := hO2.size; have := hO3.size; omega), hR5, (((hO1.trans hO2).trans hO3).trans hO4).trans hO5⟩
  have h40' : Fm.sees s.data.toList st 40 = false := by simpa using h40
  clear h40 HI
  cases hl : Fm.letter s.data.toList st with
  | some v =>
    rw [Fm.preF_var hl]
    have hv := (Fm.letter_some hl).1
    have hvs := (Fm.letter_some hl).2
    have hno := fun i hi hne => @Fm.letter_ne s.data.toList st v i hl hi hne
    have HN := Lib.hid hno
    clear hno hl
    go_enter Tryz.func148, Tryz.ntmps148
    go_wp2_with fail
    refine (take_no g T s st 70 _ _ hR (by omega) hat rfl h70').mono ?_
    rintro e w1 ⟨rfl, hR1, hO1⟩
    go_wp2_with fail
    refine (take_no g T s st 84 _ _ hR1 (by omega) hat rfl h84').mono ?_
    rintro e w2 ⟨rfl, hR2, hO2⟩
    go_wp2_with fail
    refine (take_no g T s st 40 _ _ hR2 (by omega) hat rfl h40').mono ?_
    rintro e w3 ⟨rfl, hR3, hO3⟩
    go_wp2_with fail
    have hit := World.iter_heap w3 letters 0
    have hR4 : Rdr (w3.iter letters 0) g T s st := hR3.grew ((Grew.refl w3).alloc _)
    have hO4 : Only g w (w3.iter letters 0) := ((hO1.trans hO2).trans hO3).alloc _
    have hgk : g ≠ w3.heap.size := by have := hR3.lt; omega
    have hk : w.heap.size ≤ w3.heap.size := ((hO1.trans hO2).trans hO3).size
    have HW := Lib.hid hit
    clear hit hR3 hO3 hR2 hO2 hR1 hO1
    go_loopg [4, 5] 6 (fun n _ _ wr => ∃ i : Nat, n = 6 - i ∧ i ≤ v ∧ Rdr wr g T s st ∧ Only g w wr ∧ Hid (wr.heap[w3.heap.size]? = some (.stringIter letters i)))
    case atStart => exact ⟨0, rfl, Nat.zero_le _, hR4, hO4, HW.out⟩
    case round =>
      obtain ⟨i, rfl, hiv, hRr, hOr, HX⟩ := hrel
      have hnx := fun ty => next_letter (P := Tryz.prog) wr w3.heap.size i ty HX.out (by omega)
      have HY : Hid ((wr.iterAt w3.heap.size letters (i + 1)).heap[w3.heap.size]? = some (.stringIter letters (i + 1))) := Lib.hid (Lib.iterAt_heap wr w3.heap.size letters i (i + 1) HX.out)
      have hR5 := hRr.iterAt hgk letters (i + 1)
      have hO5 := only_iterAt hOr hk letters (i + 1)
      by_cases hiv2 : i = v
      · subst hiv2
        go_wp2_with fail
        refine (take_yes g T s st _ _ _ hR5 (by omega) hat (letter_byte (by omega)) hvs).mono ?_
        rintro e w4 ⟨rfl, hR6, hO6⟩
        go_wp2_with fail
        refine (variable_c _ _).mono ?_
        rintro e w5 ⟨v5, rfl, ho5, hg5⟩
        go_wp2_with fail
        go_ret
        exact ⟨_, rfl, ho5.base (hO5.trans hO6).size, hR6.grew hg5, (hO5.trans hO6).grew hg5⟩
      · have hs0 := HN.out i (by omega) hiv2
        go_wp2_with fail
        refine (take_no g T s st _ _ _ hR5 (by omega) hat (letter_byte (by omega)) hs0).mono ?_
        rintro e w4 ⟨rfl, hR6, hO6⟩
        have HV : Hid (w4.heap[w3.heap.size]? = some (.stringIter letters (i + 1))) := Lib.hid ((hO6.block (blk_lt HY.out) (Ne.symm hgk)).trans HY.out)
        go_wp2_with fail
        go_roundg (6 - (i + 1))
        case measure => omega
        case rel => exact ⟨i + 1, rfl, by omega, hR6, hO5.trans hO6, HV⟩
  | none =>
    rw [Fm.preF_bad h126 h91 h60 h70' h84' h40' hl]
    have hno := fun i hi => @Fm.letter_none s.data.toList st hl i hi
    have HN := Lib.hid hno
    clear hno hl
    go_enter Tryz.func148, Tryz.ntmps148
    go_wp2_with fail
    refine (take_no g T s st 70 _ _ hR (by omega) hat rfl h70').mono ?_
    rintro e w1 ⟨rfl, hR1, hO1⟩
    go_wp2_with fail
    refine (take_no g T s st 84 _ _ hR1 (by omega) hat rfl h84').mono ?_
    rintro e w2 ⟨rfl, hR2, hO2⟩
    go_wp2_with fail
    refine (take_no g T s st 40 _ _ hR2 (by omega) hat rfl h40').mono ?_
    rintro e w3 ⟨rfl, hR3, hO3⟩
    go_wp2_with fail
    have hit := World.iter_heap w3 letters 0
    have hR4 : Rdr (w3.iter letters 0) g T s st := hR3.grew ((Grew.refl w3).alloc _)
    have hO4 : Only g w (w3.iter letters 0) := ((hO1.trans hO2).trans hO3).alloc _
    have hgk : g ≠ w3.heap.size := by have := hR3.lt; omega
    have hk : w.heap.size ≤ w3.heap.size := ((hO1.trans hO2).trans hO3).size
    have HW := Lib.hid hit
    clear hit hR3 hO3 hR2 hO2 hR1 hO1
    go_loopg [4, 5] 7 (fun n _ _ wr => ∃ i : Nat, n = 7 - i ∧ i ≤ 6 ∧ Rdr wr g T s st ∧ Only g w wr ∧ Hid (wr.heap[w3.heap.size]? = some (.stringIter letters i)))
    case atStart => exact ⟨0, rfl, Nat.zero_le _, hR4, hO4, HW.out⟩
    case round =>
      obtain ⟨i, rfl, hiv, hRr, hOr, HX⟩ := hrel
      by_cases hi6 : i < 6
      · have hnx := fun ty => next_letter (P := Tryz.prog) wr w3.heap.size i ty HX.out hi6
        have HY : Hid ((wr.iterAt w3.heap.size letters (i + 1)).heap[w3.heap.size]? = some (.stringIter letters (i + 1))) := Lib.hid (Lib.iterAt_heap wr w3.heap.size letters i (i + 1) HX.out)
        have hR5 := hRr.iterAt hgk letters (i + 1)
        have hO5 := only_iterAt hOr hk letters (i + 1)
        have hs0 := HN.out i hi6
        go_wp2_with fail
        refine (take_no g T s st _ _ _ hR5 (by omega) hat (letter_byte hi6) hs0).mono ?_
        rintro e w4 ⟨rfl, hR6, hO6⟩
        have HV : Hid (w4.heap[w3.heap.size]? = some (.stringIter letters (i + 1))) := Lib.hid ((hO6.block (blk_lt HY.out) (Ne.symm hgk)).trans HY.out)
        go_wp2_with fail
        go_roundg (7 - (i + 1))
        case measure => omega
        case rel => exact ⟨i + 1, rfl, by omega, hR6, hO5.trans hO6, HV⟩
      · have hi66 : i = 6 := by omega
        subst hi66
        have hnx := fun ty => Lib.run_next_end_at (P := Tryz.prog) wr w3.heap.size letters 6 ty HX.out (by decide)
        have c2 := hRr.bad
        have hf := hRr.free 2
        go_wp2_with fail
        refine (falsum_c _).mono ?_
        rintro e w5 ⟨v5, rfl, ho5, hg5⟩
        go_wp2_with fail
        go_ret
        exact ⟨_, rfl, ho5.base (hOr.setCell _).size, hRr.spoil.grew hg5, (hOr.setCell _).grew hg5⟩

theorem prefix_sub (T : TypeId) (hT : 101 ≠ T) (s : ByteArray) (m : Nat) (hs : s.size ≤ 1048576) (hm : s.size < m) : ∀ f, f ≤ m → Sub 143 T s f (Fm.preF s.data.toList m f) := by
  intro f
  induction f with
  | zero => intro _ g st w _ _ h; omega
  | succ f ih =>
    intro hfm g st w hR hat hfu
    have hp := ih (by omega)
    have hok : ∀ st : Fm.St, st.1 ≤ s.data.toList.length → Fm.Ok s.data.toList st (Fm.preF s.data.toList m f st) := fun st h => Fm.preF_ok f st h
    have hand := and_c T hT s f m _ hs hm hok hp
    have hor := or_c T hT s f m _ hs hm (fun st h => Fm.andF_ok (m := m) hok st h) hand
    have himp := imply_c T hT s f m _ hs hok hor m
    have HA := Lib.hid (fun g st w h1 h2 h3 => atom_c T hT s f m hs (fun g st w h1 h2 h3 => himp g st w h1 h2 (by omega) h3) g st w h1 h2 h3)
    have HP := Lib.hid hp
    have HZ := Lib.hid (size_toList s)
    have HK := Lib.hid hok
    clear ih hp hand hor himp hok
    by_cases h126 : Fm.sees s.data.toList st 126 = true
    · rw [Fm.preF_not h126]
      have hlt := Fm.sees_lt h126
      rw [HZ.out] at hlt
      have e1 : (Fm.step st).1 = st.1 + 1 := rfl
      obtain ⟨k1, k2, k3⟩ := HK.out (Fm.step st) (by rw [HZ.out]; exact hlt)
      rw [HZ.out] at k2
      rw [e1] at k1 k3
      have hq := HP.out g (Fm.step st)
      rw [e1] at hq
      have HQ := Lib.hid hq
      clear hq e1 HA HK HP
      generalize Fm.preF s.data.toList m f (Fm.step st) = r at *
      go_enter Tryz.func143, Tryz.ntmps143
      go_wp2_with fail
      refine (take_yes g T s st 126 _ _ hR (by omega) hat rfl h126).mono ?_
      rintro e w1 ⟨rfl, hR1, hO1⟩
      go_wp2_with fail
      refine (HQ.out _ hR1 (by omega) (by omega)).mono ?_
      rintro e w2 ⟨v2, rfl, ho2, hR2, hO2⟩
      go_wp2_with fail
      refine (negation_c _ r.1 _ ho2.nodes (by omega)).mono ?_
      rintro e w3 ⟨v3, rfl, ho3, hg3⟩
      go_wp2_with fail
      go_ret
      exact ⟨_, rfl, ho3.base (hO1.trans hO2).size, hR2.grew hg3, (hO1.trans hO2).grew hg3⟩
    have h126' : Fm.sees s.data.toList st 126 = false := by simpa using h126
    clear h126
    by_cases h91 : Fm.sees s.data.toList st 91 = true
    · rw [Fm.preF_box h91]
      have hlt := Fm.sees_lt h91
      rw [HZ.out] at hlt
      have e1 : (Fm.step st).1 = st.1 + 1 := rfl
      have hn := Fm.need_pos (s := s.data.toList) (st := Fm.step st) (c := 93) (by rw [HZ.out, e1]; exact hlt)
      rw [HZ.out, e1] at hn
      obtain ⟨n1, n2⟩ := hn
      obtain ⟨k1, k2, k3⟩ := HK.out (Fm.need s.data.toList (Fm.step st) 93) (by rw [HZ.out]; exact n2)
      rw [HZ.out] at k2
      have HQ := Lib.hid (HP.out g (Fm.need s.data.toList (Fm.step st) 93))
      have hat1 : (Fm.step st).1 ≤ s.size := by rw [e1]; omega
      clear e1 HA HK HP
      go_enter Tryz.func143, Tryz.ntmps143
      go_wp2_with fail
      refine (take_no g T s st 126 _ _ hR (by omega) hat rfl h126').mono ?_
      rintro e w1 ⟨rfl, hR1, hO1⟩
      go_wp2_with fail
      refine (take_yes g T s st 91 _ _ hR1 (by omega) hat rfl h91).mono ?_
      rintro e w2 ⟨rfl, hR2, hO2⟩
      go_wp2_with fail
      refine (need_c g T s (Fm.step st) 93 _ _ hR2 (by omega) hat1 rfl).mono ?_
      rintro e w3 ⟨rfl, hR3, hO3⟩
      generalize Fm.need s.data.toList (Fm.step st) 93 = st2 at *
      generalize Fm.preF s.data.toList m f st2 = r at *
      go_wp2_with fail
      refine (HQ.out _ hR3 (by omega) (by omega)).mono ?_
      rintro e w4 ⟨v4, rfl, ho4, hR4, hO4⟩
      go_wp2_with fail
      refine (prefix_c 5 _ r.1 _ ho4.nodes (by omega)).mono ?_
      rintro e w5 ⟨v5, rfl, ho5, hg5⟩
      go_wp2_with fail
      go_ret
      exact ⟨_, rfl, ho5.base (((hO1.trans hO2).trans hO3).trans hO4).size, hR4.grew hg5, (((hO1.trans hO2).trans hO3).trans hO4).grew hg5⟩
    have h91' : Fm.sees s.data.toList st 91 = false := by simpa using h91
    clear h91
    by_cases h60 : Fm.sees s.data.toList st 60 = true
    · rw [Fm.preF_dia h60]
      have hlt := Fm.sees_lt h60
      rw [HZ.out] at hlt
      have e1 : (Fm.step st).1 = st.1 + 1 := rfl
      have hn := Fm.need_pos (s := s.data.toList) (st := Fm.step st) (c := 62) (by rw [HZ.out, e1]; exact hlt)
      rw [HZ.out, e1] at hn
      obtain ⟨n1, n2⟩ := hn
      obtain ⟨k1, k2, k3⟩ := HK.out (Fm.need s.data.toList (Fm.step st) 62) (by rw [HZ.out]; exact n2)
      rw [HZ.out] at k2
      have HQ := Lib.hid (HP.out g (Fm.need s.data.toList (Fm.step st) 62))
      have hat1 : (Fm.step st).1 ≤ s.size := by rw [e1]; omega
      clear e1 HA HK HP
      go_enter Tryz.func143, Tryz.ntmps143
      go_wp2_with fail
      refine (take_no g T s st 126 _ _ hR (by omega) hat rfl h126').mono ?_
      rintro e w1 ⟨rfl, hR1, hO1⟩
      go_wp2_with fail
      refine (take_no g T s st 91 _ _ hR1 (by omega) hat rfl h91').mono ?_
      rintro e w11 ⟨rfl, hR11, hO11⟩
      go_wp2_with fail
      refine (take_yes g T s st 60 _ _ hR11 (by omega) hat rfl h60).mono ?_
      rintro e w2 ⟨rfl, hR2, hO2⟩
      go_wp2_with fail
      refine (need_c g T s (Fm.step st) 62 _ _ hR2 (by omega) hat1 rfl).mono ?_
      rintro e w3 ⟨rfl, hR3, hO3⟩
      generalize Fm.need s.data.toList (Fm.step st) 62 = st2 at *
      generalize Fm.preF s.data.toList m f st2 = r at *
      go_wp2_with fail
      refine (HQ.out _ hR3 (by omega) (by omega)).mono ?_
      rintro e w4 ⟨v4, rfl, ho4, hR4, hO4⟩
      go_wp2_with fail
      refine (prefix_c 6 _ r.1 _ ho4.nodes (by omega)).mono ?_
      rintro e w5 ⟨v5, rfl, ho5, hg5⟩
      go_wp2_with fail
      go_ret
      exact ⟨_, rfl, ho5.base ((((hO1.trans hO11).trans hO2).trans hO3).trans hO4).size, hR4.grew hg5, ((((hO1.trans hO11).trans hO2).trans hO3).trans hO4).grew hg5⟩
    have h60' : Fm.sees s.data.toList st 60 = false := by simpa using h60
    clear h60 HK HP
    have HQ := Lib.hid (fun w hR => HA.out g st w hR hat hfu h126' h91' h60')
    clear HA
    generalize Fm.preF s.data.toList m (f + 1) st = r at *
    go_enter Tryz.func143, Tryz.ntmps143
    go_wp2_with fail
    refine (take_no g T s st 126 _ _ hR (by omega) hat rfl h126').mono ?_
    rintro e w1 ⟨rfl, hR1, hO1⟩
    go_wp2_with fail
    refine (take_no g T s st 91 _ _ hR1 (by omega) hat rfl h91').mono ?_
    rintro e w2 ⟨rfl, hR2, hO2⟩
    go_wp2_with fail
    refine (take_no g T s st 60 _ _ hR2 (by omega) hat rfl h60').mono ?_
    rintro e w3 ⟨rfl, hR3, hO3⟩
    go_wp2_with fail
    refine (HQ.out _ hR3).mono ?_
    rintro e w4 ⟨v4, rfl, ho4, hR4, hO4⟩
    go_wp2_with fail
    go_ret
    exact ⟨_, rfl, ho4.base ((hO1.trans hO2).trans hO3).size, hR4, ((hO1.trans hO2).trans hO3).trans hO4⟩

/-- The program's reader at a text's beginning. -/
theorem imply_top (T : TypeId) (hT : 101 ≠ T) (s : ByteArray) (m : Nat) (hs : s.size ≤ 1048576) (hm : s.size < m) (g : Nat) (w : World) (hR : Rdr w g T s (0, false)) :
    Calls Tryz.prog 122 #[.pointer (some ⟨g, 0, none⟩)] w (Reads w g T s (Fm.parse s.data.toList m)) := by
  have hok : ∀ st : Fm.St, st.1 ≤ s.data.toList.length → Fm.Ok s.data.toList st (Fm.preF s.data.toList m m st) := fun st h => Fm.preF_ok m st h
  have hand := and_c T hT s m m _ hs hm hok (prefix_sub T hT s m hs hm m (Nat.le_refl _))
  have hor := or_c T hT s m m _ hs hm (fun st h => Fm.andF_ok (m := m) hok st h) hand
  exact imply_c T hT s m m _ hs hok hor m g (0, false) w hR (by simp) (by simpa using hm) (by simpa using hm)
end Go.Proofs.YtdndclfjeajhiaaGreat

/- The text of a formula is parsed to the formula. No program is in sight. -/
namespace Go.Proofs.YtdndclfjeajhiaaGreat
namespace Fm

theorem sees_drop {s : List UInt8} {i : Nat} {c : UInt8} {r : List UInt8} (h : s.drop i = c :: r) (d : UInt8) : sees s (i, false) d = (c == d) := by
  have h1 : s[i]? = some c := by
    have := congrArg List.head? h
    simpa using this
  unfold sees
  rw [h1]
  rw [Bool.eq_iff_iff]
  simp
theorem sees_none {s : List UInt8} {i : Nat} {r : List UInt8} {d : UInt8} (h : s.drop i = r) (hd : r.head? ≠ some d) : sees s (i, false) d = false := by
  have h1 : s[i]? = r.head? := by rw [← h]; simp
  unfold sees
  rw [h1]
  cases hr : r.head? with
  | none => rfl
  | some c =>
    rw [hr] at hd
    have : c ≠ d := fun e => hd (by rw [e])
    simp [this]
theorem drop_tail {s : List UInt8} {i : Nat} {x r : List UInt8} (h : s.drop i = x ++ r) : s.drop (i + x.length) = r := by
  rw [← List.drop_drop, h, List.drop_left]
theorem drop_len {s : List UInt8} {i : Nat} {x r : List UInt8} (h : s.drop i = x ++ r) (hx : 1 ≤ x.length) : i + x.length ≤ s.length := by
  have := congrArg List.length h
  simp only [List.length_drop, List.length_append] at this
  omega
theorem txt_pos (t : Tree) (l : Nat) : 1 ≤ (txt t l).length := by
  cases t with
  | var v => simp [txt]
  | fls => simp [txt]
  | and a b => simp only [txt, wrap]; split <;> simp <;> omega
  | or a b => simp only [txt, wrap]; split <;> simp <;> omega
  | imp a b => simp only [txt, wrap]; split <;> split <;> simp <;> omega
  | box a => simp only [txt, List.length_append, List.length_cons]; omega
  | dia a => simp only [txt, List.length_append, List.length_cons]; omega

section
variable (s : List UInt8) (m : Nat)
/-- The text at level 3 is read by the lowest level of the parser. -/
def P3 (t : Tree) : Prop := ∀ (f i : Nat) (r : List UInt8), s.drop i = txt t 3 ++ r → s.length - i < f → preF s m f (i, false) = (enc t, (i + (txt t 3).length, false))
def P2 (t : Tree) : Prop := ∀ (f i : Nat) (r : List UInt8), s.drop i = txt t 2 ++ r → s.length - i < f →
  ∃ k, s.length - (i + (txt t 2).length) < k ∧ andF s m (preF s m f) (i, false) = loop s 2 38 (preF s m f) k (enc t) (i + (txt t 2).length, false)
def P1 (t : Tree) : Prop := ∀ (f i : Nat) (r : List UInt8), s.drop i = txt t 1 ++ r → s.length - i < f → r.head? ≠ some 38 →
  ∃ k, s.length - (i + (txt t 1).length) < k ∧ orF s m (preF s m f) (i, false) = loop s 3 124 (andF s m (preF s m f)) k (enc t) (i + (txt t 1).length, false)
def P0 (t : Tree) : Prop := ∀ (f n i : Nat) (r : List UInt8), s.drop i = txt t 0 ++ r → s.length - i < f → s.length - i < n → r.head? ≠ some 38 → r.head? ≠ some 124 → r.head? ≠ some 62 →
  impF s m (preF s m f) n (i, false) = (enc t, (i + (txt t 0).length, false))
end

section
variable {s : List UInt8} {m : Nat}

theorem loop_stop {k : Int} {c : UInt8} {sub : St → Res} {n : Nat} {a : List Nd} {st : St} (h : sees s st c = false) : loop s k c sub n a st = (a, st) := by
  cases n with
  | zero => rfl
  | succ n => rw [loop, if_neg (by rw [h]; decide)]

/-- From the lowest level to the next one, where the text is the same. -/
theorem up2 (hm : s.length < m) {t : Tree} (ht : txt t 2 = txt t 3) (h : P3 s m t) : P2 s m t := by
  intro f i r hd hf
  rw [ht] at hd ⊢
  refine ⟨m, by omega, ?_⟩
  have := h f i r hd hf
  rw [andF, this]
theorem up1 (hm : s.length < m) {t : Tree} (ht : txt t 1 = txt t 2) (h : P2 s m t) : P1 s m t := by
  intro f i r hd hf hr
  rw [ht] at hd ⊢
  obtain ⟨k, hk, he⟩ := h f i r hd hf
  have hs := sees_none (drop_tail hd) hr
  rw [loop_stop hs] at he
  refine ⟨m, by omega, ?_⟩
  rw [orF, he]
theorem up0 {t : Tree} (ht : txt t 0 = txt t 1) (h : P1 s m t) : P0 s m t := by
  intro f n i r hd hf hn h1 h2 h3
  rw [ht] at hd ⊢
  obtain ⟨k, hk, he⟩ := h f i r hd hf h1
  rw [loop_stop (sees_none (drop_tail hd) h2)] at he
  cases n with
  | zero => omega
  | succ n =>
    rw [impF_no (by rw [he]; exact sees_none (drop_tail hd) h3), he]
/-- Brackets. -/
theorem down3 (hm : s.length < m) {t : Tree} (ht : txt t 3 = [40] ++ txt t 0 ++ [41]) (h : P0 s m t) : P3 s m t := by
  intro f i r hd hf
  have hp := txt_pos t 0
  rw [ht] at hd ⊢
  have hlen := drop_len hd (by simp)
  simp only [List.length_append, List.length_cons, List.length_nil] at hlen
  simp only [List.append_assoc, List.cons_append, List.nil_append] at hd
  have h1 : s.drop (i + 1) = txt t 0 ++ (41 :: r) := drop_tail (x := [40]) (r := txt t 0 ++ (41 :: r)) hd
  have h2 : s.drop (i + 1 + (txt t 0).length) = 41 :: r := drop_tail h1
  cases f with
  | zero => omega
  | succ f =>
    have h40 : sees s (i, false) 40 = true := by rw [sees_drop hd]; rfl
    rw [preF_par h40, show step (i, false) = (i + 1, false) from rfl]
    rw [h f m (i + 1) (41 :: r) h1 (by omega) (by omega) (by simp) (by simp) (by simp)]
    have h41 : sees s (i + 1 + (txt t 0).length, false) 41 = true := by rw [sees_drop h2]; rfl
    simp only [need, h41, if_true, step, List.length_append, List.length_cons, List.length_nil]
    congr 2
    omega

theorem all_fls (hm : s.length < m) : P3 s m .fls ∧ P2 s m .fls ∧ P1 s m .fls ∧ P0 s m .fls := by
  have h3 : P3 s m .fls := by
    intro f i r hd hf
    have hd' : s.drop i = 70 :: r := hd
    have hlen := drop_len hd (by simp [txt])
    simp only [txt, List.length_cons, List.length_nil] at hlen
    cases f with
    | zero => omega
    | succ f => rw [preF_fls (by rw [sees_drop hd']; rfl)]; rfl
  have h2 := up2 hm rfl h3
  have h1 := up1 hm rfl h2
  exact ⟨h3, h2, h1, up0 rfl h1⟩
theorem all_tru (hm : s.length < m) : P3 s m (.imp .fls .fls) ∧ P2 s m (.imp .fls .fls) ∧ P1 s m (.imp .fls .fls) ∧ P0 s m (.imp .fls .fls) := by
  have h3 : P3 s m (.imp .fls .fls) := by
    intro f i r hd hf
    have hd' : s.drop i = 84 :: r := hd
    have hlen := drop_len hd (by simp [txt, isF])
    simp only [txt, isF, if_true, List.length_cons, List.length_nil] at hlen
    cases f with
    | zero => omega
    | succ f => rw [preF_tru (by rw [sees_drop hd']; rfl)]; rfl
  have h2 := up2 hm rfl h3
  have h1 := up1 hm rfl h2
  exact ⟨h3, h2, h1, up0 rfl h1⟩
theorem all_var (hm : s.length < m) (v : Fin 6) : P3 s m (.var v) ∧ P2 s m (.var v) ∧ P1 s m (.var v) ∧ P0 s m (.var v) := by
  have h3 : P3 s m (.var v) := by
    intro f i r hd hf
    have hd' : s.drop i = UInt8.ofNat (112 + v.val) :: r := hd
    have hlen := drop_len hd (by simp [txt])
    simp only [txt, List.length_cons, List.length_nil] at hlen
    cases f with
    | zero => omega
    | succ f =>
      have hl : letter s (i, false) = some v.val := letter_of_sees v.isLt (by rw [sees_drop hd']; simp)
      rw [preF_var hl]; rfl
  have h2 := up2 hm rfl h3
  have h1 := up1 hm rfl h2
  exact ⟨h3, h2, h1, up0 rfl h1⟩
theorem all_not (hm : s.length < m) {x : Tree} (hx : isF x = false) (h : P3 s m x) : P3 s m (.imp x .fls) ∧ P2 s m (.imp x .fls) ∧ P1 s m (.imp x .fls) ∧ P0 s m (.imp x .fls) := by
  have ht : ∀ l, txt (.imp x .fls) l = [126] ++ txt x 3 := by intro l; rw [txt, if_pos (show isF .fls = true from rfl), if_neg (by rw [hx]; decide)]
  have h3 : P3 s m (.imp x .fls) := by
    intro f i r hd hf
    rw [ht] at hd ⊢
    have hlen := drop_len hd (by simp)
    simp only [List.length_append, List.length_cons, List.length_nil] at hlen
    have hd' : s.drop i = 126 :: (txt x 3 ++ r) := by simpa using hd
    have h1 : s.drop (i + 1) = txt x 3 ++ r := drop_tail (x := [126]) (r := txt x 3 ++ r) hd'
    cases f with
    | zero => omega
    | succ f =>
      rw [preF_not (by rw [sees_drop hd']; rfl), show step (i, false) = (i + 1, false) from rfl, h f (i + 1) r h1 (by omega)]
      simp only [List.length_append, List.length_cons, List.length_nil]
      refine Prod.ext rfl (Prod.ext (by simp only; omega) rfl)
  have h2 := up2 hm (by rw [ht, ht]) h3
  have h1 := up1 hm (by rw [ht, ht]) h2
  exact ⟨h3, h2, h1, up0 (by rw [ht, ht]) h1⟩
theorem all_box (hm : s.length < m) {x : Tree} (h : P3 s m x) : P3 s m (.box x) ∧ P2 s m (.box x) ∧ P1 s m (.box x) ∧ P0 s m (.box x) := by
  have h3 : P3 s m (.box x) := by
    intro f i r hd hf
    have hd' : s.drop i = 91 :: (93 :: (txt x 3 ++ r)) := by simpa [txt] using hd
    have hlen := drop_len hd (by simp [txt])
    simp only [txt, List.length_append, List.length_cons, List.length_nil] at hlen
    have h1 : s.drop (i + 1) = 93 :: (txt x 3 ++ r) := drop_tail (x := [91]) (r := 93 :: (txt x 3 ++ r)) hd'
    have h2 : s.drop (i + 2) = txt x 3 ++ r := drop_tail (x := [91, 93]) (r := txt x 3 ++ r) hd'
    cases f with
    | zero => omega
    | succ f =>
      have h93 : sees s (i + 1, false) 93 = true := by rw [sees_drop h1]; rfl
      rw [preF_box (by rw [sees_drop hd']; rfl), show step (i, false) = (i + 1, false) from rfl, show need s (i + 1, false) 93 = (i + 2, false) by simp [need, h93, step], h f (i + 2) r h2 (by omega)]
      simp only [txt, List.length_append, List.length_cons, List.length_nil]
      refine Prod.ext rfl (Prod.ext (by simp only; omega) rfl)
  have h2 := up2 hm rfl h3
  have h1 := up1 hm rfl h2
  exact ⟨h3, h2, h1, up0 rfl h1⟩
theorem all_dia (hm : s.length < m) {x : Tree} (h : P3 s m x) : P3 s m (.dia x) ∧ P2 s m (.dia x) ∧ P1 s m (.dia x) ∧ P0 s m (.dia x) := by
  have h3 : P3 s m (.dia x) := by
    intro f i r hd hf
    have hd' : s.drop i = 60 :: (62 :: (txt x 3 ++ r)) := by simpa [txt] using hd
    have hlen := drop_len hd (by simp [txt])
    simp only [txt, List.length_append, List.length_cons, List.length_nil] at hlen
    have h1 : s.drop (i + 1) = 62 :: (txt x 3 ++ r) := drop_tail (x := [60]) (r := 62 :: (txt x 3 ++ r)) hd'
    have h2 : s.drop (i + 2) = txt x 3 ++ r := drop_tail (x := [60, 62]) (r := txt x 3 ++ r) hd'
    cases f with
    | zero => omega
    | succ f =>
      have h93 : sees s (i + 1, false) 62 = true := by rw [sees_drop h1]; rfl
      rw [preF_dia (by rw [sees_drop hd']; rfl), show step (i, false) = (i + 1, false) from rfl, show need s (i + 1, false) 62 = (i + 2, false) by simp [need, h93, step], h f (i + 2) r h2 (by omega)]
      simp only [txt, List.length_append, List.length_cons, List.length_nil]
      refine Prod.ext rfl (Prod.ext (by simp only; omega) rfl)
  have h2 := up2 hm rfl h3
  have h1 := up1 hm rfl h2
  exact ⟨h3, h2, h1, up0 rfl h1⟩

theorem all_and (hm : s.length < m) {x y : Tree} (hx : P2 s m x) (hy : P3 s m y) : P3 s m (.and x y) ∧ P2 s m (.and x y) ∧ P1 s m (.and x y) ∧ P0 s m (.and x y) := by
  have ht : ∀ l, l ≤ 2 → txt (.and x y) l = txt x 2 ++ [38] ++ txt y 3 := by intro l hl; rw [txt, wrap, if_neg (by omega)]
  have h2 : P2 s m (.and x y) := by
    intro f i r hd hf
    rw [ht 2 (by omega)] at hd ⊢
    simp only [List.append_assoc, List.cons_append, List.nil_append] at hd
    obtain ⟨k, hk, he⟩ := hx f i _ hd hf
    have d1 := drop_tail hd
    have d2 : s.drop (i + (txt x 2).length + 1) = txt y 3 ++ r := drop_tail (x := [38]) (r := txt y 3 ++ r) d1
    have hp := txt_pos y 3
    have hlen := drop_len d2 hp
    obtain ⟨q, rfl⟩ : ∃ q, k = q + 1 := ⟨k - 1, by omega⟩
    refine ⟨q, ?_, ?_⟩
    · simp only [List.length_append, List.length_cons, List.length_nil]; omega
    · rw [he, loop, if_pos (by rw [sees_drop d1]; rfl), show step (i + (txt x 2).length, false) = (i + (txt x 2).length + 1, false) from rfl, hy f _ r d2 (by omega)]
      simp only [List.length_append, List.length_cons, List.length_nil]
      rw [show i + (txt x 2).length + 1 + (txt y 3).length = i + ((txt x 2).length + (0 + 1) + (txt y 3).length) by omega]
      rfl
  have h1 := up1 hm (by rw [ht 1 (by omega), ht 2 (by omega)]) h2
  have h0 := up0 (by rw [ht 0 (by omega), ht 1 (by omega)]) h1
  exact ⟨down3 hm (by rw [ht 0 (by omega), txt, wrap, if_pos (by omega)]) h0, h2, h1, h0⟩
theorem all_or (hm : s.length < m) {x y : Tree} (hx : P1 s m x) (hy : P2 s m y) : P3 s m (.or x y) ∧ P2 s m (.or x y) ∧ P1 s m (.or x y) ∧ P0 s m (.or x y) := by
  have ht : ∀ l, l ≤ 1 → txt (.or x y) l = txt x 1 ++ [124] ++ txt y 2 := by intro l hl; rw [txt, wrap, if_neg (by omega)]
  have hw : ∀ l, 2 ≤ l → txt (.or x y) l = [40] ++ txt (.or x y) 0 ++ [41] := by intro l hl; rw [ht 0 (by omega), txt, wrap, if_pos (by omega)]
  have h1 : P1 s m (.or x y) := by
    intro f i r hd hf hr
    rw [ht 1 (by omega)] at hd ⊢
    simp only [List.append_assoc, List.cons_append, List.nil_append] at hd
    obtain ⟨k, hk, he⟩ := hx f i _ hd hf (by simp)
    have d1 := drop_tail hd
    have d2 : s.drop (i + (txt x 1).length + 1) = txt y 2 ++ r := drop_tail (x := [124]) (r := txt y 2 ++ r) d1
    have hp := txt_pos y 2
    have hlen := drop_len d2 hp
    obtain ⟨q, rfl⟩ : ∃ q, k = q + 1 := ⟨k - 1, by omega⟩
    refine ⟨q, ?_, ?_⟩
    · simp only [List.length_append, List.length_cons, List.length_nil]; omega
    · obtain ⟨k2, hk2, he2⟩ := hy f _ r d2 (by omega)
      rw [loop_stop (sees_none (drop_tail d2) hr)] at he2
      rw [he, loop, if_pos (by rw [sees_drop d1]; rfl), show step (i + (txt x 1).length, false) = (i + (txt x 1).length + 1, false) from rfl, he2]
      simp only [List.length_append, List.length_cons, List.length_nil]
      rw [show i + (txt x 1).length + 1 + (txt y 2).length = i + ((txt x 1).length + (0 + 1) + (txt y 2).length) by omega]
      rfl
  have h0 := up0 (by rw [ht 0 (by omega), ht 1 (by omega)]) h1
  have h3 := down3 hm (hw 3 (by omega)) h0
  exact ⟨h3, up2 hm (by rw [hw 2 (by omega), hw 3 (by omega)]) h3, h1, h0⟩
theorem all_imp (hm : s.length < m) {x y : Tree} (hf : isF y = false) (hx : P1 s m x) (hy : P0 s m y) : P3 s m (.imp x y) ∧ P2 s m (.imp x y) ∧ P1 s m (.imp x y) ∧ P0 s m (.imp x y) := by
  have ht : txt (.imp x y) 0 = txt x 1 ++ [62] ++ txt y 0 := by rw [txt, if_neg (by rw [hf]; decide), wrap, if_neg (by omega)]
  have hw : ∀ l, 1 ≤ l → txt (.imp x y) l = [40] ++ txt (.imp x y) 0 ++ [41] := by intro l hl; rw [ht, txt, if_neg (by rw [hf]; decide), wrap, if_pos (by omega)]
  have h0 : P0 s m (.imp x y) := by
    intro f n i r hd hf hn q1 q2 q3
    rw [ht] at hd ⊢
    simp only [List.append_assoc, List.cons_append, List.nil_append] at hd
    obtain ⟨k, hk, he⟩ := hx f i _ hd hf (by simp)
    have d1 := drop_tail hd
    have d2 : s.drop (i + (txt x 1).length + 1) = txt y 0 ++ r := drop_tail (x := [62]) (r := txt y 0 ++ r) d1
    have hp := txt_pos y 0
    have hlen := drop_len d2 hp
    rw [loop_stop (by rw [sees_drop d1]; rfl)] at he
    cases n with
    | zero => omega
    | succ n =>
      have hsee : sees s (orF s m (preF s m f) (i, false)).2 62 = true := by rw [he, sees_drop d1]; rfl
      rw [impF_yes hsee, he]
      dsimp only
      rw [show step (i + (txt x 1).length, false) = (i + (txt x 1).length + 1, false) from rfl, hy f n _ r d2 (by omega) (by omega) q1 q2 q3]
      simp only [List.length_append, List.length_cons, List.length_nil]
      refine Prod.ext rfl (Prod.ext (by simp only; omega) rfl)
  have h3 := down3 hm (hw 3 (by omega)) h0
  have h2 := up2 hm (by rw [hw 2 (by omega), hw 3 (by omega)]) h3
  exact ⟨h3, h2, up1 hm (by rw [hw 1 (by omega), hw 2 (by omega)]) h2, h0⟩

theorem all_levels (hm : s.length < m) (t : Tree) : P3 s m t ∧ P2 s m t ∧ P1 s m t ∧ P0 s m t := by
  induction t with
  | var v => exact all_var hm v
  | fls => exact all_fls hm
  | and x y hx hy => exact all_and hm hx.2.1 hy.1
  | or x y hx hy => exact all_or hm hx.2.2.1 hy.2.1
  | imp x y hx hy =>
    cases hf : isF y with
    | true =>
      obtain rfl := isF_eq hf
      cases hg : isF x with
      | true => obtain rfl := isF_eq hg; exact all_tru hm
      | false => exact all_not hm hg hx.1
    | false => exact all_imp hm hf hx.2.2.1 hy.2.2.2
  | box x hx => exact all_box hm hx.1
  | dia x hx => exact all_dia hm hx.1
end

/-- The text of a formula reads as it. -/
theorem parse_txt (t : Tree) (m : Nat) (hm : (txt t 0).length < m) : parse (txt t 0) m = (enc t, ((txt t 0).length, false)) := by
  have h := (all_levels (s := txt t 0) hm t).2.2.2 m m 0 [] (by simp) (by omega) (by omega) (by simp) (by simp) (by simp)
  rw [parse, h]
  simp

end Fm

/-- A string of bytes. -/
def bs (l : List UInt8) : ByteArray := ⟨l.toArray⟩
theorem bs_append (a b : List UInt8) : bs a ++ bs b = bs (a ++ b) := by
  apply ByteArray.ext
  simp [bs]
theorem bs_size (a : List UInt8) : (bs a).size = a.length := by simp [bs, ByteArray.size]
theorem bs_list (a : List UInt8) : (bs a).data.toList = a := by simp [bs]
theorem bs_eq (s : ByteArray) : bs s.data.toList = s := by
  apply ByteArray.ext
  simp [bs]

namespace Fm
def fuel : Nat := 1048577
/-- What a text reads as. -/
def read (s : ByteArray) : Res := parse s.data.toList fuel
/-- The whole text is a formula of whatever size. -/
def whole (s : ByteArray) : Bool := !(read s).2.2 && decide (s.size ≤ (read s).2.1)
/-- The results of ParseFormula. -/
def pf (s : ByteArray) : List Nd × Nat × Int :=
  if 200 < s.size then ([], 0, 3) else if whole s = false then ([], (read s).2.1, 6) else if 40 < (read s).1.length then ([], 0, 3) else ((read s).1, 0, 0)
theorem read_ok (s : ByteArray) : (read s).2.1 ≤ s.size ∧ (read s).1.length ≤ 3 * s.size + 1 := by
  obtain ⟨h1, h2, h3⟩ := parse_ok s.data.toList fuel
  rw [show s.data.toList.length = s.size from by simp] at h2
  exact ⟨h2, by unfold read; omega⟩
theorem read_ne (s : ByteArray) : (read s).1 ≠ [] := by
  obtain ⟨t, h⟩ := parse_enc s.data.toList fuel
  have := enc_pos t
  unfold read
  rw [h]
  intro h0
  rw [h0] at this
  simp at this
theorem pf_len (s : ByteArray) : (pf s).1.length ≤ 40 := by
  unfold pf
  split
  · simp
  split
  · simp
  split
  · simp
  · simp only; omega
end Fm

/-- What l02Read gives. -/
def Fm.rd (s : ByteArray) : List Nd × Int := if Fm.whole s = false then ([], ((Fm.read s).2.1 : Int)) else ((Fm.read s).1, -1)


namespace Fm
theorem read_txt (t : Tree) (h : (txt t 0).length < fuel) : read (bs (txt t 0)) = (enc t, ((txt t 0).length, false)) := by
  rw [read, bs_list, parse_txt t fuel h]
theorem whole_txt (t : Tree) (h : (txt t 0).length < fuel) : whole (bs (txt t 0)) = true := by
  rw [whole, read_txt t h, bs_size]
  simp
theorem pf_txt (t : Tree) (h : (txt t 0).length ≤ 200) (hn : (enc t).length ≤ 40) : pf (bs (txt t 0)) = (enc t, 0, 0) := by
  have hf : (txt t 0).length < fuel := by unfold fuel; omega
  rw [pf, if_neg (by rw [bs_size]; omega), if_neg (by rw [whole_txt t hf]; decide), read_txt t hf, if_neg (by simp only; omega)]
theorem rd_txt (t : Tree) (h : (txt t 0).length < fuel) : rd (bs (txt t 0)) = (enc t, -1) := by
  rw [rd, if_neg (by rw [whole_txt t h]; decide), read_txt t h]
end Fm
end Go.Proofs.YtdndclfjeajhiaaGreat

/- ParseFormula, of the program and of the reference: both give what the plain parser gives. -/
namespace Go.Proofs.YtdndclfjeajhiaaGreat
open Go.RowKit
open Fm (Nd)

/-- The call returns a new list and two numbers. -/
def Gives3 (w : World) (r : List Nd × Nat × Int) (e : Ending) (w' : World) : Prop := ∃ v, e = .returned (.tuple #[v, .int .i64 r.2.1, .int .i64 r.2.2]) ∧ Own w' w.heap.size v r.1 ∧ Grew w w' ∧ (r.1 = [] → v = .slice none 0 0)

theorem Rdr.new (w : World) (T : TypeId) (s : ByteArray) : Rdr (w.alloc (.cells #[.string s, .int .i64 0, .bool false] T)) w.heap.size T s (0, false) := blk_new w _

/-- A new list and one number: what l02Read returns. -/
def Gives2 (w : World) (xs : List Nd) (n : Int) (e : Ending) (w' : World) : Prop := ∃ v, e = .returned (.tuple #[v, .int .i64 n]) ∧ Own w' w.heap.size v xs ∧ Grew w w'

theorem parse_c (s : ByteArray) (w : World) (hs : s.size ≤ 140737488355328) :
    Calls Tryz.prog 109 #[.string s] w (Gives3 w (Fm.pf s)) := by
  by_cases hbig : 200 < s.size
  · have hp : Fm.pf s = ([], 0, 3) := by unfold Fm.pf; rw [if_pos hbig]
    rw [hp]
    clear hp
    go_enter Tryz.func109, Tryz.ntmps109
    go_wp2_with fail
    go_ret3
    exact ⟨_, rfl, Own.nil_ _ _, Grew.refl _, fun _ => rfl⟩
  obtain ⟨hr1, hr2⟩ := Fm.read_ok s
  have hxs : Hid ((Fm.read s).1 ≠ []) := Fm.read_ne s
  have HT := Lib.hid (fun g w hR => imply_top 134 (by decide) s Fm.fuel (by omega) (by unfold Fm.fuel; omega) g w hR)
  have hpf : Hid (Fm.pf s = if Fm.whole s = false then ([], (Fm.read s).2.1, 6) else if 40 < (Fm.read s).1.length then ([], 0, 3) else ((Fm.read s).1, 0, 0)) := by
    unfold Fm.pf Hid; rw [if_neg hbig]
  have hwh : Hid (Fm.whole s = (!(Fm.read s).2.2 && decide (s.size ≤ (Fm.read s).2.1))) := rfl
  generalize Fm.pf s = P at *
  generalize Fm.whole s = W at *
  have hrd : Fm.parse s.data.toList Fm.fuel = Fm.read s := rfl
  rw [hrd] at HT
  clear hrd
  generalize Fm.read s = r at *
  obtain ⟨xs, p, b⟩ := r
  simp only at hr1 hr2 hpf hwh hxs
  have hR0 := Rdr.new w 134 s
  have HR0 := Lib.hid hR0
  clear hR0
  by_cases hb : b = true
  · subst hb
    have hP : P = ([], p, 6) := by rw [hpf.out, hwh.out]; simp
    subst hP
    clear hpf hwh
    go_enter Tryz.func109, Tryz.ntmps109
    go_wp2_with fail
    refine (HT.out _ _ HR0.out).mono ?_
    rintro e w1 ⟨v1, rfl, ho1, hR1, hO1⟩
    have c1 := hR1.at_
    have c2 := hR1.bad
    have hG := hO1.grew_of ((Grew.refl w).alloc _) (Nat.le_refl _)
    clear hR1 hO1
    go_wp2_with fail
    go_quiet (fail)
    go_wp2_with fail
    go_ret3
    exact ⟨_, rfl, Own.nil_ _ _, hG.drewN _, fun _ => rfl⟩
  have hb' : b = false := by simpa using hb
  subst hb'
  clear hb
  by_cases hlt : p < s.size
  · have hP : P = ([], p, 6) := by
      rw [hpf.out, hwh.out]
      simp [hlt]
    subst hP
    clear hpf hwh
    go_enter Tryz.func109, Tryz.ntmps109
    go_wp2_with fail
    refine (HT.out _ _ HR0.out).mono ?_
    rintro e w1 ⟨v1, rfl, ho1, hR1, hO1⟩
    have c1 := hR1.at_
    have c2 := hR1.bad
    have hG := hO1.grew_of ((Grew.refl w).alloc _) (Nat.le_refl _)
    clear hR1 hO1
    go_wp2_with fail
    go_quiet (fail)
    go_wp2_with fail
    go_ret3
    exact ⟨_, rfl, Own.nil_ _ _, hG.drewN _, fun _ => rfl⟩
  by_cases h40 : 40 < xs.length
  · have hP : P = ([], 0, 3) := by
      rw [hpf.out, hwh.out]
      simp [Nat.le_of_not_lt hlt, h40]
    subst hP
    clear hpf hwh
    go_enter Tryz.func109, Tryz.ntmps109
    go_wp2_with fail
    refine (HT.out _ _ HR0.out).mono ?_
    rintro e w1 ⟨v1, rfl, ho1, hR1, hO1⟩
    have c1 := hR1.at_
    have c2 := hR1.bad
    have hG := hO1.grew_of ((Grew.refl w).alloc _) (Nat.le_refl _)
    obtain ⟨A, ca, rfl⟩ := nodes_slice ho1.nodes
    clear hR1 hO1
    go_wp2_with fail
    go_ret3
    exact ⟨_, rfl, Own.nil_ _ _, hG, fun _ => rfl⟩
  · have hP : P = (xs, 0, 0) := by
      rw [hpf.out, hwh.out]
      simp [Nat.le_of_not_lt hlt, h40]
    subst hP
    clear hpf hwh
    go_enter Tryz.func109, Tryz.ntmps109
    go_wp2_with fail
    refine (HT.out _ _ HR0.out).mono ?_
    rintro e w1 ⟨v1, rfl, ho1, hR1, hO1⟩
    have c1 := hR1.at_
    have c2 := hR1.bad
    have hG := hO1.grew_of ((Grew.refl w).alloc _) (Nat.le_refl _)
    obtain ⟨A, ca, rfl⟩ := nodes_slice ho1.nodes
    clear hR1 hO1
    go_wp2_with fail
    go_ret3
    exact ⟨_, rfl, ho1.base (by simp), hG, fun h => absurd h hxs.out⟩
end Go.Proofs.YtdndclfjeajhiaaGreat

/- The reference's reader: l02Take, l02Need. -/
namespace Go.Proofs.YtdndclfjeajhiaaGreat
open Go.RowKit

theorem l02Take_c (g T : Nat) (s : ByteArray) (st : Fm.St) (c : UInt8) (m : Int) (w : World) (h : Rdr w g T s st) (hs : s.size ≤ 1099511627776) (hat : st.1 ≤ s.size) (hm : m = (c.toNat : Int)) :
    Calls Tryz.prog 142 #[.pointer (some ⟨g, 0, none⟩), .int .u8 m] w (Took w g T s st c) := by
  subst hm
  have c0 := h.text
  have c1 := h.at_
  have c2 := h.bad
  have hf := h.free 1
  obtain ⟨p, b⟩ := st
  simp only at c0 c1 c2 hat
  by_cases hb : b = true
  · subst hb
    have HH := Lib.hid h
    clear h
    go_enter Tryz.func142, Tryz.ntmps142
    go_wp2_with fail
    go_quiet (fail)
    go_wp2_with fail
    go_ret
    exact Took.no HH.out (sees_bad _ _ _) ((Grew.refl _).drewN _)
  · have hb' : b = false := by simpa using hb
    subst hb'
    by_cases hlt : p < s.size
    · have hd : decide ((p : Int) < (s.size : Int)) = true := by simp; omega
      have HH := Lib.hid h
      clear h hb
      go_enter Tryz.func142, Tryz.ntmps142
      go_wp2_with fail
      go_quiet (fail)
      go_wp2_with fail
      · have h1 : ((s[p].toNat : Int) == c.toNat) = true := by assumption
        go_ret
        exact Took.yes HH.out (by rw [sees_in s p c hlt]; rw [byte_eq] at h1; simpa using h1) ((Grew.refl _).drewN _)
      · have h1 : ((s[p].toNat : Int) == c.toNat) = false := by assumption
        go_ret
        exact Took.no HH.out (by rw [sees_in s p c hlt]; rw [byte_eq] at h1; simpa using h1) ((Grew.refl _).drewN _)
    · have hd : decide ((p : Int) < (s.size : Int)) = false := by simp; omega
      have HH := Lib.hid h
      clear h hb
      go_enter Tryz.func142, Tryz.ntmps142
      go_wp2_with fail
      go_quiet (fail)
      go_wp2_with fail
      go_ret
      exact Took.no HH.out (sees_end _ _ _ (by omega)) ((Grew.refl _).drewN _)

theorem l02Take_yes (g T : Nat) (s : ByteArray) (st : Fm.St) (c : UInt8) (m : Int) (w : World) (h : Rdr w g T s st) (hs : s.size ≤ 1099511627776) (hat : st.1 ≤ s.size) (hm : m = (c.toNat : Int)) (hsee : Fm.sees s.data.toList st c = true) :
    Calls Tryz.prog 142 #[.pointer (some ⟨g, 0, none⟩), .int .u8 m] w fun e w' => e = .returned (.bool true) ∧ Rdr w' g T s (Fm.step st) ∧ Only g w w' :=
  (l02Take_c g T s st c m w h hs hat hm).mono fun e w' hh => by
    unfold Took at hh; rw [hsee] at hh; exact hh
theorem l02Take_no (g T : Nat) (s : ByteArray) (st : Fm.St) (c : UInt8) (m : Int) (w : World) (h : Rdr w g T s st) (hs : s.size ≤ 1099511627776) (hat : st.1 ≤ s.size) (hm : m = (c.toNat : Int)) (hsee : Fm.sees s.data.toList st c = false) :
    Calls Tryz.prog 142 #[.pointer (some ⟨g, 0, none⟩), .int .u8 m] w fun e w' => e = .returned (.bool false) ∧ Rdr w' g T s st ∧ Only g w w' :=
  (l02Take_c g T s st c m w h hs hat hm).mono fun e w' hh => by
    unfold Took at hh; rw [hsee] at hh; exact hh
theorem l02Need_c (g T : Nat) (s : ByteArray) (st : Fm.St) (c : UInt8) (m : Int) (w : World) (h : Rdr w g T s st) (hs : s.size ≤ 1099511627776) (hat : st.1 ≤ s.size) (hm : m = (c.toNat : Int)) :
    Calls Tryz.prog 154 #[.pointer (some ⟨g, 0, none⟩), .int .u8 m] w fun e w' => e = .returned (.tuple #[]) ∧ Rdr w' g T s (Fm.need s.data.toList st c) ∧ Only g w w' := by
  subst hm
  by_cases hsee : Fm.sees s.data.toList st c = true
  · have hn : Fm.need s.data.toList st c = Fm.step st := by unfold Fm.need; rw [if_pos hsee]
    rw [hn]
    clear hn
    go_enter Tryz.func154, Tryz.ntmps154
    go_wp2_with fail
    refine (l02Take_yes g T s st c _ _ h hs hat rfl hsee).mono ?_
    rintro e w1 ⟨rfl, h1, o1⟩
    go_wp2_with fail
    go_end0
    exact ⟨rfl, h1, o1⟩
  · have hsee' : Fm.sees s.data.toList st c = false := by simpa using hsee
    have hn : Fm.need s.data.toList st c = (st.1, true) := by unfold Fm.need; rw [if_neg hsee]
    rw [hn]
    clear hn hsee
    go_enter Tryz.func154, Tryz.ntmps154
    go_wp2_with fail
    refine (l02Take_no g T s st c _ _ h hs hat rfl hsee').mono ?_
    rintro e w1 ⟨rfl, h1, o1⟩
    have c2 := h1.bad
    have hf := h1.free 2
    have HH := Lib.hid h1
    clear h1
    go_wp2_with fail
    go_end0
    exact ⟨rfl, HH.out.spoil, o1.setCell _⟩
end Go.Proofs.YtdndclfjeajhiaaGreat

/- The reference's reader: what l02Imply, l02Or, l02And read is what the plain parser gives. -/
namespace Go.Proofs.YtdndclfjeajhiaaGreat
open Go.RowKit
open Fm (Nd)

theorem l02And_c (T : TypeId) (hT : 101 ≠ T) (s : ByteArray) (f m : Nat) (sub : Fm.St → Fm.Res) (hs : s.size ≤ 1048576) (hm : s.size < m) (hok : ∀ st : Fm.St, st.1 ≤ s.data.toList.length → Fm.Ok s.data.toList st (sub st))
    (hsub : Sub 149 T s f sub) : Sub 144 T s f (fun st => Fm.loop s.data.toList 2 38 sub m (sub st).1 (sub st).2) := by
  intro g st w hR hat hfu
  have HS := Lib.hid hsub
  have HO := Lib.hid hok
  clear hsub hok
  have hsz := size_toList s
  have h0 : Fm.Ok s.data.toList st (sub st) := HO.out st (by rw [hsz]; exact hat)
  show Calls _ _ _ _ (Reads w g T s (Fm.loop s.data.toList 2 38 sub m (sub st).1 (sub st).2))
  obtain ⟨R, hR0⟩ : ∃ R, R = Fm.loop s.data.toList 2 38 sub m (sub st).1 (sub st).2 := ⟨_, rfl⟩
  rw [← hR0]
  have hend := Lib.hid hR0
  clear hR0
  have HZ := Lib.hid hsz
  clear hsz
  go_enter Tryz.func144, Tryz.ntmps144
  go_wp2_with fail
  refine (HS.out g st _ hR hat hfu).mono ?_
  rintro e w1 ⟨v1, rfl, ho1, hR1, hO1⟩
  generalize sub st = r1 at *
  obtain ⟨k1, k2, k3⟩ := h0
  rw [HZ.out] at k2
  go_wp2_with fail
  go_loopg [3] m (fun i v wr => ∃ (a : List Nd) (st' : Fm.St), Own wr w.heap.size v a ∧ Rdr wr g T s st' ∧ Only g w wr ∧ Hid (Fm.loop s.data.toList 2 38 sub i a st' = R) ∧ s.size - st'.1 < i ∧ st.1 ≤ st'.1 ∧ st'.1 ≤ s.size ∧ a.length ≤ 3 * st'.1 + 1)
  case atStart => exact ⟨r1.1, r1.2, ho1, hR1, hO1, hend.out.symm, by omega, by omega, by omega, by omega⟩
  case round =>
    obtain ⟨a, st', hown, hR', hO', hl, hi, hst, hst2, hlen⟩ := hrel
    have hne := own_rdr_ne hown hR' hT
    clear hend ho1 hR1 hO1 k1 k2 k3 hR
    obtain ⟨j, rfl⟩ : ∃ j, gk = j + 1 := ⟨gk - 1, by omega⟩
    by_cases hsee : Fm.sees s.data.toList st' 38 = true
    · have hlt := Fm.sees_lt hsee
      rw [HZ.out] at hlt
      have hl2 : Hid (Fm.loop s.data.toList 2 38 sub j (Fm.join 2 a (sub (Fm.step st')).1) (sub (Fm.step st')).2 = R) := by
        have := hl.out
        rw [Fm.loop, if_pos hsee] at this
        exact this
      obtain ⟨k1, k2, k3⟩ : Fm.Ok s.data.toList (Fm.step st') (sub (Fm.step st')) := HO.out (Fm.step st') (by rw [HZ.out]; exact hlt)
      rw [HZ.out] at k2
      have e1 : (Fm.step st').1 = st'.1 + 1 := rfl
      rw [e1] at k1 k3
      have hfu2 : s.size - (Fm.step st').1 < f := by rw [e1]; omega
      have hat2 : (Fm.step st').1 ≤ s.size := by rw [e1]; omega
      clear hl e1
      go_wp2_with fail
      refine (l02Take_yes g T s st' 38 _ _ hR' (by omega) hst2 rfl hsee).mono ?_
      rintro e w2 ⟨rfl, hR2, hO2⟩
      clear hsee hR'
      generalize Fm.step st' = st2 at *
      go_wp2_with fail
      refine (HS.out g st2 _ hR2 hat2 hfu2).mono ?_
      rintro e w3 ⟨v3, rfl, ho3, hR3, hO3⟩
      generalize sub st2 = r3 at *
      go_wp2_with fail
      refine (l02Pair_c 2 _ _ a r3.1 _ ((hown.only hO2 hne).only hO3 hne).nodes ho3.nodes (by omega)).mono ?_
      rintro e w4 ⟨v4, rfl, ho4, hg4⟩
      go_wp2_with fail
      go_roundg j
      case measure => omega
      case rel => exact ⟨_, r3.2, ho4.base (by have := hO'.size; have := hO2.size; have := hO3.size; omega), hR3.grew hg4, ((hO'.trans hO2).trans hO3).grew hg4, hl2, by omega, by omega, by omega, by simp only [Fm.join, List.length_cons, List.length_append]; omega⟩
    · have hsee' : Fm.sees s.data.toList st' 38 = false := by simpa using hsee
      have hl2 : Hid (R = (a, st')) := by
        have := hl.out
        rw [Fm.loop, if_neg hsee] at this
        exact this.symm
      clear hsee hl
      go_wp2_with fail
      refine (l02Take_no g T s st' 38 _ _ hR' (by omega) hst2 rfl hsee').mono ?_
      rintro e w2 ⟨rfl, hR2, hO2⟩
      go_wp2_with fail
      go_ret
      rw [hl2.out]
      exact ⟨_, rfl, hown.only hO2 hne, hR2, hO'.trans hO2⟩
theorem l02Or_c (T : TypeId) (hT : 101 ≠ T) (s : ByteArray) (f m : Nat) (sub : Fm.St → Fm.Res) (hs : s.size ≤ 1048576) (hm : s.size < m) (hok : ∀ st : Fm.St, st.1 ≤ s.data.toList.length → Fm.Ok s.data.toList st (sub st))
    (hsub : Sub 144 T s f sub) : Sub 141 T s f (fun st => Fm.loop s.data.toList 3 124 sub m (sub st).1 (sub st).2) := by
  intro g st w hR hat hfu
  have HS := Lib.hid hsub
  have HO := Lib.hid hok
  clear hsub hok
  have hsz := size_toList s
  have h0 : Fm.Ok s.data.toList st (sub st) := HO.out st (by rw [hsz]; exact hat)
  show Calls _ _ _ _ (Reads w g T s (Fm.loop s.data.toList 3 124 sub m (sub st).1 (sub st).2))
  obtain ⟨R, hR0⟩ : ∃ R, R = Fm.loop s.data.toList 3 124 sub m (sub st).1 (sub st).2 := ⟨_, rfl⟩
  rw [← hR0]
  have hend := Lib.hid hR0
  clear hR0
  have HZ := Lib.hid hsz
  clear hsz
  go_enter Tryz.func141, Tryz.ntmps141
  go_wp2_with fail
  refine (HS.out g st _ hR hat hfu).mono ?_
  rintro e w1 ⟨v1, rfl, ho1, hR1, hO1⟩
  generalize sub st = r1 at *
  obtain ⟨k1, k2, k3⟩ := h0
  rw [HZ.out] at k2
  go_wp2_with fail
  go_loopg [3] m (fun i v wr => ∃ (a : List Nd) (st' : Fm.St), Own wr w.heap.size v a ∧ Rdr wr g T s st' ∧ Only g w wr ∧ Hid (Fm.loop s.data.toList 3 124 sub i a st' = R) ∧ s.size - st'.1 < i ∧ st.1 ≤ st'.1 ∧ st'.1 ≤ s.size ∧ a.length ≤ 3 * st'.1 + 1)
  case atStart => exact ⟨r1.1, r1.2, ho1, hR1, hO1, hend.out.symm, by omega, by omega, by omega, by omega⟩
  case round =>
    obtain ⟨a, st', hown, hR', hO', hl, hi, hst, hst2, hlen⟩ := hrel
    have hne := own_rdr_ne hown hR' hT
    clear hend ho1 hR1 hO1 k1 k2 k3 hR
    obtain ⟨j, rfl⟩ : ∃ j, gk = j + 1 := ⟨gk - 1, by omega⟩
    by_cases hsee : Fm.sees s.data.toList st' 124 = true
    · have hlt := Fm.sees_lt hsee
      rw [HZ.out] at hlt
      have hl2 : Hid (Fm.loop s.data.toList 3 124 sub j (Fm.join 3 a (sub (Fm.step st')).1) (sub (Fm.step st')).2 = R) := by
        have := hl.out
        rw [Fm.loop, if_pos hsee] at this
        exact this
      obtain ⟨k1, k2, k3⟩ : Fm.Ok s.data.toList (Fm.step st') (sub (Fm.step st')) := HO.out (Fm.step st') (by rw [HZ.out]; exact hlt)
      rw [HZ.out] at k2
      have e1 : (Fm.step st').1 = st'.1 + 1 := rfl
      rw [e1] at k1 k3
      have hfu2 : s.size - (Fm.step st').1 < f := by rw [e1]; omega
      have hat2 : (Fm.step st').1 ≤ s.size := by rw [e1]; omega
      clear hl e1
      go_wp2_with fail
      refine (l02Take_yes g T s st' 124 _ _ hR' (by omega) hst2 rfl hsee).mono ?_
      rintro e w2 ⟨rfl, hR2, hO2⟩
      clear hsee hR'
      generalize Fm.step st' = st2 at *
      go_wp2_with fail
      refine (HS.out g st2 _ hR2 hat2 hfu2).mono ?_
      rintro e w3 ⟨v3, rfl, ho3, hR3, hO3⟩
      generalize sub st2 = r3 at *
      go_wp2_with fail
      refine (l02Pair_c 3 _ _ a r3.1 _ ((hown.only hO2 hne).only hO3 hne).nodes ho3.nodes (by omega)).mono ?_
      rintro e w4 ⟨v4, rfl, ho4, hg4⟩
      go_wp2_with fail
      go_roundg j
      case measure => omega
      case rel => exact ⟨_, r3.2, ho4.base (by have := hO'.size; have := hO2.size; have := hO3.size; omega), hR3.grew hg4, ((hO'.trans hO2).trans hO3).grew hg4, hl2, by omega, by omega, by omega, by simp only [Fm.join, List.length_cons, List.length_append]; omega⟩
    · have hsee' : Fm.sees s.data.toList st' 124 = false := by simpa using hsee
      have hl2 : Hid (R = (a, st')) := by
        have := hl.out
        rw [Fm.loop, if_neg hsee] at this
        exact this.symm
      clear hsee hl
      go_wp2_with fail
      refine (l02Take_no g T s st' 124 _ _ hR' (by omega) hst2 rfl hsee').mono ?_
      rintro e w2 ⟨rfl, hR2, hO2⟩
      go_wp2_with fail
      go_ret
      rw [hl2.out]
      exact ⟨_, rfl, hown.only hO2 hne, hR2, hO'.trans hO2⟩

theorem l02Imply_c (T : TypeId) (hT : 101 ≠ T) (s : ByteArray) (f m : Nat) (sub : Fm.St → Fm.Res) (hs : s.size ≤ 1048576) (hok : ∀ st : Fm.St, st.1 ≤ s.data.toList.length → Fm.Ok s.data.toList st (sub st))
    (hsub : Sub 141 T s f (Fm.orF s.data.toList m sub)) : ∀ (i : Nat) (g : Nat) (st : Fm.St) (w : World), Rdr w g T s st → st.1 ≤ s.size → s.size - st.1 < i → s.size - st.1 < f →
      Calls Tryz.prog 137 #[.pointer (some ⟨g, 0, none⟩)] w (Reads w g T s (Fm.impF s.data.toList m sub i st)) := by
  intro i
  induction i with
  | zero => intro g st w _ _ h; omega
  | succ i ih =>
    intro g st w hR hat hi hfu
    have HS := Lib.hid hsub
    have HI := Lib.hid ih
    clear hsub ih
    have hsz := size_toList s
    have h0 : Fm.Ok s.data.toList st (Fm.orF s.data.toList m sub st) := Fm.orF_ok hok st (by rw [hsz]; exact hat)
    have hy := @Fm.impF_yes s.data.toList m i sub st
    have hn := @Fm.impF_no s.data.toList m i sub st
    have hk := fun st h => Fm.impF_ok (m := m) hok i st h
    have HK := Lib.hid hk
    have HZ := Lib.hid hsz
    clear hsz hok hk
    have HC := fun g h1 => HS.out g st w h1 hat hfu
    have HD := Lib.hid HC
    clear HC HS
    generalize Fm.orF s.data.toList m sub st = r1 at *
    obtain ⟨k1, k2, k3⟩ := h0
    rw [HZ.out] at k2
    by_cases hsee : Fm.sees s.data.toList r1.2 62 = true
    · have hlt := Fm.sees_lt hsee
      rw [HZ.out] at hlt
      have e1 : (Fm.step r1.2).1 = r1.2.1 + 1 := rfl
      obtain ⟨q1, q2, q3⟩ := HK.out (Fm.step r1.2) (by rw [HZ.out, e1]; exact hlt)
      rw [HZ.out] at q2
      rw [e1] at q1 q3
      have hq := HI.out g (Fm.step r1.2)
      rw [e1] at hq
      have HQ := Lib.hid hq
      rw [hy hsee]
      clear hy hn HI hq HK e1
      go_enter Tryz.func137, Tryz.ntmps137
      go_wp2_with fail
      refine (HD.out g hR).mono ?_
      rintro e w1 ⟨v1, rfl, ho1, hR1, hO1⟩
      have hne := own_rdr_ne ho1 hR1 hT
      go_wp2_with fail
      refine (l02Take_yes g T s r1.2 62 _ _ hR1 (by omega) (by omega) rfl hsee).mono ?_
      rintro e w2 ⟨rfl, hR2, hO2⟩
      go_wp2_with fail
      refine (HQ.out _ hR2 (by omega) (by omega) (by omega)).mono ?_
      rintro e w3 ⟨v3, rfl, ho3, hR3, hO3⟩
      generalize Fm.impF s.data.toList m sub i (Fm.step r1.2) = r3 at *
      go_wp2_with fail
      refine (l02Pair_c 4 _ _ r1.1 r3.1 _ ((ho1.only hO2 hne).only hO3 hne).nodes ho3.nodes (by omega)).mono ?_
      rintro e w4 ⟨v4, rfl, ho4, hg4⟩
      go_wp2_with fail
      go_ret
      exact ⟨_, rfl, ho4.base (by have := hO1.size; have := hO2.size; have := hO3.size; omega), hR3.grew hg4, ((hO1.trans hO2).trans hO3).grew hg4⟩
    · have hsee' : Fm.sees s.data.toList r1.2 62 = false := by simpa using hsee
      rw [hn hsee']
      clear hy hn HI HK hsee
      go_enter Tryz.func137, Tryz.ntmps137
      go_wp2_with fail
      refine (HD.out g hR).mono ?_
      rintro e w1 ⟨v1, rfl, ho1, hR1, hO1⟩
      have hne := own_rdr_ne ho1 hR1 hT
      go_wp2_with fail
      refine (l02Take_no g T s r1.2 62 _ _ hR1 (by omega) (by omega) rfl hsee').mono ?_
      rintro e w2 ⟨rfl, hR2, hO2⟩
      go_wp2_with fail
      go_ret
      exact ⟨_, rfl, ho1.only hO2 hne, hR2, hO1.trans hO2⟩

end Go.Proofs.YtdndclfjeajhiaaGreat

/- The reference's reader: l02Prefix and l02Imply. -/
namespace Go.Proofs.YtdndclfjeajhiaaGreat
open Go.RowKit
open Fm (Nd)

theorem index_letter (w : World) (i : Nat) (hi : i < 6) :
    (Instr.index 9 (.string ⟨#[112, 113, 114, 115, 116, 117]⟩) (.int .i64 i)).run Tryz.prog w = .ok (.int .u8 (112 + (i : Int))) w := by
  have h6 : i = 0 ∨ i = 1 ∨ i = 2 ∨ i = 3 ∨ i = 4 ∨ i = 5 := by omega
  rcases h6 with rfl | rfl | rfl | rfl | rfl | rfl <;> (simp [Instr.index, run_underlying Tryz.underlying9, go_sem]; rfl)
theorem letter_byte2 {i : Nat} (hi : i < 6) : 112 + (i : Int) = ((UInt8.ofNat (112 + i)).toNat : Int) := by
  rw [UInt8.toNat_ofNat']; omega

set_option maxHeartbeats 1000000 in
theorem l02Prefix_step (T : TypeId) (hT : 101 ≠ T) (s : ByteArray) (f m : Nat) (hs : s.size ≤ 1048576)
    (himp : Sub 137 T s f (Fm.impF s.data.toList m (Fm.preF s.data.toList m f) m)) (hp : Sub 149 T s f (Fm.preF s.data.toList m f))
    (g : Nat) (st : Fm.St) (w : World) (hR : Rdr w g T s st) (hat : st.1 ≤ s.size) (hfu : s.size - st.1 < f + 1) :
    Calls Tryz.prog 149 #[.pointer (some ⟨g, 0, none⟩)] w (Reads w g T s (Fm.preF s.data.toList m (f + 1) st)) := by
  have HI := Lib.hid himp
  have HP := Lib.hid hp
  have HZ := Lib.hid (size_toList s)
  clear himp hp
  cases hl : Fm.letter s.data.toList st with
  | some v =>
    rw [Fm.preF_var hl]
    have hv := (Fm.letter_some hl).1
    have hvs := (Fm.letter_some hl).2
    have HN := Lib.hid (fun i hi hne => @Fm.letter_ne s.data.toList st v i hl hi hne)
    clear hl HI HP
    go_enter Tryz.func149, Tryz.ntmps149
    go_wp2_with fail
    go_loopg [4] 6 (fun n x wr => ∃ i : Nat, n = 6 - i ∧ i ≤ v ∧ x = .int .i64 i ∧ Rdr wr g T s st ∧ Only g w wr)
    case atStart => exact ⟨0, rfl, Nat.zero_le _, rfl, hR, Only.refl _ _⟩
    case round =>
      obtain ⟨i, rfl, hiv, rfl, hRr, hOr⟩ := hrel
      have hix := fun w => index_letter w i (by omega)
      by_cases hiv2 : i = v
      · subst hiv2
        go_wp2_with fail
        refine (l02Take_yes g T s st _ _ _ hRr (by omega) hat (letter_byte2 (by omega)) hvs).mono ?_
        rintro e w4 ⟨rfl, hR6, hO6⟩
        go_wp2_with fail
        refine (l02Var_c _ _).mono ?_
        rintro e w5 ⟨v5, rfl, ho5, hg5⟩
        go_wp2_with fail
        go_ret
        exact ⟨_, rfl, ho5.base (hOr.trans hO6).size, hR6.grew hg5, (hOr.trans hO6).grew hg5⟩
      · have hs0 := HN.out i (by omega) hiv2
        go_wp2_with fail
        refine (l02Take_no g T s st _ _ _ hRr (by omega) hat (letter_byte2 (by omega)) hs0).mono ?_
        rintro e w4 ⟨rfl, hR6, hO6⟩
        go_wp2_with fail
        go_roundg (6 - (i + 1))
        case measure => omega
        case rel => exact ⟨i + 1, rfl, by omega, by go_num, hR6, hOr.trans hO6⟩
  | none =>
    have HN := Lib.hid (fun i hi => @Fm.letter_none s.data.toList st hl i hi)
    have HL := Lib.hid hl
    clear hl
    obtain ⟨R, hR0⟩ : ∃ R, R = Fm.preF s.data.toList m (f + 1) st := ⟨_, rfl⟩
    rw [← hR0]
    have HE := Lib.hid hR0
    clear hR0
    go_enter Tryz.func149, Tryz.ntmps149
    go_wp2_with fail
    go_loopg [4] 7 (fun n x wr => ∃ i : Nat, n = 7 - i ∧ i ≤ 6 ∧ x = .int .i64 i ∧ Rdr wr g T s st ∧ Only g w wr)
    case atStart => exact ⟨0, rfl, Nat.zero_le _, rfl, hR, Only.refl _ _⟩
    case round =>
      obtain ⟨i, rfl, hiv, rfl, hRr, hOr⟩ := hrel
      clear hR
      by_cases hi6 : i < 6
      · have hix := fun w => index_letter w i hi6
        have hs0 := HN.out i hi6
        go_wp2_with fail
        refine (l02Take_no g T s st _ _ _ hRr (by omega) hat (letter_byte2 hi6) hs0).mono ?_
        rintro e w4 ⟨rfl, hR6, hO6⟩
        go_wp2_with fail
        go_roundg (7 - (i + 1))
        case measure => omega
        case rel => exact ⟨i + 1, rfl, by omega, by go_num, hR6, hOr.trans hO6⟩
      · have hi66 : i = 6 := by omega
        subst hi66
        clear HN hi6 hiv
        go_wp2_with fail
        by_cases h70 : Fm.sees s.data.toList st 70 = true
        · have hE := HE.out
          rw [Fm.preF_fls h70] at hE
          subst hE
          refine (l02Take_yes g T s st 70 _ _ hRr (by omega) hat rfl h70).mono ?_
          rintro e w101 ⟨rfl, hR101, hO101⟩
          go_wp2_with fail
          refine (l02False_c _).mono ?_
          rintro e wz ⟨vz, rfl, hoz, hgz⟩
          go_wp2_with fail
          go_ret
          exact ⟨_, rfl, hoz.base ((hOr).trans hO101).size, hR101.grew hgz, ((hOr).trans hO101).grew hgz⟩
        have h70' : Fm.sees s.data.toList st 70 = false := by simpa using h70
        clear h70
        refine (l02Take_no g T s st 70 _ _ hRr (by omega) hat rfl h70').mono ?_
        rintro e w1 ⟨rfl, hR1, hO1⟩
        go_wp2_with fail
        by_cases h84 : Fm.sees s.data.toList st 84 = true
        · have hE := HE.out
          rw [Fm.preF_tru h84] at hE
          subst hE
          refine (l02Take_yes g T s st 84 _ _ hR1 (by omega) hat rfl h84).mono ?_
          rintro e w102 ⟨rfl, hR102, hO102⟩
          go_wp2_with fail
          refine (l02True_c _).mono ?_
          rintro e wz ⟨vz, rfl, hoz, hgz⟩
          go_wp2_with fail
          go_ret
          exact ⟨_, rfl, hoz.base (((hOr).trans hO1).trans hO102).size, hR102.grew hgz, (((hOr).trans hO1).trans hO102).grew hgz⟩
        have h84' : Fm.sees s.data.toList st 84 = false := by simpa using h84
        clear h84
        refine (l02Take_no g T s st 84 _ _ hR1 (by omega) hat rfl h84').mono ?_
        rintro e w2 ⟨rfl, hR2, hO2⟩
        go_wp2_with fail
        by_cases h126 : Fm.sees s.data.toList st 126 = true
        · have hE := HE.out
          rw [Fm.preF_not h126] at hE
          subst hE
          have hlt := Fm.sees_lt h126
          rw [HZ.out] at hlt
          have e1 : (Fm.step st).1 = st.1 + 1 := rfl
          have hk : Fm.Ok s.data.toList (Fm.step st) (Fm.preF s.data.toList m f (Fm.step st)) := Fm.preF_ok f (Fm.step st) (by rw [HZ.out]; exact hlt)
          obtain ⟨k1, k2, k3⟩ := hk
          rw [HZ.out] at k2
          rw [e1] at k1 k3
          have hq := HP.out g (Fm.step st)
          rw [e1] at hq
          have HQ := Lib.hid hq
          clear hq e1 HI HP
          generalize Fm.preF s.data.toList m f (Fm.step st) = r at *
          refine (l02Take_yes g T s st 126 _ _ hR2 (by omega) hat rfl h126).mono ?_
          rintro e w103 ⟨rfl, hR103, hO103⟩
          go_wp2_with fail
          refine (HQ.out _ hR103 (by omega) (by omega)).mono ?_
          rintro e wx ⟨vx, rfl, hox, hRx, hOx⟩
          go_wp2_with fail
          refine (l02Not_c _ r.1 _ hox.nodes (by omega)).mono ?_
          rintro e wz ⟨vz, rfl, hoz, hgz⟩
          go_wp2_with fail
          go_ret
          exact ⟨_, rfl, hoz.base (((((hOr).trans hO1).trans hO2).trans hO103).trans hOx).size, hRx.grew hgz, (((((hOr).trans hO1).trans hO2).trans hO103).trans hOx).grew hgz⟩
        have h126' : Fm.sees s.data.toList st 126 = false := by simpa using h126
        clear h126
        refine (l02Take_no g T s st 126 _ _ hR2 (by omega) hat rfl h126').mono ?_
        rintro e w3 ⟨rfl, hR3, hO3⟩
        go_wp2_with fail
        by_cases h91 : Fm.sees s.data.toList st 91 = true
        · have hE := HE.out
          rw [Fm.preF_box h91] at hE
          subst hE
          have hlt := Fm.sees_lt h91
          rw [HZ.out] at hlt
          have e1 : (Fm.step st).1 = st.1 + 1 := rfl
          have hn := Fm.need_pos (s := s.data.toList) (st := Fm.step st) (c := 93) (by rw [HZ.out, e1]; exact hlt)
          rw [HZ.out, e1] at hn
          obtain ⟨n1, n2⟩ := hn
          have hk : Fm.Ok s.data.toList (Fm.need s.data.toList (Fm.step st) 93) (Fm.preF s.data.toList m f (Fm.need s.data.toList (Fm.step st) 93)) := Fm.preF_ok f _ (by rw [HZ.out]; exact n2)
          obtain ⟨k1, k2, k3⟩ := hk
          rw [HZ.out] at k2
          have HQ := Lib.hid (HP.out g (Fm.need s.data.toList (Fm.step st) 93))
          have hat1 : (Fm.step st).1 ≤ s.size := by rw [e1]; omega
          clear e1 HI HP
          refine (l02Take_yes g T s st 91 _ _ hR3 (by omega) hat rfl h91).mono ?_
          rintro e w104 ⟨rfl, hR104, hO104⟩
          go_wp2_with fail
          refine (l02Need_c g T s (Fm.step st) 93 _ _ hR104 (by omega) hat1 rfl).mono ?_
          rintro e wy ⟨rfl, hRy, hOy⟩
          generalize Fm.need s.data.toList (Fm.step st) 93 = st2 at *
          generalize Fm.preF s.data.toList m f st2 = r at *
          go_wp2_with fail
          refine (HQ.out _ hRy (by omega) (by omega)).mono ?_
          rintro e wx ⟨vx, rfl, hox, hRx, hOx⟩
          go_wp2_with fail
          refine (l02Pre_c 5 _ r.1 _ hox.nodes (by omega)).mono ?_
          rintro e wz ⟨vz, rfl, hoz, hgz⟩
          go_wp2_with fail
          go_ret
          exact ⟨_, rfl, hoz.base (((((((hOr).trans hO1).trans hO2).trans hO3).trans hO104).trans hOy).trans hOx).size, hRx.grew hgz, (((((((hOr).trans hO1).trans hO2).trans hO3).trans hO104).trans hOy).trans hOx).grew hgz⟩
        have h91' : Fm.sees s.data.toList st 91 = false := by simpa using h91
        clear h91
        refine (l02Take_no g T s st 91 _ _ hR3 (by omega) hat rfl h91').mono ?_
        rintro e w4 ⟨rfl, hR4, hO4⟩
        go_wp2_with fail
        by_cases h60 : Fm.sees s.data.toList st 60 = true
        · have hE := HE.out
          rw [Fm.preF_dia h60] at hE
          subst hE
          have hlt := Fm.sees_lt h60
          rw [HZ.out] at hlt
          have e1 : (Fm.step st).1 = st.1 + 1 := rfl
          have hn := Fm.need_pos (s := s.data.toList) (st := Fm.step st) (c := 62) (by rw [HZ.out, e1]; exact hlt)
          rw [HZ.out, e1] at hn
          obtain ⟨n1, n2⟩ := hn
          have hk : Fm.Ok s.data.toList (Fm.need s.data.toList (Fm.step st) 62) (Fm.preF s.data.toList m f (Fm.need s.data.toList (Fm.step st) 62)) := Fm.preF_ok f _ (by rw [HZ.out]; exact n2)
          obtain ⟨k1, k2, k3⟩ := hk
          rw [HZ.out] at k2
          have HQ := Lib.hid (HP.out g (Fm.need s.data.toList (Fm.step st) 62))
          have hat1 : (Fm.step st).1 ≤ s.size := by rw [e1]; omega
          clear e1 HI HP
          refine (l02Take_yes g T s st 60 _ _ hR4 (by omega) hat rfl h60).mono ?_
          rintro e w105 ⟨rfl, hR105, hO105⟩
          go_wp2_with fail
          refine (l02Need_c g T s (Fm.step st) 62 _ _ hR105 (by omega) hat1 rfl).mono ?_
          rintro e wy ⟨rfl, hRy, hOy⟩
          generalize Fm.need s.data.toList (Fm.step st) 62 = st2 at *
          generalize Fm.preF s.data.toList m f st2 = r at *
          go_wp2_with fail
          refine (HQ.out _ hRy (by omega) (by omega)).mono ?_
          rintro e wx ⟨vx, rfl, hox, hRx, hOx⟩
          go_wp2_with fail
          refine (l02Pre_c 6 _ r.1 _ hox.nodes (by omega)).mono ?_
          rintro e wz ⟨vz, rfl, hoz, hgz⟩
          go_wp2_with fail
          go_ret
          exact ⟨_, rfl, hoz.base ((((((((hOr).trans hO1).trans hO2).trans hO3).trans hO4).trans hO105).trans hOy).trans hOx).size, hRx.grew hgz, ((((((((hOr).trans hO1).trans hO2).trans hO3).trans hO4).trans hO105).trans hOy).trans hOx).grew hgz⟩
        have h60' : Fm.sees s.data.toList st 60 = false := by simpa using h60
        clear h60
        refine (l02Take_no g T s st 60 _ _ hR4 (by omega) hat rfl h60').mono ?_
        rintro e w5 ⟨rfl, hR5, hO5⟩
        go_wp2_with fail
        by_cases h40 : Fm.sees s.data.toList st 40 = true
        · have hE := HE.out
          rw [Fm.preF_par h40] at hE
          subst hE
          have hlt := Fm.sees_lt h40
          rw [HZ.out] at hlt
          have hk : Fm.Ok s.data.toList (Fm.step st) (Fm.impF s.data.toList m (Fm.preF s.data.toList m f) m (Fm.step st)) := Fm.impF_ok (fun st h => Fm.preF_ok f st h) m (Fm.step st) (by rw [HZ.out]; exact hlt)
          have e1 : (Fm.step st).1 = st.1 + 1 := rfl
          obtain ⟨k1, k2, k3⟩ := hk
          rw [HZ.out] at k2
          rw [e1] at k1 k3
          have hq := HI.out g (Fm.step st)
          rw [e1] at hq
          have HQ := Lib.hid hq
          clear hq e1 HI HP
          generalize Fm.impF s.data.toList m (Fm.preF s.data.toList m f) m (Fm.step st) = r at *
          refine (l02Take_yes g T s st 40 _ _ hR5 (by omega) hat rfl h40).mono ?_
          rintro e w106 ⟨rfl, hR106, hO106⟩
          go_wp2_with fail
          refine (HQ.out _ hR106 (by omega) (by omega)).mono ?_
          rintro e wx ⟨vx, rfl, hox, hRx, hOx⟩
          have hne := own_rdr_ne hox hRx hT
          go_wp2_with fail
          refine (l02Need_c g T s r.2 41 _ _ hRx (by omega) (by omega) rfl).mono ?_
          rintro e wz ⟨rfl, hRz, hOz⟩
          go_wp2_with fail
          go_ret
          exact ⟨_, rfl, (hox.only hOz hne).base (((((((hOr).trans hO1).trans hO2).trans hO3).trans hO4).trans hO5).trans hO106).size, hRz, ((((((((hOr).trans hO1).trans hO2).trans hO3).trans hO4).trans hO5).trans hO106).trans hOx).trans hOz⟩
        have h40' : Fm.sees s.data.toList st 40 = false := by simpa using h40
        clear h40
        refine (l02Take_no g T s st 40 _ _ hR5 (by omega) hat rfl h40').mono ?_
        rintro e w6 ⟨rfl, hR6, hO6⟩
        have hE := HE.out
        have h126x := Fm.preF_bad (m := m) (f := f) h126' h91' h60' h70' h84' h40' HL.out
        rw [h126x] at hE
        subst hE
        clear h126x HL
        have c2 := hR6.bad
        have hf := hR6.free 2
        have HH := Lib.hid hR6
        clear hRr hR1 hR2 hR3 hR4 hR5 hR6
        go_wp2_with fail
        refine (l02False_c _).mono ?_
        rintro e wz ⟨vz, rfl, hoz, hgz⟩
        go_wp2_with fail
        go_ret
        exact ⟨_, rfl, hoz.base ((((((((hOr).trans hO1).trans hO2).trans hO3).trans hO4).trans hO5).trans hO6).setCell _).size, HH.out.spoil.grew hgz, ((((((((hOr).trans hO1).trans hO2).trans hO3).trans hO4).trans hO5).trans hO6).setCell _).grew hgz⟩

theorem l02Prefix_sub (T : TypeId) (hT : 101 ≠ T) (s : ByteArray) (m : Nat) (hs : s.size ≤ 1048576) (hm : s.size < m) : ∀ f, f ≤ m → Sub 149 T s f (Fm.preF s.data.toList m f) := by
  intro f
  induction f with
  | zero => intro _ g st w _ _ h; omega
  | succ f ih =>
    intro hfm g st w hR hat hfu
    have hp := ih (by omega)
    have hok : ∀ st : Fm.St, st.1 ≤ s.data.toList.length → Fm.Ok s.data.toList st (Fm.preF s.data.toList m f st) := fun st h => Fm.preF_ok f st h
    have hand := l02And_c T hT s f m _ hs hm hok hp
    have hor := l02Or_c T hT s f m _ hs hm (fun st h => Fm.andF_ok (m := m) hok st h) hand
    have himp := l02Imply_c T hT s f m _ hs hok hor m
    exact l02Prefix_step T hT s f m hs (fun g st w h1 h2 h3 => himp g st w h1 h2 (by omega) h3) hp g st w hR hat hfu

/-- The reference's reader at a text's beginning. -/
theorem l02Imply_top (T : TypeId) (hT : 101 ≠ T) (s : ByteArray) (m : Nat) (hs : s.size ≤ 1048576) (hm : s.size < m) (g : Nat) (w : World) (hR : Rdr w g T s (0, false)) :
    Calls Tryz.prog 137 #[.pointer (some ⟨g, 0, none⟩)] w (Reads w g T s (Fm.parse s.data.toList m)) := by
  have hok : ∀ st : Fm.St, st.1 ≤ s.data.toList.length → Fm.Ok s.data.toList st (Fm.preF s.data.toList m m st) := fun st h => Fm.preF_ok m st h
  have hand := l02And_c T hT s m m _ hs hm hok (l02Prefix_sub T hT s m hs hm m (Nat.le_refl _))
  have hor := l02Or_c T hT s m m _ hs hm (fun st h => Fm.andF_ok (m := m) hok st h) hand
  exact l02Imply_c T hT s m m _ hs hok hor m g (0, false) w hR (by simp) (by simpa using hm) (by simpa using hm)
end Go.Proofs.YtdndclfjeajhiaaGreat

/- The readers of whole texts: ParseFormula of the reference. -/
namespace Go.Proofs.YtdndclfjeajhiaaGreat
open Go.RowKit
open Fm (Nd)

theorem l02Read_c (s : ByteArray) (w : World) (hs : s.size ≤ 1048576) :
    Calls Tryz.prog 125 #[.string s] w (Gives2 w (Fm.rd s).1 (Fm.rd s).2) := by
  obtain ⟨hr1, hr2⟩ := Fm.read_ok s
  have hxs : Hid ((Fm.read s).1 ≠ []) := Fm.read_ne s
  have HT := Lib.hid (fun g w hR => l02Imply_top 145 (by decide) s Fm.fuel (by omega) (by unfold Fm.fuel; omega) g w hR)
  have hpf : Hid (Fm.rd s = if Fm.whole s = false then ([], ((Fm.read s).2.1 : Int)) else ((Fm.read s).1, -1)) := rfl
  have hwh : Hid (Fm.whole s = (!(Fm.read s).2.2 && decide (s.size ≤ (Fm.read s).2.1))) := rfl
  generalize Fm.rd s = P at *
  generalize Fm.whole s = W at *
  have hrd : Fm.parse s.data.toList Fm.fuel = Fm.read s := rfl
  rw [hrd] at HT
  clear hrd
  generalize Fm.read s = r at *
  obtain ⟨xs, p, b⟩ := r
  simp only at hr1 hr2 hpf hwh
  clear hxs
  have HR0 := Lib.hid (Rdr.new w 145 s)
  by_cases hb : b = true
  · subst hb
    have hP : P = ([], (p : Int)) := by rw [hpf.out, hwh.out]; simp
    subst hP
    clear hpf hwh
    go_enter Tryz.func125, Tryz.ntmps125
    go_wp2_with fail
    refine (HT.out _ _ HR0.out).mono ?_
    rintro e w1 ⟨v1, rfl, ho1, hR1, hO1⟩
    have c1 := hR1.at_
    have c2 := hR1.bad
    have hG := hO1.grew_of ((Grew.refl w).alloc _) (Nat.le_refl _)
    clear hR1 hO1
    go_wp2_with fail
    go_quiet (fail)
    go_wp2_with fail
    go_ret2
    exact ⟨_, rfl, Own.nil_ _ _, hG.drewN _⟩
  have hb' : b = false := by simpa using hb
  subst hb'
  clear hb
  by_cases hlt : p < s.size
  · have hP : P = ([], (p : Int)) := by
      rw [hpf.out, hwh.out]
      simp [hlt]
    subst hP
    clear hpf hwh
    go_enter Tryz.func125, Tryz.ntmps125
    go_wp2_with fail
    refine (HT.out _ _ HR0.out).mono ?_
    rintro e w1 ⟨v1, rfl, ho1, hR1, hO1⟩
    have c1 := hR1.at_
    have c2 := hR1.bad
    have hG := hO1.grew_of ((Grew.refl w).alloc _) (Nat.le_refl _)
    clear hR1 hO1
    go_wp2_with fail
    go_quiet (fail)
    go_wp2_with fail
    go_ret2
    exact ⟨_, rfl, Own.nil_ _ _, hG.drewN _⟩
  · have hP : P = (xs, -1) := by
      rw [hpf.out, hwh.out]
      simp [Nat.le_of_not_lt hlt]
    subst hP
    clear hpf hwh
    go_enter Tryz.func125, Tryz.ntmps125
    go_wp2_with fail
    refine (HT.out _ _ HR0.out).mono ?_
    rintro e w1 ⟨v1, rfl, ho1, hR1, hO1⟩
    have c1 := hR1.at_
    have c2 := hR1.bad
    have hG := hO1.grew_of ((Grew.refl w).alloc _) (Nat.le_refl _)
    obtain ⟨A, ca, rfl⟩ := nodes_slice ho1.nodes
    clear hR1 hO1
    go_wp2_with fail
    go_ret2
    exact ⟨_, rfl, ho1.base (by simp), hG⟩

theorem specParse_c (s : ByteArray) (w : World) (hs : s.size ≤ 140737488355328) :
    Calls Tryz.prog 112 #[.string s] w (Gives3 w (Fm.pf s)) := by
  by_cases hbig : 200 < s.size
  · have hp : Fm.pf s = ([], 0, 3) := by unfold Fm.pf; rw [if_pos hbig]
    rw [hp]
    clear hp
    go_enter Tryz.func112, Tryz.ntmps112
    go_wp2_with fail
    go_ret3
    exact ⟨_, rfl, Own.nil_ _ _, Grew.refl _, fun _ => rfl⟩
  have hL := fun w => l02Read_c s w (by omega)
  have hpf : Hid (Fm.pf s = if Fm.whole s = false then ([], (Fm.read s).2.1, 6) else if 40 < (Fm.read s).1.length then ([], 0, 3) else ((Fm.read s).1, 0, 0)) := by
    unfold Fm.pf Hid; rw [if_neg hbig]
  have hrd : Hid (Fm.rd s = if Fm.whole s = false then ([], ((Fm.read s).2.1 : Int)) else ((Fm.read s).1, -1)) := rfl
  obtain ⟨hr1, hr2⟩ := Fm.read_ok s
  have hxs : Hid ((Fm.read s).1 ≠ []) := Fm.read_ne s
  have HL := Lib.hid hL
  clear hL
  generalize Fm.pf s = P at *
  generalize Fm.rd s = Q at *
  generalize Fm.whole s = W at *
  generalize Fm.read s = r at *
  obtain ⟨xs, p, b⟩ := r
  simp only at hr1 hr2 hpf hrd hxs
  by_cases hW : W = false
  · have hP : P = ([], p, 6) := by rw [hpf.out, if_pos hW]
    have hQ : Q = ([], (p : Int)) := by rw [hrd.out, if_pos hW]
    subst hP hQ
    clear hpf hrd hW
    go_enter Tryz.func112, Tryz.ntmps112
    go_wp2_with fail
    refine (HL.out _).mono ?_
    rintro e w1 ⟨v1, rfl, ho1, hG⟩
    go_wp2_with fail
    go_ret3
    exact ⟨_, rfl, Own.nil_ _ _, hG, fun _ => rfl⟩
  · have hQ : Q = (xs, -1) := by rw [hrd.out, if_neg hW]
    subst hQ
    by_cases h40 : 40 < xs.length
    · have hP : P = ([], 0, 3) := by rw [hpf.out, if_neg hW, if_pos h40]
      subst hP
      clear hpf hrd hW
      go_enter Tryz.func112, Tryz.ntmps112
      go_wp2_with fail
      refine (HL.out _).mono ?_
      rintro e w1 ⟨v1, rfl, ho1, hG⟩
      obtain ⟨A, ca, rfl⟩ := nodes_slice ho1.nodes
      go_wp2_with fail
      go_ret3
      exact ⟨_, rfl, Own.nil_ _ _, hG, fun _ => rfl⟩
    · have hP : P = (xs, 0, 0) := by rw [hpf.out, if_neg hW, if_neg h40]
      subst hP
      clear hpf hrd hW
      go_enter Tryz.func112, Tryz.ntmps112
      go_wp2_with fail
      refine (HL.out _).mono ?_
      rintro e w1 ⟨v1, rfl, ho1, hG⟩
      obtain ⟨A, ca, rfl⟩ := nodes_slice ho1.nodes
      go_wp2_with fail
      go_ret3
      exact ⟨_, rfl, ho1, hG, fun h => absurd h hxs.out⟩
end Go.Proofs.YtdndclfjeajhiaaGreat

/- Where the part at an index ends; the parts of a formula. -/
namespace Go.Proofs.YtdndclfjeajhiaaGreat
open Go.RowKit
open Fm (Nd Tree)

theorem partsOf_c (k : Int) (w : World) :
    Calls Tryz.prog 135 #[.int .i64 k] w fun e w' => e = .returned (.int .i64 (Fm.arity k)) ∧ Grew w w' := by
  by_cases h2 : k = 2 ∨ k = 3 ∨ k = 4
  · have ha : Fm.arity k = 2 := by unfold Fm.arity; rw [if_pos h2]
    rw [ha]
    rcases h2 with rfl | rfl | rfl
    all_goals
      go_enter Tryz.func135, Tryz.ntmps135
      go_wp2_with fail
      go_ret
      exact ⟨rfl, Grew.refl _⟩
  by_cases h1 : k = 5 ∨ k = 6
  · have ha : Fm.arity k = 1 := by unfold Fm.arity; rw [if_neg h2, if_pos h1]
    rw [ha]
    rcases h1 with rfl | rfl
    all_goals
      go_enter Tryz.func135, Tryz.ntmps135
      go_wp2_with fail
      go_ret
      exact ⟨rfl, Grew.refl _⟩
  · have ha : Fm.arity k = 0 := by unfold Fm.arity; rw [if_neg h2, if_neg h1]
    rw [ha]
    have n2 : (k == 2) = false := by simp; omega
    have n3 : (k == 3) = false := by simp; omega
    have n4 : (k == 4) = false := by simp; omega
    have n5 : (k == 5) = false := by simp; omega
    have n6 : (k == 6) = false := by simp; omega
    clear h1 h2 ha
    go_enter Tryz.func135, Tryz.ntmps135
    go_wp2_with fail
    go_ret
    exact ⟨rfl, Grew.refl _⟩

/-- What 'partEnd' gives. -/
def pval (j : Nat) : Option Nat → Int
  | some n => (j : Int) + n
  | none => -1
theorem pval_succ (j : Nat) (o : Option Nat) : pval j (o.map (· + 1)) = pval (j + 1) o := by
  cases o with
  | none => rfl
  | some n => show (j : Int) + ((n + 1 : Nat) : Int) = ((j + 1 : Nat) : Int) + n; omega
def pend (xs : List Nd) (i : Nat) : Int := pval i (Fm.scan (xs.drop i) 1)

theorem scan_step {xs : List Nd} {j o : Nat} (hj : j < xs.length) : Fm.scan (xs.drop j) (o + 1) = (Fm.scan (xs.drop (j + 1)) (o + Fm.arity (kd xs j))).map (· + 1) := by
  rw [List.drop_eq_getElem_cons hj, Fm.scan_cons, kd_lt hj]

theorem partEnd_c (v : Value) (xs : List Nd) (i : Nat) (w : World) (h : Nodes w v xs) (hn : xs.length ≤ 1099511627776) (hi : i ≤ 1099511627776) :
    Calls Tryz.prog 139 #[v, .int .i64 i] w fun e w' => e = .returned (.int .i64 (pend xs i)) ∧ Grew w w' := by
  rcases h.open_ with ⟨rfl, rfl⟩ | ⟨b, o, c, rfl, hc, hm, hb, hf⟩
  · have hp : pend [] i = -1 := by simp [pend, Fm.scan_nil, pval]
    rw [hp]
    clear hp
    go_enter Tryz.func139, Tryz.ntmps139
    go_wp2_with fail
    refine wp_loop_rounds 1 ?_; rw [rounds_succ]
    go_wp2_with fail
    go_ret
    exact ⟨rfl, Grew.refl _⟩
  · clear h
    obtain ⟨P, hP⟩ : ∃ P, P = pend xs i := ⟨_, rfl⟩
    rw [← hP]
    -- the rest of the scan decides the result
    have hstart : Hid (P = pval i (Fm.scan (xs.drop i) 1)) := hP
    have hstep := fun j o hj => @scan_step xs j o hj
    have HS := Lib.hid hstep
    have HL : Hid (∀ j, xs.length ≤ j → xs.drop j = []) := Lib.hid fun j hj => List.drop_eq_nil_of_le hj
    clear hP hstep
    have HF := Lib.hid hf
    clear hf
    generalize hN : xs.length = n at *
    clear hN
    go_enter Tryz.func139, Tryz.ntmps139
    go_wp2_with fail
    go_loopg [1, 5] (n + 1 - i) (fun k x y wr => ∃ j op : Nat, x = .int .i64 j ∧ y = .int .i64 op ∧ Grew w wr ∧ i ≤ j ∧ op ≤ j - i + 1 ∧ k = n + 1 - j ∧ j ≤ i + n ∧ Hid (P = pval j (Fm.scan (xs.drop j) op)))
    case atStart => exact ⟨i, 1, rfl, rfl, Grew.refl _, Nat.le_refl _, by omega, rfl, by omega, hstart⟩
    case round =>
      obtain ⟨j, op, rfl, rfl, hB, hij, hop, rfl, hjn, HP⟩ := hrel
      by_cases hz : op = 0
      · subst hz
        have hv : Hid (P = (j : Int)) := Lib.hid (by rw [HP.out, Fm.scan_zero]; simp [pval])
        clear HP
        go_wp2_with fail
        go_ret
        rw [hv.out]
        exact ⟨rfl, hB⟩
      · obtain ⟨q, rfl⟩ : ∃ q, op = q + 1 := ⟨op - 1, by omega⟩
        by_cases hlt : j < n
        · have k1 : ∀ W, Grew w W → W.cell? ⟨b, o + j * 2, none⟩ = some (.int .i64 (kd xs j)) := fun W hW => (HF.out j hlt W hW).1
          have hv : Hid (P = pval (j + 1) (Fm.scan (xs.drop (j + 1)) (q + Fm.arity (kd xs j)))) := Lib.hid (by rw [HP.out, HS.out j q hlt, pval_succ])
          have har := Fm.arity_le (kd xs j)
          clear HP hz
          go_wp2_with fail
          refine (partsOf_c _ _).mono ?_
          rintro e w1 ⟨rfl, hg1⟩
          generalize Fm.arity (kd xs j) = ar at *
          go_wp2_with fail
          go_roundg (n + 1 - (j + 1))
          case measure => omega
          case rel => exact ⟨j + 1, q + ar, by go_num, by go_num, hB.trans hg1, by omega, by omega, rfl, by omega, hv⟩
        · have hv : Hid (P = -1) := Lib.hid (by rw [HP.out, HL.out j (by omega), Fm.scan_nil]; rfl)
          clear HP
          go_wp2_with fail
          go_ret
          rw [hv.out]
          exact ⟨rfl, hB⟩
theorem l02Parts_c (k : Int) (w : World) :
    Calls Tryz.prog 119 #[.int .i64 k] w fun e w' => e = .returned (.int .i64 (Fm.arity k)) ∧ Grew w w' := by
  by_cases h2 : k = 2 ∨ k = 3 ∨ k = 4
  · have ha : Fm.arity k = 2 := by unfold Fm.arity; rw [if_pos h2]
    rw [ha]
    rcases h2 with rfl | rfl | rfl
    all_goals
      go_enter Tryz.func119, Tryz.ntmps119
      go_wp2_with fail
      go_ret
      exact ⟨rfl, Grew.refl _⟩
  by_cases h1 : k = 5 ∨ k = 6
  · have ha : Fm.arity k = 1 := by unfold Fm.arity; rw [if_neg h2, if_pos h1]
    rw [ha]
    rcases h1 with rfl | rfl
    all_goals
      go_enter Tryz.func119, Tryz.ntmps119
      go_wp2_with fail
      go_ret
      exact ⟨rfl, Grew.refl _⟩
  · have ha : Fm.arity k = 0 := by unfold Fm.arity; rw [if_neg h2, if_neg h1]
    rw [ha]
    have n2 : (k == 2) = false := by simp; omega
    have n3 : (k == 3) = false := by simp; omega
    have n4 : (k == 4) = false := by simp; omega
    have n5 : (k == 5) = false := by simp; omega
    have n6 : (k == 6) = false := by simp; omega
    clear h1 h2 ha
    go_enter Tryz.func119, Tryz.ntmps119
    go_wp2_with fail
    go_ret
    exact ⟨rfl, Grew.refl _⟩

theorem l02Part_c (v : Value) (xs : List Nd) (i : Nat) (w : World) (h : Nodes w v xs) (hn : xs.length ≤ 1099511627776) (hi : i ≤ 1099511627776) :
    Calls Tryz.prog 104 #[v, .int .i64 i] w fun e w' => e = .returned (.int .i64 (pend xs i)) ∧ Grew w w' := by
  rcases h.open_ with ⟨rfl, rfl⟩ | ⟨b, o, c, rfl, hc, hm, hb, hf⟩
  · have hp : pend [] i = -1 := by simp [pend, Fm.scan_nil, pval]
    rw [hp]
    clear hp
    go_enter Tryz.func104, Tryz.ntmps104
    go_wp2_with fail
    refine wp_loop_rounds 1 ?_; rw [rounds_succ]
    go_wp2_with fail
    go_ret
    exact ⟨rfl, Grew.refl _⟩
  · clear h
    obtain ⟨P, hP⟩ : ∃ P, P = pend xs i := ⟨_, rfl⟩
    rw [← hP]
    -- the rest of the scan decides the result
    have hstart : Hid (P = pval i (Fm.scan (xs.drop i) 1)) := hP
    have hstep := fun j o hj => @scan_step xs j o hj
    have HS := Lib.hid hstep
    have HL : Hid (∀ j, xs.length ≤ j → xs.drop j = []) := Lib.hid fun j hj => List.drop_eq_nil_of_le hj
    clear hP hstep
    have HF := Lib.hid hf
    clear hf
    generalize hN : xs.length = n at *
    clear hN
    go_enter Tryz.func104, Tryz.ntmps104
    go_wp2_with fail
    go_loopg [1, 5] (n + 1 - i) (fun k x y wr => ∃ j op : Nat, x = .int .i64 j ∧ y = .int .i64 op ∧ Grew w wr ∧ i ≤ j ∧ op ≤ j - i + 1 ∧ k = n + 1 - j ∧ j ≤ i + n ∧ Hid (P = pval j (Fm.scan (xs.drop j) op)))
    case atStart => exact ⟨i, 1, rfl, rfl, Grew.refl _, Nat.le_refl _, by omega, rfl, by omega, hstart⟩
    case round =>
      obtain ⟨j, op, rfl, rfl, hB, hij, hop, rfl, hjn, HP⟩ := hrel
      by_cases hz : op = 0
      · subst hz
        have hv : Hid (P = (j : Int)) := Lib.hid (by rw [HP.out, Fm.scan_zero]; simp [pval])
        clear HP
        go_wp2_with fail
        go_ret
        rw [hv.out]
        exact ⟨rfl, hB⟩
      · obtain ⟨q, rfl⟩ : ∃ q, op = q + 1 := ⟨op - 1, by omega⟩
        by_cases hlt : j < n
        · have k1 : ∀ W, Grew w W → W.cell? ⟨b, o + j * 2, none⟩ = some (.int .i64 (kd xs j)) := fun W hW => (HF.out j hlt W hW).1
          have hv : Hid (P = pval (j + 1) (Fm.scan (xs.drop (j + 1)) (q + Fm.arity (kd xs j)))) := Lib.hid (by rw [HP.out, HS.out j q hlt, pval_succ])
          have har := Fm.arity_le (kd xs j)
          clear HP hz
          go_wp2_with fail
          refine (l02Parts_c _ _).mono ?_
          rintro e w1 ⟨rfl, hg1⟩
          generalize Fm.arity (kd xs j) = ar at *
          go_wp2_with fail
          go_roundg (n + 1 - (j + 1))
          case measure => omega
          case rel => exact ⟨j + 1, q + ar, by go_num, by go_num, hB.trans hg1, by omega, by omega, rfl, by omega, hv⟩
        · have hv : Hid (P = -1) := Lib.hid (by rw [HP.out, HL.out j (by omega), Fm.scan_nil]; rfl)
          clear HP
          go_wp2_with fail
          go_ret
          rw [hv.out]
          exact ⟨rfl, hB⟩

theorem cells_drop (xs : List Nd) : ∀ i, cells (xs.drop i) = (cells xs).drop (i * 2) := by
  induction xs with
  | nil => intro i; simp [cells]
  | cons x xs ih =>
    intro i
    cases i with
    | zero => simp
    | succ i =>
      rw [List.drop_succ_cons, ih, cells_cons, show (i + 1) * 2 = i * 2 + 1 + 1 by omega]
      rfl
theorem cells_take (xs : List Nd) : ∀ i, cells (xs.take i) = (cells xs).take (i * 2) := by
  induction xs with
  | nil => intro i; simp [cells]
  | cons x xs ih =>
    intro i
    cases i with
    | zero => simp [cells]
    | succ i =>
      rw [List.take_succ_cons, cells_cons, ih, cells_cons, show (i + 1) * 2 = i * 2 + 1 + 1 by omega]
      rfl
/-- A cut of a slice of nodes. -/
theorem Nodes.sub {w : World} {b o n c : Nat} {xs : List Nd} (h : Nodes w (.slice (some ⟨b, o, none⟩) n c) xs) (i m c' : Nat) (him : i + m ≤ xs.length) (hc : m ≤ c') (hc' : c' ≤ 9223372036854775807) :
    Nodes w (.slice (some ⟨b, o + i * 2, none⟩) m c') ((xs.drop i).take m) := by
  obtain ⟨h1, h2, h3⟩ := h
  have hl : ((xs.drop i).take m).length = m := by simp; omega
  refine ⟨cells_length _, by omega, .inr ?_⟩
  rcases h3 with ⟨h4, _⟩ | ⟨b', o', c0, h4, h5, h6, h7, h8⟩
  · cases h4
  · simp only [Value.slice.injEq, Option.some.injEq, Addr.mk.injEq, and_true] at h4
    obtain ⟨⟨rfl, rfl⟩, rfl, rfl⟩ := h4
    refine ⟨b, o + i * 2, c', by rw [hl], by omega, hc', h7, fun j u hu => ?_⟩
    rw [cells_take, List.getElem?_take] at hu
    split at hu
    · rw [cells_drop, List.getElem?_drop] at hu
      have := h8 _ _ hu
      rw [show o + i * 2 + j = o + (i * 2 + j) by omega]
      exact this
    · cases hu

/-- A list that stands in another one from i on. -/
def At (xs : List Nd) (i : Nat) (t : Tree) : Prop := ∃ rest, xs.drop i = Fm.enc t ++ rest
theorem At.pend {xs : List Nd} {i : Nat} {t : Tree} (h : At xs i t) : pend xs i = (i : Int) + (Fm.enc t).length := by
  obtain ⟨rest, h⟩ := h
  rw [Go.Proofs.YtdndclfjeajhiaaGreat.pend, h, Fm.scan_one]; rfl
theorem At.take {xs : List Nd} {i : Nat} {t : Tree} (h : At xs i t) : (xs.drop i).take (Fm.enc t).length = Fm.enc t := by
  obtain ⟨rest, h⟩ := h
  rw [h, List.take_left']; rfl
theorem At.le {xs : List Nd} {i : Nat} {t : Tree} (h : At xs i t) : i + (Fm.enc t).length ≤ xs.length := by
  obtain ⟨rest, h⟩ := h
  have h1 := congrArg List.length h
  have h2 := Fm.enc_pos t
  simp only [List.length_drop, List.length_append] at h1
  omega

/-- The call returns a slice that reads as the list, and changes nothing. -/
def Cuts (w : World) (xs : List Nd) (e : Ending) (w' : World) : Prop := ∃ v, e = .returned v ∧ Nodes w' v xs ∧ Grew w w'

theorem partEnd_at (v : Value) (xs : List Nd) (i : Nat) (t : Tree) (w : World) (h : Nodes w v xs) (hn : xs.length ≤ 1099511627776) (ht : At xs i t) :
    Calls Tryz.prog 139 #[v, .int .i64 i] w fun e w' => e = .returned (.int .i64 ((i : Int) + (Fm.enc t).length)) ∧ Grew w w' := by
  have := partEnd_c v xs i w h hn (by have := ht.le; omega)
  rw [ht.pend] at this
  exact this
theorem l02Part_at (v : Value) (xs : List Nd) (i : Nat) (t : Tree) (w : World) (h : Nodes w v xs) (hn : xs.length ≤ 1099511627776) (ht : At xs i t) :
    Calls Tryz.prog 104 #[v, .int .i64 i] w fun e w' => e = .returned (.int .i64 ((i : Int) + (Fm.enc t).length)) ∧ Grew w w' := by
  have := l02Part_c v xs i w h hn (by have := ht.le; omega)
  rw [ht.pend] at this
  exact this

theorem part_c (v : Value) (xs : List Nd) (i : Nat) (t : Tree) (w : World) (h : Nodes w v xs) (hn : xs.length ≤ 1099511627776) (ht : At xs i t) :
    Calls Tryz.prog 138 #[v, .int .i64 i] w (Cuts w (Fm.enc t)) := by
  have hle := ht.le
  have hpos := Fm.enc_pos t
  rcases h.open_ with ⟨rfl, rfl⟩ | ⟨b, o, c, rfl, hc, hm, hb, hf⟩
  · simp only [List.length_nil] at hle; omega
  · have hsub := h.sub i (Fm.enc t).length (Fm.enc t).length hle (Nat.le_refl _) (by omega)
    rw [ht.take] at hsub
    have HH := Lib.hid h
    have HS := Lib.hid hsub
    have HT := Lib.hid ht
    clear h hf hsub ht
    go_enter Tryz.func138, Tryz.ntmps138
    go_wp2_with fail
    refine (partEnd_at _ xs i t _ HH.out hn HT.out).mono ?_
    rintro e w1 ⟨rfl, hg1⟩
    go_wp2_with fail
    refine (partEnd_at _ xs i t _ (HH.out.grew hg1) hn HT.out).mono ?_
    rintro e w2 ⟨rfl, hg2⟩
    go_wp2_with fail
    go_ret
    refine ⟨_, rfl, ?_, hg1.trans hg2⟩
    rw [Nat.add_sub_cancel_left]
    exact HS.out.grew (hg1.trans hg2)

/-- The kind of the first node. -/
def kindOf : Tree → Int
  | .var _ => 0
  | .fls => 1
  | .and _ _ => 2
  | .or _ _ => 3
  | .imp _ _ => 4
  | .box _ => 5
  | .dia _ => 6

theorem kd_enc (t : Tree) : kd (Fm.enc t) 0 = kindOf t := by cases t <;> rfl
theorem isF_kind (t : Tree) : Fm.isF t = (kindOf t == 1) := by cases t <;> rfl

/-- Is the formula a negation? -/
def isNeg : Tree → Bool
  | .imp _ b => Fm.isF b
  | _ => false

theorem at_first {xs : List Nd} {k : Nd} {a : Tree} {rest : List Nd} (h : xs = k :: (Fm.enc a ++ rest)) : At xs 1 a := ⟨rest, by rw [h]; rfl⟩
theorem at_second {xs : List Nd} {k : Nd} {a b : Tree} (h : xs = k :: (Fm.enc a ++ Fm.enc b)) : At xs (1 + (Fm.enc a).length) b :=
  ⟨[], by rw [h, Nat.add_comm, List.drop_succ_cons, List.drop_left', List.append_nil]; rfl⟩

/-- The call returns the text and changes nothing. -/
def Says (w : World) (s : List UInt8) (e : Ending) (w' : World) : Prop := e = .returned (.string (bs s)) ∧ Grew w w'

theorem nodes_head {w : World} {v : Value} {t : Tree} (h : Nodes w v (Fm.enc t)) : ∃ b o c, v = .slice (some ⟨b, o, none⟩) (Fm.enc t).length c ∧ (Fm.enc t).length ≤ c ∧ c ≤ 9223372036854775807 ∧ ∀ W, Grew w W → W.cell? ⟨b, o, none⟩ = some (.int .i64 (kindOf t)) := by
  have hpos := Fm.enc_pos t
  rcases h.open_ with ⟨rfl, h0⟩ | ⟨b, o, c, rfl, hc, hm, hb, hf⟩
  · rw [h0] at hpos; simp at hpos
  · refine ⟨b, o, c, rfl, hc, hm, fun W hW => ?_⟩
    have := (hf 0 (by omega) W hW).1
    rw [kd_enc] at this
    simpa using this

theorem letter_cut {q : Nat} (h : q < 6) : ByteArray.extract ⟨#[112, 113, 114, 115, 116, 117]⟩ q (q + 1) = bs [UInt8.ofNat (112 + q)] := by
  have h6 : q = 0 ∨ q = 1 ∨ q = 2 ∨ q = 3 ∨ q = 4 ∨ q = 5 := by omega
  rcases h6 with rfl | rfl | rfl | rfl | rfl | rfl <;> decide
end Go.Proofs.YtdndclfjeajhiaaGreat

/- Two lists of nodes that agree as far as k. -/
namespace Go.Proofs.YtdndclfjeajhiaaGreat
open Go.RowKit
open Fm (Nd)

/-- Two lists that agree as far as k. -/
def Agree (xs ys : List Nd) (k : Nat) : Prop := ∀ i, i < k → kd xs i = kd ys i ∧ sy xs i = sy ys i
theorem Agree.zero (xs ys : List Nd) : Agree xs ys 0 := fun i hi => absurd hi (by omega)
theorem Agree.succ {xs ys : List Nd} {k : Nat} (h : Agree xs ys k) (h1 : kd xs k = kd ys k) (h2 : sy xs k = sy ys k) : Agree xs ys (k + 1) := by
  intro i hi
  rcases Nat.lt_or_ge i k with hk | hk
  · exact h i hk
  · obtain rfl : i = k := by omega
    exact ⟨h1, h2⟩
end Go.Proofs.YtdndclfjeajhiaaGreat

/- The reference's l02Equal on lists of nodes. -/
namespace Go.Proofs.YtdndclfjeajhiaaGreat
open Go.RowKit
open Fm (Nd)

theorem agree_all {xs ys : List Nd} (hl : xs.length = ys.length) (h : Agree xs ys xs.length) : xs = ys := nd_ext hl h

theorem l02Equal_c (v1 v2 : Value) (xs ys : List Nd) (w : World) (h1 : Nodes w v1 xs) (h2 : Nodes w v2 ys) (hn : xs.length ≤ 1099511627776) :
    Calls Tryz.prog 117 #[v1, v2] w fun e w' => e = .returned (.bool (decide (xs = ys))) ∧ Grew w w' := by
  by_cases hl : xs.length = ys.length
  · rcases h1.open_ with ⟨rfl, rfl⟩ | ⟨b1, o1, c1, rfl, hc1, hm1, hb1, hf⟩
    · obtain rfl : ys = [] := List.eq_nil_of_length_eq_zero (by simpa using hl.symm)
      obtain ⟨A, c, rfl⟩ := nodes_slice h2
      simp only [List.length_nil]
      clear hl
      go_enter Tryz.func117, Tryz.ntmps117
      go_wp2_with fail
      refine wp_loop_rounds 1 ?_; rw [rounds_succ]
      go_wp2_with fail
      go_ret
      exact ⟨by simp, Grew.refl _⟩
    · rcases h2.open_ with ⟨rfl, rfl⟩ | ⟨b2, o2, c2, rfl, hc2, hm2, hb2, hh⟩
      · obtain rfl : xs = [] := List.eq_nil_of_length_eq_zero (by simpa using hl)
        simp only [List.length_nil]
        clear hl
        go_enter Tryz.func117, Tryz.ntmps117
        go_wp2_with fail
        refine wp_loop_rounds 1 ?_; rw [rounds_succ]
        go_wp2_with fail
        go_ret
        exact ⟨by simp, Grew.refl _⟩
      · clear h1 h2
        have HE := Lib.hid (fun h => agree_all hl h)
        rw [← hl] at hc2 hh ⊢
        have HF := Lib.hid hf
        have HH := Lib.hid hh
        have HX := Lib.hid (fun (h : xs = ys) (i : Nat) => (⟨by rw [h], by rw [h]⟩ : kd xs i = kd ys i ∧ sy xs i = sy ys i))
        obtain ⟨D, hD⟩ : ∃ D, D = decide (xs = ys) := ⟨_, rfl⟩
        rw [← hD]
        have HD := Lib.hid hD
        clear hl hf hh hD
        generalize hN : xs.length = n at *
        clear hN
        go_enter Tryz.func117, Tryz.ntmps117
        go_wp2_with fail
        go_loopg [5] n (fun k i wr => ∃ j : Nat, j ≤ n ∧ k = n - j ∧ i = .int .i64 j ∧ Grew w wr ∧ Hid (Agree xs ys j))
        case atStart => exact ⟨0, Nat.zero_le _, by omega, rfl, Grew.refl _, Agree.zero _ _⟩
        case round =>
          obtain ⟨j, hj, rfl, rfl, hB, HA⟩ := hrel
          by_cases hlt : j < n
          · have k1 : ∀ W, Grew w W → W.cell? ⟨b1, o1 + j * 2, none⟩ = some (.int .i64 (kd xs j)) := fun W hW => (HF.out j hlt W hW).1
            have k2 : ∀ W, Grew w W → W.cell? ⟨b1, o1 + j * 2 + 1, none⟩ = some (.int .i64 (sy xs j)) := fun W hW => (HF.out j hlt W hW).2
            have k3 : ∀ W, Grew w W → W.cell? ⟨b2, o2 + j * 2, none⟩ = some (.int .i64 (kd ys j)) := fun W hW => (HH.out j hlt W hW).1
            have k4 : ∀ W, Grew w W → W.cell? ⟨b2, o2 + j * 2 + 1, none⟩ = some (.int .i64 (sy ys j)) := fun W hW => (HH.out j hlt W hW).2
            have hgd := Tryz.ndGuard
            by_cases he : kd xs j = kd ys j ∧ sy xs j = sy ys j
            · have hq : ∀ W, (binOp .neq 101 (.agg #[.int .i64 (kd xs j), .int .i64 (sy xs j)]) (.agg #[.int .i64 (kd ys j), .int .i64 (sy ys j)])).run Tryz.prog W = .ok (.bool false) W := fun W => by
                rw [Tryz.ndNeq, he.1, he.2]; simp
              have HB := Lib.hid (HA.out.succ he.1 he.2)
              clear he HA
              go_wp2_with fail
              go_quiet (fail)
              go_wp2_with fail
              go_roundg (n - (j + 1))
              case measure => omega
              case rel => exact ⟨j + 1, by omega, rfl, by go_num, hB.drewN _, HB⟩
            · have hq : ∀ W, (binOp .neq 101 (.agg #[.int .i64 (kd xs j), .int .i64 (sy xs j)]) (.agg #[.int .i64 (kd ys j), .int .i64 (sy ys j)])).run Tryz.prog W = .ok (.bool true) W := fun W => by
                have hz : (kd xs j == kd ys j && sy xs j == sy ys j) = false := by
                  cases hz : (kd xs j == kd ys j && sy xs j == sy ys j) with
                  | false => rfl
                  | true => simp at hz; exact absurd hz he
                rw [Tryz.ndNeq, hz]
                simp
              have hv : Hid (D = false) := Lib.hid (by rw [HD.out]; exact decide_eq_false fun h => he (HX.out h j))
              clear he HA
              go_wp2_with fail
              go_quiet (fail)
              go_wp2_with fail
              go_ret
              rw [hv.out]
              exact ⟨rfl, hB.drewN _⟩
          · have hjn : j = n := by omega
            subst hjn
            have hv : Hid (D = true) := Lib.hid (by rw [HD.out]; exact decide_eq_true (HE.out HA.out))
            go_wp2_with fail
            go_ret
            rw [hv.out]
            exact ⟨rfl, hB⟩
  · have hne : xs ≠ ys := fun h => hl (by rw [h])
    rw [decide_eq_false hne]
    obtain ⟨A, c, rfl⟩ := nodes_slice h1
    obtain ⟨B, d, rfl⟩ := nodes_slice h2
    have hl' : (((xs.length : Nat) : Int) != ((ys.length : Nat) : Int)) = true := by simp; omega
    clear hl h1 h2 hne
    go_enter Tryz.func117, Tryz.ntmps117
    go_wp2_with fail
    go_ret
    exact ⟨rfl, Grew.refl _⟩
end Go.Proofs.YtdndclfjeajhiaaGreat
