/- Texts in one file: Base Parse0 Nodes Src Lit Parse1 Tree Draw Own Any From Cont Round Part Range IsF PartP Text FormT IsS FmTree Agree Equal Same Write TxW Join TakeP. -/
import Derived.WalkKit
import Derived.WalkSpells
import Derived.WalkLawsBesides
import Derived.Lib.Hide
import Derived.Deep.Draws
import Derived.Deep.AppendLies
import Derived.Maps.AppendAt
import Derived.Lib.AppendZerosOnto
import Derived.Test.YthdffenpgkbjkaaProg
import Derived.Deep.QuietTactic
import Derived.BigQuiet
import Derived.Deep.RegionHeld3
import Derived.Outline
import Derived.Conc.WgArith
import Derived.Laws.Bits64
import Derived.Deep.RegionLaw
import Derived.OwnWalk
import Derived.StillTailTactics
import Derived.BigRegion
import Derived.Deep.LoopGhost
import Derived.Shelf.Abstract
set_option linter.all false

/- Words for memory: what a call leaves as it was, a slice that reads as a row of cells, an append onto a row of the call's own. No program is in sight. -/
namespace Go.Proofs.Ythdffenpgkbjkaa
open Go.RowKit

/-- Nothing that was there has changed; there may be new blocks. -/
def Grew (a b : World) : Prop := Below a.heap.size a b
theorem Grew.refl (w : World) : Grew w w := Below.refl _ _
theorem Grew.size {a b : World} (h : Grew a b) : a.heap.size ≤ b.heap.size := Below.size h
theorem Grew.trans {a b c : World} (h : Grew a b) (k : Grew b c) : Grew a c := Below.trans h (Below.mono k (Below.size h))
theorem Grew.drew {a b : World} (h : Grew a b) : Grew a b.drew := Below.drew h
theorem Grew.drewN {a b : World} (h : Grew a b) (n : Nat) : Grew a (b.drewN n) := ⟨h.os, h.tape, h.output, h.size, h.block⟩
theorem Grew.alloc {a b : World} (h : Grew a b) (o : Obj) : Grew a (b.alloc o) := Below.alloc h (Below.size h) o
theorem Grew.of_drew {a b : World} (h : Grew a.drew b) : Grew a b := ⟨h.os, h.tape, h.output, h.size, h.block⟩
theorem Grew.of_drewN {a b : World} {n : Nat} (h : Grew (a.drewN n) b) : Grew a b := ⟨h.os, h.tape, h.output, h.size, h.block⟩
theorem Grew.of_alloc {a b : World} {o : Obj} (h : Grew (a.alloc o) b) : Grew a b := ((Grew.refl a).alloc o).trans h
theorem Grew.setCell {a b : World} (h : Grew a b) {p : Addr} (hp : a.heap.size ≤ p.block) (u : Value) : Grew a (b.setCell p u) := Below.setCell h hp u
theorem Grew.cell {a b : World} (h : Grew a b) {p : Addr} (hp : p.block < a.heap.size) : b.cell? p = a.cell? p := Below.cell h hp
theorem Grew.block {a b : World} (h : Grew a b) {k : Nat} (hp : k < a.heap.size) : b.heap[k]? = a.heap[k]? := Below.block h k hp
theorem Grew.grown {a b c : World} {row : Option Nat} (h : Grew a b) (hg : b.grownBy c row) (hr : ∀ k, row = some k → a.heap.size ≤ k) : Grew a c := Below.grown h hg (Below.size h) hr
theorem Grew.by_ {a b : World} (h : Grew a b) (row : Option Nat) : a.grownBy b row := ⟨h.os, h.tape, h.output, h.size, fun _ hi _ => h.block hi⟩
theorem Grew.below {a b : World} (h : Grew a b) : Below a.heap.size a b := h

/-- Of what was there block g alone may have changed. -/
def Only (g : Nat) (a b : World) : Prop := a.grownBy b (some g)
theorem Only.refl (g : Nat) (w : World) : Only g w w := World.grownBy.refl w _
theorem Only.size {g : Nat} {a b : World} (h : Only g a b) : a.heap.size ≤ b.heap.size := World.grownBy.size h
theorem Only.trans {g : Nat} {a b c : World} (h : Only g a b) (k : Only g b c) : Only g a c := World.grownBy.trans h k
theorem Only.drew {g : Nat} {a b : World} (h : Only g a b) : Only g a b.drew := ⟨h.os, h.tape, h.output, h.size, h.block⟩
theorem Only.drewN {g : Nat} {a b : World} (h : Only g a b) (n : Nat) : Only g a (b.drewN n) := ⟨h.os, h.tape, h.output, h.size, h.block⟩
theorem Grew.only {g : Nat} {a b : World} (h : Grew a b) : Only g a b := h.by_ _
theorem Only.grew {g : Nat} {a b c : World} (h : Only g a b) (k : Grew b c) : Only g a c := Only.trans h k.only
theorem Only.alloc {g : Nat} {a b : World} (h : Only g a b) (o : Obj) : Only g a (b.alloc o) := h.grew ((Grew.refl b).alloc o)
theorem Only.setCell {g o : Nat} {a b : World} (h : Only g a b) (u : Value) : Only g a (b.setCell ⟨g, o, none⟩ u) :=
  ⟨h.os, h.tape, h.output, by simpa [World.setCell] using h.size, fun _ hi hne => (Below.heap_setCell b ⟨g, o, none⟩ u _ (by rintro rfl; exact hne rfl)).trans (World.grownBy.block h _ hi hne)⟩
theorem Only.block {g : Nat} {a b : World} (h : Only g a b) {k : Nat} (hk : k < a.heap.size) (hne : k ≠ g) : b.heap[k]? = a.heap[k]? :=
  World.grownBy.block h k hk (fun e => hne (by injection e))
theorem Only.cell {g : Nat} {a b : World} (h : Only g a b) {p : Addr} (hk : p.block < a.heap.size) (hne : p.block ≠ g) : b.cell? p = a.cell? p :=
  World.cell?_of_block (h.block hk hne)
/-- Where the block is newer than a, nothing of a has changed. -/
theorem Only.grew_of {g : Nat} {a b c : World} (h : Only g b c) (k : Grew a b) (hg : a.heap.size ≤ g) : Grew a c :=
  ⟨h.os.trans k.os, h.tape.trans k.tape, h.output.trans k.output, Nat.le_trans k.size h.size, fun i hi => (h.block (Nat.lt_of_lt_of_le hi k.size) (by omega)).trans (k.block hi)⟩

/-- The slice value v has n elements of k cells each, which hold xs. -/
def Rd (w : World) (k : Nat) (v : Value) (n : Nat) (xs : List Value) : Prop :=
  xs.length = n * k ∧ n ≤ 9223372036854775807 ∧
  ((v = .slice none 0 0 ∧ n = 0) ∨ ∃ b o c, v = .slice (some ⟨b, o, none⟩) n c ∧ n ≤ c ∧ c ≤ 9223372036854775807 ∧ b < w.heap.size ∧ ∀ j u, xs[j]? = some u → w.cell? ⟨b, o + j, none⟩ = some u)

theorem Rd.grew {w w' : World} {k n : Nat} {v : Value} {xs : List Value} (h : Rd w k v n xs) (hb : Grew w w') : Rd w' k v n xs := by
  obtain ⟨h1, h2, h3⟩ := h
  refine ⟨h1, h2, ?_⟩
  rcases h3 with h3 | ⟨b, o, c, rfl, h4, h5, h6, h7⟩
  · exact .inl h3
  · exact .inr ⟨b, o, c, rfl, h4, h5, Nat.lt_of_lt_of_le h6 hb.size, fun j u hu => (hb.cell (p := ⟨b, o + j, none⟩) h6).trans (h7 j u hu)⟩

theorem Rd.nil_ (w : World) (k : Nat) : Rd w k (.slice none 0 0) 0 [] := ⟨by simp, by omega, .inl ⟨rfl, rfl⟩⟩

theorem Rd.of_own {w : World} {base : Nat} {e : TypeId} {k n : Nat} {v : Value} {xs : List Value} (h : w.ownsRow base e k v n xs) : Rd w k v n xs := by
  obtain ⟨h1, h2⟩ := h
  rcases h2 with ⟨rfl, rfl⟩ | ⟨g, cap, cur, rfl, hb, hg, hnc, hcm, hcs, ht⟩
  · exact ⟨h1, by omega, .inl ⟨rfl, rfl⟩⟩
  · refine ⟨h1, Nat.le_trans hnc hcm, .inr ⟨g, 0, cap, rfl, hnc, hcm, (Array.getElem?_eq_some_iff.1 hg).1, fun j u hu => ?_⟩⟩
    rw [Nat.zero_add, cell_of_row w g j cur e (0, 0) hg]
    rw [← ht, List.getElem?_take] at hu
    split at hu
    · simpa using hu
    · cases hu

/-- An append of what reads as a row, nil or not, onto a row of the call's own. -/
theorem wpList_append_rd {P : Program} (w : World) {ops : Array Oper} {rest : List Oper} {o : Oper} {a : Act} {Q : Exit → Act → World → Prop} (hgd : o.guard = none) (s x : Operand) (t : TypeId)
    (ho : o.op = .call { callee := .builtin .append, args := #[s, x], argTypes := #[t, t] })
    (base : Nat) (e : TypeId) (i : TypeInfo) (z : Value) (size bytes : Nat) (ht : P.underlying t = some (.slice e)) (hi : P.info? e = some i) (hz : i.zero = some z)
    (hsize : i.size = size) (hby : i.bytes = bytes) (hzs : z.cells.size = size) (hsz : 0 < size)
    (v : Value) (n : Nat) (xs : List Value) (hs : a.eval s = v) (hown : w.ownsRow base e size v n xs)
    (vx : Value) (m : Nat) (news : List Value) (hx : a.eval x = vx) (hr : Rd w size vx m news) (h1 : ∀ u ∈ news, u.oneCell' = true)
    (h63 : n + m ≤ maxLen) (hbytes : (n + m) * bytes ≤ 140737488355328) (hbase : base ≤ w.heap.size)
    (h : ∀ v' w', w'.ownsRow base e size v' (n + m) (xs ++ news) → w.grownBy w' v.ownBlock → (v'.ownBlock = v.ownBlock ∨ v'.ownBlock = some w.heap.size) → wpList P ops Q rest (a.put o.dst v') w') :
    wpList P ops Q (o :: rest) a w := by
  obtain ⟨hl, _, hr⟩ := hr
  rcases hr with ⟨rfl, rfl⟩ | ⟨b, of, c, rfl, _, _, _, hc⟩
  · have hnews : news = [] := List.eq_nil_of_length_eq_zero (by simpa using hl)
    subst hnews
    refine wpList_plain hgd fun K hK => ?_
    have hrun := run_append_owned_none (P := P) w base t o.type e i size ht hi v n xs hown
    unfold Oper.wp execOp
    simp only [ho, resolve, invoke, builtin, Sem.run_bind, Sem.run_pure, Result.andThen_ok, List.map_toArray, List.map_cons, List.map_nil, hs, hx, hrun]
    exact hK _ _ (h v w (by simpa using hown) (World.grownBy.refl _ _) (.inl rfl))
  · exact wpList_append_own_at w hgd s x t ho base e i z size bytes ht hi hz hsize hby hzs hsz v n xs hs hown ⟨b, of, none⟩ m c news hx hl (fun j u hu => by rw [Addr.add_lit]; exact hc j u hu) h1 h63 hbytes hbase fun v' w' h2 h3 _ h4 => h v' w' h2 h3 h4

/-- Of a row of the call's own nothing turns while another block is written. -/
theorem own_only {w w' : World} {base : Nat} {e : TypeId} {k n g : Nat} {v : Value} {xs : List Value} (h : w.ownsRow base e k v n xs) (hb : Only g w w') (hne : v.ownBlock ≠ some g) : w'.ownsRow base e k v n xs :=
  h.kept hb (.inr hne)
theorem own_grew {w w' : World} {base : Nat} {e : TypeId} {k n : Nat} {v : Value} {xs : List Value} (h : w.ownsRow base e k v n xs) (hb : Grew w w') : w'.ownsRow base e k v n xs :=
  h.kept (row := none) (hb.by_ _) (by cases hv : v.ownBlock <;> simp)
theorem own_base {w : World} {base base' : Nat} {e : TypeId} {k n : Nat} {v : Value} {xs : List Value} (h : w.ownsRow base e k v n xs) (hb : base' ≤ base) : w.ownsRow base' e k v n xs := by
  obtain ⟨h1, h2⟩ := h
  refine ⟨h1, ?_⟩
  rcases h2 with h2 | ⟨g, cap, cur, h3, h4, h5⟩
  · exact .inl h2
  · exact .inr ⟨g, cap, cur, h3, by omega, h5⟩
/-- A row of the call's own is no block of another element type. -/
theorem own_ne {w : World} {base : Nat} {e e' : TypeId} {k n g : Nat} {v : Value} {xs : List Value} {cs : Array Value} (h : w.ownsRow base e k v n xs) (hg : w.heap[g]? = some (.cells cs e' (0, 0))) (hne : e ≠ e') : v.ownBlock ≠ some g := by
  rcases h.2 with ⟨rfl, _⟩ | ⟨g', cap, cur, rfl, _, hh, _⟩
  · simp [Value.ownBlock]
  · intro he
    have : g' = g := by simpa [Value.ownBlock] using he
    subst this
    rw [hh] at hg
    injection hg with hg
    injection hg with _ ht
    exact hne ht
theorem own_of_ge {w : World} {base g : Nat} {e : TypeId} {k n : Nat} {v : Value} {xs : List Value} (h : w.ownsRow base e k v n xs) (hv : v.ownBlock = some g) : base ≤ g := (h.lt g hv).1
/-- Two rows of the call's own, one newer than the other's world. -/
theorem own_new_ne {w w' : World} {base : Nat} {e e' : TypeId} {k n k' n' : Nat} {v v' : Value} {xs xs' : List Value} (h : w.ownsRow base e k v n xs) (h' : w'.ownsRow w.heap.size e' k' v' n' xs') (g : Nat) (hg : v'.ownBlock = some g) : v.ownBlock ≠ some g := by
  intro hv
  have h1 := (h.lt g hv).2
  have h2 := (h'.lt g hg).1
  omega

/-- A store into a block that is known whole. -/
theorem blk_set {w : World} {g : Nat} {t : TypeId} {cs : Array Value} (h : w.heap[g]? = some (.cells cs t (0, 0))) (i : Nat) (u : Value) : (w.setCell ⟨g, i, none⟩ u).heap[g]? = some (.cells (cs.setIfInBounds i u) t (0, 0)) := by
  simp [World.setCell, Array.getElem?_modify, h]
theorem blk_frozen {w : World} {g : Nat} {t : TypeId} {cs : Array Value} (h : w.heap[g]? = some (.cells cs t (0, 0))) (i : Nat) : w.frozen? ⟨g, i, none⟩ = false := by simp [World.frozen?, h]
theorem blk_cell {w : World} {g : Nat} {t : TypeId} {cs : Array Value} (h : w.heap[g]? = some (.cells cs t (0, 0))) (i : Nat) : w.cell? ⟨g, i, none⟩ = cs[i]? := cell_of_row w g i cs t (0, 0) h
theorem blk_lt {w : World} {g : Nat} {o : Obj} (h : w.heap[g]? = some o) : g < w.heap.size := (Array.getElem?_eq_some_iff.1 h).1
theorem blk_new (w : World) (o : Obj) : (w.alloc o).heap[w.heap.size]? = some o := heap_alloc_new w o
/-- Two cells of an array are written: the pairs below stay, the new pair stands there. -/
theorem pair_step {cur : Array Value} {F G : Nat → Value} {j : Nat} (hs : j * 2 + 1 < cur.size) (h : ∀ i, i < j → cur[i * 2]? = some (F i) ∧ cur[i * 2 + 1]? = some (G i)) :
    ∀ i, i < j + 1 → ((cur.setIfInBounds (j * 2) (F j)).setIfInBounds (j * 2 + 1) (G j))[i * 2]? = some (F i) ∧ ((cur.setIfInBounds (j * 2) (F j)).setIfInBounds (j * 2 + 1) (G j))[i * 2 + 1]? = some (G i) := by
  intro i hi
  simp only [Array.getElem?_setIfInBounds, Array.size_setIfInBounds]
  rcases Nat.lt_or_ge i j with hk | hk
  · rw [if_neg (by omega), if_neg (by omega), if_neg (by omega), if_neg (by omega)]
    exact h i hk
  · obtain rfl : i = j := by omega
    rw [if_neg (by omega), if_pos rfl, if_pos (by omega), if_pos rfl, if_pos (by omega)]
    exact ⟨rfl, rfl⟩

/-- 'append([]T(nil), make([]T, n)...)', n not 0. -/
theorem run_grow_nil {P : Program} (w : World) (t tn ty e : TypeId) (i : TypeInfo) (z : Value) (size : Nat) (ht : P.underlying t = some (.slice e)) (htn : P.underlying tn = some (.int .i64)) (hi : P.info? e = some i) (hz : i.zero = some z) (hsize : i.size = size) (hzs : z.cells.size = size) (hs : 0 < size)
    (n : Nat) (h0 : 0 < n) (hb : n * i.bytes ≤ 140737488355328) (h63 : n ≤ 4611686018427387904) :
    ∃ G cs, n ≤ G ∧ G ≤ 9223372036854775807 ∧ cs.size = G * size ∧ (Builtin.append_ #[t, tn] ty #[.slice none 0 0, .int .i64 n]).run P w = .ok (.slice (some ⟨w.heap.size, 0, none⟩) n G) (w.drew.alloc (.cells cs e)) := by
  have h := Lib.run_append_grow_zeros (P := P) w t tn ty e i z .i64 .i64 ht htn hi hz none 0 0 [] (run_firstCells_none w.drew i.size 0 0 0) n h0 (by omega) (by omega) (by omega) (by omega) (by
    have := growslice_fits (need := 0 + n) (old := 0) (bytes := i.bytes) (by omega) (by simpa using hb)
    exact this)
  simp only [Nat.zero_add] at h
  have hge := grownCap_ge w n 0 e
  have hle := grownCap_le_maxLen w n 0 e (by unfold maxLen; omega)
  unfold maxLen at hle
  refine ⟨_, _, hge, hle, ?_, h⟩
  simp only [Array.size_append, size_zeroCells, hzs, List.size_toArray, List.length_nil, Nat.zero_add, ← Nat.add_mul]
  congr 1
  omega

end Go.Proofs.Ythdffenpgkbjkaa

/- The parser of formulas as a plain function on lists of bytes. No program is in sight. -/
namespace Go.Proofs.Ythdffenpgkbjkaa
namespace Fm

/-- A node: its kind and its symbol. -/
abbrev Nd := Int × Int

def falsum : List Nd := [(1, 0)]
def truth : List Nd := [(4, 0), (1, 0), (1, 0)]
def vari (v : Int) : List Nd := [(0, v)]
def join (k : Int) (a b : List Nd) : List Nd := (k, 0) :: (a ++ b)
def pre (k : Int) (a : List Nd) : List Nd := (k, 0) :: a
def neg (a : List Nd) : List Nd := join 4 a falsum

/-- The state of a reader: the position and whether the byte there cannot follow. -/
abbrev St := Nat × Bool
abbrev Res := List Nd × St

/-- 'take': is the byte next? -/
def sees (s : List UInt8) (st : St) (c : UInt8) : Bool := !st.2 && (s[st.1]? == some c)
def step (st : St) : St := (st.1 + 1, st.2)
def need (s : List UInt8) (st : St) (c : UInt8) : St := if sees s st c then step st else (st.1, true)

/-- 'a = join(kind, a, sub())' as long as the byte is next. -/
def loop (s : List UInt8) (k : Int) (c : UInt8) (sub : St → Res) : Nat → List Nd → St → Res
  | 0, a, st => (a, st)
  | m + 1, a, st => if sees s st c then let r := sub (step st); loop s k c sub m (join k a r.1) r.2 else (a, st)

def andF (s : List UInt8) (m : Nat) (sub : St → Res) (st : St) : Res := let r := sub st; loop s 2 38 sub m r.1 r.2
def orF (s : List UInt8) (m : Nat) (sub : St → Res) (st : St) : Res := let r := andF s m sub st; loop s 3 124 (andF s m sub) m r.1 r.2
def impF (s : List UInt8) (m : Nat) (sub : St → Res) : Nat → St → Res
  | 0, st => orF s m sub st
  | i + 1, st => let r := orF s m sub st; if sees s r.2 62 then let q := impF s m sub i (step r.2); (join 4 r.1 q.1, q.2) else r

/-- The letter that is next, if one of 'pqrstu' is. -/
def letter (s : List UInt8) (st : St) : Option Nat := if st.2 then none else
  match s[st.1]? with
  | some c => if 112 ≤ c.toNat ∧ c.toNat ≤ 117 then some (c.toNat - 112) else none
  | none => none

def preF (s : List UInt8) (m : Nat) : Nat → St → Res
  | 0, st => (falsum, (st.1, true))
  | f + 1, st =>
    if sees s st 126 then let r := preF s m f (step st); (neg r.1, r.2)
    else if sees s st 91 then let r := preF s m f (need s (step st) 93); (pre 5 r.1, r.2)
    else if sees s st 60 then let r := preF s m f (need s (step st) 62); (pre 6 r.1, r.2)
    else if sees s st 70 then (falsum, step st)
    else if sees s st 84 then (truth, step st)
    else if sees s st 40 then let r := impF s m (preF s m f) m (step st); (r.1, need s r.2 41)
    else match letter s st with
      | some v => (vari v, step st)
      | none => (falsum, (st.1, true))

/-- The whole text: with enough fuel. -/
def parse (s : List UInt8) (m : Nat) : Res := impF s m (preF s m m) m (0, false)

end Fm
end Go.Proofs.Ythdffenpgkbjkaa

/- Slices of nodes, as lists of pairs of numbers. -/
namespace Go.Proofs.Ythdffenpgkbjkaa
open Go.RowKit
open Fm (Nd)

def kd (xs : List Nd) (i : Nat) : Int := (xs.getD i (0, 0)).1
def sy (xs : List Nd) (i : Nat) : Int := (xs.getD i (0, 0)).2
def cells (xs : List Nd) : List Value := xs.flatMap fun x => [.int .i64 x.1, .int .i64 x.2]

theorem cells_nil : cells [] = [] := rfl
theorem cells_cons (x : Nd) (xs : List Nd) : cells (x :: xs) = .int .i64 x.1 :: .int .i64 x.2 :: cells xs := rfl
theorem cells_append (xs ys : List Nd) : cells (xs ++ ys) = cells xs ++ cells ys := by simp [cells, List.flatMap_append]
theorem cells_length (xs : List Nd) : (cells xs).length = xs.length * 2 := by
  induction xs with
  | nil => rfl
  | cons x xs ih => rw [cells_cons]; simp [ih]; omega
theorem cells_one (xs : List Nd) : ∀ u ∈ cells xs, u.oneCell' = true := by
  intro u hu
  simp only [cells, List.mem_flatMap] at hu
  obtain ⟨x, _, hx⟩ := hu
  simp at hx
  rcases hx with rfl | rfl <;> rfl
theorem cells_at (xs : List Nd) : ∀ i, i < xs.length → (cells xs)[i * 2]? = some (.int .i64 (kd xs i)) ∧ (cells xs)[i * 2 + 1]? = some (.int .i64 (sy xs i)) := by
  induction xs with
  | nil => intro i hi; simp at hi
  | cons x xs ih =>
    intro i hi
    match i with
    | 0 => exact ⟨rfl, rfl⟩
    | i + 1 =>
      have h := ih i (by simpa using hi)
      rw [cells_cons]
      have e1 : (i + 1) * 2 = i * 2 + 1 + 1 := by omega
      rw [e1]
      simp only [List.getElem?_cons_succ]
      have k1 : kd (x :: xs) (i + 1) = kd xs i := rfl
      have k2 : sy (x :: xs) (i + 1) = sy xs i := rfl
      rw [k1, k2]
      exact h
theorem cells_ext {cs : List Value} {xs : List Nd} (hl : cs.length = xs.length * 2) (h : ∀ i, i < xs.length → cs[i * 2]? = some (.int .i64 (kd xs i)) ∧ cs[i * 2 + 1]? = some (.int .i64 (sy xs i))) : cs = cells xs := by
  apply List.ext_getElem? 
  intro j
  by_cases hj : j < xs.length * 2
  · have hd := Nat.div_add_mod j 2
    have hi : j / 2 < xs.length := by omega
    have h1 := h (j / 2) hi
    have h2 := cells_at xs (j / 2) hi
    rcases Nat.mod_two_eq_zero_or_one j with hm | hm
    · have e : j = j / 2 * 2 := by omega
      rw [e, h1.1, h2.1]
    · have e : j = j / 2 * 2 + 1 := by omega
      rw [e, h1.2, h2.2]
  · rw [List.getElem?_eq_none (by omega), List.getElem?_eq_none (by rw [cells_length]; omega)]
theorem kd_lt {xs : List Nd} {i : Nat} (h : i < xs.length) : xs[i] = (kd xs i, sy xs i) := by
  simp [kd, sy, List.getD, h]
theorem nd_ext {xs ys : List Nd} (hl : xs.length = ys.length) (h : ∀ i, i < xs.length → kd xs i = kd ys i ∧ sy xs i = sy ys i) : xs = ys := by
  apply List.ext_getElem hl
  intro i h1 h2
  rw [kd_lt h1, kd_lt h2, (h i h1).1, (h i h1).2]

/-- The value reads as the list. -/
def Nodes (w : World) (v : Value) (xs : List Nd) : Prop := Rd w 2 v xs.length (cells xs)
/-- The value is a row of the call's own, newer than block B, that holds the list. -/
def Own (w : World) (B : Nat) (v : Value) (xs : List Nd) : Prop := w.ownsRow B 46 2 v xs.length (cells xs)

theorem Nodes.grew {w w' : World} {v : Value} {xs : List Nd} (h : Nodes w v xs) (hb : Grew w w') : Nodes w' v xs := Rd.grew h hb
theorem Nodes.nil_ (w : World) : Nodes w (.slice none 0 0) [] := Rd.nil_ w 2
theorem Own.nodes {w : World} {B : Nat} {v : Value} {xs : List Nd} (h : Own w B v xs) : Nodes w v xs := Rd.of_own h
theorem Own.nil_ (w : World) (B : Nat) : Own w B (.slice none 0 0) [] := World.ownsRow_nil w B _ 2
theorem Own.grew {w w' : World} {B : Nat} {v : Value} {xs : List Nd} (h : Own w B v xs) (hb : Grew w w') : Own w' B v xs := own_grew h hb
theorem Own.only {w w' : World} {B g : Nat} {v : Value} {xs : List Nd} (h : Own w B v xs) (hb : Only g w w') (hne : v.ownBlock ≠ some g) : Own w' B v xs := own_only h hb hne
theorem Own.base {w : World} {B B' : Nat} {v : Value} {xs : List Nd} (h : Own w B v xs) (hb : B' ≤ B) : Own w B' v xs := own_base h hb

theorem Nodes.open_ {w : World} {v : Value} {xs : List Nd} (h : Nodes w v xs) :
    (v = .slice none 0 0 ∧ xs = []) ∨ ∃ b o c, v = .slice (some ⟨b, o, none⟩) xs.length c ∧ xs.length ≤ c ∧ c ≤ 9223372036854775807 ∧ b < w.heap.size ∧
      ∀ i, i < xs.length → ∀ W, Grew w W → W.cell? ⟨b, o + i * 2, none⟩ = some (.int .i64 (kd xs i)) ∧ W.cell? ⟨b, o + i * 2 + 1, none⟩ = some (.int .i64 (sy xs i)) := by
  obtain ⟨_, _, h3⟩ := h
  rcases h3 with ⟨h4, h5⟩ | ⟨b, o, c, h4, h5, h6, h7, h8⟩
  · exact .inl ⟨h4, List.eq_nil_of_length_eq_zero h5⟩
  · refine .inr ⟨b, o, c, h4, h5, h6, h7, fun i hi W hW => ?_⟩
    obtain ⟨k1, k2⟩ := cells_at xs i hi
    exact ⟨(hW.cell (p := ⟨b, o + i * 2, none⟩) h7).trans (h8 _ _ k1), (hW.cell (p := ⟨b, o + i * 2 + 1, none⟩) h7).trans (h8 _ _ k2)⟩
theorem Nodes.len_le {w : World} {v : Value} {xs : List Nd} (h : Nodes w v xs) : xs.length ≤ 9223372036854775807 := h.2.1

/-- A row of the call's own, opened: its block. -/
theorem Own.open_ {w : World} {B : Nat} {v : Value} {xs : List Nd} (h : Own w B v xs) :
    (v = .slice none 0 0 ∧ xs = []) ∨ ∃ g c cur, v = .slice (some ⟨g, 0, none⟩) xs.length c ∧ B ≤ g ∧ g < w.heap.size ∧ w.heap[g]? = some (.cells cur 46 (0, 0)) ∧ xs.length ≤ c ∧ c ≤ 9223372036854775807 ∧ cur.size = c * 2 ∧
      ∀ i, i < xs.length → cur[i * 2]? = some (.int .i64 (kd xs i)) ∧ cur[i * 2 + 1]? = some (.int .i64 (sy xs i)) := by
  obtain ⟨_, h2⟩ := h
  rcases h2 with ⟨rfl, h5⟩ | ⟨g, cap, cur, rfl, hb, hg, hnc, hcm, hcs, ht⟩
  · exact .inl ⟨rfl, List.eq_nil_of_length_eq_zero h5⟩
  · refine .inr ⟨g, cap, cur, rfl, hb, (Array.getElem?_eq_some_iff.1 hg).1, hg, hnc, hcm, hcs, fun i hi => ?_⟩
    obtain ⟨k1, k2⟩ := cells_at xs i hi
    rw [← ht, List.getElem?_take] at k1 k2
    rw [if_pos (by omega)] at k1 k2
    exact ⟨by simpa using k1, by simpa using k2⟩
theorem Own.mk_ {w : World} {B : Nat} {xs : List Nd} {g c : Nat} {cur : Array Value} (hB : B ≤ g) (hg : w.heap[g]? = some (.cells cur 46 (0, 0))) (hnc : xs.length ≤ c) (hcm : c ≤ 9223372036854775807) (hcs : cur.size = c * 2)
    (hc : ∀ i, i < xs.length → cur[i * 2]? = some (.int .i64 (kd xs i)) ∧ cur[i * 2 + 1]? = some (.int .i64 (sy xs i))) : Own w B (.slice (some ⟨g, 0, none⟩) xs.length c) xs := by
  refine ⟨cells_length xs, .inr ⟨g, c, cur, rfl, hB, hg, hnc, hcm, hcs, cells_ext (by simp; omega) fun i hi => ?_⟩⟩
  rw [List.getElem?_take, List.getElem?_take, if_pos (by omega), if_pos (by omega)]
  obtain ⟨k1, k2⟩ := hc i hi
  exact ⟨by simpa using k1, by simpa using k2⟩
/-- A literal of nodes in a new block. -/
theorem Own.lit (w : World) (B : Nat) (xs : List Nd) (cs : Array Value) (hB : B ≤ w.heap.size) (hn : xs.length ≤ 9223372036854775807) (hc : cs.toList = cells xs) :
    Own (w.alloc (.cells cs 46)) B (.slice (some ⟨w.heap.size, 0, none⟩) xs.length xs.length) xs := by
  have hl : cs.size = xs.length * 2 := by rw [← Array.length_toList, hc, cells_length]
  have h := World.ownsRow_lit (e := 46) (size := 2) w cs xs.length hB hn hl
  rw [hc] at h
  exact h

theorem Try.infoNd : (Try.prog.info? 46).map (fun i => (i.zero, i.size, i.bytes)) = some (some (.agg #[.int .i64 0, .int .i64 0]), 2, 16) := by kernel_rfl

theorem nodes_slice {w : World} {v : Value} {xs : List Nd} (h : Nodes w v xs) : ∃ A c, v = .slice A xs.length c := by
  rcases h.open_ with ⟨rfl, rfl⟩ | ⟨b, o, c, rfl, _⟩
  · exact ⟨_, _, rfl⟩
  · exact ⟨_, _, rfl⟩

/-- Two nodes, compared. -/
theorem Try.ndGuard : Try.prog.eqGuardType Try.prog.depth 46 = false := by kernel_rfl
theorem Try.ndEq (a b c d : Int) (w : World) : (Op.equalIn 10000 46 (.agg #[.int .i64 a, .int .i64 b]) (.agg #[.int .i64 c, .int .i64 d])).run Try.prog w = .ok (a == c && b == d) w := by
  have u2 := Try.underlying2
  have hS : Try.prog.underlying 46 = some (.struct (Try.prog.fieldsOf 46)) := by kernel_rfl
  have hp : Try.prog.stoodInHeld 46 = false := by kernel_rfl
  rw [show (10000 : Nat) = 9999 + 1 from rfl, run_equalIn_agg w 9999 46 _ _ hS hp]
  simp only [Program.fieldsOf, Try.underlying46]
  go_simp
  by_cases h1 : a = c <;> by_cases h2 : b = d <;> simp [h1, h2]
theorem Try.ndNeq (a b c d : Int) (w : World) : (binOp .neq 46 (.agg #[.int .i64 a, .int .i64 b]) (.agg #[.int .i64 c, .int .i64 d])).run Try.prog w = .ok (.bool (!(a == c && b == d))) w := by
  rw [run_neq_struct, Try.ndEq]; rfl

theorem big2 {n m : Nat} (h : n + m ≤ 1099511627776) : n + m ≤ maxLen ∧ (n + m) * 16 ≤ 140737488355328 := by
  unfold maxLen; omega

/-- 'out = append(out, xs...)', out a row of the call's own. -/
theorem wpList_app {ops : Array Oper} {rest : List Oper} {o : Oper} {a : Act} {Q : Exit → Act → World → Prop} {w w0 : World} (s x : Operand) (hgd : o.guard = none)
    (ho : o.op = .call { callee := .builtin .append, args := #[s, x], argTypes := #[24, 24] })
    (v : Value) (xs : List Nd) (hs : a.eval s = v) (hown : Own w w0.heap.size v xs) (hg : Grew w0 w) (vx : Value) (ys : List Nd) (hx : a.eval x = vx) (hr : Nodes w vx ys) (hn : xs.length + ys.length ≤ 1099511627776)
    (h : ∀ v' w', Own w' w0.heap.size v' (xs ++ ys) → Grew w0 w' → w.grownBy w' v.ownBlock → wpList Try.prog ops Q rest (a.put o.dst v') w') : wpList Try.prog ops Q (o :: rest) a w := by
  obtain ⟨i0, hi0, hz0, hz1, hz2⟩ := info_parts Try.infoNd
  refine wpList_append_rd w hgd s x _ ho w0.heap.size 46 i0 _ 2 16 Try.underlying24 hi0 hz0 hz1 hz2 rfl (by omega) v xs.length (cells xs) hs hown vx ys.length (cells ys) hx hr (cells_one ys) (big2 hn).1 (big2 hn).2 hg.size ?_
  intro v' w' h1 h2 h3
  refine h v' w' ?_ (hg.grown h2 fun k hk => (hown.lt k hk).1) h2
  unfold Own
  rw [cells_append, List.length_append]
  exact h1

end Go.Proofs.Ythdffenpgkbjkaa

/- The source of the drawn inputs: l01Next. -/
namespace Go.Proofs.Ythdffenpgkbjkaa
open Go.RowKit

/-- The bytes that the source reads, in a block before block g. -/
def Code (w : World) (g : Nat) (v : Value) (N : Nat) : Prop :=
  N ≤ 4096 ∧ (∃ A c, v = .slice A N c) ∧ (0 < N → ∃ b o c, v = .slice (some ⟨b, o, none⟩) N c ∧ b < g ∧ N ≤ c ∧ c ≤ 9223372036854775807 ∧ ∀ j, j < N → ∃ x : Int, 0 ≤ x ∧ x ≤ 255 ∧ w.cell? ⟨b, o + j, none⟩ = some (.int .u8 x))
theorem Code.only {w w' : World} {g : Nat} {v : Value} {N : Nat} (h : Code w g v N) (hg : g < w.heap.size) (ho : Only g w w') : Code w' g v N := by
  obtain ⟨h1, h2, h3⟩ := h
  refine ⟨h1, h2, fun hp => ?_⟩
  obtain ⟨b, o, c, e, hb, hc, hm, hx⟩ := h3 hp
  refine ⟨b, o, c, e, hb, hc, hm, fun j hj => ?_⟩
  obtain ⟨x, x0, x1, hcell⟩ := hx j hj
  exact ⟨x, x0, x1, (ho.cell (p := ⟨b, o + j, none⟩) (by show b < _; omega) (by show b ≠ g; omega)).trans hcell⟩

def Src (w : World) (g : Nat) (v : Value) (N : Nat) : Prop :=
  Code w g v N ∧ ∃ (i : Nat) (h : Int), i ≤ N ∧ 0 ≤ h ∧ h ≤ 18446744073709551615 ∧ w.heap[g]? = some (.cells #[v, .int .i64 i, .int .u64 h] 55 (0, 0))
theorem Src.lt {w : World} {g : Nat} {v : Value} {N : Nat} (h : Src w g v N) : g < w.heap.size := by
  obtain ⟨_, _, _, _, _, _, h⟩ := h
  exact blk_lt h
theorem Src.grew {w w' : World} {g : Nat} {v : Value} {N : Nat} (h : Src w g v N) (hg : Grew w w') : Src w' g v N := by
  have hl := h.lt
  obtain ⟨h1, i, x, h2, h3, h4, h5⟩ := h
  exact ⟨h1.only hl hg.only, i, x, h2, h3, h4, (hg.block hl).trans h5⟩

theorem small_hash (X : Int) (h0 : 0 ≤ X) (h1 : X ≤ 18446744073709551615) : 0 ≤ wrap64 (bits .and .u64 (X / 8589934592) 16777215) ∧ wrap64 (bits .and .u64 (X / 8589934592) 16777215) ≤ 16777215 := by
  have h := bits_mask .u64 63 (by decide) Go.ConcN.wraps_u64_63 24 (by decide) (X / 8589934592) (by omega) (by omega)
  have e : ((2 : Int) ^ 24 - 1) = 16777215 := by decide
  have e2 : ((2 : Int) ^ 24) = 16777216 := by decide
  rw [e, e2] at h
  rw [h]
  unfold wrap64
  omega

theorem l01Next_c (g : Nat) (v : Value) (N : Nat) (n : Int) (w : World) (h : Src w g v N) (hn : n ≤ 9223372036854775807) :
    Calls Try.prog 24 #[.pointer (some ⟨g, 0, none⟩), .int .i64 n] w fun e w' => ∃ r : Int, e = .returned (.int .i64 r) ∧ 0 ≤ r ∧ (1 ≤ n → r < n) ∧ (n < 1 → r = 0) ∧ Src w' g v N ∧ Only g w w' := by
  by_cases h1 : n < 1
  · have HS := Lib.hid h
    clear h
    go_enter Try.func24, Try.ntmps24
    go_wp2_with fail
    go_ret
    exact ⟨_, rfl, by omega, fun h => absurd h (by omega), fun _ => rfl, HS.out, Only.refl _ _⟩
  obtain ⟨hC, i, hh, hi, hh0, hh1, hb⟩ := h
  have c0 : w.cell? ⟨g, 0, none⟩ = some v := by rw [blk_cell hb]; rfl
  have c1 : w.cell? ⟨g, 1, none⟩ = some (.int .i64 i) := by rw [blk_cell hb]; rfl
  have c2 : w.cell? ⟨g, 2, none⟩ = some (.int .u64 hh) := by rw [blk_cell hb]; rfl
  have f1 := blk_frozen hb 1
  have f2 := blk_frozen hb 2
  obtain ⟨A, c, rfl⟩ := hC.2.1
  have hN := hC.1
  have HB := Lib.hid hb
  have HC := Lib.hid hC
  clear hb hC
  go_enter Try.func24, Try.ntmps24
  go_wp2_with fail
  have hX0 : 0 ≤ IntKind.u64.wrap (IntKind.u64.wrap (hh * 6364136223846793005) + 1442695040888963407) := by rw [IntKind.wrap_u64]; omega
  have hX1 : IntKind.u64.wrap (IntKind.u64.wrap (hh * 6364136223846793005) + 1442695040888963407) ≤ 18446744073709551615 := by rw [IntKind.wrap_u64]; omega
  generalize IntKind.u64.wrap (IntKind.u64.wrap (hh * 6364136223846793005) + 1442695040888963407) = X at *
  obtain ⟨hY0, hY1⟩ := small_hash X hX0 hX1
  generalize wrap64 (bits .and .u64 (X / 8589934592) 16777215) = Y at *
  have hb1 := blk_set HB.out 2 (.int .u64 X)
  have ho1 := (Only.refl g w).setCell (o := 2) (.int .u64 X)
  have hC1 := HC.out.only (blk_lt HB.out) ho1
  clear c0 c1 c2 f1 f2 HB HC
  generalize w.setCell ⟨g, 2, none⟩ (.int .u64 X) = w1 at *
  have c0 : w1.cell? ⟨g, 0, none⟩ = some (.slice A N c) := by rw [blk_cell hb1]; rfl
  have c1 : w1.cell? ⟨g, 1, none⟩ = some (.int .i64 i) := by rw [blk_cell hb1]; rfl
  have f1 := blk_frozen hb1 1
  have HB := Lib.hid hb1
  clear hb1
  by_cases hlt : i < N
  · obtain ⟨b, o, c', e, hbg, hc, hm, hx⟩ := hC1.2.2 (by omega)
    obtain ⟨x, hx0, hx1, k1⟩ := hx i hlt
    obtain ⟨rfl, rfl⟩ : A = some ⟨b, o, none⟩ ∧ c = c' := by simpa using e
    have HC := Lib.hid hC1
    clear hC1 e hx
    go_quiet (fail)
    go_wp2_with fail
    go_quiet (fail)
    go_wp2_with fail
    go_ret
    exact ⟨_, rfl, Int.emod_nonneg _ (by omega), fun _ => Int.emod_lt_of_pos _ (by omega), fun h => absurd h (by omega), ⟨HC.out.only (blk_lt HB.out) (Only.setCell ((Only.refl g w1).drewN _) _), i + 1, X, by omega, hX0, hX1, blk_set (w := w1.drewN _) HB.out 1 _⟩, ho1.trans (Only.setCell ((Only.refl g w1).drewN _) _)⟩
  · have HC := Lib.hid hC1
    clear hC1
    go_quiet (fail)
    go_wp2_with fail
    go_ret
    exact ⟨_, rfl, Int.emod_nonneg _ (by omega), fun _ => Int.emod_lt_of_pos _ (by omega), fun h => absurd h (by omega), ⟨HC.out.only (blk_lt HB.out) ((Only.refl g w1).drewN _), i, X, by omega, hX0, hX1, HB.out⟩, ho1.drewN _⟩
end Go.Proofs.Ythdffenpgkbjkaa

/- The smallest formulas, and the formulas of a kind: the program's and the reference's makers. -/
namespace Go.Proofs.Ythdffenpgkbjkaa
open Go.RowKit
open Fm (Nd)

/-- The call returns a new list of nodes and changes nothing that was there. -/
def Gives (w : World) (xs : List Nd) (e : Ending) (w' : World) : Prop := ∃ v, e = .returned v ∧ Own w' w.heap.size v xs ∧ Grew w w'

/-- A new block that holds one node. -/
theorem Own.one (w : World) (B : Nat) (k s : Int) (hB : B ≤ w.heap.size) : Own (w.alloc (.cells #[.int .i64 k, .int .i64 s] 46)) B (.slice (some ⟨w.heap.size, 0, none⟩) 1 1) [(k, s)] :=
  Own.lit w B [(k, s)] #[.int .i64 k, .int .i64 s] hB (by simp) rfl

theorem l02Pair_c (k : Int) (va vb : Value) (xs ys : List Nd) (w : World) (ha : Nodes w va xs) (hb : Nodes w vb ys) (hn : xs.length + ys.length ≤ 1099511627775) :
    Calls Try.prog 26 #[.int .i64 k, va, vb] w (Gives w (Fm.join k xs ys)) := by
  go_enter Try.func26, Try.ntmps26
  go_wp2_with (first
    | (at_builtin; refine wpList_app (w0 := w) (.tmp 9) (.tmp 10) rfl rfl _ [(k, 0)] rfl (Own.one w _ k 0 (Nat.le_refl _)) ((Grew.refl w).alloc _) va xs rfl (ha.grew ((Grew.refl w).alloc _)) (by simp; omega) ?_; intro v1 w1 hown1 hg1 _)
    | (at_builtin; refine wpList_app (w0 := w) (.tmp 11) (.tmp 12) rfl rfl _ _ rfl hown1 hg1 vb ys rfl (hb.grew hg1) (by simp; omega) ?_; intro v2 w2 hown2 hg2 _))
  go_ret
  exact ⟨_, rfl, by simpa [Fm.join] using hown2, hg2⟩
theorem l02Pre_c (k : Int) (va : Value) (xs : List Nd) (w : World) (ha : Nodes w va xs) (hn : xs.length ≤ 1099511627775) :
    Calls Try.prog 45 #[.int .i64 k, va] w (Gives w (Fm.pre k xs)) := by
  go_enter Try.func45, Try.ntmps45
  go_wp2_with (first
    | (at_builtin; refine wpList_app (w0 := w) _ _ rfl rfl _ [(k, 0)] rfl (Own.one w _ k 0 (Nat.le_refl _)) ((Grew.refl w).alloc _) va xs rfl (ha.grew ((Grew.refl w).alloc _)) (by simp; omega) ?_; intro v1 w1 hown1 hg1 _))
  go_ret
  exact ⟨_, rfl, by simpa [Fm.pre] using hown1, hg1⟩

theorem l02False_c (w : World) : Calls Try.prog 43 #[] w (Gives w Fm.falsum) := by
  have h := Own.one w _ 1 0 (Nat.le_refl _)
  go_enter Try.func43, Try.ntmps43
  go_wp2_with fail
  go_ret
  exact ⟨_, rfl, h, (Grew.refl w).alloc _⟩

theorem l02Var_c (v : Int) (w : World) : Calls Try.prog 44 #[.int .i64 v] w (Gives w (Fm.vari v)) := by
  have h := Own.one w _ 0 v (Nat.le_refl _)
  go_enter Try.func44, Try.ntmps44
  go_wp2_with fail
  go_ret
  exact ⟨_, rfl, h, (Grew.refl w).alloc _⟩

theorem l02Not_c (va : Value) (xs : List Nd) (w : World) (ha : Nodes w va xs) (hn : xs.length ≤ 1099511627774) :
    Calls Try.prog 46 #[va] w (Gives w (Fm.neg xs)) := by
  go_enter Try.func46, Try.ntmps46
  go_wp2_with fail
  refine (l02False_c _).mono ?_
  rintro e w1 ⟨v1, rfl, ho1, hg1⟩
  go_wp2_with fail
  refine (l02Pair_c _ _ _ xs Fm.falsum _ (ha.grew hg1) ho1.nodes (by simp [Fm.falsum]; omega)).mono ?_
  rintro e w2 ⟨v2, rfl, ho2, hg2⟩
  go_wp2_with fail
  go_ret
  exact ⟨_, rfl, ho2.base hg1.size, hg1.trans hg2⟩

theorem l02True_c (w : World) : Calls Try.prog 63 #[] w (Gives w Fm.truth) := by
  go_enter Try.func63, Try.ntmps63
  go_wp2_with fail
  refine (l02False_c _).mono ?_
  rintro e w1 ⟨v1, rfl, ho1, hg1⟩
  go_wp2_with fail
  refine (l02Not_c _ Fm.falsum _ ho1.nodes (by simp [Fm.falsum])).mono ?_
  rintro e w2 ⟨v2, rfl, ho2, hg2⟩
  go_wp2_with fail
  go_ret
  exact ⟨_, rfl, ho2.base hg1.size, hg1.trans hg2⟩

theorem falsum_c (w : World) : Calls Try.prog 95 #[] w (Gives w Fm.falsum) := by
  have h := Own.one w _ 1 0 (Nat.le_refl _)
  go_enter Try.func95, Try.ntmps95
  go_wp2_with fail
  go_ret
  exact ⟨_, rfl, h, (Grew.refl w).alloc _⟩

theorem truth_c (w : World) : Calls Try.prog 96 #[] w (Gives w Fm.truth) := by
  have h := Own.lit w w.heap.size Fm.truth #[.int .i64 4, .int .i64 0, .int .i64 1, .int .i64 0, .int .i64 1, .int .i64 0] (Nat.le_refl _) (by simp [Fm.truth]) rfl
  go_enter Try.func96, Try.ntmps96
  go_wp2_with fail
  go_ret
  exact ⟨_, rfl, h, (Grew.refl w).alloc _⟩

theorem variable_c (v : Int) (w : World) : Calls Try.prog 97 #[.int .i64 v] w (Gives w (Fm.vari v)) := by
  have h := Own.one w _ 0 v (Nat.le_refl _)
  go_enter Try.func97, Try.ntmps97
  go_wp2_with fail
  go_ret
  exact ⟨_, rfl, h, (Grew.refl w).alloc _⟩

theorem grow_c (n : Nat) (w : World) (hn : n ≤ 1099511627776) :
    Calls Try.prog 72 #[.slice none 0 0, .int .i64 n] w (Gives w []) := by
  obtain ⟨i0, hi0, hz0, hz1, hz2⟩ := info_parts Try.infoNd
  rcases Nat.eq_zero_or_pos n with rfl | h0
  · go_enter Try.func72, Try.ntmps72
    go_wp2_with fail
    go_ret
    exact ⟨_, rfl, Own.nil_ _ _, Grew.refl _⟩
  · have hr := fun ty => run_grow_nil (P := Try.prog) w 24 3 ty 46 i0 _ 2 Try.underlying24 Try.underlying3 hi0 hz0 hz1 rfl (by omega) n h0 (by rw [hz2]; omega) (by omega)
    have HR := Lib.hid hr
    clear hr hz0 hz1 hz2 hi0
    go_enter Try.func72, Try.ntmps72
    go_wp2_with (at_builtin; obtain ⟨G, cs, hG1, hG2, hcs, hrun⟩ := HR.out _; refine Lib.wpList_append_run _ rfl _ _ _ _ rfl _ _ rfl rfl _ _ hrun ?_; have HC := Lib.hid hcs; clear hcs hrun)
    go_ret
    refine ⟨_, rfl, ?_, ((Grew.refl w).alloc _).drew⟩
    exact Own.mk_ (xs := []) (Nat.le_refl _) (blk_new w _) (by simp) hG2 HC.out (by simp)

/-- A slice of k slices of nodes that lies in memory: the j-th reads as L[j]. -/
def Lists (w : World) (v : Value) (L : List (List Nd)) : Prop :=
  (v = .slice none 0 0 ∧ L = []) ∨ ∃ b o c, v = .slice (some ⟨b, o, none⟩) L.length c ∧ L.length ≤ c ∧ c ≤ 9223372036854775807 ∧ b < w.heap.size ∧
    ∀ i, i < L.length → ∃ u, w.cell? ⟨b, o + i, none⟩ = some u ∧ Nodes w u (L.getD i [])
theorem Lists.grew {w w' : World} {v : Value} {L : List (List Nd)} (h : Lists w v L) (hb : Grew w w') : Lists w' v L := by
  rcases h with h | ⟨b, o, c, h1, h2, h3, h4, h5⟩
  · exact .inl h
  · refine .inr ⟨b, o, c, h1, h2, h3, Nat.lt_of_lt_of_le h4 hb.size, fun i hi => ?_⟩
    obtain ⟨u, h6, h7⟩ := h5 i hi
    exact ⟨u, (hb.cell (p := ⟨b, o + i, none⟩) h4).trans h6, h7.grew hb⟩
/-- How many nodes the first k lists have. -/
def total (L : List (List Nd)) (k : Nat) : Nat := ((L.take k).flatten).length
theorem total_zero (L : List (List Nd)) : total L 0 = 0 := by unfold total; rw [List.take_zero]; rfl
theorem total_succ {L : List (List Nd)} {k : Nat} (h : k < L.length) : total L (k + 1) = total L k + (L.getD k []).length := by
  unfold total
  rw [List.take_succ_eq_append_getElem h, List.flatten_append, List.length_append]
  simp [List.getD, h]
theorem total_mono {L : List (List Nd)} {k : Nat} : total L k ≤ L.flatten.length := by
  rw [total]
  have : L.flatten = (L.take k).flatten ++ (L.drop k).flatten := by rw [← List.flatten_append, List.take_append_drop]
  rw [this, List.length_append]
  omega
theorem concat_c (v : Value) (L : List (List Nd)) (w : World) (hL : Lists w v L) (hk : L.length ≤ 1099511627776) (hn : L.flatten.length ≤ 1099511627776) :
    Calls Try.prog 65 #[v] w (Gives w L.flatten) := by
  have hfull : total L L.length = L.flatten.length := by unfold total; rw [List.take_length]
  rcases hL with ⟨rfl, rfl⟩ | ⟨b, o, c, rfl, hc, hm, hb, hcell⟩
  · go_enter Try.func65, Try.ntmps65
    go_wp2_with fail
    refine wp_loop_rounds 1 ?_; rw [rounds_succ]
    go_wp2_with fail
    refine (grow_c 0 _ (by omega)).mono ?_
    rintro e w1 ⟨v1, rfl, ho1, hg1⟩
    go_wp2_with fail
    refine wp_loop_rounds 1 ?_; rw [rounds_succ]
    go_wp2_with fail
    go_ret
    exact ⟨_, rfl, ho1, hg1⟩
  · have HF := Lib.hid hfull
    have HC := Lib.hid hcell
    have HN := Lib.hid hn
    clear hfull hcell hn
    generalize hK : L.length = K at *
    have HK := Lib.hid hK
    clear hK
    go_enter Try.func65, Try.ntmps65
    go_wp2_with fail
    go_loopw [3, 5, 11] (fun n _ i wr => ∃ j : Nat, j ≤ K ∧ i = .int .i64 j ∧ n = .int .i64 (total L j) ∧ Grew w wr) (fun _ _ i _ => K - (intOf i).toNat)
    case atStart => exact ⟨0, Nat.zero_le _, rfl, by simp [total_zero], Grew.refl _⟩
    case round =>
      obtain ⟨j, hj, rfl, rfl, hB⟩ := hrel
      by_cases hlt : j < K
      · have hltL : j < L.length := by rw [HK.out]; exact hlt
        obtain ⟨u, hu1, hu2⟩ := HC.out j hlt
        have hs : total L (j + 1) = total L j + (L.getD j []).length := total_succ hltL
        have hle : total L (j + 1) ≤ 1099511627776 := Nat.le_trans total_mono HN.out
        generalize L.getD j [] = X at *
        obtain ⟨A, cc, rfl⟩ := nodes_slice hu2
        have k1 : ∀ W, Grew w W → W.cell? ⟨b, o + j, none⟩ = some (.slice A X.length cc) := fun W hW => (hW.cell (p := ⟨b, o + j, none⟩) hb).trans hu1
        rw [hs] at hle
        have HS := Lib.hid hs
        clear hs hu1 hu2
        go_wp2_with fail
        go_roundw
        case rel => exact ⟨j + 1, by omega, by go_num, by rw [HS.out]; go_num, by assumption⟩
        case measure => simp [intOf]; omega
      · have hjK : j = K := by omega
        subst hjK
        go_wp2_with fail
        refine (grow_c (total L j) _ (by rw [HF.out]; exact HN.out)).mono ?_
        rintro e w1 ⟨v1, rfl, ho1, hg1⟩
        have hg1' := hB.trans hg1
        have ho1' := ho1.base hB.size
        clear ho1 hg1 hlt
        go_wp2_with fail
        go_loopw [6, 8, 27] (fun v _ i wx => ∃ n : Nat, n ≤ j ∧ i = .int .i64 n ∧ Own wx w.heap.size v (L.take n).flatten ∧ Grew w wx) (fun _ _ i _ => j - (intOf i).toNat)
        case atStart => exact ⟨0, Nat.zero_le _, rfl, by simpa using ho1', hg1'⟩
        case round =>
          obtain ⟨n, hn, rfl, hown, hG⟩ := hrel
          by_cases hlt : n < j
          · have hltL : n < L.length := by rw [HK.out]; exact hlt
            obtain ⟨u, hu1, hu2⟩ := HC.out n hlt
            have hs : total L (n + 1) = total L n + (L.getD n []).length := total_succ hltL
            have hle : total L (n + 1) ≤ 1099511627776 := Nat.le_trans total_mono HN.out
            have hfl : (L.take (n + 1)).flatten = (L.take n).flatten ++ L.getD n [] := by
              rw [List.take_succ_eq_append_getElem hltL, List.flatten_append]
              simp [List.getD, hltL]
            have htl : (L.take n).flatten.length = total L n := rfl
            generalize L.getD n [] = X at *
            have k1 : ∀ W, Grew w W → W.cell? ⟨b, o + n, none⟩ = some u := fun W hW => (hW.cell (p := ⟨b, o + n, none⟩) hb).trans hu1
            have hbd : (L.take n).flatten.length + X.length ≤ 1099511627776 := by rw [htl, ← hs]; exact hle
            have HFL := Lib.hid hfl
            generalize (L.take n).flatten = Y at *
            clear hs hu1 htl hle hfl
            obtain ⟨A, cc, rfl⟩ := nodes_slice hu2
            go_wp2_with (first
              | (at_builtin; refine wpList_app (w0 := w) _ _ rfl rfl _ Y rfl hown hG _ X rfl (hu2.grew hG) hbd ?_; intro v2 w2 hown2 hg2 _))
            go_roundw
            case rel => exact ⟨n + 1, by omega, by go_num, by rw [HFL.out]; assumption, by assumption⟩
            case measure => simp [intOf]; omega
          · have hnj : n = j := by omega
            subst hnj
            have hfl : (L.take n).flatten = L.flatten := by rw [← HK.out, List.take_length]
            rw [hfl] at hown
            clear hfl
            go_wp2_with fail
            go_ret
            exact ⟨_, rfl, hown, hG⟩
end Go.Proofs.Ythdffenpgkbjkaa

/- The plain parser: how far it comes, how many nodes it makes, which byte is next. No program is in sight. -/
namespace Go.Proofs.Ythdffenpgkbjkaa
namespace Fm

theorem sees_eq {s : List UInt8} {st : St} {c : UInt8} (h : sees s st c = true) : st.2 = false ∧ s[st.1]? = some c := by
  unfold sees at h
  simp only [Bool.and_eq_true, Bool.not_eq_true', beq_iff_eq] at h
  exact h
theorem sees_lt {s : List UInt8} {st : St} {c : UInt8} (h : sees s st c = true) : st.1 < s.length := by
  have := (sees_eq h).2
  rcases Nat.lt_or_ge st.1 s.length with h1 | h1
  · exact h1
  · rw [List.getElem?_eq_none h1] at this; cases this
theorem sees_other {s : List UInt8} {st : St} {c d : UInt8} (h : sees s st c = true) (hne : c ≠ d) : sees s st d = false := by
  obtain ⟨h1, h2⟩ := sees_eq h
  unfold sees
  rw [h1, h2]
  simp [hne]
theorem letter_some {s : List UInt8} {st : St} {v : Nat} (h : letter s st = some v) : v < 6 ∧ sees s st (UInt8.ofNat (112 + v)) = true := by
  unfold letter at h
  split at h
  · cases h
  · rename_i hb
    have hb' : st.2 = false := by simpa using hb
    split at h
    · rename_i c hc
      split at h
      · rename_i hr
        injection h with h
        subst h
        refine ⟨by omega, ?_⟩
        unfold sees
        have e : UInt8.ofNat (112 + (c.toNat - 112)) = c := by
          apply UInt8.toNat_inj.1
          rw [UInt8.toNat_ofNat']
          omega
        rw [hb', hc, e]
        simp
      · cases h
    · cases h
theorem letter_of_sees {s : List UInt8} {st : St} {v : Nat} (hv : v < 6) (h : sees s st (UInt8.ofNat (112 + v)) = true) : letter s st = some v := by
  obtain ⟨h1, h2⟩ := sees_eq h
  unfold letter
  rw [h1, h2]
  have e : (UInt8.ofNat (112 + v)).toNat = 112 + v := by rw [UInt8.toNat_ofNat']; omega
  simp only [e]
  rw [if_neg (by simp), if_pos (by omega)]
  congr 1
  omega
theorem letter_none {s : List UInt8} {st : St} (h : letter s st = none) (v : Nat) (hv : v < 6) : sees s st (UInt8.ofNat (112 + v)) = false := by
  cases hs : sees s st (UInt8.ofNat (112 + v)) with
  | false => rfl
  | true => rw [letter_of_sees hv hs] at h; cases h
theorem letter_ne {s : List UInt8} {st : St} {v i : Nat} (h : letter s st = some v) (hi : i < 6) (hne : i ≠ v) : sees s st (UInt8.ofNat (112 + i)) = false := by
  cases hs : sees s st (UInt8.ofNat (112 + i)) with
  | false => rfl
  | true => rw [letter_of_sees hi hs] at h; injection h with h; exact absurd h hne
theorem letter_of_other {s : List UInt8} {st : St} {c : UInt8} (h : sees s st c = true) (hc : c.toNat < 112 ∨ 117 < c.toNat) : letter s st = none := by
  obtain ⟨h1, h2⟩ := sees_eq h
  unfold letter
  rw [h1, h2]
  simp only
  rw [if_neg (by simp), if_neg (by omega)]

/-- A result that does not run backwards or over the end, and is not too long. -/
def Ok (s : List UInt8) (st : St) (r : Res) : Prop := st.1 ≤ r.2.1 ∧ r.2.1 ≤ s.length ∧ r.1.length ≤ 3 * (r.2.1 - st.1) + 1

theorem need_pos {s : List UInt8} {st : St} {c : UInt8} (h : st.1 ≤ s.length) : st.1 ≤ (need s st c).1 ∧ (need s st c).1 ≤ s.length := by
  unfold need
  split
  · rename_i hs
    have := sees_lt hs
    simp only [step]
    omega
  · exact ⟨Nat.le_refl _, h⟩

theorem loop_ok {s : List UInt8} {k : Int} {c : UInt8} {sub : St → Res} (hsub : ∀ st, st.1 ≤ s.length → Ok s st (sub st)) : ∀ (m : Nat) (a : List Nd) (st st0 : St), st0.1 ≤ st.1 → st.1 ≤ s.length → a.length ≤ 3 * (st.1 - st0.1) + 1 → Ok s st0 (loop s k c sub m a st) := by
  intro m
  induction m with
  | zero => intro a st st0 h1 h2 h3; exact ⟨h1, h2, h3⟩
  | succ m ih =>
    intro a st st0 h1 h2 h3
    unfold loop
    split
    · rename_i hs
      have hlt := sees_lt hs
      have h := hsub (step st) (by simp only [step]; omega)
      obtain ⟨g1, g2, g3⟩ := h
      simp only [step] at g1 g2 g3
      refine ih _ _ st0 (by simp only [step]; omega) (by simp only [step]; omega) ?_
      simp only [join, List.length_cons, List.length_append, step]
      omega
    · exact ⟨h1, h2, h3⟩

theorem andF_ok {s : List UInt8} {m : Nat} {sub : St → Res} (hsub : ∀ st, st.1 ≤ s.length → Ok s st (sub st)) (st : St) (h : st.1 ≤ s.length) : Ok s st (andF s m sub st) := by
  obtain ⟨g1, g2, g3⟩ := hsub st h
  exact loop_ok hsub m _ _ st g1 g2 g3
theorem orF_ok {s : List UInt8} {m : Nat} {sub : St → Res} (hsub : ∀ st, st.1 ≤ s.length → Ok s st (sub st)) (st : St) (h : st.1 ≤ s.length) : Ok s st (orF s m sub st) := by
  obtain ⟨g1, g2, g3⟩ := andF_ok (m := m) hsub st h
  exact loop_ok (fun st h => andF_ok hsub st h) m _ _ st g1 g2 g3
theorem impF_ok {s : List UInt8} {m : Nat} {sub : St → Res} (hsub : ∀ st, st.1 ≤ s.length → Ok s st (sub st)) : ∀ (i : Nat) (st : St), st.1 ≤ s.length → Ok s st (impF s m sub i st) := by
  intro i
  induction i with
  | zero => intro st h; exact orF_ok hsub st h
  | succ i ih =>
    intro st h
    unfold impF
    obtain ⟨g1, g2, g3⟩ := orF_ok (m := m) hsub st h
    dsimp only
    split
    · rename_i hs
      have hlt := sees_lt hs
      obtain ⟨k1, k2, k3⟩ := ih (step (orF s m sub st).2) (by simp only [step]; omega)
      simp only [step] at k1 k2 k3
      refine ⟨by simp only [step]; omega, by simp only [step]; omega, ?_⟩
      simp only [join, List.length_cons, List.length_append, step]
      omega
    · exact ⟨g1, g2, g3⟩
theorem preF_ok {s : List UInt8} {m : Nat} : ∀ (f : Nat) (st : St), st.1 ≤ s.length → Ok s st (preF s m f st) := by
  intro f
  induction f with
  | zero => intro st h; exact ⟨Nat.le_refl _, h, by simp [preF, falsum]⟩
  | succ f ih =>
    intro st h
    unfold preF
    split
    · rename_i hs
      have hlt := sees_lt hs
      obtain ⟨k1, k2, k3⟩ := ih (step st) (by simp only [step]; omega)
      simp only [step] at k1 k2 k3
      refine ⟨by simp only [step]; omega, by simp only [step]; omega, ?_⟩
      simp only [neg, join, falsum, List.length_cons, List.length_append, List.length_nil, step]
      omega
    split
    · rename_i hs
      have hlt := sees_lt hs
      obtain ⟨n1, n2⟩ := need_pos (s := s) (st := step st) (c := 93) (by simp only [step]; omega)
      obtain ⟨k1, k2, k3⟩ := ih (need s (step st) 93) n2
      have e : (step st).1 = st.1 + 1 := rfl
      refine ⟨by simp only; omega, by simp only; omega, ?_⟩
      simp only [pre, List.length_cons]
      omega
    split
    · rename_i hs
      have hlt := sees_lt hs
      obtain ⟨n1, n2⟩ := need_pos (s := s) (st := step st) (c := 62) (by simp only [step]; omega)
      obtain ⟨k1, k2, k3⟩ := ih (need s (step st) 62) n2
      have e : (step st).1 = st.1 + 1 := rfl
      refine ⟨by simp only; omega, by simp only; omega, ?_⟩
      simp only [pre, List.length_cons]
      omega
    split
    · rename_i hs
      have hlt := sees_lt hs
      exact ⟨by simp only [step]; omega, by simp only [step]; omega, by simp [falsum]⟩
    split
    · rename_i hs
      have hlt := sees_lt hs
      exact ⟨by simp only [step]; omega, by simp only [step]; omega, by simp only [truth, step, List.length_cons, List.length_nil]; omega⟩
    split
    · rename_i hs
      have hlt := sees_lt hs
      obtain ⟨k1, k2, k3⟩ := impF_ok (m := m) ih m (step st) (by simp only [step]; omega)
      obtain ⟨n1, n2⟩ := need_pos (s := s) (st := (impF s m (preF s m f) m (step st)).2) (c := 41) k2
      have e : (step st).1 = st.1 + 1 := rfl
      refine ⟨by simp only; omega, n2, ?_⟩
      simp only
      omega
    split
    · rename_i v hv
      have hlt := sees_lt (letter_some hv).2
      exact ⟨by simp only [step]; omega, by simp only [step]; omega, by simp [vari]⟩
    · exact ⟨Nat.le_refl _, h, by simp [falsum]⟩

theorem parse_ok (s : List UInt8) (m : Nat) : Ok s (0, false) (parse s m) := impF_ok (fun st h => preF_ok m st h) m (0, false) (by simp)

theorem preF_not {s : List UInt8} {m f : Nat} {st : St} (h : sees s st 126 = true) : preF s m (f + 1) st = (neg (preF s m f (step st)).1, (preF s m f (step st)).2) := by
  rw [preF, if_pos h]
theorem preF_box {s : List UInt8} {m f : Nat} {st : St} (h : sees s st 91 = true) : preF s m (f + 1) st = (pre 5 (preF s m f (need s (step st) 93)).1, (preF s m f (need s (step st) 93)).2) := by
  rw [preF, if_neg (by rw [sees_other h (by decide)]; decide), if_pos h]
theorem preF_dia {s : List UInt8} {m f : Nat} {st : St} (h : sees s st 60 = true) : preF s m (f + 1) st = (pre 6 (preF s m f (need s (step st) 62)).1, (preF s m f (need s (step st) 62)).2) := by
  rw [preF, if_neg (by rw [sees_other h (by decide)]; decide), if_neg (by rw [sees_other h (by decide)]; decide), if_pos h]
theorem preF_fls {s : List UInt8} {m f : Nat} {st : St} (h : sees s st 70 = true) : preF s m (f + 1) st = (falsum, step st) := by
  rw [preF, if_neg (by rw [sees_other h (by decide)]; decide), if_neg (by rw [sees_other h (by decide)]; decide), if_neg (by rw [sees_other h (by decide)]; decide), if_pos h]
theorem preF_tru {s : List UInt8} {m f : Nat} {st : St} (h : sees s st 84 = true) : preF s m (f + 1) st = (truth, step st) := by
  rw [preF, if_neg (by rw [sees_other h (by decide)]; decide), if_neg (by rw [sees_other h (by decide)]; decide), if_neg (by rw [sees_other h (by decide)]; decide), if_neg (by rw [sees_other h (by decide)]; decide), if_pos h]
theorem preF_par {s : List UInt8} {m f : Nat} {st : St} (h : sees s st 40 = true) : preF s m (f + 1) st = ((impF s m (preF s m f) m (step st)).1, need s (impF s m (preF s m f) m (step st)).2 41) := by
  rw [preF, if_neg (by rw [sees_other h (by decide)]; decide), if_neg (by rw [sees_other h (by decide)]; decide), if_neg (by rw [sees_other h (by decide)]; decide), if_neg (by rw [sees_other h (by decide)]; decide), if_neg (by rw [sees_other h (by decide)]; decide), if_pos h]
theorem sees_low {s : List UInt8} {st : St} {v : Nat} {c : UInt8} (h : letter s st = some v) (hc : c.toNat < 112 ∨ 117 < c.toNat) : sees s st c = false := by
  refine sees_other (letter_some h).2 fun e => ?_
  have := (letter_some h).1
  have h2 : (UInt8.ofNat (112 + v)).toNat = 112 + v := by rw [UInt8.toNat_ofNat']; omega
  rw [e] at h2
  omega
theorem preF_var {s : List UInt8} {m f : Nat} {st : St} {v : Nat} (h : letter s st = some v) : preF s m (f + 1) st = (vari v, step st) := by
  rw [preF, if_neg (by rw [sees_low h (by decide)]; decide), if_neg (by rw [sees_low h (by decide)]; decide), if_neg (by rw [sees_low h (by decide)]; decide), if_neg (by rw [sees_low h (by decide)]; decide), if_neg (by rw [sees_low h (by decide)]; decide), if_neg (by rw [sees_low h (by decide)]; decide), h]
theorem preF_bad {s : List UInt8} {m f : Nat} {st : St} (h1 : sees s st 126 = false) (h2 : sees s st 91 = false) (h3 : sees s st 60 = false) (h4 : sees s st 70 = false) (h5 : sees s st 84 = false) (h6 : sees s st 40 = false) (h : letter s st = none) : preF s m (f + 1) st = (falsum, (st.1, true)) := by
  rw [preF, if_neg (by rw [h1]; decide), if_neg (by rw [h2]; decide), if_neg (by rw [h3]; decide), if_neg (by rw [h4]; decide), if_neg (by rw [h5]; decide), if_neg (by rw [h6]; decide), h]
theorem impF_yes {s : List UInt8} {m i : Nat} {sub : St → Res} {st : St} (h : sees s (orF s m sub st).2 62 = true) : impF s m sub (i + 1) st = (join 4 (orF s m sub st).1 (impF s m sub i (step (orF s m sub st).2)).1, (impF s m sub i (step (orF s m sub st).2)).2) := by
  rw [impF]; dsimp only; rw [if_pos h]
theorem impF_no {s : List UInt8} {m i : Nat} {sub : St → Res} {st : St} (h : sees s (orF s m sub st).2 62 = false) : impF s m sub (i + 1) st = orF s m sub st := by
  rw [impF]; dsimp only; rw [if_neg (by rw [h]; decide)]

end Fm
end Go.Proofs.Ythdffenpgkbjkaa

/- Formulas as trees, their lists of nodes and their texts. No program is in sight. -/
namespace Go.Proofs.Ythdffenpgkbjkaa
namespace Fm

inductive Tree where
  | var (v : Fin 6)
  | fls
  | and (a b : Tree)
  | or (a b : Tree)
  | imp (a b : Tree)
  | box (a : Tree)
  | dia (a : Tree)

/-- The list of the nodes. -/
def enc : Tree → List Nd
  | .var v => [(0, (v.val : Int))]
  | .fls => [(1, 0)]
  | .and a b => (2, 0) :: (enc a ++ enc b)
  | .or a b => (3, 0) :: (enc a ++ enc b)
  | .imp a b => (4, 0) :: (enc a ++ enc b)
  | .box a => (5, 0) :: enc a
  | .dia a => (6, 0) :: enc a

theorem enc_pos (t : Tree) : 1 ≤ (enc t).length := by cases t <;> simp [enc]

def isF : Tree → Bool
  | .fls => true
  | _ => false
theorem isF_eq {t : Tree} (h : isF t = true) : t = .fls := by cases t <;> simp_all [isF]

/-- How many parts the nodes of a kind have. -/
def arity (k : Int) : Nat := if k = 2 ∨ k = 3 ∨ k = 4 then 2 else if k = 5 ∨ k = 6 then 1 else 0
theorem arity_le (k : Int) : arity k ≤ 2 := by unfold arity; split; omega; split <;> omega

/-- How many nodes are read till no part is open. -/
def scan : List Nd → Nat → Option Nat
  | _, 0 => some 0
  | [], _ + 1 => none
  | x :: xs, o + 1 => (scan xs (o + arity x.1)).map (· + 1)

theorem scan_zero (xs : List Nd) : scan xs 0 = some 0 := by cases xs <;> rfl
theorem scan_nil (o : Nat) : scan [] (o + 1) = none := rfl
theorem scan_cons (x : Nd) (xs : List Nd) (o : Nat) : scan (x :: xs) (o + 1) = (scan xs (o + arity x.1)).map (· + 1) := rfl

theorem scan_enc (t : Tree) : ∀ (rest : List Nd) (o : Nat), scan (enc t ++ rest) (o + 1) = (scan rest o).map (· + (enc t).length) := by
  induction t with
  | var v => intro rest o; simp [enc, scan_cons, arity]
  | fls => intro rest o; simp [enc, scan_cons, arity]
  | and a b iha ihb =>
    intro rest o
    simp only [enc, List.cons_append, scan_cons, List.append_assoc]
    rw [show arity 2 = 2 from rfl, show o + 2 = (o + 1) + 1 from rfl, iha, ihb]
    cases scan rest o <;> simp; omega
  | or a b iha ihb =>
    intro rest o
    simp only [enc, List.cons_append, scan_cons, List.append_assoc]
    rw [show arity 3 = 2 from rfl, show o + 2 = (o + 1) + 1 from rfl, iha, ihb]
    cases scan rest o <;> simp; omega
  | imp a b iha ihb =>
    intro rest o
    simp only [enc, List.cons_append, scan_cons, List.append_assoc]
    rw [show arity 4 = 2 from rfl, show o + 2 = (o + 1) + 1 from rfl, iha, ihb]
    cases scan rest o <;> simp; omega
  | box a iha =>
    intro rest o
    simp only [enc, List.cons_append, scan_cons]
    rw [show arity 5 = 1 from rfl, iha]
    cases scan rest o <;> simp; omega
  | dia a iha =>
    intro rest o
    simp only [enc, List.cons_append, scan_cons]
    rw [show arity 6 = 1 from rfl, iha]
    cases scan rest o <;> simp; omega
theorem scan_one (t : Tree) (rest : List Nd) : scan (enc t ++ rest) 1 = some (enc t).length := by
  rw [scan_enc t rest 0, scan_zero]; simp
theorem scan_le : ∀ (xs : List Nd) (o n : Nat), scan xs o = some n → n ≤ xs.length := by
  intro xs
  induction xs with
  | nil => intro o n h; cases o with
    | zero => simp [scan_zero] at h; omega
    | succ o => simp [scan_nil] at h
  | cons x xs ih => intro o n h; cases o with
    | zero => simp [scan_zero] at h; omega
    | succ o =>
      rw [scan_cons] at h
      cases hs : scan xs (o + arity x.1) with
      | none => rw [hs] at h; simp at h
      | some m => rw [hs] at h; simp at h; have := ih _ _ hs; simp; omega

/-- The level of the grammar at which a text stands. -/
def own : Tree → Nat
  | .and _ _ => 2
  | .or _ _ => 1
  | .imp _ b => if isF b then 3 else 0
  | _ => 3
def wrap (l o : Nat) (s : List UInt8) : List UInt8 := if o < l then [40] ++ s ++ [41] else s
/-- The text at a level. -/
def txt : Tree → Nat → List UInt8
  | .var v, _ => [UInt8.ofNat (112 + v.val)]
  | .fls, _ => [70]
  | .and a b, l => wrap l 2 (txt a 2 ++ [38] ++ txt b 3)
  | .or a b, l => wrap l 1 (txt a 1 ++ [124] ++ txt b 2)
  | .imp a b, l => if isF b then (if isF a then [84] else [126] ++ txt a 3) else wrap l 0 (txt a 1 ++ [62] ++ txt b 0)
  | .box a, _ => [91, 93] ++ txt a 3
  | .dia a, _ => [60, 62] ++ txt a 3

theorem wrap_len (l o : Nat) (s : List UInt8) : (wrap l o s).length ≤ s.length + 2 := by
  unfold wrap; split <;> simp
theorem txt_len (t : Tree) : ∀ l, (txt t l).length ≤ 4 * (enc t).length := by
  induction t with
  | var v => intro l; simp [txt, enc]
  | fls => intro l; simp [txt, enc]
  | and a b iha ihb =>
    intro l
    have := wrap_len l 2 (txt a 2 ++ [38] ++ txt b 3)
    have h1 := iha 2
    have h2 := ihb 3
    simp only [txt, enc, List.length_cons, List.length_append, List.length_nil] at *
    omega
  | or a b iha ihb =>
    intro l
    have := wrap_len l 1 (txt a 1 ++ [124] ++ txt b 2)
    have h1 := iha 1
    have h2 := ihb 2
    simp only [txt, enc, List.length_cons, List.length_append, List.length_nil] at *
    omega
  | imp a b iha ihb =>
    intro l
    have := wrap_len l 0 (txt a 1 ++ [62] ++ txt b 0)
    have h1 := iha 1
    have h2 := ihb 0
    have h3 := iha 3
    have h4 := enc_pos a
    simp only [txt]
    split
    · split
      · simp [enc]; omega
      · simp only [enc, List.length_cons, List.length_append, List.length_nil]; omega
    · simp only [enc, List.length_cons, List.length_append, List.length_nil] at *; omega
  | box a iha =>
    intro l
    have h3 := iha 3
    simp only [txt, enc, List.length_cons, List.length_append, List.length_nil]; omega
  | dia a iha =>
    intro l
    have h3 := iha 3
    simp only [txt, enc, List.length_cons, List.length_append, List.length_nil]; omega

theorem arity_enc (t : Tree) : ∃ x rest, enc t = x :: rest := by cases t <;> exact ⟨_, _, rfl⟩

/-- Every list that the parser makes is that of a tree. -/
def IsEnc (xs : List Nd) : Prop := ∃ t, xs = enc t
theorem isEnc_join {k : Int} {a b : List Nd} (hk : k = 2 ∨ k = 3 ∨ k = 4) (ha : IsEnc a) (hb : IsEnc b) : IsEnc (join k a b) := by
  obtain ⟨s, rfl⟩ := ha
  obtain ⟨t, rfl⟩ := hb
  rcases hk with rfl | rfl | rfl
  · exact ⟨.and s t, rfl⟩
  · exact ⟨.or s t, rfl⟩
  · exact ⟨.imp s t, rfl⟩
theorem isEnc_pre {k : Int} {a : List Nd} (hk : k = 5 ∨ k = 6) (ha : IsEnc a) : IsEnc (pre k a) := by
  obtain ⟨s, rfl⟩ := ha
  rcases hk with rfl | rfl
  · exact ⟨.box s, rfl⟩
  · exact ⟨.dia s, rfl⟩
theorem isEnc_falsum : IsEnc falsum := ⟨.fls, rfl⟩
theorem loop_enc {s : List UInt8} {k : Int} {c : UInt8} {sub : St → Res} (hk : k = 2 ∨ k = 3 ∨ k = 4) (hsub : ∀ st, IsEnc (sub st).1) : ∀ (m : Nat) (a : List Nd) (st : St), IsEnc a → IsEnc (loop s k c sub m a st).1 := by
  intro m
  induction m with
  | zero => intro a st h; exact h
  | succ m ih =>
    intro a st h
    unfold loop
    split
    · exact ih _ _ (isEnc_join hk h (hsub _))
    · exact h
theorem andF_enc {s : List UInt8} {m : Nat} {sub : St → Res} (hsub : ∀ st, IsEnc (sub st).1) (st : St) : IsEnc (andF s m sub st).1 := loop_enc (.inl rfl) hsub _ _ _ (hsub st)
theorem orF_enc {s : List UInt8} {m : Nat} {sub : St → Res} (hsub : ∀ st, IsEnc (sub st).1) (st : St) : IsEnc (orF s m sub st).1 := loop_enc (.inr (.inl rfl)) (fun st => andF_enc hsub st) _ _ _ (andF_enc hsub st)
theorem impF_enc {s : List UInt8} {m : Nat} {sub : St → Res} (hsub : ∀ st, IsEnc (sub st).1) : ∀ (i : Nat) (st : St), IsEnc (impF s m sub i st).1 := by
  intro i
  induction i with
  | zero => intro st; exact orF_enc hsub st
  | succ i ih =>
    intro st
    unfold impF
    dsimp only
    split
    · exact isEnc_join (.inr (.inr rfl)) (orF_enc hsub st) (ih _)
    · exact orF_enc hsub st
theorem preF_enc {s : List UInt8} {m : Nat} : ∀ (f : Nat) (st : St), IsEnc (preF s m f st).1 := by
  intro f
  induction f with
  | zero => intro st; exact isEnc_falsum
  | succ f ih =>
    intro st
    unfold preF
    split
    · exact isEnc_join (.inr (.inr rfl)) (ih _) isEnc_falsum
    split
    · exact isEnc_pre (.inl rfl) (ih _)
    split
    · exact isEnc_pre (.inr rfl) (ih _)
    split
    · exact isEnc_falsum
    split
    · exact ⟨.imp .fls .fls, rfl⟩
    split
    · exact impF_enc ih _ _
    split
    · rename_i v hv
      exact ⟨.var ⟨v, (letter_some hv).1⟩, rfl⟩
    · exact isEnc_falsum
theorem parse_enc (s : List UInt8) (m : Nat) : IsEnc (parse s m).1 := impF_enc (fun st => preF_enc m st) m _

end Fm
end Go.Proofs.Ythdffenpgkbjkaa

/- The drawn formula: l02Draw gives a tree of at most as many nodes as told. -/
namespace Go.Proofs.Ythdffenpgkbjkaa
open Go.RowKit
open Fm (Nd)

theorem isEnc_vari {r : Int} (h0 : 0 ≤ r) (h1 : r < 6) : Fm.IsEnc (Fm.vari r) :=
  ⟨.var ⟨r.toNat, by omega⟩, by simp [Fm.vari, Fm.enc, Int.toNat_of_nonneg h0]⟩

/-- What the draw gives. -/
def Drawn (w : World) (g : Nat) (cv : Value) (N : Nat) (size : Int) (e : Ending) (w' : World) : Prop :=
  ∃ v xs, e = .returned v ∧ Own w' w.heap.size v xs ∧ Fm.IsEnc xs ∧ (xs.length : Int) ≤ size ∧ Src w' g cv N ∧ Only g w w'

theorem own_src {w w' : World} {B g : Nat} {v : Value} {xs : List Nd} (h : Own w B v xs) (hg : g < B) (ho : Only g w w') : Own w' B v xs :=
  own_only h ho (fun he => by have := own_of_ge h he; omega)

theorem l02Draw_c (g : Nat) (cv : Value) (N : Nat) : ∀ (m : Nat) (size : Int) (w : World), 1 ≤ size → size ≤ m → m ≤ 1000 → Src w g cv N →
    Calls Try.prog 23 #[.pointer (some ⟨g, 0, none⟩), .int .i64 size, .int .i64 6, .bool true] w (Drawn w g cv N size) := by
  intro m
  induction m with
  | zero => intro size w h1 h2; omega
  | succ m ih =>
    intro size w h1 h2 hm hS
    have IH := Lib.hid (fun size w a b c => ih size w a b (by omega) c)
    clear ih
    have hgs := hS.lt
    by_cases hsz : size ≤ 2
    · have HSa := Lib.hid hS
      have hoa := Only.refl g w
      clear hS
      go_enter Try.func23, Try.ntmps23
      go_wp2_with fail
      refine (l01Next_c g cv N 8 _ HSa.out (by omega)).mono ?_
      rintro e wb ⟨r2, rfl, _, _, _, hSb, hob⟩
      have HSb := Lib.hid hSb
      have hab := hoa.trans hob
      clear hSb hob
      cases hr2 : (r2 == 0) with
      | true =>
        go_wp2_with fail
        refine (l02False_c _).mono ?_
        rintro e wc ⟨v, rfl, ho, hg⟩
        go_wp2_with fail
        go_ret
        exact ⟨_, _, rfl, ho.base hab.size, Fm.isEnc_falsum, by simp [Fm.falsum]; omega, HSb.out.grew hg, hab.grew hg⟩
      | false =>
        go_wp2_with fail
        refine (l01Next_c g cv N 6 _ HSb.out (by omega)).mono ?_
        rintro e wc ⟨r3, rfl, hr30, hr31, _, hSc, hoc⟩
        have HSc := Lib.hid hSc
        have hac := hab.trans hoc
        clear hSc hoc
        go_wp2_with fail
        refine (l02Var_c r3 _).mono ?_
        rintro e wd ⟨v, rfl, ho, hg⟩
        go_wp2_with fail
        go_ret
        exact ⟨_, _, rfl, ho.base hac.size, isEnc_vari hr30 (hr31 (by omega)), by simp [Fm.vari]; omega, HSc.out.grew hg, hac.grew hg⟩
    have HS := Lib.hid hS
    clear hS
    go_enter Try.func23, Try.ntmps23
    go_wp2_with fail
    refine (l01Next_c g cv N 9 _ HS.out (by omega)).mono ?_
    rintro e wa ⟨r1, rfl, _, _, _, hSa, hoa⟩
    have HSa := Lib.hid hSa
    clear hSa HS
    cases hr1 : (r1 == 0) with
    | true =>
      go_wp2_with fail
      refine (l01Next_c g cv N 8 _ HSa.out (by omega)).mono ?_
      rintro e wb ⟨r2, rfl, _, _, _, hSb, hob⟩
      have HSb := Lib.hid hSb
      have hab := hoa.trans hob
      clear hSb hob
      cases hr2 : (r2 == 0) with
      | true =>
        go_wp2_with fail
        refine (l02False_c _).mono ?_
        rintro e wc ⟨v, rfl, ho, hg⟩
        go_wp2_with fail
        go_ret
        exact ⟨_, _, rfl, ho.base hab.size, Fm.isEnc_falsum, by simp [Fm.falsum]; omega, HSb.out.grew hg, hab.grew hg⟩
      | false =>
        go_wp2_with fail
        refine (l01Next_c g cv N 6 _ HSb.out (by omega)).mono ?_
        rintro e wc ⟨r3, rfl, hr30, hr31, _, hSc, hoc⟩
        have HSc := Lib.hid hSc
        have hac := hab.trans hoc
        clear hSc hoc
        go_wp2_with fail
        refine (l02Var_c r3 _).mono ?_
        rintro e wd ⟨v, rfl, ho, hg⟩
        go_wp2_with fail
        go_ret
        exact ⟨_, _, rfl, ho.base hac.size, isEnc_vari hr30 (hr31 (by omega)), by simp [Fm.vari]; omega, HSc.out.grew hg, hac.grew hg⟩
    | false =>
    go_wp2_with fail
    refine (l01Next_c g cv N 3 _ HSa.out (by omega)).mono ?_
    rintro e wb ⟨r2, rfl, _, _, _, hSb, hob⟩
    have HSb := Lib.hid hSb
    have hab := hoa.trans hob
    clear hSb hob hoa HSa
    cases hr2 : (r2 == 0) with
    | true =>
      go_wp2_with fail
      refine (l01Next_c g cv N 2 _ HSb.out (by omega)).mono ?_
      rintro e wc ⟨r3, rfl, hr30, hr31, _, hSc, hoc⟩
      have HSc := Lib.hid hSc
      have hac := hab.trans hoc
      have hr32 := hr31 (by omega)
      clear hSc hoc hr31
      go_wp2_with fail
      refine (IH.out (size - 1) _ (by omega) (by omega) HSc.out).mono ?_
      rintro e wd ⟨v, xs, rfl, ho, he, hl, hSd, hod⟩
      have HSd := Lib.hid hSd
      clear hSd
      have HE := Lib.hid he
      clear he
      go_wp2_with fail
      refine (l02Pre_c _ v xs _ ho.nodes (by omega)).mono ?_
      rintro e we ⟨v2, rfl, ho2, hg2⟩
      go_wp2_with fail
      go_ret
      exact ⟨_, _, rfl, ho2.base (hac.trans hod).size, Fm.isEnc_pre (by omega) HE.out, by simp [Fm.pre]; omega, HSd.out.grew hg2, (hac.trans hod).grew hg2⟩
    | false =>
    go_wp2_with fail
    refine (l01Next_c g cv N 6 _ HSb.out (by omega)).mono ?_
    rintro e wc ⟨r3, rfl, _, _, _, hSc, hoc⟩
    have HSc := Lib.hid hSc
    have hac := hab.trans hoc
    clear hSc hoc hab HSb
    cases hr3 : (r3 == 0) with
    | true =>
      go_wp2_with fail
      refine (IH.out (size - 2) _ (by omega) (by omega) HSc.out).mono ?_
      rintro e wd ⟨v, xs, rfl, ho, he, hl, hSd, hod⟩
      have HSd := Lib.hid hSd
      clear hSd
      have HE := Lib.hid he
      clear he
      go_wp2_with fail
      refine (l02Not_c v xs _ ho.nodes (by omega)).mono ?_
      rintro e we ⟨v2, rfl, ho2, hg2⟩
      go_wp2_with fail
      go_ret
      exact ⟨_, _, rfl, ho2.base (hac.trans hod).size, Fm.isEnc_join (.inr (.inr rfl)) HE.out Fm.isEnc_falsum, by simp [Fm.neg, Fm.join, Fm.falsum]; omega, HSd.out.grew hg2, (hac.trans hod).grew hg2⟩
    | false =>
    go_wp2_with fail
    refine (l01Next_c g cv N (size - 2) _ HSc.out (by omega)).mono ?_
    rintro e wd ⟨r4, rfl, hr40, hr41, _, hSd, hod⟩
    have HSd := Lib.hid hSd
    have had := hac.trans hod
    have hr42 := hr41 (by omega)
    clear hSd hod hac HSc hr41
    go_wp2_with fail
    refine (IH.out (1 + r4) _ (by omega) (by omega) HSd.out).mono ?_
    rintro e we ⟨v1, xs, rfl, ho1, he1, hl1, hSe, hoe⟩
    have HSe := Lib.hid hSe
    have HE1 := Lib.hid he1
    have hsize := had.size
    have hae := had.trans hoe
    have HO1 := Lib.hid ho1
    clear hSe he1 hoe ho1
    go_wp2_with fail
    refine (l01Next_c g cv N 3 _ HSe.out (by omega)).mono ?_
    rintro e wf ⟨r5, rfl, hr50, hr51, _, hSf, hof⟩
    have HSf := Lib.hid hSf
    have HO2 := Lib.hid (own_src HO1.out (by omega) hof)
    have haf := hae.trans hof
    have hr52 := hr51 (by omega)
    clear hSf hof HO1 HSe hr51
    go_wp2_with fail
    refine (IH.out (size - 1 - (1 + r4)) _ (by omega) (by omega) HSf.out).mono ?_
    rintro e wg ⟨v2, ys, rfl, ho2, he2, hl2, hSg, hog⟩
    have HSg := Lib.hid hSg
    have HE2 := Lib.hid he2
    have hO3 := own_src HO2.out (by omega) hog
    have hag := haf.trans hog
    clear hSg he2 hog HSf HO2
    go_wp2_with fail
    refine (l02Pair_c _ v1 v2 xs ys _ hO3.nodes ho2.nodes (by omega)).mono ?_
    rintro e wh ⟨v3, rfl, ho3, hg3⟩
    go_wp2_with fail
    go_ret
    exact ⟨_, _, rfl, ho3.base hag.size, Fm.isEnc_join (by omega) HE1.out HE2.out, by simp [Fm.join]; omega, HSg.out.grew hg3, hag.grew hg3⟩
end Go.Proofs.Ythdffenpgkbjkaa

/- A copy: l02Own of the reference. -/
namespace Go.Proofs.Ythdffenpgkbjkaa
open Go.RowKit
open Fm (Nd)

theorem l02Own_c (v : Value) (xs : List Nd) (w : World) (h : Nodes w v xs) (hn : xs.length ≤ 1099511627775) :
    Calls Try.prog 47 #[v] w (Gives w xs) := by
  have he : Own (w.alloc (.cells #[] 46)) w.heap.size (.slice (some ⟨w.heap.size, 0, none⟩) 0 0) [] :=
    World.ownsRow_lit (e := 46) (size := 2) w #[] 0 (Nat.le_refl _) (by omega) rfl
  go_enter Try.func47, Try.ntmps47
  go_wp2_with (first
    | (at_builtin; refine wpList_app (w0 := w) _ _ rfl rfl _ [] rfl he ((Grew.refl w).alloc _) v xs rfl (h.grew ((Grew.refl w).alloc _)) (by simp; omega) ?_; intro v1 w1 hown1 hg1 _))
  go_ret
  exact ⟨_, rfl, by simpa using hown1, hg1⟩
end Go.Proofs.Ythdffenpgkbjkaa

/- Drawn lists of nodes: l01Pick, l02Bend, l02Any give an own row of nodes that isn't long; what it holds does not matter. -/
namespace Go.Proofs.Ythdffenpgkbjkaa
open Go.RowKit
open Fm (Nd)

theorem l01Pick_c (g : Nat) (cv : Value) (N : Nat) (b : Nat) (w : World) (h : Src w g cv N) (hb : b < w.heap.size) (hne : b ≠ g) (hc : ∀ j, j < 5 → ∃ x : Int, w.cell? ⟨b, j, none⟩ = some (.int .i64 x)) :
    Calls Try.prog 48 #[.pointer (some ⟨g, 0, none⟩), .slice (some ⟨b, 0, none⟩) 5 5] w fun e w' => ∃ r : Int, e = .returned (.int .i64 r) ∧ Src w' g cv N ∧ Only g w w' := by
  have HS := Lib.hid h
  have HC := Lib.hid hc
  clear h hc
  go_enter Try.func48, Try.ntmps48
  go_wp2_with fail
  refine (l01Next_c g cv N 5 _ HS.out (by omega)).mono ?_
  rintro e w1 ⟨r, rfl, hr0, hr1, _, hS1, ho1⟩
  have hr2 := hr1 (by omega)
  obtain ⟨k, rfl⟩ : ∃ k : Nat, r = (k : Int) := ⟨r.toNat, by omega⟩
  obtain ⟨x, hx⟩ := HC.out k (by omega)
  have hx1 := (ho1.cell (p := ⟨b, k, none⟩) hb hne).trans hx
  have HS1 := Lib.hid hS1
  clear hx hS1 hr1
  go_wp2_with fail
  go_ret
  exact ⟨_, rfl, HS1.out, ho1⟩

/-- Stores into an own row. -/
theorem cells_set0 {cur : Array Value} {xs : List Nd} {k : Nat} {a : Int} (hk : k < xs.length) (hs : xs.length * 2 ≤ cur.size)
    (h : ∀ i, i < xs.length → cur[i * 2]? = some (.int .i64 (kd xs i)) ∧ cur[i * 2 + 1]? = some (.int .i64 (sy xs i))) :
    ∀ i, i < (xs.set k (a, sy xs k)).length → (cur.setIfInBounds (k * 2) (.int .i64 a))[i * 2]? = some (.int .i64 (kd (xs.set k (a, sy xs k)) i)) ∧ (cur.setIfInBounds (k * 2) (.int .i64 a))[i * 2 + 1]? = some (.int .i64 (sy (xs.set k (a, sy xs k)) i)) := by
  intro i hi
  rw [List.length_set] at hi
  obtain ⟨h1, h2⟩ := h i hi
  simp only [Array.getElem?_setIfInBounds]
  by_cases he : k = i
  · subst he
    rw [if_pos rfl, if_pos (by omega), if_neg (by omega), h2]
    simp [kd, sy, List.getD, hk]
  · rw [if_neg (by omega), if_neg (by omega), h1, h2]
    simp [kd, sy, List.getD, he]
theorem cells_set1 {cur : Array Value} {xs : List Nd} {k : Nat} {a : Int} (hk : k < xs.length) (hs : xs.length * 2 ≤ cur.size)
    (h : ∀ i, i < xs.length → cur[i * 2]? = some (.int .i64 (kd xs i)) ∧ cur[i * 2 + 1]? = some (.int .i64 (sy xs i))) :
    ∀ i, i < (xs.set k (kd xs k, a)).length → (cur.setIfInBounds (k * 2 + 1) (.int .i64 a))[i * 2]? = some (.int .i64 (kd (xs.set k (kd xs k, a)) i)) ∧ (cur.setIfInBounds (k * 2 + 1) (.int .i64 a))[i * 2 + 1]? = some (.int .i64 (sy (xs.set k (kd xs k, a)) i)) := by
  intro i hi
  rw [List.length_set] at hi
  obtain ⟨h1, h2⟩ := h i hi
  simp only [Array.getElem?_setIfInBounds]
  by_cases he : k = i
  · subst he
    rw [if_neg (by omega), if_pos rfl, if_pos (by omega), h1]
    simp [kd, sy, List.getD, hk]
  · rw [if_neg (by omega), if_neg (by omega), h1, h2]
    simp [kd, sy, List.getD, he]

theorem step_apprdN {P : Program} (w : World) {ops : Array Oper} {o : Oper} {a : Act} {K : Act → World → Prop} {Q : Exit → Act → World → Prop} {E : Prop} (hgd : o.guard = none) (s x : Operand) (t : TypeId)
    (ho : o.op = .call { callee := .builtin .append, args := #[s, x], argTypes := #[t, t] })
    (base : Nat) (e : TypeId) (i : TypeInfo) (z : Value) (size bytes : Nat) (ht : P.underlying t = some (.slice e)) (hi : P.info? e = some i) (hz : i.zero = some z)
    (hsize : i.size = size) (hby : i.bytes = bytes) (hzs : z.cells.size = size) (hsz : 0 < size)
    (v : Value) (n : Nat) (xs : List Value) (hs : a.eval s = v) (hown : w.ownsRow base e size v n xs)
    (vx : Value) (m : Nat) (news : List Value) (hx : a.eval x = vx) (hr : Rd w size vx m news) (h1 : ∀ u ∈ news, u.oneCell' = true)
    (h63 : n + m ≤ maxLen) (hbytes : (n + m) * bytes ≤ 140737488355328) (hbase : base ≤ w.heap.size)
    (h : ∀ v' w', w'.ownsRow base e size v' (n + m) (xs ++ news) → w.grownBy w' v.ownBlock → K (a.put o.dst v') w') :
    if Region.wanted o (yielded ops a.tmps) = true then Oper.wp P o a w K Q else E := by
  have hw : Region.wanted o (yielded ops a.tmps) = true := by simp [Region.wanted, hgd]
  rw [if_pos hw]
  obtain ⟨hl, _, hr⟩ := hr
  rcases hr with ⟨rfl, rfl⟩ | ⟨b, of, c, rfl, _, _, _, hc⟩
  · have hnews : news = [] := List.eq_nil_of_length_eq_zero (by simpa using hl)
    subst hnews
    have hrun := run_append_owned_none (P := P) w base t o.type e i size ht hi v n xs hown
    unfold Oper.wp execOp
    simp only [ho, resolve, invoke, builtin, Sem.run_bind, Sem.run_pure, Result.andThen_ok, List.map_toArray, List.map_cons, List.map_nil, hs, hx, hrun]
    exact h v w (by simpa using hown) (World.grownBy.refl _ _)
  · obtain ⟨v', w', hrun, h2, h3, _, _⟩ := run_append_own_at (P := P) w base t o.type e i z size bytes ht hi hz hsize hby hzs hsz v n xs hown ⟨b, of, none⟩ m c news hl (fun j u hu => by rw [Addr.add_lit]; exact hc j u hu) h1 h63 hbytes hbase
    unfold Oper.wp execOp
    simp only [ho, resolve, invoke, builtin, Sem.run_bind, Sem.run_pure, Result.andThen_ok, List.map_toArray, List.map_cons, List.map_nil, hs, hx, hrun]
    exact h v' w' h2 h3
/-- 'append(out, xs...)' as one step of a region, out an own row of nodes from block B on. -/
theorem step_appN {ops : Array Oper} {o : Oper} {a : Act} {K : Act → World → Prop} {Q : Exit → Act → World → Prop} {E : Prop} {w : World} (B : Nat) (hgd : o.guard = none) (s x : Operand)
    (ho : o.op = .call { callee := .builtin .append, args := #[s, x], argTypes := #[24, 24] })
    (v : Value) (xs : List Nd) (hs : a.eval s = v) (hown : Own w B v xs) (hB : B ≤ w.heap.size) (vx : Value) (ys : List Nd) (hx : a.eval x = vx) (hr : Nodes w vx ys) (hn : xs.length + ys.length ≤ 1099511627776)
    (h : ∀ v' w', Own w' B v' (xs ++ ys) → w.grownBy w' v.ownBlock → K (a.put o.dst v') w') : if Region.wanted o (yielded ops a.tmps) = true then Oper.wp Try.prog o a w K Q else E := by
  obtain ⟨i0, hi0, hz0, hz1, hz2⟩ := info_parts Try.infoNd
  refine step_apprdN w hgd s x _ ho B 46 i0 _ 2 16 Try.underlying24 hi0 hz0 hz1 hz2 rfl (by omega) v xs.length (cells xs) hs hown vx ys.length (cells ys) hx hr (cells_one ys) (big2 hn).1 (big2 hn).2 hB ?_
  intro v' w' h1 h2
  refine h v' w' ?_ h2
  unfold Own
  rw [cells_append, List.length_append]
  exact h1
theorem wpList_appN {ops : Array Oper} {rest : List Oper} {o : Oper} {a : Act} {Q : Exit → Act → World → Prop} {w : World} (B : Nat) (s x : Operand) (hgd : o.guard = none)
    (ho : o.op = .call { callee := .builtin .append, args := #[s, x], argTypes := #[24, 24] })
    (v : Value) (xs : List Nd) (hs : a.eval s = v) (hown : Own w B v xs) (hB : B ≤ w.heap.size) (vx : Value) (ys : List Nd) (hx : a.eval x = vx) (hr : Nodes w vx ys) (hn : xs.length + ys.length ≤ 1099511627776)
    (h : ∀ v' w', Own w' B v' (xs ++ ys) → w.grownBy w' v.ownBlock → wpList Try.prog ops Q rest (a.put o.dst v') w') : wpList Try.prog ops Q (o :: rest) a w := by
  obtain ⟨i0, hi0, hz0, hz1, hz2⟩ := info_parts Try.infoNd
  refine wpList_append_rd w hgd s x _ ho B 46 i0 _ 2 16 Try.underlying24 hi0 hz0 hz1 hz2 rfl (by omega) v xs.length (cells xs) hs hown vx ys.length (cells ys) hx hr (cells_one ys) (big2 hn).1 (big2 hn).2 hB ?_
  intro v' w' h1 h2 _
  refine h v' w' ?_ h2
  unfold Own
  rw [cells_append, List.length_append]
  exact h1
theorem nodes_tail {w : World} {b o n c : Nat} {xs : List Nd} (h : Nodes w (.slice (some ⟨b, o, none⟩) n c) xs) (i : Nat) (hi : i ≤ n) (hn : n ≤ c) (hx : xs.length = n) : Nodes w (.slice (if c = i then some ⟨b, o, none⟩ else some ⟨b, o + i * 2, none⟩) (n - i) (c - i)) (xs.drop i) := by
  obtain ⟨h1, h2, h3⟩ := h
  have hl : (xs.drop i).length = n - i := by rw [List.length_drop]; omega
  unfold Nodes
  rw [hl]
  refine ⟨by rw [cells_length, hl], by omega, ?_⟩
  rcases h3 with ⟨h4, _⟩ | ⟨b', o', c', h4, h5, h6, h7, h8⟩
  · cases h4
  · obtain ⟨⟨rfl, rfl⟩, _, rfl⟩ : (b = b' ∧ o = o') ∧ n = xs.length ∧ c = c' := by simpa using h4
    refine .inr ⟨b, if c = i then o else o + i * 2, c - i, by split <;> rfl, by omega, by omega, h7, fun j u hu => ?_⟩
    have hj : j < (cells (xs.drop i)).length := (List.getElem?_eq_some_iff.1 hu).1
    rw [cells_length, hl] at hj
    rw [if_neg (by omega)]
    have e : cells xs = cells (xs.take i) ++ cells (xs.drop i) := by rw [← cells_append, List.take_append_drop]
    have hk : (cells (xs.take i)).length = i * 2 := by rw [cells_length, List.length_take]; congr 1; omega
    have := h8 (i * 2 + j) u (by rw [e, List.getElem?_append_right (by omega), hk]; simpa using hu)
    rw [Nat.add_assoc]
    exact this

theorem Src.other {w w' : World} {g gb : Nat} {v : Value} {N : Nat} (h : Src w g v N) (ho : Only gb w w') (hgb : g < gb) : Src w' g v N := by
  have hl := h.lt
  obtain ⟨⟨h1, h2, h3⟩, i, x, h4, h5, h6, h7⟩ := h
  refine ⟨⟨h1, h2, fun hp => ?_⟩, i, x, h4, h5, h6, (ho.block hl (by omega)).trans h7⟩
  obtain ⟨b, o, c, e, hb, hc, hm, hx⟩ := h3 hp
  refine ⟨b, o, c, e, hb, hc, hm, fun j hj => ?_⟩
  obtain ⟨y, y0, y1, hcell⟩ := hx j hj
  exact ⟨y, y0, y1, (ho.cell (p := ⟨b, o + j, none⟩) (by show b < _; omega) (by show b ≠ gb; omega)).trans hcell⟩
theorem Only.newer {g gb : Nat} {a b c : World} (h : Only g a b) (k : Only gb b c) (hgb : a.heap.size ≤ gb) : Only g a c :=
  ⟨k.os.trans h.os, k.tape.trans h.tape, k.output.trans h.output, Nat.le_trans h.size k.size, fun i hi hne => (k.block (Nat.lt_of_lt_of_le hi h.size) (by omega)).trans (World.grownBy.block h i hi hne)⟩

theorem Src.other2 {w w' : World} {g : Nat} {v : Value} {N : Nat} {r : Option Nat} (h : Src w g v N) (ho : w.grownBy w' r) (hr : ∀ b, r = some b → g < b) : Src w' g v N := by
  cases r with
  | none => exact h.other (gb := w.heap.size) ⟨ho.os, ho.tape, ho.output, ho.size, fun i hi _ => ho.block i hi (by simp)⟩ h.lt
  | some b => exact h.other (gb := b) ho (hr b rfl)
theorem Only.newer2 {g : Nat} {a b c : World} {r : Option Nat} (h : Only g a b) (ho : b.grownBy c r) (hr : ∀ k, r = some k → a.heap.size ≤ k) : Only g a c := by
  cases r with
  | none => exact h.newer (gb := b.heap.size) ⟨ho.os, ho.tape, ho.output, ho.size, fun i hi _ => ho.block i hi (by simp)⟩ h.size
  | some k => exact h.newer (gb := k) ho (hr k rfl)

/-- What the bending gives: an own row of at most as many nodes as told. -/
def Bent (w : World) (g : Nat) (cv : Value) (N : Nat) (n : Nat) (e : Ending) (w' : World) : Prop :=
  ∃ v xs, e = .returned v ∧ Own w' w.heap.size v xs ∧ xs.length ≤ n ∧ Src w' g cv N ∧ Only g w w'

theorem l02Bend_c (g : Nat) (cv : Value) (N : Nat) (v : Value) (xs : List Nd) (w : World) (h : Src w g cv N) (hv : Nodes w v xs) (h0 : 0 < xs.length) (hn : xs.length ≤ 1000) :
    Calls Try.prog 25 #[.pointer (some ⟨g, 0, none⟩), v] w (Bent w g cv N (xs.length + 1)) := by
  have HS := Lib.hid h
  have hgl := h.lt
  clear h
  go_enter Try.func25, Try.ntmps25
  go_wp2_with fail
  refine (l02Own_c _ _ _ hv (by omega)).mono ?_
  rintro e w1 ⟨v1, rfl, ho1, hg1⟩
  obtain ⟨A1, c1, rfl⟩ := nodes_slice ho1.nodes
  have HO1 := Lib.hid ho1
  clear ho1
  go_wp2_with fail
  refine (l01Next_c g cv N xs.length _ (HS.out.grew hg1) (by omega)).mono ?_
  rintro e w2 ⟨r2, rfl, hr20, hr21, _, hS2, ho2⟩
  have hr22 := hr21 (by omega)
  obtain ⟨k, rfl⟩ : ∃ k : Nat, r2 = (k : Int) := ⟨r2.toNat, by omega⟩
  have hk : k < xs.length := by omega
  have HS2 := Lib.hid hS2
  clear hS2 hr21
  go_wp2_with fail
  refine (l01Next_c g cv N 5 _ HS2.out (by omega)).mono ?_
  rintro e w3 ⟨r3, rfl, hr30, hr31, _, hS3, ho3⟩
  have HS3 := Lib.hid hS3
  have hO3 := own_src HO1.out hgl (ho2.trans ho3)
  have hw3 := (hg1.only.trans ho2).trans ho3 (g := g)
  have hr32 := hr31 (by omega)
  clear hS3 HS2 HO1 ho2 ho3 hr31
  cases b0 : (r3 == 0) with
  | true =>
    go_wp2_with fail
    refine (l01Next_c g cv N 9 _ HS3.out (by omega)).mono ?_
    rintro e w4 ⟨r4, rfl, hr40, hr41, _, hS4, ho4⟩
    have hO4 := own_src hO3 hgl ho4
    have HS4 := Lib.hid hS4
    have hr42 := hr41 (by omega)
    have hw4 := hw3.trans ho4
    rcases hO4.open_ with ⟨_, rfl⟩ | ⟨gb, cb, cur, hvb, hBg, hgl4, hblk, hnc, hcm, hcs, hcell⟩
    · simp at h0
    simp only [Value.slice.injEq] at hvb
    obtain ⟨rfl, -, rfl⟩ := hvb
    have hk2 := hcell k hk
    have hcl : w4.cell? ⟨gb, k * 2, none⟩ = some (.int .i64 (kd xs k)) := by rw [blk_cell hblk]; exact hk2.1
    have hfr := blk_frozen hblk (k * 2)
    have HB := Lib.hid hblk
    have HCE := Lib.hid hcell
    clear hblk hcell hO4 hO3 hS4 hr41 hk2
    go_wp2_with fail
    go_ret
    refine ⟨_, xs.set k (r4 - 1, sy xs k), rfl, ?_, by simp, ?_, ?_⟩
    · have := Own.mk_ (w := w4.setCell ⟨gb, k * 2, none⟩ (.int .i64 (r4 - 1))) (B := w.heap.size) (xs := xs.set k (r4 - 1, sy xs k)) (c := c1) hBg (blk_set HB.out (k * 2) _) (by simpa using hnc) hcm (by simpa using hcs) (cells_set0 hk (by omega) HCE.out)
      simpa using this
    · exact HS4.out.other ((Only.refl gb w4).setCell _) (by omega)
    · exact hw4.newer ((Only.refl gb w4).setCell _) hBg
  | false =>
  cases b1 : (r3 == 1) with
  | true =>
    have hnew := fun o => blk_new w3 o
    have hal := fun o => (Grew.refl w3).alloc o
    go_wp2_with fail
    refine (l01Pick_c g cv N w3.heap.size _ (HS3.out.grew (hal _)) (blk_lt (hnew _)) (by have := HS3.out.lt; omega) (fun j hj => ?_)).mono ?_
    · rw [blk_cell (hnew _)]
      rcases (by omega : j = 0 ∨ j = 1 ∨ j = 2 ∨ j = 3 ∨ j = 4) with rfl | rfl | rfl | rfl | rfl <;> exact ⟨_, rfl⟩
    rintro e w4 ⟨r4, rfl, hS4, ho4⟩
    have hO4 := own_src (hO3.grew (hal _)) hgl ho4
    have hw4 := (hw3.trans (hal _).only).trans ho4 (g := g)
    have HS4 := Lib.hid hS4
    rcases hO4.open_ with ⟨_, rfl⟩ | ⟨gb, cb, cur, hvb, hBg, hgl4, hblk, hnc, hcm, hcs, hcell⟩
    · simp at h0
    simp only [Value.slice.injEq] at hvb
    obtain ⟨rfl, -, rfl⟩ := hvb
    have hk2 := hcell k hk
    have hcl : w4.cell? ⟨gb, k * 2 + 1, none⟩ = some (.int .i64 (sy xs k)) := by rw [blk_cell hblk]; exact hk2.2
    have hfr := blk_frozen hblk (k * 2 + 1)
    have HB := Lib.hid hblk
    have HCE := Lib.hid hcell
    clear hblk hcell hO4 hO3 hS4 hk2 hnew hal ho4
    go_wp2_with fail
    go_ret
    refine ⟨_, xs.set k (kd xs k, r4), rfl, ?_, by simp, ?_, ?_⟩
    · have := Own.mk_ (w := w4.setCell ⟨gb, k * 2 + 1, none⟩ (.int .i64 r4)) (B := w.heap.size) (xs := xs.set k (kd xs k, r4)) (c := c1) hBg (blk_set HB.out (k * 2 + 1) _) (by simpa using hnc) hcm (by simpa using hcs) (cells_set1 hk (by omega) HCE.out)
      simpa using this
    · exact HS4.out.other ((Only.refl gb w4).setCell _) (by omega)
    · exact hw4.newer ((Only.refl gb w4).setCell _) hBg
  | false =>
  cases b2 : (r3 == 2) with
  | true =>
    go_wp2_with fail
    refine (l01Next_c g cv N 7 _ HS3.out (by omega)).mono ?_
    rintro e w4 ⟨r4, rfl, hr40, hr41, _, hS4, ho4⟩
    have hO4 := own_src hO3 hgl ho4
    have HS4 := Lib.hid hS4
    have HO4 := Lib.hid (hO4.grew ((Grew.refl w4).alloc (.cells #[.int .i64 r4, .int .i64 0] 46)))
    have hw4 := hw3.trans ho4
    have hone := Own.one w4 w4.heap.size r4 0 (Nat.le_refl _)
    clear hS4 ho4 hO3 hO4 hr41
    go_wp2_with (first
      | (at_builtin; refine wpList_appN w.heap.size _ _ rfl rfl _ xs rfl HO4.out (Nat.le_trans hw4.size ((Grew.refl w4).alloc _).size) _ [(r4, 0)] rfl hone.nodes (by simp; omega) ?_; intro v5 w5 hown5 hg5))
    go_ret
    refine ⟨_, _, rfl, hown5, by simp, ?_, ?_⟩
    · exact (HS4.out.grew ((Grew.refl w4).alloc _)).other2 hg5 (fun b hb => Nat.lt_of_lt_of_le hgl (own_of_ge HO4.out hb))
    · exact (hw4.grew ((Grew.refl w4).alloc _)).newer2 hg5 (fun b hb => own_of_ge HO4.out hb)
  | false =>
  cases b3 : (r3 == 3) with
  | true =>
    have i1 : (k : Int) ≤ (c1 : Int) := by
      have := hO3.nodes.open_
      rcases this with ⟨_, rfl⟩ | ⟨b, o, c, hv, hc, _⟩
      · simp at h0
      · simp only [Value.slice.injEq] at hv
        obtain ⟨-, -, rfl⟩ := hv
        omega
    rcases hO3.open_ with ⟨_, rfl⟩ | ⟨gb, cb, cur, hvb, hBg, hgl4, hblk, hnc, hcm, hcs, hcell⟩
    · simp at h0
    simp only [Value.slice.injEq] at hvb
    obtain ⟨rfl, -, rfl⟩ := hvb
    have HB := Lib.hid hblk
    have HCE := Lib.hid hcell
    clear hblk hcell hO3
    go_wp2_with fail
    go_ret
    refine ⟨_, xs.take k, rfl, ?_, by rw [List.length_take]; omega, HS3.out, hw3⟩
    have hl : (xs.take k).length = k := by rw [List.length_take]; omega
    have := Own.mk_ (w := w3) (B := w.heap.size) (xs := xs.take k) (c := c1) hBg HB.out (by omega) hcm hcs (fun i hi => ?_)
    · rw [hl] at this
      exact this
    · rw [hl] at hi
      have := HCE.out i (by omega)
      simpa [kd, sy, List.getD, hi] using this
  | false =>
  cases b4 : (r3 == 4) with
  | true =>
    rcases hO3.open_ with ⟨_, rfl⟩ | ⟨gb, cb, cur, hvb, hBg, hgl4, hblk, hnc, hcm, hcs, hcell⟩
    · simp at h0
    simp only [Value.slice.injEq] at hvb
    obtain ⟨rfl, -, rfl⟩ := hvb
    have i1 : (k : Int) ≤ (c1 : Int) := by omega
    have i2 : (k : Int) + 1 ≤ (xs.length : Int) := by omega
    have i3 : (0 : Int) ≤ (k : Int) + 1 := by omega
    have i4 : IntKind.i64.wrap ((k : Int) + 1) = (k : Int) + 1 := by rw [IntKind.wrap_i64]; omega
    have hl : (xs.take k).length = k := by rw [List.length_take]; omega
    have hown0 : Own w3 w.heap.size (.slice (some ⟨gb, 0, none⟩) k c1) (xs.take k) := by
      have := Own.mk_ (w := w3) (B := w.heap.size) (xs := xs.take k) (c := c1) hBg hblk (by omega) hcm hcs (fun i hi => ?_)
      · rw [hl] at this
        exact this
      · rw [hl] at hi
        have := hcell i (by omega)
        simpa [kd, sy, List.getD, hi] using this
    have R2 := nodes_tail hO3.nodes (k + 1) (by omega) hnc rfl
    have hr0 := Grew.refl w3
    have HOW := Lib.hid (fun W (hW : Grew w3 W) => hown0.grew hW)
    have HR2 := Lib.hid (fun W (hW : Grew w3 W) => R2.grew hW)
    clear hblk hcell hown0 R2 hO3
    go_wp2_with fail
    have hsz := Nat.le_trans hw3.size (Nat.le_refl _)
    have ho1 := HOW.out _ hr0.drew
    have ho2 := HR2.out _ hr0.drew
    have hlk : (xs.take k).length + (xs.drop (k + 1)).length ≤ 1099511627776 := by simp; omega
    go_region_law (refine step_appN (w := w3.drew) w.heap.size rfl (.tmp 50) (.tmp 54) rfl (.slice (some ⟨gb, 0, none⟩) k c1) (xs.take k) (by simp [Act.eval, Act.put]) ho1 hsz (.slice (if c1 = k + 1 then some ⟨gb, 0, none⟩ else some ⟨gb, 0 + (k + 1) * 2, none⟩) (xs.length - (k + 1)) (c1 - (k + 1))) (xs.drop (k + 1)) (by simp [Act.eval, Act.put]) ho2 hlk ?_; intro v4 w4 hown4 hg4)
    go_wp2_with fail
    all_goals
      go_ret
      exact ⟨_, _, rfl, hown4, by simp; omega, HS3.out.grew hr0.drew |>.other2 hg4 (fun b hb => by simp [Value.ownBlock] at hb; omega), (hw3.grew hr0.drew).newer2 hg4 (fun b hb => by simp [Value.ownBlock] at hb; omega)⟩
  | false =>
    simp only [beq_eq_false_iff_ne, ne_eq] at b0 b1 b2 b3 b4
    omega

theorem isEnc_pos {xs : List Nd} (h : Fm.IsEnc xs) : 0 < xs.length := by
  obtain ⟨t, rfl⟩ := h
  cases t <;> simp [Fm.enc]

def slen : Value → Nat
  | .slice _ n _ => n
  | _ => 0

theorem l02Any_c (g : Nat) (cv : Value) (N : Nat) (w : World) (h : Src w g cv N) :
    Calls Try.prog 13 #[.pointer (some ⟨g, 0, none⟩), .int .i64 20, .int .i64 6, .bool true] w (Bent w g cv N 47) := by
  have HS := Lib.hid h
  have hgl := h.lt
  clear h
  go_enter Try.func13, Try.ntmps13
  go_wp2_with fail
  refine (l02Draw_c g cv N 20 20 _ (by omega) (by omega) (by omega) HS.out).mono ?_
  rintro e w1 ⟨v1, xs, rfl, ho1, he1, hl1, hS1, hw1⟩
  have HO1 := Lib.hid ho1
  have HS1 := Lib.hid hS1
  have hp1 := isEnc_pos he1
  clear ho1 hS1 he1
  go_wp2_with fail
  refine (l01Next_c g cv N 40 _ HS1.out (by omega)).mono ?_
  rintro e w2 ⟨r, rfl, hr0, hr1, _, hS2, ho2⟩
  have HO2 := Lib.hid (own_src HO1.out hgl ho2)
  have HS2 := Lib.hid hS2
  have hw2 := hw1.trans ho2
  clear hS2 ho2 HO1 HS1 hr1
  cases b0 : (r == 0) with
  | true =>
    go_wp2_with fail
    refine (l02Bend_c g cv N v1 xs _ HS2.out HO2.out.nodes hp1 (by omega)).mono ?_
    rintro e w3 ⟨v3, ys, rfl, ho3, hl3, hS3, hw3⟩
    go_wp2_with fail
    go_ret
    exact ⟨_, _, rfl, ho3.base hw2.size, by omega, hS3, hw2.trans hw3⟩
  | false =>
  cases b1 : (r == 1) with
  | false =>
    go_wp2_with fail
    go_ret
    exact ⟨_, _, rfl, HO2.out, by omega, HS2.out, hw2⟩
  | true =>
    go_wp2_with fail
    go_loopw [9] (fun vv wr => ∃ ys, Own wr w.heap.size vv ys ∧ ys.length ≤ 47 ∧ Src wr g cv N ∧ Only g w wr) (fun vv _ => 48 - slen vv)
    case atStart => exact ⟨xs, HO2.out, by omega, HS2.out, hw2⟩
    case round =>
      obtain ⟨ys, hO, hl, hS, hB⟩ := hrel
      obtain ⟨A, c, rfl⟩ := nodes_slice hO.nodes
      have HS := Lib.hid hS
      have HO := Lib.hid hO
      clear hS hO
      cases h40 : decide ((ys.length : Int) ≤ 40) with
      | false =>
        go_wp2_with fail
        go_ret
        exact ⟨_, _, rfl, HO.out, hl, HS.out, hB⟩
      | true =>
        simp only [decide_eq_true_eq] at h40
        go_wp2_with fail
        refine (l01Next_c g cv N 60 _ HS.out (by omega)).mono ?_
        rintro e w3 ⟨r3, rfl, _, _, _, hS3, ho3⟩
        have HO3 := Lib.hid (own_src HO.out hgl ho3)
        have HS3 := Lib.hid hS3
        have hw3 := hB.trans ho3
        clear hS3 ho3 HO HS hB
        by_cases h3 : 0 < r3
        · go_wp2_with fail
          refine (l01Next_c g cv N 3 _ HS3.out (by omega)).mono ?_
          rintro e w4 ⟨r4, rfl, hr40, hr41, _, hS4, ho4⟩
          have HO4 := Lib.hid (own_src HO3.out hgl ho4)
          have HS4 := Lib.hid hS4
          have hw4 := hw3.trans ho4
          have hr42 := hr41 (by omega)
          clear hS4 ho4 HO3 HS3 hw3 hr41
          go_wp2_with fail
          refine (l02Draw_c g cv N 6 6 _ (by omega) (by omega) (by omega) HS4.out).mono ?_
          rintro e w5 ⟨v5, zs, rfl, ho5, he5, hl5, hS5, hw5⟩
          have HO5 := Lib.hid (own_src HO4.out hgl hw5)
          have HS5 := Lib.hid hS5
          have hw6 := hw4.trans hw5
          have hp5 := isEnc_pos he5
          clear hS5 HO4 HS4 hw4 he5
          go_wp2_with fail
          refine (l02Pair_c _ _ v5 ys zs _ HO5.out.nodes ho5.nodes (by omega)).mono ?_
          rintro e w7 ⟨v7, rfl, ho7, hg7⟩
          obtain ⟨A7, c7, rfl⟩ := nodes_slice ho7.nodes
          have HL7 := Lib.hid (show (Fm.join (2 + r4) ys zs).length = 1 + ys.length + zs.length by simp [Fm.join]; omega)
          go_wp2_with fail
          go_roundw
          case rel => exact ⟨_, ho7.base hw6.size, by rw [HL7.out]; omega, HS5.out.grew hg7, hw6.grew hg7⟩
          case measure => simp only [slen]; rw [HL7.out]; omega
        · go_wp2_with fail
          go_ret
          exact ⟨_, _, rfl, HO3.out, hl, HS3.out, hw3⟩
end Go.Proofs.Ythdffenpgkbjkaa

/- The source made: l01From; the damage: l01Damage. -/
namespace Go.Proofs.Ythdffenpgkbjkaa
open Go.RowKit

/-- The bytes that came in. -/
def ArgB (w : World) (v : Value) (N : Nat) : Prop :=
  (∃ A c, v = .slice A N c) ∧ N ≤ 9223372036854775807 ∧ (0 < N → ∃ b o c, v = .slice (some ⟨b, o, none⟩) N c ∧ b < w.heap.size ∧ N ≤ c ∧ c ≤ 9223372036854775807 ∧ ∀ j, j < N → ∃ x : Int, 0 ≤ x ∧ x ≤ 255 ∧ w.cell? ⟨b, o + j, none⟩ = some (.int .u8 x))
theorem ArgB.code {w w' : World} {v : Value} {N g : Nat} (h : ArgB w v N) (hN : N ≤ 4096) (hg : Grew w w') (hl : w.heap.size ≤ g) : Code w' g v N := by
  obtain ⟨h1, _, h2⟩ := h
  refine ⟨hN, h1, fun hp => ?_⟩
  obtain ⟨b, o, c, e, hb, hc, hm, hx⟩ := h2 hp
  refine ⟨b, o, c, e, by omega, hc, hm, fun j hj => ?_⟩
  obtain ⟨x, x0, x1, hcell⟩ := hx j hj
  exact ⟨x, x0, x1, (hg.cell (p := ⟨b, o + j, none⟩) hb).trans hcell⟩

theorem l01From_c (v : Value) (N : Nat) (w : World) (h : ArgB w v N) (hN : N ≤ 4096) :
    Calls Try.prog 14 #[v] w fun e w' => ∃ g, e = .returned (.pointer (some ⟨g, 0, none⟩)) ∧ w.heap.size ≤ g ∧ Src w' g v N ∧ Grew w w' := by
  have HC := Lib.hid (fun w' (hg : Grew w w') => h.code hN hg (Nat.le_refl w.heap.size))
  obtain ⟨⟨A, c, rfl⟩, hmax, h2⟩ := h
  have H2 := Lib.hid h2
  clear h2
  go_enter Try.func14, Try.ntmps14
  go_wp2_with fail
  have hnew := fun o => blk_new w o
  go_loopw [4] (fun i wr => ∃ (j : Nat) (x : Int), j ≤ N ∧ i = .int .i64 j ∧ 0 ≤ x ∧ x ≤ 18446744073709551615 ∧ wr.heap[w.heap.size]? = some (.cells #[.slice A N c, .int .i64 0, .int .u64 x] 55 (0, 0)) ∧ Grew w wr) (fun i _ => N - (intOf i).toNat)
  case atStart => exact ⟨0, _, Nat.zero_le _, rfl, by omega, by omega, hnew _, (Grew.refl w).alloc _⟩
  case round =>
    obtain ⟨j, x, hj, rfl, hx0, hx1, hb, hB⟩ := hrel
    by_cases hlt : j < N
    · obtain ⟨b, o, c', e, hbg, hc, hm, hx⟩ := H2.out (by omega)
      obtain ⟨y, hy0, hy1, k1⟩ := hx j hlt
      obtain ⟨rfl, rfl⟩ : A = some ⟨b, o, none⟩ ∧ c = c' := by simpa using e
      have k2 := (hB.cell (p := ⟨b, o + j, none⟩) hbg).trans k1
      have c2 : wr.cell? ⟨w.heap.size, 2, none⟩ = some (.int .u64 x) := by rw [blk_cell hb]; rfl
      have f2 := blk_frozen hb 2
      have HB := Lib.hid hb
      have h4 : (j : Int) < 4096 := by omega
      clear hb e hx k1
      go_wp2_with fail
      have hw0 : ∀ z : Int, 0 ≤ IntKind.u64.wrap z := fun z => by rw [IntKind.wrap_u64]; omega
      have hw1 : ∀ z : Int, IntKind.u64.wrap z ≤ 18446744073709551615 := fun z => by rw [IntKind.wrap_u64]; omega
      have HW0 := Lib.hid hw0
      have HW1 := Lib.hid hw1
      clear hw0 hw1
      go_region
      go_wp2_with fail
      go_roundw
      case rel => exact ⟨j + 1, _, by omega, by go_num, HW0.out _, HW1.out _, blk_set (w := wr.drewN _) HB.out 2 _, (hB.drewN _).setCell (Nat.le_refl _) _⟩
      case measure => simp [intOf]; omega
    · go_wp2_with fail
      go_ret
      exact ⟨_, rfl, Nat.le_refl _, ⟨HC.out _ hB, 0, x, Nat.zero_le _, hx0, hx1, hb⟩, hB⟩
end Go.Proofs.Ythdffenpgkbjkaa

/- A predicate on nodes: IndexFunc, ContainsFunc. -/
namespace Go.Proofs.Ythdffenpgkbjkaa
open Go.RowKit
open Fm (Nd)

/-- None of the first k nodes meets the predicate. -/
def NoneP (p : Int → Int → Bool) (xs : List Nd) (k : Nat) : Prop := ∀ i, i < k → p (kd xs i) (sy xs i) = false
theorem NoneP.zero (p : Int → Int → Bool) (xs : List Nd) : NoneP p xs 0 := fun i hi => absurd hi (by omega)
theorem NoneP.succ {p : Int → Int → Bool} {xs : List Nd} {k : Nat} (h : NoneP p xs k) (h1 : p (kd xs k) (sy xs k) = false) : NoneP p xs (k + 1) := by
  intro i hi
  rcases Nat.lt_or_ge i k with hk | hk
  · exact h i hk
  · obtain rfl : i = k := by omega
    exact h1
/-- Some node meets the predicate. -/
noncomputable def anyP (p : Int → Int → Bool) (xs : List Nd) : Bool := !@decide (NoneP p xs xs.length) (Classical.propDecidable _)
theorem anyP_no {p : Int → Int → Bool} {xs : List Nd} (h : NoneP p xs xs.length) : anyP p xs = false := by
  unfold anyP
  rw [@decide_eq_true _ (Classical.propDecidable _) h]
  rfl
theorem anyP_at {p : Int → Int → Bool} {xs : List Nd} {k : Nat} (hk : k < xs.length) (h : p (kd xs k) (sy xs k) = true) : anyP p xs = true := by
  unfold anyP
  rw [@decide_eq_false _ (Classical.propDecidable _) fun H => by rw [H k hk] at h; cases h]
  rfl

/-- What the function value gives at a node. -/
def PredOk (f : Nat) (p : Int → Int → Bool) : Prop := ∀ a b W, Calls Try.prog f #[.agg #[.int .i64 a, .int .i64 b]] W fun e w' => e = .returned (.bool (p a b)) ∧ Grew W w'

theorem indexFunc_c (v : Value) (xs : List Nd) (f : Nat) (p : Int → Int → Bool) (w : World) (h : Nodes w v xs) (hn : xs.length ≤ 1099511627776) (hf : PredOk f p) (eg : ∀ args w, (callFunc f args).run Try.prog w = .ok (.enter f args) w) :
    Calls Try.prog 49 #[v, .func (.func f) #[] #[]] w fun e w' => ∃ r : Int, e = .returned (.int .i64 r) ∧ Grew w w' ∧ decide (0 ≤ r) = anyP p xs := by
  rcases h.open_ with ⟨rfl, rfl⟩ | ⟨b, o, c, rfl, hc, hm, hb, hcell⟩
  · rw [anyP_no (NoneP.zero _ _)]
    clear h hf
    go_enter Try.func49, Try.ntmps49
    go_wp2_with fail
    refine wp_loop_rounds 1 ?_; rw [rounds_succ]
    go_wp2_with fail
    go_ret
    exact ⟨_, rfl, Grew.refl _, rfl⟩
  obtain ⟨R, hR⟩ : ∃ R, R = anyP p xs := ⟨_, rfl⟩
  rw [← hR]
  have HA := Lib.hid (fun k hk h => hR.trans (@anyP_at p xs k hk h))
  have HZ := Lib.hid (fun h => hR.trans (@anyP_no p xs h))
  have HC := Lib.hid hcell
  have HF := Lib.hid hf
  clear hcell h hf hR
  generalize hN : xs.length = n at *
  clear hN
  go_enter Try.func49, Try.ntmps49
  go_wp2_with fail
  go_loopw [5, 8] (fun _ i wr => ∃ j : Nat, j ≤ n ∧ i = .int .i64 j ∧ Grew w wr ∧ Hid (NoneP p xs j)) (fun _ i _ => n - (intOf i).toNat)
  case atStart => exact ⟨0, Nat.zero_le _, rfl, Grew.refl _, NoneP.zero _ _⟩
  case round =>
    obtain ⟨j, hj, rfl, hB, HJ⟩ := hrel
    by_cases hlt : j < n
    · have k1 := (HC.out j hlt _ hB).1
      have k2 := (HC.out j hlt _ hB).2
      have hA := Lib.hid (HA.out j hlt)
      have hS := Lib.hid (fun h => HJ.out.succ (k := j) h)
      generalize kd xs j = x at *
      generalize sy xs j = y at *
      go_wp2_with fail
      go_at_fn f
      refine (HF.out x y _).mono ?_
      rintro e w1 ⟨rfl, hg1⟩
      have hB1 := hB.trans hg1
      cases hp : p x y with
      | true =>
        have hv := hA.out hp
        go_wp2_with fail
        go_ret
        exact ⟨_, rfl, hB1, by rw [hv]; simp⟩
      | false =>
        have hs := Lib.hid (hS.out hp)
        go_wp2_with fail
        go_roundw
        case rel => exact ⟨j + 1, by omega, by go_num, hB1, hs⟩
        case measure => simp [intOf]; omega
    · obtain rfl : j = n := by omega
      have hv := Lib.hid (HZ.out HJ.out)
      go_wp2_with fail
      go_ret
      exact ⟨_, rfl, hB, by rw [hv.out]; rfl⟩

theorem containsFunc_c (v : Value) (xs : List Nd) (f : Nat) (p : Int → Int → Bool) (w : World) (h : Nodes w v xs) (hn : xs.length ≤ 1099511627776) (hf : PredOk f p) (eg : ∀ args w, (callFunc f args).run Try.prog w = .ok (.enter f args) w) :
    Calls Try.prog 27 #[v, .func (.func f) #[] #[]] w fun e w' => e = .returned (.bool (anyP p xs)) ∧ Grew w w' := by
  have HI := Lib.hid (indexFunc_c v xs f p w h hn hf eg)
  clear h hf eg
  generalize anyP p xs = R at *
  go_enter Try.func27, Try.ntmps27
  go_wp2_with fail
  refine HI.out.mono ?_
  rintro e w1 ⟨r, rfl, hg1, hr⟩
  go_wp2_with fail
  go_ret
  exact ⟨by rw [← hr]; rfl, hg1⟩

end Go.Proofs.Ythdffenpgkbjkaa

/- The text of a formula is parsed to the formula. No program is in sight. -/
namespace Go.Proofs.Ythdffenpgkbjkaa
namespace Fm

theorem sees_drop {s : List UInt8} {i : Nat} {c : UInt8} {r : List UInt8} (h : s.drop i = c :: r) (d : UInt8) : sees s (i, false) d = (c == d) := by
  have h1 : s[i]? = some c := by
    have := congrArg List.head? h
    simpa using this
  unfold sees
  rw [h1]
  rw [Bool.eq_iff_iff]
  simp
theorem sees_none {s : List UInt8} {i : Nat} {r : List UInt8} {d : UInt8} (h : s.drop i = r) (hd : r.head? ≠ some d) : sees s (i, false) d = false := by
  have h1 : s[i]? = r.head? := by rw [← h]; simp
  unfold sees
  rw [h1]
  cases hr : r.head? with
  | none => rfl
  | some c =>
    rw [hr] at hd
    have : c ≠ d := fun e => hd (by rw [e])
    simp [this]
theorem drop_tail {s : List UInt8} {i : Nat} {x r : List UInt8} (h : s.drop i = x ++ r) : s.drop (i + x.length) = r := by
  rw [← List.drop_drop, h, List.drop_left]
theorem drop_len {s : List UInt8} {i : Nat} {x r : List UInt8} (h : s.drop i = x ++ r) (hx : 1 ≤ x.length) : i + x.length ≤ s.length := by
  have := congrArg List.length h
  simp only [List.length_drop, List.length_append] at this
  omega
theorem txt_pos (t : Tree) (l : Nat) : 1 ≤ (txt t l).length := by
  cases t with
  | var v => simp [txt]
  | fls => simp [txt]
  | and a b => simp only [txt, wrap]; split <;> simp <;> omega
  | or a b => simp only [txt, wrap]; split <;> simp <;> omega
  | imp a b => simp only [txt, wrap]; split <;> split <;> simp <;> omega
  | box a => simp only [txt, List.length_append, List.length_cons]; omega
  | dia a => simp only [txt, List.length_append, List.length_cons]; omega

section
variable (s : List UInt8) (m : Nat)
/-- The text at level 3 is read by the lowest level of the parser. -/
def P3 (t : Tree) : Prop := ∀ (f i : Nat) (r : List UInt8), s.drop i = txt t 3 ++ r → s.length - i < f → preF s m f (i, false) = (enc t, (i + (txt t 3).length, false))
def P2 (t : Tree) : Prop := ∀ (f i : Nat) (r : List UInt8), s.drop i = txt t 2 ++ r → s.length - i < f →
  ∃ k, s.length - (i + (txt t 2).length) < k ∧ andF s m (preF s m f) (i, false) = loop s 2 38 (preF s m f) k (enc t) (i + (txt t 2).length, false)
def P1 (t : Tree) : Prop := ∀ (f i : Nat) (r : List UInt8), s.drop i = txt t 1 ++ r → s.length - i < f → r.head? ≠ some 38 →
  ∃ k, s.length - (i + (txt t 1).length) < k ∧ orF s m (preF s m f) (i, false) = loop s 3 124 (andF s m (preF s m f)) k (enc t) (i + (txt t 1).length, false)
def P0 (t : Tree) : Prop := ∀ (f n i : Nat) (r : List UInt8), s.drop i = txt t 0 ++ r → s.length - i < f → s.length - i < n → r.head? ≠ some 38 → r.head? ≠ some 124 → r.head? ≠ some 62 →
  impF s m (preF s m f) n (i, false) = (enc t, (i + (txt t 0).length, false))
end

section
variable {s : List UInt8} {m : Nat}

theorem loop_stop {k : Int} {c : UInt8} {sub : St → Res} {n : Nat} {a : List Nd} {st : St} (h : sees s st c = false) : loop s k c sub n a st = (a, st) := by
  cases n with
  | zero => rfl
  | succ n => rw [loop, if_neg (by rw [h]; decide)]

/-- From the lowest level to the next one, where the text is the same. -/
theorem up2 (hm : s.length < m) {t : Tree} (ht : txt t 2 = txt t 3) (h : P3 s m t) : P2 s m t := by
  intro f i r hd hf
  rw [ht] at hd ⊢
  refine ⟨m, by omega, ?_⟩
  have := h f i r hd hf
  rw [andF, this]
theorem up1 (hm : s.length < m) {t : Tree} (ht : txt t 1 = txt t 2) (h : P2 s m t) : P1 s m t := by
  intro f i r hd hf hr
  rw [ht] at hd ⊢
  obtain ⟨k, hk, he⟩ := h f i r hd hf
  have hs := sees_none (drop_tail hd) hr
  rw [loop_stop hs] at he
  refine ⟨m, by omega, ?_⟩
  rw [orF, he]
theorem up0 {t : Tree} (ht : txt t 0 = txt t 1) (h : P1 s m t) : P0 s m t := by
  intro f n i r hd hf hn h1 h2 h3
  rw [ht] at hd ⊢
  obtain ⟨k, hk, he⟩ := h f i r hd hf h1
  rw [loop_stop (sees_none (drop_tail hd) h2)] at he
  cases n with
  | zero => omega
  | succ n =>
    rw [impF_no (by rw [he]; exact sees_none (drop_tail hd) h3), he]
/-- Brackets. -/
theorem down3 (hm : s.length < m) {t : Tree} (ht : txt t 3 = [40] ++ txt t 0 ++ [41]) (h : P0 s m t) : P3 s m t := by
  intro f i r hd hf
  have hp := txt_pos t 0
  rw [ht] at hd ⊢
  have hlen := drop_len hd (by simp)
  simp only [List.length_append, List.length_cons, List.length_nil] at hlen
  simp only [List.append_assoc, List.cons_append, List.nil_append] at hd
  have h1 : s.drop (i + 1) = txt t 0 ++ (41 :: r) := drop_tail (x := [40]) (r := txt t 0 ++ (41 :: r)) hd
  have h2 : s.drop (i + 1 + (txt t 0).length) = 41 :: r := drop_tail h1
  cases f with
  | zero => omega
  | succ f =>
    have h40 : sees s (i, false) 40 = true := by rw [sees_drop hd]; rfl
    rw [preF_par h40, show step (i, false) = (i + 1, false) from rfl]
    rw [h f m (i + 1) (41 :: r) h1 (by omega) (by omega) (by simp) (by simp) (by simp)]
    have h41 : sees s (i + 1 + (txt t 0).length, false) 41 = true := by rw [sees_drop h2]; rfl
    simp only [need, h41, if_true, step, List.length_append, List.length_cons, List.length_nil]
    congr 2
    omega

theorem all_fls (hm : s.length < m) : P3 s m .fls ∧ P2 s m .fls ∧ P1 s m .fls ∧ P0 s m .fls := by
  have h3 : P3 s m .fls := by
    intro f i r hd hf
    have hd' : s.drop i = 70 :: r := hd
    have hlen := drop_len hd (by simp [txt])
    simp only [txt, List.length_cons, List.length_nil] at hlen
    cases f with
    | zero => omega
    | succ f => rw [preF_fls (by rw [sees_drop hd']; rfl)]; rfl
  have h2 := up2 hm rfl h3
  have h1 := up1 hm rfl h2
  exact ⟨h3, h2, h1, up0 rfl h1⟩
theorem all_tru (hm : s.length < m) : P3 s m (.imp .fls .fls) ∧ P2 s m (.imp .fls .fls) ∧ P1 s m (.imp .fls .fls) ∧ P0 s m (.imp .fls .fls) := by
  have h3 : P3 s m (.imp .fls .fls) := by
    intro f i r hd hf
    have hd' : s.drop i = 84 :: r := hd
    have hlen := drop_len hd (by simp [txt, isF])
    simp only [txt, isF, if_true, List.length_cons, List.length_nil] at hlen
    cases f with
    | zero => omega
    | succ f => rw [preF_tru (by rw [sees_drop hd']; rfl)]; rfl
  have h2 := up2 hm rfl h3
  have h1 := up1 hm rfl h2
  exact ⟨h3, h2, h1, up0 rfl h1⟩
theorem all_var (hm : s.length < m) (v : Fin 6) : P3 s m (.var v) ∧ P2 s m (.var v) ∧ P1 s m (.var v) ∧ P0 s m (.var v) := by
  have h3 : P3 s m (.var v) := by
    intro f i r hd hf
    have hd' : s.drop i = UInt8.ofNat (112 + v.val) :: r := hd
    have hlen := drop_len hd (by simp [txt])
    simp only [txt, List.length_cons, List.length_nil] at hlen
    cases f with
    | zero => omega
    | succ f =>
      have hl : letter s (i, false) = some v.val := letter_of_sees v.isLt (by rw [sees_drop hd']; simp)
      rw [preF_var hl]; rfl
  have h2 := up2 hm rfl h3
  have h1 := up1 hm rfl h2
  exact ⟨h3, h2, h1, up0 rfl h1⟩
theorem all_not (hm : s.length < m) {x : Tree} (hx : isF x = false) (h : P3 s m x) : P3 s m (.imp x .fls) ∧ P2 s m (.imp x .fls) ∧ P1 s m (.imp x .fls) ∧ P0 s m (.imp x .fls) := by
  have ht : ∀ l, txt (.imp x .fls) l = [126] ++ txt x 3 := by intro l; rw [txt, if_pos (show isF .fls = true from rfl), if_neg (by rw [hx]; decide)]
  have h3 : P3 s m (.imp x .fls) := by
    intro f i r hd hf
    rw [ht] at hd ⊢
    have hlen := drop_len hd (by simp)
    simp only [List.length_append, List.length_cons, List.length_nil] at hlen
    have hd' : s.drop i = 126 :: (txt x 3 ++ r) := by simpa using hd
    have h1 : s.drop (i + 1) = txt x 3 ++ r := drop_tail (x := [126]) (r := txt x 3 ++ r) hd'
    cases f with
    | zero => omega
    | succ f =>
      rw [preF_not (by rw [sees_drop hd']; rfl), show step (i, false) = (i + 1, false) from rfl, h f (i + 1) r h1 (by omega)]
      simp only [List.length_append, List.length_cons, List.length_nil]
      refine Prod.ext rfl (Prod.ext (by simp only; omega) rfl)
  have h2 := up2 hm (by rw [ht, ht]) h3
  have h1 := up1 hm (by rw [ht, ht]) h2
  exact ⟨h3, h2, h1, up0 (by rw [ht, ht]) h1⟩
theorem all_box (hm : s.length < m) {x : Tree} (h : P3 s m x) : P3 s m (.box x) ∧ P2 s m (.box x) ∧ P1 s m (.box x) ∧ P0 s m (.box x) := by
  have h3 : P3 s m (.box x) := by
    intro f i r hd hf
    have hd' : s.drop i = 91 :: (93 :: (txt x 3 ++ r)) := by simpa [txt] using hd
    have hlen := drop_len hd (by simp [txt])
    simp only [txt, List.length_append, List.length_cons, List.length_nil] at hlen
    have h1 : s.drop (i + 1) = 93 :: (txt x 3 ++ r) := drop_tail (x := [91]) (r := 93 :: (txt x 3 ++ r)) hd'
    have h2 : s.drop (i + 2) = txt x 3 ++ r := drop_tail (x := [91, 93]) (r := txt x 3 ++ r) hd'
    cases f with
    | zero => omega
    | succ f =>
      have h93 : sees s (i + 1, false) 93 = true := by rw [sees_drop h1]; rfl
      rw [preF_box (by rw [sees_drop hd']; rfl), show step (i, false) = (i + 1, false) from rfl, show need s (i + 1, false) 93 = (i + 2, false) by simp [need, h93, step], h f (i + 2) r h2 (by omega)]
      simp only [txt, List.length_append, List.length_cons, List.length_nil]
      refine Prod.ext rfl (Prod.ext (by simp only; omega) rfl)
  have h2 := up2 hm rfl h3
  have h1 := up1 hm rfl h2
  exact ⟨h3, h2, h1, up0 rfl h1⟩
theorem all_dia (hm : s.length < m) {x : Tree} (h : P3 s m x) : P3 s m (.dia x) ∧ P2 s m (.dia x) ∧ P1 s m (.dia x) ∧ P0 s m (.dia x) := by
  have h3 : P3 s m (.dia x) := by
    intro f i r hd hf
    have hd' : s.drop i = 60 :: (62 :: (txt x 3 ++ r)) := by simpa [txt] using hd
    have hlen := drop_len hd (by simp [txt])
    simp only [txt, List.length_append, List.length_cons, List.length_nil] at hlen
    have h1 : s.drop (i + 1) = 62 :: (txt x 3 ++ r) := drop_tail (x := [60]) (r := 62 :: (txt x 3 ++ r)) hd'
    have h2 : s.drop (i + 2) = txt x 3 ++ r := drop_tail (x := [60, 62]) (r := txt x 3 ++ r) hd'
    cases f with
    | zero => omega
    | succ f =>
      have h93 : sees s (i + 1, false) 62 = true := by rw [sees_drop h1]; rfl
      rw [preF_dia (by rw [sees_drop hd']; rfl), show step (i, false) = (i + 1, false) from rfl, show need s (i + 1, false) 62 = (i + 2, false) by simp [need, h93, step], h f (i + 2) r h2 (by omega)]
      simp only [txt, List.length_append, List.length_cons, List.length_nil]
      refine Prod.ext rfl (Prod.ext (by simp only; omega) rfl)
  have h2 := up2 hm rfl h3
  have h1 := up1 hm rfl h2
  exact ⟨h3, h2, h1, up0 rfl h1⟩

theorem all_and (hm : s.length < m) {x y : Tree} (hx : P2 s m x) (hy : P3 s m y) : P3 s m (.and x y) ∧ P2 s m (.and x y) ∧ P1 s m (.and x y) ∧ P0 s m (.and x y) := by
  have ht : ∀ l, l ≤ 2 → txt (.and x y) l = txt x 2 ++ [38] ++ txt y 3 := by intro l hl; rw [txt, wrap, if_neg (by omega)]
  have h2 : P2 s m (.and x y) := by
    intro f i r hd hf
    rw [ht 2 (by omega)] at hd ⊢
    simp only [List.append_assoc, List.cons_append, List.nil_append] at hd
    obtain ⟨k, hk, he⟩ := hx f i _ hd hf
    have d1 := drop_tail hd
    have d2 : s.drop (i + (txt x 2).length + 1) = txt y 3 ++ r := drop_tail (x := [38]) (r := txt y 3 ++ r) d1
    have hp := txt_pos y 3
    have hlen := drop_len d2 hp
    obtain ⟨q, rfl⟩ : ∃ q, k = q + 1 := ⟨k - 1, by omega⟩
    refine ⟨q, ?_, ?_⟩
    · simp only [List.length_append, List.length_cons, List.length_nil]; omega
    · rw [he, loop, if_pos (by rw [sees_drop d1]; rfl), show step (i + (txt x 2).length, false) = (i + (txt x 2).length + 1, false) from rfl, hy f _ r d2 (by omega)]
      simp only [List.length_append, List.length_cons, List.length_nil]
      rw [show i + (txt x 2).length + 1 + (txt y 3).length = i + ((txt x 2).length + (0 + 1) + (txt y 3).length) by omega]
      rfl
  have h1 := up1 hm (by rw [ht 1 (by omega), ht 2 (by omega)]) h2
  have h0 := up0 (by rw [ht 0 (by omega), ht 1 (by omega)]) h1
  exact ⟨down3 hm (by rw [ht 0 (by omega), txt, wrap, if_pos (by omega)]) h0, h2, h1, h0⟩
theorem all_or (hm : s.length < m) {x y : Tree} (hx : P1 s m x) (hy : P2 s m y) : P3 s m (.or x y) ∧ P2 s m (.or x y) ∧ P1 s m (.or x y) ∧ P0 s m (.or x y) := by
  have ht : ∀ l, l ≤ 1 → txt (.or x y) l = txt x 1 ++ [124] ++ txt y 2 := by intro l hl; rw [txt, wrap, if_neg (by omega)]
  have hw : ∀ l, 2 ≤ l → txt (.or x y) l = [40] ++ txt (.or x y) 0 ++ [41] := by intro l hl; rw [ht 0 (by omega), txt, wrap, if_pos (by omega)]
  have h1 : P1 s m (.or x y) := by
    intro f i r hd hf hr
    rw [ht 1 (by omega)] at hd ⊢
    simp only [List.append_assoc, List.cons_append, List.nil_append] at hd
    obtain ⟨k, hk, he⟩ := hx f i _ hd hf (by simp)
    have d1 := drop_tail hd
    have d2 : s.drop (i + (txt x 1).length + 1) = txt y 2 ++ r := drop_tail (x := [124]) (r := txt y 2 ++ r) d1
    have hp := txt_pos y 2
    have hlen := drop_len d2 hp
    obtain ⟨q, rfl⟩ : ∃ q, k = q + 1 := ⟨k - 1, by omega⟩
    refine ⟨q, ?_, ?_⟩
    · simp only [List.length_append, List.length_cons, List.length_nil]; omega
    · obtain ⟨k2, hk2, he2⟩ := hy f _ r d2 (by omega)
      rw [loop_stop (sees_none (drop_tail d2) hr)] at he2
      rw [he, loop, if_pos (by rw [sees_drop d1]; rfl), show step (i + (txt x 1).length, false) = (i + (txt x 1).length + 1, false) from rfl, he2]
      simp only [List.length_append, List.length_cons, List.length_nil]
      rw [show i + (txt x 1).length + 1 + (txt y 2).length = i + ((txt x 1).length + (0 + 1) + (txt y 2).length) by omega]
      rfl
  have h0 := up0 (by rw [ht 0 (by omega), ht 1 (by omega)]) h1
  have h3 := down3 hm (hw 3 (by omega)) h0
  exact ⟨h3, up2 hm (by rw [hw 2 (by omega), hw 3 (by omega)]) h3, h1, h0⟩
theorem all_imp (hm : s.length < m) {x y : Tree} (hf : isF y = false) (hx : P1 s m x) (hy : P0 s m y) : P3 s m (.imp x y) ∧ P2 s m (.imp x y) ∧ P1 s m (.imp x y) ∧ P0 s m (.imp x y) := by
  have ht : txt (.imp x y) 0 = txt x 1 ++ [62] ++ txt y 0 := by rw [txt, if_neg (by rw [hf]; decide), wrap, if_neg (by omega)]
  have hw : ∀ l, 1 ≤ l → txt (.imp x y) l = [40] ++ txt (.imp x y) 0 ++ [41] := by intro l hl; rw [ht, txt, if_neg (by rw [hf]; decide), wrap, if_pos (by omega)]
  have h0 : P0 s m (.imp x y) := by
    intro f n i r hd hf hn q1 q2 q3
    rw [ht] at hd ⊢
    simp only [List.append_assoc, List.cons_append, List.nil_append] at hd
    obtain ⟨k, hk, he⟩ := hx f i _ hd hf (by simp)
    have d1 := drop_tail hd
    have d2 : s.drop (i + (txt x 1).length + 1) = txt y 0 ++ r := drop_tail (x := [62]) (r := txt y 0 ++ r) d1
    have hp := txt_pos y 0
    have hlen := drop_len d2 hp
    rw [loop_stop (by rw [sees_drop d1]; rfl)] at he
    cases n with
    | zero => omega
    | succ n =>
      have hsee : sees s (orF s m (preF s m f) (i, false)).2 62 = true := by rw [he, sees_drop d1]; rfl
      rw [impF_yes hsee, he]
      dsimp only
      rw [show step (i + (txt x 1).length, false) = (i + (txt x 1).length + 1, false) from rfl, hy f n _ r d2 (by omega) (by omega) q1 q2 q3]
      simp only [List.length_append, List.length_cons, List.length_nil]
      refine Prod.ext rfl (Prod.ext (by simp only; omega) rfl)
  have h3 := down3 hm (hw 3 (by omega)) h0
  have h2 := up2 hm (by rw [hw 2 (by omega), hw 3 (by omega)]) h3
  exact ⟨h3, h2, up1 hm (by rw [hw 1 (by omega), hw 2 (by omega)]) h2, h0⟩

theorem all_levels (hm : s.length < m) (t : Tree) : P3 s m t ∧ P2 s m t ∧ P1 s m t ∧ P0 s m t := by
  induction t with
  | var v => exact all_var hm v
  | fls => exact all_fls hm
  | and x y hx hy => exact all_and hm hx.2.1 hy.1
  | or x y hx hy => exact all_or hm hx.2.2.1 hy.2.1
  | imp x y hx hy =>
    cases hf : isF y with
    | true =>
      obtain rfl := isF_eq hf
      cases hg : isF x with
      | true => obtain rfl := isF_eq hg; exact all_tru hm
      | false => exact all_not hm hg hx.1
    | false => exact all_imp hm hf hx.2.2.1 hy.2.2.2
  | box x hx => exact all_box hm hx.1
  | dia x hx => exact all_dia hm hx.1
end

/-- The text of a formula reads as it. -/
theorem parse_txt (t : Tree) (m : Nat) (hm : (txt t 0).length < m) : parse (txt t 0) m = (enc t, ((txt t 0).length, false)) := by
  have h := (all_levels (s := txt t 0) hm t).2.2.2 m m 0 [] (by simp) (by omega) (by omega) (by simp) (by simp) (by simp)
  rw [parse, h]
  simp

end Fm

/-- A string of bytes. -/
def bs (l : List UInt8) : ByteArray := ⟨l.toArray⟩
theorem bs_append (a b : List UInt8) : bs a ++ bs b = bs (a ++ b) := by
  apply ByteArray.ext
  simp [bs]
theorem bs_size (a : List UInt8) : (bs a).size = a.length := by simp [bs, ByteArray.size]
theorem bs_list (a : List UInt8) : (bs a).data.toList = a := by simp [bs]
theorem bs_eq (s : ByteArray) : bs s.data.toList = s := by
  apply ByteArray.ext
  simp [bs]

namespace Fm
def fuel : Nat := 1048577
/-- What a text reads as. -/
def read (s : ByteArray) : Res := parse s.data.toList fuel
/-- The whole text is a formula of whatever size. -/
def whole (s : ByteArray) : Bool := !(read s).2.2 && decide (s.size ≤ (read s).2.1)
/-- The results of ParseFormula. -/
def pf (s : ByteArray) : List Nd × Nat × Int :=
  if 200 < s.size then ([], 0, 3) else if whole s = false then ([], (read s).2.1, 6) else if 40 < (read s).1.length then ([], 0, 3) else ((read s).1, 0, 0)
theorem read_ok (s : ByteArray) : (read s).2.1 ≤ s.size ∧ (read s).1.length ≤ 3 * s.size + 1 := by
  obtain ⟨h1, h2, h3⟩ := parse_ok s.data.toList fuel
  rw [show s.data.toList.length = s.size from by simp] at h2
  exact ⟨h2, by unfold read; omega⟩
theorem read_ne (s : ByteArray) : (read s).1 ≠ [] := by
  obtain ⟨t, h⟩ := parse_enc s.data.toList fuel
  have := enc_pos t
  unfold read
  rw [h]
  intro h0
  rw [h0] at this
  simp at this
theorem pf_len (s : ByteArray) : (pf s).1.length ≤ 40 := by
  unfold pf
  split
  · simp
  split
  · simp
  split
  · simp
  · simp only; omega
end Fm

/-- What l02Read gives. -/
def Fm.rd (s : ByteArray) : List Nd × Int := if Fm.whole s = false then ([], ((Fm.read s).2.1 : Int)) else ((Fm.read s).1, -1)


namespace Fm
theorem read_txt (t : Tree) (h : (txt t 0).length < fuel) : read (bs (txt t 0)) = (enc t, ((txt t 0).length, false)) := by
  rw [read, bs_list, parse_txt t fuel h]
theorem whole_txt (t : Tree) (h : (txt t 0).length < fuel) : whole (bs (txt t 0)) = true := by
  rw [whole, read_txt t h, bs_size]
  simp
theorem pf_txt (t : Tree) (h : (txt t 0).length ≤ 200) (hn : (enc t).length ≤ 40) : pf (bs (txt t 0)) = (enc t, 0, 0) := by
  have hf : (txt t 0).length < fuel := by unfold fuel; omega
  rw [pf, if_neg (by rw [bs_size]; omega), if_neg (by rw [whole_txt t hf]; decide), read_txt t hf, if_neg (by simp only; omega)]
theorem rd_txt (t : Tree) (h : (txt t 0).length < fuel) : rd (bs (txt t 0)) = (enc t, -1) := by
  rw [rd, if_neg (by rw [whole_txt t h]; decide), read_txt t h]
end Fm
end Go.Proofs.Ythdffenpgkbjkaa

/- Where the part at an index ends; the parts of a formula. -/
namespace Go.Proofs.Ythdffenpgkbjkaa
open Go.RowKit
open Fm (Nd Tree)

theorem partsOf_c (k : Int) (w : World) :
    Calls Try.prog 52 #[.int .i64 k] w fun e w' => e = .returned (.int .i64 (Fm.arity k)) ∧ Grew w w' := by
  by_cases h2 : k = 2 ∨ k = 3 ∨ k = 4
  · have ha : Fm.arity k = 2 := by unfold Fm.arity; rw [if_pos h2]
    rw [ha]
    rcases h2 with rfl | rfl | rfl
    all_goals
      go_enter Try.func52, Try.ntmps52
      go_wp2_with fail
      go_ret
      exact ⟨rfl, Grew.refl _⟩
  by_cases h1 : k = 5 ∨ k = 6
  · have ha : Fm.arity k = 1 := by unfold Fm.arity; rw [if_neg h2, if_pos h1]
    rw [ha]
    rcases h1 with rfl | rfl
    all_goals
      go_enter Try.func52, Try.ntmps52
      go_wp2_with fail
      go_ret
      exact ⟨rfl, Grew.refl _⟩
  · have ha : Fm.arity k = 0 := by unfold Fm.arity; rw [if_neg h2, if_neg h1]
    rw [ha]
    have n2 : (k == 2) = false := by simp; omega
    have n3 : (k == 3) = false := by simp; omega
    have n4 : (k == 4) = false := by simp; omega
    have n5 : (k == 5) = false := by simp; omega
    have n6 : (k == 6) = false := by simp; omega
    clear h1 h2 ha
    go_enter Try.func52, Try.ntmps52
    go_wp2_with fail
    go_ret
    exact ⟨rfl, Grew.refl _⟩

/-- What 'partEnd' gives. -/
def pval (j : Nat) : Option Nat → Int
  | some n => (j : Int) + n
  | none => -1
theorem pval_succ (j : Nat) (o : Option Nat) : pval j (o.map (· + 1)) = pval (j + 1) o := by
  cases o with
  | none => rfl
  | some n => show (j : Int) + ((n + 1 : Nat) : Int) = ((j + 1 : Nat) : Int) + n; omega
def pend (xs : List Nd) (i : Nat) : Int := pval i (Fm.scan (xs.drop i) 1)

theorem scan_step {xs : List Nd} {j o : Nat} (hj : j < xs.length) : Fm.scan (xs.drop j) (o + 1) = (Fm.scan (xs.drop (j + 1)) (o + Fm.arity (kd xs j))).map (· + 1) := by
  rw [List.drop_eq_getElem_cons hj, Fm.scan_cons, kd_lt hj]

theorem partEnd_c (v : Value) (xs : List Nd) (i : Nat) (w : World) (h : Nodes w v xs) (hn : xs.length ≤ 1099511627776) (hi : i ≤ 1099511627776) :
    Calls Try.prog 30 #[v, .int .i64 i] w fun e w' => e = .returned (.int .i64 (pend xs i)) ∧ Grew w w' := by
  rcases h.open_ with ⟨rfl, rfl⟩ | ⟨b, o, c, rfl, hc, hm, hb, hf⟩
  · have hp : pend [] i = -1 := by simp [pend, Fm.scan_nil, pval]
    rw [hp]
    clear hp
    go_enter Try.func30, Try.ntmps30
    go_wp2_with fail
    refine wp_loop_rounds 1 ?_; rw [rounds_succ]
    go_wp2_with fail
    go_ret
    exact ⟨rfl, Grew.refl _⟩
  · clear h
    obtain ⟨P, hP⟩ : ∃ P, P = pend xs i := ⟨_, rfl⟩
    rw [← hP]
    -- the rest of the scan decides the result
    have hstart : Hid (P = pval i (Fm.scan (xs.drop i) 1)) := hP
    have hstep := fun j o hj => @scan_step xs j o hj
    have HS := Lib.hid hstep
    have HL : Hid (∀ j, xs.length ≤ j → xs.drop j = []) := Lib.hid fun j hj => List.drop_eq_nil_of_le hj
    clear hP hstep
    have HF := Lib.hid hf
    clear hf
    generalize hN : xs.length = n at *
    clear hN
    go_enter Try.func30, Try.ntmps30
    go_wp2_with fail
    go_loopg [1, 5] (n + 1 - i) (fun k x y wr => ∃ j op : Nat, x = .int .i64 j ∧ y = .int .i64 op ∧ Grew w wr ∧ i ≤ j ∧ op ≤ j - i + 1 ∧ k = n + 1 - j ∧ j ≤ i + n ∧ Hid (P = pval j (Fm.scan (xs.drop j) op)))
    case atStart => exact ⟨i, 1, rfl, rfl, Grew.refl _, Nat.le_refl _, by omega, rfl, by omega, hstart⟩
    case round =>
      obtain ⟨j, op, rfl, rfl, hB, hij, hop, rfl, hjn, HP⟩ := hrel
      by_cases hz : op = 0
      · subst hz
        have hv : Hid (P = (j : Int)) := Lib.hid (by rw [HP.out, Fm.scan_zero]; simp [pval])
        clear HP
        go_wp2_with fail
        go_ret
        rw [hv.out]
        exact ⟨rfl, hB⟩
      · obtain ⟨q, rfl⟩ : ∃ q, op = q + 1 := ⟨op - 1, by omega⟩
        by_cases hlt : j < n
        · have k1 : ∀ W, Grew w W → W.cell? ⟨b, o + j * 2, none⟩ = some (.int .i64 (kd xs j)) := fun W hW => (HF.out j hlt W hW).1
          have hv : Hid (P = pval (j + 1) (Fm.scan (xs.drop (j + 1)) (q + Fm.arity (kd xs j)))) := Lib.hid (by rw [HP.out, HS.out j q hlt, pval_succ])
          have har := Fm.arity_le (kd xs j)
          clear HP hz
          go_wp2_with fail
          refine (partsOf_c _ _).mono ?_
          rintro e w1 ⟨rfl, hg1⟩
          generalize Fm.arity (kd xs j) = ar at *
          go_wp2_with fail
          go_roundg (n + 1 - (j + 1))
          case measure => omega
          case rel => exact ⟨j + 1, q + ar, by go_num, by go_num, hB.trans hg1, by omega, by omega, rfl, by omega, hv⟩
        · have hv : Hid (P = -1) := Lib.hid (by rw [HP.out, HL.out j (by omega), Fm.scan_nil]; rfl)
          clear HP
          go_wp2_with fail
          go_ret
          rw [hv.out]
          exact ⟨rfl, hB⟩
theorem l02Parts_c (k : Int) (w : World) :
    Calls Try.prog 70 #[.int .i64 k] w fun e w' => e = .returned (.int .i64 (Fm.arity k)) ∧ Grew w w' := by
  by_cases h2 : k = 2 ∨ k = 3 ∨ k = 4
  · have ha : Fm.arity k = 2 := by unfold Fm.arity; rw [if_pos h2]
    rw [ha]
    rcases h2 with rfl | rfl | rfl
    all_goals
      go_enter Try.func70, Try.ntmps70
      go_wp2_with fail
      go_ret
      exact ⟨rfl, Grew.refl _⟩
  by_cases h1 : k = 5 ∨ k = 6
  · have ha : Fm.arity k = 1 := by unfold Fm.arity; rw [if_neg h2, if_pos h1]
    rw [ha]
    rcases h1 with rfl | rfl
    all_goals
      go_enter Try.func70, Try.ntmps70
      go_wp2_with fail
      go_ret
      exact ⟨rfl, Grew.refl _⟩
  · have ha : Fm.arity k = 0 := by unfold Fm.arity; rw [if_neg h2, if_neg h1]
    rw [ha]
    have n2 : (k == 2) = false := by simp; omega
    have n3 : (k == 3) = false := by simp; omega
    have n4 : (k == 4) = false := by simp; omega
    have n5 : (k == 5) = false := by simp; omega
    have n6 : (k == 6) = false := by simp; omega
    clear h1 h2 ha
    go_enter Try.func70, Try.ntmps70
    go_wp2_with fail
    go_ret
    exact ⟨rfl, Grew.refl _⟩

theorem l02Part_c (v : Value) (xs : List Nd) (i : Nat) (w : World) (h : Nodes w v xs) (hn : xs.length ≤ 1099511627776) (hi : i ≤ 1099511627776) :
    Calls Try.prog 59 #[v, .int .i64 i] w fun e w' => e = .returned (.int .i64 (pend xs i)) ∧ Grew w w' := by
  rcases h.open_ with ⟨rfl, rfl⟩ | ⟨b, o, c, rfl, hc, hm, hb, hf⟩
  · have hp : pend [] i = -1 := by simp [pend, Fm.scan_nil, pval]
    rw [hp]
    clear hp
    go_enter Try.func59, Try.ntmps59
    go_wp2_with fail
    refine wp_loop_rounds 1 ?_; rw [rounds_succ]
    go_wp2_with fail
    go_ret
    exact ⟨rfl, Grew.refl _⟩
  · clear h
    obtain ⟨P, hP⟩ : ∃ P, P = pend xs i := ⟨_, rfl⟩
    rw [← hP]
    -- the rest of the scan decides the result
    have hstart : Hid (P = pval i (Fm.scan (xs.drop i) 1)) := hP
    have hstep := fun j o hj => @scan_step xs j o hj
    have HS := Lib.hid hstep
    have HL : Hid (∀ j, xs.length ≤ j → xs.drop j = []) := Lib.hid fun j hj => List.drop_eq_nil_of_le hj
    clear hP hstep
    have HF := Lib.hid hf
    clear hf
    generalize hN : xs.length = n at *
    clear hN
    go_enter Try.func59, Try.ntmps59
    go_wp2_with fail
    go_loopg [1, 5] (n + 1 - i) (fun k x y wr => ∃ j op : Nat, x = .int .i64 j ∧ y = .int .i64 op ∧ Grew w wr ∧ i ≤ j ∧ op ≤ j - i + 1 ∧ k = n + 1 - j ∧ j ≤ i + n ∧ Hid (P = pval j (Fm.scan (xs.drop j) op)))
    case atStart => exact ⟨i, 1, rfl, rfl, Grew.refl _, Nat.le_refl _, by omega, rfl, by omega, hstart⟩
    case round =>
      obtain ⟨j, op, rfl, rfl, hB, hij, hop, rfl, hjn, HP⟩ := hrel
      by_cases hz : op = 0
      · subst hz
        have hv : Hid (P = (j : Int)) := Lib.hid (by rw [HP.out, Fm.scan_zero]; simp [pval])
        clear HP
        go_wp2_with fail
        go_ret
        rw [hv.out]
        exact ⟨rfl, hB⟩
      · obtain ⟨q, rfl⟩ : ∃ q, op = q + 1 := ⟨op - 1, by omega⟩
        by_cases hlt : j < n
        · have k1 : ∀ W, Grew w W → W.cell? ⟨b, o + j * 2, none⟩ = some (.int .i64 (kd xs j)) := fun W hW => (HF.out j hlt W hW).1
          have hv : Hid (P = pval (j + 1) (Fm.scan (xs.drop (j + 1)) (q + Fm.arity (kd xs j)))) := Lib.hid (by rw [HP.out, HS.out j q hlt, pval_succ])
          have har := Fm.arity_le (kd xs j)
          clear HP hz
          go_wp2_with fail
          refine (l02Parts_c _ _).mono ?_
          rintro e w1 ⟨rfl, hg1⟩
          generalize Fm.arity (kd xs j) = ar at *
          go_wp2_with fail
          go_roundg (n + 1 - (j + 1))
          case measure => omega
          case rel => exact ⟨j + 1, q + ar, by go_num, by go_num, hB.trans hg1, by omega, by omega, rfl, by omega, hv⟩
        · have hv : Hid (P = -1) := Lib.hid (by rw [HP.out, HL.out j (by omega), Fm.scan_nil]; rfl)
          clear HP
          go_wp2_with fail
          go_ret
          rw [hv.out]
          exact ⟨rfl, hB⟩

theorem cells_drop (xs : List Nd) : ∀ i, cells (xs.drop i) = (cells xs).drop (i * 2) := by
  induction xs with
  | nil => intro i; simp [cells]
  | cons x xs ih =>
    intro i
    cases i with
    | zero => simp
    | succ i =>
      rw [List.drop_succ_cons, ih, cells_cons, show (i + 1) * 2 = i * 2 + 1 + 1 by omega]
      rfl
theorem cells_take (xs : List Nd) : ∀ i, cells (xs.take i) = (cells xs).take (i * 2) := by
  induction xs with
  | nil => intro i; simp [cells]
  | cons x xs ih =>
    intro i
    cases i with
    | zero => simp [cells]
    | succ i =>
      rw [List.take_succ_cons, cells_cons, ih, cells_cons, show (i + 1) * 2 = i * 2 + 1 + 1 by omega]
      rfl
/-- A cut of a slice of nodes. -/
theorem Nodes.sub {w : World} {b o n c : Nat} {xs : List Nd} (h : Nodes w (.slice (some ⟨b, o, none⟩) n c) xs) (i m c' : Nat) (him : i + m ≤ xs.length) (hc : m ≤ c') (hc' : c' ≤ 9223372036854775807) :
    Nodes w (.slice (some ⟨b, o + i * 2, none⟩) m c') ((xs.drop i).take m) := by
  obtain ⟨h1, h2, h3⟩ := h
  have hl : ((xs.drop i).take m).length = m := by simp; omega
  refine ⟨cells_length _, by omega, .inr ?_⟩
  rcases h3 with ⟨h4, _⟩ | ⟨b', o', c0, h4, h5, h6, h7, h8⟩
  · cases h4
  · simp only [Value.slice.injEq, Option.some.injEq, Addr.mk.injEq, and_true] at h4
    obtain ⟨⟨rfl, rfl⟩, rfl, rfl⟩ := h4
    refine ⟨b, o + i * 2, c', by rw [hl], by omega, hc', h7, fun j u hu => ?_⟩
    rw [cells_take, List.getElem?_take] at hu
    split at hu
    · rw [cells_drop, List.getElem?_drop] at hu
      have := h8 _ _ hu
      rw [show o + i * 2 + j = o + (i * 2 + j) by omega]
      exact this
    · cases hu

/-- A list that stands in another one from i on. -/
def At (xs : List Nd) (i : Nat) (t : Tree) : Prop := ∃ rest, xs.drop i = Fm.enc t ++ rest
theorem At.pend {xs : List Nd} {i : Nat} {t : Tree} (h : At xs i t) : pend xs i = (i : Int) + (Fm.enc t).length := by
  obtain ⟨rest, h⟩ := h
  rw [Go.Proofs.Ythdffenpgkbjkaa.pend, h, Fm.scan_one]; rfl
theorem At.take {xs : List Nd} {i : Nat} {t : Tree} (h : At xs i t) : (xs.drop i).take (Fm.enc t).length = Fm.enc t := by
  obtain ⟨rest, h⟩ := h
  rw [h, List.take_left']; rfl
theorem At.le {xs : List Nd} {i : Nat} {t : Tree} (h : At xs i t) : i + (Fm.enc t).length ≤ xs.length := by
  obtain ⟨rest, h⟩ := h
  have h1 := congrArg List.length h
  have h2 := Fm.enc_pos t
  simp only [List.length_drop, List.length_append] at h1
  omega

/-- The call returns a slice that reads as the list, and changes nothing. -/
def Cuts (w : World) (xs : List Nd) (e : Ending) (w' : World) : Prop := ∃ v, e = .returned v ∧ Nodes w' v xs ∧ Grew w w'

theorem partEnd_at (v : Value) (xs : List Nd) (i : Nat) (t : Tree) (w : World) (h : Nodes w v xs) (hn : xs.length ≤ 1099511627776) (ht : At xs i t) :
    Calls Try.prog 30 #[v, .int .i64 i] w fun e w' => e = .returned (.int .i64 ((i : Int) + (Fm.enc t).length)) ∧ Grew w w' := by
  have := partEnd_c v xs i w h hn (by have := ht.le; omega)
  rw [ht.pend] at this
  exact this
theorem l02Part_at (v : Value) (xs : List Nd) (i : Nat) (t : Tree) (w : World) (h : Nodes w v xs) (hn : xs.length ≤ 1099511627776) (ht : At xs i t) :
    Calls Try.prog 59 #[v, .int .i64 i] w fun e w' => e = .returned (.int .i64 ((i : Int) + (Fm.enc t).length)) ∧ Grew w w' := by
  have := l02Part_c v xs i w h hn (by have := ht.le; omega)
  rw [ht.pend] at this
  exact this

theorem part_c (v : Value) (xs : List Nd) (i : Nat) (t : Tree) (w : World) (h : Nodes w v xs) (hn : xs.length ≤ 1099511627776) (ht : At xs i t) :
    Calls Try.prog 37 #[v, .int .i64 i] w (Cuts w (Fm.enc t)) := by
  have hle := ht.le
  have hpos := Fm.enc_pos t
  rcases h.open_ with ⟨rfl, rfl⟩ | ⟨b, o, c, rfl, hc, hm, hb, hf⟩
  · simp only [List.length_nil] at hle; omega
  · have hsub := h.sub i (Fm.enc t).length (Fm.enc t).length hle (Nat.le_refl _) (by omega)
    rw [ht.take] at hsub
    have HH := Lib.hid h
    have HS := Lib.hid hsub
    have HT := Lib.hid ht
    clear h hf hsub ht
    go_enter Try.func37, Try.ntmps37
    go_wp2_with fail
    refine (partEnd_at _ xs i t _ HH.out hn HT.out).mono ?_
    rintro e w1 ⟨rfl, hg1⟩
    go_wp2_with fail
    refine (partEnd_at _ xs i t _ (HH.out.grew hg1) hn HT.out).mono ?_
    rintro e w2 ⟨rfl, hg2⟩
    go_wp2_with fail
    go_ret
    refine ⟨_, rfl, ?_, hg1.trans hg2⟩
    rw [Nat.add_sub_cancel_left]
    exact HS.out.grew (hg1.trans hg2)

/-- The kind of the first node. -/
def kindOf : Tree → Int
  | .var _ => 0
  | .fls => 1
  | .and _ _ => 2
  | .or _ _ => 3
  | .imp _ _ => 4
  | .box _ => 5
  | .dia _ => 6

theorem kd_enc (t : Tree) : kd (Fm.enc t) 0 = kindOf t := by cases t <;> rfl
theorem isF_kind (t : Tree) : Fm.isF t = (kindOf t == 1) := by cases t <;> rfl

/-- Is the formula a negation? -/
def isNeg : Tree → Bool
  | .imp _ b => Fm.isF b
  | _ => false

theorem at_first {xs : List Nd} {k : Nd} {a : Tree} {rest : List Nd} (h : xs = k :: (Fm.enc a ++ rest)) : At xs 1 a := ⟨rest, by rw [h]; rfl⟩
theorem at_second {xs : List Nd} {k : Nd} {a b : Tree} (h : xs = k :: (Fm.enc a ++ Fm.enc b)) : At xs (1 + (Fm.enc a).length) b :=
  ⟨[], by rw [h, Nat.add_comm, List.drop_succ_cons, List.drop_left', List.append_nil]; rfl⟩

/-- The call returns the text and changes nothing. -/
def Says (w : World) (s : List UInt8) (e : Ending) (w' : World) : Prop := e = .returned (.string (bs s)) ∧ Grew w w'

theorem nodes_head {w : World} {v : Value} {t : Tree} (h : Nodes w v (Fm.enc t)) : ∃ b o c, v = .slice (some ⟨b, o, none⟩) (Fm.enc t).length c ∧ (Fm.enc t).length ≤ c ∧ c ≤ 9223372036854775807 ∧ ∀ W, Grew w W → W.cell? ⟨b, o, none⟩ = some (.int .i64 (kindOf t)) := by
  have hpos := Fm.enc_pos t
  rcases h.open_ with ⟨rfl, h0⟩ | ⟨b, o, c, rfl, hc, hm, hb, hf⟩
  · rw [h0] at hpos; simp at hpos
  · refine ⟨b, o, c, rfl, hc, hm, fun W hW => ?_⟩
    have := (hf 0 (by omega) W hW).1
    rw [kd_enc] at this
    simpa using this

theorem letter_cut {q : Nat} (h : q < 6) : ByteArray.extract ⟨#[112, 113, 114, 115, 116, 117]⟩ q (q + 1) = bs [UInt8.ofNat (112 + q)] := by
  have h6 : q = 0 ∨ q = 1 ∨ q = 2 ∨ q = 3 ∨ q = 4 ∨ q = 5 := by omega
  rcases h6 with rfl | rfl | rfl | rfl | rfl | rfl <;> decide
end Go.Proofs.Ythdffenpgkbjkaa

/- A number between two bounds. -/
namespace Go.Proofs.Ythdffenpgkbjkaa
open Go.RowKit

theorem l01In_c (k lo hi : Int) (w : World) : Calls Try.prog 58 #[.int .i64 k, .int .i64 lo, .int .i64 hi] w fun e w' => e = .returned (.bool (decide (lo ≤ k ∧ k ≤ hi))) ∧ Grew w w' := by
  by_cases h : lo ≤ k
  · have hd : decide (lo ≤ k ∧ k ≤ hi) = decide (k ≤ hi) := by simp [h]
    rw [hd]
    go_enter Try.func58, Try.ntmps58
    go_wp2_with fail
    go_ret
    exact ⟨rfl, Grew.refl _⟩
  · have hd : decide (lo ≤ k ∧ k ≤ hi) = false := by simp [h]
    rw [hd]
    go_enter Try.func58, Try.ntmps58
    go_wp2_with fail
    go_ret
    exact ⟨rfl, Grew.refl _⟩

theorem inRange_c (k lo hi : Int) (w : World) : Calls Try.prog 51 #[.int .i64 k, .int .i64 lo, .int .i64 hi] w fun e w' => e = .returned (.bool (decide (lo ≤ k ∧ k ≤ hi))) ∧ Grew w w' := by
  by_cases h : lo ≤ k
  · have hd : decide (lo ≤ k ∧ k ≤ hi) = decide (k ≤ hi) := by simp [h]
    rw [hd]
    go_enter Try.func51, Try.ntmps51
    go_wp2_with fail
    go_ret
    exact ⟨rfl, Grew.refl _⟩
  · have hd : decide (lo ≤ k ∧ k ≤ hi) = false := by simp [h]
    rw [hd]
    go_enter Try.func51, Try.ntmps51
    go_wp2_with fail
    go_ret
    exact ⟨rfl, Grew.refl _⟩
end Go.Proofs.Ythdffenpgkbjkaa

/- isFormula of the program, at any list. -/
namespace Go.Proofs.Ythdffenpgkbjkaa
open Go.RowKit
open Fm (Nd Tree)

theorem isVariable_c (k : Int) (w : World) : Calls Try.prog 50 #[.int .i64 k] w fun e w' => e = .returned (.bool (decide (0 ≤ k ∧ k ≤ 5))) ∧ Grew w w' := by
  have HR := Lib.hid (inRange_c k 0 5 w)
  generalize decide (0 ≤ k ∧ k ≤ 5) = R at *
  go_enter Try.func50, Try.ntmps50
  go_wp2_with fail
  refine HR.out.mono ?_
  rintro e w1 ⟨rfl, hg1⟩
  go_wp2_with fail
  go_ret
  exact ⟨rfl, hg1⟩

/-- Is it a node? -/
def nodeB (a b : Int) : Bool := if a == 0 then decide (0 ≤ b ∧ b ≤ 5) else decide (1 ≤ a ∧ a ≤ 6) && b == 0

theorem isNode_c (a b : Int) (w : World) : Calls Try.prog 29 #[.agg #[.int .i64 a, .int .i64 b]] w fun e w' => e = .returned (.bool (nodeB a b)) ∧ Grew w w' := by
  unfold nodeB
  cases h0 : (a == 0) with
  | true =>
    rw [if_pos rfl]
    go_enter Try.func29, Try.ntmps29
    go_wp2_with fail
    refine (isVariable_c _ _).mono ?_
    rintro e w1 ⟨rfl, hg1⟩
    go_wp2_with fail
    go_ret
    exact ⟨by simp, Grew.of_alloc hg1⟩
  | false =>
    rw [if_neg (by simp)]
    have HR := fun w => inRange_c a 1 6 w
    generalize decide (1 ≤ a ∧ a ≤ 6) = R at *
    cases R with
    | true =>
      replace HR := Lib.hid HR
      go_enter Try.func29, Try.ntmps29
      go_wp2_with fail
      refine (HR.out _).mono ?_
      rintro e w1 ⟨rfl, hg1⟩
      have k1 : w1.cell? ⟨w.heap.size, 1, none⟩ = some (.int .i64 b) := (hg1.cell (by simp)).trans (by simp)
      go_wp2_with fail
      go_ret
      exact ⟨by simp, Grew.of_alloc hg1⟩
    | false =>
      replace HR := Lib.hid HR
      go_enter Try.func29, Try.ntmps29
      go_wp2_with fail
      refine (HR.out _).mono ?_
      rintro e w1 ⟨rfl, hg1⟩
      go_wp2_with fail
      go_ret
      exact ⟨by simp, Grew.of_alloc hg1⟩

def noNode (a b : Int) : Bool := !nodeB a b
theorem isFormula1_ok : PredOk 28 noNode := by
  intro a b w
  unfold noNode
  have HR := Lib.hid (fun w => isNode_c a b w)
  generalize nodeB a b = R at *
  go_enter Try.func28, Try.ntmps28
  go_wp2_with fail
  refine (HR.out _).mono ?_
  rintro e w1 ⟨rfl, hg1⟩
  go_wp2_with fail
  go_ret
  exact ⟨rfl, Grew.of_alloc hg1⟩

theorem enc_nodes (t : Tree) : ∀ n ∈ Fm.enc t, nodeB n.1 n.2 = true := by
  induction t with
  | var v =>
    intro n hn
    simp only [Fm.enc, List.mem_singleton] at hn
    subst hn
    have := v.isLt
    simp [nodeB]
    omega
  | fls =>
    intro n hn
    simp only [Fm.enc, List.mem_singleton] at hn
    subst hn
    rfl
  | and x y hx hy =>
    intro n hn
    simp only [Fm.enc, List.mem_cons, List.mem_append] at hn
    rcases hn with rfl | hn | hn
    · rfl
    · exact hx n hn
    · exact hy n hn
  | or x y hx hy =>
    intro n hn
    simp only [Fm.enc, List.mem_cons, List.mem_append] at hn
    rcases hn with rfl | hn | hn
    · rfl
    · exact hx n hn
    · exact hy n hn
  | imp x y hx hy =>
    intro n hn
    simp only [Fm.enc, List.mem_cons, List.mem_append] at hn
    rcases hn with rfl | hn | hn
    · rfl
    · exact hx n hn
    · exact hy n hn
  | box x hx =>
    intro n hn
    simp only [Fm.enc, List.mem_cons] at hn
    rcases hn with rfl | hn
    · rfl
    · exact hx n hn
  | dia x hx =>
    intro n hn
    simp only [Fm.enc, List.mem_cons] at hn
    rcases hn with rfl | hn
    · rfl
    · exact hx n hn
theorem enc_noNode (t : Tree) : anyP noNode (Fm.enc t) = false := by
  apply anyP_no
  intro i hi
  have h := enc_nodes t (Fm.enc t)[i] (List.getElem_mem hi)
  have h1 : kd (Fm.enc t) i = (Fm.enc t)[i].1 := by simp [kd, List.getD, hi]
  have h2 : sy (Fm.enc t) i = (Fm.enc t)[i].2 := by simp [sy, List.getD, hi]
  rw [noNode, h1, h2, h]
  rfl
theorem at_all (t : Tree) : At (Fm.enc t) 0 t := ⟨[], by simp⟩


/-- Is the list a formula's? -/
noncomputable def fmB (xs : List Nd) : Bool := decide (1 ≤ xs.length ∧ xs.length ≤ 40) && !anyP noNode xs && (pend xs 0 == (xs.length : Int))

theorem isFormula_g (v : Value) (xs : List Nd) (w : World) (h : Nodes w v xs) (hn : xs.length ≤ 1099511627776) :
    Calls Try.prog 15 #[v] w fun e w' => e = .returned (.bool (fmB xs)) ∧ Grew w w' := by
  have HC := Lib.hid (fun w h => containsFunc_c v xs _ _ w h hn isFormula1_ok (enters_of Try.func28 (by kernel_rfl) rfl))
  have HP := Lib.hid (fun w h => partEnd_c v xs 0 w h hn (by omega))
  obtain ⟨A, c, rfl⟩ := nodes_slice h
  have HN := Lib.hid h
  clear h
  unfold fmB
  generalize pend xs 0 = p at *
  generalize anyP noNode xs = q at *
  generalize hL : xs.length = n at *
  clear hL
  by_cases h1 : 1 ≤ n
  · by_cases h2 : n ≤ 40
    · rw [decide_eq_true (⟨h1, h2⟩ : 1 ≤ n ∧ n ≤ 40), Bool.true_and]
      cases q with
      | true =>
        go_enter Try.func15, Try.ntmps15
        go_wp2_with fail
        refine (HC.out _ HN.out).mono ?_
        rintro e w1 ⟨rfl, hg1⟩
        go_wp2_with fail
        go_ret
        exact ⟨by simp, hg1⟩
      | false =>
        go_enter Try.func15, Try.ntmps15
        go_wp2_with fail
        refine (HC.out _ HN.out).mono ?_
        rintro e w1 ⟨rfl, hg1⟩
        go_wp2_with fail
        refine (HP.out _ (HN.out.grew hg1)).mono ?_
        rintro e w2 ⟨rfl, hg2⟩
        go_wp2_with fail
        go_ret
        exact ⟨by simp, hg1.trans hg2⟩
    · rw [decide_eq_false (fun h : 1 ≤ n ∧ n ≤ 40 => h2 h.2), Bool.false_and, Bool.false_and]
      go_enter Try.func15, Try.ntmps15
      go_wp2_with fail
      go_ret
      exact ⟨rfl, Grew.refl _⟩
  · rw [decide_eq_false (fun h : 1 ≤ n ∧ n ≤ 40 => h1 h.1), Bool.false_and, Bool.false_and]
    go_enter Try.func15, Try.ntmps15
    go_wp2_with fail
    go_ret
    exact ⟨rfl, Grew.refl _⟩
end Go.Proofs.Ythdffenpgkbjkaa

/- The parts of a formula, as the program's text needs them. -/
namespace Go.Proofs.Ythdffenpgkbjkaa
open Go.RowKit
open Fm (Nd Tree)

theorem first_c (v : Value) (xs : List Nd) (t : Tree) (w : World) (h : Nodes w v xs) (hn : xs.length ≤ 1099511627776) (ht : At xs 1 t) :
    Calls Try.prog 54 #[v] w (Cuts w (Fm.enc t)) := by
  have HT := Lib.hid ht
  clear ht
  go_enter Try.func54, Try.ntmps54
  go_wp2_with fail
  refine (part_c _ xs 1 t _ h hn HT.out).mono ?_
  rintro e w1 ⟨v1, rfl, hN1, hg1⟩
  go_wp2_with fail
  go_ret
  exact ⟨_, rfl, hN1, hg1⟩

theorem second_c (v : Value) (xs : List Nd) (a t : Tree) (w : World) (h : Nodes w v xs) (hn : xs.length ≤ 1099511627776) (ha : At xs 1 a) (ht : At xs (1 + (Fm.enc a).length) t) :
    Calls Try.prog 55 #[v] w (Cuts w (Fm.enc t)) := by
  have HA := Lib.hid ha
  have HT := Lib.hid ht
  clear ha ht
  go_enter Try.func55, Try.ntmps55
  go_wp2_with fail
  refine (partEnd_at _ xs 1 a _ h hn HA.out).mono ?_
  rintro e w1 ⟨rfl, hg1⟩
  go_wp2_with fail
  refine (part_c _ xs (1 + (Fm.enc a).length) t _ (h.grew hg1) hn HT.out).mono ?_
  rintro e w2 ⟨v2, rfl, hN2, hg2⟩
  go_wp2_with fail
  go_ret
  exact ⟨_, rfl, hN2, hg1.trans hg2⟩

theorem isFalsum_c (v : Value) (t : Tree) (w : World) (h : Nodes w v (Fm.enc t)) :
    Calls Try.prog 57 #[v] w fun e w' => e = .returned (.bool (Fm.isF t)) ∧ Grew w w' := by
  have hpos := Fm.enc_pos t
  rcases h.open_ with ⟨rfl, h0⟩ | ⟨b, o, c, rfl, hc, hm, hb, hf⟩
  · rw [h0] at hpos; simp at hpos
  · have k1 := (hf 0 (by omega) w (Grew.refl _)).1
    rw [kd_enc] at k1
    rw [isF_kind]
    simp only [Nat.zero_mul, Nat.add_zero] at k1
    clear hf h
    go_enter Try.func57, Try.ntmps57
    go_wp2_with fail
    go_ret
    exact ⟨rfl, Grew.refl _⟩

theorem isNegation_c (v : Value) (t : Tree) (w : World) (h : Nodes w v (Fm.enc t)) (hn : (Fm.enc t).length ≤ 1099511627776) :
    Calls Try.prog 56 #[v] w fun e w' => e = .returned (.bool (isNeg t)) ∧ Grew w w' := by
  have hpos := Fm.enc_pos t
  rcases h.open_ with ⟨rfl, h0⟩ | ⟨b, o, c, rfl, hc, hm, hb, hf⟩
  · rw [h0] at hpos; simp at hpos
  · have k1 := (hf 0 (by omega) w (Grew.refl _)).1
    rw [kd_enc] at k1
    simp only [Nat.zero_mul, Nat.add_zero] at k1
    clear hf
    by_cases hk : kindOf t = 4
    · obtain ⟨x, y, rfl⟩ : ∃ x y, t = .imp x y := by cases t <;> simp_all [kindOf]
      have ha := at_first (xs := Fm.enc (.imp x y)) (k := (4, 0)) (a := x) (rest := Fm.enc y) rfl
      have hb2 := at_second (xs := Fm.enc (.imp x y)) (k := (4, 0)) (a := x) (b := y) rfl
      have HA := Lib.hid ha
      have HB := Lib.hid hb2
      have HH := Lib.hid h
      have hE : isNeg (.imp x y) = Fm.isF y := rfl
      rw [hE]
      rw [hk] at k1
      clear ha hb2 h hE hk
      generalize Fm.enc (.imp x y) = T at *
      go_enter Try.func56, Try.ntmps56
      go_wp2_with fail
      refine (second_c _ T x y _ HH.out hn HA.out HB.out).mono ?_
      rintro e w1 ⟨v1, rfl, hN1, hg1⟩
      go_wp2_with fail
      refine (isFalsum_c _ y _ hN1).mono ?_
      rintro e w2 ⟨rfl, hg2⟩
      go_wp2_with fail
      go_ret
      exact ⟨by simp, hg1.trans hg2⟩
    · have hE : isNeg t = false := by cases t <;> simp_all [isNeg, kindOf]
      rw [hE]
      have hk' : (kindOf t == 4) = false := by simpa using hk
      clear hE hk h
      generalize kindOf t = K at *
      go_enter Try.func56, Try.ntmps56
      go_wp2_with fail
      go_ret
      exact ⟨rfl, Grew.refl _⟩

theorem levelOf_c (v : Value) (t : Tree) (w : World) (h : Nodes w v (Fm.enc t)) (hn : (Fm.enc t).length ≤ 1099511627776) :
    Calls Try.prog 53 #[v] w fun e w' => e = .returned (.int .i64 (Fm.own t)) ∧ Grew w w' := by
  have hpos := Fm.enc_pos t
  rcases h.open_ with ⟨rfl, h0⟩ | ⟨b, o, c, rfl, hc, hm, hb, hf⟩
  · rw [h0] at hpos; simp at hpos
  · have k1 := fun W hW => (hf 0 (by omega) W hW).1
    rw [kd_enc] at k1
    simp only [Nat.zero_mul, Nat.add_zero] at k1
    have HN := Lib.hid (fun w h => isNegation_c (.slice (some ⟨b, o, none⟩) (Fm.enc t).length c) t w h hn)
    have HH := Lib.hid h
    have hg0 := Grew.refl w
    clear hf h
    by_cases hk : kindOf t = 4
    · rw [hk] at k1
      cases hng : isNeg t with
      | true =>
        have hE : Fm.own t = 3 := by cases t <;> simp_all [isNeg, kindOf, Fm.own]
        rw [hE]
        rw [hng] at HN
        clear hE hk hng
        go_enter Try.func53, Try.ntmps53
        go_wp2_with fail
        refine (HN.out _ HH.out).mono ?_
        rintro e w1 ⟨rfl, hg1⟩
        go_wp2_with fail
        go_ret
        exact ⟨rfl, hg1⟩
      | false =>
        have hE : Fm.own t = 0 := by cases t <;> simp_all [isNeg, kindOf, Fm.own]
        rw [hE]
        rw [hng] at HN
        clear hE hk hng
        go_enter Try.func53, Try.ntmps53
        go_wp2_with fail
        refine (HN.out _ HH.out).mono ?_
        rintro e w1 ⟨rfl, hg1⟩
        go_wp2_with fail
        go_ret
        exact ⟨rfl, hg1⟩
    · have hk4 : (kindOf t == 4) = false := by simpa using hk
      by_cases hk3 : kindOf t = 3
      · have hE : Fm.own t = 1 := by cases t <;> simp_all [kindOf, Fm.own]
        rw [hE]
        rw [hk3] at k1
        clear hE hk hk4 hk3
        go_enter Try.func53, Try.ntmps53
        go_wp2_with fail
        go_ret
        exact ⟨rfl, Grew.refl _⟩
      by_cases hk2 : kindOf t = 2
      · have hE : Fm.own t = 2 := by cases t <;> simp_all [kindOf, Fm.own]
        rw [hE]
        rw [hk2] at k1
        clear hE hk hk4 hk3 hk2
        go_enter Try.func53, Try.ntmps53
        go_wp2_with fail
        go_ret
        exact ⟨rfl, Grew.refl _⟩
      · have hE : Fm.own t = 3 := by cases t <;> simp_all [kindOf, Fm.own]
        rw [hE]
        have hk3' : (kindOf t == 3) = false := by simpa using hk3
        have hk2' : (kindOf t == 2) = false := by simpa using hk2
        clear hE hk hk3 hk2 HN HH
        generalize kindOf t = K at *
        go_enter Try.func53, Try.ntmps53
        go_wp2_with fail
        go_ret
        exact ⟨rfl, Grew.refl _⟩
end Go.Proofs.Ythdffenpgkbjkaa

/- The text of a formula: the program's textAt. -/
namespace Go.Proofs.Ythdffenpgkbjkaa
open Go.RowKit
open Fm (Nd Tree)

def TextOk (t : Tree) : Prop := ∀ (l : Nat) (v : Value) (w : World), l ≤ 3 → Nodes w v (Fm.enc t) → (Fm.enc t).length ≤ 1048576 →
  Calls Try.prog 31 #[v, .int .i64 l] w (Says w (Fm.txt t l))
/-- The same where no brackets are needed. -/
def BodyOk (t : Tree) : Prop := ∀ (l : Nat) (v : Value) (w : World), l ≤ Fm.own t → Nodes w v (Fm.enc t) → (Fm.enc t).length ≤ 1048576 →
  Calls Try.prog 31 #[v, .int .i64 l] w (Says w (Fm.txt t l))

theorem body_and (x y : Tree) (hx : TextOk x) (hy : TextOk y) : BodyOk (.and x y) := by
  intro l v w hl h hn
  have hown : Fm.own (.and x y) = 2 := by rfl
  have hE : Fm.txt (.and x y) l = Fm.txt x 2 ++ [38] ++ Fm.txt y 3 := by
    rw [Fm.txt, Fm.wrap, if_neg (by omega)]
  rw [hE]
  rw [hown] at hl
  obtain ⟨b, o, c, rfl, hc, hm, k1⟩ := nodes_head h
  have hpos := Fm.enc_pos (.and x y)
  have HL := Lib.hid (levelOf_c _ _ w h (by omega))
  have HH := Lib.hid h
  have hg0 := Grew.refl w
  rw [hown] at HL
  rw [show kindOf (.and x y) = 2 from rfl] at k1
  have HA := Lib.hid (at_first (xs := Fm.enc (.and x y)) (k := (2, 0)) (a := x) (rest := Fm.enc y) rfl)
  have HB := Lib.hid (at_second (xs := Fm.enc (.and x y)) (k := (2, 0)) (a := x) (b := y) rfl)
  have hlen : (Fm.enc (.and x y)).length = 1 + ((Fm.enc x).length + (Fm.enc y).length) := by simp [Fm.enc]; omega
  have h1 := Fm.txt_len x 2
  have h2 := Fm.txt_len y 3
  have HX := Lib.hid hx
  have HY := Lib.hid hy
  have hn1 : (Fm.enc x).length ≤ 1048576 := by omega
  have hn2 : (Fm.enc y).length ≤ 1048576 := by omega
  clear hE h hx hy hlen hown
  generalize Fm.enc (.and x y) = T at *
  have s1 := bs_size (Fm.txt x 2)
  have s2 := bs_size (Fm.txt y 3)
  have z1 : (bs (Fm.txt x 2)).size ≤ 4194304 := by omega
  have z2 : (bs (Fm.txt y 3)).size ≤ 4194304 := by omega
  have HE : Hid (bs (Fm.txt x 2) ++ bs [38] ++ bs (Fm.txt y 3) = bs (Fm.txt x 2 ++ [38] ++ Fm.txt y 3)) := by unfold Hid; rw [bs_append, bs_append]
  clear s1 s2 h1 h2
  generalize Fm.txt x 2 ++ [38] ++ Fm.txt y 3 = Z at *
  go_enter Try.func31, Try.ntmps31
  go_wp2_with fail
  refine HL.out.mono ?_
  rintro e w1 ⟨rfl, hg1⟩
  go_wp2_with fail
  refine (first_c _ T x _ (HH.out.grew hg1) (by omega) HA.out).mono ?_
  rintro e w2 ⟨v2, rfl, hN2, hg2⟩
  go_wp2_with fail
  refine (HX.out 2 _ _ (by omega) hN2 hn1).mono ?_
  rintro e w3 ⟨rfl, hg3⟩
  go_wp2_with fail
  refine (second_c _ T x y _ (HH.out.grew ((hg1.trans hg2).trans hg3)) (by omega) HA.out HB.out).mono ?_
  rintro e w4 ⟨v4, rfl, hN4, hg4⟩
  go_wp2_with fail
  refine (HY.out 3 _ _ (by omega) hN4 hn2).mono ?_
  rintro e w5 ⟨rfl, hg5⟩
  go_wp2_with fail
  go_ret
  exact ⟨congrArg (fun z => Ending.returned (.string z)) HE.out, (((hg1.trans hg2).trans hg3).trans hg4).trans hg5⟩

theorem body_or (x y : Tree) (hx : TextOk x) (hy : TextOk y) : BodyOk (.or x y) := by
  intro l v w hl h hn
  have hown : Fm.own (.or x y) = 1 := by rfl
  have hE : Fm.txt (.or x y) l = Fm.txt x 1 ++ [124] ++ Fm.txt y 2 := by
    rw [Fm.txt, Fm.wrap, if_neg (by omega)]
  rw [hE]
  rw [hown] at hl
  obtain ⟨b, o, c, rfl, hc, hm, k1⟩ := nodes_head h
  have hpos := Fm.enc_pos (.or x y)
  have HL := Lib.hid (levelOf_c _ _ w h (by omega))
  have HH := Lib.hid h
  have hg0 := Grew.refl w
  rw [hown] at HL
  rw [show kindOf (.or x y) = 3 from rfl] at k1
  have HA := Lib.hid (at_first (xs := Fm.enc (.or x y)) (k := (3, 0)) (a := x) (rest := Fm.enc y) rfl)
  have HB := Lib.hid (at_second (xs := Fm.enc (.or x y)) (k := (3, 0)) (a := x) (b := y) rfl)
  have hlen : (Fm.enc (.or x y)).length = 1 + ((Fm.enc x).length + (Fm.enc y).length) := by simp [Fm.enc]; omega
  have h1 := Fm.txt_len x 1
  have h2 := Fm.txt_len y 2
  have HX := Lib.hid hx
  have HY := Lib.hid hy
  have hn1 : (Fm.enc x).length ≤ 1048576 := by omega
  have hn2 : (Fm.enc y).length ≤ 1048576 := by omega
  clear hE h hx hy hlen hown
  generalize Fm.enc (.or x y) = T at *
  have s1 := bs_size (Fm.txt x 1)
  have s2 := bs_size (Fm.txt y 2)
  have z1 : (bs (Fm.txt x 1)).size ≤ 4194304 := by omega
  have z2 : (bs (Fm.txt y 2)).size ≤ 4194304 := by omega
  have HE : Hid (bs (Fm.txt x 1) ++ bs [124] ++ bs (Fm.txt y 2) = bs (Fm.txt x 1 ++ [124] ++ Fm.txt y 2)) := by unfold Hid; rw [bs_append, bs_append]
  clear s1 s2 h1 h2
  generalize Fm.txt x 1 ++ [124] ++ Fm.txt y 2 = Z at *
  go_enter Try.func31, Try.ntmps31
  go_wp2_with fail
  refine HL.out.mono ?_
  rintro e w1 ⟨rfl, hg1⟩
  go_wp2_with fail
  refine (first_c _ T x _ (HH.out.grew hg1) (by omega) HA.out).mono ?_
  rintro e w2 ⟨v2, rfl, hN2, hg2⟩
  go_wp2_with fail
  refine (HX.out 1 _ _ (by omega) hN2 hn1).mono ?_
  rintro e w3 ⟨rfl, hg3⟩
  go_wp2_with fail
  refine (second_c _ T x y _ (HH.out.grew ((hg1.trans hg2).trans hg3)) (by omega) HA.out HB.out).mono ?_
  rintro e w4 ⟨v4, rfl, hN4, hg4⟩
  go_wp2_with fail
  refine (HY.out 2 _ _ (by omega) hN4 hn2).mono ?_
  rintro e w5 ⟨rfl, hg5⟩
  go_wp2_with fail
  go_ret
  exact ⟨congrArg (fun z => Ending.returned (.string z)) HE.out, (((hg1.trans hg2).trans hg3).trans hg4).trans hg5⟩

theorem body_imp (x y : Tree) (hf : Fm.isF y = false) (hx : TextOk x) (hy : TextOk y) : BodyOk (.imp x y) := by
  intro l v w hl h hn
  have hown : Fm.own (.imp x y) = 0 := by simp [Fm.own, hf]
  have hE : Fm.txt (.imp x y) l = Fm.txt x 1 ++ [62] ++ Fm.txt y 0 := by
    rw [Fm.txt, if_neg (by simp [hf]), Fm.wrap, if_neg (by omega)]
  rw [hE]
  rw [hown] at hl
  obtain ⟨b, o, c, rfl, hc, hm, k1⟩ := nodes_head h
  have hpos := Fm.enc_pos (.imp x y)
  have HL := Lib.hid (levelOf_c _ _ w h (by omega))
  have HH := Lib.hid h
  have hg0 := Grew.refl w
  have hng : isNeg (.imp x y) = false := hf
  have HG := Lib.hid (fun w h => isNegation_c (.slice (some ⟨b, o, none⟩) (Fm.enc (.imp x y)).length c) (.imp x y) w h (by omega))
  rw [hng] at HG
  rw [hown] at HL
  rw [show kindOf (.imp x y) = 4 from rfl] at k1
  have HA := Lib.hid (at_first (xs := Fm.enc (.imp x y)) (k := (4, 0)) (a := x) (rest := Fm.enc y) rfl)
  have HB := Lib.hid (at_second (xs := Fm.enc (.imp x y)) (k := (4, 0)) (a := x) (b := y) rfl)
  have hlen : (Fm.enc (.imp x y)).length = 1 + ((Fm.enc x).length + (Fm.enc y).length) := by simp [Fm.enc]; omega
  have h1 := Fm.txt_len x 1
  have h2 := Fm.txt_len y 0
  have HX := Lib.hid hx
  have HY := Lib.hid hy
  have hn1 : (Fm.enc x).length ≤ 1048576 := by omega
  have hn2 : (Fm.enc y).length ≤ 1048576 := by omega
  clear hE h hx hy hlen hown hng hf
  generalize Fm.enc (.imp x y) = T at *
  have s1 := bs_size (Fm.txt x 1)
  have s2 := bs_size (Fm.txt y 0)
  have z1 : (bs (Fm.txt x 1)).size ≤ 4194304 := by omega
  have z2 : (bs (Fm.txt y 0)).size ≤ 4194304 := by omega
  have HE : Hid (bs (Fm.txt x 1) ++ bs [62] ++ bs (Fm.txt y 0) = bs (Fm.txt x 1 ++ [62] ++ Fm.txt y 0)) := by unfold Hid; rw [bs_append, bs_append]
  clear s1 s2 h1 h2
  generalize Fm.txt x 1 ++ [62] ++ Fm.txt y 0 = Z at *
  go_enter Try.func31, Try.ntmps31
  go_wp2_with fail
  refine HL.out.mono ?_
  rintro e w1 ⟨rfl, hg1⟩
  go_wp2_with fail
  refine (HG.out _ (HH.out.grew hg1)).mono ?_
  rintro e w11 ⟨rfl, hg11⟩
  have hg1 := hg1.trans hg11
  go_wp2_with fail
  refine (first_c _ T x _ (HH.out.grew hg1) (by omega) HA.out).mono ?_
  rintro e w2 ⟨v2, rfl, hN2, hg2⟩
  go_wp2_with fail
  refine (HX.out 1 _ _ (by omega) hN2 hn1).mono ?_
  rintro e w3 ⟨rfl, hg3⟩
  go_wp2_with fail
  refine (second_c _ T x y _ (HH.out.grew ((hg1.trans hg2).trans hg3)) (by omega) HA.out HB.out).mono ?_
  rintro e w4 ⟨v4, rfl, hN4, hg4⟩
  go_wp2_with fail
  refine (HY.out 0 _ _ (by omega) hN4 hn2).mono ?_
  rintro e w5 ⟨rfl, hg5⟩
  go_wp2_with fail
  go_ret
  exact ⟨congrArg (fun z => Ending.returned (.string z)) HE.out, (((hg1.trans hg2).trans hg3).trans hg4).trans hg5⟩

theorem body_box (x : Tree) (hx : TextOk x) : BodyOk (.box x) := by
  intro l v w hl h hn
  have hown : Fm.own (.box x) = 3 := rfl
  have hE : Fm.txt (.box x) l = [91, 93] ++ Fm.txt x 3 := rfl
  rw [hE]
  rw [hown] at hl
  obtain ⟨b, o, c, rfl, hc, hm, k1⟩ := nodes_head h
  have hpos := Fm.enc_pos (.box x)
  have HL := Lib.hid (levelOf_c _ _ w h (by omega))
  have HH := Lib.hid h
  have hg0 := Grew.refl w
  rw [hown] at HL
  rw [show kindOf (.box x) = 5 from rfl] at k1
  have HA := Lib.hid (at_first (xs := Fm.enc (.box x)) (k := (5, 0)) (a := x) (rest := []) (by simp [Fm.enc]))
  have hlen : (Fm.enc (.box x)).length = 1 + (Fm.enc x).length := by simp [Fm.enc]; omega
  have h1 := Fm.txt_len x 3
  have HX := Lib.hid hx
  have hn1 : (Fm.enc x).length ≤ 1048576 := by omega
  clear hE h hx hlen hown
  generalize Fm.enc (.box x) = T at *
  have s1 := bs_size (Fm.txt x 3)
  have z1 : (bs (Fm.txt x 3)).size ≤ 4194304 := by omega
  have HE : Hid (bs [91, 93] ++ bs (Fm.txt x 3) = bs ([91, 93] ++ Fm.txt x 3)) := by unfold Hid; rw [bs_append]
  clear s1 h1
  generalize [91, 93] ++ Fm.txt x 3 = Z at *
  go_enter Try.func31, Try.ntmps31
  go_wp2_with fail
  refine HL.out.mono ?_
  rintro e w1 ⟨rfl, hg1⟩
  go_wp2_with fail
  refine (first_c _ T x _ (HH.out.grew hg1) (by omega) HA.out).mono ?_
  rintro e w2 ⟨v2, rfl, hN2, hg2⟩
  go_wp2_with fail
  refine (HX.out 3 _ _ (by omega) hN2 hn1).mono ?_
  rintro e w3 ⟨rfl, hg3⟩
  go_wp2_with fail
  go_ret
  exact ⟨congrArg (fun z => Ending.returned (.string z)) HE.out, (hg1.trans hg2).trans hg3⟩

theorem body_dia (x : Tree) (hx : TextOk x) : BodyOk (.dia x) := by
  intro l v w hl h hn
  have hown : Fm.own (.dia x) = 3 := rfl
  have hE : Fm.txt (.dia x) l = [60, 62] ++ Fm.txt x 3 := rfl
  rw [hE]
  rw [hown] at hl
  obtain ⟨b, o, c, rfl, hc, hm, k1⟩ := nodes_head h
  have hpos := Fm.enc_pos (.dia x)
  have HL := Lib.hid (levelOf_c _ _ w h (by omega))
  have HH := Lib.hid h
  have hg0 := Grew.refl w
  rw [hown] at HL
  rw [show kindOf (.dia x) = 6 from rfl] at k1
  have HA := Lib.hid (at_first (xs := Fm.enc (.dia x)) (k := (6, 0)) (a := x) (rest := []) (by simp [Fm.enc]))
  have hlen : (Fm.enc (.dia x)).length = 1 + (Fm.enc x).length := by simp [Fm.enc]; omega
  have h1 := Fm.txt_len x 3
  have HX := Lib.hid hx
  have hn1 : (Fm.enc x).length ≤ 1048576 := by omega
  clear hE h hx hlen hown
  generalize Fm.enc (.dia x) = T at *
  have s1 := bs_size (Fm.txt x 3)
  have z1 : (bs (Fm.txt x 3)).size ≤ 4194304 := by omega
  have HE : Hid (bs [60, 62] ++ bs (Fm.txt x 3) = bs ([60, 62] ++ Fm.txt x 3)) := by unfold Hid; rw [bs_append]
  clear s1 h1
  generalize [60, 62] ++ Fm.txt x 3 = Z at *
  go_enter Try.func31, Try.ntmps31
  go_wp2_with fail
  refine HL.out.mono ?_
  rintro e w1 ⟨rfl, hg1⟩
  go_wp2_with fail
  refine (first_c _ T x _ (HH.out.grew hg1) (by omega) HA.out).mono ?_
  rintro e w2 ⟨v2, rfl, hN2, hg2⟩
  go_wp2_with fail
  refine (HX.out 3 _ _ (by omega) hN2 hn1).mono ?_
  rintro e w3 ⟨rfl, hg3⟩
  go_wp2_with fail
  go_ret
  exact ⟨congrArg (fun z => Ending.returned (.string z)) HE.out, (hg1.trans hg2).trans hg3⟩

theorem body_tru (x : Tree) (hf : Fm.isF x = true) : BodyOk (.imp x .fls) := by
  intro l v w hl h hn
  have hown : Fm.own (.imp x .fls) = 3 := rfl
  have hE : Fm.txt (.imp x .fls) l = [84] := by
    rw [Fm.txt, if_pos (show Fm.isF .fls = true from rfl), if_pos hf]
  rw [hE]
  rw [hown] at hl
  obtain ⟨b, o, c, rfl, hc, hm, k1⟩ := nodes_head h
  have hpos := Fm.enc_pos (.imp x .fls)
  have HL := Lib.hid (levelOf_c _ _ w h (by omega))
  have HH := Lib.hid h
  have hg0 := Grew.refl w
  have HG := Lib.hid (fun w h => isNegation_c (.slice (some ⟨b, o, none⟩) (Fm.enc (.imp x .fls)).length c) (.imp x .fls) w h (by omega))
  rw [show isNeg (.imp x .fls) = true from rfl] at HG
  rw [hown] at HL
  rw [show kindOf (.imp x .fls) = 4 from rfl] at k1
  have HA := Lib.hid (at_first (xs := Fm.enc (.imp x .fls)) (k := (4, 0)) (a := x) (rest := Fm.enc .fls) rfl)
  have hlen : (Fm.enc (.imp x .fls)).length = 2 + (Fm.enc x).length := by simp [Fm.enc]; omega
  have hn1 : (Fm.enc x).length ≤ 1048576 := by omega
  have HI := Lib.hid (fun v w h => isFalsum_c v x w h)
  rw [hf] at HI
  clear hE h hlen hown hf
  generalize Fm.enc (.imp x .fls) = T at *
  go_enter Try.func31, Try.ntmps31
  go_wp2_with fail
  refine HL.out.mono ?_
  rintro e w1 ⟨rfl, hg1⟩
  go_wp2_with fail
  refine (HG.out _ (HH.out.grew hg1)).mono ?_
  rintro e w11 ⟨rfl, hg11⟩
  have hg1 := hg1.trans hg11
  go_wp2_with fail
  refine (first_c _ T x _ (HH.out.grew hg1) (by omega) HA.out).mono ?_
  rintro e w2 ⟨v2, rfl, hN2, hg2⟩
  go_wp2_with fail
  refine (HI.out _ _ hN2).mono ?_
  rintro e w3 ⟨rfl, hg3⟩
  go_wp2_with fail
  go_ret
  exact ⟨rfl, (hg1.trans hg2).trans hg3⟩

theorem body_not (x : Tree) (hf : Fm.isF x = false) (hx : TextOk x) : BodyOk (.imp x .fls) := by
  intro l v w hl h hn
  have hown : Fm.own (.imp x .fls) = 3 := rfl
  have hE : Fm.txt (.imp x .fls) l = [126] ++ Fm.txt x 3 := by
    rw [Fm.txt, if_pos (show Fm.isF .fls = true from rfl), if_neg (by simp [hf])]
  rw [hE]
  rw [hown] at hl
  obtain ⟨b, o, c, rfl, hc, hm, k1⟩ := nodes_head h
  have hpos := Fm.enc_pos (.imp x .fls)
  have HL := Lib.hid (levelOf_c _ _ w h (by omega))
  have HH := Lib.hid h
  have hg0 := Grew.refl w
  have HG := Lib.hid (fun w h => isNegation_c (.slice (some ⟨b, o, none⟩) (Fm.enc (.imp x .fls)).length c) (.imp x .fls) w h (by omega))
  rw [show isNeg (.imp x .fls) = true from rfl] at HG
  rw [hown] at HL
  rw [show kindOf (.imp x .fls) = 4 from rfl] at k1
  have HA := Lib.hid (at_first (xs := Fm.enc (.imp x .fls)) (k := (4, 0)) (a := x) (rest := Fm.enc .fls) rfl)
  have hlen : (Fm.enc (.imp x .fls)).length = 2 + (Fm.enc x).length := by simp [Fm.enc]; omega
  have hn1 : (Fm.enc x).length ≤ 1048576 := by omega
  have HI := Lib.hid (fun v w h => isFalsum_c v x w h)
  rw [hf] at HI
  have h1 := Fm.txt_len x 3
  have HX := Lib.hid hx
  have s1 := bs_size (Fm.txt x 3)
  have z1 : (bs (Fm.txt x 3)).size ≤ 4194304 := by omega
  have HE : Hid (bs [126] ++ bs (Fm.txt x 3) = bs ([126] ++ Fm.txt x 3)) := by unfold Hid; rw [bs_append]
  clear s1 h1 hx
  generalize [126] ++ Fm.txt x 3 = Z at *
  clear hE h hlen hown hf
  generalize Fm.enc (.imp x .fls) = T at *
  go_enter Try.func31, Try.ntmps31
  go_wp2_with fail
  refine HL.out.mono ?_
  rintro e w1 ⟨rfl, hg1⟩
  go_wp2_with fail
  refine (HG.out _ (HH.out.grew hg1)).mono ?_
  rintro e w11 ⟨rfl, hg11⟩
  have hg1 := hg1.trans hg11
  go_wp2_with fail
  refine (first_c _ T x _ (HH.out.grew hg1) (by omega) HA.out).mono ?_
  rintro e w2 ⟨v2, rfl, hN2, hg2⟩
  go_wp2_with fail
  refine (HI.out _ _ hN2).mono ?_
  rintro e w3 ⟨rfl, hg3⟩
  go_wp2_with fail
  refine (first_c _ T x _ (HH.out.grew ((hg1.trans hg2).trans hg3)) (by omega) HA.out).mono ?_
  rintro e w4 ⟨v4, rfl, hN4, hg4⟩
  go_wp2_with fail
  refine (HX.out 3 _ _ (by omega) hN4 hn1).mono ?_
  rintro e w5 ⟨rfl, hg5⟩
  go_wp2_with fail
  go_ret
  exact ⟨congrArg (fun z => Ending.returned (.string z)) HE.out, (((hg1.trans hg2).trans hg3).trans hg4).trans hg5⟩

theorem body_fls : BodyOk .fls := by
  intro l v w hl h hn
  have hE : Fm.txt .fls l = [70] := rfl
  rw [hE]
  rw [show Fm.own .fls = 3 from rfl] at hl
  obtain ⟨b, o, c, rfl, hc, hm, k1⟩ := nodes_head h
  have hpos := Fm.enc_pos (.fls)
  have HL := Lib.hid (levelOf_c _ _ w h (by omega))
  have HH := Lib.hid h
  have hg0 := Grew.refl w
  rw [show Fm.own .fls = 3 from rfl] at HL
  rw [show kindOf .fls = 1 from rfl] at k1
  clear hE h
  generalize Fm.enc .fls = T at *
  go_enter Try.func31, Try.ntmps31
  go_wp2_with fail
  refine HL.out.mono ?_
  rintro e w1 ⟨rfl, hg1⟩
  go_wp2_with fail
  go_ret
  exact ⟨rfl, hg1⟩

theorem body_var (n : Fin 6) : BodyOk (.var n) := by
  intro l v w hl h hn
  have hE : Fm.txt (.var n) l = [UInt8.ofNat (112 + n.val)] := rfl
  rw [hE]
  rw [show Fm.own (.var n) = 3 from rfl] at hl
  have k2 : ∃ b o c, v = .slice (some ⟨b, o, none⟩) (Fm.enc (.var n)).length c ∧ ∀ W, Grew w W → W.cell? ⟨b, o + 1, none⟩ = some (.int .i64 (n.val : Int)) := by
    rcases h.open_ with ⟨_, h0⟩ | ⟨b, o, c, hv, _, _, _, hf⟩
    · simp [Fm.enc] at h0
    · refine ⟨b, o, c, hv, fun W hW => ?_⟩
      have := (hf 0 (by simp [Fm.enc]) W hW).2
      rw [show sy (Fm.enc (.var n)) 0 = (n.val : Int) from rfl] at this
      simpa using this
  obtain ⟨b, o, c, rfl, hc, hm, k1⟩ := nodes_head h
  have hpos := Fm.enc_pos (.var n)
  have HL := Lib.hid (levelOf_c _ _ w h (by omega))
  have HH := Lib.hid h
  have hg0 := Grew.refl w
  obtain ⟨b', o', c', hv', k2⟩ := k2
  simp only [Value.slice.injEq, Option.some.injEq, Addr.mk.injEq, and_true, true_and] at hv'
  obtain ⟨⟨rfl, rfl⟩, rfl⟩ := hv'
  rw [show Fm.own (.var n) = 3 from rfl] at HL
  rw [show kindOf (.var n) = 0 from rfl] at k1
  have hn6 := n.isLt
  clear hE h
  generalize Fm.enc (.var n) = T at *
  generalize n.val = q at *
  go_enter Try.func31, Try.ntmps31
  go_wp2_with fail
  refine HL.out.mono ?_
  rintro e w1 ⟨rfl, hg1⟩
  go_wp2_with fail
  go_quiet (fail)
  go_wp2_with fail
  go_ret
  exact ⟨congrArg (fun z => Ending.returned (.string z)) (letter_cut hn6), hg1.drewN _⟩

theorem textOk_of (t : Tree) (hb : BodyOk t) : TextOk t := by
  intro l v w hl h hn
  by_cases hw : Fm.own t < l
  · have hE : Fm.txt t l = [40] ++ Fm.txt t 0 ++ [41] := by
      cases t with
      | var n => simp [Fm.own] at hw; omega
      | fls => simp [Fm.own] at hw; omega
      | and x y => simp only [Fm.own] at hw; simp [Fm.txt, Fm.wrap, hw]
      | or x y => simp only [Fm.own] at hw; simp [Fm.txt, Fm.wrap, hw]
      | imp x y =>
        cases hf : Fm.isF y with
        | true => simp [Fm.own, hf] at hw; omega
        | false => simp [Fm.own, hf] at hw; simp [Fm.txt, Fm.wrap, hf, hw]
      | box x => simp [Fm.own] at hw; omega
      | dia x => simp [Fm.own] at hw; omega
    rw [hE]
    have h1 := Fm.txt_len t 0
    have s1 := bs_size (Fm.txt t 0)
    have z1 : (bs (Fm.txt t 0)).size ≤ 4194304 := by omega
    have HL := Lib.hid (levelOf_c _ _ w h (by omega))
    have HB := Lib.hid (fun w h => hb 0 v w (Nat.zero_le _) h hn)
    have HH := Lib.hid h
    have HE : Hid (bs [40] ++ bs (Fm.txt t 0) ++ bs [41] = bs ([40] ++ Fm.txt t 0 ++ [41])) := by unfold Hid; rw [bs_append, bs_append]
    clear hE h1 s1 hb h
    generalize Fm.own t = q at *
    generalize [40] ++ Fm.txt t 0 ++ [41] = Z at *
    go_enter Try.func31, Try.ntmps31
    go_wp2_with fail
    refine HL.out.mono ?_
    rintro e w1 ⟨rfl, hg1⟩
    go_wp2_with fail
    refine (HB.out _ (HH.out.grew hg1)).mono ?_
    rintro e w2 ⟨rfl, hg2⟩
    go_wp2_with fail
    go_ret
    exact ⟨congrArg (fun z => Ending.returned (.string z)) HE.out, hg1.trans hg2⟩
  · exact hb l v w (by omega) h hn

theorem text_ok (t : Tree) : TextOk t := by
  induction t with
  | var n => exact textOk_of _ (body_var n)
  | fls => exact textOk_of _ body_fls
  | and x y hx hy => exact textOk_of _ (body_and x y hx hy)
  | or x y hx hy => exact textOk_of _ (body_or x y hx hy)
  | imp x y hx hy =>
    cases hf : Fm.isF y with
    | true =>
      obtain rfl := Fm.isF_eq hf
      cases hg : Fm.isF x with
      | true => exact textOk_of _ (body_tru x hg)
      | false => exact textOk_of _ (body_not x hg hx)
    | false => exact textOk_of _ (body_imp x y hf hx hy)
  | box x hx => exact textOk_of _ (body_box x hx)
  | dia x hx => exact textOk_of _ (body_dia x hx)

theorem text_c (t : Tree) (v : Value) (w : World) (h : Nodes w v (Fm.enc t)) (hn : (Fm.enc t).length ≤ 1048576) :
    Calls Try.prog 16 #[v] w (Says w (Fm.txt t 0)) := by
  have HT := Lib.hid (text_ok t 0 v w (by omega) h hn)
  go_enter Try.func16, Try.ntmps16
  go_wp2_with fail
  refine HT.out.mono ?_
  rintro e w1 ⟨rfl, hg1⟩
  go_wp2_with fail
  go_ret
  exact ⟨rfl, hg1⟩
end Go.Proofs.Ythdffenpgkbjkaa

/- isFormula, FormulaText and PartEnd of the program at a tree. -/
namespace Go.Proofs.Ythdffenpgkbjkaa
open Go.RowKit
open Fm (Nd Tree)

theorem isFormula_c (v : Value) (t : Tree) (w : World) (h : Nodes w v (Fm.enc t)) (hn : (Fm.enc t).length ≤ 40) :
    Calls Try.prog 15 #[v] w fun e w' => e = .returned (.bool true) ∧ Grew w w' := by
  have hpos := Fm.enc_pos t
  have HC := fun w h => containsFunc_c v (Fm.enc t) _ _ w h (by omega) isFormula1_ok (enters_of Try.func28 (by kernel_rfl) rfl)
  rw [enc_noNode] at HC
  replace HC := Lib.hid HC
  have HP := Lib.hid (fun w h => partEnd_at v (Fm.enc t) 0 t w h (by omega) (at_all t))
  obtain ⟨A, c, rfl⟩ := nodes_slice h
  have HN := Lib.hid h
  clear h
  generalize Fm.enc t = xs at *
  generalize hL : xs.length = n at *
  clear hL
  go_enter Try.func15, Try.ntmps15
  go_wp2_with fail
  refine (HC.out _ HN.out).mono ?_
  rintro e w1 ⟨rfl, hg1⟩
  go_wp2_with fail
  refine (HP.out _ (HN.out.grew hg1)).mono ?_
  rintro e w2 ⟨rfl, hg2⟩
  go_wp2_with fail
  go_ret
  exact ⟨by simp, hg1.trans hg2⟩

theorem formulaText_c (v : Value) (t : Tree) (w : World) (h : Nodes w v (Fm.enc t)) (hn : (Fm.enc t).length ≤ 40) :
    Calls Try.prog 6 #[v] w fun e w' => e = .returned (.tuple #[.string (bs (Fm.txt t 0)), .int .i64 0]) ∧ Grew w w' := by
  have HF := Lib.hid (isFormula_c v t w h hn)
  have HT := Lib.hid (fun W (hW : Grew w W) => text_c t v W (h.grew hW) (by omega))
  clear h
  go_enter Try.func6, Try.ntmps6
  go_wp2_with fail
  refine HF.out.mono ?_
  rintro e w1 ⟨rfl, hg1⟩
  go_wp2_with fail
  refine (HT.out _ hg1).mono ?_
  rintro e w2 ⟨rfl, hg2⟩
  go_wp2_with fail
  go_ret2
  exact ⟨rfl, hg1.trans hg2⟩

end Go.Proofs.Ythdffenpgkbjkaa

/- l02Is of the reference, at any list. -/
namespace Go.Proofs.Ythdffenpgkbjkaa
open Go.RowKit
open Fm (Nd Tree)

theorem nodeB_bad1 {a b : Int} (h : decide (0 ≤ a ∧ a ≤ 6) = false) : nodeB a b = false := by
  unfold nodeB
  have h' := of_decide_eq_false h
  rw [if_neg (by simp; omega), decide_eq_false (by omega)]
  rfl
theorem nodeB_bad2 {a b : Int} (h : decide (0 ≤ b ∧ b ≤ 5) = false) : nodeB a b = false := by
  unfold nodeB
  have h' := of_decide_eq_false h
  split
  · exact h
  · have : (b == 0) = false := by simp; omega
    rw [this, Bool.and_false]
theorem nodeB_bad3 {a b : Int} (h0 : (a != 0) = true) (h1 : (b != 0) = true) : nodeB a b = false := by
  unfold nodeB
  simp at h0 h1
  rw [if_neg (by simpa using h0)]
  simp [h1]
theorem nodeB_ok {a b : Int} (h1 : decide (0 ≤ a ∧ a ≤ 6) = true) (h2 : decide (0 ≤ b ∧ b ≤ 5) = true) (h : (a != 0) = false ∨ (b != 0) = false) : nodeB a b = true := by
  unfold nodeB
  have h1' := of_decide_eq_true h1
  split
  · exact h2
  · rename_i hne
    rcases h with h | h
    · simp at h; simp [h] at hne
    · simp at h
      subst h
      have : a ≠ 0 := by simpa using hne
      simp; omega

theorem l02Tree_c (v : Value) (xs : List Nd) (w : World) (h : Nodes w v xs) (hn : xs.length ≤ 1099511627776) :
    Calls Try.prog 32 #[v] w fun e w' => e = .returned (.bool (decide (1 ≤ xs.length) && !anyP noNode xs && (pend xs 0 == (xs.length : Int)))) ∧ Grew w w' := by
  rcases h.open_ with ⟨rfl, rfl⟩ | ⟨b, o, c, rfl, hc, hm, hb, hcell⟩
  · clear h
    go_enter Try.func32, Try.ntmps32
    go_wp2_with fail
    refine wp_loop_rounds 1 ?_; rw [rounds_succ]
    go_wp2_with fail
    go_ret
    exact ⟨rfl, Grew.refl _⟩
  obtain ⟨R, hR⟩ : ∃ R, R = anyP noNode xs := ⟨_, rfl⟩
  rw [← hR]
  have HA := Lib.hid (fun k hk h => hR.trans (@anyP_at noNode xs k hk h))
  have HZ := Lib.hid (fun h => hR.trans (@anyP_no noNode xs h))
  have HP := Lib.hid (fun W (hW : Grew w W) => l02Part_c _ xs 0 W (h.grew hW) hn (by omega))
  have HC := Lib.hid hcell
  clear hcell h hR
  generalize pend xs 0 = p at *
  generalize hN : xs.length = n at *
  clear hN
  go_enter Try.func32, Try.ntmps32
  go_wp2_with fail
  go_loopw [3] (fun i wr => ∃ j : Nat, j ≤ n ∧ i = .int .i64 j ∧ Grew w wr ∧ Hid (NoneP noNode xs j)) (fun i _ => n - (intOf i).toNat)
  case atStart => exact ⟨0, Nat.zero_le _, rfl, Grew.refl _, NoneP.zero _ _⟩
  case round =>
    obtain ⟨j, hj, rfl, hB, HJ⟩ := hrel
    by_cases hlt : j < n
    · have k1 : ∀ W, Grew w W → W.cell? ⟨b, o + j * 2, none⟩ = some (.int .i64 (kd xs j)) := fun W hW => (HC.out j hlt W hW).1
      have k2 : ∀ W, Grew w W → W.cell? ⟨b, o + j * 2 + 1, none⟩ = some (.int .i64 (sy xs j)) := fun W hW => (HC.out j hlt W hW).2
      have hA : Hid (nodeB (kd xs j) (sy xs j) = false → R = true) := Lib.hid (fun h => HA.out j hlt (by rw [noNode, h]; rfl))
      have hS : Hid (nodeB (kd xs j) (sy xs j) = true → NoneP noNode xs (j + 1)) := Lib.hid (fun h => HJ.out.succ (k := j) (by rw [noNode, h]; rfl))
      generalize kd xs j = x at *
      generalize sy xs j = y at *
      have I1 := fun w => l01In_c x 0 6 w
      have I2 := fun w => l01In_c y 0 5 w
      have hd : ∀ W, Grew w W → Grew w W.drew := fun W h => h.drew
      cases d1 : decide (0 ≤ x ∧ x ≤ 6) with
      | false =>
        have hv := Lib.hid (hA.out (nodeB_bad1 d1))
        rw [d1] at I1
        replace I1 := Lib.hid I1
        replace I2 := Lib.hid I2
        clear d1
        go_wp2_with fail
        refine (I1.out _).mono ?_
        rintro e w1 ⟨rfl, hg1⟩
        have hB1 := hB.trans hg1
        go_wp2_with fail
        go_ret
        rw [hv.out]
        exact ⟨by simp, hB1⟩
      | true =>
        rw [d1] at I1
        replace I1 := Lib.hid I1
        cases d2 : decide (0 ≤ y ∧ y ≤ 5) with
        | false =>
          have hv := Lib.hid (hA.out (nodeB_bad2 d2))
          rw [d2] at I2
          replace I2 := Lib.hid I2
          clear d1 d2
          go_wp2_with fail
          refine (I1.out _).mono ?_
          rintro e w1 ⟨rfl, hg1⟩
          have hB1 := hB.trans hg1
          go_wp2_with fail
          refine (I2.out _).mono ?_
          rintro e w2 ⟨rfl, hg2⟩
          have hB2 := hB1.trans hg2
          go_wp2_with fail
          go_ret
          rw [hv.out]
          exact ⟨by simp, hB2⟩
        | true =>
          rw [d2] at I2
          replace I2 := Lib.hid I2
          cases d3 : (x != 0) with
          | false =>
            have hs := Lib.hid (hS.out (nodeB_ok d1 d2 (.inl d3)))
            clear d1 d2
            go_wp2_with fail
            refine (I1.out _).mono ?_
            rintro e w1 ⟨rfl, hg1⟩
            have hB1 := hB.trans hg1
            go_wp2_with fail
            refine (I2.out _).mono ?_
            rintro e w2 ⟨rfl, hg2⟩
            have hB2 := hB1.trans hg2
            go_wp2_with fail
            go_roundw
            case rel => exact ⟨j + 1, by omega, by go_num, hB2, hs⟩
            case measure => simp [intOf]; omega
          | true =>
            cases d4 : (y != 0) with
            | true =>
              have hv := Lib.hid (hA.out (nodeB_bad3 d3 d4))
              clear d1 d2
              go_wp2_with fail
              refine (I1.out _).mono ?_
              rintro e w1 ⟨rfl, hg1⟩
              have hB1 := hB.trans hg1
              go_wp2_with fail
              refine (I2.out _).mono ?_
              rintro e w2 ⟨rfl, hg2⟩
              have hB2 := hB1.trans hg2
              go_wp2_with fail
              go_ret
              rw [hv.out]
              exact ⟨by simp, hB2⟩
            | false =>
              have hs := Lib.hid (hS.out (nodeB_ok d1 d2 (.inr d4)))
              clear d1 d2
              go_wp2_with fail
              refine (I1.out _).mono ?_
              rintro e w1 ⟨rfl, hg1⟩
              have hB1 := hB.trans hg1
              go_wp2_with fail
              refine (I2.out _).mono ?_
              rintro e w2 ⟨rfl, hg2⟩
              have hB2 := hB1.trans hg2
              go_wp2_with fail
              go_roundw
              case rel => exact ⟨j + 1, by omega, by go_num, hB2, hs⟩
              case measure => simp [intOf]; omega
    · obtain rfl : j = n := by omega
      have hv := Lib.hid (HZ.out HJ.out)
      by_cases hz : 0 < j
      · have hz1 : decide (1 ≤ j) = true := by simp; omega
        go_wp2_with fail
        refine (HP.out _ hB).mono ?_
        rintro e w1 ⟨rfl, hg1⟩
        go_wp2_with fail
        go_ret
        rw [hv.out]
        exact ⟨by rw [hz1]; simp, hB.trans hg1⟩
      · have hz1 : decide (1 ≤ j) = false := by simp; omega
        go_wp2_with fail
        go_ret
        rw [hv.out, hz1]
        exact ⟨by simp, hB⟩

theorem l02Is_c (v : Value) (xs : List Nd) (w : World) (h : Nodes w v xs) (hn : xs.length ≤ 1099511627776) :
    Calls Try.prog 17 #[v] w fun e w' => e = .returned (.bool (fmB xs)) ∧ Grew w w' := by
  have HT := fun W (hW : Grew w W) => l02Tree_c v xs W (h.grew hW) hn
  obtain ⟨A, c, rfl⟩ := nodes_slice h
  clear h
  unfold fmB
  generalize pend xs 0 = p at *
  generalize anyP noNode xs = q at *
  generalize hL : xs.length = n at *
  clear hL
  by_cases h2 : n ≤ 40
  · rw [show decide (1 ≤ n ∧ n ≤ 40) = decide (1 ≤ n) from by simp [h2]]
    generalize (decide (1 ≤ n) && !q && (p == (n : Int))) = r at *
    replace HT := Lib.hid HT
    go_enter Try.func17, Try.ntmps17
    go_wp2_with fail
    refine (HT.out _ (Grew.refl _)).mono ?_
    rintro e w1 ⟨rfl, hg1⟩
    go_wp2_with fail
    go_ret
    exact ⟨rfl, hg1⟩
  · rw [show decide (1 ≤ n ∧ n ≤ 40) = false from by simp [h2], Bool.false_and, Bool.false_and]
    replace HT := Lib.hid HT
    go_enter Try.func17, Try.ntmps17
    go_wp2_with fail
    go_ret
    exact ⟨rfl, Grew.refl _⟩
end Go.Proofs.Ythdffenpgkbjkaa

/- A list of good nodes that a scan reads whole is the list of a formula's tree. No program is in sight. -/
namespace Go.Proofs.Ythdffenpgkbjkaa
open Go.RowKit
open Fm (Nd Tree)

theorem nodeB_cases {x : Nd} (h : nodeB x.1 x.2 = true) : (∃ v : Fin 6, x = (0, (v.val : Int))) ∨ x = (1, 0) ∨ x = (2, 0) ∨ x = (3, 0) ∨ x = (4, 0) ∨ x = (5, 0) ∨ x = (6, 0) := by
  obtain ⟨a, b⟩ := x
  unfold nodeB at h
  simp only at h
  split at h
  · rename_i h0
    have ha : a = 0 := by simpa using h0
    have hb := of_decide_eq_true h
    left
    refine ⟨⟨b.toNat, by omega⟩, ?_⟩
    rw [ha]
    congr 1
    simp; omega
  · simp only [Bool.and_eq_true, decide_eq_true_eq, beq_iff_eq] at h
    obtain ⟨⟨h1, h2⟩, rfl⟩ := h
    right
    obtain rfl | rfl | rfl | rfl | rfl | rfl : a = 1 ∨ a = 2 ∨ a = 3 ∨ a = 4 ∨ a = 5 ∨ a = 6 := by omega
    all_goals simp

theorem fm_trees : ∀ (xs : List Nd) (o n : Nat), Fm.scan xs o = some n → (∀ x ∈ xs, nodeB x.1 x.2 = true) → ∃ (ts : List Tree) (rest : List Nd), ts.length = o ∧ xs = ts.flatMap Fm.enc ++ rest ∧ n = (ts.flatMap Fm.enc).length := by
  intro xs
  induction xs with
  | nil =>
    intro o n h _
    cases o with
    | zero => simp [Fm.scan_zero] at h; exact ⟨[], [], rfl, rfl, by simp [h]⟩
    | succ o => simp [Fm.scan_nil] at h
  | cons x xs ih =>
    intro o n h hp
    cases o with
    | zero => simp [Fm.scan_zero] at h; exact ⟨[], x :: xs, rfl, by simp, by simp [h]⟩
    | succ o =>
      rw [Fm.scan_cons] at h
      cases hs : Fm.scan xs (o + Fm.arity x.1) with
      | none => rw [hs] at h; simp at h
      | some m =>
        rw [hs] at h
        simp only [Option.map_some, Option.some.injEq] at h
        obtain ⟨ts, rest, h1, h2, h3⟩ := ih _ _ hs (fun y hy => hp y (by simp [hy]))
        have two : ∀ (f : Tree → Tree → Tree), (∀ a b, Fm.enc (f a b) = x :: (Fm.enc a ++ Fm.enc b)) → Fm.arity x.1 = 2 → ∃ (ts : List Tree) (rest : List Nd), ts.length = o + 1 ∧ x :: xs = ts.flatMap Fm.enc ++ rest ∧ n = (ts.flatMap Fm.enc).length := by
          intro f hf ha
          rw [ha] at h1
          match ts, h1, h2, h3 with
          | a :: b :: ts, h1, h2, h3 =>
            refine ⟨f a b :: ts, rest, by simp at h1; simp [h1], by simp [hf, h2], ?_⟩
            rw [← h, h3]
            simp only [List.flatMap_cons, hf, List.length_append, List.length_cons]
            omega
          | [_], h1, _, _ => simp at h1
        have one : ∀ (f : Tree → Tree), (∀ a, Fm.enc (f a) = x :: Fm.enc a) → Fm.arity x.1 = 1 → ∃ (ts : List Tree) (rest : List Nd), ts.length = o + 1 ∧ x :: xs = ts.flatMap Fm.enc ++ rest ∧ n = (ts.flatMap Fm.enc).length := by
          intro f hf ha
          rw [ha] at h1
          match ts, h1, h2, h3 with
          | a :: ts, h1, h2, h3 =>
            refine ⟨f a :: ts, rest, by simp at h1; simp [h1], by simp [hf, h2], ?_⟩
            rw [← h, h3]
            simp only [List.flatMap_cons, hf, List.length_append, List.length_cons]
            omega
        have zero : ∀ (f : Tree), Fm.enc f = [x] → Fm.arity x.1 = 0 → ∃ (ts : List Tree) (rest : List Nd), ts.length = o + 1 ∧ x :: xs = ts.flatMap Fm.enc ++ rest ∧ n = (ts.flatMap Fm.enc).length := by
          intro f hf ha
          rw [ha] at h1
          refine ⟨f :: ts, rest, by simp [h1], by simp [hf, h2], ?_⟩
          rw [← h, h3]
          simp only [List.flatMap_cons, hf, List.length_append, List.length_cons, List.length_nil]
          omega
        rcases nodeB_cases (hp x (by simp)) with ⟨v, rfl⟩ | rfl | rfl | rfl | rfl | rfl | rfl
        · exact zero (.var v) rfl rfl
        · exact zero .fls rfl rfl
        · exact two .and (fun _ _ => rfl) rfl
        · exact two .or (fun _ _ => rfl) rfl
        · exact two .imp (fun _ _ => rfl) rfl
        · exact one .box (fun _ => rfl) rfl
        · exact one .dia (fun _ => rfl) rfl

/-- A list that is a formula's is the list of a tree. -/
theorem fmB_tree {xs : List Nd} (h : fmB xs = true) : ∃ t, xs = Fm.enc t ∧ xs.length ≤ 40 := by
  unfold fmB at h
  simp only [Bool.and_eq_true, decide_eq_true_eq, Bool.not_eq_true', beq_iff_eq] at h
  obtain ⟨⟨⟨h1, h2⟩, h3⟩, h4⟩ := h
  have hall : ∀ x ∈ xs, nodeB x.1 x.2 = true := by
    intro x hx
    obtain ⟨i, hi, rfl⟩ := List.getElem_of_mem hx
    cases hb : nodeB (xs[i]).1 (xs[i]).2 with
    | true => rfl
    | false =>
      rw [kd_lt hi] at hb
      have := anyP_at (p := noNode) hi (by rw [noNode, hb]; rfl)
      rw [this] at h3
      cases h3
  have hs : Fm.scan xs 1 = some xs.length := by
    unfold pend at h4
    rw [List.drop_zero] at h4
    cases hz : Fm.scan xs 1 with
    | none => rw [hz] at h4; simp only [pval] at h4; omega
    | some n => rw [hz] at h4; simp only [pval] at h4; congr 1; omega
  obtain ⟨ts, rest, e1, e2, e3⟩ := fm_trees xs 1 _ hs hall
  match ts, e1 with
  | [t], _ =>
    refine ⟨t, ?_, h2⟩
    have hl := congrArg List.length e2
    rw [List.length_append] at hl
    have : rest = [] := List.eq_nil_of_length_eq_zero (by omega)
    rw [this] at e2
    simpa using e2
end Go.Proofs.Ythdffenpgkbjkaa

/- Two lists of nodes that agree as far as k. -/
namespace Go.Proofs.Ythdffenpgkbjkaa
open Go.RowKit
open Fm (Nd)

/-- Two lists that agree as far as k. -/
def Agree (xs ys : List Nd) (k : Nat) : Prop := ∀ i, i < k → kd xs i = kd ys i ∧ sy xs i = sy ys i
theorem Agree.zero (xs ys : List Nd) : Agree xs ys 0 := fun i hi => absurd hi (by omega)
theorem Agree.succ {xs ys : List Nd} {k : Nat} (h : Agree xs ys k) (h1 : kd xs k = kd ys k) (h2 : sy xs k = sy ys k) : Agree xs ys (k + 1) := by
  intro i hi
  rcases Nat.lt_or_ge i k with hk | hk
  · exact h i hk
  · obtain rfl : i = k := by omega
    exact ⟨h1, h2⟩
end Go.Proofs.Ythdffenpgkbjkaa

/- The reference's l02Equal on lists of nodes. -/
namespace Go.Proofs.Ythdffenpgkbjkaa
open Go.RowKit
open Fm (Nd)

theorem agree_all {xs ys : List Nd} (hl : xs.length = ys.length) (h : Agree xs ys xs.length) : xs = ys := nd_ext hl h

theorem l02Equal_c (v1 v2 : Value) (xs ys : List Nd) (w : World) (h1 : Nodes w v1 xs) (h2 : Nodes w v2 ys) (hn : xs.length ≤ 1099511627776) :
    Calls Try.prog 62 #[v1, v2] w fun e w' => e = .returned (.bool (decide (xs = ys))) ∧ Grew w w' := by
  by_cases hl : xs.length = ys.length
  · rcases h1.open_ with ⟨rfl, rfl⟩ | ⟨b1, o1, c1, rfl, hc1, hm1, hb1, hf⟩
    · obtain rfl : ys = [] := List.eq_nil_of_length_eq_zero (by simpa using hl.symm)
      obtain ⟨A, c, rfl⟩ := nodes_slice h2
      simp only [List.length_nil]
      clear hl
      go_enter Try.func62, Try.ntmps62
      go_wp2_with fail
      refine wp_loop_rounds 1 ?_; rw [rounds_succ]
      go_wp2_with fail
      go_ret
      exact ⟨by simp, Grew.refl _⟩
    · rcases h2.open_ with ⟨rfl, rfl⟩ | ⟨b2, o2, c2, rfl, hc2, hm2, hb2, hh⟩
      · obtain rfl : xs = [] := List.eq_nil_of_length_eq_zero (by simpa using hl)
        simp only [List.length_nil]
        clear hl
        go_enter Try.func62, Try.ntmps62
        go_wp2_with fail
        refine wp_loop_rounds 1 ?_; rw [rounds_succ]
        go_wp2_with fail
        go_ret
        exact ⟨by simp, Grew.refl _⟩
      · clear h1 h2
        have HE := Lib.hid (fun h => agree_all hl h)
        rw [← hl] at hc2 hh ⊢
        have HF := Lib.hid hf
        have HH := Lib.hid hh
        have HX := Lib.hid (fun (h : xs = ys) (i : Nat) => (⟨by rw [h], by rw [h]⟩ : kd xs i = kd ys i ∧ sy xs i = sy ys i))
        obtain ⟨D, hD⟩ : ∃ D, D = decide (xs = ys) := ⟨_, rfl⟩
        rw [← hD]
        have HD := Lib.hid hD
        clear hl hf hh hD
        generalize hN : xs.length = n at *
        clear hN
        go_enter Try.func62, Try.ntmps62
        go_wp2_with fail
        go_loopg [5] n (fun k i wr => ∃ j : Nat, j ≤ n ∧ k = n - j ∧ i = .int .i64 j ∧ Grew w wr ∧ Hid (Agree xs ys j))
        case atStart => exact ⟨0, Nat.zero_le _, by omega, rfl, Grew.refl _, Agree.zero _ _⟩
        case round =>
          obtain ⟨j, hj, rfl, rfl, hB, HA⟩ := hrel
          by_cases hlt : j < n
          · have k1 : ∀ W, Grew w W → W.cell? ⟨b1, o1 + j * 2, none⟩ = some (.int .i64 (kd xs j)) := fun W hW => (HF.out j hlt W hW).1
            have k2 : ∀ W, Grew w W → W.cell? ⟨b1, o1 + j * 2 + 1, none⟩ = some (.int .i64 (sy xs j)) := fun W hW => (HF.out j hlt W hW).2
            have k3 : ∀ W, Grew w W → W.cell? ⟨b2, o2 + j * 2, none⟩ = some (.int .i64 (kd ys j)) := fun W hW => (HH.out j hlt W hW).1
            have k4 : ∀ W, Grew w W → W.cell? ⟨b2, o2 + j * 2 + 1, none⟩ = some (.int .i64 (sy ys j)) := fun W hW => (HH.out j hlt W hW).2
            have hgd := Try.ndGuard
            by_cases he : kd xs j = kd ys j ∧ sy xs j = sy ys j
            · have hq : ∀ W, (binOp .neq 46 (.agg #[.int .i64 (kd xs j), .int .i64 (sy xs j)]) (.agg #[.int .i64 (kd ys j), .int .i64 (sy ys j)])).run Try.prog W = .ok (.bool false) W := fun W => by
                rw [Try.ndNeq, he.1, he.2]; simp
              have HB := Lib.hid (HA.out.succ he.1 he.2)
              clear he HA
              go_wp2_with fail
              go_quiet (fail)
              go_wp2_with fail
              go_roundg (n - (j + 1))
              case measure => omega
              case rel => exact ⟨j + 1, by omega, rfl, by go_num, hB.drewN _, HB⟩
            · have hq : ∀ W, (binOp .neq 46 (.agg #[.int .i64 (kd xs j), .int .i64 (sy xs j)]) (.agg #[.int .i64 (kd ys j), .int .i64 (sy ys j)])).run Try.prog W = .ok (.bool true) W := fun W => by
                have hz : (kd xs j == kd ys j && sy xs j == sy ys j) = false := by
                  cases hz : (kd xs j == kd ys j && sy xs j == sy ys j) with
                  | false => rfl
                  | true => simp at hz; exact absurd hz he
                rw [Try.ndNeq, hz]
                simp
              have hv : Hid (D = false) := Lib.hid (by rw [HD.out]; exact decide_eq_false fun h => he (HX.out h j))
              clear he HA
              go_wp2_with fail
              go_quiet (fail)
              go_wp2_with fail
              go_ret
              rw [hv.out]
              exact ⟨rfl, hB.drewN _⟩
          · have hjn : j = n := by omega
            subst hjn
            have hv : Hid (D = true) := Lib.hid (by rw [HD.out]; exact decide_eq_true (HE.out HA.out))
            go_wp2_with fail
            go_ret
            rw [hv.out]
            exact ⟨rfl, hB⟩
  · have hne : xs ≠ ys := fun h => hl (by rw [h])
    rw [decide_eq_false hne]
    obtain ⟨A, c, rfl⟩ := nodes_slice h1
    obtain ⟨B, d, rfl⟩ := nodes_slice h2
    have hl' : (((xs.length : Nat) : Int) != ((ys.length : Nat) : Int)) = true := by simp; omega
    clear hl h1 h2 hne
    go_enter Try.func62, Try.ntmps62
    go_wp2_with fail
    go_ret
    exact ⟨rfl, Grew.refl _⟩
end Go.Proofs.Ythdffenpgkbjkaa

/- The laws' sameNodes9 on lists of nodes (as l02Equal). -/
namespace Go.Proofs.Ythdffenpgkbjkaa
open Go.RowKit
open Fm (Nd)

theorem sameNodes9_c (v1 v2 : Value) (xs ys : List Nd) (w : World) (h1 : Nodes w v1 xs) (h2 : Nodes w v2 ys) (hn : xs.length ≤ 1099511627776) :
    Calls Try.prog 10 #[v1, v2] w fun e w' => e = .returned (.bool (decide (xs = ys))) ∧ Grew w w' := by
  by_cases hl : xs.length = ys.length
  · rcases h1.open_ with ⟨rfl, rfl⟩ | ⟨b1, o1, c1, rfl, hc1, hm1, hb1, hf⟩
    · obtain rfl : ys = [] := List.eq_nil_of_length_eq_zero (by simpa using hl.symm)
      obtain ⟨A, c, rfl⟩ := nodes_slice h2
      simp only [List.length_nil]
      clear hl
      go_enter Try.func10, Try.ntmps10
      go_wp2_with fail
      refine wp_loop_rounds 1 ?_; rw [rounds_succ]
      go_wp2_with fail
      go_ret
      exact ⟨by simp, Grew.refl _⟩
    · rcases h2.open_ with ⟨rfl, rfl⟩ | ⟨b2, o2, c2, rfl, hc2, hm2, hb2, hh⟩
      · obtain rfl : xs = [] := List.eq_nil_of_length_eq_zero (by simpa using hl)
        simp only [List.length_nil]
        clear hl
        go_enter Try.func10, Try.ntmps10
        go_wp2_with fail
        refine wp_loop_rounds 1 ?_; rw [rounds_succ]
        go_wp2_with fail
        go_ret
        exact ⟨by simp, Grew.refl _⟩
      · clear h1 h2
        have HE := Lib.hid (fun h => agree_all hl h)
        rw [← hl] at hc2 hh ⊢
        have HF := Lib.hid hf
        have HH := Lib.hid hh
        have HX := Lib.hid (fun (h : xs = ys) (i : Nat) => (⟨by rw [h], by rw [h]⟩ : kd xs i = kd ys i ∧ sy xs i = sy ys i))
        obtain ⟨D, hD⟩ : ∃ D, D = decide (xs = ys) := ⟨_, rfl⟩
        rw [← hD]
        have HD := Lib.hid hD
        clear hl hf hh hD
        generalize hN : xs.length = n at *
        clear hN
        go_enter Try.func10, Try.ntmps10
        go_wp2_with fail
        go_loopg [5] n (fun k i wr => ∃ j : Nat, j ≤ n ∧ k = n - j ∧ i = .int .i64 j ∧ Grew w wr ∧ Hid (Agree xs ys j))
        case atStart => exact ⟨0, Nat.zero_le _, by omega, rfl, Grew.refl _, Agree.zero _ _⟩
        case round =>
          obtain ⟨j, hj, rfl, rfl, hB, HA⟩ := hrel
          by_cases hlt : j < n
          · have k1 : ∀ W, Grew w W → W.cell? ⟨b1, o1 + j * 2, none⟩ = some (.int .i64 (kd xs j)) := fun W hW => (HF.out j hlt W hW).1
            have k2 : ∀ W, Grew w W → W.cell? ⟨b1, o1 + j * 2 + 1, none⟩ = some (.int .i64 (sy xs j)) := fun W hW => (HF.out j hlt W hW).2
            have k3 : ∀ W, Grew w W → W.cell? ⟨b2, o2 + j * 2, none⟩ = some (.int .i64 (kd ys j)) := fun W hW => (HH.out j hlt W hW).1
            have k4 : ∀ W, Grew w W → W.cell? ⟨b2, o2 + j * 2 + 1, none⟩ = some (.int .i64 (sy ys j)) := fun W hW => (HH.out j hlt W hW).2
            have hgd := Try.ndGuard
            by_cases he : kd xs j = kd ys j ∧ sy xs j = sy ys j
            · have hq : ∀ W, (binOp .neq 46 (.agg #[.int .i64 (kd xs j), .int .i64 (sy xs j)]) (.agg #[.int .i64 (kd ys j), .int .i64 (sy ys j)])).run Try.prog W = .ok (.bool false) W := fun W => by
                rw [Try.ndNeq, he.1, he.2]; simp
              have HB := Lib.hid (HA.out.succ he.1 he.2)
              clear he HA
              go_wp2_with fail
              go_quiet (fail)
              go_wp2_with fail
              go_roundg (n - (j + 1))
              case measure => omega
              case rel => exact ⟨j + 1, by omega, rfl, by go_num, hB.drewN _, HB⟩
            · have hq : ∀ W, (binOp .neq 46 (.agg #[.int .i64 (kd xs j), .int .i64 (sy xs j)]) (.agg #[.int .i64 (kd ys j), .int .i64 (sy ys j)])).run Try.prog W = .ok (.bool true) W := fun W => by
                have hz : (kd xs j == kd ys j && sy xs j == sy ys j) = false := by
                  cases hz : (kd xs j == kd ys j && sy xs j == sy ys j) with
                  | false => rfl
                  | true => simp at hz; exact absurd hz he
                rw [Try.ndNeq, hz]
                simp
              have hv : Hid (D = false) := Lib.hid (by rw [HD.out]; exact decide_eq_false fun h => he (HX.out h j))
              clear he HA
              go_wp2_with fail
              go_quiet (fail)
              go_wp2_with fail
              go_ret
              rw [hv.out]
              exact ⟨rfl, hB.drewN _⟩
          · have hjn : j = n := by omega
            subst hjn
            have hv : Hid (D = true) := Lib.hid (by rw [HD.out]; exact decide_eq_true (HE.out HA.out))
            go_wp2_with fail
            go_ret
            rw [hv.out]
            exact ⟨rfl, hB⟩
  · have hne : xs ≠ ys := fun h => hl (by rw [h])
    rw [decide_eq_false hne]
    obtain ⟨A, c, rfl⟩ := nodes_slice h1
    obtain ⟨B, d, rfl⟩ := nodes_slice h2
    have hl' : (((xs.length : Nat) : Int) != ((ys.length : Nat) : Int)) = true := by simp; omega
    clear hl h1 h2 hne
    go_enter Try.func10, Try.ntmps10
    go_wp2_with fail
    go_ret
    exact ⟨rfl, Grew.refl _⟩
end Go.Proofs.Ythdffenpgkbjkaa

/- The text of a formula: the reference's l02Write. -/
namespace Go.Proofs.Ythdffenpgkbjkaa
open Go.RowKit
open Fm (Nd Tree)

theorem l02Left_c (v : Value) (xs : List Nd) (a : Tree) (w : World) (h : Nodes w v xs) (hn : xs.length ≤ 1099511627776) (ha : At xs 1 a) :
    Calls Try.prog 60 #[v] w (Cuts w (Fm.enc a)) := by
  have hle := ha.le
  have hpos := Fm.enc_pos a
  rcases h.open_ with ⟨rfl, rfl⟩ | ⟨b, o, c, rfl, hc, hm, hb, hf⟩
  · simp only [List.length_nil] at hle; omega
  · have hsub := h.sub 1 (Fm.enc a).length (c - 1) hle (by omega) (by omega)
    rw [ha.take] at hsub
    have HH := Lib.hid h
    have HS := Lib.hid hsub
    have HT := Lib.hid ha
    clear h hf hsub ha
    go_enter Try.func60, Try.ntmps60
    go_wp2_with fail
    refine (l02Part_at _ xs 1 a _ HH.out hn HT.out).mono ?_
    rintro e w1 ⟨rfl, hg1⟩
    go_wp2_with fail
    go_ret
    refine ⟨_, rfl, ?_, hg1⟩
    rw [Nat.add_sub_cancel_left]
    exact HS.out.grew hg1

theorem l02Right_c (v : Value) (xs : List Nd) (a t : Tree) (w : World) (h : Nodes w v xs) (hn : xs.length ≤ 1099511627776) (ha : At xs 1 a) (ht : At xs (1 + (Fm.enc a).length) t) (hl : xs.length = 1 + (Fm.enc a).length + (Fm.enc t).length) :
    Calls Try.prog 61 #[v] w (Cuts w (Fm.enc t)) := by
  have hle := ha.le
  have hpos := Fm.enc_pos t
  rcases h.open_ with ⟨rfl, rfl⟩ | ⟨b, o, c, rfl, hc, hm, hb, hf⟩
  · simp only [List.length_nil] at hle; omega
  · have hsub := h.sub (1 + (Fm.enc a).length) (Fm.enc t).length (c - (1 + (Fm.enc a).length)) (by omega) (by omega) (by omega)
    rw [ht.take] at hsub
    have HH := Lib.hid h
    have HS := Lib.hid hsub
    have HA := Lib.hid ha
    have hk : (Fm.enc t).length = xs.length - (1 + (Fm.enc a).length) := by omega
    rw [hk] at HS
    have hlt : 1 + (Fm.enc a).length < xs.length := by omega
    clear h hf hsub ha ht hl hk hpos
    go_enter Try.func61, Try.ntmps61
    go_wp2_with fail
    refine (l02Part_at _ xs 1 a _ HH.out hn HA.out).mono ?_
    rintro e w1 ⟨rfl, hg1⟩
    go_wp2_with fail
    go_ret
    exact ⟨_, rfl, HS.out.grew hg1, hg1⟩

def WriteOk (t : Tree) : Prop := ∀ (l : Nat) (v : Value) (w : World), l ≤ 3 → Nodes w v (Fm.enc t) → (Fm.enc t).length ≤ 1048576 →
  Calls Try.prog 33 #[v, .int .i64 l] w (Says w (Fm.txt t l))

theorem enc_fls {t : Tree} (h : Fm.enc t = [(1, 0)]) : t = .fls := by
  cases t <;> simp_all [Fm.enc]
theorem enc_truth {x y : Tree} (h : Fm.enc (.imp x y) = Fm.truth) : x = .fls ∧ y = .fls := by
  have hx := Fm.enc_pos x
  have hy := Fm.enc_pos y
  have h1 : Fm.enc x ++ Fm.enc y = [(1, 0), (1, 0)] := by
    have : (4, 0) :: (Fm.enc x ++ Fm.enc y) = ((4, 0) : Nd) :: [(1, 0), (1, 0)] := h
    injection this
  have hl := congrArg List.length h1
  simp only [List.length_append, List.length_cons, List.length_nil] at hl
  have h2 : Fm.enc x = [(1, 0)] := by
    have := congrArg (List.take 1) h1
    rw [List.take_append_of_le_length hx, List.take_of_length_le (by omega)] at this
    exact this
  have h3 : Fm.enc y = [(1, 0)] := by
    rw [h2] at h1
    simpa using h1
  exact ⟨enc_fls h2, enc_fls h3⟩

theorem write_and_n (x y : Tree) (hx : WriteOk x) (hy : WriteOk y) (l : Nat) (v : Value) (w : World) (hl : l ≤ 2) (h : Nodes w v (Fm.enc (.and x y))) (hn : (Fm.enc (.and x y)).length ≤ 1048576) :
    Calls Try.prog 33 #[v, .int .i64 l] w (Says w (Fm.txt (.and x y) l)) := by
  have hE : Fm.txt (.and x y) l = Fm.txt x 2 ++ [38] ++ Fm.txt y 3 := by
    rw [Fm.txt, Fm.wrap, if_neg (by omega)]
  rw [hE]
  obtain ⟨b, o, c, rfl, hc, hm, k1⟩ := nodes_head h
  have hpos := Fm.enc_pos (.and x y)
  have HH := Lib.hid h
  have hg0 := Grew.refl w
  rw [show kindOf (.and x y) = 2 from rfl] at k1
  have HA := Lib.hid (at_first (xs := Fm.enc (.and x y)) (k := (2, 0)) (a := x) (rest := Fm.enc y) rfl)
  have HB := Lib.hid (at_second (xs := Fm.enc (.and x y)) (k := (2, 0)) (a := x) (b := y) rfl)
  have hlen : (Fm.enc (.and x y)).length = 1 + (Fm.enc x).length + (Fm.enc y).length := by simp [Fm.enc]; omega
  have HN := Lib.hid hlen
  have h1 := Fm.txt_len x 2
  have h2 := Fm.txt_len y 3
  have HX := Lib.hid hx
  have HY := Lib.hid hy
  have hn1 : (Fm.enc x).length ≤ 1048576 := by omega
  have hn2 : (Fm.enc y).length ≤ 1048576 := by omega
  have hpy := Fm.enc_pos y
  clear hE h hx hy hlen
  generalize Fm.enc (.and x y) = T at *
  have s1 := bs_size (Fm.txt x 2)
  have s2 := bs_size (Fm.txt y 3)
  have z1 : (bs (Fm.txt x 2)).size ≤ 4194304 := by omega
  have z2 : (bs (Fm.txt y 3)).size ≤ 4194304 := by omega
  have HE : Hid (bs (Fm.txt x 2) ++ bs [38] ++ bs (Fm.txt y 3) = bs (Fm.txt x 2 ++ [38] ++ Fm.txt y 3)) := by unfold Hid; simp only [bs_append]
  clear s1 s2 h1 h2
  generalize Fm.txt x 2 ++ [38] ++ Fm.txt y 3 = Z at *
  go_enter Try.func33, Try.ntmps33
  go_wp2_with fail
  refine (l02Left_c _ T x _ (HH.out.grew (Grew.refl w)) (by omega) HA.out).mono ?_
  rintro e w2 ⟨v2, rfl, hN2, hg2⟩
  go_wp2_with fail
  refine (HX.out 2 _ _ (by omega) hN2 hn1).mono ?_
  rintro e w3 ⟨rfl, hg3⟩
  go_wp2_with fail
  refine (l02Right_c _ T x y _ (HH.out.grew (((Grew.refl w).trans hg2).trans hg3)) (by omega) HA.out HB.out HN.out).mono ?_
  rintro e w4 ⟨v4, rfl, hN4, hg4⟩
  go_wp2_with fail
  refine (HY.out 3 _ _ (by omega) hN4 hn2).mono ?_
  rintro e w5 ⟨rfl, hg5⟩
  go_wp2_with fail
  go_ret
  exact ⟨congrArg (fun z => Ending.returned (.string z)) HE.out, ((((Grew.refl w).trans hg2).trans hg3).trans hg4).trans hg5⟩

theorem write_or_n (x y : Tree) (hx : WriteOk x) (hy : WriteOk y) (l : Nat) (v : Value) (w : World) (hl : l ≤ 1) (h : Nodes w v (Fm.enc (.or x y))) (hn : (Fm.enc (.or x y)).length ≤ 1048576) :
    Calls Try.prog 33 #[v, .int .i64 l] w (Says w (Fm.txt (.or x y) l)) := by
  have hE : Fm.txt (.or x y) l = Fm.txt x 1 ++ [124] ++ Fm.txt y 2 := by
    rw [Fm.txt, Fm.wrap, if_neg (by omega)]
  rw [hE]
  obtain ⟨b, o, c, rfl, hc, hm, k1⟩ := nodes_head h
  have hpos := Fm.enc_pos (.or x y)
  have HH := Lib.hid h
  have hg0 := Grew.refl w
  rw [show kindOf (.or x y) = 3 from rfl] at k1
  have HA := Lib.hid (at_first (xs := Fm.enc (.or x y)) (k := (3, 0)) (a := x) (rest := Fm.enc y) rfl)
  have HB := Lib.hid (at_second (xs := Fm.enc (.or x y)) (k := (3, 0)) (a := x) (b := y) rfl)
  have hlen : (Fm.enc (.or x y)).length = 1 + (Fm.enc x).length + (Fm.enc y).length := by simp [Fm.enc]; omega
  have HN := Lib.hid hlen
  have h1 := Fm.txt_len x 1
  have h2 := Fm.txt_len y 2
  have HX := Lib.hid hx
  have HY := Lib.hid hy
  have hn1 : (Fm.enc x).length ≤ 1048576 := by omega
  have hn2 : (Fm.enc y).length ≤ 1048576 := by omega
  have hpy := Fm.enc_pos y
  clear hE h hx hy hlen
  generalize Fm.enc (.or x y) = T at *
  have s1 := bs_size (Fm.txt x 1)
  have s2 := bs_size (Fm.txt y 2)
  have z1 : (bs (Fm.txt x 1)).size ≤ 4194304 := by omega
  have z2 : (bs (Fm.txt y 2)).size ≤ 4194304 := by omega
  have HE : Hid (bs (Fm.txt x 1) ++ bs [124] ++ bs (Fm.txt y 2) = bs (Fm.txt x 1 ++ [124] ++ Fm.txt y 2)) := by unfold Hid; simp only [bs_append]
  clear s1 s2 h1 h2
  generalize Fm.txt x 1 ++ [124] ++ Fm.txt y 2 = Z at *
  go_enter Try.func33, Try.ntmps33
  go_wp2_with fail
  refine (l02Left_c _ T x _ (HH.out.grew (Grew.refl w)) (by omega) HA.out).mono ?_
  rintro e w2 ⟨v2, rfl, hN2, hg2⟩
  go_wp2_with fail
  refine (HX.out 1 _ _ (by omega) hN2 hn1).mono ?_
  rintro e w3 ⟨rfl, hg3⟩
  go_wp2_with fail
  refine (l02Right_c _ T x y _ (HH.out.grew (((Grew.refl w).trans hg2).trans hg3)) (by omega) HA.out HB.out HN.out).mono ?_
  rintro e w4 ⟨v4, rfl, hN4, hg4⟩
  go_wp2_with fail
  refine (HY.out 2 _ _ (by omega) hN4 hn2).mono ?_
  rintro e w5 ⟨rfl, hg5⟩
  go_wp2_with fail
  go_ret
  exact ⟨congrArg (fun z => Ending.returned (.string z)) HE.out, ((((Grew.refl w).trans hg2).trans hg3).trans hg4).trans hg5⟩

theorem write_imp_n (x y : Tree) (hf : Fm.isF y = false) (hx : WriteOk x) (hy : WriteOk y) (l : Nat) (v : Value) (w : World) (hl : l ≤ 0) (h : Nodes w v (Fm.enc (.imp x y))) (hn : (Fm.enc (.imp x y)).length ≤ 1048576) :
    Calls Try.prog 33 #[v, .int .i64 l] w (Says w (Fm.txt (.imp x y) l)) := by
  have hE : Fm.txt (.imp x y) l = Fm.txt x 1 ++ [62] ++ Fm.txt y 0 := by
    rw [Fm.txt, if_neg (by simp [hf]), Fm.wrap, if_neg (by omega)]
  rw [hE]
  obtain ⟨b, o, c, rfl, hc, hm, k1⟩ := nodes_head h
  have hpos := Fm.enc_pos (.imp x y)
  have HH := Lib.hid h
  have hg0 := Grew.refl w
  have HQ := Lib.hid (fun v2 w h1 h2 => l02Equal_c (.slice (some ⟨b, o, none⟩) (Fm.enc (.imp x y)).length c) v2 (Fm.enc (.imp x y)) Fm.truth w h1 h2 (by omega))
  rw [decide_eq_false (fun h => by have := (enc_truth h).2; rw [this] at hf; cases hf)] at HQ
  have hky : (kindOf y == 1) = false := by rw [← isF_kind]; exact hf
  rw [show kindOf (.imp x y) = 4 from rfl] at k1
  have HA := Lib.hid (at_first (xs := Fm.enc (.imp x y)) (k := (4, 0)) (a := x) (rest := Fm.enc y) rfl)
  have HB := Lib.hid (at_second (xs := Fm.enc (.imp x y)) (k := (4, 0)) (a := x) (b := y) rfl)
  have hlen : (Fm.enc (.imp x y)).length = 1 + (Fm.enc x).length + (Fm.enc y).length := by simp [Fm.enc]; omega
  have HN := Lib.hid hlen
  have h1 := Fm.txt_len x 1
  have h2 := Fm.txt_len y 0
  have HX := Lib.hid hx
  have HY := Lib.hid hy
  have hn1 : (Fm.enc x).length ≤ 1048576 := by omega
  have hn2 : (Fm.enc y).length ≤ 1048576 := by omega
  have hpy := Fm.enc_pos y
  clear hE h hx hy hlen hf
  generalize Fm.enc (.imp x y) = T at *
  have s1 := bs_size (Fm.txt x 1)
  have s2 := bs_size (Fm.txt y 0)
  have z1 : (bs (Fm.txt x 1)).size ≤ 4194304 := by omega
  have z2 : (bs (Fm.txt y 0)).size ≤ 4194304 := by omega
  have HE : Hid (bs (Fm.txt x 1) ++ bs [62] ++ bs (Fm.txt y 0) = bs (Fm.txt x 1 ++ [62] ++ Fm.txt y 0)) := by unfold Hid; simp only [bs_append]
  clear s1 s2 h1 h2
  generalize Fm.txt x 1 ++ [62] ++ Fm.txt y 0 = Z at *
  go_enter Try.func33, Try.ntmps33
  go_wp2_with fail
  refine (l02True_c _).mono ?_
  rintro e w01 ⟨v01, rfl, ho01, hg01⟩
  go_wp2_with fail
  refine (HQ.out _ _ (HH.out.grew hg01) ho01.nodes).mono ?_
  rintro e w02 ⟨rfl, hg02⟩
  have hg2x := hg01.trans hg02
  go_wp2_with fail
  refine (l02Right_c _ T x y _ (HH.out.grew hg2x) (by omega) HA.out HB.out HN.out).mono ?_
  rintro e w03 ⟨v03, rfl, hN03, hg03⟩
  obtain ⟨b3, o3, c3, rfl, hc3, hm3, k3⟩ := nodes_head hN03
  have hg3x := hg2x.trans hg03
  have hgr3 := Grew.refl w03
  go_wp2_with fail
  clear k3
  refine (l02Left_c _ T x _ (HH.out.grew hg3x) (by omega) HA.out).mono ?_
  rintro e w2 ⟨v2, rfl, hN2, hg2⟩
  go_wp2_with fail
  refine (HX.out 1 _ _ (by omega) hN2 hn1).mono ?_
  rintro e w3 ⟨rfl, hg3⟩
  go_wp2_with fail
  refine (l02Right_c _ T x y _ (HH.out.grew ((hg3x.trans hg2).trans hg3)) (by omega) HA.out HB.out HN.out).mono ?_
  rintro e w4 ⟨v4, rfl, hN4, hg4⟩
  go_wp2_with fail
  refine (HY.out 0 _ _ (by omega) hN4 hn2).mono ?_
  rintro e w5 ⟨rfl, hg5⟩
  go_wp2_with fail
  go_ret
  exact ⟨congrArg (fun z => Ending.returned (.string z)) HE.out, (((hg3x.trans hg2).trans hg3).trans hg4).trans hg5⟩

theorem write_and_w (x y : Tree) (hx : WriteOk x) (hy : WriteOk y) (l : Nat) (v : Value) (w : World) (hl : 2 < l) (h : Nodes w v (Fm.enc (.and x y))) (hn : (Fm.enc (.and x y)).length ≤ 1048576) :
    Calls Try.prog 33 #[v, .int .i64 l] w (Says w (Fm.txt (.and x y) l)) := by
  have hE : Fm.txt (.and x y) l = [40] ++ (Fm.txt x 2 ++ [38] ++ Fm.txt y 3) ++ [41] := by
    rw [Fm.txt, Fm.wrap, if_pos (by omega)]
  rw [hE]
  obtain ⟨b, o, c, rfl, hc, hm, k1⟩ := nodes_head h
  have hpos := Fm.enc_pos (.and x y)
  have HH := Lib.hid h
  have hg0 := Grew.refl w
  rw [show kindOf (.and x y) = 2 from rfl] at k1
  have HA := Lib.hid (at_first (xs := Fm.enc (.and x y)) (k := (2, 0)) (a := x) (rest := Fm.enc y) rfl)
  have HB := Lib.hid (at_second (xs := Fm.enc (.and x y)) (k := (2, 0)) (a := x) (b := y) rfl)
  have hlen : (Fm.enc (.and x y)).length = 1 + (Fm.enc x).length + (Fm.enc y).length := by simp [Fm.enc]; omega
  have HN := Lib.hid hlen
  have h1 := Fm.txt_len x 2
  have h2 := Fm.txt_len y 3
  have HX := Lib.hid hx
  have HY := Lib.hid hy
  have hn1 : (Fm.enc x).length ≤ 1048576 := by omega
  have hn2 : (Fm.enc y).length ≤ 1048576 := by omega
  have hpy := Fm.enc_pos y
  clear hE h hx hy hlen
  generalize Fm.enc (.and x y) = T at *
  have s1 := bs_size (Fm.txt x 2)
  have s2 := bs_size (Fm.txt y 3)
  have z1 : (bs (Fm.txt x 2)).size ≤ 4194304 := by omega
  have z2 : (bs (Fm.txt y 3)).size ≤ 4194304 := by omega
  have HE : Hid (bs [40] ++ (bs (Fm.txt x 2) ++ bs [38] ++ bs (Fm.txt y 3)) ++ bs [41] = bs ([40] ++ (Fm.txt x 2 ++ [38] ++ Fm.txt y 3) ++ [41])) := by unfold Hid; simp only [bs_append]
  clear s1 s2 h1 h2
  generalize [40] ++ (Fm.txt x 2 ++ [38] ++ Fm.txt y 3) ++ [41] = Z at *
  go_enter Try.func33, Try.ntmps33
  go_wp2_with fail
  refine (l02Left_c _ T x _ (HH.out.grew (Grew.refl w)) (by omega) HA.out).mono ?_
  rintro e w2 ⟨v2, rfl, hN2, hg2⟩
  go_wp2_with fail
  refine (HX.out 2 _ _ (by omega) hN2 hn1).mono ?_
  rintro e w3 ⟨rfl, hg3⟩
  go_wp2_with fail
  refine (l02Right_c _ T x y _ (HH.out.grew (((Grew.refl w).trans hg2).trans hg3)) (by omega) HA.out HB.out HN.out).mono ?_
  rintro e w4 ⟨v4, rfl, hN4, hg4⟩
  go_wp2_with fail
  refine (HY.out 3 _ _ (by omega) hN4 hn2).mono ?_
  rintro e w5 ⟨rfl, hg5⟩
  go_wp2_with fail
  go_ret
  exact ⟨congrArg (fun z => Ending.returned (.string z)) HE.out, ((((Grew.refl w).trans hg2).trans hg3).trans hg4).trans hg5⟩

theorem write_or_w (x y : Tree) (hx : WriteOk x) (hy : WriteOk y) (l : Nat) (v : Value) (w : World) (hl : 1 < l) (h : Nodes w v (Fm.enc (.or x y))) (hn : (Fm.enc (.or x y)).length ≤ 1048576) :
    Calls Try.prog 33 #[v, .int .i64 l] w (Says w (Fm.txt (.or x y) l)) := by
  have hE : Fm.txt (.or x y) l = [40] ++ (Fm.txt x 1 ++ [124] ++ Fm.txt y 2) ++ [41] := by
    rw [Fm.txt, Fm.wrap, if_pos (by omega)]
  rw [hE]
  obtain ⟨b, o, c, rfl, hc, hm, k1⟩ := nodes_head h
  have hpos := Fm.enc_pos (.or x y)
  have HH := Lib.hid h
  have hg0 := Grew.refl w
  rw [show kindOf (.or x y) = 3 from rfl] at k1
  have HA := Lib.hid (at_first (xs := Fm.enc (.or x y)) (k := (3, 0)) (a := x) (rest := Fm.enc y) rfl)
  have HB := Lib.hid (at_second (xs := Fm.enc (.or x y)) (k := (3, 0)) (a := x) (b := y) rfl)
  have hlen : (Fm.enc (.or x y)).length = 1 + (Fm.enc x).length + (Fm.enc y).length := by simp [Fm.enc]; omega
  have HN := Lib.hid hlen
  have h1 := Fm.txt_len x 1
  have h2 := Fm.txt_len y 2
  have HX := Lib.hid hx
  have HY := Lib.hid hy
  have hn1 : (Fm.enc x).length ≤ 1048576 := by omega
  have hn2 : (Fm.enc y).length ≤ 1048576 := by omega
  have hpy := Fm.enc_pos y
  clear hE h hx hy hlen
  generalize Fm.enc (.or x y) = T at *
  have s1 := bs_size (Fm.txt x 1)
  have s2 := bs_size (Fm.txt y 2)
  have z1 : (bs (Fm.txt x 1)).size ≤ 4194304 := by omega
  have z2 : (bs (Fm.txt y 2)).size ≤ 4194304 := by omega
  have HE : Hid (bs [40] ++ (bs (Fm.txt x 1) ++ bs [124] ++ bs (Fm.txt y 2)) ++ bs [41] = bs ([40] ++ (Fm.txt x 1 ++ [124] ++ Fm.txt y 2) ++ [41])) := by unfold Hid; simp only [bs_append]
  clear s1 s2 h1 h2
  generalize [40] ++ (Fm.txt x 1 ++ [124] ++ Fm.txt y 2) ++ [41] = Z at *
  go_enter Try.func33, Try.ntmps33
  go_wp2_with fail
  refine (l02Left_c _ T x _ (HH.out.grew (Grew.refl w)) (by omega) HA.out).mono ?_
  rintro e w2 ⟨v2, rfl, hN2, hg2⟩
  go_wp2_with fail
  refine (HX.out 1 _ _ (by omega) hN2 hn1).mono ?_
  rintro e w3 ⟨rfl, hg3⟩
  go_wp2_with fail
  refine (l02Right_c _ T x y _ (HH.out.grew (((Grew.refl w).trans hg2).trans hg3)) (by omega) HA.out HB.out HN.out).mono ?_
  rintro e w4 ⟨v4, rfl, hN4, hg4⟩
  go_wp2_with fail
  refine (HY.out 2 _ _ (by omega) hN4 hn2).mono ?_
  rintro e w5 ⟨rfl, hg5⟩
  go_wp2_with fail
  go_ret
  exact ⟨congrArg (fun z => Ending.returned (.string z)) HE.out, ((((Grew.refl w).trans hg2).trans hg3).trans hg4).trans hg5⟩

theorem write_imp_w (x y : Tree) (hf : Fm.isF y = false) (hx : WriteOk x) (hy : WriteOk y) (l : Nat) (v : Value) (w : World) (hl : 0 < l) (h : Nodes w v (Fm.enc (.imp x y))) (hn : (Fm.enc (.imp x y)).length ≤ 1048576) :
    Calls Try.prog 33 #[v, .int .i64 l] w (Says w (Fm.txt (.imp x y) l)) := by
  have hE : Fm.txt (.imp x y) l = [40] ++ (Fm.txt x 1 ++ [62] ++ Fm.txt y 0) ++ [41] := by
    rw [Fm.txt, if_neg (by simp [hf]), Fm.wrap, if_pos (by omega)]
  rw [hE]
  obtain ⟨b, o, c, rfl, hc, hm, k1⟩ := nodes_head h
  have hpos := Fm.enc_pos (.imp x y)
  have HH := Lib.hid h
  have hg0 := Grew.refl w
  have HQ := Lib.hid (fun v2 w h1 h2 => l02Equal_c (.slice (some ⟨b, o, none⟩) (Fm.enc (.imp x y)).length c) v2 (Fm.enc (.imp x y)) Fm.truth w h1 h2 (by omega))
  rw [decide_eq_false (fun h => by have := (enc_truth h).2; rw [this] at hf; cases hf)] at HQ
  have hky : (kindOf y == 1) = false := by rw [← isF_kind]; exact hf
  rw [show kindOf (.imp x y) = 4 from rfl] at k1
  have HA := Lib.hid (at_first (xs := Fm.enc (.imp x y)) (k := (4, 0)) (a := x) (rest := Fm.enc y) rfl)
  have HB := Lib.hid (at_second (xs := Fm.enc (.imp x y)) (k := (4, 0)) (a := x) (b := y) rfl)
  have hlen : (Fm.enc (.imp x y)).length = 1 + (Fm.enc x).length + (Fm.enc y).length := by simp [Fm.enc]; omega
  have HN := Lib.hid hlen
  have h1 := Fm.txt_len x 1
  have h2 := Fm.txt_len y 0
  have HX := Lib.hid hx
  have HY := Lib.hid hy
  have hn1 : (Fm.enc x).length ≤ 1048576 := by omega
  have hn2 : (Fm.enc y).length ≤ 1048576 := by omega
  have hpy := Fm.enc_pos y
  clear hE h hx hy hlen hf
  generalize Fm.enc (.imp x y) = T at *
  have s1 := bs_size (Fm.txt x 1)
  have s2 := bs_size (Fm.txt y 0)
  have z1 : (bs (Fm.txt x 1)).size ≤ 4194304 := by omega
  have z2 : (bs (Fm.txt y 0)).size ≤ 4194304 := by omega
  have HE : Hid (bs [40] ++ (bs (Fm.txt x 1) ++ bs [62] ++ bs (Fm.txt y 0)) ++ bs [41] = bs ([40] ++ (Fm.txt x 1 ++ [62] ++ Fm.txt y 0) ++ [41])) := by unfold Hid; simp only [bs_append]
  clear s1 s2 h1 h2
  generalize [40] ++ (Fm.txt x 1 ++ [62] ++ Fm.txt y 0) ++ [41] = Z at *
  go_enter Try.func33, Try.ntmps33
  go_wp2_with fail
  refine (l02True_c _).mono ?_
  rintro e w01 ⟨v01, rfl, ho01, hg01⟩
  go_wp2_with fail
  refine (HQ.out _ _ (HH.out.grew hg01) ho01.nodes).mono ?_
  rintro e w02 ⟨rfl, hg02⟩
  have hg2x := hg01.trans hg02
  go_wp2_with fail
  refine (l02Right_c _ T x y _ (HH.out.grew hg2x) (by omega) HA.out HB.out HN.out).mono ?_
  rintro e w03 ⟨v03, rfl, hN03, hg03⟩
  obtain ⟨b3, o3, c3, rfl, hc3, hm3, k3⟩ := nodes_head hN03
  have hg3x := hg2x.trans hg03
  have hgr3 := Grew.refl w03
  go_wp2_with fail
  clear k3
  refine (l02Left_c _ T x _ (HH.out.grew hg3x) (by omega) HA.out).mono ?_
  rintro e w2 ⟨v2, rfl, hN2, hg2⟩
  go_wp2_with fail
  refine (HX.out 1 _ _ (by omega) hN2 hn1).mono ?_
  rintro e w3 ⟨rfl, hg3⟩
  go_wp2_with fail
  refine (l02Right_c _ T x y _ (HH.out.grew ((hg3x.trans hg2).trans hg3)) (by omega) HA.out HB.out HN.out).mono ?_
  rintro e w4 ⟨v4, rfl, hN4, hg4⟩
  go_wp2_with fail
  refine (HY.out 0 _ _ (by omega) hN4 hn2).mono ?_
  rintro e w5 ⟨rfl, hg5⟩
  go_wp2_with fail
  go_ret
  exact ⟨congrArg (fun z => Ending.returned (.string z)) HE.out, (((hg3x.trans hg2).trans hg3).trans hg4).trans hg5⟩

theorem write_box (x : Tree) (hx : WriteOk x) : WriteOk (.box x) := by
  intro l v w hl h hn
  have hE : Fm.txt (.box x) l = [91, 93] ++ Fm.txt x 3 := rfl
  rw [hE]
  obtain ⟨b, o, c, rfl, hc, hm, k1⟩ := nodes_head h
  have hpos := Fm.enc_pos (.box x)
  have HH := Lib.hid h
  have hg0 := Grew.refl w
  rw [show kindOf (.box x) = 5 from rfl] at k1
  have ha := at_first (xs := Fm.enc (.box x)) (k := (5, 0)) (a := x) (rest := []) (by simp [Fm.enc])
  have hlen : (Fm.enc (.box x)).length = 1 + (Fm.enc x).length := by simp [Fm.enc]; omega
  have hsub := h.sub 1 (Fm.enc x).length (c - 1) (by omega) (by omega) (by omega)
  rw [ha.take] at hsub
  have HS := Lib.hid hsub
  have hpx := Fm.enc_pos x
  rw [show (Fm.enc x).length = (Fm.enc (.box x)).length - 1 by omega] at HS
  have h1 := Fm.txt_len x 3
  have HX := Lib.hid hx
  have hn1 : (Fm.enc x).length ≤ 1048576 := by omega
  have hc1 : 1 < (Fm.enc (.box x)).length := by omega
  clear hE h hx hlen ha hsub
  generalize Fm.enc (.box x) = T at *
  have s1 := bs_size (Fm.txt x 3)
  have z1 : (bs (Fm.txt x 3)).size ≤ 4194304 := by omega
  have HE : Hid (bs [91, 93] ++ bs (Fm.txt x 3) = bs ([91, 93] ++ Fm.txt x 3)) := by unfold Hid; rw [bs_append]
  clear s1 h1
  generalize [91, 93] ++ Fm.txt x 3 = Z at *
  go_enter Try.func33, Try.ntmps33
  go_wp2_with fail
  refine (HX.out 3 _ _ (by omega) HS.out hn1).mono ?_
  rintro e w3 ⟨rfl, hg3⟩
  go_wp2_with fail
  go_ret
  exact ⟨congrArg (fun z => Ending.returned (.string z)) HE.out, hg3⟩

theorem write_dia (x : Tree) (hx : WriteOk x) : WriteOk (.dia x) := by
  intro l v w hl h hn
  have hE : Fm.txt (.dia x) l = [60, 62] ++ Fm.txt x 3 := rfl
  rw [hE]
  obtain ⟨b, o, c, rfl, hc, hm, k1⟩ := nodes_head h
  have hpos := Fm.enc_pos (.dia x)
  have HH := Lib.hid h
  have hg0 := Grew.refl w
  rw [show kindOf (.dia x) = 6 from rfl] at k1
  have ha := at_first (xs := Fm.enc (.dia x)) (k := (6, 0)) (a := x) (rest := []) (by simp [Fm.enc])
  have hlen : (Fm.enc (.dia x)).length = 1 + (Fm.enc x).length := by simp [Fm.enc]; omega
  have hsub := h.sub 1 (Fm.enc x).length (c - 1) (by omega) (by omega) (by omega)
  rw [ha.take] at hsub
  have HS := Lib.hid hsub
  have hpx := Fm.enc_pos x
  rw [show (Fm.enc x).length = (Fm.enc (.dia x)).length - 1 by omega] at HS
  have h1 := Fm.txt_len x 3
  have HX := Lib.hid hx
  have hn1 : (Fm.enc x).length ≤ 1048576 := by omega
  have hc1 : 1 < (Fm.enc (.dia x)).length := by omega
  clear hE h hx hlen ha hsub
  generalize Fm.enc (.dia x) = T at *
  have s1 := bs_size (Fm.txt x 3)
  have z1 : (bs (Fm.txt x 3)).size ≤ 4194304 := by omega
  have HE : Hid (bs [60, 62] ++ bs (Fm.txt x 3) = bs ([60, 62] ++ Fm.txt x 3)) := by unfold Hid; rw [bs_append]
  clear s1 h1
  generalize [60, 62] ++ Fm.txt x 3 = Z at *
  go_enter Try.func33, Try.ntmps33
  go_wp2_with fail
  refine (HX.out 3 _ _ (by omega) HS.out hn1).mono ?_
  rintro e w3 ⟨rfl, hg3⟩
  go_wp2_with fail
  go_ret
  exact ⟨congrArg (fun z => Ending.returned (.string z)) HE.out, hg3⟩

theorem write_tru (x : Tree) (hf : Fm.isF x = true) : WriteOk (.imp x .fls) := by
  intro l v w hl h hn
  have hE : Fm.txt (.imp x .fls) l = [84] := by
    rw [Fm.txt, if_pos (show Fm.isF .fls = true from rfl), if_pos hf]
  rw [hE]
  obtain ⟨b, o, c, rfl, hc, hm, k1⟩ := nodes_head h
  have hpos := Fm.enc_pos (.imp x .fls)
  have HH := Lib.hid h
  have hg0 := Grew.refl w
  have HQ := Lib.hid (fun v2 w h1 h2 => l02Equal_c (.slice (some ⟨b, o, none⟩) (Fm.enc (.imp x .fls)).length c) v2 (Fm.enc (.imp x .fls)) Fm.truth w h1 h2 (by omega))
  rw [decide_eq_true (by rw [Fm.isF_eq hf]; rfl)] at HQ
  rw [show kindOf (.imp x .fls) = 4 from rfl] at k1
  have HA := Lib.hid (at_first (xs := Fm.enc (.imp x .fls)) (k := (4, 0)) (a := x) (rest := Fm.enc .fls) rfl)
  have HB := Lib.hid (at_second (xs := Fm.enc (.imp x .fls)) (k := (4, 0)) (a := x) (b := .fls) rfl)
  have hlen : (Fm.enc (.imp x .fls)).length = 1 + (Fm.enc x).length + (Fm.enc .fls).length := by simp [Fm.enc]; omega
  have HN := Lib.hid hlen
  have hn1 : (Fm.enc x).length ≤ 1048576 := by omega
  clear hE h hlen hf
  generalize Fm.enc (.imp x .fls) = T at *
  go_enter Try.func33, Try.ntmps33
  go_wp2_with fail
  refine (l02True_c _).mono ?_
  rintro e w01 ⟨v01, rfl, ho01, hg01⟩
  go_wp2_with fail
  refine (HQ.out _ _ (HH.out.grew hg01) ho01.nodes).mono ?_
  rintro e w02 ⟨rfl, hg02⟩
  have hg2x := hg01.trans hg02
  go_wp2_with fail
  go_ret
  exact ⟨rfl, hg2x⟩

theorem write_not (x : Tree) (hf : Fm.isF x = false) (hx : WriteOk x) : WriteOk (.imp x .fls) := by
  intro l v w hl h hn
  have hE : Fm.txt (.imp x .fls) l = [126] ++ Fm.txt x 3 := by
    rw [Fm.txt, if_pos (show Fm.isF .fls = true from rfl), if_neg (by simp [hf])]
  rw [hE]
  obtain ⟨b, o, c, rfl, hc, hm, k1⟩ := nodes_head h
  have hpos := Fm.enc_pos (.imp x .fls)
  have HH := Lib.hid h
  have hg0 := Grew.refl w
  have HQ := Lib.hid (fun v2 w h1 h2 => l02Equal_c (.slice (some ⟨b, o, none⟩) (Fm.enc (.imp x .fls)).length c) v2 (Fm.enc (.imp x .fls)) Fm.truth w h1 h2 (by omega))
  rw [decide_eq_false (fun h => by have := (enc_truth h).1; rw [this] at hf; cases hf)] at HQ
  rw [show kindOf (.imp x .fls) = 4 from rfl] at k1
  have HA := Lib.hid (at_first (xs := Fm.enc (.imp x .fls)) (k := (4, 0)) (a := x) (rest := Fm.enc .fls) rfl)
  have HB := Lib.hid (at_second (xs := Fm.enc (.imp x .fls)) (k := (4, 0)) (a := x) (b := .fls) rfl)
  have hlen : (Fm.enc (.imp x .fls)).length = 1 + (Fm.enc x).length + (Fm.enc .fls).length := by simp [Fm.enc]; omega
  have HN := Lib.hid hlen
  have hn1 : (Fm.enc x).length ≤ 1048576 := by omega
  have h1 := Fm.txt_len x 3
  have HX := Lib.hid hx
  have s1 := bs_size (Fm.txt x 3)
  have z1 : (bs (Fm.txt x 3)).size ≤ 4194304 := by omega
  have HE : Hid (bs [126] ++ bs (Fm.txt x 3) = bs ([126] ++ Fm.txt x 3)) := by unfold Hid; rw [bs_append]
  clear s1 h1 hx
  generalize [126] ++ Fm.txt x 3 = Z at *
  clear hE h hlen hf
  generalize Fm.enc (.imp x .fls) = T at *
  go_enter Try.func33, Try.ntmps33
  go_wp2_with fail
  refine (l02True_c _).mono ?_
  rintro e w01 ⟨v01, rfl, ho01, hg01⟩
  go_wp2_with fail
  refine (HQ.out _ _ (HH.out.grew hg01) ho01.nodes).mono ?_
  rintro e w02 ⟨rfl, hg02⟩
  have hg2x := hg01.trans hg02
  go_wp2_with fail
  refine (l02Right_c _ T x .fls _ (HH.out.grew hg2x) (by omega) HA.out HB.out HN.out).mono ?_
  rintro e w03 ⟨v03, rfl, hN03, hg03⟩
  obtain ⟨b3, o3, c3, rfl, hc3, hm3, k3⟩ := nodes_head hN03
  rw [show kindOf .fls = 1 from rfl] at k3
  have hp3 := Fm.enc_pos .fls
  have hg3x := hg2x.trans hg03
  have hgr3 := Grew.refl w03
  go_wp2_with fail
  clear k3
  refine (l02Left_c _ T x _ (HH.out.grew hg3x) (by omega) HA.out).mono ?_
  rintro e w4 ⟨v4, rfl, hN4, hg4⟩
  go_wp2_with fail
  refine (HX.out 3 _ _ (by omega) hN4 hn1).mono ?_
  rintro e w5 ⟨rfl, hg5⟩
  go_wp2_with fail
  go_ret
  exact ⟨congrArg (fun z => Ending.returned (.string z)) HE.out, (hg3x.trans hg4).trans hg5⟩

theorem write_fls : WriteOk .fls := by
  intro l v w hl h hn
  have hE : Fm.txt .fls l = [70] := rfl
  rw [hE]
  obtain ⟨b, o, c, rfl, hc, hm, k1⟩ := nodes_head h
  have hpos := Fm.enc_pos (.fls)
  have HH := Lib.hid h
  have hg0 := Grew.refl w
  rw [show kindOf .fls = 1 from rfl] at k1
  clear hE h
  generalize Fm.enc .fls = T at *
  go_enter Try.func33, Try.ntmps33
  go_wp2_with fail
  go_ret
  exact ⟨rfl, hg0⟩

theorem write_var (n : Fin 6) : WriteOk (.var n) := by
  intro l v w hl h hn
  have hE : Fm.txt (.var n) l = [UInt8.ofNat (112 + n.val)] := rfl
  rw [hE]
  have k2 : ∃ b o c, v = .slice (some ⟨b, o, none⟩) (Fm.enc (.var n)).length c ∧ ∀ W, Grew w W → W.cell? ⟨b, o + 1, none⟩ = some (.int .i64 (n.val : Int)) := by
    rcases h.open_ with ⟨_, h0⟩ | ⟨b, o, c, hv, _, _, _, hf⟩
    · simp [Fm.enc] at h0
    · refine ⟨b, o, c, hv, fun W hW => ?_⟩
      have := (hf 0 (by simp [Fm.enc]) W hW).2
      rw [show sy (Fm.enc (.var n)) 0 = (n.val : Int) from rfl] at this
      simpa using this
  obtain ⟨b, o, c, rfl, hc, hm, k1⟩ := nodes_head h
  have hpos := Fm.enc_pos (.var n)
  have HH := Lib.hid h
  have hg0 := Grew.refl w
  obtain ⟨b', o', c', hv', k2⟩ := k2
  simp only [Value.slice.injEq, Option.some.injEq, Addr.mk.injEq, and_true, true_and] at hv'
  obtain ⟨⟨rfl, rfl⟩, rfl⟩ := hv'
  rw [show kindOf (.var n) = 0 from rfl] at k1
  have hn6 := n.isLt
  clear hE h
  generalize Fm.enc (.var n) = T at *
  generalize n.val = q at *
  go_enter Try.func33, Try.ntmps33
  go_wp2_with fail
  go_quiet (fail)
  go_wp2_with fail
  go_ret
  exact ⟨congrArg (fun z => Ending.returned (.string z)) (letter_cut hn6), hg0.drewN _⟩

theorem write_ok (t : Tree) : WriteOk t := by
  induction t with
  | var n => exact write_var n
  | fls => exact write_fls
  | and x y hx hy =>
    intro l v w hl h hn
    rcases Nat.lt_or_ge 2 l with hw | hw
    · exact write_and_w x y hx hy l v w hw h hn
    · exact write_and_n x y hx hy l v w hw h hn
  | or x y hx hy =>
    intro l v w hl h hn
    rcases Nat.lt_or_ge 1 l with hw | hw
    · exact write_or_w x y hx hy l v w hw h hn
    · exact write_or_n x y hx hy l v w hw h hn
  | imp x y hx hy =>
    cases hf : Fm.isF y with
    | true =>
      obtain rfl := Fm.isF_eq hf
      cases hg : Fm.isF x with
      | true => exact write_tru x hg
      | false => exact write_not x hg hx
    | false =>
      intro l v w hl h hn
      rcases Nat.lt_or_ge 0 l with hw | hw
      · exact write_imp_w x y hf hx hy l v w hw h hn
      · exact write_imp_n x y hf hx hy l v w hw h hn
  | box x hx => exact write_box x hx
  | dia x hx => exact write_dia x hx

theorem l02Text_c (t : Tree) (v : Value) (w : World) (h : Nodes w v (Fm.enc t)) (hn : (Fm.enc t).length ≤ 1048576) :
    Calls Try.prog 18 #[v] w (Says w (Fm.txt t 0)) := by
  have HT := Lib.hid (write_ok t 0 v w (by omega) h hn)
  go_enter Try.func18, Try.ntmps18
  go_wp2_with fail
  refine HT.out.mono ?_
  rintro e w1 ⟨rfl, hg1⟩
  go_wp2_with fail
  go_ret
  exact ⟨rfl, hg1⟩
end Go.Proofs.Ythdffenpgkbjkaa

/- The drawn list of FnTexts, FormulaText of both sides at any list, IsFormula, small helpers of the law. -/
namespace Go.Proofs.Ythdffenpgkbjkaa
open Go.RowKit
open Fm (Nd Tree)

theorem same_yes (v1 v2 : Value) (xs : List Nd) (w : World) (h1 : Nodes w v1 xs) (h2 : Nodes w v2 xs) (hn : xs.length ≤ 1099511627776) :
    Calls Try.prog 10 #[v1, v2] w fun e w' => e = .returned (.bool true) ∧ Grew w w' := by
  have := sameNodes9_c v1 v2 xs xs w h1 h2 hn
  rwa [decide_eq_true (rfl : xs = xs)] at this

theorem big_c (v : Value) (N : Nat) (w : World) (h : ∃ A c, v = .slice A N c) :
    Calls Try.prog 4 #[v] w fun e w' => e = .returned (.bool (decide (4096 < N))) ∧ Grew w w' := by
  obtain ⟨A, c, rfl⟩ := h
  by_cases hb : 4096 < N
  · rw [decide_eq_true hb]
    go_enter Try.func4, Try.ntmps4
    go_wp2_with fail
    go_ret
    exact ⟨by simp; omega, Grew.refl _⟩
  · rw [decide_eq_false hb]
    go_enter Try.func4, Try.ntmps4
    go_wp2_with fail
    go_ret
    exact ⟨by simp; omega, Grew.refl _⟩

theorem drawTexts_c (v : Value) (N : Nat) (w : World) (h : ArgB w v N) (hN : N ≤ 4096) :
    Calls Try.prog 5 #[v] w fun e w' => ∃ u xs, e = .returned u ∧ Own w' w.heap.size u xs ∧ xs.length ≤ 47 ∧ Grew w w' := by
  have HF := Lib.hid (l01From_c v N w h hN)
  clear h
  go_enter Try.func5, Try.ntmps5
  go_wp2_with fail
  refine HF.out.mono ?_
  rintro e w1 ⟨g, rfl, hg0, hS, hg1⟩
  have HS := Lib.hid hS
  clear hS HF
  go_wp2_with fail
  refine (l02Any_c g v N _ HS.out).mono ?_
  rintro e w2 ⟨u, xs, rfl, ho2, hl2, _, hw2⟩
  go_wp2_with fail
  go_ret
  exact ⟨_, _, rfl, ho2.base hg1.size, hl2, hw2.grew_of hg1 hg0⟩

theorem formulaText_no (v : Value) (xs : List Nd) (w : World) (h : Nodes w v xs) (hn : xs.length ≤ 1099511627776) (hf : fmB xs = false) :
    Calls Try.prog 6 #[v] w fun e w' => e = .returned (.tuple #[.string (bs []), .int .i64 1]) ∧ Grew w w' := by
  have HF := isFormula_g v xs w h hn
  rw [hf] at HF
  replace HF := Lib.hid HF
  clear h
  go_enter Try.func6, Try.ntmps6
  go_wp2_with fail
  refine HF.out.mono ?_
  rintro e w1 ⟨rfl, hg1⟩
  go_wp2_with fail
  go_ret2
  exact ⟨rfl, hg1⟩
theorem specText_no (v : Value) (xs : List Nd) (w : World) (h : Nodes w v xs) (hn : xs.length ≤ 1099511627776) (hf : fmB xs = false) :
    Calls Try.prog 7 #[v] w fun e w' => e = .returned (.tuple #[.string (bs []), .int .i64 1]) ∧ Grew w w' := by
  have HF := l02Is_c v xs w h hn
  rw [hf] at HF
  replace HF := Lib.hid HF
  clear h
  go_enter Try.func7, Try.ntmps7
  go_wp2_with fail
  refine HF.out.mono ?_
  rintro e w1 ⟨rfl, hg1⟩
  go_wp2_with fail
  go_ret2
  exact ⟨rfl, hg1⟩
theorem specText_yes (v : Value) (t : Tree) (w : World) (h : Nodes w v (Fm.enc t)) (hn : (Fm.enc t).length ≤ 40) (hf : fmB (Fm.enc t) = true) :
    Calls Try.prog 7 #[v] w fun e w' => e = .returned (.tuple #[.string (bs (Fm.txt t 0)), .int .i64 0]) ∧ Grew w w' := by
  have HF := l02Is_c v (Fm.enc t) w h (by omega)
  rw [hf] at HF
  replace HF := Lib.hid HF
  have HT := Lib.hid (fun W (hW : Grew w W) => l02Text_c t v W (h.grew hW) (by omega))
  clear h
  go_enter Try.func7, Try.ntmps7
  go_wp2_with fail
  refine HF.out.mono ?_
  rintro e w1 ⟨rfl, hg1⟩
  go_wp2_with fail
  refine (HT.out _ hg1).mono ?_
  rintro e w2 ⟨rfl, hg2⟩
  go_wp2_with fail
  go_ret2
  exact ⟨rfl, hg1.trans hg2⟩
theorem isFormulaX_c (v : Value) (xs : List Nd) (w : World) (h : Nodes w v xs) (hn : xs.length ≤ 1099511627776) :
    Calls Try.prog 8 #[v] w fun e w' => e = .returned (.bool (fmB xs)) ∧ Grew w w' := by
  have HF := Lib.hid (isFormula_g v xs w h hn)
  clear h
  go_enter Try.func8, Try.ntmps8
  go_wp2_with fail
  refine HF.out.mono ?_
  rintro e w1 ⟨rfl, hg1⟩
  go_wp2_with fail
  go_ret
  exact ⟨rfl, hg1⟩
end Go.Proofs.Ythdffenpgkbjkaa

/- The program's makers over slices.Concat. -/
namespace Go.Proofs.Ythdffenpgkbjkaa
open Go.RowKit
open Fm (Nd)

/-- A block that has just been made and holds slices of nodes. -/
theorem lists_new (w : World) (t : TypeId) (us : List Value) (L : List (List Nd)) (hm : L.length ≤ 9223372036854775807)
    (h : ∀ i, i < L.length → ∃ u, us[i]? = some u ∧ Nodes w u (L.getD i [])) : Lists (w.alloc (.cells us.toArray t)) (.slice (some ⟨w.heap.size, 0, none⟩) L.length L.length) L := by
  refine .inr ⟨w.heap.size, 0, L.length, rfl, Nat.le_refl _, hm, by simp, fun i hi => ?_⟩
  obtain ⟨u, h1, h2⟩ := h i hi
  refine ⟨u, ?_, h2.grew ((Grew.refl w).alloc _)⟩
  rw [Nat.zero_add, blk_cell (blk_new w _)]
  simpa using h1

theorem join_c (k : Int) (va vb : Value) (xs ys : List Nd) (w : World) (ha : Nodes w va xs) (hb : Nodes w vb ys) (hn : xs.length + ys.length ≤ 1099511627775) :
    Calls Try.prog 36 #[.int .i64 k, va, vb] w (Gives w (Fm.join k xs ys)) := by
  have o1 := Own.one w w.heap.size k 0 (Nat.le_refl _)
  have g1 := (Grew.refl w).alloc (.cells #[.int .i64 k, .int .i64 0] 46)
  have hl := lists_new (w.alloc (.cells #[.int .i64 k, .int .i64 0] 46)) 24 [.slice (some ⟨w.heap.size, 0, none⟩) 1 1, va, vb] [[(k, 0)], xs, ys] (by simp) (fun i hi => by
    match i, hi with
    | 0, _ => exact ⟨_, rfl, o1.nodes⟩
    | 1, _ => exact ⟨_, rfl, ha.grew g1⟩
    | 2, _ => exact ⟨_, rfl, hb.grew g1⟩)
  obtain ⟨A, ca, rfl⟩ := nodes_slice ha
  obtain ⟨B, cb, rfl⟩ := nodes_slice hb
  simp only [List.length_cons, List.length_nil, World.size_alloc] at hl
  go_enter Try.func36, Try.ntmps36
  go_wp2_with fail
  refine (concat_c _ _ _ hl (by simp) (by simp; omega)).mono ?_
  rintro e w1 ⟨v1, rfl, ho1, hg1⟩
  go_wp2_with fail
  go_ret
  exact ⟨_, rfl, by simpa [Fm.join] using ho1.base (by simp; omega), hg1.of_alloc.of_alloc⟩

theorem prefix_c (k : Int) (va : Value) (xs : List Nd) (w : World) (ha : Nodes w va xs) (hn : xs.length ≤ 1099511627775) :
    Calls Try.prog 87 #[.int .i64 k, va] w (Gives w (Fm.pre k xs)) := by
  have o1 := Own.one w w.heap.size k 0 (Nat.le_refl _)
  have g1 := (Grew.refl w).alloc (.cells #[.int .i64 k, .int .i64 0] 46)
  have hl := lists_new (w.alloc (.cells #[.int .i64 k, .int .i64 0] 46)) 24 [.slice (some ⟨w.heap.size, 0, none⟩) 1 1, va] [[(k, 0)], xs] (by simp) (fun i hi => by
    match i, hi with
    | 0, _ => exact ⟨_, rfl, o1.nodes⟩
    | 1, _ => exact ⟨_, rfl, ha.grew g1⟩)
  obtain ⟨A, ca, rfl⟩ := nodes_slice ha
  simp only [List.length_cons, List.length_nil, World.size_alloc] at hl
  go_enter Try.func87, Try.ntmps87
  go_wp2_with fail
  refine (concat_c _ _ _ hl (by simp) (by simp; omega)).mono ?_
  rintro e w1 ⟨v1, rfl, ho1, hg1⟩
  go_wp2_with fail
  go_ret
  exact ⟨_, rfl, by simpa [Fm.pre] using ho1.base (by simp; omega), hg1.of_alloc.of_alloc⟩

theorem negation_c (va : Value) (xs : List Nd) (w : World) (ha : Nodes w va xs) (hn : xs.length ≤ 1099511627774) :
    Calls Try.prog 85 #[va] w (Gives w (Fm.neg xs)) := by
  go_enter Try.func85, Try.ntmps85
  go_wp2_with fail
  refine (falsum_c _).mono ?_
  rintro e w1 ⟨v1, rfl, ho1, hg1⟩
  go_wp2_with fail
  refine (join_c _ _ _ xs Fm.falsum _ (ha.grew hg1) ho1.nodes (by simp [Fm.falsum]; omega)).mono ?_
  rintro e w2 ⟨v2, rfl, ho2, hg2⟩
  go_wp2_with fail
  go_ret
  exact ⟨_, rfl, ho2.base hg1.size, hg1.trans hg2⟩
end Go.Proofs.Ythdffenpgkbjkaa

/- The readers' first steps: take, need, l02Take, l02Need. -/
namespace Go.Proofs.Ythdffenpgkbjkaa
open Go.RowKit

/-- Block g holds a reader: its text, its position, whether it is bad. -/
def Rdr (w : World) (g : Nat) (T : TypeId) (s : ByteArray) (st : Fm.St) : Prop := w.heap[g]? = some (.cells #[.string s, .int .i64 st.1, .bool st.2] T (0, 0))
theorem Rdr.text {w : World} {g T : Nat} {s : ByteArray} {st : Fm.St} (h : Rdr w g T s st) : w.cell? ⟨g, 0, none⟩ = some (.string s) := by rw [blk_cell h]; rfl
theorem Rdr.at_ {w : World} {g T : Nat} {s : ByteArray} {st : Fm.St} (h : Rdr w g T s st) : w.cell? ⟨g, 1, none⟩ = some (.int .i64 st.1) := by rw [blk_cell h]; rfl
theorem Rdr.bad {w : World} {g T : Nat} {s : ByteArray} {st : Fm.St} (h : Rdr w g T s st) : w.cell? ⟨g, 2, none⟩ = some (.bool st.2) := by rw [blk_cell h]; rfl
theorem Rdr.free {w : World} {g T : Nat} {s : ByteArray} {st : Fm.St} (h : Rdr w g T s st) (i : Nat) : w.frozen? ⟨g, i, none⟩ = false := blk_frozen h i
theorem Rdr.lt {w : World} {g T : Nat} {s : ByteArray} {st : Fm.St} (h : Rdr w g T s st) : g < w.heap.size := blk_lt h
theorem Rdr.grew {w w' : World} {g T : Nat} {s : ByteArray} {st : Fm.St} (h : Rdr w g T s st) (hg : Grew w w') : Rdr w' g T s st := (hg.block h.lt).trans h
theorem Rdr.move {w : World} {g T : Nat} {s : ByteArray} {st : Fm.St} (h : Rdr w g T s st) (n : Nat) : Rdr (w.setCell ⟨g, 1, none⟩ (.int .i64 n)) g T s (n, st.2) := blk_set h 1 _
theorem Rdr.spoil {w : World} {g T : Nat} {s : ByteArray} {st : Fm.St} (h : Rdr w g T s st) : Rdr (w.setCell ⟨g, 2, none⟩ (.bool true)) g T s (st.1, true) := blk_set h 2 _

/-- What 'take' leaves. -/
def Took (w : World) (g : Nat) (T : TypeId) (s : ByteArray) (st : Fm.St) (c : UInt8) (e : Ending) (w' : World) : Prop :=
  e = .returned (.bool (Fm.sees s.data.toList st c)) ∧ Rdr w' g T s (if Fm.sees s.data.toList st c then Fm.step st else st) ∧ Only g w w'

theorem sees_bad (s : List UInt8) (p : Nat) (c : UInt8) : Fm.sees s (p, true) c = false := rfl
theorem sees_end (s : ByteArray) (p : Nat) (c : UInt8) (h : s.size ≤ p) : Fm.sees s.data.toList (p, false) c = false := by
  have : s.data.toList[p]? = none := by rw [Array.getElem?_toList, Array.getElem?_eq_none]; exact h
  simp [Fm.sees, this]
theorem sees_in (s : ByteArray) (p : Nat) (c : UInt8) (h : p < s.size) : Fm.sees s.data.toList (p, false) c = (s[p] == c) := by
  have : s.data.toList[p]? = some s[p] := by rw [Array.getElem?_toList]; exact Array.getElem?_eq_getElem h
  simp [Fm.sees, this]
theorem byte_eq (a b : UInt8) : ((a.toNat : Int) == b.toNat) = (a == b) := by
  rw [Bool.eq_iff_iff]; simp only [beq_iff_eq, ← UInt8.toNat_inj]; omega
theorem byte_ne (a b : UInt8) : ((a.toNat : Int) != b.toNat) = !(a == b) := by
  rw [bne, byte_eq]

theorem Took.no {w w' : World} {g T : Nat} {s : ByteArray} {st : Fm.St} {c : UInt8} (h : Rdr w g T s st) (hs : Fm.sees s.data.toList st c = false) (hw : Grew w w') : Took w g T s st c (.returned (.bool false)) w' := by
  unfold Took; rw [hs]; exact ⟨rfl, h.grew hw, hw.only⟩
theorem Took.yes {w w' : World} {g T : Nat} {s : ByteArray} {p : Nat} {b : Bool} {c : UInt8} (h : Rdr w g T s (p, b)) (hs : Fm.sees s.data.toList (p, b) c = true) (hw : Grew w w') : Took w g T s (p, b) c (.returned (.bool true)) (w'.setCell ⟨g, 1, none⟩ (.int .i64 ((p : Int) + 1))) := by
  unfold Took; rw [hs]; exact ⟨rfl, (h.grew hw).move (p + 1), hw.only.setCell _⟩

theorem take_c (g T : Nat) (s : ByteArray) (st : Fm.St) (c : UInt8) (m : Int) (w : World) (h : Rdr w g T s st) (hs : s.size ≤ 1099511627776) (hat : st.1 ≤ s.size) (hm : m = (c.toNat : Int)) :
    Calls Try.prog 35 #[.pointer (some ⟨g, 0, none⟩), .int .u8 m] w (Took w g T s st c) := by
  subst hm
  have c0 := h.text
  have c1 := h.at_
  have c2 := h.bad
  have hf := h.free 1
  obtain ⟨p, b⟩ := st
  simp only at c0 c1 c2 hat
  by_cases hb : b = true
  · subst hb
    have HH := Lib.hid h
    clear h
    go_enter Try.func35, Try.ntmps35
    go_wp2_with fail
    go_quiet (fail)
    go_wp2_with fail
    go_ret
    exact Took.no HH.out (sees_bad _ _ _) ((Grew.refl _).drewN _)
  · have hb' : b = false := by simpa using hb
    subst hb'
    by_cases hlt : p < s.size
    · have hd : decide ((s.size : Int) ≤ (p : Int)) = false := by simp; omega
      have HH := Lib.hid h
      clear h hb
      go_enter Try.func35, Try.ntmps35
      go_wp2_with fail
      go_quiet (fail)
      go_wp2_with fail
      · have h1 : s.size ≤ p ∨ ((s[p].toNat : Int) != c.toNat) = true := by assumption
        go_ret
        exact Took.no HH.out (by rw [sees_in s p c hlt]; rcases h1 with h1 | h1; omega; rw [byte_ne] at h1; simpa using h1) ((Grew.refl _).drewN _)
      · have h1 : ¬ s.size ≤ p ∧ ((s[p].toNat : Int) != c.toNat) = false := by assumption
        go_ret
        exact Took.yes HH.out (by rw [sees_in s p c hlt]; have := h1.2; rw [byte_ne] at this; simpa using this) ((Grew.refl _).drewN _)
    · have hd : decide ((s.size : Int) ≤ (p : Int)) = true := by simp; omega
      have HH := Lib.hid h
      clear h hb
      go_enter Try.func35, Try.ntmps35
      go_wp2_with fail
      go_quiet (fail)
      go_wp2_with fail
      go_ret
      exact Took.no HH.out (sees_end _ _ _ (by omega)) ((Grew.refl _).drewN _)

theorem take_yes (g T : Nat) (s : ByteArray) (st : Fm.St) (c : UInt8) (m : Int) (w : World) (h : Rdr w g T s st) (hs : s.size ≤ 1099511627776) (hat : st.1 ≤ s.size) (hm : m = (c.toNat : Int)) (hsee : Fm.sees s.data.toList st c = true) :
    Calls Try.prog 35 #[.pointer (some ⟨g, 0, none⟩), .int .u8 m] w fun e w' => e = .returned (.bool true) ∧ Rdr w' g T s (Fm.step st) ∧ Only g w w' :=
  (take_c g T s st c m w h hs hat hm).mono fun e w' hh => by
    unfold Took at hh; rw [hsee] at hh; exact hh
theorem take_no (g T : Nat) (s : ByteArray) (st : Fm.St) (c : UInt8) (m : Int) (w : World) (h : Rdr w g T s st) (hs : s.size ≤ 1099511627776) (hat : st.1 ≤ s.size) (hm : m = (c.toNat : Int)) (hsee : Fm.sees s.data.toList st c = false) :
    Calls Try.prog 35 #[.pointer (some ⟨g, 0, none⟩), .int .u8 m] w fun e w' => e = .returned (.bool false) ∧ Rdr w' g T s st ∧ Only g w w' :=
  (take_c g T s st c m w h hs hat hm).mono fun e w' hh => by
    unfold Took at hh; rw [hsee] at hh; exact hh
theorem need_c (g T : Nat) (s : ByteArray) (st : Fm.St) (c : UInt8) (m : Int) (w : World) (h : Rdr w g T s st) (hs : s.size ≤ 1099511627776) (hat : st.1 ≤ s.size) (hm : m = (c.toNat : Int)) :
    Calls Try.prog 86 #[.pointer (some ⟨g, 0, none⟩), .int .u8 m] w fun e w' => e = .returned (.tuple #[]) ∧ Rdr w' g T s (Fm.need s.data.toList st c) ∧ Only g w w' := by
  subst hm
  by_cases hsee : Fm.sees s.data.toList st c = true
  · have hn : Fm.need s.data.toList st c = Fm.step st := by unfold Fm.need; rw [if_pos hsee]
    rw [hn]
    clear hn
    go_enter Try.func86, Try.ntmps86
    go_wp2_with fail
    refine (take_yes g T s st c _ _ h hs hat rfl hsee).mono ?_
    rintro e w1 ⟨rfl, h1, o1⟩
    go_wp2_with fail
    go_end0
    exact ⟨rfl, h1, o1⟩
  · have hsee' : Fm.sees s.data.toList st c = false := by simpa using hsee
    have hn : Fm.need s.data.toList st c = (st.1, true) := by unfold Fm.need; rw [if_neg hsee]
    rw [hn]
    clear hn hsee
    go_enter Try.func86, Try.ntmps86
    go_wp2_with fail
    refine (take_no g T s st c _ _ h hs hat rfl hsee').mono ?_
    rintro e w1 ⟨rfl, h1, o1⟩
    have c2 := h1.bad
    have hf := h1.free 2
    have HH := Lib.hid h1
    clear h1
    go_wp2_with fail
    go_end0
    exact ⟨rfl, HH.out.spoil, o1.setCell _⟩

end Go.Proofs.Ythdffenpgkbjkaa
