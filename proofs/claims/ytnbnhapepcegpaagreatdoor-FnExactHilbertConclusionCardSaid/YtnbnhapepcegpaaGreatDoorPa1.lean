/- Texts in one file: Base Parse0 Nodes Ints AppI Lit Sch Agree EqN Make NdLaw Args0 Hl Parse1 Tree Round Part MatchT Equal SameN OwnV MatchP Own. -/
import Derived.WalkKit
import Derived.WalkSpells
import Derived.WalkLawsBesides
import Derived.Lib.Hide
import Derived.Deep.Draws
import Derived.Deep.AppendLies
import Derived.Maps.AppendAt
import Derived.Lib.AppendZerosOnto
import Derived.Test.YtnbnhapepcegpaaGreatDoorProg
import Derived.Deep.RegionHeld3
import Derived.Deep.QuietTactic
import Derived.BigQuiet
import Derived.Deep.LoopGhost
import Derived.Deep.OwnRows
import Derived.Outline
import Derived.Lib.SliceRun
set_option linter.all false

/- Words for memory: what a call leaves as it was, a slice that reads as a row of cells, an append onto a row of the call's own. No program is in sight. -/
namespace Go.Proofs.YtnbnhapepcegpaaGreatDoor
open Go.RowKit

/-- Nothing that was there has changed; there may be new blocks. -/
def Grew (a b : World) : Prop := Below a.heap.size a b
theorem Grew.refl (w : World) : Grew w w := Below.refl _ _
theorem Grew.size {a b : World} (h : Grew a b) : a.heap.size ≤ b.heap.size := Below.size h
theorem Grew.trans {a b c : World} (h : Grew a b) (k : Grew b c) : Grew a c := Below.trans h (Below.mono k (Below.size h))
theorem Grew.drew {a b : World} (h : Grew a b) : Grew a b.drew := Below.drew h
theorem Grew.drewN {a b : World} (h : Grew a b) (n : Nat) : Grew a (b.drewN n) := ⟨h.os, h.tape, h.output, h.size, h.block⟩
theorem Grew.alloc {a b : World} (h : Grew a b) (o : Obj) : Grew a (b.alloc o) := Below.alloc h (Below.size h) o
theorem Grew.of_drew {a b : World} (h : Grew a.drew b) : Grew a b := ⟨h.os, h.tape, h.output, h.size, h.block⟩
theorem Grew.of_drewN {a b : World} {n : Nat} (h : Grew (a.drewN n) b) : Grew a b := ⟨h.os, h.tape, h.output, h.size, h.block⟩
theorem Grew.of_alloc {a b : World} {o : Obj} (h : Grew (a.alloc o) b) : Grew a b := ((Grew.refl a).alloc o).trans h
theorem Grew.setCell {a b : World} (h : Grew a b) {p : Addr} (hp : a.heap.size ≤ p.block) (u : Value) : Grew a (b.setCell p u) := Below.setCell h hp u
theorem Grew.cell {a b : World} (h : Grew a b) {p : Addr} (hp : p.block < a.heap.size) : b.cell? p = a.cell? p := Below.cell h hp
theorem Grew.block {a b : World} (h : Grew a b) {k : Nat} (hp : k < a.heap.size) : b.heap[k]? = a.heap[k]? := Below.block h k hp
theorem Grew.grown {a b c : World} {row : Option Nat} (h : Grew a b) (hg : b.grownBy c row) (hr : ∀ k, row = some k → a.heap.size ≤ k) : Grew a c := Below.grown h hg (Below.size h) hr
theorem Grew.by_ {a b : World} (h : Grew a b) (row : Option Nat) : a.grownBy b row := ⟨h.os, h.tape, h.output, h.size, fun _ hi _ => h.block hi⟩
theorem Grew.below {a b : World} (h : Grew a b) : Below a.heap.size a b := h

/-- Of what was there block g alone may have changed. -/
def Only (g : Nat) (a b : World) : Prop := a.grownBy b (some g)
theorem Only.refl (g : Nat) (w : World) : Only g w w := World.grownBy.refl w _
theorem Only.size {g : Nat} {a b : World} (h : Only g a b) : a.heap.size ≤ b.heap.size := World.grownBy.size h
theorem Only.trans {g : Nat} {a b c : World} (h : Only g a b) (k : Only g b c) : Only g a c := World.grownBy.trans h k
theorem Only.drew {g : Nat} {a b : World} (h : Only g a b) : Only g a b.drew := ⟨h.os, h.tape, h.output, h.size, h.block⟩
theorem Only.drewN {g : Nat} {a b : World} (h : Only g a b) (n : Nat) : Only g a (b.drewN n) := ⟨h.os, h.tape, h.output, h.size, h.block⟩
theorem Grew.only {g : Nat} {a b : World} (h : Grew a b) : Only g a b := h.by_ _
theorem Only.grew {g : Nat} {a b c : World} (h : Only g a b) (k : Grew b c) : Only g a c := Only.trans h k.only
theorem Only.alloc {g : Nat} {a b : World} (h : Only g a b) (o : Obj) : Only g a (b.alloc o) := h.grew ((Grew.refl b).alloc o)
theorem Only.setCell {g o : Nat} {a b : World} (h : Only g a b) (u : Value) : Only g a (b.setCell ⟨g, o, none⟩ u) :=
  ⟨h.os, h.tape, h.output, by simpa [World.setCell] using h.size, fun _ hi hne => (Below.heap_setCell b ⟨g, o, none⟩ u _ (by rintro rfl; exact hne rfl)).trans (World.grownBy.block h _ hi hne)⟩
theorem Only.block {g : Nat} {a b : World} (h : Only g a b) {k : Nat} (hk : k < a.heap.size) (hne : k ≠ g) : b.heap[k]? = a.heap[k]? :=
  World.grownBy.block h k hk (fun e => hne (by injection e))
theorem Only.cell {g : Nat} {a b : World} (h : Only g a b) {p : Addr} (hk : p.block < a.heap.size) (hne : p.block ≠ g) : b.cell? p = a.cell? p :=
  World.cell?_of_block (h.block hk hne)
/-- Where the block is newer than a, nothing of a has changed. -/
theorem Only.grew_of {g : Nat} {a b c : World} (h : Only g b c) (k : Grew a b) (hg : a.heap.size ≤ g) : Grew a c :=
  ⟨h.os.trans k.os, h.tape.trans k.tape, h.output.trans k.output, Nat.le_trans k.size h.size, fun i hi => (h.block (Nat.lt_of_lt_of_le hi k.size) (by omega)).trans (k.block hi)⟩

/-- The slice value v has n elements of k cells each, which hold xs. -/
def Rd (w : World) (k : Nat) (v : Value) (n : Nat) (xs : List Value) : Prop :=
  xs.length = n * k ∧ n ≤ 9223372036854775807 ∧
  ((v = .slice none 0 0 ∧ n = 0) ∨ ∃ b o c, v = .slice (some ⟨b, o, none⟩) n c ∧ n ≤ c ∧ c ≤ 9223372036854775807 ∧ b < w.heap.size ∧ ∀ j u, xs[j]? = some u → w.cell? ⟨b, o + j, none⟩ = some u)

theorem Rd.grew {w w' : World} {k n : Nat} {v : Value} {xs : List Value} (h : Rd w k v n xs) (hb : Grew w w') : Rd w' k v n xs := by
  obtain ⟨h1, h2, h3⟩ := h
  refine ⟨h1, h2, ?_⟩
  rcases h3 with h3 | ⟨b, o, c, rfl, h4, h5, h6, h7⟩
  · exact .inl h3
  · exact .inr ⟨b, o, c, rfl, h4, h5, Nat.lt_of_lt_of_le h6 hb.size, fun j u hu => (hb.cell (p := ⟨b, o + j, none⟩) h6).trans (h7 j u hu)⟩

theorem Rd.nil_ (w : World) (k : Nat) : Rd w k (.slice none 0 0) 0 [] := ⟨by simp, by omega, .inl ⟨rfl, rfl⟩⟩

theorem Rd.of_own {w : World} {base : Nat} {e : TypeId} {k n : Nat} {v : Value} {xs : List Value} (h : w.ownsRow base e k v n xs) : Rd w k v n xs := by
  obtain ⟨h1, h2⟩ := h
  rcases h2 with ⟨rfl, rfl⟩ | ⟨g, cap, cur, rfl, hb, hg, hnc, hcm, hcs, ht⟩
  · exact ⟨h1, by omega, .inl ⟨rfl, rfl⟩⟩
  · refine ⟨h1, Nat.le_trans hnc hcm, .inr ⟨g, 0, cap, rfl, hnc, hcm, (Array.getElem?_eq_some_iff.1 hg).1, fun j u hu => ?_⟩⟩
    rw [Nat.zero_add, cell_of_row w g j cur e (0, 0) hg]
    rw [← ht, List.getElem?_take] at hu
    split at hu
    · simpa using hu
    · cases hu

/-- An append of what reads as a row, nil or not, onto a row of the call's own. -/
theorem wpList_append_rd {P : Program} (w : World) {ops : Array Oper} {rest : List Oper} {o : Oper} {a : Act} {Q : Exit → Act → World → Prop} (hgd : o.guard = none) (s x : Operand) (t : TypeId)
    (ho : o.op = .call { callee := .builtin .append, args := #[s, x], argTypes := #[t, t] })
    (base : Nat) (e : TypeId) (i : TypeInfo) (z : Value) (size bytes : Nat) (ht : P.underlying t = some (.slice e)) (hi : P.info? e = some i) (hz : i.zero = some z)
    (hsize : i.size = size) (hby : i.bytes = bytes) (hzs : z.cells.size = size) (hsz : 0 < size)
    (v : Value) (n : Nat) (xs : List Value) (hs : a.eval s = v) (hown : w.ownsRow base e size v n xs)
    (vx : Value) (m : Nat) (news : List Value) (hx : a.eval x = vx) (hr : Rd w size vx m news) (h1 : ∀ u ∈ news, u.oneCell' = true)
    (h63 : n + m ≤ maxLen) (hbytes : (n + m) * bytes ≤ 140737488355328) (hbase : base ≤ w.heap.size)
    (h : ∀ v' w', w'.ownsRow base e size v' (n + m) (xs ++ news) → w.grownBy w' v.ownBlock → (v'.ownBlock = v.ownBlock ∨ v'.ownBlock = some w.heap.size) → wpList P ops Q rest (a.put o.dst v') w') :
    wpList P ops Q (o :: rest) a w := by
  obtain ⟨hl, _, hr⟩ := hr
  rcases hr with ⟨rfl, rfl⟩ | ⟨b, of, c, rfl, _, _, _, hc⟩
  · have hnews : news = [] := List.eq_nil_of_length_eq_zero (by simpa using hl)
    subst hnews
    refine wpList_plain hgd fun K hK => ?_
    have hrun := run_append_owned_none (P := P) w base t o.type e i size ht hi v n xs hown
    unfold Oper.wp execOp
    simp only [ho, resolve, invoke, builtin, Sem.run_bind, Sem.run_pure, Result.andThen_ok, List.map_toArray, List.map_cons, List.map_nil, hs, hx, hrun]
    exact hK _ _ (h v w (by simpa using hown) (World.grownBy.refl _ _) (.inl rfl))
  · exact wpList_append_own_at w hgd s x t ho base e i z size bytes ht hi hz hsize hby hzs hsz v n xs hs hown ⟨b, of, none⟩ m c news hx hl (fun j u hu => by rw [Addr.add_lit]; exact hc j u hu) h1 h63 hbytes hbase fun v' w' h2 h3 _ h4 => h v' w' h2 h3 h4

/-- Of a row of the call's own nothing turns while another block is written. -/
theorem own_only {w w' : World} {base : Nat} {e : TypeId} {k n g : Nat} {v : Value} {xs : List Value} (h : w.ownsRow base e k v n xs) (hb : Only g w w') (hne : v.ownBlock ≠ some g) : w'.ownsRow base e k v n xs :=
  h.kept hb (.inr hne)
theorem own_grew {w w' : World} {base : Nat} {e : TypeId} {k n : Nat} {v : Value} {xs : List Value} (h : w.ownsRow base e k v n xs) (hb : Grew w w') : w'.ownsRow base e k v n xs :=
  h.kept (row := none) (hb.by_ _) (by cases hv : v.ownBlock <;> simp)
theorem own_base {w : World} {base base' : Nat} {e : TypeId} {k n : Nat} {v : Value} {xs : List Value} (h : w.ownsRow base e k v n xs) (hb : base' ≤ base) : w.ownsRow base' e k v n xs := by
  obtain ⟨h1, h2⟩ := h
  refine ⟨h1, ?_⟩
  rcases h2 with h2 | ⟨g, cap, cur, h3, h4, h5⟩
  · exact .inl h2
  · exact .inr ⟨g, cap, cur, h3, by omega, h5⟩
/-- A row of the call's own is no block of another element type. -/
theorem own_ne {w : World} {base : Nat} {e e' : TypeId} {k n g : Nat} {v : Value} {xs : List Value} {cs : Array Value} (h : w.ownsRow base e k v n xs) (hg : w.heap[g]? = some (.cells cs e' (0, 0))) (hne : e ≠ e') : v.ownBlock ≠ some g := by
  rcases h.2 with ⟨rfl, _⟩ | ⟨g', cap, cur, rfl, _, hh, _⟩
  · simp [Value.ownBlock]
  · intro he
    have : g' = g := by simpa [Value.ownBlock] using he
    subst this
    rw [hh] at hg
    injection hg with hg
    injection hg with _ ht
    exact hne ht
theorem own_of_ge {w : World} {base g : Nat} {e : TypeId} {k n : Nat} {v : Value} {xs : List Value} (h : w.ownsRow base e k v n xs) (hv : v.ownBlock = some g) : base ≤ g := (h.lt g hv).1
/-- Two rows of the call's own, one newer than the other's world. -/
theorem own_new_ne {w w' : World} {base : Nat} {e e' : TypeId} {k n k' n' : Nat} {v v' : Value} {xs xs' : List Value} (h : w.ownsRow base e k v n xs) (h' : w'.ownsRow w.heap.size e' k' v' n' xs') (g : Nat) (hg : v'.ownBlock = some g) : v.ownBlock ≠ some g := by
  intro hv
  have h1 := (h.lt g hv).2
  have h2 := (h'.lt g hg).1
  omega

/-- A store into a block that is known whole. -/
theorem blk_set {w : World} {g : Nat} {t : TypeId} {cs : Array Value} (h : w.heap[g]? = some (.cells cs t (0, 0))) (i : Nat) (u : Value) : (w.setCell ⟨g, i, none⟩ u).heap[g]? = some (.cells (cs.setIfInBounds i u) t (0, 0)) := by
  simp [World.setCell, Array.getElem?_modify, h]
theorem blk_frozen {w : World} {g : Nat} {t : TypeId} {cs : Array Value} (h : w.heap[g]? = some (.cells cs t (0, 0))) (i : Nat) : w.frozen? ⟨g, i, none⟩ = false := by simp [World.frozen?, h]
theorem blk_cell {w : World} {g : Nat} {t : TypeId} {cs : Array Value} (h : w.heap[g]? = some (.cells cs t (0, 0))) (i : Nat) : w.cell? ⟨g, i, none⟩ = cs[i]? := cell_of_row w g i cs t (0, 0) h
theorem blk_lt {w : World} {g : Nat} {o : Obj} (h : w.heap[g]? = some o) : g < w.heap.size := (Array.getElem?_eq_some_iff.1 h).1
theorem blk_new (w : World) (o : Obj) : (w.alloc o).heap[w.heap.size]? = some o := heap_alloc_new w o
/-- Two cells of an array are written: the pairs below stay, the new pair stands there. -/
theorem pair_step {cur : Array Value} {F G : Nat → Value} {j : Nat} (hs : j * 2 + 1 < cur.size) (h : ∀ i, i < j → cur[i * 2]? = some (F i) ∧ cur[i * 2 + 1]? = some (G i)) :
    ∀ i, i < j + 1 → ((cur.setIfInBounds (j * 2) (F j)).setIfInBounds (j * 2 + 1) (G j))[i * 2]? = some (F i) ∧ ((cur.setIfInBounds (j * 2) (F j)).setIfInBounds (j * 2 + 1) (G j))[i * 2 + 1]? = some (G i) := by
  intro i hi
  simp only [Array.getElem?_setIfInBounds, Array.size_setIfInBounds]
  rcases Nat.lt_or_ge i j with hk | hk
  · rw [if_neg (by omega), if_neg (by omega), if_neg (by omega), if_neg (by omega)]
    exact h i hk
  · obtain rfl : i = j := by omega
    rw [if_neg (by omega), if_pos rfl, if_pos (by omega), if_pos rfl, if_pos (by omega)]
    exact ⟨rfl, rfl⟩

/-- 'append([]T(nil), make([]T, n)...)', n not 0. -/
theorem run_grow_nil {P : Program} (w : World) (t tn ty e : TypeId) (i : TypeInfo) (z : Value) (size : Nat) (ht : P.underlying t = some (.slice e)) (htn : P.underlying tn = some (.int .i64)) (hi : P.info? e = some i) (hz : i.zero = some z) (hsize : i.size = size) (hzs : z.cells.size = size) (hs : 0 < size)
    (n : Nat) (h0 : 0 < n) (hb : n * i.bytes ≤ 140737488355328) (h63 : n ≤ 4611686018427387904) :
    ∃ G cs, n ≤ G ∧ G ≤ 9223372036854775807 ∧ cs.size = G * size ∧ (Builtin.append_ #[t, tn] ty #[.slice none 0 0, .int .i64 n]).run P w = .ok (.slice (some ⟨w.heap.size, 0, none⟩) n G) (w.drew.alloc (.cells cs e)) := by
  have h := Lib.run_append_grow_zeros (P := P) w t tn ty e i z .i64 .i64 ht htn hi hz none 0 0 [] (run_firstCells_none w.drew i.size 0 0 0) n h0 (by omega) (by omega) (by omega) (by omega) (by
    have := growslice_fits (need := 0 + n) (old := 0) (bytes := i.bytes) (by omega) (by simpa using hb)
    exact this)
  simp only [Nat.zero_add] at h
  have hge := grownCap_ge w n 0 e
  have hle := grownCap_le_maxLen w n 0 e (by unfold maxLen; omega)
  unfold maxLen at hle
  refine ⟨_, _, hge, hle, ?_, h⟩
  simp only [Array.size_append, size_zeroCells, hzs, List.size_toArray, List.length_nil, Nat.zero_add, ← Nat.add_mul]
  congr 1
  omega

end Go.Proofs.YtnbnhapepcegpaaGreatDoor

/- The parser of formulas as a plain function on lists of bytes. No program is in sight. -/
namespace Go.Proofs.YtnbnhapepcegpaaGreatDoor
namespace Fm

/-- A node: its kind and its symbol. -/
abbrev Nd := Int × Int

def falsum : List Nd := [(1, 0)]
def truth : List Nd := [(4, 0), (1, 0), (1, 0)]
def vari (v : Int) : List Nd := [(0, v)]
def join (k : Int) (a b : List Nd) : List Nd := (k, 0) :: (a ++ b)
def pre (k : Int) (a : List Nd) : List Nd := (k, 0) :: a
def neg (a : List Nd) : List Nd := join 4 a falsum

/-- The state of a reader: the position and whether the byte there cannot follow. -/
abbrev St := Nat × Bool
abbrev Res := List Nd × St

/-- 'take': is the byte next? -/
def sees (s : List UInt8) (st : St) (c : UInt8) : Bool := !st.2 && (s[st.1]? == some c)
def step (st : St) : St := (st.1 + 1, st.2)
def need (s : List UInt8) (st : St) (c : UInt8) : St := if sees s st c then step st else (st.1, true)

/-- 'a = join(kind, a, sub())' as long as the byte is next. -/
def loop (s : List UInt8) (k : Int) (c : UInt8) (sub : St → Res) : Nat → List Nd → St → Res
  | 0, a, st => (a, st)
  | m + 1, a, st => if sees s st c then let r := sub (step st); loop s k c sub m (join k a r.1) r.2 else (a, st)

def andF (s : List UInt8) (m : Nat) (sub : St → Res) (st : St) : Res := let r := sub st; loop s 2 38 sub m r.1 r.2
def orF (s : List UInt8) (m : Nat) (sub : St → Res) (st : St) : Res := let r := andF s m sub st; loop s 3 124 (andF s m sub) m r.1 r.2
def impF (s : List UInt8) (m : Nat) (sub : St → Res) : Nat → St → Res
  | 0, st => orF s m sub st
  | i + 1, st => let r := orF s m sub st; if sees s r.2 62 then let q := impF s m sub i (step r.2); (join 4 r.1 q.1, q.2) else r

/-- The letter that is next, if one of 'pqrstu' is. -/
def letter (s : List UInt8) (st : St) : Option Nat := if st.2 then none else
  match s[st.1]? with
  | some c => if 112 ≤ c.toNat ∧ c.toNat ≤ 117 then some (c.toNat - 112) else none
  | none => none

def preF (s : List UInt8) (m : Nat) : Nat → St → Res
  | 0, st => (falsum, (st.1, true))
  | f + 1, st =>
    if sees s st 126 then let r := preF s m f (step st); (neg r.1, r.2)
    else if sees s st 91 then let r := preF s m f (need s (step st) 93); (pre 5 r.1, r.2)
    else if sees s st 60 then let r := preF s m f (need s (step st) 62); (pre 6 r.1, r.2)
    else if sees s st 70 then (falsum, step st)
    else if sees s st 84 then (truth, step st)
    else if sees s st 40 then let r := impF s m (preF s m f) m (step st); (r.1, need s r.2 41)
    else match letter s st with
      | some v => (vari v, step st)
      | none => (falsum, (st.1, true))

/-- The whole text: with enough fuel. -/
def parse (s : List UInt8) (m : Nat) : Res := impF s m (preF s m m) m (0, false)

end Fm
end Go.Proofs.YtnbnhapepcegpaaGreatDoor

/- Slices of nodes, as lists of pairs of numbers. -/
namespace Go.Proofs.YtnbnhapepcegpaaGreatDoor
open Go.RowKit
open Fm (Nd)

def kd (xs : List Nd) (i : Nat) : Int := (xs.getD i (0, 0)).1
def sy (xs : List Nd) (i : Nat) : Int := (xs.getD i (0, 0)).2
def cells (xs : List Nd) : List Value := xs.flatMap fun x => [.int .i64 x.1, .int .i64 x.2]

theorem cells_nil : cells [] = [] := rfl
theorem cells_cons (x : Nd) (xs : List Nd) : cells (x :: xs) = .int .i64 x.1 :: .int .i64 x.2 :: cells xs := rfl
theorem cells_append (xs ys : List Nd) : cells (xs ++ ys) = cells xs ++ cells ys := by simp [cells, List.flatMap_append]
theorem cells_length (xs : List Nd) : (cells xs).length = xs.length * 2 := by
  induction xs with
  | nil => rfl
  | cons x xs ih => rw [cells_cons]; simp [ih]; omega
theorem cells_one (xs : List Nd) : ∀ u ∈ cells xs, u.oneCell' = true := by
  intro u hu
  simp only [cells, List.mem_flatMap] at hu
  obtain ⟨x, _, hx⟩ := hu
  simp at hx
  rcases hx with rfl | rfl <;> rfl
theorem cells_at (xs : List Nd) : ∀ i, i < xs.length → (cells xs)[i * 2]? = some (.int .i64 (kd xs i)) ∧ (cells xs)[i * 2 + 1]? = some (.int .i64 (sy xs i)) := by
  induction xs with
  | nil => intro i hi; simp at hi
  | cons x xs ih =>
    intro i hi
    match i with
    | 0 => exact ⟨rfl, rfl⟩
    | i + 1 =>
      have h := ih i (by simpa using hi)
      rw [cells_cons]
      have e1 : (i + 1) * 2 = i * 2 + 1 + 1 := by omega
      rw [e1]
      simp only [List.getElem?_cons_succ]
      have k1 : kd (x :: xs) (i + 1) = kd xs i := rfl
      have k2 : sy (x :: xs) (i + 1) = sy xs i := rfl
      rw [k1, k2]
      exact h
theorem cells_ext {cs : List Value} {xs : List Nd} (hl : cs.length = xs.length * 2) (h : ∀ i, i < xs.length → cs[i * 2]? = some (.int .i64 (kd xs i)) ∧ cs[i * 2 + 1]? = some (.int .i64 (sy xs i))) : cs = cells xs := by
  apply List.ext_getElem? 
  intro j
  by_cases hj : j < xs.length * 2
  · have hd := Nat.div_add_mod j 2
    have hi : j / 2 < xs.length := by omega
    have h1 := h (j / 2) hi
    have h2 := cells_at xs (j / 2) hi
    rcases Nat.mod_two_eq_zero_or_one j with hm | hm
    · have e : j = j / 2 * 2 := by omega
      rw [e, h1.1, h2.1]
    · have e : j = j / 2 * 2 + 1 := by omega
      rw [e, h1.2, h2.2]
  · rw [List.getElem?_eq_none (by omega), List.getElem?_eq_none (by rw [cells_length]; omega)]
theorem kd_lt {xs : List Nd} {i : Nat} (h : i < xs.length) : xs[i] = (kd xs i, sy xs i) := by
  simp [kd, sy, List.getD, h]
theorem nd_ext {xs ys : List Nd} (hl : xs.length = ys.length) (h : ∀ i, i < xs.length → kd xs i = kd ys i ∧ sy xs i = sy ys i) : xs = ys := by
  apply List.ext_getElem hl
  intro i h1 h2
  rw [kd_lt h1, kd_lt h2, (h i h1).1, (h i h1).2]

/-- The value reads as the list. -/
def Nodes (w : World) (v : Value) (xs : List Nd) : Prop := Rd w 2 v xs.length (cells xs)
/-- The value is a row of the call's own, newer than block B, that holds the list. -/
def Own (w : World) (B : Nat) (v : Value) (xs : List Nd) : Prop := w.ownsRow B 68 2 v xs.length (cells xs)

theorem Nodes.grew {w w' : World} {v : Value} {xs : List Nd} (h : Nodes w v xs) (hb : Grew w w') : Nodes w' v xs := Rd.grew h hb
theorem Nodes.nil_ (w : World) : Nodes w (.slice none 0 0) [] := Rd.nil_ w 2
theorem Own.nodes {w : World} {B : Nat} {v : Value} {xs : List Nd} (h : Own w B v xs) : Nodes w v xs := Rd.of_own h
theorem Own.nil_ (w : World) (B : Nat) : Own w B (.slice none 0 0) [] := World.ownsRow_nil w B _ 2
theorem Own.grew {w w' : World} {B : Nat} {v : Value} {xs : List Nd} (h : Own w B v xs) (hb : Grew w w') : Own w' B v xs := own_grew h hb
theorem Own.only {w w' : World} {B g : Nat} {v : Value} {xs : List Nd} (h : Own w B v xs) (hb : Only g w w') (hne : v.ownBlock ≠ some g) : Own w' B v xs := own_only h hb hne
theorem Own.base {w : World} {B B' : Nat} {v : Value} {xs : List Nd} (h : Own w B v xs) (hb : B' ≤ B) : Own w B' v xs := own_base h hb

theorem Nodes.open_ {w : World} {v : Value} {xs : List Nd} (h : Nodes w v xs) :
    (v = .slice none 0 0 ∧ xs = []) ∨ ∃ b o c, v = .slice (some ⟨b, o, none⟩) xs.length c ∧ xs.length ≤ c ∧ c ≤ 9223372036854775807 ∧ b < w.heap.size ∧
      ∀ i, i < xs.length → ∀ W, Grew w W → W.cell? ⟨b, o + i * 2, none⟩ = some (.int .i64 (kd xs i)) ∧ W.cell? ⟨b, o + i * 2 + 1, none⟩ = some (.int .i64 (sy xs i)) := by
  obtain ⟨_, _, h3⟩ := h
  rcases h3 with ⟨h4, h5⟩ | ⟨b, o, c, h4, h5, h6, h7, h8⟩
  · exact .inl ⟨h4, List.eq_nil_of_length_eq_zero h5⟩
  · refine .inr ⟨b, o, c, h4, h5, h6, h7, fun i hi W hW => ?_⟩
    obtain ⟨k1, k2⟩ := cells_at xs i hi
    exact ⟨(hW.cell (p := ⟨b, o + i * 2, none⟩) h7).trans (h8 _ _ k1), (hW.cell (p := ⟨b, o + i * 2 + 1, none⟩) h7).trans (h8 _ _ k2)⟩
theorem Nodes.len_le {w : World} {v : Value} {xs : List Nd} (h : Nodes w v xs) : xs.length ≤ 9223372036854775807 := h.2.1

/-- A row of the call's own, opened: its block. -/
theorem Own.open_ {w : World} {B : Nat} {v : Value} {xs : List Nd} (h : Own w B v xs) :
    (v = .slice none 0 0 ∧ xs = []) ∨ ∃ g c cur, v = .slice (some ⟨g, 0, none⟩) xs.length c ∧ B ≤ g ∧ g < w.heap.size ∧ w.heap[g]? = some (.cells cur 68 (0, 0)) ∧ xs.length ≤ c ∧ c ≤ 9223372036854775807 ∧ cur.size = c * 2 ∧
      ∀ i, i < xs.length → cur[i * 2]? = some (.int .i64 (kd xs i)) ∧ cur[i * 2 + 1]? = some (.int .i64 (sy xs i)) := by
  obtain ⟨_, h2⟩ := h
  rcases h2 with ⟨rfl, h5⟩ | ⟨g, cap, cur, rfl, hb, hg, hnc, hcm, hcs, ht⟩
  · exact .inl ⟨rfl, List.eq_nil_of_length_eq_zero h5⟩
  · refine .inr ⟨g, cap, cur, rfl, hb, (Array.getElem?_eq_some_iff.1 hg).1, hg, hnc, hcm, hcs, fun i hi => ?_⟩
    obtain ⟨k1, k2⟩ := cells_at xs i hi
    rw [← ht, List.getElem?_take] at k1 k2
    rw [if_pos (by omega)] at k1 k2
    exact ⟨by simpa using k1, by simpa using k2⟩
theorem Own.mk_ {w : World} {B : Nat} {xs : List Nd} {g c : Nat} {cur : Array Value} (hB : B ≤ g) (hg : w.heap[g]? = some (.cells cur 68 (0, 0))) (hnc : xs.length ≤ c) (hcm : c ≤ 9223372036854775807) (hcs : cur.size = c * 2)
    (hc : ∀ i, i < xs.length → cur[i * 2]? = some (.int .i64 (kd xs i)) ∧ cur[i * 2 + 1]? = some (.int .i64 (sy xs i))) : Own w B (.slice (some ⟨g, 0, none⟩) xs.length c) xs := by
  refine ⟨cells_length xs, .inr ⟨g, c, cur, rfl, hB, hg, hnc, hcm, hcs, cells_ext (by simp; omega) fun i hi => ?_⟩⟩
  rw [List.getElem?_take, List.getElem?_take, if_pos (by omega), if_pos (by omega)]
  obtain ⟨k1, k2⟩ := hc i hi
  exact ⟨by simpa using k1, by simpa using k2⟩
/-- A literal of nodes in a new block. -/
theorem Own.lit (w : World) (B : Nat) (xs : List Nd) (cs : Array Value) (hB : B ≤ w.heap.size) (hn : xs.length ≤ 9223372036854775807) (hc : cs.toList = cells xs) :
    Own (w.alloc (.cells cs 68)) B (.slice (some ⟨w.heap.size, 0, none⟩) xs.length xs.length) xs := by
  have hl : cs.size = xs.length * 2 := by rw [← Array.length_toList, hc, cells_length]
  have h := World.ownsRow_lit (e := 68) (size := 2) w cs xs.length hB hn hl
  rw [hc] at h
  exact h

theorem Tryz.infoNd : (Tryz.prog.info? 68).map (fun i => (i.zero, i.size, i.bytes)) = some (some (.agg #[.int .i64 0, .int .i64 0]), 2, 16) := by kernel_rfl

theorem nodes_slice {w : World} {v : Value} {xs : List Nd} (h : Nodes w v xs) : ∃ A c, v = .slice A xs.length c := by
  rcases h.open_ with ⟨rfl, rfl⟩ | ⟨b, o, c, rfl, _⟩
  · exact ⟨_, _, rfl⟩
  · exact ⟨_, _, rfl⟩

/-- Two nodes, compared. -/
theorem Tryz.ndGuard : Tryz.prog.eqGuardType Tryz.prog.depth 68 = false := by kernel_rfl
theorem Tryz.ndEq (a b c d : Int) (w : World) : (Op.equalIn 10000 68 (.agg #[.int .i64 a, .int .i64 b]) (.agg #[.int .i64 c, .int .i64 d])).run Tryz.prog w = .ok (a == c && b == d) w := by
  have u2 := Tryz.underlying2
  have hS : Tryz.prog.underlying 68 = some (.struct (Tryz.prog.fieldsOf 68)) := by kernel_rfl
  have hp : Tryz.prog.stoodInHeld 68 = false := by kernel_rfl
  rw [show (10000 : Nat) = 9999 + 1 from rfl, run_equalIn_agg w 9999 68 _ _ hS hp]
  simp only [Program.fieldsOf, Tryz.underlying68]
  go_simp
  by_cases h1 : a = c <;> by_cases h2 : b = d <;> simp [h1, h2]
theorem Tryz.ndNeq (a b c d : Int) (w : World) : (binOp .neq 68 (.agg #[.int .i64 a, .int .i64 b]) (.agg #[.int .i64 c, .int .i64 d])).run Tryz.prog w = .ok (.bool (!(a == c && b == d))) w := by
  rw [run_neq_struct, Tryz.ndEq]; rfl

theorem big2 {n m : Nat} (h : n + m ≤ 1099511627776) : n + m ≤ maxLen ∧ (n + m) * 16 ≤ 140737488355328 := by
  unfold maxLen; omega

/-- 'out = append(out, xs...)', out a row of the call's own. -/
theorem wpList_app {ops : Array Oper} {rest : List Oper} {o : Oper} {a : Act} {Q : Exit → Act → World → Prop} {w w0 : World} (s x : Operand) (hgd : o.guard = none)
    (ho : o.op = .call { callee := .builtin .append, args := #[s, x], argTypes := #[35, 35] })
    (v : Value) (xs : List Nd) (hs : a.eval s = v) (hown : Own w w0.heap.size v xs) (hg : Grew w0 w) (vx : Value) (ys : List Nd) (hx : a.eval x = vx) (hr : Nodes w vx ys) (hn : xs.length + ys.length ≤ 1099511627776)
    (h : ∀ v' w', Own w' w0.heap.size v' (xs ++ ys) → Grew w0 w' → w.grownBy w' v.ownBlock → wpList Tryz.prog ops Q rest (a.put o.dst v') w') : wpList Tryz.prog ops Q (o :: rest) a w := by
  obtain ⟨i0, hi0, hz0, hz1, hz2⟩ := info_parts Tryz.infoNd
  refine wpList_append_rd w hgd s x _ ho w0.heap.size 68 i0 _ 2 16 Tryz.underlying35 hi0 hz0 hz1 hz2 rfl (by omega) v xs.length (cells xs) hs hown vx ys.length (cells ys) hx hr (cells_one ys) (big2 hn).1 (big2 hn).2 hg.size ?_
  intro v' w' h1 h2 h3
  refine h v' w' ?_ (hg.grown h2 fun k hk => (hown.lt k hk).1) h2
  unfold Own
  rw [cells_append, List.length_append]
  exact h1

end Go.Proofs.YtnbnhapepcegpaaGreatDoor

/- Slices of int64 in memory, and the laws' own helpers on them. -/
namespace Go.Proofs.YtnbnhapepcegpaaGreatDoor
open Go.RowKit

def it (L : List Int) (i : Nat) : Int := L.getD i 0
def icells (L : List Int) : List Value := L.map (Value.int .i64)
theorem icells_length (L : List Int) : (icells L).length = L.length * 1 := by simp [icells]
theorem icells_one (L : List Int) : ∀ u ∈ icells L, u.oneCell' = true := by
  intro u hu
  simp only [icells, List.mem_map] at hu
  obtain ⟨s, _, rfl⟩ := hu
  rfl
theorem icells_at {L : List Int} {i : Nat} (h : i < L.length) : (icells L)[i]? = some (.int .i64 (it L i)) := by simp [icells, it, List.getD, h]
theorem icells_append (K L : List Int) : icells (K ++ L) = icells K ++ icells L := by simp [icells]
theorem it_get {L : List Int} {i : Nat} (h : i < L.length) : L[i] = it L i := by simp [it, List.getD, h]
theorem it_ext {K L : List Int} (hl : K.length = L.length) (h : ∀ i, i < K.length → it K i = it L i) : K = L := by
  apply List.ext_getElem hl
  intro i h1 h2
  rw [it_get h1, it_get h2]
  exact h i h1

/-- v reads as the list. -/
def Ints (w : World) (v : Value) (L : List Int) : Prop := Rd w 1 v L.length (icells L)
/-- v is a row of the call's own. -/
def OwnI (w : World) (B : Nat) (v : Value) (L : List Int) : Prop := w.ownsRow B 2 1 v L.length (icells L)
theorem Ints.grew {w w' : World} {v : Value} {L : List Int} (h : Ints w v L) (hb : Grew w w') : Ints w' v L := Rd.grew h hb
theorem Ints.nil_ (w : World) : Ints w (.slice none 0 0) [] := Rd.nil_ w 1
theorem OwnI.ints {w : World} {B : Nat} {v : Value} {L : List Int} (h : OwnI w B v L) : Ints w v L := Rd.of_own h
theorem OwnI.nil_ (w : World) (B : Nat) : OwnI w B (.slice none 0 0) [] := World.ownsRow_nil w B _ 1
theorem OwnI.grew {w w' : World} {B : Nat} {v : Value} {L : List Int} (h : OwnI w B v L) (hb : Grew w w') : OwnI w' B v L := own_grew h hb
theorem OwnI.base {w : World} {B B' : Nat} {v : Value} {L : List Int} (h : OwnI w B v L) (hb : B' ≤ B) : OwnI w B' v L := own_base h hb
theorem Ints.open_ {w : World} {v : Value} {L : List Int} (h : Ints w v L) :
    (v = .slice none 0 0 ∧ L = []) ∨ ∃ b o c, v = .slice (some ⟨b, o, none⟩) L.length c ∧ L.length ≤ c ∧ c ≤ 9223372036854775807 ∧ b < w.heap.size ∧
      ∀ i, i < L.length → ∀ W, Grew w W → W.cell? ⟨b, o + i, none⟩ = some (.int .i64 (it L i)) := by
  obtain ⟨_, _, h3⟩ := h
  rcases h3 with ⟨h4, h5⟩ | ⟨b, o, c, h4, h5, h6, h7, h8⟩
  · exact .inl ⟨h4, List.eq_nil_of_length_eq_zero h5⟩
  · exact .inr ⟨b, o, c, h4, h5, h6, h7, fun i hi W hW => (hW.cell (p := ⟨b, o + i, none⟩) h7).trans (h8 _ _ (icells_at hi))⟩
theorem ints_slice {w : World} {v : Value} {L : List Int} (h : Ints w v L) : ∃ A c, v = .slice A L.length c := by
  rcases h.open_ with ⟨rfl, rfl⟩ | ⟨b, o, c, rfl, _⟩
  · exact ⟨_, _, rfl⟩
  · exact ⟨_, _, rfl⟩
theorem OwnI.mk_ {w : World} {B : Nat} {L : List Int} {g c : Nat} {cur : Array Value} (hB : B ≤ g) (hg : w.heap[g]? = some (.cells cur 2 (0, 0))) (hnc : L.length ≤ c) (hcm : c ≤ 9223372036854775807) (hcs : cur.size = c)
    (hc : ∀ i, i < L.length → cur[i]? = some (.int .i64 (it L i))) : OwnI w B (.slice (some ⟨g, 0, none⟩) L.length c) L := by
  refine ⟨icells_length L, .inr ⟨g, c, cur, rfl, hB, hg, hnc, hcm, by omega, ?_⟩⟩
  apply List.ext_getElem?
  intro j
  rw [List.getElem?_take]
  by_cases hj : j < L.length
  · rw [if_pos (by omega), icells_at hj]
    simpa using hc j hj
  · rw [if_neg (by omega), List.getElem?_eq_none (by rw [icells_length]; omega)]
theorem Tryz.infoI : (Tryz.prog.info? 2).map (fun i => (i.zero, i.size, i.bytes)) = some (some (.int .i64 0), 1, 8) := by kernel_rfl
/-- The call returns a new list of numbers. -/
def GivesI (w : World) (L : List Int) (e : Ending) (w' : World) : Prop := ∃ v, e = .returned v ∧ OwnI w' w.heap.size v L ∧ Grew w w'

theorem one_stepI {cur : Array Value} {F : Nat → Value} {j : Nat} (hs : j < cur.size) (h : ∀ i, i < j → cur[i]? = some (F i)) :
    ∀ i, i < j + 1 → (cur.setIfInBounds j (F j))[i]? = some (F i) := by
  intro i hi
  simp only [Array.getElem?_setIfInBounds]
  rcases Nat.lt_or_ge i j with hk | hk
  · rw [if_neg (by omega)]
    exact h i hk
  · obtain rfl : i = j := by omega
    rw [if_pos rfl, if_pos hs]
end Go.Proofs.YtnbnhapepcegpaaGreatDoor

/- Appends of numbers. -/
namespace Go.Proofs.YtnbnhapepcegpaaGreatDoor
open Go.RowKit

/-- 'out = append(out, x)' onto a row of numbers of the call's own. -/
theorem wpList_appI {ops : Array Oper} {rest : List Oper} {o : Oper} {a : Act} {Q : Exit → Act → World → Prop} {w w0 : World} (s x : Operand) (hgd : o.guard = none)
    (ho : o.op = .call { callee := .builtin .append, args := #[s, x], argTypes := #[69, 69] })
    (v : Value) (L : List Int) (hs : a.eval s = v) (hown : OwnI w w0.heap.size v L) (hg : Grew w0 w) (vx : Value) (k : Int) (hx : a.eval x = vx) (hr : Rd w 1 vx 1 [.int .i64 k]) (hn : L.length ≤ 1048576)
    (h : ∀ v' w', OwnI w' w0.heap.size v' (L ++ [k]) → Grew w0 w' → w.grownBy w' v.ownBlock → wpList Tryz.prog ops Q rest (a.put o.dst v') w') : wpList Tryz.prog ops Q (o :: rest) a w := by
  obtain ⟨i0, hi0, hz0, hz1, hz2⟩ := info_parts Tryz.infoI
  refine wpList_append_rd w hgd s x _ ho w0.heap.size 2 i0 _ 1 8 Tryz.underlying69 hi0 hz0 hz1 hz2 rfl (by omega) v L.length (icells L) hs hown vx 1 [.int .i64 k] hx hr (by simp [Value.oneCell']) (by unfold maxLen; omega) (by omega) hg.size ?_
  intro v' w' h1 h2 h3
  refine h v' w' ?_ (hg.grown h2 fun k hk => (hown.lt k hk).1) h2
  unfold OwnI
  rw [List.length_append, icells_append]
  exact h1
theorem rd_litI (w : World) (k : Int) (t : TypeId) : Rd (w.alloc (.cells #[.int .i64 k] t)) 1 (.slice (some ⟨w.heap.size, 0, none⟩) 1 1) 1 [.int .i64 k] := by
  refine ⟨rfl, by omega, .inr ⟨w.heap.size, 0, 1, rfl, by omega, by omega, by simp, fun j x hx => ?_⟩⟩
  have hj : j = 0 := by
    have := (List.getElem?_eq_some_iff.1 hx).1
    simp at this
    omega
  subst hj
  simp at hx
  subst hx
  simp
theorem own_emptyI (w : World) : OwnI (w.alloc (.cells #[] 2)) w.heap.size (.slice (some ⟨w.heap.size, 0, none⟩) 0 0) [] :=
  World.ownsRow_lit (e := 2) (size := 1) w #[] 0 (Nat.le_refl _) (by omega) rfl
end Go.Proofs.YtnbnhapepcegpaaGreatDoor

/- The smallest formulas, and the formulas of a kind: the program's and the reference's makers. -/
namespace Go.Proofs.YtnbnhapepcegpaaGreatDoor
open Go.RowKit
open Fm (Nd)

/-- The call returns a new list of nodes and changes nothing that was there. -/
def Gives (w : World) (xs : List Nd) (e : Ending) (w' : World) : Prop := ∃ v, e = .returned v ∧ Own w' w.heap.size v xs ∧ Grew w w'

/-- A new block that holds one node. -/
theorem Own.one (w : World) (B : Nat) (k s : Int) (hB : B ≤ w.heap.size) : Own (w.alloc (.cells #[.int .i64 k, .int .i64 s] 68)) B (.slice (some ⟨w.heap.size, 0, none⟩) 1 1) [(k, s)] :=
  Own.lit w B [(k, s)] #[.int .i64 k, .int .i64 s] hB (by simp) rfl

theorem l02Pair_c (k : Int) (va vb : Value) (xs ys : List Nd) (w : World) (ha : Nodes w va xs) (hb : Nodes w vb ys) (hn : xs.length + ys.length ≤ 1099511627775) :
    Calls Tryz.prog 50 #[.int .i64 k, va, vb] w (Gives w (Fm.join k xs ys)) := by
  go_enter Tryz.func50, Tryz.ntmps50
  go_wp2_with (first
    | (at_builtin; refine wpList_app (w0 := w) (.tmp 9) (.tmp 10) rfl rfl _ [(k, 0)] rfl (Own.one w _ k 0 (Nat.le_refl _)) ((Grew.refl w).alloc _) va xs rfl (ha.grew ((Grew.refl w).alloc _)) (by simp; omega) ?_; intro v1 w1 hown1 hg1 _)
    | (at_builtin; refine wpList_app (w0 := w) (.tmp 11) (.tmp 12) rfl rfl _ _ rfl hown1 hg1 vb ys rfl (hb.grew hg1) (by simp; omega) ?_; intro v2 w2 hown2 hg2 _))
  go_ret
  exact ⟨_, rfl, by simpa [Fm.join] using hown2, hg2⟩
theorem l02Pre_c (k : Int) (va : Value) (xs : List Nd) (w : World) (ha : Nodes w va xs) (hn : xs.length ≤ 1099511627775) :
    Calls Tryz.prog 51 #[.int .i64 k, va] w (Gives w (Fm.pre k xs)) := by
  go_enter Tryz.func51, Tryz.ntmps51
  go_wp2_with (first
    | (at_builtin; refine wpList_app (w0 := w) _ _ rfl rfl _ [(k, 0)] rfl (Own.one w _ k 0 (Nat.le_refl _)) ((Grew.refl w).alloc _) va xs rfl (ha.grew ((Grew.refl w).alloc _)) (by simp; omega) ?_; intro v1 w1 hown1 hg1 _))
  go_ret
  exact ⟨_, rfl, by simpa [Fm.pre] using hown1, hg1⟩

theorem l02False_c (w : World) : Calls Tryz.prog 130 #[] w (Gives w Fm.falsum) := by
  have h := Own.one w _ 1 0 (Nat.le_refl _)
  go_enter Tryz.func130, Tryz.ntmps130
  go_wp2_with fail
  go_ret
  exact ⟨_, rfl, h, (Grew.refl w).alloc _⟩

theorem l02Var_c (v : Int) (w : World) : Calls Tryz.prog 106 #[.int .i64 v] w (Gives w (Fm.vari v)) := by
  have h := Own.one w _ 0 v (Nat.le_refl _)
  go_enter Tryz.func106, Tryz.ntmps106
  go_wp2_with fail
  go_ret
  exact ⟨_, rfl, h, (Grew.refl w).alloc _⟩

theorem l02Not_c (va : Value) (xs : List Nd) (w : World) (ha : Nodes w va xs) (hn : xs.length ≤ 1099511627774) :
    Calls Tryz.prog 129 #[va] w (Gives w (Fm.neg xs)) := by
  go_enter Tryz.func129, Tryz.ntmps129
  go_wp2_with fail
  refine (l02False_c _).mono ?_
  rintro e w1 ⟨v1, rfl, ho1, hg1⟩
  go_wp2_with fail
  refine (l02Pair_c _ _ _ xs Fm.falsum _ (ha.grew hg1) ho1.nodes (by simp [Fm.falsum]; omega)).mono ?_
  rintro e w2 ⟨v2, rfl, ho2, hg2⟩
  go_wp2_with fail
  go_ret
  exact ⟨_, rfl, ho2.base hg1.size, hg1.trans hg2⟩

theorem l02True_c (w : World) : Calls Tryz.prog 125 #[] w (Gives w Fm.truth) := by
  go_enter Tryz.func125, Tryz.ntmps125
  go_wp2_with fail
  refine (l02False_c _).mono ?_
  rintro e w1 ⟨v1, rfl, ho1, hg1⟩
  go_wp2_with fail
  refine (l02Not_c _ Fm.falsum _ ho1.nodes (by simp [Fm.falsum])).mono ?_
  rintro e w2 ⟨v2, rfl, ho2, hg2⟩
  go_wp2_with fail
  go_ret
  exact ⟨_, rfl, ho2.base hg1.size, hg1.trans hg2⟩

theorem falsum_c (w : World) : Calls Tryz.prog 141 #[] w (Gives w Fm.falsum) := by
  have h := Own.one w _ 1 0 (Nat.le_refl _)
  go_enter Tryz.func141, Tryz.ntmps141
  go_wp2_with fail
  go_ret
  exact ⟨_, rfl, h, (Grew.refl w).alloc _⟩

theorem truth_c (w : World) : Calls Tryz.prog 142 #[] w (Gives w Fm.truth) := by
  have h := Own.lit w w.heap.size Fm.truth #[.int .i64 4, .int .i64 0, .int .i64 1, .int .i64 0, .int .i64 1, .int .i64 0] (Nat.le_refl _) (by simp [Fm.truth]) rfl
  go_enter Tryz.func142, Tryz.ntmps142
  go_wp2_with fail
  go_ret
  exact ⟨_, rfl, h, (Grew.refl w).alloc _⟩

theorem variable_c (v : Int) (w : World) : Calls Tryz.prog 110 #[.int .i64 v] w (Gives w (Fm.vari v)) := by
  have h := Own.one w _ 0 v (Nat.le_refl _)
  go_enter Tryz.func110, Tryz.ntmps110
  go_wp2_with fail
  go_ret
  exact ⟨_, rfl, h, (Grew.refl w).alloc _⟩

theorem grow_c (n : Nat) (w : World) (hn : n ≤ 1099511627776) :
    Calls Tryz.prog 94 #[.slice none 0 0, .int .i64 n] w (Gives w []) := by
  obtain ⟨i0, hi0, hz0, hz1, hz2⟩ := info_parts Tryz.infoNd
  rcases Nat.eq_zero_or_pos n with rfl | h0
  · go_enter Tryz.func94, Tryz.ntmps94
    go_wp2_with fail
    go_ret
    exact ⟨_, rfl, Own.nil_ _ _, Grew.refl _⟩
  · have hr := fun ty => run_grow_nil (P := Tryz.prog) w 35 3 ty 68 i0 _ 2 Tryz.underlying35 Tryz.underlying3 hi0 hz0 hz1 rfl (by omega) n h0 (by rw [hz2]; omega) (by omega)
    have HR := Lib.hid hr
    clear hr hz0 hz1 hz2 hi0
    go_enter Tryz.func94, Tryz.ntmps94
    go_wp2_with (at_builtin; obtain ⟨G, cs, hG1, hG2, hcs, hrun⟩ := HR.out _; refine Lib.wpList_append_run _ rfl _ _ _ _ rfl _ _ rfl rfl _ _ hrun ?_; have HC := Lib.hid hcs; clear hcs hrun)
    go_ret
    refine ⟨_, rfl, ?_, ((Grew.refl w).alloc _).drew⟩
    exact Own.mk_ (xs := []) (Nat.le_refl _) (blk_new w _) (by simp) hG2 HC.out (by simp)

/-- A slice of k slices of nodes that lies in memory: the j-th reads as L[j]. -/
def Lists (w : World) (v : Value) (L : List (List Nd)) : Prop :=
  (v = .slice none 0 0 ∧ L = []) ∨ ∃ b o c, v = .slice (some ⟨b, o, none⟩) L.length c ∧ L.length ≤ c ∧ c ≤ 9223372036854775807 ∧ b < w.heap.size ∧
    ∀ i, i < L.length → ∃ u, w.cell? ⟨b, o + i, none⟩ = some u ∧ Nodes w u (L.getD i [])
theorem Lists.grew {w w' : World} {v : Value} {L : List (List Nd)} (h : Lists w v L) (hb : Grew w w') : Lists w' v L := by
  rcases h with h | ⟨b, o, c, h1, h2, h3, h4, h5⟩
  · exact .inl h
  · refine .inr ⟨b, o, c, h1, h2, h3, Nat.lt_of_lt_of_le h4 hb.size, fun i hi => ?_⟩
    obtain ⟨u, h6, h7⟩ := h5 i hi
    exact ⟨u, (hb.cell (p := ⟨b, o + i, none⟩) h4).trans h6, h7.grew hb⟩
/-- How many nodes the first k lists have. -/
def total (L : List (List Nd)) (k : Nat) : Nat := ((L.take k).flatten).length
theorem total_zero (L : List (List Nd)) : total L 0 = 0 := by unfold total; rw [List.take_zero]; rfl
theorem total_succ {L : List (List Nd)} {k : Nat} (h : k < L.length) : total L (k + 1) = total L k + (L.getD k []).length := by
  unfold total
  rw [List.take_succ_eq_append_getElem h, List.flatten_append, List.length_append]
  simp [List.getD, h]
theorem total_mono {L : List (List Nd)} {k : Nat} : total L k ≤ L.flatten.length := by
  rw [total]
  have : L.flatten = (L.take k).flatten ++ (L.drop k).flatten := by rw [← List.flatten_append, List.take_append_drop]
  rw [this, List.length_append]
  omega
theorem concat_c (v : Value) (L : List (List Nd)) (w : World) (hL : Lists w v L) (hk : L.length ≤ 1099511627776) (hn : L.flatten.length ≤ 1099511627776) :
    Calls Tryz.prog 80 #[v] w (Gives w L.flatten) := by
  have hfull : total L L.length = L.flatten.length := by unfold total; rw [List.take_length]
  rcases hL with ⟨rfl, rfl⟩ | ⟨b, o, c, rfl, hc, hm, hb, hcell⟩
  · go_enter Tryz.func80, Tryz.ntmps80
    go_wp2_with fail
    refine wp_loop_rounds 1 ?_; rw [rounds_succ]
    go_wp2_with fail
    refine (grow_c 0 _ (by omega)).mono ?_
    rintro e w1 ⟨v1, rfl, ho1, hg1⟩
    go_wp2_with fail
    refine wp_loop_rounds 1 ?_; rw [rounds_succ]
    go_wp2_with fail
    go_ret
    exact ⟨_, rfl, ho1, hg1⟩
  · have HF := Lib.hid hfull
    have HC := Lib.hid hcell
    have HN := Lib.hid hn
    clear hfull hcell hn
    generalize hK : L.length = K at *
    have HK := Lib.hid hK
    clear hK
    go_enter Tryz.func80, Tryz.ntmps80
    go_wp2_with fail
    go_loopw [3, 5, 11] (fun n _ i wr => ∃ j : Nat, j ≤ K ∧ i = .int .i64 j ∧ n = .int .i64 (total L j) ∧ Grew w wr) (fun _ _ i _ => K - (intOf i).toNat)
    case atStart => exact ⟨0, Nat.zero_le _, rfl, by simp [total_zero], Grew.refl _⟩
    case round =>
      obtain ⟨j, hj, rfl, rfl, hB⟩ := hrel
      by_cases hlt : j < K
      · have hltL : j < L.length := by rw [HK.out]; exact hlt
        obtain ⟨u, hu1, hu2⟩ := HC.out j hlt
        have hs : total L (j + 1) = total L j + (L.getD j []).length := total_succ hltL
        have hle : total L (j + 1) ≤ 1099511627776 := Nat.le_trans total_mono HN.out
        generalize L.getD j [] = X at *
        obtain ⟨A, cc, rfl⟩ := nodes_slice hu2
        have k1 : ∀ W, Grew w W → W.cell? ⟨b, o + j, none⟩ = some (.slice A X.length cc) := fun W hW => (hW.cell (p := ⟨b, o + j, none⟩) hb).trans hu1
        rw [hs] at hle
        have HS := Lib.hid hs
        clear hs hu1 hu2
        go_wp2_with fail
        go_roundw
        case rel => exact ⟨j + 1, by omega, by go_num, by rw [HS.out]; go_num, by assumption⟩
        case measure => simp [intOf]; omega
      · have hjK : j = K := by omega
        subst hjK
        go_wp2_with fail
        refine (grow_c (total L j) _ (by rw [HF.out]; exact HN.out)).mono ?_
        rintro e w1 ⟨v1, rfl, ho1, hg1⟩
        have hg1' := hB.trans hg1
        have ho1' := ho1.base hB.size
        clear ho1 hg1 hlt
        go_wp2_with fail
        go_loopw [6, 8, 27] (fun v _ i wx => ∃ n : Nat, n ≤ j ∧ i = .int .i64 n ∧ Own wx w.heap.size v (L.take n).flatten ∧ Grew w wx) (fun _ _ i _ => j - (intOf i).toNat)
        case atStart => exact ⟨0, Nat.zero_le _, rfl, by simpa using ho1', hg1'⟩
        case round =>
          obtain ⟨n, hn, rfl, hown, hG⟩ := hrel
          by_cases hlt : n < j
          · have hltL : n < L.length := by rw [HK.out]; exact hlt
            obtain ⟨u, hu1, hu2⟩ := HC.out n hlt
            have hs : total L (n + 1) = total L n + (L.getD n []).length := total_succ hltL
            have hle : total L (n + 1) ≤ 1099511627776 := Nat.le_trans total_mono HN.out
            have hfl : (L.take (n + 1)).flatten = (L.take n).flatten ++ L.getD n [] := by
              rw [List.take_succ_eq_append_getElem hltL, List.flatten_append]
              simp [List.getD, hltL]
            have htl : (L.take n).flatten.length = total L n := rfl
            generalize L.getD n [] = X at *
            have k1 : ∀ W, Grew w W → W.cell? ⟨b, o + n, none⟩ = some u := fun W hW => (hW.cell (p := ⟨b, o + n, none⟩) hb).trans hu1
            have hbd : (L.take n).flatten.length + X.length ≤ 1099511627776 := by rw [htl, ← hs]; exact hle
            have HFL := Lib.hid hfl
            generalize (L.take n).flatten = Y at *
            clear hs hu1 htl hle hfl
            obtain ⟨A, cc, rfl⟩ := nodes_slice hu2
            go_wp2_with (first
              | (at_builtin; refine wpList_app (w0 := w) _ _ rfl rfl _ Y rfl hown hG _ X rfl (hu2.grew hG) hbd ?_; intro v2 w2 hown2 hg2 _))
            go_roundw
            case rel => exact ⟨n + 1, by omega, by go_num, by rw [HFL.out]; assumption, by assumption⟩
            case measure => simp [intOf]; omega
          · have hnj : n = j := by omega
            subst hnj
            have hfl : (L.take n).flatten = L.flatten := by rw [← HK.out, List.take_length]
            rw [hfl] at hown
            clear hfl
            go_wp2_with fail
            go_ret
            exact ⟨_, rfl, hown, hG⟩
end Go.Proofs.YtnbnhapepcegpaaGreatDoor

/- The schemes of a system: schemesOf of the program, l13Schemes of the reference. -/
namespace Go.Proofs.YtnbnhapepcegpaaGreatDoor
open Go.RowKit

/-- The first n numbers. -/
def rng (n : Nat) : List Int := (List.range n).map fun i : Nat => (i : Int)
theorem rng_succ (n : Nat) : rng (n + 1) = rng n ++ [(n : Int)] := by unfold rng; rw [List.range_succ, List.map_append]; rfl
theorem rng_zero : rng 0 = [] := rfl
theorem rng_len (n : Nat) : (rng n).length = n := by simp [rng]
theorem rng_mem (n : Nat) (x : Int) : x ∈ rng n ↔ 0 ≤ x ∧ x < n := by
  unfold rng
  rw [List.mem_map]
  constructor
  · rintro ⟨i, hi, rfl⟩
    rw [List.mem_range] at hi
    omega
  · rintro ⟨h0, h1⟩
    exact ⟨x.toNat, by rw [List.mem_range]; omega, by omega⟩
/-- The schemes of a system, or none. -/
def sysL (s : ByteArray) : Option (List Int) :=
  if (s.toList == [73, 110, 116]) then some (rng 9 ++ []) else
  if (s.toList == [67, 76]) then some (rng 10 ++ []) else
  if (s.toList == [75]) then some (rng 13 ++ []) else
  if (s.toList == [68]) then some (rng 13 ++ [17]) else
  if (s.toList == [84]) then some (rng 13 ++ [13]) else
  if (s.toList == [75, 52]) then some (rng 13 ++ [14]) else
  if (s.toList == [83, 52]) then some (rng 13 ++ [13, 14]) else
  if (s.toList == [83, 53]) then some (rng 13 ++ [13, 15]) else
  if (s.toList == [75, 66]) then some (rng 13 ++ [16]) else
  if (s.toList == [71, 76]) then some (rng 13 ++ [18]) else
  none
theorem sysL_mem {s : ByteArray} {L : List Int} (h : sysL s = some L) : 0 < L.length ∧ L.length ≤ 15 ∧ ∀ x ∈ L, 0 ≤ x ∧ x < 19 := by
  have key : ∀ (n : Nat) (m : List Int), 0 < n → n ≤ 13 → m.length ≤ 2 → (∀ x ∈ m, 0 ≤ x ∧ x < 19) → 0 < (rng n ++ m).length ∧ (rng n ++ m).length ≤ 15 ∧ ∀ x ∈ rng n ++ m, 0 ≤ x ∧ x < 19 := by
    intro n m h0 h1 h2 h3
    rw [List.length_append, rng_len]
    refine ⟨by omega, by omega, fun x hx => ?_⟩
    rw [List.mem_append, rng_mem] at hx
    rcases hx with hx | hx
    · omega
    · exact h3 x hx
  unfold sysL at h
  split at h
  · injection h with h
    subst h
    exact key 9 [] (by omega) (by omega) (by decide) (by decide)
  split at h
  · injection h with h
    subst h
    exact key 10 [] (by omega) (by omega) (by decide) (by decide)
  split at h
  · injection h with h
    subst h
    exact key 13 [] (by omega) (by omega) (by decide) (by decide)
  split at h
  · injection h with h
    subst h
    exact key 13 [17] (by omega) (by omega) (by decide) (by decide)
  split at h
  · injection h with h
    subst h
    exact key 13 [13] (by omega) (by omega) (by decide) (by decide)
  split at h
  · injection h with h
    subst h
    exact key 13 [14] (by omega) (by omega) (by decide) (by decide)
  split at h
  · injection h with h
    subst h
    exact key 13 [13, 14] (by omega) (by omega) (by decide) (by decide)
  split at h
  · injection h with h
    subst h
    exact key 13 [13, 15] (by omega) (by omega) (by decide) (by decide)
  split at h
  · injection h with h
    subst h
    exact key 13 [16] (by omega) (by omega) (by decide) (by decide)
  split at h
  · injection h with h
    subst h
    exact key 13 [18] (by omega) (by omega) (by decide) (by decide)
  cases h

/-- 'append(out, xs...)' of numbers. -/
theorem wpList_appIs {ops : Array Oper} {rest : List Oper} {o : Oper} {a : Act} {Q : Exit → Act → World → Prop} {w w0 : World} (s x : Operand) (hgd : o.guard = none)
    (ho : o.op = .call { callee := .builtin .append, args := #[s, x], argTypes := #[69, 69] })
    (v : Value) (L : List Int) (hs : a.eval s = v) (hown : OwnI w w0.heap.size v L) (hg : Grew w0 w) (vx : Value) (M : List Int) (hx : a.eval x = vx) (hr : Ints w vx M) (hn : L.length + M.length ≤ 1048576)
    (h : ∀ v' w', OwnI w' w0.heap.size v' (L ++ M) → Grew w0 w' → w.grownBy w' v.ownBlock → wpList Tryz.prog ops Q rest (a.put o.dst v') w') : wpList Tryz.prog ops Q (o :: rest) a w := by
  obtain ⟨i0, hi0, hz0, hz1, hz2⟩ := info_parts Tryz.infoI
  refine wpList_append_rd w hgd s x _ ho w0.heap.size 2 i0 _ 1 8 Tryz.underlying69 hi0 hz0 hz1 hz2 rfl (by omega) v L.length (icells L) hs hown vx M.length (icells M) hx hr (icells_one M) (by unfold maxLen; omega) (by omega) hg.size ?_
  intro v' w' h1 h2 h3
  refine h v' w' ?_ (hg.grown h2 fun k hk => (hown.lt k hk).1) h2
  unfold OwnI
  rw [List.length_append, icells_append]
  exact h1
theorem litI1 (w : World) (k : Int) : OwnI (w.alloc (.cells #[.int .i64 k] 2)) w.heap.size (.slice (some ⟨w.heap.size, 0, none⟩) 1 1) [k] :=
  World.ownsRow_lit (e := 2) (size := 1) w #[.int .i64 k] 1 (Nat.le_refl _) (by first | omega | decide | simp) rfl
theorem litI2 (w : World) (k l : Int) : OwnI (w.alloc (.cells #[.int .i64 k, .int .i64 l] 2)) w.heap.size (.slice (some ⟨w.heap.size, 0, none⟩) 2 2) [k, l] :=
  World.ownsRow_lit (e := 2) (size := 1) w #[.int .i64 k, .int .i64 l] 2 (Nat.le_refl _) (by first | omega | decide | simp) rfl

/-- The schemes and whether there are some. -/
def GivesSch (r : Option (List Int)) (w : World) (e : Ending) (w' : World) : Prop := ∃ v, e = .returned (.tuple #[v, .bool r.isSome]) ∧ OwnI w' w.heap.size v (r.getD []) ∧ Grew w w'
def GivesSs (r : Option (List Int)) (w : World) (e : Ending) (w' : World) : Prop := ∃ v, e = .returned v ∧ OwnI w' w.heap.size v (r.getD []) ∧ Grew w w'

set_option maxRecDepth 100000 in
set_option maxHeartbeats 4000000 in
theorem schemesOf_c (s : ByteArray) (w : World) : Calls Tryz.prog 39 #[.string s] w (GivesSch (sysL s) w) := by
  unfold sysL
  cases h0 : (s.toList == [73, 110, 116]) with
  | true =>
    simp only [if_true, Bool.false_eq_true, if_false]
    go_enter Tryz.func39, Tryz.ntmps39
    have hM : Ints w (.slice none 0 0) [] := Ints.nil_ _
    have hG : Grew w w := Grew.refl _
    have hM := Lib.hid hM
    have hG := Lib.hid hG
    go_wp2_with fail
    go_loopw [6, 7, 38] (fun v _ i wr => ∃ j : Nat, j ≤ 9 ∧ i = .int .i64 j ∧ OwnI wr w.heap.size v (rng j) ∧ Grew w wr) (fun _ _ i _ => 9 - (intOf i).toNat)
    case atStart => exact ⟨0, Nat.zero_le _, rfl, OwnI.nil_ _ _, Grew.refl _⟩
    case round =>
      obtain ⟨j, hj, rfl, hO, hB⟩ := hrel
      by_cases hlt : j < 9
      · have hl : (rng j).length ≤ 1048576 := by rw [rng_len]; omega
        have hrd := rd_litI wr (j : Int) 2
        have hOa := hO.grew ((Grew.refl wr).alloc (.cells #[.int .i64 (j : Int)] 2))
        have hBa := hB.alloc (.cells #[.int .i64 (j : Int)] 2)
        go_wp2_with (at_builtin; refine wpList_appI (w0 := w) _ _ rfl rfl _ (rng j) rfl hOa hBa _ (j : Int) rfl hrd hl ?_; intro v1 w1 hown1 hg1 hgb)
        go_roundw
        case rel => exact ⟨j + 1, by omega, by go_num, by rw [rng_succ]; exact hown1, hg1⟩
        case measure => simp [intOf]; omega
      · obtain rfl : j = 9 := by omega
        have hl : (rng 9).length + ([] : List Int).length ≤ 1048576 := by rw [rng_len]; decide
        have hI := hM.out.grew hB
        go_wp2_with (at_builtin; refine wpList_appIs (w0 := w) _ _ rfl rfl _ (rng 9) rfl hO hB _ [] rfl hI hl ?_; intro v1 w1 hown1 hg1 _)
        go_ret2
        exact ⟨_, rfl, hown1.base hG.out.size, hG.out.trans hg1⟩
  | false =>
  cases h1 : (s.toList == [67, 76]) with
  | true =>
    simp only [if_true, Bool.false_eq_true, if_false]
    go_enter Tryz.func39, Tryz.ntmps39
    have hM : Ints w (.slice none 0 0) [] := Ints.nil_ _
    have hG : Grew w w := Grew.refl _
    have hM := Lib.hid hM
    have hG := Lib.hid hG
    go_wp2_with fail
    go_loopw [6, 7, 38] (fun v _ i wr => ∃ j : Nat, j ≤ 10 ∧ i = .int .i64 j ∧ OwnI wr w.heap.size v (rng j) ∧ Grew w wr) (fun _ _ i _ => 10 - (intOf i).toNat)
    case atStart => exact ⟨0, Nat.zero_le _, rfl, OwnI.nil_ _ _, Grew.refl _⟩
    case round =>
      obtain ⟨j, hj, rfl, hO, hB⟩ := hrel
      by_cases hlt : j < 10
      · have hl : (rng j).length ≤ 1048576 := by rw [rng_len]; omega
        have hrd := rd_litI wr (j : Int) 2
        have hOa := hO.grew ((Grew.refl wr).alloc (.cells #[.int .i64 (j : Int)] 2))
        have hBa := hB.alloc (.cells #[.int .i64 (j : Int)] 2)
        go_wp2_with (at_builtin; refine wpList_appI (w0 := w) _ _ rfl rfl _ (rng j) rfl hOa hBa _ (j : Int) rfl hrd hl ?_; intro v1 w1 hown1 hg1 hgb)
        go_roundw
        case rel => exact ⟨j + 1, by omega, by go_num, by rw [rng_succ]; exact hown1, hg1⟩
        case measure => simp [intOf]; omega
      · obtain rfl : j = 10 := by omega
        have hl : (rng 10).length + ([] : List Int).length ≤ 1048576 := by rw [rng_len]; decide
        have hI := hM.out.grew hB
        go_wp2_with (at_builtin; refine wpList_appIs (w0 := w) _ _ rfl rfl _ (rng 10) rfl hO hB _ [] rfl hI hl ?_; intro v1 w1 hown1 hg1 _)
        go_ret2
        exact ⟨_, rfl, hown1.base hG.out.size, hG.out.trans hg1⟩
  | false =>
  cases h2 : (s.toList == [75]) with
  | true =>
    simp only [if_true, Bool.false_eq_true, if_false]
    go_enter Tryz.func39, Tryz.ntmps39
    have hM : Ints w (.slice none 0 0) [] := Ints.nil_ _
    have hG : Grew w w := Grew.refl _
    have hM := Lib.hid hM
    have hG := Lib.hid hG
    go_wp2_with fail
    go_loopw [6, 7, 38] (fun v _ i wr => ∃ j : Nat, j ≤ 13 ∧ i = .int .i64 j ∧ OwnI wr w.heap.size v (rng j) ∧ Grew w wr) (fun _ _ i _ => 13 - (intOf i).toNat)
    case atStart => exact ⟨0, Nat.zero_le _, rfl, OwnI.nil_ _ _, Grew.refl _⟩
    case round =>
      obtain ⟨j, hj, rfl, hO, hB⟩ := hrel
      by_cases hlt : j < 13
      · have hl : (rng j).length ≤ 1048576 := by rw [rng_len]; omega
        have hrd := rd_litI wr (j : Int) 2
        have hOa := hO.grew ((Grew.refl wr).alloc (.cells #[.int .i64 (j : Int)] 2))
        have hBa := hB.alloc (.cells #[.int .i64 (j : Int)] 2)
        go_wp2_with (at_builtin; refine wpList_appI (w0 := w) _ _ rfl rfl _ (rng j) rfl hOa hBa _ (j : Int) rfl hrd hl ?_; intro v1 w1 hown1 hg1 hgb)
        go_roundw
        case rel => exact ⟨j + 1, by omega, by go_num, by rw [rng_succ]; exact hown1, hg1⟩
        case measure => simp [intOf]; omega
      · obtain rfl : j = 13 := by omega
        have hl : (rng 13).length + ([] : List Int).length ≤ 1048576 := by rw [rng_len]; decide
        have hI := hM.out.grew hB
        go_wp2_with (at_builtin; refine wpList_appIs (w0 := w) _ _ rfl rfl _ (rng 13) rfl hO hB _ [] rfl hI hl ?_; intro v1 w1 hown1 hg1 _)
        go_ret2
        exact ⟨_, rfl, hown1.base hG.out.size, hG.out.trans hg1⟩
  | false =>
  cases h3 : (s.toList == [68]) with
  | true =>
    simp only [if_true, Bool.false_eq_true, if_false]
    go_enter Tryz.func39, Tryz.ntmps39
    have hM : Ints (w.alloc (.cells #[.int .i64 17] 2)) (.slice (some ⟨w.heap.size, 0, none⟩) 1 1) [17] := (litI1 w 17).ints
    have hG : Grew w (w.alloc (.cells #[.int .i64 17] 2)) := (Grew.refl w).alloc _
    have hM := Lib.hid hM
    have hG := Lib.hid hG
    go_wp2_with fail
    go_loopw [6, 7, 38] (fun v _ i wr => ∃ j : Nat, j ≤ 13 ∧ i = .int .i64 j ∧ OwnI wr (w.alloc (.cells #[.int .i64 17] 2)).heap.size v (rng j) ∧ Grew (w.alloc (.cells #[.int .i64 17] 2)) wr) (fun _ _ i _ => 13 - (intOf i).toNat)
    case atStart => exact ⟨0, Nat.zero_le _, rfl, OwnI.nil_ _ _, Grew.refl _⟩
    case round =>
      obtain ⟨j, hj, rfl, hO, hB⟩ := hrel
      by_cases hlt : j < 13
      · have hl : (rng j).length ≤ 1048576 := by rw [rng_len]; omega
        have hrd := rd_litI wr (j : Int) 2
        have hOa := hO.grew ((Grew.refl wr).alloc (.cells #[.int .i64 (j : Int)] 2))
        have hBa := hB.alloc (.cells #[.int .i64 (j : Int)] 2)
        go_wp2_with (at_builtin; refine wpList_appI (w0 := (w.alloc (.cells #[.int .i64 17] 2))) _ _ rfl rfl _ (rng j) rfl hOa hBa _ (j : Int) rfl hrd hl ?_; intro v1 w1 hown1 hg1 hgb)
        go_roundw
        case rel => exact ⟨j + 1, by omega, by go_num, by rw [rng_succ]; exact hown1, hg1⟩
        case measure => simp [intOf]; omega
      · obtain rfl : j = 13 := by omega
        have hl : (rng 13).length + ([17] : List Int).length ≤ 1048576 := by rw [rng_len]; decide
        have hI := hM.out.grew hB
        go_wp2_with (at_builtin; refine wpList_appIs (w0 := (w.alloc (.cells #[.int .i64 17] 2))) _ _ rfl rfl _ (rng 13) rfl hO hB _ [17] rfl hI hl ?_; intro v1 w1 hown1 hg1 _)
        go_ret2
        exact ⟨_, rfl, hown1.base hG.out.size, hG.out.trans hg1⟩
  | false =>
  cases h4 : (s.toList == [84]) with
  | true =>
    simp only [if_true, Bool.false_eq_true, if_false]
    go_enter Tryz.func39, Tryz.ntmps39
    have hM : Ints (w.alloc (.cells #[.int .i64 13] 2)) (.slice (some ⟨w.heap.size, 0, none⟩) 1 1) [13] := (litI1 w 13).ints
    have hG : Grew w (w.alloc (.cells #[.int .i64 13] 2)) := (Grew.refl w).alloc _
    have hM := Lib.hid hM
    have hG := Lib.hid hG
    go_wp2_with fail
    go_loopw [6, 7, 38] (fun v _ i wr => ∃ j : Nat, j ≤ 13 ∧ i = .int .i64 j ∧ OwnI wr (w.alloc (.cells #[.int .i64 13] 2)).heap.size v (rng j) ∧ Grew (w.alloc (.cells #[.int .i64 13] 2)) wr) (fun _ _ i _ => 13 - (intOf i).toNat)
    case atStart => exact ⟨0, Nat.zero_le _, rfl, OwnI.nil_ _ _, Grew.refl _⟩
    case round =>
      obtain ⟨j, hj, rfl, hO, hB⟩ := hrel
      by_cases hlt : j < 13
      · have hl : (rng j).length ≤ 1048576 := by rw [rng_len]; omega
        have hrd := rd_litI wr (j : Int) 2
        have hOa := hO.grew ((Grew.refl wr).alloc (.cells #[.int .i64 (j : Int)] 2))
        have hBa := hB.alloc (.cells #[.int .i64 (j : Int)] 2)
        go_wp2_with (at_builtin; refine wpList_appI (w0 := (w.alloc (.cells #[.int .i64 13] 2))) _ _ rfl rfl _ (rng j) rfl hOa hBa _ (j : Int) rfl hrd hl ?_; intro v1 w1 hown1 hg1 hgb)
        go_roundw
        case rel => exact ⟨j + 1, by omega, by go_num, by rw [rng_succ]; exact hown1, hg1⟩
        case measure => simp [intOf]; omega
      · obtain rfl : j = 13 := by omega
        have hl : (rng 13).length + ([13] : List Int).length ≤ 1048576 := by rw [rng_len]; decide
        have hI := hM.out.grew hB
        go_wp2_with (at_builtin; refine wpList_appIs (w0 := (w.alloc (.cells #[.int .i64 13] 2))) _ _ rfl rfl _ (rng 13) rfl hO hB _ [13] rfl hI hl ?_; intro v1 w1 hown1 hg1 _)
        go_ret2
        exact ⟨_, rfl, hown1.base hG.out.size, hG.out.trans hg1⟩
  | false =>
  cases h5 : (s.toList == [75, 52]) with
  | true =>
    simp only [if_true, Bool.false_eq_true, if_false]
    go_enter Tryz.func39, Tryz.ntmps39
    have hM : Ints (w.alloc (.cells #[.int .i64 14] 2)) (.slice (some ⟨w.heap.size, 0, none⟩) 1 1) [14] := (litI1 w 14).ints
    have hG : Grew w (w.alloc (.cells #[.int .i64 14] 2)) := (Grew.refl w).alloc _
    have hM := Lib.hid hM
    have hG := Lib.hid hG
    go_wp2_with fail
    go_loopw [6, 7, 38] (fun v _ i wr => ∃ j : Nat, j ≤ 13 ∧ i = .int .i64 j ∧ OwnI wr (w.alloc (.cells #[.int .i64 14] 2)).heap.size v (rng j) ∧ Grew (w.alloc (.cells #[.int .i64 14] 2)) wr) (fun _ _ i _ => 13 - (intOf i).toNat)
    case atStart => exact ⟨0, Nat.zero_le _, rfl, OwnI.nil_ _ _, Grew.refl _⟩
    case round =>
      obtain ⟨j, hj, rfl, hO, hB⟩ := hrel
      by_cases hlt : j < 13
      · have hl : (rng j).length ≤ 1048576 := by rw [rng_len]; omega
        have hrd := rd_litI wr (j : Int) 2
        have hOa := hO.grew ((Grew.refl wr).alloc (.cells #[.int .i64 (j : Int)] 2))
        have hBa := hB.alloc (.cells #[.int .i64 (j : Int)] 2)
        go_wp2_with (at_builtin; refine wpList_appI (w0 := (w.alloc (.cells #[.int .i64 14] 2))) _ _ rfl rfl _ (rng j) rfl hOa hBa _ (j : Int) rfl hrd hl ?_; intro v1 w1 hown1 hg1 hgb)
        go_roundw
        case rel => exact ⟨j + 1, by omega, by go_num, by rw [rng_succ]; exact hown1, hg1⟩
        case measure => simp [intOf]; omega
      · obtain rfl : j = 13 := by omega
        have hl : (rng 13).length + ([14] : List Int).length ≤ 1048576 := by rw [rng_len]; decide
        have hI := hM.out.grew hB
        go_wp2_with (at_builtin; refine wpList_appIs (w0 := (w.alloc (.cells #[.int .i64 14] 2))) _ _ rfl rfl _ (rng 13) rfl hO hB _ [14] rfl hI hl ?_; intro v1 w1 hown1 hg1 _)
        go_ret2
        exact ⟨_, rfl, hown1.base hG.out.size, hG.out.trans hg1⟩
  | false =>
  cases h6 : (s.toList == [83, 52]) with
  | true =>
    simp only [if_true, Bool.false_eq_true, if_false]
    go_enter Tryz.func39, Tryz.ntmps39
    have hM : Ints (w.alloc (.cells #[.int .i64 13, .int .i64 14] 2)) (.slice (some ⟨w.heap.size, 0, none⟩) 2 2) [13, 14] := (litI2 w 13 14).ints
    have hG : Grew w (w.alloc (.cells #[.int .i64 13, .int .i64 14] 2)) := (Grew.refl w).alloc _
    have hM := Lib.hid hM
    have hG := Lib.hid hG
    go_wp2_with fail
    go_loopw [6, 7, 38] (fun v _ i wr => ∃ j : Nat, j ≤ 13 ∧ i = .int .i64 j ∧ OwnI wr (w.alloc (.cells #[.int .i64 13, .int .i64 14] 2)).heap.size v (rng j) ∧ Grew (w.alloc (.cells #[.int .i64 13, .int .i64 14] 2)) wr) (fun _ _ i _ => 13 - (intOf i).toNat)
    case atStart => exact ⟨0, Nat.zero_le _, rfl, OwnI.nil_ _ _, Grew.refl _⟩
    case round =>
      obtain ⟨j, hj, rfl, hO, hB⟩ := hrel
      by_cases hlt : j < 13
      · have hl : (rng j).length ≤ 1048576 := by rw [rng_len]; omega
        have hrd := rd_litI wr (j : Int) 2
        have hOa := hO.grew ((Grew.refl wr).alloc (.cells #[.int .i64 (j : Int)] 2))
        have hBa := hB.alloc (.cells #[.int .i64 (j : Int)] 2)
        go_wp2_with (at_builtin; refine wpList_appI (w0 := (w.alloc (.cells #[.int .i64 13, .int .i64 14] 2))) _ _ rfl rfl _ (rng j) rfl hOa hBa _ (j : Int) rfl hrd hl ?_; intro v1 w1 hown1 hg1 hgb)
        go_roundw
        case rel => exact ⟨j + 1, by omega, by go_num, by rw [rng_succ]; exact hown1, hg1⟩
        case measure => simp [intOf]; omega
      · obtain rfl : j = 13 := by omega
        have hl : (rng 13).length + ([13, 14] : List Int).length ≤ 1048576 := by rw [rng_len]; decide
        have hI := hM.out.grew hB
        go_wp2_with (at_builtin; refine wpList_appIs (w0 := (w.alloc (.cells #[.int .i64 13, .int .i64 14] 2))) _ _ rfl rfl _ (rng 13) rfl hO hB _ [13, 14] rfl hI hl ?_; intro v1 w1 hown1 hg1 _)
        go_ret2
        exact ⟨_, rfl, hown1.base hG.out.size, hG.out.trans hg1⟩
  | false =>
  cases h7 : (s.toList == [83, 53]) with
  | true =>
    simp only [if_true, Bool.false_eq_true, if_false]
    go_enter Tryz.func39, Tryz.ntmps39
    have hM : Ints (w.alloc (.cells #[.int .i64 13, .int .i64 15] 2)) (.slice (some ⟨w.heap.size, 0, none⟩) 2 2) [13, 15] := (litI2 w 13 15).ints
    have hG : Grew w (w.alloc (.cells #[.int .i64 13, .int .i64 15] 2)) := (Grew.refl w).alloc _
    have hM := Lib.hid hM
    have hG := Lib.hid hG
    go_wp2_with fail
    go_loopw [6, 7, 38] (fun v _ i wr => ∃ j : Nat, j ≤ 13 ∧ i = .int .i64 j ∧ OwnI wr (w.alloc (.cells #[.int .i64 13, .int .i64 15] 2)).heap.size v (rng j) ∧ Grew (w.alloc (.cells #[.int .i64 13, .int .i64 15] 2)) wr) (fun _ _ i _ => 13 - (intOf i).toNat)
    case atStart => exact ⟨0, Nat.zero_le _, rfl, OwnI.nil_ _ _, Grew.refl _⟩
    case round =>
      obtain ⟨j, hj, rfl, hO, hB⟩ := hrel
      by_cases hlt : j < 13
      · have hl : (rng j).length ≤ 1048576 := by rw [rng_len]; omega
        have hrd := rd_litI wr (j : Int) 2
        have hOa := hO.grew ((Grew.refl wr).alloc (.cells #[.int .i64 (j : Int)] 2))
        have hBa := hB.alloc (.cells #[.int .i64 (j : Int)] 2)
        go_wp2_with (at_builtin; refine wpList_appI (w0 := (w.alloc (.cells #[.int .i64 13, .int .i64 15] 2))) _ _ rfl rfl _ (rng j) rfl hOa hBa _ (j : Int) rfl hrd hl ?_; intro v1 w1 hown1 hg1 hgb)
        go_roundw
        case rel => exact ⟨j + 1, by omega, by go_num, by rw [rng_succ]; exact hown1, hg1⟩
        case measure => simp [intOf]; omega
      · obtain rfl : j = 13 := by omega
        have hl : (rng 13).length + ([13, 15] : List Int).length ≤ 1048576 := by rw [rng_len]; decide
        have hI := hM.out.grew hB
        go_wp2_with (at_builtin; refine wpList_appIs (w0 := (w.alloc (.cells #[.int .i64 13, .int .i64 15] 2))) _ _ rfl rfl _ (rng 13) rfl hO hB _ [13, 15] rfl hI hl ?_; intro v1 w1 hown1 hg1 _)
        go_ret2
        exact ⟨_, rfl, hown1.base hG.out.size, hG.out.trans hg1⟩
  | false =>
  cases h8 : (s.toList == [75, 66]) with
  | true =>
    simp only [if_true, Bool.false_eq_true, if_false]
    go_enter Tryz.func39, Tryz.ntmps39
    have hM : Ints (w.alloc (.cells #[.int .i64 16] 2)) (.slice (some ⟨w.heap.size, 0, none⟩) 1 1) [16] := (litI1 w 16).ints
    have hG : Grew w (w.alloc (.cells #[.int .i64 16] 2)) := (Grew.refl w).alloc _
    have hM := Lib.hid hM
    have hG := Lib.hid hG
    go_wp2_with fail
    go_loopw [6, 7, 38] (fun v _ i wr => ∃ j : Nat, j ≤ 13 ∧ i = .int .i64 j ∧ OwnI wr (w.alloc (.cells #[.int .i64 16] 2)).heap.size v (rng j) ∧ Grew (w.alloc (.cells #[.int .i64 16] 2)) wr) (fun _ _ i _ => 13 - (intOf i).toNat)
    case atStart => exact ⟨0, Nat.zero_le _, rfl, OwnI.nil_ _ _, Grew.refl _⟩
    case round =>
      obtain ⟨j, hj, rfl, hO, hB⟩ := hrel
      by_cases hlt : j < 13
      · have hl : (rng j).length ≤ 1048576 := by rw [rng_len]; omega
        have hrd := rd_litI wr (j : Int) 2
        have hOa := hO.grew ((Grew.refl wr).alloc (.cells #[.int .i64 (j : Int)] 2))
        have hBa := hB.alloc (.cells #[.int .i64 (j : Int)] 2)
        go_wp2_with (at_builtin; refine wpList_appI (w0 := (w.alloc (.cells #[.int .i64 16] 2))) _ _ rfl rfl _ (rng j) rfl hOa hBa _ (j : Int) rfl hrd hl ?_; intro v1 w1 hown1 hg1 hgb)
        go_roundw
        case rel => exact ⟨j + 1, by omega, by go_num, by rw [rng_succ]; exact hown1, hg1⟩
        case measure => simp [intOf]; omega
      · obtain rfl : j = 13 := by omega
        have hl : (rng 13).length + ([16] : List Int).length ≤ 1048576 := by rw [rng_len]; decide
        have hI := hM.out.grew hB
        go_wp2_with (at_builtin; refine wpList_appIs (w0 := (w.alloc (.cells #[.int .i64 16] 2))) _ _ rfl rfl _ (rng 13) rfl hO hB _ [16] rfl hI hl ?_; intro v1 w1 hown1 hg1 _)
        go_ret2
        exact ⟨_, rfl, hown1.base hG.out.size, hG.out.trans hg1⟩
  | false =>
  cases h9 : (s.toList == [71, 76]) with
  | true =>
    simp only [if_true, Bool.false_eq_true, if_false]
    go_enter Tryz.func39, Tryz.ntmps39
    have hM : Ints (w.alloc (.cells #[.int .i64 18] 2)) (.slice (some ⟨w.heap.size, 0, none⟩) 1 1) [18] := (litI1 w 18).ints
    have hG : Grew w (w.alloc (.cells #[.int .i64 18] 2)) := (Grew.refl w).alloc _
    have hM := Lib.hid hM
    have hG := Lib.hid hG
    go_wp2_with fail
    go_loopw [6, 7, 38] (fun v _ i wr => ∃ j : Nat, j ≤ 13 ∧ i = .int .i64 j ∧ OwnI wr (w.alloc (.cells #[.int .i64 18] 2)).heap.size v (rng j) ∧ Grew (w.alloc (.cells #[.int .i64 18] 2)) wr) (fun _ _ i _ => 13 - (intOf i).toNat)
    case atStart => exact ⟨0, Nat.zero_le _, rfl, OwnI.nil_ _ _, Grew.refl _⟩
    case round =>
      obtain ⟨j, hj, rfl, hO, hB⟩ := hrel
      by_cases hlt : j < 13
      · have hl : (rng j).length ≤ 1048576 := by rw [rng_len]; omega
        have hrd := rd_litI wr (j : Int) 2
        have hOa := hO.grew ((Grew.refl wr).alloc (.cells #[.int .i64 (j : Int)] 2))
        have hBa := hB.alloc (.cells #[.int .i64 (j : Int)] 2)
        go_wp2_with (at_builtin; refine wpList_appI (w0 := (w.alloc (.cells #[.int .i64 18] 2))) _ _ rfl rfl _ (rng j) rfl hOa hBa _ (j : Int) rfl hrd hl ?_; intro v1 w1 hown1 hg1 hgb)
        go_roundw
        case rel => exact ⟨j + 1, by omega, by go_num, by rw [rng_succ]; exact hown1, hg1⟩
        case measure => simp [intOf]; omega
      · obtain rfl : j = 13 := by omega
        have hl : (rng 13).length + ([18] : List Int).length ≤ 1048576 := by rw [rng_len]; decide
        have hI := hM.out.grew hB
        go_wp2_with (at_builtin; refine wpList_appIs (w0 := (w.alloc (.cells #[.int .i64 18] 2))) _ _ rfl rfl _ (rng 13) rfl hO hB _ [18] rfl hI hl ?_; intro v1 w1 hown1 hg1 _)
        go_ret2
        exact ⟨_, rfl, hown1.base hG.out.size, hG.out.trans hg1⟩
  | false =>
  simp only [Bool.false_eq_true, if_false]
  go_enter Tryz.func39, Tryz.ntmps39
  have hal := fun o => (Grew.refl w).alloc o
  go_wp2_with fail
  go_ret2
  exact ⟨.slice none 0 0, rfl, OwnI.nil_ _ _, Grew.refl _⟩

set_option maxRecDepth 100000 in
set_option maxHeartbeats 4000000 in
theorem l13Schemes_c (s : ByteArray) (w : World) : Calls Tryz.prog 35 #[.string s] w (GivesSs (sysL s) w) := by
  unfold sysL
  cases h0 : (s.toList == [73, 110, 116]) with
  | true =>
    simp only [if_true, Bool.false_eq_true, if_false]
    go_enter Tryz.func35, Tryz.ntmps35
    have hM : Ints (w.alloc (.cells #[] 2)) (.slice (some ⟨w.heap.size, 0, none⟩) 0 0) [] := (own_emptyI w).ints
    have hG : Grew w (w.alloc (.cells #[] 2)) := (Grew.refl w).alloc _
    have hM := Lib.hid hM
    have hG := Lib.hid hG
    go_wp2_with fail
    go_loopw [5, 6] (fun v i wr => ∃ j : Nat, j ≤ 9 ∧ i = .int .i64 j ∧ OwnI wr (w.alloc (.cells #[] 2)).heap.size v (rng j) ∧ Grew (w.alloc (.cells #[] 2)) wr) (fun _ i _ => 9 - (intOf i).toNat)
    case atStart => exact ⟨0, Nat.zero_le _, rfl, by first | exact own_emptyI _ | (have h9 := own_emptyI (w.alloc (.cells #[] 2)); simpa [rng_zero] using h9), (Grew.refl _).alloc _⟩
    case round =>
      obtain ⟨j, hj, rfl, hO, hB⟩ := hrel
      by_cases hlt : j < 9
      · have hl : (rng j).length ≤ 1048576 := by rw [rng_len]; omega
        have hrd := rd_litI wr (j : Int) 2
        have hOa := hO.grew ((Grew.refl wr).alloc (.cells #[.int .i64 (j : Int)] 2))
        have hBa := hB.alloc (.cells #[.int .i64 (j : Int)] 2)
        go_wp2_with (at_builtin; refine wpList_appI (w0 := (w.alloc (.cells #[] 2))) _ _ rfl rfl _ (rng j) rfl hOa hBa _ (j : Int) rfl hrd hl ?_; intro v1 w1 hown1 hg1 hgb)
        go_roundw
        case rel => exact ⟨j + 1, by omega, by go_num, by rw [rng_succ]; exact hown1, hg1⟩
        case measure => simp [intOf]; omega
      · obtain rfl : j = 9 := by omega
        have hl : (rng 9).length + ([] : List Int).length ≤ 1048576 := by rw [rng_len]; decide
        have hI := hM.out.grew hB
        go_wp2_with (at_builtin; refine wpList_appIs (w0 := (w.alloc (.cells #[] 2))) _ _ rfl rfl _ (rng 9) rfl hO hB _ [] rfl hI hl ?_; intro v1 w1 hown1 hg1 _)
        go_ret
        exact ⟨_, rfl, hown1.base hG.out.size, hG.out.trans hg1⟩
  | false =>
  cases h1 : (s.toList == [67, 76]) with
  | true =>
    simp only [if_true, Bool.false_eq_true, if_false]
    go_enter Tryz.func35, Tryz.ntmps35
    have hM : Ints (w.alloc (.cells #[] 2)) (.slice (some ⟨w.heap.size, 0, none⟩) 0 0) [] := (own_emptyI w).ints
    have hG : Grew w (w.alloc (.cells #[] 2)) := (Grew.refl w).alloc _
    have hM := Lib.hid hM
    have hG := Lib.hid hG
    go_wp2_with fail
    go_loopw [5, 6] (fun v i wr => ∃ j : Nat, j ≤ 10 ∧ i = .int .i64 j ∧ OwnI wr (w.alloc (.cells #[] 2)).heap.size v (rng j) ∧ Grew (w.alloc (.cells #[] 2)) wr) (fun _ i _ => 10 - (intOf i).toNat)
    case atStart => exact ⟨0, Nat.zero_le _, rfl, by first | exact own_emptyI _ | (have h9 := own_emptyI (w.alloc (.cells #[] 2)); simpa [rng_zero] using h9), (Grew.refl _).alloc _⟩
    case round =>
      obtain ⟨j, hj, rfl, hO, hB⟩ := hrel
      by_cases hlt : j < 10
      · have hl : (rng j).length ≤ 1048576 := by rw [rng_len]; omega
        have hrd := rd_litI wr (j : Int) 2
        have hOa := hO.grew ((Grew.refl wr).alloc (.cells #[.int .i64 (j : Int)] 2))
        have hBa := hB.alloc (.cells #[.int .i64 (j : Int)] 2)
        go_wp2_with (at_builtin; refine wpList_appI (w0 := (w.alloc (.cells #[] 2))) _ _ rfl rfl _ (rng j) rfl hOa hBa _ (j : Int) rfl hrd hl ?_; intro v1 w1 hown1 hg1 hgb)
        go_roundw
        case rel => exact ⟨j + 1, by omega, by go_num, by rw [rng_succ]; exact hown1, hg1⟩
        case measure => simp [intOf]; omega
      · obtain rfl : j = 10 := by omega
        have hl : (rng 10).length + ([] : List Int).length ≤ 1048576 := by rw [rng_len]; decide
        have hI := hM.out.grew hB
        go_wp2_with (at_builtin; refine wpList_appIs (w0 := (w.alloc (.cells #[] 2))) _ _ rfl rfl _ (rng 10) rfl hO hB _ [] rfl hI hl ?_; intro v1 w1 hown1 hg1 _)
        go_ret
        exact ⟨_, rfl, hown1.base hG.out.size, hG.out.trans hg1⟩
  | false =>
  cases h2 : (s.toList == [75]) with
  | true =>
    simp only [if_true, Bool.false_eq_true, if_false]
    go_enter Tryz.func35, Tryz.ntmps35
    have hM : Ints (w.alloc (.cells #[] 2)) (.slice (some ⟨w.heap.size, 0, none⟩) 0 0) [] := (own_emptyI w).ints
    have hG : Grew w (w.alloc (.cells #[] 2)) := (Grew.refl w).alloc _
    have hM := Lib.hid hM
    have hG := Lib.hid hG
    go_wp2_with fail
    go_loopw [5, 6] (fun v i wr => ∃ j : Nat, j ≤ 13 ∧ i = .int .i64 j ∧ OwnI wr (w.alloc (.cells #[] 2)).heap.size v (rng j) ∧ Grew (w.alloc (.cells #[] 2)) wr) (fun _ i _ => 13 - (intOf i).toNat)
    case atStart => exact ⟨0, Nat.zero_le _, rfl, by first | exact own_emptyI _ | (have h9 := own_emptyI (w.alloc (.cells #[] 2)); simpa [rng_zero] using h9), (Grew.refl _).alloc _⟩
    case round =>
      obtain ⟨j, hj, rfl, hO, hB⟩ := hrel
      by_cases hlt : j < 13
      · have hl : (rng j).length ≤ 1048576 := by rw [rng_len]; omega
        have hrd := rd_litI wr (j : Int) 2
        have hOa := hO.grew ((Grew.refl wr).alloc (.cells #[.int .i64 (j : Int)] 2))
        have hBa := hB.alloc (.cells #[.int .i64 (j : Int)] 2)
        go_wp2_with (at_builtin; refine wpList_appI (w0 := (w.alloc (.cells #[] 2))) _ _ rfl rfl _ (rng j) rfl hOa hBa _ (j : Int) rfl hrd hl ?_; intro v1 w1 hown1 hg1 hgb)
        go_roundw
        case rel => exact ⟨j + 1, by omega, by go_num, by rw [rng_succ]; exact hown1, hg1⟩
        case measure => simp [intOf]; omega
      · obtain rfl : j = 13 := by omega
        have hl : (rng 13).length + ([] : List Int).length ≤ 1048576 := by rw [rng_len]; decide
        have hI := hM.out.grew hB
        go_wp2_with (at_builtin; refine wpList_appIs (w0 := (w.alloc (.cells #[] 2))) _ _ rfl rfl _ (rng 13) rfl hO hB _ [] rfl hI hl ?_; intro v1 w1 hown1 hg1 _)
        go_ret
        exact ⟨_, rfl, hown1.base hG.out.size, hG.out.trans hg1⟩
  | false =>
  cases h3 : (s.toList == [68]) with
  | true =>
    simp only [if_true, Bool.false_eq_true, if_false]
    go_enter Tryz.func35, Tryz.ntmps35
    have hM : Ints ((w.alloc (.cells #[] 2)).alloc (.cells #[.int .i64 17] 2)) (.slice (some ⟨w.heap.size + 1, 0, none⟩) 1 1) [17] := by have h9 := (litI1 (w.alloc (.cells #[] 2)) 17).ints; simpa using h9
    have hG : Grew w ((w.alloc (.cells #[] 2)).alloc (.cells #[.int .i64 17] 2)) := ((Grew.refl w).alloc _).alloc _
    have hM := Lib.hid hM
    have hG := Lib.hid hG
    go_wp2_with fail
    go_loopw [5, 6] (fun v i wr => ∃ j : Nat, j ≤ 13 ∧ i = .int .i64 j ∧ OwnI wr ((w.alloc (.cells #[] 2)).alloc (.cells #[.int .i64 17] 2)).heap.size v (rng j) ∧ Grew ((w.alloc (.cells #[] 2)).alloc (.cells #[.int .i64 17] 2)) wr) (fun _ i _ => 13 - (intOf i).toNat)
    case atStart => exact ⟨0, Nat.zero_le _, rfl, by first | exact own_emptyI _ | (have h9 := own_emptyI ((w.alloc (.cells #[] 2)).alloc (.cells #[.int .i64 17] 2)); simpa [rng_zero] using h9), (Grew.refl _).alloc _⟩
    case round =>
      obtain ⟨j, hj, rfl, hO, hB⟩ := hrel
      by_cases hlt : j < 13
      · have hl : (rng j).length ≤ 1048576 := by rw [rng_len]; omega
        have hrd := rd_litI wr (j : Int) 2
        have hOa := hO.grew ((Grew.refl wr).alloc (.cells #[.int .i64 (j : Int)] 2))
        have hBa := hB.alloc (.cells #[.int .i64 (j : Int)] 2)
        go_wp2_with (at_builtin; refine wpList_appI (w0 := ((w.alloc (.cells #[] 2)).alloc (.cells #[.int .i64 17] 2))) _ _ rfl rfl _ (rng j) rfl hOa hBa _ (j : Int) rfl hrd hl ?_; intro v1 w1 hown1 hg1 hgb)
        go_roundw
        case rel => exact ⟨j + 1, by omega, by go_num, by rw [rng_succ]; exact hown1, hg1⟩
        case measure => simp [intOf]; omega
      · obtain rfl : j = 13 := by omega
        have hl : (rng 13).length + ([17] : List Int).length ≤ 1048576 := by rw [rng_len]; decide
        have hI := hM.out.grew hB
        go_wp2_with (at_builtin; refine wpList_appIs (w0 := ((w.alloc (.cells #[] 2)).alloc (.cells #[.int .i64 17] 2))) _ _ rfl rfl _ (rng 13) rfl hO hB _ [17] rfl hI hl ?_; intro v1 w1 hown1 hg1 _)
        go_ret
        exact ⟨_, rfl, hown1.base hG.out.size, hG.out.trans hg1⟩
  | false =>
  cases h4 : (s.toList == [84]) with
  | true =>
    simp only [if_true, Bool.false_eq_true, if_false]
    go_enter Tryz.func35, Tryz.ntmps35
    have hM : Ints ((w.alloc (.cells #[] 2)).alloc (.cells #[.int .i64 13] 2)) (.slice (some ⟨w.heap.size + 1, 0, none⟩) 1 1) [13] := by have h9 := (litI1 (w.alloc (.cells #[] 2)) 13).ints; simpa using h9
    have hG : Grew w ((w.alloc (.cells #[] 2)).alloc (.cells #[.int .i64 13] 2)) := ((Grew.refl w).alloc _).alloc _
    have hM := Lib.hid hM
    have hG := Lib.hid hG
    go_wp2_with fail
    go_loopw [5, 6] (fun v i wr => ∃ j : Nat, j ≤ 13 ∧ i = .int .i64 j ∧ OwnI wr ((w.alloc (.cells #[] 2)).alloc (.cells #[.int .i64 13] 2)).heap.size v (rng j) ∧ Grew ((w.alloc (.cells #[] 2)).alloc (.cells #[.int .i64 13] 2)) wr) (fun _ i _ => 13 - (intOf i).toNat)
    case atStart => exact ⟨0, Nat.zero_le _, rfl, by first | exact own_emptyI _ | (have h9 := own_emptyI ((w.alloc (.cells #[] 2)).alloc (.cells #[.int .i64 13] 2)); simpa [rng_zero] using h9), (Grew.refl _).alloc _⟩
    case round =>
      obtain ⟨j, hj, rfl, hO, hB⟩ := hrel
      by_cases hlt : j < 13
      · have hl : (rng j).length ≤ 1048576 := by rw [rng_len]; omega
        have hrd := rd_litI wr (j : Int) 2
        have hOa := hO.grew ((Grew.refl wr).alloc (.cells #[.int .i64 (j : Int)] 2))
        have hBa := hB.alloc (.cells #[.int .i64 (j : Int)] 2)
        go_wp2_with (at_builtin; refine wpList_appI (w0 := ((w.alloc (.cells #[] 2)).alloc (.cells #[.int .i64 13] 2))) _ _ rfl rfl _ (rng j) rfl hOa hBa _ (j : Int) rfl hrd hl ?_; intro v1 w1 hown1 hg1 hgb)
        go_roundw
        case rel => exact ⟨j + 1, by omega, by go_num, by rw [rng_succ]; exact hown1, hg1⟩
        case measure => simp [intOf]; omega
      · obtain rfl : j = 13 := by omega
        have hl : (rng 13).length + ([13] : List Int).length ≤ 1048576 := by rw [rng_len]; decide
        have hI := hM.out.grew hB
        go_wp2_with (at_builtin; refine wpList_appIs (w0 := ((w.alloc (.cells #[] 2)).alloc (.cells #[.int .i64 13] 2))) _ _ rfl rfl _ (rng 13) rfl hO hB _ [13] rfl hI hl ?_; intro v1 w1 hown1 hg1 _)
        go_ret
        exact ⟨_, rfl, hown1.base hG.out.size, hG.out.trans hg1⟩
  | false =>
  cases h5 : (s.toList == [75, 52]) with
  | true =>
    simp only [if_true, Bool.false_eq_true, if_false]
    go_enter Tryz.func35, Tryz.ntmps35
    have hM : Ints ((w.alloc (.cells #[] 2)).alloc (.cells #[.int .i64 14] 2)) (.slice (some ⟨w.heap.size + 1, 0, none⟩) 1 1) [14] := by have h9 := (litI1 (w.alloc (.cells #[] 2)) 14).ints; simpa using h9
    have hG : Grew w ((w.alloc (.cells #[] 2)).alloc (.cells #[.int .i64 14] 2)) := ((Grew.refl w).alloc _).alloc _
    have hM := Lib.hid hM
    have hG := Lib.hid hG
    go_wp2_with fail
    go_loopw [5, 6] (fun v i wr => ∃ j : Nat, j ≤ 13 ∧ i = .int .i64 j ∧ OwnI wr ((w.alloc (.cells #[] 2)).alloc (.cells #[.int .i64 14] 2)).heap.size v (rng j) ∧ Grew ((w.alloc (.cells #[] 2)).alloc (.cells #[.int .i64 14] 2)) wr) (fun _ i _ => 13 - (intOf i).toNat)
    case atStart => exact ⟨0, Nat.zero_le _, rfl, by first | exact own_emptyI _ | (have h9 := own_emptyI ((w.alloc (.cells #[] 2)).alloc (.cells #[.int .i64 14] 2)); simpa [rng_zero] using h9), (Grew.refl _).alloc _⟩
    case round =>
      obtain ⟨j, hj, rfl, hO, hB⟩ := hrel
      by_cases hlt : j < 13
      · have hl : (rng j).length ≤ 1048576 := by rw [rng_len]; omega
        have hrd := rd_litI wr (j : Int) 2
        have hOa := hO.grew ((Grew.refl wr).alloc (.cells #[.int .i64 (j : Int)] 2))
        have hBa := hB.alloc (.cells #[.int .i64 (j : Int)] 2)
        go_wp2_with (at_builtin; refine wpList_appI (w0 := ((w.alloc (.cells #[] 2)).alloc (.cells #[.int .i64 14] 2))) _ _ rfl rfl _ (rng j) rfl hOa hBa _ (j : Int) rfl hrd hl ?_; intro v1 w1 hown1 hg1 hgb)
        go_roundw
        case rel => exact ⟨j + 1, by omega, by go_num, by rw [rng_succ]; exact hown1, hg1⟩
        case measure => simp [intOf]; omega
      · obtain rfl : j = 13 := by omega
        have hl : (rng 13).length + ([14] : List Int).length ≤ 1048576 := by rw [rng_len]; decide
        have hI := hM.out.grew hB
        go_wp2_with (at_builtin; refine wpList_appIs (w0 := ((w.alloc (.cells #[] 2)).alloc (.cells #[.int .i64 14] 2))) _ _ rfl rfl _ (rng 13) rfl hO hB _ [14] rfl hI hl ?_; intro v1 w1 hown1 hg1 _)
        go_ret
        exact ⟨_, rfl, hown1.base hG.out.size, hG.out.trans hg1⟩
  | false =>
  cases h6 : (s.toList == [83, 52]) with
  | true =>
    simp only [if_true, Bool.false_eq_true, if_false]
    go_enter Tryz.func35, Tryz.ntmps35
    have hM : Ints ((w.alloc (.cells #[] 2)).alloc (.cells #[.int .i64 13, .int .i64 14] 2)) (.slice (some ⟨w.heap.size + 1, 0, none⟩) 2 2) [13, 14] := by have h9 := (litI2 (w.alloc (.cells #[] 2)) 13 14).ints; simpa using h9
    have hG : Grew w ((w.alloc (.cells #[] 2)).alloc (.cells #[.int .i64 13, .int .i64 14] 2)) := ((Grew.refl w).alloc _).alloc _
    have hM := Lib.hid hM
    have hG := Lib.hid hG
    go_wp2_with fail
    go_loopw [5, 6] (fun v i wr => ∃ j : Nat, j ≤ 13 ∧ i = .int .i64 j ∧ OwnI wr ((w.alloc (.cells #[] 2)).alloc (.cells #[.int .i64 13, .int .i64 14] 2)).heap.size v (rng j) ∧ Grew ((w.alloc (.cells #[] 2)).alloc (.cells #[.int .i64 13, .int .i64 14] 2)) wr) (fun _ i _ => 13 - (intOf i).toNat)
    case atStart => exact ⟨0, Nat.zero_le _, rfl, by first | exact own_emptyI _ | (have h9 := own_emptyI ((w.alloc (.cells #[] 2)).alloc (.cells #[.int .i64 13, .int .i64 14] 2)); simpa [rng_zero] using h9), (Grew.refl _).alloc _⟩
    case round =>
      obtain ⟨j, hj, rfl, hO, hB⟩ := hrel
      by_cases hlt : j < 13
      · have hl : (rng j).length ≤ 1048576 := by rw [rng_len]; omega
        have hrd := rd_litI wr (j : Int) 2
        have hOa := hO.grew ((Grew.refl wr).alloc (.cells #[.int .i64 (j : Int)] 2))
        have hBa := hB.alloc (.cells #[.int .i64 (j : Int)] 2)
        go_wp2_with (at_builtin; refine wpList_appI (w0 := ((w.alloc (.cells #[] 2)).alloc (.cells #[.int .i64 13, .int .i64 14] 2))) _ _ rfl rfl _ (rng j) rfl hOa hBa _ (j : Int) rfl hrd hl ?_; intro v1 w1 hown1 hg1 hgb)
        go_roundw
        case rel => exact ⟨j + 1, by omega, by go_num, by rw [rng_succ]; exact hown1, hg1⟩
        case measure => simp [intOf]; omega
      · obtain rfl : j = 13 := by omega
        have hl : (rng 13).length + ([13, 14] : List Int).length ≤ 1048576 := by rw [rng_len]; decide
        have hI := hM.out.grew hB
        go_wp2_with (at_builtin; refine wpList_appIs (w0 := ((w.alloc (.cells #[] 2)).alloc (.cells #[.int .i64 13, .int .i64 14] 2))) _ _ rfl rfl _ (rng 13) rfl hO hB _ [13, 14] rfl hI hl ?_; intro v1 w1 hown1 hg1 _)
        go_ret
        exact ⟨_, rfl, hown1.base hG.out.size, hG.out.trans hg1⟩
  | false =>
  cases h7 : (s.toList == [83, 53]) with
  | true =>
    simp only [if_true, Bool.false_eq_true, if_false]
    go_enter Tryz.func35, Tryz.ntmps35
    have hM : Ints ((w.alloc (.cells #[] 2)).alloc (.cells #[.int .i64 13, .int .i64 15] 2)) (.slice (some ⟨w.heap.size + 1, 0, none⟩) 2 2) [13, 15] := by have h9 := (litI2 (w.alloc (.cells #[] 2)) 13 15).ints; simpa using h9
    have hG : Grew w ((w.alloc (.cells #[] 2)).alloc (.cells #[.int .i64 13, .int .i64 15] 2)) := ((Grew.refl w).alloc _).alloc _
    have hM := Lib.hid hM
    have hG := Lib.hid hG
    go_wp2_with fail
    go_loopw [5, 6] (fun v i wr => ∃ j : Nat, j ≤ 13 ∧ i = .int .i64 j ∧ OwnI wr ((w.alloc (.cells #[] 2)).alloc (.cells #[.int .i64 13, .int .i64 15] 2)).heap.size v (rng j) ∧ Grew ((w.alloc (.cells #[] 2)).alloc (.cells #[.int .i64 13, .int .i64 15] 2)) wr) (fun _ i _ => 13 - (intOf i).toNat)
    case atStart => exact ⟨0, Nat.zero_le _, rfl, by first | exact own_emptyI _ | (have h9 := own_emptyI ((w.alloc (.cells #[] 2)).alloc (.cells #[.int .i64 13, .int .i64 15] 2)); simpa [rng_zero] using h9), (Grew.refl _).alloc _⟩
    case round =>
      obtain ⟨j, hj, rfl, hO, hB⟩ := hrel
      by_cases hlt : j < 13
      · have hl : (rng j).length ≤ 1048576 := by rw [rng_len]; omega
        have hrd := rd_litI wr (j : Int) 2
        have hOa := hO.grew ((Grew.refl wr).alloc (.cells #[.int .i64 (j : Int)] 2))
        have hBa := hB.alloc (.cells #[.int .i64 (j : Int)] 2)
        go_wp2_with (at_builtin; refine wpList_appI (w0 := ((w.alloc (.cells #[] 2)).alloc (.cells #[.int .i64 13, .int .i64 15] 2))) _ _ rfl rfl _ (rng j) rfl hOa hBa _ (j : Int) rfl hrd hl ?_; intro v1 w1 hown1 hg1 hgb)
        go_roundw
        case rel => exact ⟨j + 1, by omega, by go_num, by rw [rng_succ]; exact hown1, hg1⟩
        case measure => simp [intOf]; omega
      · obtain rfl : j = 13 := by omega
        have hl : (rng 13).length + ([13, 15] : List Int).length ≤ 1048576 := by rw [rng_len]; decide
        have hI := hM.out.grew hB
        go_wp2_with (at_builtin; refine wpList_appIs (w0 := ((w.alloc (.cells #[] 2)).alloc (.cells #[.int .i64 13, .int .i64 15] 2))) _ _ rfl rfl _ (rng 13) rfl hO hB _ [13, 15] rfl hI hl ?_; intro v1 w1 hown1 hg1 _)
        go_ret
        exact ⟨_, rfl, hown1.base hG.out.size, hG.out.trans hg1⟩
  | false =>
  cases h8 : (s.toList == [75, 66]) with
  | true =>
    simp only [if_true, Bool.false_eq_true, if_false]
    go_enter Tryz.func35, Tryz.ntmps35
    have hM : Ints ((w.alloc (.cells #[] 2)).alloc (.cells #[.int .i64 16] 2)) (.slice (some ⟨w.heap.size + 1, 0, none⟩) 1 1) [16] := by have h9 := (litI1 (w.alloc (.cells #[] 2)) 16).ints; simpa using h9
    have hG : Grew w ((w.alloc (.cells #[] 2)).alloc (.cells #[.int .i64 16] 2)) := ((Grew.refl w).alloc _).alloc _
    have hM := Lib.hid hM
    have hG := Lib.hid hG
    go_wp2_with fail
    go_loopw [5, 6] (fun v i wr => ∃ j : Nat, j ≤ 13 ∧ i = .int .i64 j ∧ OwnI wr ((w.alloc (.cells #[] 2)).alloc (.cells #[.int .i64 16] 2)).heap.size v (rng j) ∧ Grew ((w.alloc (.cells #[] 2)).alloc (.cells #[.int .i64 16] 2)) wr) (fun _ i _ => 13 - (intOf i).toNat)
    case atStart => exact ⟨0, Nat.zero_le _, rfl, by first | exact own_emptyI _ | (have h9 := own_emptyI ((w.alloc (.cells #[] 2)).alloc (.cells #[.int .i64 16] 2)); simpa [rng_zero] using h9), (Grew.refl _).alloc _⟩
    case round =>
      obtain ⟨j, hj, rfl, hO, hB⟩ := hrel
      by_cases hlt : j < 13
      · have hl : (rng j).length ≤ 1048576 := by rw [rng_len]; omega
        have hrd := rd_litI wr (j : Int) 2
        have hOa := hO.grew ((Grew.refl wr).alloc (.cells #[.int .i64 (j : Int)] 2))
        have hBa := hB.alloc (.cells #[.int .i64 (j : Int)] 2)
        go_wp2_with (at_builtin; refine wpList_appI (w0 := ((w.alloc (.cells #[] 2)).alloc (.cells #[.int .i64 16] 2))) _ _ rfl rfl _ (rng j) rfl hOa hBa _ (j : Int) rfl hrd hl ?_; intro v1 w1 hown1 hg1 hgb)
        go_roundw
        case rel => exact ⟨j + 1, by omega, by go_num, by rw [rng_succ]; exact hown1, hg1⟩
        case measure => simp [intOf]; omega
      · obtain rfl : j = 13 := by omega
        have hl : (rng 13).length + ([16] : List Int).length ≤ 1048576 := by rw [rng_len]; decide
        have hI := hM.out.grew hB
        go_wp2_with (at_builtin; refine wpList_appIs (w0 := ((w.alloc (.cells #[] 2)).alloc (.cells #[.int .i64 16] 2))) _ _ rfl rfl _ (rng 13) rfl hO hB _ [16] rfl hI hl ?_; intro v1 w1 hown1 hg1 _)
        go_ret
        exact ⟨_, rfl, hown1.base hG.out.size, hG.out.trans hg1⟩
  | false =>
  cases h9 : (s.toList == [71, 76]) with
  | true =>
    simp only [if_true, Bool.false_eq_true, if_false]
    go_enter Tryz.func35, Tryz.ntmps35
    have hM : Ints ((w.alloc (.cells #[] 2)).alloc (.cells #[.int .i64 18] 2)) (.slice (some ⟨w.heap.size + 1, 0, none⟩) 1 1) [18] := by have h9 := (litI1 (w.alloc (.cells #[] 2)) 18).ints; simpa using h9
    have hG : Grew w ((w.alloc (.cells #[] 2)).alloc (.cells #[.int .i64 18] 2)) := ((Grew.refl w).alloc _).alloc _
    have hM := Lib.hid hM
    have hG := Lib.hid hG
    go_wp2_with fail
    go_loopw [5, 6] (fun v i wr => ∃ j : Nat, j ≤ 13 ∧ i = .int .i64 j ∧ OwnI wr ((w.alloc (.cells #[] 2)).alloc (.cells #[.int .i64 18] 2)).heap.size v (rng j) ∧ Grew ((w.alloc (.cells #[] 2)).alloc (.cells #[.int .i64 18] 2)) wr) (fun _ i _ => 13 - (intOf i).toNat)
    case atStart => exact ⟨0, Nat.zero_le _, rfl, by first | exact own_emptyI _ | (have h9 := own_emptyI ((w.alloc (.cells #[] 2)).alloc (.cells #[.int .i64 18] 2)); simpa [rng_zero] using h9), (Grew.refl _).alloc _⟩
    case round =>
      obtain ⟨j, hj, rfl, hO, hB⟩ := hrel
      by_cases hlt : j < 13
      · have hl : (rng j).length ≤ 1048576 := by rw [rng_len]; omega
        have hrd := rd_litI wr (j : Int) 2
        have hOa := hO.grew ((Grew.refl wr).alloc (.cells #[.int .i64 (j : Int)] 2))
        have hBa := hB.alloc (.cells #[.int .i64 (j : Int)] 2)
        go_wp2_with (at_builtin; refine wpList_appI (w0 := ((w.alloc (.cells #[] 2)).alloc (.cells #[.int .i64 18] 2))) _ _ rfl rfl _ (rng j) rfl hOa hBa _ (j : Int) rfl hrd hl ?_; intro v1 w1 hown1 hg1 hgb)
        go_roundw
        case rel => exact ⟨j + 1, by omega, by go_num, by rw [rng_succ]; exact hown1, hg1⟩
        case measure => simp [intOf]; omega
      · obtain rfl : j = 13 := by omega
        have hl : (rng 13).length + ([18] : List Int).length ≤ 1048576 := by rw [rng_len]; decide
        have hI := hM.out.grew hB
        go_wp2_with (at_builtin; refine wpList_appIs (w0 := ((w.alloc (.cells #[] 2)).alloc (.cells #[.int .i64 18] 2))) _ _ rfl rfl _ (rng 13) rfl hO hB _ [18] rfl hI hl ?_; intro v1 w1 hown1 hg1 _)
        go_ret
        exact ⟨_, rfl, hown1.base hG.out.size, hG.out.trans hg1⟩
  | false =>
  simp only [Bool.false_eq_true, if_false]
  go_enter Tryz.func35, Tryz.ntmps35
  have hal := fun o => (Grew.refl w).alloc o
  go_wp2_with fail
  go_ret
  exact ⟨.slice none 0 0, rfl, OwnI.nil_ _ _, hal _⟩
end Go.Proofs.YtnbnhapepcegpaaGreatDoor

/- Two lists of nodes that agree as far as k. -/
namespace Go.Proofs.YtnbnhapepcegpaaGreatDoor
open Go.RowKit
open Fm (Nd)

/-- Two lists that agree as far as k. -/
def Agree (xs ys : List Nd) (k : Nat) : Prop := ∀ i, i < k → kd xs i = kd ys i ∧ sy xs i = sy ys i
theorem Agree.zero (xs ys : List Nd) : Agree xs ys 0 := fun i hi => absurd hi (by omega)
theorem Agree.succ {xs ys : List Nd} {k : Nat} (h : Agree xs ys k) (h1 : kd xs k = kd ys k) (h2 : sy xs k = sy ys k) : Agree xs ys (k + 1) := by
  intro i hi
  rcases Nat.lt_or_ge i k with hk | hk
  · exact h i hk
  · obtain rfl : i = k := by omega
    exact ⟨h1, h2⟩
end Go.Proofs.YtnbnhapepcegpaaGreatDoor

/- The laws' own helpers on slices of nodes: eqNode, eqNodeS. -/
namespace Go.Proofs.YtnbnhapepcegpaaGreatDoor
open Go.RowKit
open Fm (Nd)

theorem eqNode_c (a b c d : Int) (w : World) :
    Calls Tryz.prog 34 #[.agg #[.int .i64 a, .int .i64 b], .agg #[.int .i64 c, .int .i64 d]] w fun e w' => e = .returned (.bool (a == c && b == d)) ∧ Grew w w' := by
  have hz : ∀ o1 o2, Grew w ((w.alloc o1).alloc o2) := fun o1 o2 => ((Grew.refl _).alloc _).alloc _
  go_enter Tryz.func34, Tryz.ntmps34
  go_wp2
  · have h1 : (a != c) = true := by assumption
    go_ret
    exact ⟨by have : (a == c) = false := by simpa using h1
              simp [this], hz _ _⟩
  · have h1 : (a != c) = false := by assumption
    have h2 : (b != d) = true := by assumption
    go_ret
    exact ⟨by have : (b == d) = false := by simpa using h2
              simp [this], hz _ _⟩
  · have h1 : (a != c) = false := by assumption
    have h2 : (b != d) = false := by assumption
    go_ret
    exact ⟨by simp at h1 h2; simp [h1, h2], hz _ _⟩

/-- Two lists that are equal, at any two values. -/
theorem eqNodeS_yes (v1 v2 : Value) (xs : List Nd) (w : World) (h1 : Nodes w v1 xs) (h2 : Nodes w v2 xs) (hn : xs.length ≤ 4611686018427387904) :
    Calls Tryz.prog 15 #[v1, v2] w fun e w' => e = .returned (.bool true) ∧ Grew w w' := by
  rcases h1.open_ with ⟨rfl, rfl⟩ | ⟨b1, o1, c1, rfl, hc1, hm1, hb1, hf⟩
  · rcases h2.open_ with ⟨rfl, _⟩ | ⟨b2, o2, c2, rfl, _⟩
    all_goals
      go_enter Tryz.func15, Tryz.ntmps15
      go_wp2_with fail
      refine wp_loop_rounds 1 ?_; rw [rounds_succ]
      go_wp2_with fail
      go_ret
      exact ⟨rfl, Grew.refl _⟩
  · rcases h2.open_ with ⟨rfl, rfl⟩ | ⟨b2, o2, c2, rfl, hc2, hm2, hb2, hh⟩
    · go_enter Tryz.func15, Tryz.ntmps15
      go_wp2_with fail
      refine wp_loop_rounds 1 ?_; rw [rounds_succ]
      go_wp2_with fail
      go_ret
      exact ⟨rfl, Grew.refl _⟩
    · clear h1 h2
      generalize hN : xs.length = n at *
      clear hN
      go_enter Tryz.func15, Tryz.ntmps15
      go_wp2_with fail
      go_loopw [5] (fun i wr => ∃ j : Nat, j ≤ n ∧ i = .int .i64 j ∧ Grew w wr) (fun i _ => n - (intOf i).toNat)
      case atStart => exact ⟨0, Nat.zero_le _, rfl, Grew.refl _⟩
      case round =>
        obtain ⟨j, hj, rfl, hB⟩ := hrel
        by_cases hlt : j < n
        · have k1 : ∀ W, Grew w W → W.cell? ⟨b1, o1 + j * 2, none⟩ = some (.int .i64 (kd xs j)) := fun W hW => (hf j hlt W hW).1
          have k2 : ∀ W, Grew w W → W.cell? ⟨b1, o1 + j * 2 + 1, none⟩ = some (.int .i64 (sy xs j)) := fun W hW => (hf j hlt W hW).2
          have k3 : ∀ W, Grew w W → W.cell? ⟨b2, o2 + j * 2, none⟩ = some (.int .i64 (kd xs j)) := fun W hW => (hh j hlt W hW).1
          have k4 : ∀ W, Grew w W → W.cell? ⟨b2, o2 + j * 2 + 1, none⟩ = some (.int .i64 (sy xs j)) := fun W hW => (hh j hlt W hW).2
          clear hf hh
          go_wp2_with fail
          go_region_held3 (fun w' => Grew w w') (first | assumption | exact Grew.drew ‹_› | exact Grew.trans ‹_› ‹_›)
            (first | (go_at_call 34; refine (eqNode_c _ _ _ _ _).mono ?_; rintro e w' ⟨rfl, hB1⟩))
          go_wp2_with fail
          go_roundw
          case rel => exact ⟨j + 1, by omega, by go_num, by assumption⟩
          case measure => simp [intOf]; omega
        · go_wp2_with fail
          go_ret
          exact ⟨rfl, by assumption⟩

end Go.Proofs.YtnbnhapepcegpaaGreatDoor

/- make of rows of elements of several cells; the blocks of three allocations. -/
namespace Go.Proofs.YtnbnhapepcegpaaGreatDoor
open Go.RowKit

theorem run_make_rows {P : Program} (t e : TypeId) (z : Value) (size bytes : Nat) (zs : Array Value) (ht : P.underlying t = some (.slice e)) (hinfo : (P.info? e).map (fun i => (i.zero, i.size, i.bytes)) = some (some z, size, bytes)) (hzs : z.cells = zs)
    (kl kc : IntKind) (n : Nat) (hbytes : bytes * n ≤ 281474976710656) (h63 : n ≤ 9223372036854775807) (w : World) :
    (Instr.makeSlice t (.int kl (n : Int)) (.int kc (n : Int))).run P w = .ok (.slice (some ⟨w.heap.size, 0, none⟩) n n) (w.alloc (.cells (madeCells zs (n * size)) e)) := by
  obtain ⟨i, hi, hz, hs, hb⟩ := info_parts hinfo
  have hb' : (i.bytes : Int) * (n : Int) ≤ 281474976710656 := by
    rw [hb]
    have h : ((bytes * n : Nat) : Int) ≤ 281474976710656 := by omega
    rwa [Int.natCast_mul] at h
  have hr := run_make (P := P) w t e i z ht hi hz kl kc n n (by omega) (Int.le_refl _) hb' (by omega)
  simp only [Int.toNat_natCast, hs, hzs] at hr
  exact hr

theorem blk3_mid (w : World) (a b c : Obj) : (((w.alloc a).alloc b).alloc c).heap[w.heap.size + 1]? = some b := by
  have h := blk_new (w.alloc a) b
  have e : (w.alloc a).heap.size = w.heap.size + 1 := by simp
  rw [e] at h
  have h2 := ((Grew.refl ((w.alloc a).alloc b)).alloc c).block (k := w.heap.size + 1) (by simp)
  rw [h2, h]
end Go.Proofs.YtnbnhapepcegpaaGreatDoor

/- The laws' own helpers on slices of nodes that came in: szNodeS, toNodeS. -/
namespace Go.Proofs.YtnbnhapepcegpaaGreatDoor
open Go.RowKit
open Fm (Nd)

/-- A list of nodes that came in. -/
def ArgN (w : World) (v : Value) (xs : List Nd) : Prop := (∃ A c, v = .slice A xs.length c ∧ xs.length ≤ 9223372036854775807) ∧ (0 < xs.length → Nodes w v xs)
theorem ArgN.grew {w w' : World} {v : Value} {xs : List Nd} (h : ArgN w v xs) (hg : Grew w w') : ArgN w' v xs := ⟨h.1, fun hp => (h.2 hp).grew hg⟩

theorem szNodeS_c (v : Value) (xs : List Nd) (left : Int) (w : World) (h : ArgN w v xs) (h0 : 0 ≤ left) (h1 : left ≤ 1048576) :
    Calls Tryz.prog 20 #[v, .int .i64 left] w fun e w' => ∃ r : Int, e = .returned (.int .i64 r) ∧ (r ≤ 1048576 ∧ (0 ≤ r → xs.length ≤ 1048576)) ∧ Grew w w' := by
  obtain ⟨⟨A, c, rfl, hmax⟩, _⟩ := h
  by_cases hlong : left < xs.length
  · go_enter Tryz.func20, Tryz.ntmps20
    go_wp2_with fail
    go_ret
    exact ⟨_, rfl, ⟨by omega, fun h => absurd h (by omega)⟩, Grew.refl _⟩
  · go_enter Tryz.func20, Tryz.ntmps20
    go_wp2_with fail
    go_ret
    exact ⟨_, rfl, ⟨by omega, fun h => by omega⟩, Grew.refl _⟩

theorem toNode_c (a b : Int) (w : World) :
    Calls Tryz.prog 38 #[.agg #[.int .i64 a, .int .i64 b]] w fun e w' => e = .returned (.agg #[.int .i64 a, .int .i64 b]) ∧ Grew w w' := by
  go_enter Tryz.func38, Tryz.ntmps38
  go_wp2_with fail
  (try simp only [Exit.inBlock, Exit.then])
  have hinfo : (Tryz.prog.info? 68).map (·.size) = some 2 := by kernel_rfl
  refine bodyPost_ret (results_cell_row rfl _ _ (w.heap.size + 1) _ _ _ _ rfl (blk3_mid w _ _ _) Tryz.underlying68 rfl hinfo) rfl ?_
  exact ⟨rfl, (((Grew.refl w).alloc _).alloc _).alloc _⟩

theorem toNodeS_c (v : Value) (xs : List Nd) (w : World) (h : ArgN w v xs) (hn : xs.length ≤ 1048576) :
    Calls Tryz.prog 24 #[v] w (Gives w xs) := by
  obtain ⟨⟨A, c, rfl, hmax⟩, hS⟩ := h
  have hmk := fun W => run_make_rows (P := Tryz.prog) 35 68 (.agg #[.int .i64 0, .int .i64 0]) 2 16 #[.int .i64 0, .int .i64 0] Tryz.underlying35 Tryz.infoNd rfl .i64 .i64 xs.length (by omega) (by omega) W
  have hend : ∀ cur w', w'.heap[w.heap.size]? = some (.cells cur 68 (0, 0)) → cur.size = xs.length * 2 → (∀ i, i < xs.length → cur[i * 2]? = some (.int .i64 (kd xs i)) ∧ cur[i * 2 + 1]? = some (.int .i64 (sy xs i))) → Own w' w.heap.size (.slice (some ⟨w.heap.size, 0, none⟩) xs.length xs.length) xs :=
    fun cur w' h1 h2 h3 => Own.mk_ (Nat.le_refl _) h1 (Nat.le_refl _) (by omega) h2 h3
  have HE := Lib.hid hend
  clear hend
  have hsz : (madeCells #[Value.int .i64 0, .int .i64 0] (xs.length * 2)).size = xs.length * 2 := size_madeCells _ _
  have hnew := blk_new w (.cells (madeCells #[Value.int .i64 0, .int .i64 0] (xs.length * 2)) 68)
  have hal := (Grew.refl w).alloc (.cells (madeCells #[Value.int .i64 0, .int .i64 0] (xs.length * 2)) 68)
  generalize madeCells #[Value.int .i64 0, .int .i64 0] (xs.length * 2) = cur0 at *
  by_cases hp : 0 < xs.length
  · rcases (hS hp).open_ with ⟨_, h2⟩ | ⟨b, o, c', hv, hc, hm, hb, hcell⟩
    · rw [h2] at hp; cases hp
    obtain ⟨rfl, rfl⟩ : A = some ⟨b, o, none⟩ ∧ c = c' := by simpa using hv
    clear hS hv
    have HC := Lib.hid hcell
    clear hcell
    generalize hN : xs.length = n at *
    clear hN
    have HNEW := Lib.hid hnew
    clear hnew
    have HAL := Lib.hid hal
    clear hal
    go_enter Tryz.func24, Tryz.ntmps24
    go_wp2_with fail
    go_loopw [4] (fun i wr => ∃ (j : Nat) (cur : Array Value), j ≤ n ∧ i = .int .i64 j ∧ wr.heap[w.heap.size]? = some (.cells cur 68 (0, 0)) ∧ cur.size = n * 2 ∧ Grew w wr ∧ Hid (∀ i, i < j → cur[i * 2]? = some (.int .i64 (kd xs i)) ∧ cur[i * 2 + 1]? = some (.int .i64 (sy xs i)))) (fun i _ => n - (intOf i).toNat)
    case atStart => exact ⟨0, cur0, Nat.zero_le _, rfl, HNEW.out, hsz, HAL.out, fun i hi => absurd hi (by omega)⟩
    case round =>
      obtain ⟨j, cur, hj, rfl, hh, hcs, hB, HD⟩ := hrel
      by_cases hlt : j < n
      · have k1 := (HC.out j hlt _ hB).1
        have k2 := (HC.out j hlt _ hB).2
        have HS := Lib.hid (pair_step (F := fun i => .int .i64 (kd xs i)) (G := fun i => .int .i64 (sy xs i)) (j := j) (by omega) HD.out)
        have HH := Lib.hid hh
        clear hh
        generalize kd xs j = x at *
        generalize sy xs j = y at *
        go_wp2_with fail
        refine (toNode_c x y _).mono ?_
        rintro e w1 ⟨rfl, hg1⟩
        have hh := (hg1.block (blk_lt HH.out)).trans HH.out
        have f1 : ∀ i, w1.frozen? ⟨w.heap.size, i, none⟩ = false := fun i => blk_frozen hh i
        have f2 : ∀ i k u, (w1.setCell ⟨w.heap.size, k, none⟩ u).frozen? ⟨w.heap.size, i, none⟩ = false := fun i k u => blk_frozen (blk_set hh k u) i
        obtain ⟨u1, hu1⟩ : ∃ u, w1.cell? ⟨w.heap.size, j * 2, none⟩ = some u := by
          rw [blk_cell hh]
          exact ⟨_, Array.getElem?_eq_getElem (by omega)⟩
        obtain ⟨u2, hu2⟩ : ∃ u, w1.cell? ⟨w.heap.size, j * 2 + 1, none⟩ = some u := by
          rw [blk_cell hh]
          exact ⟨_, Array.getElem?_eq_getElem (by omega)⟩
        have HH1 := Lib.hid hh
        clear hh
        go_wp2_with fail
        go_roundw
        case rel => exact ⟨j + 1, _, by omega, by go_num, blk_set (blk_set HH1.out _ _) _ _, by simp [hcs], ((hB.trans hg1).setCell (Nat.le_refl _) _).setCell (Nat.le_refl _) _, HS.out⟩
        case measure => simp [intOf]; omega
      · obtain rfl : j = n := by omega
        have HH := Lib.hid hh
        clear hh
        go_wp2_with fail
        go_ret
        exact ⟨_, rfl, HE.out _ _ HH.out hcs HD.out, hB⟩
  · have hp0 : xs.length ≤ 0 := by omega
    have HNEW := Lib.hid hnew
    clear hnew hS hp
    have HAL := Lib.hid hal
    clear hal
    generalize hN : xs.length = n at *
    clear hN
    go_enter Tryz.func24, Tryz.ntmps24
    go_wp2_with fail
    refine wp_loop_rounds 1 ?_; rw [rounds_succ]
    go_wp2_with fail
    go_ret
    exact ⟨_, rfl, HE.out _ _ HNEW.out hsz (fun i hi => absurd hi (by omega)), HAL.out⟩
end Go.Proofs.YtnbnhapepcegpaaGreatDoor

/- A cell that is read lies in a block that is there. -/
namespace Go.Proofs.YtnbnhapepcegpaaGreatDoor
open Go.RowKit

theorem cell_lt {w : World} {a : Addr} {u : Value} (h : w.cell? a = some u) : a.block < w.heap.size := by
  unfold World.cell? at h
  split at h
  · rename_i hh
    exact (Array.getElem?_eq_some_iff.1 hh).1
  · cases h

end Go.Proofs.YtnbnhapepcegpaaGreatDoor

/- Slices of lines of Hilbert proofs in memory. -/
namespace Go.Proofs.YtnbnhapepcegpaaGreatDoor
open Go.RowKit
open Fm (Nd)

abbrev Hl := Int × Int × Int × List Nd
/-- The cells of one. -/
def HlCells (w : World) (b o : Nat) (x : Hl) (u : Value) : Prop :=
  w.cell? ⟨b, o, none⟩ = some (.int .i64 x.1) ∧ w.cell? ⟨b, o + 1, none⟩ = some (.int .i64 x.2.1) ∧ w.cell? ⟨b, o + 2, none⟩ = some (.int .i64 x.2.2.1) ∧ w.cell? ⟨b, o + 3, none⟩ = some u
theorem HlCells.grew {w w' : World} {b o : Nat} {x : Hl} {u : Value} (h : HlCells w b o x u) (hb : b < w.heap.size) (hg : Grew w w') : HlCells w' b o x u :=
  ⟨(hg.cell (p := ⟨b, o, none⟩) hb).trans h.1, (hg.cell (p := ⟨b, o + 1, none⟩) hb).trans h.2.1, (hg.cell (p := ⟨b, o + 2, none⟩) hb).trans h.2.2.1, (hg.cell (p := ⟨b, o + 3, none⟩) hb).trans h.2.2.2⟩
/-- The value reads as the list; the inner lists are read by PN. -/
def HlRd (PN : World → Value → List Nd → Prop) (w : World) (v : Value) (xs : List Hl) : Prop :=
  (v = .slice none 0 0 ∧ xs = []) ∨ ∃ b o c, v = .slice (some ⟨b, o, none⟩) xs.length c ∧ xs.length ≤ c ∧ c ≤ 9223372036854775807 ∧ b < w.heap.size ∧
    ∀ i x, xs[i]? = some x → ∃ u, HlCells w b (o + i * 4) x u ∧ PN w u x.2.2.2
theorem HlRd.grew {PN : World → Value → List Nd → Prop} (hN : ∀ w w' v L, Grew w w' → PN w v L → PN w' v L) {w w' : World} {v : Value} {xs : List Hl} (h : HlRd PN w v xs) (hg : Grew w w') : HlRd PN w' v xs := by
  rcases h with h | ⟨b, o, c, h1, h2, h3, h4, h5⟩
  · exact .inl h
  · refine .inr ⟨b, o, c, h1, h2, h3, Nat.lt_of_lt_of_le h4 hg.size, fun i x hx => ?_⟩
    obtain ⟨u, k1, k2⟩ := h5 i x hx
    exact ⟨u, k1.grew h4 hg, hN _ _ _ _ hg k2⟩
/-- The value reads as the list. -/
def Hls (w : World) (v : Value) (xs : List Hl) : Prop := HlRd Nodes w v xs
theorem Hls.grew {w w' : World} {v : Value} {xs : List Hl} (h : Hls w v xs) (hg : Grew w w') : Hls w' v xs := HlRd.grew (fun _ _ _ _ g k => k.grew g) h hg
/-- A list that came in. -/
def ArgHl (w : World) (v : Value) (xs : List Hl) : Prop :=
  (∃ A c, v = .slice A xs.length c ∧ xs.length ≤ 9223372036854775807) ∧ (0 < xs.length → HlRd ArgN w v xs)
theorem ArgHl.grew {w w' : World} {v : Value} {xs : List Hl} (h : ArgHl w v xs) (hg : Grew w w') : ArgHl w' v xs := ⟨h.1, fun hp => HlRd.grew (fun _ _ _ _ g k => k.grew g) (h.2 hp) hg⟩
theorem Hls_slice {w : World} {v : Value} {xs : List Hl} (h : Hls w v xs) : ∃ A c, v = .slice A xs.length c := by
  rcases h with ⟨rfl, rfl⟩ | ⟨b, o, c, rfl, _⟩
  · exact ⟨_, _, rfl⟩
  · exact ⟨_, _, rfl⟩
theorem HlRd.open_ {PN : World → Value → List Nd → Prop} {w : World} {v : Value} {xs : List Hl} (h : HlRd PN w v xs) (hp : 0 < xs.length) : ∃ b o c, v = .slice (some ⟨b, o, none⟩) xs.length c ∧ xs.length ≤ c ∧ c ≤ 9223372036854775807 ∧ b < w.heap.size ∧
    ∀ i x, xs[i]? = some x → ∃ u, (∀ W, Grew w W → HlCells W b (o + i * 4) x u) ∧ PN w u x.2.2.2 := by
  rcases h with ⟨_, h⟩ | ⟨b, o, c, h1, h2, h3, h4, h5⟩
  · rw [h] at hp; cases hp
  · refine ⟨b, o, c, h1, h2, h3, h4, fun i x hx => ?_⟩
    obtain ⟨u, k1, k2⟩ := h5 i x hx
    exact ⟨u, fun W hW => k1.grew h4 hW, k2⟩

/-- The cells of one in a row. -/
def HlRow (cur : Array Value) (k : Nat) (x : Hl) (u : Value) : Prop :=
  cur[k]? = some (.int .i64 x.1) ∧ cur[k + 1]? = some (.int .i64 x.2.1) ∧ cur[k + 2]? = some (.int .i64 x.2.2.1) ∧ cur[k + 3]? = some u
/-- A row of the call's own, with rows of the call's own. -/
def OwnHl (w : World) (B : Nat) (v : Value) (xs : List Hl) : Prop :=
  (v = .slice none 0 0 ∧ xs = []) ∨ ∃ g c cur, v = .slice (some ⟨g, 0, none⟩) xs.length c ∧ B ≤ g ∧ w.heap[g]? = some (.cells cur 51 (0, 0)) ∧ xs.length ≤ c ∧ c ≤ 9223372036854775807 ∧ cur.size = c * 4 ∧
    ∀ i x, xs[i]? = some x → ∃ u, HlRow cur (i * 4) x u ∧ Own w B u x.2.2.2
theorem OwnHl.grew {w w' : World} {B : Nat} {v : Value} {xs : List Hl} (h : OwnHl w B v xs) (hg : Grew w w') : OwnHl w' B v xs := by
  rcases h with h | ⟨g, c, cur, h1, h2, h3, h4, h5, h6, h7⟩
  · exact .inl h
  · refine .inr ⟨g, c, cur, h1, h2, (hg.block (blk_lt h3)).trans h3, h4, h5, h6, fun i x hx => ?_⟩
    obtain ⟨u, k1, k2⟩ := h7 i x hx
    exact ⟨u, k1, k2.grew hg⟩
theorem OwnHl.base {w : World} {B B' : Nat} {v : Value} {xs : List Hl} (h : OwnHl w B v xs) (hb : B' ≤ B) : OwnHl w B' v xs := by
  rcases h with h | ⟨g, c, cur, h1, h2, h3, h4, h5, h6, h7⟩
  · exact .inl h
  · refine .inr ⟨g, c, cur, h1, Nat.le_trans hb h2, h3, h4, h5, h6, fun i x hx => ?_⟩
    obtain ⟨u, k1, k2⟩ := h7 i x hx
    exact ⟨u, k1, k2.base hb⟩
theorem HlRow.cells {w : World} {g : Nat} {cur : Array Value} {t : TypeId} {k : Nat} {x : Hl} {u : Value} (h : HlRow cur k x u) (hg : w.heap[g]? = some (.cells cur t (0, 0))) : HlCells w g k x u :=
  ⟨(blk_cell hg _).trans h.1, (blk_cell hg _).trans h.2.1, (blk_cell hg _).trans h.2.2.1, (blk_cell hg _).trans h.2.2.2⟩
theorem OwnHl.rd {w : World} {B : Nat} {v : Value} {xs : List Hl} (h : OwnHl w B v xs) : Hls w v xs := by
  rcases h with h | ⟨g, c, cur, h1, h2, h3, h4, h5, h6, h7⟩
  · exact .inl h
  · refine .inr ⟨g, 0, c, h1, h4, h5, blk_lt h3, fun i x hx => ?_⟩
    obtain ⟨u, k1, k2⟩ := h7 i x hx
    refine ⟨u, ?_, k2.nodes⟩
    rw [Nat.zero_add]
    exact k1.cells h3
/-- None is larger than memory. -/
def FitHl (x : Hl) : Prop := x.2.2.2.length ≤ 1048576
def FitsHl (xs : List Hl) : Prop := ∀ x ∈ xs, FitHl x
/-- The sizes' walk. -/
def SizesHl (xs : List Hl) (r : Int) : Prop := r ≤ 1048576 ∧ (0 ≤ r → xs.length ≤ 1048576 ∧ FitsHl xs)
theorem infoHl : (Tryz.prog.info? 51).map (fun i => (i.zero, i.size, i.bytes)) = some (some (.agg #[.int .i64 0, .int .i64 0, .int .i64 0, .slice none 0 0]), 4, 48) := by kernel_rfl
end Go.Proofs.YtnbnhapepcegpaaGreatDoor

/- The plain parser: how far it comes, how many nodes it makes, which byte is next. No program is in sight. -/
namespace Go.Proofs.YtnbnhapepcegpaaGreatDoor
namespace Fm

theorem sees_eq {s : List UInt8} {st : St} {c : UInt8} (h : sees s st c = true) : st.2 = false ∧ s[st.1]? = some c := by
  unfold sees at h
  simp only [Bool.and_eq_true, Bool.not_eq_true', beq_iff_eq] at h
  exact h
theorem sees_lt {s : List UInt8} {st : St} {c : UInt8} (h : sees s st c = true) : st.1 < s.length := by
  have := (sees_eq h).2
  rcases Nat.lt_or_ge st.1 s.length with h1 | h1
  · exact h1
  · rw [List.getElem?_eq_none h1] at this; cases this
theorem sees_other {s : List UInt8} {st : St} {c d : UInt8} (h : sees s st c = true) (hne : c ≠ d) : sees s st d = false := by
  obtain ⟨h1, h2⟩ := sees_eq h
  unfold sees
  rw [h1, h2]
  simp [hne]
theorem letter_some {s : List UInt8} {st : St} {v : Nat} (h : letter s st = some v) : v < 6 ∧ sees s st (UInt8.ofNat (112 + v)) = true := by
  unfold letter at h
  split at h
  · cases h
  · rename_i hb
    have hb' : st.2 = false := by simpa using hb
    split at h
    · rename_i c hc
      split at h
      · rename_i hr
        injection h with h
        subst h
        refine ⟨by omega, ?_⟩
        unfold sees
        have e : UInt8.ofNat (112 + (c.toNat - 112)) = c := by
          apply UInt8.toNat_inj.1
          rw [UInt8.toNat_ofNat']
          omega
        rw [hb', hc, e]
        simp
      · cases h
    · cases h
theorem letter_of_sees {s : List UInt8} {st : St} {v : Nat} (hv : v < 6) (h : sees s st (UInt8.ofNat (112 + v)) = true) : letter s st = some v := by
  obtain ⟨h1, h2⟩ := sees_eq h
  unfold letter
  rw [h1, h2]
  have e : (UInt8.ofNat (112 + v)).toNat = 112 + v := by rw [UInt8.toNat_ofNat']; omega
  simp only [e]
  rw [if_neg (by simp), if_pos (by omega)]
  congr 1
  omega
theorem letter_none {s : List UInt8} {st : St} (h : letter s st = none) (v : Nat) (hv : v < 6) : sees s st (UInt8.ofNat (112 + v)) = false := by
  cases hs : sees s st (UInt8.ofNat (112 + v)) with
  | false => rfl
  | true => rw [letter_of_sees hv hs] at h; cases h
theorem letter_ne {s : List UInt8} {st : St} {v i : Nat} (h : letter s st = some v) (hi : i < 6) (hne : i ≠ v) : sees s st (UInt8.ofNat (112 + i)) = false := by
  cases hs : sees s st (UInt8.ofNat (112 + i)) with
  | false => rfl
  | true => rw [letter_of_sees hi hs] at h; injection h with h; exact absurd h hne
theorem letter_of_other {s : List UInt8} {st : St} {c : UInt8} (h : sees s st c = true) (hc : c.toNat < 112 ∨ 117 < c.toNat) : letter s st = none := by
  obtain ⟨h1, h2⟩ := sees_eq h
  unfold letter
  rw [h1, h2]
  simp only
  rw [if_neg (by simp), if_neg (by omega)]

/-- A result that does not run backwards or over the end, and is not too long. -/
def Ok (s : List UInt8) (st : St) (r : Res) : Prop := st.1 ≤ r.2.1 ∧ r.2.1 ≤ s.length ∧ r.1.length ≤ 3 * (r.2.1 - st.1) + 1

theorem need_pos {s : List UInt8} {st : St} {c : UInt8} (h : st.1 ≤ s.length) : st.1 ≤ (need s st c).1 ∧ (need s st c).1 ≤ s.length := by
  unfold need
  split
  · rename_i hs
    have := sees_lt hs
    simp only [step]
    omega
  · exact ⟨Nat.le_refl _, h⟩

theorem loop_ok {s : List UInt8} {k : Int} {c : UInt8} {sub : St → Res} (hsub : ∀ st, st.1 ≤ s.length → Ok s st (sub st)) : ∀ (m : Nat) (a : List Nd) (st st0 : St), st0.1 ≤ st.1 → st.1 ≤ s.length → a.length ≤ 3 * (st.1 - st0.1) + 1 → Ok s st0 (loop s k c sub m a st) := by
  intro m
  induction m with
  | zero => intro a st st0 h1 h2 h3; exact ⟨h1, h2, h3⟩
  | succ m ih =>
    intro a st st0 h1 h2 h3
    unfold loop
    split
    · rename_i hs
      have hlt := sees_lt hs
      have h := hsub (step st) (by simp only [step]; omega)
      obtain ⟨g1, g2, g3⟩ := h
      simp only [step] at g1 g2 g3
      refine ih _ _ st0 (by simp only [step]; omega) (by simp only [step]; omega) ?_
      simp only [join, List.length_cons, List.length_append, step]
      omega
    · exact ⟨h1, h2, h3⟩

theorem andF_ok {s : List UInt8} {m : Nat} {sub : St → Res} (hsub : ∀ st, st.1 ≤ s.length → Ok s st (sub st)) (st : St) (h : st.1 ≤ s.length) : Ok s st (andF s m sub st) := by
  obtain ⟨g1, g2, g3⟩ := hsub st h
  exact loop_ok hsub m _ _ st g1 g2 g3
theorem orF_ok {s : List UInt8} {m : Nat} {sub : St → Res} (hsub : ∀ st, st.1 ≤ s.length → Ok s st (sub st)) (st : St) (h : st.1 ≤ s.length) : Ok s st (orF s m sub st) := by
  obtain ⟨g1, g2, g3⟩ := andF_ok (m := m) hsub st h
  exact loop_ok (fun st h => andF_ok hsub st h) m _ _ st g1 g2 g3
theorem impF_ok {s : List UInt8} {m : Nat} {sub : St → Res} (hsub : ∀ st, st.1 ≤ s.length → Ok s st (sub st)) : ∀ (i : Nat) (st : St), st.1 ≤ s.length → Ok s st (impF s m sub i st) := by
  intro i
  induction i with
  | zero => intro st h; exact orF_ok hsub st h
  | succ i ih =>
    intro st h
    unfold impF
    obtain ⟨g1, g2, g3⟩ := orF_ok (m := m) hsub st h
    dsimp only
    split
    · rename_i hs
      have hlt := sees_lt hs
      obtain ⟨k1, k2, k3⟩ := ih (step (orF s m sub st).2) (by simp only [step]; omega)
      simp only [step] at k1 k2 k3
      refine ⟨by simp only [step]; omega, by simp only [step]; omega, ?_⟩
      simp only [join, List.length_cons, List.length_append, step]
      omega
    · exact ⟨g1, g2, g3⟩
theorem preF_ok {s : List UInt8} {m : Nat} : ∀ (f : Nat) (st : St), st.1 ≤ s.length → Ok s st (preF s m f st) := by
  intro f
  induction f with
  | zero => intro st h; exact ⟨Nat.le_refl _, h, by simp [preF, falsum]⟩
  | succ f ih =>
    intro st h
    unfold preF
    split
    · rename_i hs
      have hlt := sees_lt hs
      obtain ⟨k1, k2, k3⟩ := ih (step st) (by simp only [step]; omega)
      simp only [step] at k1 k2 k3
      refine ⟨by simp only [step]; omega, by simp only [step]; omega, ?_⟩
      simp only [neg, join, falsum, List.length_cons, List.length_append, List.length_nil, step]
      omega
    split
    · rename_i hs
      have hlt := sees_lt hs
      obtain ⟨n1, n2⟩ := need_pos (s := s) (st := step st) (c := 93) (by simp only [step]; omega)
      obtain ⟨k1, k2, k3⟩ := ih (need s (step st) 93) n2
      have e : (step st).1 = st.1 + 1 := rfl
      refine ⟨by simp only; omega, by simp only; omega, ?_⟩
      simp only [pre, List.length_cons]
      omega
    split
    · rename_i hs
      have hlt := sees_lt hs
      obtain ⟨n1, n2⟩ := need_pos (s := s) (st := step st) (c := 62) (by simp only [step]; omega)
      obtain ⟨k1, k2, k3⟩ := ih (need s (step st) 62) n2
      have e : (step st).1 = st.1 + 1 := rfl
      refine ⟨by simp only; omega, by simp only; omega, ?_⟩
      simp only [pre, List.length_cons]
      omega
    split
    · rename_i hs
      have hlt := sees_lt hs
      exact ⟨by simp only [step]; omega, by simp only [step]; omega, by simp [falsum]⟩
    split
    · rename_i hs
      have hlt := sees_lt hs
      exact ⟨by simp only [step]; omega, by simp only [step]; omega, by simp only [truth, step, List.length_cons, List.length_nil]; omega⟩
    split
    · rename_i hs
      have hlt := sees_lt hs
      obtain ⟨k1, k2, k3⟩ := impF_ok (m := m) ih m (step st) (by simp only [step]; omega)
      obtain ⟨n1, n2⟩ := need_pos (s := s) (st := (impF s m (preF s m f) m (step st)).2) (c := 41) k2
      have e : (step st).1 = st.1 + 1 := rfl
      refine ⟨by simp only; omega, n2, ?_⟩
      simp only
      omega
    split
    · rename_i v hv
      have hlt := sees_lt (letter_some hv).2
      exact ⟨by simp only [step]; omega, by simp only [step]; omega, by simp [vari]⟩
    · exact ⟨Nat.le_refl _, h, by simp [falsum]⟩

theorem parse_ok (s : List UInt8) (m : Nat) : Ok s (0, false) (parse s m) := impF_ok (fun st h => preF_ok m st h) m (0, false) (by simp)

theorem preF_not {s : List UInt8} {m f : Nat} {st : St} (h : sees s st 126 = true) : preF s m (f + 1) st = (neg (preF s m f (step st)).1, (preF s m f (step st)).2) := by
  rw [preF, if_pos h]
theorem preF_box {s : List UInt8} {m f : Nat} {st : St} (h : sees s st 91 = true) : preF s m (f + 1) st = (pre 5 (preF s m f (need s (step st) 93)).1, (preF s m f (need s (step st) 93)).2) := by
  rw [preF, if_neg (by rw [sees_other h (by decide)]; decide), if_pos h]
theorem preF_dia {s : List UInt8} {m f : Nat} {st : St} (h : sees s st 60 = true) : preF s m (f + 1) st = (pre 6 (preF s m f (need s (step st) 62)).1, (preF s m f (need s (step st) 62)).2) := by
  rw [preF, if_neg (by rw [sees_other h (by decide)]; decide), if_neg (by rw [sees_other h (by decide)]; decide), if_pos h]
theorem preF_fls {s : List UInt8} {m f : Nat} {st : St} (h : sees s st 70 = true) : preF s m (f + 1) st = (falsum, step st) := by
  rw [preF, if_neg (by rw [sees_other h (by decide)]; decide), if_neg (by rw [sees_other h (by decide)]; decide), if_neg (by rw [sees_other h (by decide)]; decide), if_pos h]
theorem preF_tru {s : List UInt8} {m f : Nat} {st : St} (h : sees s st 84 = true) : preF s m (f + 1) st = (truth, step st) := by
  rw [preF, if_neg (by rw [sees_other h (by decide)]; decide), if_neg (by rw [sees_other h (by decide)]; decide), if_neg (by rw [sees_other h (by decide)]; decide), if_neg (by rw [sees_other h (by decide)]; decide), if_pos h]
theorem preF_par {s : List UInt8} {m f : Nat} {st : St} (h : sees s st 40 = true) : preF s m (f + 1) st = ((impF s m (preF s m f) m (step st)).1, need s (impF s m (preF s m f) m (step st)).2 41) := by
  rw [preF, if_neg (by rw [sees_other h (by decide)]; decide), if_neg (by rw [sees_other h (by decide)]; decide), if_neg (by rw [sees_other h (by decide)]; decide), if_neg (by rw [sees_other h (by decide)]; decide), if_neg (by rw [sees_other h (by decide)]; decide), if_pos h]
theorem sees_low {s : List UInt8} {st : St} {v : Nat} {c : UInt8} (h : letter s st = some v) (hc : c.toNat < 112 ∨ 117 < c.toNat) : sees s st c = false := by
  refine sees_other (letter_some h).2 fun e => ?_
  have := (letter_some h).1
  have h2 : (UInt8.ofNat (112 + v)).toNat = 112 + v := by rw [UInt8.toNat_ofNat']; omega
  rw [e] at h2
  omega
theorem preF_var {s : List UInt8} {m f : Nat} {st : St} {v : Nat} (h : letter s st = some v) : preF s m (f + 1) st = (vari v, step st) := by
  rw [preF, if_neg (by rw [sees_low h (by decide)]; decide), if_neg (by rw [sees_low h (by decide)]; decide), if_neg (by rw [sees_low h (by decide)]; decide), if_neg (by rw [sees_low h (by decide)]; decide), if_neg (by rw [sees_low h (by decide)]; decide), if_neg (by rw [sees_low h (by decide)]; decide), h]
theorem preF_bad {s : List UInt8} {m f : Nat} {st : St} (h1 : sees s st 126 = false) (h2 : sees s st 91 = false) (h3 : sees s st 60 = false) (h4 : sees s st 70 = false) (h5 : sees s st 84 = false) (h6 : sees s st 40 = false) (h : letter s st = none) : preF s m (f + 1) st = (falsum, (st.1, true)) := by
  rw [preF, if_neg (by rw [h1]; decide), if_neg (by rw [h2]; decide), if_neg (by rw [h3]; decide), if_neg (by rw [h4]; decide), if_neg (by rw [h5]; decide), if_neg (by rw [h6]; decide), h]
theorem impF_yes {s : List UInt8} {m i : Nat} {sub : St → Res} {st : St} (h : sees s (orF s m sub st).2 62 = true) : impF s m sub (i + 1) st = (join 4 (orF s m sub st).1 (impF s m sub i (step (orF s m sub st).2)).1, (impF s m sub i (step (orF s m sub st).2)).2) := by
  rw [impF]; dsimp only; rw [if_pos h]
theorem impF_no {s : List UInt8} {m i : Nat} {sub : St → Res} {st : St} (h : sees s (orF s m sub st).2 62 = false) : impF s m sub (i + 1) st = orF s m sub st := by
  rw [impF]; dsimp only; rw [if_neg (by rw [h]; decide)]

end Fm
end Go.Proofs.YtnbnhapepcegpaaGreatDoor

/- Formulas as trees, their lists of nodes and their texts. No program is in sight. -/
namespace Go.Proofs.YtnbnhapepcegpaaGreatDoor
namespace Fm

inductive Tree where
  | var (v : Fin 6)
  | fls
  | and (a b : Tree)
  | or (a b : Tree)
  | imp (a b : Tree)
  | box (a : Tree)
  | dia (a : Tree)

/-- The list of the nodes. -/
def enc : Tree → List Nd
  | .var v => [(0, (v.val : Int))]
  | .fls => [(1, 0)]
  | .and a b => (2, 0) :: (enc a ++ enc b)
  | .or a b => (3, 0) :: (enc a ++ enc b)
  | .imp a b => (4, 0) :: (enc a ++ enc b)
  | .box a => (5, 0) :: enc a
  | .dia a => (6, 0) :: enc a

theorem enc_pos (t : Tree) : 1 ≤ (enc t).length := by cases t <;> simp [enc]

def isF : Tree → Bool
  | .fls => true
  | _ => false
theorem isF_eq {t : Tree} (h : isF t = true) : t = .fls := by cases t <;> simp_all [isF]

/-- How many parts the nodes of a kind have. -/
def arity (k : Int) : Nat := if k = 2 ∨ k = 3 ∨ k = 4 then 2 else if k = 5 ∨ k = 6 then 1 else 0
theorem arity_le (k : Int) : arity k ≤ 2 := by unfold arity; split; omega; split <;> omega

/-- How many nodes are read till no part is open. -/
def scan : List Nd → Nat → Option Nat
  | _, 0 => some 0
  | [], _ + 1 => none
  | x :: xs, o + 1 => (scan xs (o + arity x.1)).map (· + 1)

theorem scan_zero (xs : List Nd) : scan xs 0 = some 0 := by cases xs <;> rfl
theorem scan_nil (o : Nat) : scan [] (o + 1) = none := rfl
theorem scan_cons (x : Nd) (xs : List Nd) (o : Nat) : scan (x :: xs) (o + 1) = (scan xs (o + arity x.1)).map (· + 1) := rfl

theorem scan_enc (t : Tree) : ∀ (rest : List Nd) (o : Nat), scan (enc t ++ rest) (o + 1) = (scan rest o).map (· + (enc t).length) := by
  induction t with
  | var v => intro rest o; simp [enc, scan_cons, arity]
  | fls => intro rest o; simp [enc, scan_cons, arity]
  | and a b iha ihb =>
    intro rest o
    simp only [enc, List.cons_append, scan_cons, List.append_assoc]
    rw [show arity 2 = 2 from rfl, show o + 2 = (o + 1) + 1 from rfl, iha, ihb]
    cases scan rest o <;> simp; omega
  | or a b iha ihb =>
    intro rest o
    simp only [enc, List.cons_append, scan_cons, List.append_assoc]
    rw [show arity 3 = 2 from rfl, show o + 2 = (o + 1) + 1 from rfl, iha, ihb]
    cases scan rest o <;> simp; omega
  | imp a b iha ihb =>
    intro rest o
    simp only [enc, List.cons_append, scan_cons, List.append_assoc]
    rw [show arity 4 = 2 from rfl, show o + 2 = (o + 1) + 1 from rfl, iha, ihb]
    cases scan rest o <;> simp; omega
  | box a iha =>
    intro rest o
    simp only [enc, List.cons_append, scan_cons]
    rw [show arity 5 = 1 from rfl, iha]
    cases scan rest o <;> simp; omega
  | dia a iha =>
    intro rest o
    simp only [enc, List.cons_append, scan_cons]
    rw [show arity 6 = 1 from rfl, iha]
    cases scan rest o <;> simp; omega
theorem scan_one (t : Tree) (rest : List Nd) : scan (enc t ++ rest) 1 = some (enc t).length := by
  rw [scan_enc t rest 0, scan_zero]; simp
theorem scan_le : ∀ (xs : List Nd) (o n : Nat), scan xs o = some n → n ≤ xs.length := by
  intro xs
  induction xs with
  | nil => intro o n h; cases o with
    | zero => simp [scan_zero] at h; omega
    | succ o => simp [scan_nil] at h
  | cons x xs ih => intro o n h; cases o with
    | zero => simp [scan_zero] at h; omega
    | succ o =>
      rw [scan_cons] at h
      cases hs : scan xs (o + arity x.1) with
      | none => rw [hs] at h; simp at h
      | some m => rw [hs] at h; simp at h; have := ih _ _ hs; simp; omega

/-- The level of the grammar at which a text stands. -/
def own : Tree → Nat
  | .and _ _ => 2
  | .or _ _ => 1
  | .imp _ b => if isF b then 3 else 0
  | _ => 3
def wrap (l o : Nat) (s : List UInt8) : List UInt8 := if o < l then [40] ++ s ++ [41] else s
/-- The text at a level. -/
def txt : Tree → Nat → List UInt8
  | .var v, _ => [UInt8.ofNat (112 + v.val)]
  | .fls, _ => [70]
  | .and a b, l => wrap l 2 (txt a 2 ++ [38] ++ txt b 3)
  | .or a b, l => wrap l 1 (txt a 1 ++ [124] ++ txt b 2)
  | .imp a b, l => if isF b then (if isF a then [84] else [126] ++ txt a 3) else wrap l 0 (txt a 1 ++ [62] ++ txt b 0)
  | .box a, _ => [91, 93] ++ txt a 3
  | .dia a, _ => [60, 62] ++ txt a 3

theorem wrap_len (l o : Nat) (s : List UInt8) : (wrap l o s).length ≤ s.length + 2 := by
  unfold wrap; split <;> simp
theorem txt_len (t : Tree) : ∀ l, (txt t l).length ≤ 4 * (enc t).length := by
  induction t with
  | var v => intro l; simp [txt, enc]
  | fls => intro l; simp [txt, enc]
  | and a b iha ihb =>
    intro l
    have := wrap_len l 2 (txt a 2 ++ [38] ++ txt b 3)
    have h1 := iha 2
    have h2 := ihb 3
    simp only [txt, enc, List.length_cons, List.length_append, List.length_nil] at *
    omega
  | or a b iha ihb =>
    intro l
    have := wrap_len l 1 (txt a 1 ++ [124] ++ txt b 2)
    have h1 := iha 1
    have h2 := ihb 2
    simp only [txt, enc, List.length_cons, List.length_append, List.length_nil] at *
    omega
  | imp a b iha ihb =>
    intro l
    have := wrap_len l 0 (txt a 1 ++ [62] ++ txt b 0)
    have h1 := iha 1
    have h2 := ihb 0
    have h3 := iha 3
    have h4 := enc_pos a
    simp only [txt]
    split
    · split
      · simp [enc]; omega
      · simp only [enc, List.length_cons, List.length_append, List.length_nil]; omega
    · simp only [enc, List.length_cons, List.length_append, List.length_nil] at *; omega
  | box a iha =>
    intro l
    have h3 := iha 3
    simp only [txt, enc, List.length_cons, List.length_append, List.length_nil]; omega
  | dia a iha =>
    intro l
    have h3 := iha 3
    simp only [txt, enc, List.length_cons, List.length_append, List.length_nil]; omega

theorem arity_enc (t : Tree) : ∃ x rest, enc t = x :: rest := by cases t <;> exact ⟨_, _, rfl⟩

/-- Every list that the parser makes is that of a tree. -/
def IsEnc (xs : List Nd) : Prop := ∃ t, xs = enc t
theorem isEnc_join {k : Int} {a b : List Nd} (hk : k = 2 ∨ k = 3 ∨ k = 4) (ha : IsEnc a) (hb : IsEnc b) : IsEnc (join k a b) := by
  obtain ⟨s, rfl⟩ := ha
  obtain ⟨t, rfl⟩ := hb
  rcases hk with rfl | rfl | rfl
  · exact ⟨.and s t, rfl⟩
  · exact ⟨.or s t, rfl⟩
  · exact ⟨.imp s t, rfl⟩
theorem isEnc_pre {k : Int} {a : List Nd} (hk : k = 5 ∨ k = 6) (ha : IsEnc a) : IsEnc (pre k a) := by
  obtain ⟨s, rfl⟩ := ha
  rcases hk with rfl | rfl
  · exact ⟨.box s, rfl⟩
  · exact ⟨.dia s, rfl⟩
theorem isEnc_falsum : IsEnc falsum := ⟨.fls, rfl⟩
theorem loop_enc {s : List UInt8} {k : Int} {c : UInt8} {sub : St → Res} (hk : k = 2 ∨ k = 3 ∨ k = 4) (hsub : ∀ st, IsEnc (sub st).1) : ∀ (m : Nat) (a : List Nd) (st : St), IsEnc a → IsEnc (loop s k c sub m a st).1 := by
  intro m
  induction m with
  | zero => intro a st h; exact h
  | succ m ih =>
    intro a st h
    unfold loop
    split
    · exact ih _ _ (isEnc_join hk h (hsub _))
    · exact h
theorem andF_enc {s : List UInt8} {m : Nat} {sub : St → Res} (hsub : ∀ st, IsEnc (sub st).1) (st : St) : IsEnc (andF s m sub st).1 := loop_enc (.inl rfl) hsub _ _ _ (hsub st)
theorem orF_enc {s : List UInt8} {m : Nat} {sub : St → Res} (hsub : ∀ st, IsEnc (sub st).1) (st : St) : IsEnc (orF s m sub st).1 := loop_enc (.inr (.inl rfl)) (fun st => andF_enc hsub st) _ _ _ (andF_enc hsub st)
theorem impF_enc {s : List UInt8} {m : Nat} {sub : St → Res} (hsub : ∀ st, IsEnc (sub st).1) : ∀ (i : Nat) (st : St), IsEnc (impF s m sub i st).1 := by
  intro i
  induction i with
  | zero => intro st; exact orF_enc hsub st
  | succ i ih =>
    intro st
    unfold impF
    dsimp only
    split
    · exact isEnc_join (.inr (.inr rfl)) (orF_enc hsub st) (ih _)
    · exact orF_enc hsub st
theorem preF_enc {s : List UInt8} {m : Nat} : ∀ (f : Nat) (st : St), IsEnc (preF s m f st).1 := by
  intro f
  induction f with
  | zero => intro st; exact isEnc_falsum
  | succ f ih =>
    intro st
    unfold preF
    split
    · exact isEnc_join (.inr (.inr rfl)) (ih _) isEnc_falsum
    split
    · exact isEnc_pre (.inl rfl) (ih _)
    split
    · exact isEnc_pre (.inr rfl) (ih _)
    split
    · exact isEnc_falsum
    split
    · exact ⟨.imp .fls .fls, rfl⟩
    split
    · exact impF_enc ih _ _
    split
    · rename_i v hv
      exact ⟨.var ⟨v, (letter_some hv).1⟩, rfl⟩
    · exact isEnc_falsum
theorem parse_enc (s : List UInt8) (m : Nat) : IsEnc (parse s m).1 := impF_enc (fun st => preF_enc m st) m _

end Fm
end Go.Proofs.YtnbnhapepcegpaaGreatDoor

/- The text of a formula is parsed to the formula. No program is in sight. -/
namespace Go.Proofs.YtnbnhapepcegpaaGreatDoor
namespace Fm

theorem sees_drop {s : List UInt8} {i : Nat} {c : UInt8} {r : List UInt8} (h : s.drop i = c :: r) (d : UInt8) : sees s (i, false) d = (c == d) := by
  have h1 : s[i]? = some c := by
    have := congrArg List.head? h
    simpa using this
  unfold sees
  rw [h1]
  rw [Bool.eq_iff_iff]
  simp
theorem sees_none {s : List UInt8} {i : Nat} {r : List UInt8} {d : UInt8} (h : s.drop i = r) (hd : r.head? ≠ some d) : sees s (i, false) d = false := by
  have h1 : s[i]? = r.head? := by rw [← h]; simp
  unfold sees
  rw [h1]
  cases hr : r.head? with
  | none => rfl
  | some c =>
    rw [hr] at hd
    have : c ≠ d := fun e => hd (by rw [e])
    simp [this]
theorem drop_tail {s : List UInt8} {i : Nat} {x r : List UInt8} (h : s.drop i = x ++ r) : s.drop (i + x.length) = r := by
  rw [← List.drop_drop, h, List.drop_left]
theorem drop_len {s : List UInt8} {i : Nat} {x r : List UInt8} (h : s.drop i = x ++ r) (hx : 1 ≤ x.length) : i + x.length ≤ s.length := by
  have := congrArg List.length h
  simp only [List.length_drop, List.length_append] at this
  omega
theorem txt_pos (t : Tree) (l : Nat) : 1 ≤ (txt t l).length := by
  cases t with
  | var v => simp [txt]
  | fls => simp [txt]
  | and a b => simp only [txt, wrap]; split <;> simp <;> omega
  | or a b => simp only [txt, wrap]; split <;> simp <;> omega
  | imp a b => simp only [txt, wrap]; split <;> split <;> simp <;> omega
  | box a => simp only [txt, List.length_append, List.length_cons]; omega
  | dia a => simp only [txt, List.length_append, List.length_cons]; omega

section
variable (s : List UInt8) (m : Nat)
/-- The text at level 3 is read by the lowest level of the parser. -/
def P3 (t : Tree) : Prop := ∀ (f i : Nat) (r : List UInt8), s.drop i = txt t 3 ++ r → s.length - i < f → preF s m f (i, false) = (enc t, (i + (txt t 3).length, false))
def P2 (t : Tree) : Prop := ∀ (f i : Nat) (r : List UInt8), s.drop i = txt t 2 ++ r → s.length - i < f →
  ∃ k, s.length - (i + (txt t 2).length) < k ∧ andF s m (preF s m f) (i, false) = loop s 2 38 (preF s m f) k (enc t) (i + (txt t 2).length, false)
def P1 (t : Tree) : Prop := ∀ (f i : Nat) (r : List UInt8), s.drop i = txt t 1 ++ r → s.length - i < f → r.head? ≠ some 38 →
  ∃ k, s.length - (i + (txt t 1).length) < k ∧ orF s m (preF s m f) (i, false) = loop s 3 124 (andF s m (preF s m f)) k (enc t) (i + (txt t 1).length, false)
def P0 (t : Tree) : Prop := ∀ (f n i : Nat) (r : List UInt8), s.drop i = txt t 0 ++ r → s.length - i < f → s.length - i < n → r.head? ≠ some 38 → r.head? ≠ some 124 → r.head? ≠ some 62 →
  impF s m (preF s m f) n (i, false) = (enc t, (i + (txt t 0).length, false))
end

section
variable {s : List UInt8} {m : Nat}

theorem loop_stop {k : Int} {c : UInt8} {sub : St → Res} {n : Nat} {a : List Nd} {st : St} (h : sees s st c = false) : loop s k c sub n a st = (a, st) := by
  cases n with
  | zero => rfl
  | succ n => rw [loop, if_neg (by rw [h]; decide)]

/-- From the lowest level to the next one, where the text is the same. -/
theorem up2 (hm : s.length < m) {t : Tree} (ht : txt t 2 = txt t 3) (h : P3 s m t) : P2 s m t := by
  intro f i r hd hf
  rw [ht] at hd ⊢
  refine ⟨m, by omega, ?_⟩
  have := h f i r hd hf
  rw [andF, this]
theorem up1 (hm : s.length < m) {t : Tree} (ht : txt t 1 = txt t 2) (h : P2 s m t) : P1 s m t := by
  intro f i r hd hf hr
  rw [ht] at hd ⊢
  obtain ⟨k, hk, he⟩ := h f i r hd hf
  have hs := sees_none (drop_tail hd) hr
  rw [loop_stop hs] at he
  refine ⟨m, by omega, ?_⟩
  rw [orF, he]
theorem up0 {t : Tree} (ht : txt t 0 = txt t 1) (h : P1 s m t) : P0 s m t := by
  intro f n i r hd hf hn h1 h2 h3
  rw [ht] at hd ⊢
  obtain ⟨k, hk, he⟩ := h f i r hd hf h1
  rw [loop_stop (sees_none (drop_tail hd) h2)] at he
  cases n with
  | zero => omega
  | succ n =>
    rw [impF_no (by rw [he]; exact sees_none (drop_tail hd) h3), he]
/-- Brackets. -/
theorem down3 (hm : s.length < m) {t : Tree} (ht : txt t 3 = [40] ++ txt t 0 ++ [41]) (h : P0 s m t) : P3 s m t := by
  intro f i r hd hf
  have hp := txt_pos t 0
  rw [ht] at hd ⊢
  have hlen := drop_len hd (by simp)
  simp only [List.length_append, List.length_cons, List.length_nil] at hlen
  simp only [List.append_assoc, List.cons_append, List.nil_append] at hd
  have h1 : s.drop (i + 1) = txt t 0 ++ (41 :: r) := drop_tail (x := [40]) (r := txt t 0 ++ (41 :: r)) hd
  have h2 : s.drop (i + 1 + (txt t 0).length) = 41 :: r := drop_tail h1
  cases f with
  | zero => omega
  | succ f =>
    have h40 : sees s (i, false) 40 = true := by rw [sees_drop hd]; rfl
    rw [preF_par h40, show step (i, false) = (i + 1, false) from rfl]
    rw [h f m (i + 1) (41 :: r) h1 (by omega) (by omega) (by simp) (by simp) (by simp)]
    have h41 : sees s (i + 1 + (txt t 0).length, false) 41 = true := by rw [sees_drop h2]; rfl
    simp only [need, h41, if_true, step, List.length_append, List.length_cons, List.length_nil]
    congr 2
    omega

theorem all_fls (hm : s.length < m) : P3 s m .fls ∧ P2 s m .fls ∧ P1 s m .fls ∧ P0 s m .fls := by
  have h3 : P3 s m .fls := by
    intro f i r hd hf
    have hd' : s.drop i = 70 :: r := hd
    have hlen := drop_len hd (by simp [txt])
    simp only [txt, List.length_cons, List.length_nil] at hlen
    cases f with
    | zero => omega
    | succ f => rw [preF_fls (by rw [sees_drop hd']; rfl)]; rfl
  have h2 := up2 hm rfl h3
  have h1 := up1 hm rfl h2
  exact ⟨h3, h2, h1, up0 rfl h1⟩
theorem all_tru (hm : s.length < m) : P3 s m (.imp .fls .fls) ∧ P2 s m (.imp .fls .fls) ∧ P1 s m (.imp .fls .fls) ∧ P0 s m (.imp .fls .fls) := by
  have h3 : P3 s m (.imp .fls .fls) := by
    intro f i r hd hf
    have hd' : s.drop i = 84 :: r := hd
    have hlen := drop_len hd (by simp [txt, isF])
    simp only [txt, isF, if_true, List.length_cons, List.length_nil] at hlen
    cases f with
    | zero => omega
    | succ f => rw [preF_tru (by rw [sees_drop hd']; rfl)]; rfl
  have h2 := up2 hm rfl h3
  have h1 := up1 hm rfl h2
  exact ⟨h3, h2, h1, up0 rfl h1⟩
theorem all_var (hm : s.length < m) (v : Fin 6) : P3 s m (.var v) ∧ P2 s m (.var v) ∧ P1 s m (.var v) ∧ P0 s m (.var v) := by
  have h3 : P3 s m (.var v) := by
    intro f i r hd hf
    have hd' : s.drop i = UInt8.ofNat (112 + v.val) :: r := hd
    have hlen := drop_len hd (by simp [txt])
    simp only [txt, List.length_cons, List.length_nil] at hlen
    cases f with
    | zero => omega
    | succ f =>
      have hl : letter s (i, false) = some v.val := letter_of_sees v.isLt (by rw [sees_drop hd']; simp)
      rw [preF_var hl]; rfl
  have h2 := up2 hm rfl h3
  have h1 := up1 hm rfl h2
  exact ⟨h3, h2, h1, up0 rfl h1⟩
theorem all_not (hm : s.length < m) {x : Tree} (hx : isF x = false) (h : P3 s m x) : P3 s m (.imp x .fls) ∧ P2 s m (.imp x .fls) ∧ P1 s m (.imp x .fls) ∧ P0 s m (.imp x .fls) := by
  have ht : ∀ l, txt (.imp x .fls) l = [126] ++ txt x 3 := by intro l; rw [txt, if_pos (show isF .fls = true from rfl), if_neg (by rw [hx]; decide)]
  have h3 : P3 s m (.imp x .fls) := by
    intro f i r hd hf
    rw [ht] at hd ⊢
    have hlen := drop_len hd (by simp)
    simp only [List.length_append, List.length_cons, List.length_nil] at hlen
    have hd' : s.drop i = 126 :: (txt x 3 ++ r) := by simpa using hd
    have h1 : s.drop (i + 1) = txt x 3 ++ r := drop_tail (x := [126]) (r := txt x 3 ++ r) hd'
    cases f with
    | zero => omega
    | succ f =>
      rw [preF_not (by rw [sees_drop hd']; rfl), show step (i, false) = (i + 1, false) from rfl, h f (i + 1) r h1 (by omega)]
      simp only [List.length_append, List.length_cons, List.length_nil]
      refine Prod.ext rfl (Prod.ext (by simp only; omega) rfl)
  have h2 := up2 hm (by rw [ht, ht]) h3
  have h1 := up1 hm (by rw [ht, ht]) h2
  exact ⟨h3, h2, h1, up0 (by rw [ht, ht]) h1⟩
theorem all_box (hm : s.length < m) {x : Tree} (h : P3 s m x) : P3 s m (.box x) ∧ P2 s m (.box x) ∧ P1 s m (.box x) ∧ P0 s m (.box x) := by
  have h3 : P3 s m (.box x) := by
    intro f i r hd hf
    have hd' : s.drop i = 91 :: (93 :: (txt x 3 ++ r)) := by simpa [txt] using hd
    have hlen := drop_len hd (by simp [txt])
    simp only [txt, List.length_append, List.length_cons, List.length_nil] at hlen
    have h1 : s.drop (i + 1) = 93 :: (txt x 3 ++ r) := drop_tail (x := [91]) (r := 93 :: (txt x 3 ++ r)) hd'
    have h2 : s.drop (i + 2) = txt x 3 ++ r := drop_tail (x := [91, 93]) (r := txt x 3 ++ r) hd'
    cases f with
    | zero => omega
    | succ f =>
      have h93 : sees s (i + 1, false) 93 = true := by rw [sees_drop h1]; rfl
      rw [preF_box (by rw [sees_drop hd']; rfl), show step (i, false) = (i + 1, false) from rfl, show need s (i + 1, false) 93 = (i + 2, false) by simp [need, h93, step], h f (i + 2) r h2 (by omega)]
      simp only [txt, List.length_append, List.length_cons, List.length_nil]
      refine Prod.ext rfl (Prod.ext (by simp only; omega) rfl)
  have h2 := up2 hm rfl h3
  have h1 := up1 hm rfl h2
  exact ⟨h3, h2, h1, up0 rfl h1⟩
theorem all_dia (hm : s.length < m) {x : Tree} (h : P3 s m x) : P3 s m (.dia x) ∧ P2 s m (.dia x) ∧ P1 s m (.dia x) ∧ P0 s m (.dia x) := by
  have h3 : P3 s m (.dia x) := by
    intro f i r hd hf
    have hd' : s.drop i = 60 :: (62 :: (txt x 3 ++ r)) := by simpa [txt] using hd
    have hlen := drop_len hd (by simp [txt])
    simp only [txt, List.length_append, List.length_cons, List.length_nil] at hlen
    have h1 : s.drop (i + 1) = 62 :: (txt x 3 ++ r) := drop_tail (x := [60]) (r := 62 :: (txt x 3 ++ r)) hd'
    have h2 : s.drop (i + 2) = txt x 3 ++ r := drop_tail (x := [60, 62]) (r := txt x 3 ++ r) hd'
    cases f with
    | zero => omega
    | succ f =>
      have h93 : sees s (i + 1, false) 62 = true := by rw [sees_drop h1]; rfl
      rw [preF_dia (by rw [sees_drop hd']; rfl), show step (i, false) = (i + 1, false) from rfl, show need s (i + 1, false) 62 = (i + 2, false) by simp [need, h93, step], h f (i + 2) r h2 (by omega)]
      simp only [txt, List.length_append, List.length_cons, List.length_nil]
      refine Prod.ext rfl (Prod.ext (by simp only; omega) rfl)
  have h2 := up2 hm rfl h3
  have h1 := up1 hm rfl h2
  exact ⟨h3, h2, h1, up0 rfl h1⟩

theorem all_and (hm : s.length < m) {x y : Tree} (hx : P2 s m x) (hy : P3 s m y) : P3 s m (.and x y) ∧ P2 s m (.and x y) ∧ P1 s m (.and x y) ∧ P0 s m (.and x y) := by
  have ht : ∀ l, l ≤ 2 → txt (.and x y) l = txt x 2 ++ [38] ++ txt y 3 := by intro l hl; rw [txt, wrap, if_neg (by omega)]
  have h2 : P2 s m (.and x y) := by
    intro f i r hd hf
    rw [ht 2 (by omega)] at hd ⊢
    simp only [List.append_assoc, List.cons_append, List.nil_append] at hd
    obtain ⟨k, hk, he⟩ := hx f i _ hd hf
    have d1 := drop_tail hd
    have d2 : s.drop (i + (txt x 2).length + 1) = txt y 3 ++ r := drop_tail (x := [38]) (r := txt y 3 ++ r) d1
    have hp := txt_pos y 3
    have hlen := drop_len d2 hp
    obtain ⟨q, rfl⟩ : ∃ q, k = q + 1 := ⟨k - 1, by omega⟩
    refine ⟨q, ?_, ?_⟩
    · simp only [List.length_append, List.length_cons, List.length_nil]; omega
    · rw [he, loop, if_pos (by rw [sees_drop d1]; rfl), show step (i + (txt x 2).length, false) = (i + (txt x 2).length + 1, false) from rfl, hy f _ r d2 (by omega)]
      simp only [List.length_append, List.length_cons, List.length_nil]
      rw [show i + (txt x 2).length + 1 + (txt y 3).length = i + ((txt x 2).length + (0 + 1) + (txt y 3).length) by omega]
      rfl
  have h1 := up1 hm (by rw [ht 1 (by omega), ht 2 (by omega)]) h2
  have h0 := up0 (by rw [ht 0 (by omega), ht 1 (by omega)]) h1
  exact ⟨down3 hm (by rw [ht 0 (by omega), txt, wrap, if_pos (by omega)]) h0, h2, h1, h0⟩
theorem all_or (hm : s.length < m) {x y : Tree} (hx : P1 s m x) (hy : P2 s m y) : P3 s m (.or x y) ∧ P2 s m (.or x y) ∧ P1 s m (.or x y) ∧ P0 s m (.or x y) := by
  have ht : ∀ l, l ≤ 1 → txt (.or x y) l = txt x 1 ++ [124] ++ txt y 2 := by intro l hl; rw [txt, wrap, if_neg (by omega)]
  have hw : ∀ l, 2 ≤ l → txt (.or x y) l = [40] ++ txt (.or x y) 0 ++ [41] := by intro l hl; rw [ht 0 (by omega), txt, wrap, if_pos (by omega)]
  have h1 : P1 s m (.or x y) := by
    intro f i r hd hf hr
    rw [ht 1 (by omega)] at hd ⊢
    simp only [List.append_assoc, List.cons_append, List.nil_append] at hd
    obtain ⟨k, hk, he⟩ := hx f i _ hd hf (by simp)
    have d1 := drop_tail hd
    have d2 : s.drop (i + (txt x 1).length + 1) = txt y 2 ++ r := drop_tail (x := [124]) (r := txt y 2 ++ r) d1
    have hp := txt_pos y 2
    have hlen := drop_len d2 hp
    obtain ⟨q, rfl⟩ : ∃ q, k = q + 1 := ⟨k - 1, by omega⟩
    refine ⟨q, ?_, ?_⟩
    · simp only [List.length_append, List.length_cons, List.length_nil]; omega
    · obtain ⟨k2, hk2, he2⟩ := hy f _ r d2 (by omega)
      rw [loop_stop (sees_none (drop_tail d2) hr)] at he2
      rw [he, loop, if_pos (by rw [sees_drop d1]; rfl), show step (i + (txt x 1).length, false) = (i + (txt x 1).length + 1, false) from rfl, he2]
      simp only [List.length_append, List.length_cons, List.length_nil]
      rw [show i + (txt x 1).length + 1 + (txt y 2).length = i + ((txt x 1).length + (0 + 1) + (txt y 2).length) by omega]
      rfl
  have h0 := up0 (by rw [ht 0 (by omega), ht 1 (by omega)]) h1
  have h3 := down3 hm (hw 3 (by omega)) h0
  exact ⟨h3, up2 hm (by rw [hw 2 (by omega), hw 3 (by omega)]) h3, h1, h0⟩
theorem all_imp (hm : s.length < m) {x y : Tree} (hf : isF y = false) (hx : P1 s m x) (hy : P0 s m y) : P3 s m (.imp x y) ∧ P2 s m (.imp x y) ∧ P1 s m (.imp x y) ∧ P0 s m (.imp x y) := by
  have ht : txt (.imp x y) 0 = txt x 1 ++ [62] ++ txt y 0 := by rw [txt, if_neg (by rw [hf]; decide), wrap, if_neg (by omega)]
  have hw : ∀ l, 1 ≤ l → txt (.imp x y) l = [40] ++ txt (.imp x y) 0 ++ [41] := by intro l hl; rw [ht, txt, if_neg (by rw [hf]; decide), wrap, if_pos (by omega)]
  have h0 : P0 s m (.imp x y) := by
    intro f n i r hd hf hn q1 q2 q3
    rw [ht] at hd ⊢
    simp only [List.append_assoc, List.cons_append, List.nil_append] at hd
    obtain ⟨k, hk, he⟩ := hx f i _ hd hf (by simp)
    have d1 := drop_tail hd
    have d2 : s.drop (i + (txt x 1).length + 1) = txt y 0 ++ r := drop_tail (x := [62]) (r := txt y 0 ++ r) d1
    have hp := txt_pos y 0
    have hlen := drop_len d2 hp
    rw [loop_stop (by rw [sees_drop d1]; rfl)] at he
    cases n with
    | zero => omega
    | succ n =>
      have hsee : sees s (orF s m (preF s m f) (i, false)).2 62 = true := by rw [he, sees_drop d1]; rfl
      rw [impF_yes hsee, he]
      dsimp only
      rw [show step (i + (txt x 1).length, false) = (i + (txt x 1).length + 1, false) from rfl, hy f n _ r d2 (by omega) (by omega) q1 q2 q3]
      simp only [List.length_append, List.length_cons, List.length_nil]
      refine Prod.ext rfl (Prod.ext (by simp only; omega) rfl)
  have h3 := down3 hm (hw 3 (by omega)) h0
  have h2 := up2 hm (by rw [hw 2 (by omega), hw 3 (by omega)]) h3
  exact ⟨h3, h2, up1 hm (by rw [hw 1 (by omega), hw 2 (by omega)]) h2, h0⟩

theorem all_levels (hm : s.length < m) (t : Tree) : P3 s m t ∧ P2 s m t ∧ P1 s m t ∧ P0 s m t := by
  induction t with
  | var v => exact all_var hm v
  | fls => exact all_fls hm
  | and x y hx hy => exact all_and hm hx.2.1 hy.1
  | or x y hx hy => exact all_or hm hx.2.2.1 hy.2.1
  | imp x y hx hy =>
    cases hf : isF y with
    | true =>
      obtain rfl := isF_eq hf
      cases hg : isF x with
      | true => obtain rfl := isF_eq hg; exact all_tru hm
      | false => exact all_not hm hg hx.1
    | false => exact all_imp hm hf hx.2.2.1 hy.2.2.2
  | box x hx => exact all_box hm hx.1
  | dia x hx => exact all_dia hm hx.1
end

/-- The text of a formula reads as it. -/
theorem parse_txt (t : Tree) (m : Nat) (hm : (txt t 0).length < m) : parse (txt t 0) m = (enc t, ((txt t 0).length, false)) := by
  have h := (all_levels (s := txt t 0) hm t).2.2.2 m m 0 [] (by simp) (by omega) (by omega) (by simp) (by simp) (by simp)
  rw [parse, h]
  simp

end Fm

/-- A string of bytes. -/
def bs (l : List UInt8) : ByteArray := ⟨l.toArray⟩
theorem bs_append (a b : List UInt8) : bs a ++ bs b = bs (a ++ b) := by
  apply ByteArray.ext
  simp [bs]
theorem bs_size (a : List UInt8) : (bs a).size = a.length := by simp [bs, ByteArray.size]
theorem bs_list (a : List UInt8) : (bs a).data.toList = a := by simp [bs]
theorem bs_eq (s : ByteArray) : bs s.data.toList = s := by
  apply ByteArray.ext
  simp [bs]

namespace Fm
def fuel : Nat := 1048577
/-- What a text reads as. -/
def read (s : ByteArray) : Res := parse s.data.toList fuel
/-- The whole text is a formula of whatever size. -/
def whole (s : ByteArray) : Bool := !(read s).2.2 && decide (s.size ≤ (read s).2.1)
/-- The results of ParseFormula. -/
def pf (s : ByteArray) : List Nd × Nat × Int :=
  if 200 < s.size then ([], 0, 3) else if whole s = false then ([], (read s).2.1, 6) else if 40 < (read s).1.length then ([], 0, 3) else ((read s).1, 0, 0)
theorem read_ok (s : ByteArray) : (read s).2.1 ≤ s.size ∧ (read s).1.length ≤ 3 * s.size + 1 := by
  obtain ⟨h1, h2, h3⟩ := parse_ok s.data.toList fuel
  rw [show s.data.toList.length = s.size from by simp] at h2
  exact ⟨h2, by unfold read; omega⟩
theorem read_ne (s : ByteArray) : (read s).1 ≠ [] := by
  obtain ⟨t, h⟩ := parse_enc s.data.toList fuel
  have := enc_pos t
  unfold read
  rw [h]
  intro h0
  rw [h0] at this
  simp at this
theorem pf_len (s : ByteArray) : (pf s).1.length ≤ 40 := by
  unfold pf
  split
  · simp
  split
  · simp
  split
  · simp
  · simp only; omega
end Fm

/-- What l02Read gives. -/
def Fm.rd (s : ByteArray) : List Nd × Int := if Fm.whole s = false then ([], ((Fm.read s).2.1 : Int)) else ((Fm.read s).1, -1)


namespace Fm
theorem read_txt (t : Tree) (h : (txt t 0).length < fuel) : read (bs (txt t 0)) = (enc t, ((txt t 0).length, false)) := by
  rw [read, bs_list, parse_txt t fuel h]
theorem whole_txt (t : Tree) (h : (txt t 0).length < fuel) : whole (bs (txt t 0)) = true := by
  rw [whole, read_txt t h, bs_size]
  simp
theorem pf_txt (t : Tree) (h : (txt t 0).length ≤ 200) (hn : (enc t).length ≤ 40) : pf (bs (txt t 0)) = (enc t, 0, 0) := by
  have hf : (txt t 0).length < fuel := by unfold fuel; omega
  rw [pf, if_neg (by rw [bs_size]; omega), if_neg (by rw [whole_txt t hf]; decide), read_txt t hf, if_neg (by simp only; omega)]
theorem rd_txt (t : Tree) (h : (txt t 0).length < fuel) : rd (bs (txt t 0)) = (enc t, -1) := by
  rw [rd, if_neg (by rw [whole_txt t h]; decide), read_txt t h]
end Fm
end Go.Proofs.YtnbnhapepcegpaaGreatDoor

/- Where the part at an index ends; the parts of a formula. -/
namespace Go.Proofs.YtnbnhapepcegpaaGreatDoor
open Go.RowKit
open Fm (Nd Tree)

theorem partsOf_c (k : Int) (w : World) :
    Calls Tryz.prog 90 #[.int .i64 k] w fun e w' => e = .returned (.int .i64 (Fm.arity k)) ∧ Grew w w' := by
  by_cases h2 : k = 2 ∨ k = 3 ∨ k = 4
  · have ha : Fm.arity k = 2 := by unfold Fm.arity; rw [if_pos h2]
    rw [ha]
    rcases h2 with rfl | rfl | rfl
    all_goals
      go_enter Tryz.func90, Tryz.ntmps90
      go_wp2_with fail
      go_ret
      exact ⟨rfl, Grew.refl _⟩
  by_cases h1 : k = 5 ∨ k = 6
  · have ha : Fm.arity k = 1 := by unfold Fm.arity; rw [if_neg h2, if_pos h1]
    rw [ha]
    rcases h1 with rfl | rfl
    all_goals
      go_enter Tryz.func90, Tryz.ntmps90
      go_wp2_with fail
      go_ret
      exact ⟨rfl, Grew.refl _⟩
  · have ha : Fm.arity k = 0 := by unfold Fm.arity; rw [if_neg h2, if_neg h1]
    rw [ha]
    have n2 : (k == 2) = false := by simp; omega
    have n3 : (k == 3) = false := by simp; omega
    have n4 : (k == 4) = false := by simp; omega
    have n5 : (k == 5) = false := by simp; omega
    have n6 : (k == 6) = false := by simp; omega
    clear h1 h2 ha
    go_enter Tryz.func90, Tryz.ntmps90
    go_wp2_with fail
    go_ret
    exact ⟨rfl, Grew.refl _⟩

/-- What 'partEnd' gives. -/
def pval (j : Nat) : Option Nat → Int
  | some n => (j : Int) + n
  | none => -1
theorem pval_succ (j : Nat) (o : Option Nat) : pval j (o.map (· + 1)) = pval (j + 1) o := by
  cases o with
  | none => rfl
  | some n => show (j : Int) + ((n + 1 : Nat) : Int) = ((j + 1 : Nat) : Int) + n; omega
def pend (xs : List Nd) (i : Nat) : Int := pval i (Fm.scan (xs.drop i) 1)

theorem scan_step {xs : List Nd} {j o : Nat} (hj : j < xs.length) : Fm.scan (xs.drop j) (o + 1) = (Fm.scan (xs.drop (j + 1)) (o + Fm.arity (kd xs j))).map (· + 1) := by
  rw [List.drop_eq_getElem_cons hj, Fm.scan_cons, kd_lt hj]

theorem partEnd_c (v : Value) (xs : List Nd) (i : Nat) (w : World) (h : Nodes w v xs) (hn : xs.length ≤ 1099511627776) (hi : i ≤ 1099511627776) :
    Calls Tryz.prog 75 #[v, .int .i64 i] w fun e w' => e = .returned (.int .i64 (pend xs i)) ∧ Grew w w' := by
  rcases h.open_ with ⟨rfl, rfl⟩ | ⟨b, o, c, rfl, hc, hm, hb, hf⟩
  · have hp : pend [] i = -1 := by simp [pend, Fm.scan_nil, pval]
    rw [hp]
    clear hp
    go_enter Tryz.func75, Tryz.ntmps75
    go_wp2_with fail
    refine wp_loop_rounds 1 ?_; rw [rounds_succ]
    go_wp2_with fail
    go_ret
    exact ⟨rfl, Grew.refl _⟩
  · clear h
    obtain ⟨P, hP⟩ : ∃ P, P = pend xs i := ⟨_, rfl⟩
    rw [← hP]
    -- the rest of the scan decides the result
    have hstart : Hid (P = pval i (Fm.scan (xs.drop i) 1)) := hP
    have hstep := fun j o hj => @scan_step xs j o hj
    have HS := Lib.hid hstep
    have HL : Hid (∀ j, xs.length ≤ j → xs.drop j = []) := Lib.hid fun j hj => List.drop_eq_nil_of_le hj
    clear hP hstep
    have HF := Lib.hid hf
    clear hf
    generalize hN : xs.length = n at *
    clear hN
    go_enter Tryz.func75, Tryz.ntmps75
    go_wp2_with fail
    go_loopg [1, 5] (n + 1 - i) (fun k x y wr => ∃ j op : Nat, x = .int .i64 j ∧ y = .int .i64 op ∧ Grew w wr ∧ i ≤ j ∧ op ≤ j - i + 1 ∧ k = n + 1 - j ∧ j ≤ i + n ∧ Hid (P = pval j (Fm.scan (xs.drop j) op)))
    case atStart => exact ⟨i, 1, rfl, rfl, Grew.refl _, Nat.le_refl _, by omega, rfl, by omega, hstart⟩
    case round =>
      obtain ⟨j, op, rfl, rfl, hB, hij, hop, rfl, hjn, HP⟩ := hrel
      by_cases hz : op = 0
      · subst hz
        have hv : Hid (P = (j : Int)) := Lib.hid (by rw [HP.out, Fm.scan_zero]; simp [pval])
        clear HP
        go_wp2_with fail
        go_ret
        rw [hv.out]
        exact ⟨rfl, hB⟩
      · obtain ⟨q, rfl⟩ : ∃ q, op = q + 1 := ⟨op - 1, by omega⟩
        by_cases hlt : j < n
        · have k1 : ∀ W, Grew w W → W.cell? ⟨b, o + j * 2, none⟩ = some (.int .i64 (kd xs j)) := fun W hW => (HF.out j hlt W hW).1
          have hv : Hid (P = pval (j + 1) (Fm.scan (xs.drop (j + 1)) (q + Fm.arity (kd xs j)))) := Lib.hid (by rw [HP.out, HS.out j q hlt, pval_succ])
          have har := Fm.arity_le (kd xs j)
          clear HP hz
          go_wp2_with fail
          refine (partsOf_c _ _).mono ?_
          rintro e w1 ⟨rfl, hg1⟩
          generalize Fm.arity (kd xs j) = ar at *
          go_wp2_with fail
          go_roundg (n + 1 - (j + 1))
          case measure => omega
          case rel => exact ⟨j + 1, q + ar, by go_num, by go_num, hB.trans hg1, by omega, by omega, rfl, by omega, hv⟩
        · have hv : Hid (P = -1) := Lib.hid (by rw [HP.out, HL.out j (by omega), Fm.scan_nil]; rfl)
          clear HP
          go_wp2_with fail
          go_ret
          rw [hv.out]
          exact ⟨rfl, hB⟩
theorem l02Parts_c (k : Int) (w : World) :
    Calls Tryz.prog 84 #[.int .i64 k] w fun e w' => e = .returned (.int .i64 (Fm.arity k)) ∧ Grew w w' := by
  by_cases h2 : k = 2 ∨ k = 3 ∨ k = 4
  · have ha : Fm.arity k = 2 := by unfold Fm.arity; rw [if_pos h2]
    rw [ha]
    rcases h2 with rfl | rfl | rfl
    all_goals
      go_enter Tryz.func84, Tryz.ntmps84
      go_wp2_with fail
      go_ret
      exact ⟨rfl, Grew.refl _⟩
  by_cases h1 : k = 5 ∨ k = 6
  · have ha : Fm.arity k = 1 := by unfold Fm.arity; rw [if_neg h2, if_pos h1]
    rw [ha]
    rcases h1 with rfl | rfl
    all_goals
      go_enter Tryz.func84, Tryz.ntmps84
      go_wp2_with fail
      go_ret
      exact ⟨rfl, Grew.refl _⟩
  · have ha : Fm.arity k = 0 := by unfold Fm.arity; rw [if_neg h2, if_neg h1]
    rw [ha]
    have n2 : (k == 2) = false := by simp; omega
    have n3 : (k == 3) = false := by simp; omega
    have n4 : (k == 4) = false := by simp; omega
    have n5 : (k == 5) = false := by simp; omega
    have n6 : (k == 6) = false := by simp; omega
    clear h1 h2 ha
    go_enter Tryz.func84, Tryz.ntmps84
    go_wp2_with fail
    go_ret
    exact ⟨rfl, Grew.refl _⟩

theorem l02Part_c (v : Value) (xs : List Nd) (i : Nat) (w : World) (h : Nodes w v xs) (hn : xs.length ≤ 1099511627776) (hi : i ≤ 1099511627776) :
    Calls Tryz.prog 67 #[v, .int .i64 i] w fun e w' => e = .returned (.int .i64 (pend xs i)) ∧ Grew w w' := by
  rcases h.open_ with ⟨rfl, rfl⟩ | ⟨b, o, c, rfl, hc, hm, hb, hf⟩
  · have hp : pend [] i = -1 := by simp [pend, Fm.scan_nil, pval]
    rw [hp]
    clear hp
    go_enter Tryz.func67, Tryz.ntmps67
    go_wp2_with fail
    refine wp_loop_rounds 1 ?_; rw [rounds_succ]
    go_wp2_with fail
    go_ret
    exact ⟨rfl, Grew.refl _⟩
  · clear h
    obtain ⟨P, hP⟩ : ∃ P, P = pend xs i := ⟨_, rfl⟩
    rw [← hP]
    -- the rest of the scan decides the result
    have hstart : Hid (P = pval i (Fm.scan (xs.drop i) 1)) := hP
    have hstep := fun j o hj => @scan_step xs j o hj
    have HS := Lib.hid hstep
    have HL : Hid (∀ j, xs.length ≤ j → xs.drop j = []) := Lib.hid fun j hj => List.drop_eq_nil_of_le hj
    clear hP hstep
    have HF := Lib.hid hf
    clear hf
    generalize hN : xs.length = n at *
    clear hN
    go_enter Tryz.func67, Tryz.ntmps67
    go_wp2_with fail
    go_loopg [1, 5] (n + 1 - i) (fun k x y wr => ∃ j op : Nat, x = .int .i64 j ∧ y = .int .i64 op ∧ Grew w wr ∧ i ≤ j ∧ op ≤ j - i + 1 ∧ k = n + 1 - j ∧ j ≤ i + n ∧ Hid (P = pval j (Fm.scan (xs.drop j) op)))
    case atStart => exact ⟨i, 1, rfl, rfl, Grew.refl _, Nat.le_refl _, by omega, rfl, by omega, hstart⟩
    case round =>
      obtain ⟨j, op, rfl, rfl, hB, hij, hop, rfl, hjn, HP⟩ := hrel
      by_cases hz : op = 0
      · subst hz
        have hv : Hid (P = (j : Int)) := Lib.hid (by rw [HP.out, Fm.scan_zero]; simp [pval])
        clear HP
        go_wp2_with fail
        go_ret
        rw [hv.out]
        exact ⟨rfl, hB⟩
      · obtain ⟨q, rfl⟩ : ∃ q, op = q + 1 := ⟨op - 1, by omega⟩
        by_cases hlt : j < n
        · have k1 : ∀ W, Grew w W → W.cell? ⟨b, o + j * 2, none⟩ = some (.int .i64 (kd xs j)) := fun W hW => (HF.out j hlt W hW).1
          have hv : Hid (P = pval (j + 1) (Fm.scan (xs.drop (j + 1)) (q + Fm.arity (kd xs j)))) := Lib.hid (by rw [HP.out, HS.out j q hlt, pval_succ])
          have har := Fm.arity_le (kd xs j)
          clear HP hz
          go_wp2_with fail
          refine (l02Parts_c _ _).mono ?_
          rintro e w1 ⟨rfl, hg1⟩
          generalize Fm.arity (kd xs j) = ar at *
          go_wp2_with fail
          go_roundg (n + 1 - (j + 1))
          case measure => omega
          case rel => exact ⟨j + 1, q + ar, by go_num, by go_num, hB.trans hg1, by omega, by omega, rfl, by omega, hv⟩
        · have hv : Hid (P = -1) := Lib.hid (by rw [HP.out, HL.out j (by omega), Fm.scan_nil]; rfl)
          clear HP
          go_wp2_with fail
          go_ret
          rw [hv.out]
          exact ⟨rfl, hB⟩

theorem cells_drop (xs : List Nd) : ∀ i, cells (xs.drop i) = (cells xs).drop (i * 2) := by
  induction xs with
  | nil => intro i; simp [cells]
  | cons x xs ih =>
    intro i
    cases i with
    | zero => simp
    | succ i =>
      rw [List.drop_succ_cons, ih, cells_cons, show (i + 1) * 2 = i * 2 + 1 + 1 by omega]
      rfl
theorem cells_take (xs : List Nd) : ∀ i, cells (xs.take i) = (cells xs).take (i * 2) := by
  induction xs with
  | nil => intro i; simp [cells]
  | cons x xs ih =>
    intro i
    cases i with
    | zero => simp [cells]
    | succ i =>
      rw [List.take_succ_cons, cells_cons, ih, cells_cons, show (i + 1) * 2 = i * 2 + 1 + 1 by omega]
      rfl
/-- A cut of a slice of nodes. -/
theorem Nodes.sub {w : World} {b o n c : Nat} {xs : List Nd} (h : Nodes w (.slice (some ⟨b, o, none⟩) n c) xs) (i m c' : Nat) (him : i + m ≤ xs.length) (hc : m ≤ c') (hc' : c' ≤ 9223372036854775807) :
    Nodes w (.slice (some ⟨b, o + i * 2, none⟩) m c') ((xs.drop i).take m) := by
  obtain ⟨h1, h2, h3⟩ := h
  have hl : ((xs.drop i).take m).length = m := by simp; omega
  refine ⟨cells_length _, by omega, .inr ?_⟩
  rcases h3 with ⟨h4, _⟩ | ⟨b', o', c0, h4, h5, h6, h7, h8⟩
  · cases h4
  · simp only [Value.slice.injEq, Option.some.injEq, Addr.mk.injEq, and_true] at h4
    obtain ⟨⟨rfl, rfl⟩, rfl, rfl⟩ := h4
    refine ⟨b, o + i * 2, c', by rw [hl], by omega, hc', h7, fun j u hu => ?_⟩
    rw [cells_take, List.getElem?_take] at hu
    split at hu
    · rw [cells_drop, List.getElem?_drop] at hu
      have := h8 _ _ hu
      rw [show o + i * 2 + j = o + (i * 2 + j) by omega]
      exact this
    · cases hu

/-- A list that stands in another one from i on. -/
def At (xs : List Nd) (i : Nat) (t : Tree) : Prop := ∃ rest, xs.drop i = Fm.enc t ++ rest
theorem At.pend {xs : List Nd} {i : Nat} {t : Tree} (h : At xs i t) : pend xs i = (i : Int) + (Fm.enc t).length := by
  obtain ⟨rest, h⟩ := h
  rw [Go.Proofs.YtnbnhapepcegpaaGreatDoor.pend, h, Fm.scan_one]; rfl
theorem At.take {xs : List Nd} {i : Nat} {t : Tree} (h : At xs i t) : (xs.drop i).take (Fm.enc t).length = Fm.enc t := by
  obtain ⟨rest, h⟩ := h
  rw [h, List.take_left']; rfl
theorem At.le {xs : List Nd} {i : Nat} {t : Tree} (h : At xs i t) : i + (Fm.enc t).length ≤ xs.length := by
  obtain ⟨rest, h⟩ := h
  have h1 := congrArg List.length h
  have h2 := Fm.enc_pos t
  simp only [List.length_drop, List.length_append] at h1
  omega

/-- The call returns a slice that reads as the list, and changes nothing. -/
def Cuts (w : World) (xs : List Nd) (e : Ending) (w' : World) : Prop := ∃ v, e = .returned v ∧ Nodes w' v xs ∧ Grew w w'

theorem partEnd_at (v : Value) (xs : List Nd) (i : Nat) (t : Tree) (w : World) (h : Nodes w v xs) (hn : xs.length ≤ 1099511627776) (ht : At xs i t) :
    Calls Tryz.prog 75 #[v, .int .i64 i] w fun e w' => e = .returned (.int .i64 ((i : Int) + (Fm.enc t).length)) ∧ Grew w w' := by
  have := partEnd_c v xs i w h hn (by have := ht.le; omega)
  rw [ht.pend] at this
  exact this
theorem l02Part_at (v : Value) (xs : List Nd) (i : Nat) (t : Tree) (w : World) (h : Nodes w v xs) (hn : xs.length ≤ 1099511627776) (ht : At xs i t) :
    Calls Tryz.prog 67 #[v, .int .i64 i] w fun e w' => e = .returned (.int .i64 ((i : Int) + (Fm.enc t).length)) ∧ Grew w w' := by
  have := l02Part_c v xs i w h hn (by have := ht.le; omega)
  rw [ht.pend] at this
  exact this

theorem part_c (v : Value) (xs : List Nd) (i : Nat) (t : Tree) (w : World) (h : Nodes w v xs) (hn : xs.length ≤ 1099511627776) (ht : At xs i t) :
    Calls Tryz.prog 109 #[v, .int .i64 i] w (Cuts w (Fm.enc t)) := by
  have hle := ht.le
  have hpos := Fm.enc_pos t
  rcases h.open_ with ⟨rfl, rfl⟩ | ⟨b, o, c, rfl, hc, hm, hb, hf⟩
  · simp only [List.length_nil] at hle; omega
  · have hsub := h.sub i (Fm.enc t).length (Fm.enc t).length hle (Nat.le_refl _) (by omega)
    rw [ht.take] at hsub
    have HH := Lib.hid h
    have HS := Lib.hid hsub
    have HT := Lib.hid ht
    clear h hf hsub ht
    go_enter Tryz.func109, Tryz.ntmps109
    go_wp2_with fail
    refine (partEnd_at _ xs i t _ HH.out hn HT.out).mono ?_
    rintro e w1 ⟨rfl, hg1⟩
    go_wp2_with fail
    refine (partEnd_at _ xs i t _ (HH.out.grew hg1) hn HT.out).mono ?_
    rintro e w2 ⟨rfl, hg2⟩
    go_wp2_with fail
    go_ret
    refine ⟨_, rfl, ?_, hg1.trans hg2⟩
    rw [Nat.add_sub_cancel_left]
    exact HS.out.grew (hg1.trans hg2)

/-- The kind of the first node. -/
def kindOf : Tree → Int
  | .var _ => 0
  | .fls => 1
  | .and _ _ => 2
  | .or _ _ => 3
  | .imp _ _ => 4
  | .box _ => 5
  | .dia _ => 6

theorem kd_enc (t : Tree) : kd (Fm.enc t) 0 = kindOf t := by cases t <;> rfl
theorem isF_kind (t : Tree) : Fm.isF t = (kindOf t == 1) := by cases t <;> rfl

/-- Is the formula a negation? -/
def isNeg : Tree → Bool
  | .imp _ b => Fm.isF b
  | _ => false

theorem at_first {xs : List Nd} {k : Nd} {a : Tree} {rest : List Nd} (h : xs = k :: (Fm.enc a ++ rest)) : At xs 1 a := ⟨rest, by rw [h]; rfl⟩
theorem at_second {xs : List Nd} {k : Nd} {a b : Tree} (h : xs = k :: (Fm.enc a ++ Fm.enc b)) : At xs (1 + (Fm.enc a).length) b :=
  ⟨[], by rw [h, Nat.add_comm, List.drop_succ_cons, List.drop_left', List.append_nil]; rfl⟩

/-- The call returns the text and changes nothing. -/
def Says (w : World) (s : List UInt8) (e : Ending) (w' : World) : Prop := e = .returned (.string (bs s)) ∧ Grew w w'

theorem nodes_head {w : World} {v : Value} {t : Tree} (h : Nodes w v (Fm.enc t)) : ∃ b o c, v = .slice (some ⟨b, o, none⟩) (Fm.enc t).length c ∧ (Fm.enc t).length ≤ c ∧ c ≤ 9223372036854775807 ∧ ∀ W, Grew w W → W.cell? ⟨b, o, none⟩ = some (.int .i64 (kindOf t)) := by
  have hpos := Fm.enc_pos t
  rcases h.open_ with ⟨rfl, h0⟩ | ⟨b, o, c, rfl, hc, hm, hb, hf⟩
  · rw [h0] at hpos; simp at hpos
  · refine ⟨b, o, c, rfl, hc, hm, fun W hW => ?_⟩
    have := (hf 0 (by omega) W hW).1
    rw [kd_enc] at this
    simpa using this

theorem letter_cut {q : Nat} (h : q < 6) : ByteArray.extract ⟨#[112, 113, 114, 115, 116, 117]⟩ q (q + 1) = bs [UInt8.ofNat (112 + q)] := by
  have h6 : q = 0 ∨ q = 1 ∨ q = 2 ∨ q = 3 ∨ q = 4 ∨ q = 5 := by omega
  rcases h6 with rfl | rfl | rfl | rfl | rfl | rfl <;> decide
end Go.Proofs.YtnbnhapepcegpaaGreatDoor

/- A formula matched to another one, on lists of nodes. No program is in sight. -/
namespace Go.Proofs.YtnbnhapepcegpaaGreatDoor
open Go.RowKit
open Fm (Nd Tree)

/-- The nodes of the part at an index. -/
def prt (xs : List Nd) (i : Nat) : List Nd := (xs.drop i).take ((pend xs i).toNat - i)
theorem prt_at {xs : List Nd} {i : Nat} {t : Tree} (h : At xs i t) : prt xs i = Fm.enc t := by
  unfold prt
  rw [h.pend, show ((i : Int) + ((Fm.enc t).length : Int)).toNat - i = (Fm.enc t).length by omega]
  exact h.take
/-- One image more. -/
def upd (σ : Nat → List Nd) (v : Nat) (c : List Nd) : Nat → List Nd := fun x => if x = v then c else σ x
/-- Does the match go on to the end? -/
def mrun (xs : List Nd) : List Nd → Nat → (Nat → List Nd) → Bool
  | [], _, _ => true
  | n :: rest, j, σ =>
    if n.1 = 0 then (if σ n.2.toNat ≠ [] ∧ σ n.2.toNat ≠ prt xs j then false else mrun xs rest (j + (prt xs j).length) (upd σ n.2.toNat (prt xs j)))
    else if kd xs j = n.1 ∧ sy xs j = n.2 then mrun xs rest (j + 1) σ else false
theorem mrun_end (xs a : List Nd) (i j : Nat) (σ : Nat → List Nd) (h : a.length ≤ i) : mrun xs (a.drop i) j σ = true := by
  rw [List.drop_eq_nil_of_le h]; rfl
theorem mrun_var {xs a : List Nd} {i j : Nat} {σ : Nat → List Nd} {t : Tree} {v : Nat} (h : i < a.length) (h0 : kd a i = 0) (hv : sy a i = v) (ht : At xs j t) :
    mrun xs (a.drop i) j σ = if σ v ≠ [] ∧ σ v ≠ Fm.enc t then false else mrun xs (a.drop (i + 1)) (j + (Fm.enc t).length) (upd σ v (Fm.enc t)) := by
  rw [List.drop_eq_getElem_cons h, mrun, kd_lt h]
  simp only [h0, if_true, hv, Int.toNat_natCast, prt_at ht]
theorem mrun_node {xs a : List Nd} {i j : Nat} {σ : Nat → List Nd} (h : i < a.length) (h0 : kd a i ≠ 0) :
    mrun xs (a.drop i) j σ = if kd xs j = kd a i ∧ sy xs j = sy a i then mrun xs (a.drop (i + 1)) (j + 1) σ else false := by
  rw [List.drop_eq_getElem_cons h, mrun, kd_lt h]
  simp only [if_neg h0]

/-- What is left of the one and of the other are lists of as many trees. -/
def Bal (a : List Nd) (i : Nat) (xs : List Nd) (j : Nat) : Prop := ∃ cs bs : List Tree, a.drop i = cs.flatMap Fm.enc ∧ xs.drop j = bs.flatMap Fm.enc ∧ cs.length = bs.length ∧ j ≤ xs.length
theorem Bal.start (s t : Tree) : Bal (Fm.enc s) 0 (Fm.enc t) 0 := ⟨[s], [t], by simp, by simp, rfl, by omega⟩
def kids : Tree → List Tree
  | .var _ => []
  | .fls => []
  | .and a b => [a, b]
  | .or a b => [a, b]
  | .imp a b => [a, b]
  | .box a => [a]
  | .dia a => [a]
theorem enc_kids (t : Tree) : Fm.enc t = (kindOf t, sy (Fm.enc t) 0) :: (kids t).flatMap Fm.enc := by cases t <;> simp [Fm.enc, kids, kindOf, sy]
theorem kids_len (t : Tree) : (kids t).length = Fm.arity (kindOf t) := by cases t <;> rfl
theorem flat_nil {cs : List Tree} (h : cs.flatMap Fm.enc = []) : cs = [] := by
  cases cs with
  | nil => rfl
  | cons t ts =>
    rw [List.flatMap_cons] at h
    have := congrArg List.length h
    have hp := Fm.enc_pos t
    rw [List.length_append, List.length_nil] at this
    omega
theorem Bal.split {a xs : List Nd} {i j : Nat} (h : Bal a i xs j) (hi : i < a.length) :
    j < xs.length ∧ ∃ (s t : Tree) (cs bs : List Tree), a.drop i = Fm.enc s ++ cs.flatMap Fm.enc ∧ xs.drop j = Fm.enc t ++ bs.flatMap Fm.enc ∧ cs.length = bs.length := by
  obtain ⟨cs, bs, h1, h2, h3, h4⟩ := h
  cases cs with
  | nil =>
    have := congrArg List.length h1
    simp at this
    omega
  | cons s cs =>
    cases bs with
    | nil => simp at h3
    | cons t bs =>
      rw [List.flatMap_cons] at h1 h2
      refine ⟨?_, s, t, cs, bs, h1, h2, by simpa using h3⟩
      have := congrArg List.length h2
      have hp := Fm.enc_pos t
      simp only [List.length_drop, List.length_append] at this
      omega
theorem Bal.fin {a xs : List Nd} {i j : Nat} (h : Bal a i xs j) (hi : a.length ≤ i) : j = xs.length := by
  obtain ⟨cs, bs, h1, h2, h3, h4⟩ := h
  rw [List.drop_eq_nil_of_le hi] at h1
  rw [flat_nil h1.symm] at h3
  rw [List.eq_nil_of_length_eq_zero h3.symm] at h2
  have := congrArg List.length h2
  simp at this
  omega
theorem drop_kd {a : List Nd} {i : Nat} {s : Tree} {r : List Nd} (h : a.drop i = Fm.enc s ++ r) : kd a i = kindOf s ∧ sy a i = sy (Fm.enc s) 0 ∧ a.drop (i + 1) = (kids s).flatMap Fm.enc ++ r := by
  rw [enc_kids s, List.cons_append] at h
  have h0 : a[i]? = some (kindOf s, sy (Fm.enc s) 0) := by
    have := congrArg List.head? h
    simpa using this
  refine ⟨by simp [kd, List.getD, h0], by simp [sy, List.getD, h0], ?_⟩
  have := congrArg List.tail h
  simpa using this
theorem Bal.var {a xs : List Nd} {i j : Nat} (h : Bal a i xs j) (hi : i < a.length) (h0 : kd a i = 0) :
    ∃ (t : Tree) (v : Nat), At xs j t ∧ v < 6 ∧ sy a i = v ∧ Bal a (i + 1) xs (j + (Fm.enc t).length) := by
  obtain ⟨hj, s, t, cs, bs, h1, h2, h3⟩ := h.split hi
  obtain ⟨k1, k2, k3⟩ := drop_kd h1
  rw [h0] at k1
  cases s with
  | var v =>
    refine ⟨t, v.val, ⟨_, h2⟩, v.isLt, by rw [k2]; rfl, cs, bs, by simpa [kids] using k3, ?_, h3, ?_⟩
    · rw [← List.drop_drop, h2, List.drop_left']; rfl
    · have := congrArg List.length h2
      simp only [List.length_drop, List.length_append] at this
      omega
  | fls => simp [kindOf] at k1
  | and x y => simp [kindOf] at k1
  | or x y => simp [kindOf] at k1
  | imp x y => simp [kindOf] at k1
  | box x => simp [kindOf] at k1
  | dia x => simp [kindOf] at k1
theorem Bal.node {a xs : List Nd} {i j : Nat} (h : Bal a i xs j) (hi : i < a.length) (he : kd xs j = kd a i) : Bal a (i + 1) xs (j + 1) := by
  obtain ⟨hj, s, t, cs, bs, h1, h2, h3⟩ := h.split hi
  obtain ⟨k1, _, k3⟩ := drop_kd h1
  obtain ⟨l1, _, l3⟩ := drop_kd h2
  refine ⟨kids s ++ cs, kids t ++ bs, by rw [k3, List.flatMap_append], by rw [l3, List.flatMap_append], ?_, hj⟩
  rw [List.length_append, List.length_append, kids_len, kids_len, ← k1, ← l1, he, h3]
theorem Bal.lt {a xs : List Nd} {i j : Nat} (h : Bal a i xs j) (hi : i < a.length) : j < xs.length := (h.split hi).1
end Go.Proofs.YtnbnhapepcegpaaGreatDoor

/- The reference's l02Equal on lists of nodes. -/
namespace Go.Proofs.YtnbnhapepcegpaaGreatDoor
open Go.RowKit
open Fm (Nd)

theorem agree_all {xs ys : List Nd} (hl : xs.length = ys.length) (h : Agree xs ys xs.length) : xs = ys := nd_ext hl h

theorem l02Equal_c (v1 v2 : Value) (xs ys : List Nd) (w : World) (h1 : Nodes w v1 xs) (h2 : Nodes w v2 ys) (hn : xs.length ≤ 1099511627776) :
    Calls Tryz.prog 49 #[v1, v2] w fun e w' => e = .returned (.bool (decide (xs = ys))) ∧ Grew w w' := by
  by_cases hl : xs.length = ys.length
  · rcases h1.open_ with ⟨rfl, rfl⟩ | ⟨b1, o1, c1, rfl, hc1, hm1, hb1, hf⟩
    · obtain rfl : ys = [] := List.eq_nil_of_length_eq_zero (by simpa using hl.symm)
      obtain ⟨A, c, rfl⟩ := nodes_slice h2
      simp only [List.length_nil]
      clear hl
      go_enter Tryz.func49, Tryz.ntmps49
      go_wp2_with fail
      refine wp_loop_rounds 1 ?_; rw [rounds_succ]
      go_wp2_with fail
      go_ret
      exact ⟨by simp, Grew.refl _⟩
    · rcases h2.open_ with ⟨rfl, rfl⟩ | ⟨b2, o2, c2, rfl, hc2, hm2, hb2, hh⟩
      · obtain rfl : xs = [] := List.eq_nil_of_length_eq_zero (by simpa using hl)
        simp only [List.length_nil]
        clear hl
        go_enter Tryz.func49, Tryz.ntmps49
        go_wp2_with fail
        refine wp_loop_rounds 1 ?_; rw [rounds_succ]
        go_wp2_with fail
        go_ret
        exact ⟨by simp, Grew.refl _⟩
      · clear h1 h2
        have HE := Lib.hid (fun h => agree_all hl h)
        rw [← hl] at hc2 hh ⊢
        have HF := Lib.hid hf
        have HH := Lib.hid hh
        have HX := Lib.hid (fun (h : xs = ys) (i : Nat) => (⟨by rw [h], by rw [h]⟩ : kd xs i = kd ys i ∧ sy xs i = sy ys i))
        obtain ⟨D, hD⟩ : ∃ D, D = decide (xs = ys) := ⟨_, rfl⟩
        rw [← hD]
        have HD := Lib.hid hD
        clear hl hf hh hD
        generalize hN : xs.length = n at *
        clear hN
        go_enter Tryz.func49, Tryz.ntmps49
        go_wp2_with fail
        go_loopg [5] n (fun k i wr => ∃ j : Nat, j ≤ n ∧ k = n - j ∧ i = .int .i64 j ∧ Grew w wr ∧ Hid (Agree xs ys j))
        case atStart => exact ⟨0, Nat.zero_le _, by omega, rfl, Grew.refl _, Agree.zero _ _⟩
        case round =>
          obtain ⟨j, hj, rfl, rfl, hB, HA⟩ := hrel
          by_cases hlt : j < n
          · have k1 : ∀ W, Grew w W → W.cell? ⟨b1, o1 + j * 2, none⟩ = some (.int .i64 (kd xs j)) := fun W hW => (HF.out j hlt W hW).1
            have k2 : ∀ W, Grew w W → W.cell? ⟨b1, o1 + j * 2 + 1, none⟩ = some (.int .i64 (sy xs j)) := fun W hW => (HF.out j hlt W hW).2
            have k3 : ∀ W, Grew w W → W.cell? ⟨b2, o2 + j * 2, none⟩ = some (.int .i64 (kd ys j)) := fun W hW => (HH.out j hlt W hW).1
            have k4 : ∀ W, Grew w W → W.cell? ⟨b2, o2 + j * 2 + 1, none⟩ = some (.int .i64 (sy ys j)) := fun W hW => (HH.out j hlt W hW).2
            have hgd := Tryz.ndGuard
            by_cases he : kd xs j = kd ys j ∧ sy xs j = sy ys j
            · have hq : ∀ W, (binOp .neq 68 (.agg #[.int .i64 (kd xs j), .int .i64 (sy xs j)]) (.agg #[.int .i64 (kd ys j), .int .i64 (sy ys j)])).run Tryz.prog W = .ok (.bool false) W := fun W => by
                rw [Tryz.ndNeq, he.1, he.2]; simp
              have HB := Lib.hid (HA.out.succ he.1 he.2)
              clear he HA
              go_wp2_with fail
              go_quiet (fail)
              go_wp2_with fail
              go_roundg (n - (j + 1))
              case measure => omega
              case rel => exact ⟨j + 1, by omega, rfl, by go_num, hB.drewN _, HB⟩
            · have hq : ∀ W, (binOp .neq 68 (.agg #[.int .i64 (kd xs j), .int .i64 (sy xs j)]) (.agg #[.int .i64 (kd ys j), .int .i64 (sy ys j)])).run Tryz.prog W = .ok (.bool true) W := fun W => by
                have hz : (kd xs j == kd ys j && sy xs j == sy ys j) = false := by
                  cases hz : (kd xs j == kd ys j && sy xs j == sy ys j) with
                  | false => rfl
                  | true => simp at hz; exact absurd hz he
                rw [Tryz.ndNeq, hz]
                simp
              have hv : Hid (D = false) := Lib.hid (by rw [HD.out]; exact decide_eq_false fun h => he (HX.out h j))
              clear he HA
              go_wp2_with fail
              go_quiet (fail)
              go_wp2_with fail
              go_ret
              rw [hv.out]
              exact ⟨rfl, hB.drewN _⟩
          · have hjn : j = n := by omega
            subst hjn
            have hv : Hid (D = true) := Lib.hid (by rw [HD.out]; exact decide_eq_true (HE.out HA.out))
            go_wp2_with fail
            go_ret
            rw [hv.out]
            exact ⟨rfl, hB⟩
  · have hne : xs ≠ ys := fun h => hl (by rw [h])
    rw [decide_eq_false hne]
    obtain ⟨A, c, rfl⟩ := nodes_slice h1
    obtain ⟨B, d, rfl⟩ := nodes_slice h2
    have hl' : (((xs.length : Nat) : Int) != ((ys.length : Nat) : Int)) = true := by simp; omega
    clear hl h1 h2 hne
    go_enter Tryz.func49, Tryz.ntmps49
    go_wp2_with fail
    go_ret
    exact ⟨rfl, Grew.refl _⟩
end Go.Proofs.YtnbnhapepcegpaaGreatDoor

/- slices.Equal and slices.Clone on lists of nodes. -/
namespace Go.Proofs.YtnbnhapepcegpaaGreatDoor
open Go.RowKit
open Fm (Nd)

theorem equalN_c (v1 v2 : Value) (xs ys : List Nd) (w : World) (h1 : Nodes w v1 xs) (h2 : Nodes w v2 ys) (hn : xs.length ≤ 1099511627776) :
    Calls Tryz.prog 79 #[v1, v2] w fun e w' => e = .returned (.bool (decide (xs = ys))) ∧ Grew w w' := by
  by_cases hl : xs.length = ys.length
  · rcases h1.open_ with ⟨rfl, rfl⟩ | ⟨b1, o1, c1, rfl, hc1, hm1, hb1, hf⟩
    · obtain rfl : ys = [] := List.eq_nil_of_length_eq_zero (by simpa using hl.symm)
      obtain ⟨A, c, rfl⟩ := nodes_slice h2
      simp only [List.length_nil]
      clear hl
      go_enter Tryz.func79, Tryz.ntmps79
      go_wp2_with fail
      refine wp_loop_rounds 1 ?_; rw [rounds_succ]
      go_wp2_with fail
      go_ret
      exact ⟨by simp, Grew.refl _⟩
    · rcases h2.open_ with ⟨rfl, rfl⟩ | ⟨b2, o2, c2, rfl, hc2, hm2, hb2, hh⟩
      · obtain rfl : xs = [] := List.eq_nil_of_length_eq_zero (by simpa using hl)
        simp only [List.length_nil]
        clear hl
        go_enter Tryz.func79, Tryz.ntmps79
        go_wp2_with fail
        refine wp_loop_rounds 1 ?_; rw [rounds_succ]
        go_wp2_with fail
        go_ret
        exact ⟨by simp, Grew.refl _⟩
      · clear h1 h2
        have HE := Lib.hid (fun h => agree_all hl h)
        rw [← hl] at hc2 hh ⊢
        have HF := Lib.hid hf
        have HH := Lib.hid hh
        have HX := Lib.hid (fun (h : xs = ys) (i : Nat) => (⟨by rw [h], by rw [h]⟩ : kd xs i = kd ys i ∧ sy xs i = sy ys i))
        obtain ⟨D, hD⟩ : ∃ D, D = decide (xs = ys) := ⟨_, rfl⟩
        rw [← hD]
        have HD := Lib.hid hD
        clear hl hf hh hD
        generalize hN : xs.length = n at *
        clear hN
        go_enter Tryz.func79, Tryz.ntmps79
        go_wp2_with fail
        go_loopg [4, 13] n (fun k _ i wr => ∃ j : Nat, j ≤ n ∧ k = n - j ∧ i = .int .i64 j ∧ Grew w wr ∧ Hid (Agree xs ys j))
        case atStart => exact ⟨0, Nat.zero_le _, by omega, rfl, Grew.refl _, Agree.zero _ _⟩
        case round =>
          obtain ⟨j, hj, rfl, rfl, hB, HA⟩ := hrel
          by_cases hlt : j < n
          · have k1 : ∀ W, Grew w W → W.cell? ⟨b1, o1 + j * 2, none⟩ = some (.int .i64 (kd xs j)) := fun W hW => (HF.out j hlt W hW).1
            have k2 : ∀ W, Grew w W → W.cell? ⟨b1, o1 + j * 2 + 1, none⟩ = some (.int .i64 (sy xs j)) := fun W hW => (HF.out j hlt W hW).2
            have k3 : ∀ W, Grew w W → W.cell? ⟨b2, o2 + j * 2, none⟩ = some (.int .i64 (kd ys j)) := fun W hW => (HH.out j hlt W hW).1
            have k4 : ∀ W, Grew w W → W.cell? ⟨b2, o2 + j * 2 + 1, none⟩ = some (.int .i64 (sy ys j)) := fun W hW => (HH.out j hlt W hW).2
            have hgd := Tryz.ndGuard
            by_cases he : kd xs j = kd ys j ∧ sy xs j = sy ys j
            · have hq : ∀ W, (binOp .neq 68 (.agg #[.int .i64 (kd xs j), .int .i64 (sy xs j)]) (.agg #[.int .i64 (kd ys j), .int .i64 (sy ys j)])).run Tryz.prog W = .ok (.bool false) W := fun W => by
                rw [Tryz.ndNeq, he.1, he.2]; simp
              have HB := Lib.hid (HA.out.succ he.1 he.2)
              clear he HA
              go_wp2_with fail
              go_quiet (fail)
              go_wp2_with fail
              go_roundg (n - (j + 1))
              case measure => omega
              case rel => exact ⟨j + 1, by omega, rfl, by go_num, hB.drewN _, HB⟩
            · have hq : ∀ W, (binOp .neq 68 (.agg #[.int .i64 (kd xs j), .int .i64 (sy xs j)]) (.agg #[.int .i64 (kd ys j), .int .i64 (sy ys j)])).run Tryz.prog W = .ok (.bool true) W := fun W => by
                have hz : (kd xs j == kd ys j && sy xs j == sy ys j) = false := by
                  cases hz : (kd xs j == kd ys j && sy xs j == sy ys j) with
                  | false => rfl
                  | true => simp at hz; exact absurd hz he
                rw [Tryz.ndNeq, hz]
                simp
              have hv : Hid (D = false) := Lib.hid (by rw [HD.out]; exact decide_eq_false fun h => he (HX.out h j))
              clear he HA
              go_wp2_with fail
              go_quiet (fail)
              go_wp2_with fail
              go_ret
              rw [hv.out]
              exact ⟨rfl, hB.drewN _⟩
          · have hjn : j = n := by omega
            subst hjn
            have hv : Hid (D = true) := Lib.hid (by rw [HD.out]; exact decide_eq_true (HE.out HA.out))
            go_wp2_with fail
            go_ret
            rw [hv.out]
            exact ⟨rfl, hB⟩
  · have hne : xs ≠ ys := fun h => hl (by rw [h])
    rw [decide_eq_false hne]
    obtain ⟨A, c, rfl⟩ := nodes_slice h1
    obtain ⟨B, d, rfl⟩ := nodes_slice h2
    have hl' : (((xs.length : Nat) : Int) != ((ys.length : Nat) : Int)) = true := by simp; omega
    clear hl h1 h2 hne
    go_enter Tryz.func79, Tryz.ntmps79
    go_wp2_with fail
    go_ret
    exact ⟨rfl, Grew.refl _⟩

/-- slices.Clone: the same nodes in a row of the call's own; nil where it was nil. -/
theorem cloneN_c (v : Value) (xs : List Nd) (w : World) (h : Nodes w v xs) (hn : xs.length ≤ 1099511627775) :
    Calls Tryz.prog 44 #[v] w (Gives w xs) := by
  have q : ∀ (w : World) (a : Option Addr) (n c n' c' : Nat), (binOp .eql 35 (.slice a n c) (.slice none n' c')).run Tryz.prog w = .ok (.bool a.isNone) w := fun w a n c n' c' => Lib.run_eql_slice_nil w _ _ a n c n' c' Tryz.underlying35
  have he : Own (w.alloc (.cells #[] 68)) w.heap.size (.slice (some ⟨w.heap.size, 0, none⟩) 0 0) [] :=
    World.ownsRow_lit (e := 68) (size := 2) w #[] 0 (Nat.le_refl _) (by omega) rfl
  rcases h.open_ with ⟨rfl, rfl⟩ | ⟨b, o, c, rfl, hc, hm, hb, hf⟩
  · clear he h
    go_enter Tryz.func44, Tryz.ntmps44
    go_wp2_with fail
    go_ret
    exact ⟨_, rfl, Own.nil_ _ _, Grew.refl _⟩
  · clear hf
    go_enter Tryz.func44, Tryz.ntmps44
    go_wp2_with (first
      | (at_builtin; refine wpList_app (w0 := w) _ _ rfl rfl _ [] rfl he ((Grew.refl w).alloc _) _ xs rfl (h.grew ((Grew.refl w).alloc _)) (by simp; omega) ?_; intro v1 w1 hown1 hg1 _))
    go_ret
    exact ⟨_, rfl, by simpa using hown1, hg1⟩
theorem clone_c (v : Value) (xs : List Nd) (w : World) (h : Nodes w v xs) (hn : xs.length ≤ 1099511627775) :
    Calls Tryz.prog 32 #[v] w (Gives w xs) := by
  have HC := Lib.hid (cloneN_c v xs w h hn)
  clear h
  go_enter Tryz.func32, Tryz.ntmps32
  go_wp2_with fail
  refine HC.out.mono ?_
  rintro e w1 ⟨u, rfl, ho1, hg1⟩
  go_wp2_with fail
  go_ret
  exact ⟨_, rfl, ho1, hg1⟩
theorem same_c (v1 v2 : Value) (xs ys : List Nd) (w : World) (h1 : Nodes w v1 xs) (h2 : Nodes w v2 ys) (hn : xs.length ≤ 1099511627776) :
    Calls Tryz.prog 59 #[v1, v2] w fun e w' => e = .returned (.bool (decide (xs = ys))) ∧ Grew w w' := by
  have HC := Lib.hid (equalN_c v1 v2 xs ys w h1 h2 hn)
  clear h1 h2
  generalize decide (xs = ys) = R at *
  go_enter Tryz.func59, Tryz.ntmps59
  go_wp2_with fail
  refine HC.out.mono ?_
  rintro e w1 ⟨rfl, hg1⟩
  go_wp2_with fail
  go_ret
  exact ⟨rfl, hg1⟩
end Go.Proofs.YtnbnhapepcegpaaGreatDoor

/- Rows of slices of nodes of the call's own: an append of one slice. -/
namespace Go.Proofs.YtnbnhapepcegpaaGreatDoor
open Go.RowKit
open Fm (Nd)

/-- A row of slices of the call's own. -/
def OwnV (w : World) (B : Nat) (v : Value) (us : List Value) : Prop := w.ownsRow B 35 1 v us.length us

theorem own_app {w w' : World} {B B' : Nat} {u v : Value} {xs : List Nd} {us : List Value} (h : Own w B u xs) (hv : OwnV w B' v us) (hg : w.grownBy w' v.ownBlock) : Own w' B u xs := by
  rcases hv.2 with ⟨rfl, _⟩ | ⟨g, cap, cur, rfl, _, hh, _⟩
  · exact own_grew h (by
      have hg' : w.grownBy w' none := hg
      exact ⟨hg'.os, hg'.tape, hg'.output, hg'.size, fun i hi => hg'.block i hi (by simp)⟩)
  · exact own_only h (show Only g w w' from hg) (own_ne h hh (by decide))

theorem infoSl : (Tryz.prog.info? 35).map (fun i => (i.zero, i.size, i.bytes)) = some (some (.slice none 0 0), 1, 24) := by kernel_rfl

theorem wpList_appV {ops : Array Oper} {rest : List Oper} {o : Oper} {a : Act} {Q : Exit → Act → World → Prop} {w w0 : World} (s x : Operand) (hgd : o.guard = none)
    (ho : o.op = .call { callee := .builtin .append, args := #[s, x], argTypes := #[28, 28] })
    (v : Value) (us : List Value) (hs : a.eval s = v) (hown : OwnV w w0.heap.size v us) (hg : Grew w0 w) (vx u : Value) (hx : a.eval x = vx) (hr : Rd w 1 vx 1 [u]) (h1 : u.oneCell' = true) (hn : us.length ≤ 1048576)
    (h : ∀ v' w', OwnV w' w0.heap.size v' (us ++ [u]) → Grew w0 w' → w.grownBy w' v.ownBlock → wpList Tryz.prog ops Q rest (a.put o.dst v') w') : wpList Tryz.prog ops Q (o :: rest) a w := by
  obtain ⟨i0, hi0, hz0, hz1, hz2⟩ := info_parts infoSl
  refine wpList_append_rd w hgd s x _ ho w0.heap.size 35 i0 _ 1 24 Tryz.underlying28 hi0 hz0 hz1 hz2 rfl (by omega) v us.length us hs hown vx 1 [u] hx hr (by simpa using h1) (by unfold maxLen; omega) (by omega) hg.size ?_
  intro v' w' h1 h2 h3
  refine h v' w' ?_ (hg.grown h2 fun k hk => (hown.lt k hk).1) h2
  unfold OwnV
  rw [List.length_append]
  exact h1

theorem own_one {w : World} {B : Nat} {u : Value} {xs : List Nd} (h : Own w B u xs) : u.oneCell' = true := by
  obtain ⟨A, c, rfl⟩ := nodes_slice h.nodes
  rfl
theorem rd_lit (w : World) (u : Value) (t : TypeId) : Rd (w.alloc (.cells #[u] t)) 1 (.slice (some ⟨w.heap.size, 0, none⟩) 1 1) 1 [u] := by
  refine ⟨rfl, by omega, .inr ⟨w.heap.size, 0, 1, rfl, by omega, by omega, by simp, fun j x hx => ?_⟩⟩
  have hj : j = 0 := by
    have := (List.getElem?_eq_some_iff.1 hx).1
    simp at this
    omega
  subst hj
  simp at hx
  subst hx
  simp

theorem own_empty (w : World) : OwnV (w.alloc (.cells #[] 35)) w.heap.size (.slice (some ⟨w.heap.size, 0, none⟩) 0 0) [] :=
  World.ownsRow_lit (e := 35) (size := 1) w #[] 0 (Nat.le_refl _) (by omega) rfl
end Go.Proofs.YtnbnhapepcegpaaGreatDoor

/- match of the program. -/
namespace Go.Proofs.YtnbnhapepcegpaaGreatDoor
open Go.RowKit
open Fm (Nd Tree)

/-- The images so far: nil where there is none yet. -/
def ImgP (w : World) (B : Nat) (cur : Array Value) (σ : Nat → List Nd) : Prop := ∀ v, v < 6 → ∃ u, cur[v]? = some u ∧ Own w B u (σ v) ∧ (σ v).length ≤ 1048576 ∧ (σ v = [] → u = .slice none 0 0)
theorem ImgP.grew {w w' : World} {B : Nat} {cur : Array Value} {σ : Nat → List Nd} (h : ImgP w B cur σ) (hg : Grew w w') : ImgP w' B cur σ := fun v hv => by
  obtain ⟨u, h1, h2, h3⟩ := h v hv
  exact ⟨u, h1, h2.grew hg, h3⟩
theorem ImgP.only {w w' : World} {B g : Nat} {cur : Array Value} {σ : Nat → List Nd} (h : ImgP w B cur σ) (hg : Only g w w') (hB : g < B) : ImgP w' B cur σ := fun v hv => by
  obtain ⟨u, h1, h2, h3⟩ := h v hv
  exact ⟨u, h1, h2.only hg (fun e => by have := own_of_ge h2 e; omega), h3⟩
theorem ImgP.set {w : World} {B : Nat} {cur : Array Value} {σ : Nat → List Nd} {v : Nat} {u : Value} {c : List Nd} (h : ImgP w B cur σ) (hv : v < cur.size) (hu : Own w B u c) (hl : c.length ≤ 1048576) (hc : c ≠ []) : ImgP w B (cur.setIfInBounds v u) (upd σ v c) := fun x hx => by
  unfold upd
  by_cases hxv : x = v
  · subst hxv
    refine ⟨u, ?_, by rw [if_pos rfl]; exact hu, by rw [if_pos rfl]; exact hl, by rw [if_pos rfl]; exact fun h => absurd h hc⟩
    rw [Array.getElem?_setIfInBounds, if_pos rfl, if_pos hv]
  · obtain ⟨y, h1, h2, h4, h3⟩ := h x hx
    refine ⟨y, ?_, by rw [if_neg hxv]; exact h2, by rw [if_neg hxv]; exact h4, by rw [if_neg hxv]; exact h3⟩
    rw [Array.getElem?_setIfInBounds, if_neg (fun e => hxv e.symm)]
    exact h1
theorem ImgP.start (w : World) (B : Nat) : ImgP w B (madeCells #[Value.slice none 0 0] 6) (fun _ => []) := fun x hx => by
  refine ⟨.slice none 0 0, ?_, Own.nil_ w B, by simp, fun _ => rfl⟩
  obtain rfl | rfl | rfl | rfl | rfl | rfl : x = 0 ∨ x = 1 ∨ x = 2 ∨ x = 3 ∨ x = 4 ∨ x = 5 := by omega
  all_goals simp [madeCells]
/-- Every cell holds a slice. -/
def Sls (cur : Array Value) : Prop := ∀ v, v < 6 → ∃ A n c, cur[v]? = some (.slice A n c)
theorem ImgP.sls {w : World} {B : Nat} {cur : Array Value} {σ : Nat → List Nd} (h : ImgP w B cur σ) : Sls cur := fun v hv => by
  obtain ⟨u, h1, h2, _⟩ := h v hv
  obtain ⟨A, c, rfl⟩ := nodes_slice h2.nodes
  exact ⟨_, _, _, h1⟩
theorem Sls.set {cur : Array Value} (h : Sls cur) (v : Nat) (A : Option Addr) (n c : Nat) : Sls (cur.setIfInBounds v (.slice A n c)) := fun x hx => by
  rw [Array.getElem?_setIfInBounds]
  split
  · split
    · exact ⟨_, _, _, rfl⟩
    · rename_i h1 h2
      obtain ⟨A', n', c', h3⟩ := h x hx
      have := (Array.getElem?_eq_some_iff.1 h3).1
      omega
  · exact h x hx

set_option maxRecDepth 100000 in
theorem match_c (v u : Value) (s t : Tree) (w : World) (h1 : Nodes w v (Fm.enc s)) (h2 : Nodes w u (Fm.enc t)) (hs : (Fm.enc s).length ≤ 1048576) (ht : (Fm.enc t).length ≤ 1048576) :
    Calls Tryz.prog 92 #[v, u] w fun e w' => ∃ q, e = .returned (.tuple #[q, .bool (mrun (Fm.enc t) (Fm.enc s) 0 (fun _ => []))]) ∧ Grew w w' := by
  rcases h1.open_ with ⟨_, h0⟩ | ⟨b1, o1, c1, rfl, hc1, hm1, hb1, hf1⟩
  · have := Fm.enc_pos s; rw [h0] at this; simp at this
  rcases h2.open_ with ⟨_, h0⟩ | ⟨b2, o2, c2, rfl, hc2, hm2, hb2, hf2⟩
  · have := Fm.enc_pos t; rw [h0] at this; simp at this
  have hbal := Bal.start s t
  have hmk : ∀ w : World, (Instr.makeSlice 28 (.int .i64 6) (.int .i64 6)).run Tryz.prog w = .ok (.slice (some ⟨w.heap.size, 0, none⟩) 6 6) (w.alloc (.cells (madeCells #[Value.slice none 0 0] 6) 35)) := run_make_row' (P := Tryz.prog) 28 35 (.slice none 0 0) 24 Tryz.underlying28 infoSl rfl .i64 .i64 6 (by omega) (by omega)
  obtain ⟨R, hR⟩ : ∃ R, R = mrun (Fm.enc t) (Fm.enc s) 0 (fun _ => []) := ⟨_, rfl⟩
  rw [← hR]
  have hsz : (madeCells #[Value.slice none 0 0] 6).size = 6 := by simp [madeCells]
  have hnew := blk_new w (.cells (madeCells #[Value.slice none 0 0] 6) 35)
  have hal := (Grew.refl w).alloc (.cells (madeCells #[Value.slice none 0 0] 6) 35)
  have himg := fun W => ImgP.start W (w.heap.size + 1)
  generalize madeCells #[Value.slice none 0 0] 6 = cur0 at *
  generalize Fm.enc s = a at *
  generalize Fm.enc t = xs at *
  have HC1 := Lib.hid hf1
  have HC2 := Lib.hid hf2
  have HR : Hid (R = mrun xs (a.drop 0) 0 (fun _ => [])) := Lib.hid hR
  have H2 := Lib.hid h2
  have HBAL := Lib.hid hbal
  have HNEW := Lib.hid hnew
  have HAL := Lib.hid hal
  have HIMG := Lib.hid himg
  clear hf1 hf2 hR h1 h2 hbal hnew hal himg
  generalize hN : a.length = n at *
  generalize hM : xs.length = m at *
  go_enter Tryz.func92, Tryz.ntmps92
  go_wp2_with fail
  go_loopw [7, 15] (fun x i wr => ∃ (j p : Nat) (cur : Array Value) (σ : Nat → List Nd), j ≤ n ∧ p ≤ m ∧ x = .int .i64 p ∧ i = .int .i64 j ∧ wr.heap[w.heap.size]? = some (.cells cur 35 (0, 0)) ∧ cur.size = 6 ∧ Grew w wr ∧ Hid (ImgP wr (w.heap.size + 1) cur σ) ∧ Hid (Bal a j xs p) ∧ Hid (R = mrun xs (a.drop j) p σ)) (fun _ i _ => n - (intOf i).toNat)
  case atStart => exact ⟨0, 0, cur0, _, Nat.zero_le _, Nat.zero_le _, rfl, rfl, HNEW.out, hsz, HAL.out, HIMG.out _, HBAL.out, HR.out⟩
  case round =>
    obtain ⟨j, p, cur, σ, hj, hp, rfl, rfl, hh, hcs, hB, HI, HL, HR'⟩ := hrel
    clear HBAL HR HNEW HAL HIMG
    by_cases hlt : j < n
    · have k1 := (HC1.out j hlt _ hB).1
      have k2 := (HC1.out j hlt _ hB).2
      have hpm : p < m := by rw [← hM]; exact HL.out.lt (by rw [hN]; exact hlt)
      have k3 : ∀ W, Grew w W → W.cell? ⟨b2, o2 + p * 2, none⟩ = some (.int .i64 (kd xs p)) := fun W hW => (HC2.out p hpm W hW).1
      have k4 : ∀ W, Grew w W → W.cell? ⟨b2, o2 + p * 2 + 1, none⟩ = some (.int .i64 (sy xs p)) := fun W hW => (HC2.out p hpm W hW).2
      by_cases h0 : kd a j = 0
      · have hne : (kd a j != 0) = false := by simp [h0]
        obtain ⟨tr, vv, ht1, hv, hsy, hbal⟩ := HL.out.var (by rw [hN]; exact hlt) h0
        have hmr := mrun_var (σ := σ) (by rw [hN]; exact hlt) h0 hsy ht1
        rw [← HR'.out] at hmr
        have hle := ht1.le
        have hpos := Fm.enc_pos tr
        rw [hM] at hle
        have hP := Lib.hid (fun W (hW : Grew w W) => part_c _ xs p tr W (H2.out.grew hW) (by rw [hM]; omega) ht1)
        obtain ⟨u, hu1, hu2, hul, hu3⟩ := HI.out vv hv
        rw [h0] at k1
        rw [hsy] at k2
        clear h0 hsy ht1 hne
        have HBAL := Lib.hid hbal
        have HMR := Lib.hid hmr
        clear hbal hmr HL
        generalize Fm.enc tr = c at *
        have hcne : c ≠ [] := fun h => by rw [h] at hpos; simp at hpos
        have HW : Hid (∀ W, Grew wr W → W.heap[w.heap.size]? = some (.cells cur 35 (0, 0))) := Lib.hid fun W hW => (hW.block (blk_lt hh)).trans hh
        have HUP := Lib.hid (fun W u hu hI => ImgP.set (w := W) (B := w.heap.size + 1) (cur := cur) (σ := σ) (v := vv) (u := u) (c := c) hI (by omega) hu (by omega) hcne)
        clear hh
        have HI1 := Lib.hid (fun W (hW : Grew wr W) => HI.out.grew hW)
        by_cases hz : σ vv = []
        · have hu := hu3 hz
          subst hu
          have hv2 : R = mrun xs (a.drop (j + 1)) (p + c.length) (upd σ vv c) := by rw [HMR.out, if_neg (by simp [hz])]
          have HV2 := Lib.hid hv2
          clear hv2 HMR hu2 hu3 hz
          go_wp2_with fail
          refine (hP.out _ (hB.trans ((Grew.refl wr).alloc _))).mono ?_
          rintro e w1 ⟨q, rfl, hq, hg1⟩
          obtain ⟨Aq, kq, rfl⟩ := nodes_slice hq
          have hgr := Grew.of_alloc hg1
          have e1 : w1.cell? ⟨wr.heap.size, 0, none⟩ = some (.int .i64 0) := (hg1.cell (by simp)).trans (by simp)
          have e2 : w1.cell? ⟨wr.heap.size, 1, none⟩ = some (.int .i64 vv) := (hg1.cell (by simp)).trans (by simp)
          have e3 : w1.cell? ⟨w.heap.size, vv, none⟩ = some (.slice none 0 0) := (blk_cell (HW.out _ hgr) vv).trans hu1
          go_wp2_with fail
          have hr1 := Grew.refl w1
          have hd1 := (Grew.refl w1).drew
          have hsz := hg1.size
          have hszB := hB.size
          have hgw : w.heap.size < wr.heap.size := blk_lt (HW.out _ (Grew.refl _))
          have c1' : ∀ W, Only w.heap.size w1 W → W.cell? ⟨wr.heap.size, 1, none⟩ = some (.int .i64 vv) := fun W hW => (hW.cell (p := ⟨wr.heap.size, 1, none⟩) (by simp at hsz; exact hsz) (by show wr.heap.size ≠ w.heap.size; omega)).trans e2
          have c2' : ∀ W, Grew w1 W → W.cell? ⟨w.heap.size, vv, none⟩ = some (.slice none 0 0) := fun W hW => (blk_cell (HW.out W (hgr.trans hW)) vv).trans hu1
          have c3' : ∀ W, Grew w1 W → W.frozen? ⟨w.heap.size, vv, none⟩ = false := fun W hW => blk_frozen (HW.out W (hgr.trans hW)) vv
          have hi0 : (0 : Int) ≤ (vv : Int) := by omega
          have hi6 : (vv : Int) < 6 := by omega
          have hO1 : Only w.heap.size w1 w1 := Only.refl _ _
          have hOd : Only w.heap.size w1 w1.drew := hO1.drew
          go_region_held3 (fun w' => Only w.heap.size w1 w') (first | with_reducible assumption | exact Only.setCell (by with_reducible assumption) _)
            (first | (go_at_call 32; refine (clone_c _ c _ (hq.grew hd1) (by omega)).mono ?_; rintro e w2 ⟨q2, rfl, ho2, hg2⟩; have hk2 : Grew w1 w2 := hd1.trans hg2; have hO2 : Only w.heap.size w1 w2 := hk2.only; obtain ⟨A2, k2, rfl⟩ := nodes_slice ho2.nodes))
          have hI2 := Lib.hid ((HUP.out _ _ (ho2.base (by have hszd : w1.drew.heap.size = w1.heap.size := rfl; simp at hsz; omega)) (HI1.out _ (hgr.trans hk2))).only ((Only.refl w.heap.size w2).setCell (o := vv) (.slice A2 c.length k2)) (by omega))
          have HH2 := Lib.hid (blk_set (HW.out _ (hgr.trans hk2)) vv (.slice A2 c.length k2))
          have hB2 : Grew w (w2.setCell ⟨w.heap.size, vv, none⟩ (.slice A2 c.length k2)) := (hB.trans (hgr.trans hk2)).setCell (Nat.le_refl _) _
          have hcs2 : (cur.setIfInBounds vv (.slice A2 c.length k2)).size = 6 := by simp [hcs]
          go_wp2_with fail
          go_roundw
          case rel => exact ⟨j + 1, p + c.length, _, _, by omega, by omega, by go_num, by go_num, HH2.out, hcs2, hB2, hI2.out, HBAL.out, HV2.out⟩
          case measure => simp [intOf]; omega
        · rcases hu2.nodes.open_ with ⟨_, h0⟩ | ⟨b3, o3, c3, rfl, hc3, hm3, hb3, _⟩
          · exact absurd h0 hz
          have HS := Lib.hid (fun W q2 (hW : Grew wr W) (hq2 : Nodes W q2 c) => same_c _ q2 (σ vv) c W (hu2.nodes.grew hW) hq2 (by omega))
          clear hu3
          by_cases hz2 : σ vv = c
          · have hv2 : R = mrun xs (a.drop (j + 1)) (p + c.length) (upd σ vv c) := by rw [HMR.out, if_neg (by simp [hz2])]
            have HV2 := Lib.hid hv2
            rw [decide_eq_true hz2] at HS
            clear hv2 HMR hu2 hz hz2
            generalize (σ vv).length = ls at *
            go_wp2_with fail
            refine (hP.out _ (hB.trans ((Grew.refl wr).alloc _))).mono ?_
            rintro e w0 ⟨q, rfl, hq0, hg0⟩
            obtain ⟨Aq, kq, rfl⟩ := nodes_slice hq0
            have hgr0 := Grew.of_alloc hg0
            have e1 : w0.cell? ⟨wr.heap.size, 0, none⟩ = some (.int .i64 0) := (hg0.cell (by simp)).trans (by simp)
            have e2 : w0.cell? ⟨wr.heap.size, 1, none⟩ = some (.int .i64 vv) := (hg0.cell (by simp)).trans (by simp)
            have e3 : w0.cell? ⟨w.heap.size, vv, none⟩ = some (.slice (some ⟨b3, o3, none⟩) ls c3) := (blk_cell (HW.out _ hgr0) vv).trans hu1
            go_wp2_with fail
            refine (HS.out _ _ hgr0 hq0).mono ?_
            rintro e w1 ⟨rfl, hg1⟩
            have hq := hq0.grew hg1
            have e2 := (hg1.cell (p := ⟨wr.heap.size, 1, none⟩) (by have := hg0.size; simp at this; exact this)).trans e2
            go_wp2_with fail
            have hr1 := Grew.refl w1
            have hd1 := (Grew.refl w1).drew
            have hsz := Nat.le_trans hg0.size hg1.size
            have hszB := hB.size
            have hgw : w.heap.size < wr.heap.size := blk_lt (HW.out _ (Grew.refl _))
            have c1' : ∀ W, Only w.heap.size w1 W → W.cell? ⟨wr.heap.size, 1, none⟩ = some (.int .i64 vv) := fun W hW => (hW.cell (p := ⟨wr.heap.size, 1, none⟩) (by simp at hsz; exact hsz) (by show wr.heap.size ≠ w.heap.size; omega)).trans e2
            have c2' : ∀ W, Grew w1 W → W.cell? ⟨w.heap.size, vv, none⟩ = some (.slice (some ⟨b3, o3, none⟩) ls c3) := fun W hW => (blk_cell (HW.out W ((hgr0.trans hg1).trans hW)) vv).trans hu1
            have c3' : ∀ W, Grew w1 W → W.frozen? ⟨w.heap.size, vv, none⟩ = false := fun W hW => blk_frozen (HW.out W ((hgr0.trans hg1).trans hW)) vv
            have hi0 : (0 : Int) ≤ (vv : Int) := by omega
            have hi6 : (vv : Int) < 6 := by omega
            have hO1 : Only w.heap.size w1 w1 := Only.refl _ _
            have hOd : Only w.heap.size w1 w1.drew := hO1.drew
            go_region_held3 (fun w' => Only w.heap.size w1 w') (first | with_reducible assumption | exact Only.setCell (by with_reducible assumption) _)
              (first | (go_at_call 32; refine (clone_c _ c _ (hq.grew hd1) (by omega)).mono ?_; rintro e w2 ⟨q2, rfl, ho2, hg2⟩; have hk2 : Grew w1 w2 := hd1.trans hg2; have hO2 : Only w.heap.size w1 w2 := hk2.only; obtain ⟨A2, k2, rfl⟩ := nodes_slice ho2.nodes))
            have hI2 := Lib.hid ((HUP.out _ _ (ho2.base (by have hszd : w1.drew.heap.size = w1.heap.size := rfl; simp at hsz; omega)) (HI1.out _ ((hgr0.trans hg1).trans hk2))).only ((Only.refl w.heap.size w2).setCell (o := vv) (.slice A2 c.length k2)) (by omega))
            have HH2 := Lib.hid (blk_set (HW.out _ ((hgr0.trans hg1).trans hk2)) vv (.slice A2 c.length k2))
            have hB2 : Grew w (w2.setCell ⟨w.heap.size, vv, none⟩ (.slice A2 c.length k2)) := (hB.trans ((hgr0.trans hg1).trans hk2)).setCell (Nat.le_refl _) _
            have hcs2 : (cur.setIfInBounds vv (.slice A2 c.length k2)).size = 6 := by simp [hcs]
            go_wp2_with fail
            go_roundw
            case rel => exact ⟨j + 1, p + c.length, _, _, by omega, by omega, by go_num, by go_num, HH2.out, hcs2, hB2, hI2.out, HBAL.out, HV2.out⟩
            case measure => simp [intOf]; omega
          · have hv2 : R = false := by rw [HMR.out, if_pos ⟨hz, hz2⟩]
            have HV2 := Lib.hid hv2
            rw [decide_eq_false hz2] at HS
            clear hv2 HMR hu2 hz hz2
            generalize (σ vv).length = ls at *
            go_wp2_with fail
            refine (hP.out _ (hB.trans ((Grew.refl wr).alloc _))).mono ?_
            rintro e w0 ⟨q, rfl, hq0, hg0⟩
            obtain ⟨Aq, kq, rfl⟩ := nodes_slice hq0
            have hgr0 := Grew.of_alloc hg0
            have e1 : w0.cell? ⟨wr.heap.size, 0, none⟩ = some (.int .i64 0) := (hg0.cell (by simp)).trans (by simp)
            have e2 : w0.cell? ⟨wr.heap.size, 1, none⟩ = some (.int .i64 vv) := (hg0.cell (by simp)).trans (by simp)
            have e3 : w0.cell? ⟨w.heap.size, vv, none⟩ = some (.slice (some ⟨b3, o3, none⟩) ls c3) := (blk_cell (HW.out _ hgr0) vv).trans hu1
            go_wp2_with fail
            refine (HS.out _ _ hgr0 hq0).mono ?_
            rintro e w1 ⟨rfl, hg1⟩
            go_wp2_with fail
            go_ret2
            exact ⟨_, by rw [HV2.out]; rfl, (hB.trans hgr0).trans hg1⟩
      · have hne : (kd a j != 0) = true := by simp [h0]
        have hmr := mrun_node (xs := xs) (j := p) (σ := σ) (by rw [hN]; exact hlt) h0
        rw [← HR'.out] at hmr
        have hgd := Tryz.ndGuard
        have hBA := hB.alloc (.cells #[.int .i64 (kd a j), .int .i64 (sy a j)] 68)
        have HH := Lib.hid ((((Grew.refl wr).alloc (.cells #[.int .i64 (kd a j), .int .i64 (sy a j)] 68)).block (blk_lt hh)).trans hh)
        have HI1 := Lib.hid (HI.out.grew ((Grew.refl wr).alloc (.cells #[.int .i64 (kd a j), .int .i64 (sy a j)] 68)))
        clear hh
        by_cases he : kd xs p = kd a j ∧ sy xs p = sy a j
        · have hbal := Lib.hid (HL.out.node (by rw [hN]; exact hlt) he.1)
          have hq : ∀ W, (binOp .neq 68 (.agg #[.int .i64 (kd xs p), .int .i64 (sy xs p)]) (.agg #[.int .i64 (kd a j), .int .i64 (sy a j)])).run Tryz.prog W = .ok (.bool false) W := fun W => by
            rw [Tryz.ndNeq, he.1, he.2]; simp
          rw [if_pos he] at hmr
          have HMR := Lib.hid hmr
          clear hmr he h0 HL HR'
          go_wp2_with fail
          go_quiet (fail)
          go_wp2_with fail
          go_roundw
          case rel => exact ⟨j + 1, p + 1, cur, σ, by omega, by omega, by go_num, by go_num, HH.out, hcs, hBA.drewN _, HI1.out.grew ((Grew.refl _).drewN _), hbal, HMR⟩
          case measure => simp [intOf]; omega
        · have hq : ∀ W, (binOp .neq 68 (.agg #[.int .i64 (kd xs p), .int .i64 (sy xs p)]) (.agg #[.int .i64 (kd a j), .int .i64 (sy a j)])).run Tryz.prog W = .ok (.bool true) W := fun W => by
            have hz : (kd xs p == kd a j && sy xs p == sy a j) = false := by
              cases hz : (kd xs p == kd a j && sy xs p == sy a j) with
              | false => rfl
              | true => simp at hz; exact absurd hz he
            rw [Tryz.ndNeq, hz]; rfl
          rw [if_neg he] at hmr
          have HMR := Lib.hid hmr
          clear hmr he h0 HL HR'
          go_wp2_with fail
          go_quiet (fail)
          go_wp2_with fail
          go_ret2
          exact ⟨_, by rw [HMR.out]; rfl, hBA.drewN _⟩
    · obtain rfl : j = n := by omega
      have hv : R = true := by rw [HR'.out, mrun_end]; omega
      have HV := Lib.hid hv
      have hsl := HI.out.sls
      clear HL HR' HI hv HC1 HC2
      go_wp2_with fail
      go_loopw [11, 66] (fun _ i wy => ∃ (k : Nat) (cy : Array Value), k ≤ 6 ∧ i = .int .i64 k ∧ wy.heap[w.heap.size]? = some (.cells cy 35 (0, 0)) ∧ cy.size = 6 ∧ Grew w wy ∧ Sls cy) (fun _ i _ => 6 - (intOf i).toNat)
      case atStart => exact ⟨0, cur, by omega, rfl, hh, hcs, hB, hsl⟩
      case round =>
        clear hh hcs hB hsl
        obtain ⟨k, cy, hk, rfl, hh, hcs, hB, hsl⟩ := hrel
        by_cases hlt2 : k < 6
        · obtain ⟨A, nn, cc, hA⟩ := hsl k hlt2
          have q : ∀ (w : World) (a : Option Addr) (n c n' c' : Nat), (binOp .eql 35 (.slice a n c) (.slice none n' c')).run Tryz.prog w = .ok (.bool a.isNone) w := fun w a n c n' c' => Lib.run_eql_slice_nil w _ _ a n c n' c' Tryz.underlying35
          have e1 : wr.cell? ⟨w.heap.size, k, none⟩ = some (.slice A nn cc) := (blk_cell hh k).trans hA
          cases A with
          | some A =>
            go_wp2_with fail
            go_roundw
            case rel => exact ⟨k + 1, cy, by omega, by go_num, hh, hcs, hB, hsl⟩
            case measure => simp [intOf]; omega
          | none =>
            have HH := Lib.hid hh
            clear hh
            go_wp2_with fail
            refine (variable_c _ _).mono ?_
            rintro e w5 ⟨q5, rfl, ho5, hg5⟩
            have hh5 := (hg5.block (blk_lt HH.out)).trans HH.out
            have e4 : w5.cell? ⟨w.heap.size, k, none⟩ = some (.slice none nn cc) := (blk_cell hh5 k).trans hA
            have f4 := blk_frozen hh5 k
            obtain ⟨A5, k5, rfl⟩ := nodes_slice ho5.nodes
            have HH5 := Lib.hid (blk_set hh5 k (.slice A5 (Fm.vari k).length k5))
            have hcs5 : (cy.setIfInBounds k (.slice A5 (Fm.vari k).length k5)).size = 6 := by simp [hcs]
            clear hh5
            go_wp2_with fail
            go_roundw
            case rel => exact ⟨k + 1, _, by omega, by go_num, HH5.out, hcs5, (hB.trans hg5).setCell (Nat.le_refl _) _, hsl.set _ _ _ _⟩
            case measure => simp [intOf]; omega
        · obtain rfl : k = 6 := by omega
          go_wp2_with fail
          go_ret2
          exact ⟨_, by rw [HV.out]; rfl, hB⟩
end Go.Proofs.YtnbnhapepcegpaaGreatDoor

/- A copy: l02Own of the reference. -/
namespace Go.Proofs.YtnbnhapepcegpaaGreatDoor
open Go.RowKit
open Fm (Nd)

theorem l02Own_c (v : Value) (xs : List Nd) (w : World) (h : Nodes w v xs) (hn : xs.length ≤ 1099511627775) :
    Calls Tryz.prog 30 #[v] w (Gives w xs) := by
  have he : Own (w.alloc (.cells #[] 68)) w.heap.size (.slice (some ⟨w.heap.size, 0, none⟩) 0 0) [] :=
    World.ownsRow_lit (e := 68) (size := 2) w #[] 0 (Nat.le_refl _) (by omega) rfl
  go_enter Tryz.func30, Tryz.ntmps30
  go_wp2_with (first
    | (at_builtin; refine wpList_app (w0 := w) _ _ rfl rfl _ [] rfl he ((Grew.refl w).alloc _) v xs rfl (h.grew ((Grew.refl w).alloc _)) (by simp; omega) ?_; intro v1 w1 hown1 hg1 _))
  go_ret
  exact ⟨_, rfl, by simpa using hown1, hg1⟩
end Go.Proofs.YtnbnhapepcegpaaGreatDoor
