/- Texts in one file: Base Parse0 Nodes Ints IntArg Strs StrLaw RowLem FitS OwnE Dd IntLaw IntEq Make DdTo DdTo2 DdX MarkText MarkS MarkSW MkS IntMark DdMk Lit Join Take Parse1 WalkP WalkA WalkQ. -/
import Derived.WalkKit
import Derived.WalkSpells
import Derived.WalkLawsBesides
import Derived.Lib.Hide
import Derived.Deep.Draws
import Derived.Deep.AppendLies
import Derived.Maps.AppendAt
import Derived.Lib.AppendZerosOnto
import Derived.Test.YtofeeenjlaljpaaGreatProg
import Derived.Deep.RegionHeld3
import Derived.Deep.QuietTactic
import Derived.BigQuiet
import Derived.Deep.LoopGhost
import Derived.Deep.OwnRows
import Derived.Outline
import Derived.Laws.BytesArg
import Derived.Lib.OthersKept
set_option linter.all false

/- Words for memory: what a call leaves as it was, a slice that reads as a row of cells, an append onto a row of the call's own. No program is in sight. -/
namespace Go.Proofs.YtofeeenjlaljpaaGreat
open Go.RowKit

/-- Nothing that was there has changed; there may be new blocks. -/
def Grew (a b : World) : Prop := Below a.heap.size a b
theorem Grew.refl (w : World) : Grew w w := Below.refl _ _
theorem Grew.size {a b : World} (h : Grew a b) : a.heap.size ≤ b.heap.size := Below.size h
theorem Grew.trans {a b c : World} (h : Grew a b) (k : Grew b c) : Grew a c := Below.trans h (Below.mono k (Below.size h))
theorem Grew.drew {a b : World} (h : Grew a b) : Grew a b.drew := Below.drew h
theorem Grew.drewN {a b : World} (h : Grew a b) (n : Nat) : Grew a (b.drewN n) := ⟨h.os, h.tape, h.output, h.size, h.block⟩
theorem Grew.alloc {a b : World} (h : Grew a b) (o : Obj) : Grew a (b.alloc o) := Below.alloc h (Below.size h) o
theorem Grew.of_drew {a b : World} (h : Grew a.drew b) : Grew a b := ⟨h.os, h.tape, h.output, h.size, h.block⟩
theorem Grew.of_drewN {a b : World} {n : Nat} (h : Grew (a.drewN n) b) : Grew a b := ⟨h.os, h.tape, h.output, h.size, h.block⟩
theorem Grew.of_alloc {a b : World} {o : Obj} (h : Grew (a.alloc o) b) : Grew a b := ((Grew.refl a).alloc o).trans h
theorem Grew.setCell {a b : World} (h : Grew a b) {p : Addr} (hp : a.heap.size ≤ p.block) (u : Value) : Grew a (b.setCell p u) := Below.setCell h hp u
theorem Grew.cell {a b : World} (h : Grew a b) {p : Addr} (hp : p.block < a.heap.size) : b.cell? p = a.cell? p := Below.cell h hp
theorem Grew.block {a b : World} (h : Grew a b) {k : Nat} (hp : k < a.heap.size) : b.heap[k]? = a.heap[k]? := Below.block h k hp
theorem Grew.grown {a b c : World} {row : Option Nat} (h : Grew a b) (hg : b.grownBy c row) (hr : ∀ k, row = some k → a.heap.size ≤ k) : Grew a c := Below.grown h hg (Below.size h) hr
theorem Grew.by_ {a b : World} (h : Grew a b) (row : Option Nat) : a.grownBy b row := ⟨h.os, h.tape, h.output, h.size, fun _ hi _ => h.block hi⟩
theorem Grew.below {a b : World} (h : Grew a b) : Below a.heap.size a b := h

/-- Of what was there block g alone may have changed. -/
def Only (g : Nat) (a b : World) : Prop := a.grownBy b (some g)
theorem Only.refl (g : Nat) (w : World) : Only g w w := World.grownBy.refl w _
theorem Only.size {g : Nat} {a b : World} (h : Only g a b) : a.heap.size ≤ b.heap.size := World.grownBy.size h
theorem Only.trans {g : Nat} {a b c : World} (h : Only g a b) (k : Only g b c) : Only g a c := World.grownBy.trans h k
theorem Only.drew {g : Nat} {a b : World} (h : Only g a b) : Only g a b.drew := ⟨h.os, h.tape, h.output, h.size, h.block⟩
theorem Only.drewN {g : Nat} {a b : World} (h : Only g a b) (n : Nat) : Only g a (b.drewN n) := ⟨h.os, h.tape, h.output, h.size, h.block⟩
theorem Grew.only {g : Nat} {a b : World} (h : Grew a b) : Only g a b := h.by_ _
theorem Only.grew {g : Nat} {a b c : World} (h : Only g a b) (k : Grew b c) : Only g a c := Only.trans h k.only
theorem Only.alloc {g : Nat} {a b : World} (h : Only g a b) (o : Obj) : Only g a (b.alloc o) := h.grew ((Grew.refl b).alloc o)
theorem Only.setCell {g o : Nat} {a b : World} (h : Only g a b) (u : Value) : Only g a (b.setCell ⟨g, o, none⟩ u) :=
  ⟨h.os, h.tape, h.output, by simpa [World.setCell] using h.size, fun _ hi hne => (Below.heap_setCell b ⟨g, o, none⟩ u _ (by rintro rfl; exact hne rfl)).trans (World.grownBy.block h _ hi hne)⟩
theorem Only.block {g : Nat} {a b : World} (h : Only g a b) {k : Nat} (hk : k < a.heap.size) (hne : k ≠ g) : b.heap[k]? = a.heap[k]? :=
  World.grownBy.block h k hk (fun e => hne (by injection e))
theorem Only.cell {g : Nat} {a b : World} (h : Only g a b) {p : Addr} (hk : p.block < a.heap.size) (hne : p.block ≠ g) : b.cell? p = a.cell? p :=
  World.cell?_of_block (h.block hk hne)
/-- Where the block is newer than a, nothing of a has changed. -/
theorem Only.grew_of {g : Nat} {a b c : World} (h : Only g b c) (k : Grew a b) (hg : a.heap.size ≤ g) : Grew a c :=
  ⟨h.os.trans k.os, h.tape.trans k.tape, h.output.trans k.output, Nat.le_trans k.size h.size, fun i hi => (h.block (Nat.lt_of_lt_of_le hi k.size) (by omega)).trans (k.block hi)⟩

/-- The slice value v has n elements of k cells each, which hold xs. -/
def Rd (w : World) (k : Nat) (v : Value) (n : Nat) (xs : List Value) : Prop :=
  xs.length = n * k ∧ n ≤ 9223372036854775807 ∧
  ((v = .slice none 0 0 ∧ n = 0) ∨ ∃ b o c, v = .slice (some ⟨b, o, none⟩) n c ∧ n ≤ c ∧ c ≤ 9223372036854775807 ∧ b < w.heap.size ∧ ∀ j u, xs[j]? = some u → w.cell? ⟨b, o + j, none⟩ = some u)

theorem Rd.grew {w w' : World} {k n : Nat} {v : Value} {xs : List Value} (h : Rd w k v n xs) (hb : Grew w w') : Rd w' k v n xs := by
  obtain ⟨h1, h2, h3⟩ := h
  refine ⟨h1, h2, ?_⟩
  rcases h3 with h3 | ⟨b, o, c, rfl, h4, h5, h6, h7⟩
  · exact .inl h3
  · exact .inr ⟨b, o, c, rfl, h4, h5, Nat.lt_of_lt_of_le h6 hb.size, fun j u hu => (hb.cell (p := ⟨b, o + j, none⟩) h6).trans (h7 j u hu)⟩

theorem Rd.nil_ (w : World) (k : Nat) : Rd w k (.slice none 0 0) 0 [] := ⟨by simp, by omega, .inl ⟨rfl, rfl⟩⟩

theorem Rd.of_own {w : World} {base : Nat} {e : TypeId} {k n : Nat} {v : Value} {xs : List Value} (h : w.ownsRow base e k v n xs) : Rd w k v n xs := by
  obtain ⟨h1, h2⟩ := h
  rcases h2 with ⟨rfl, rfl⟩ | ⟨g, cap, cur, rfl, hb, hg, hnc, hcm, hcs, ht⟩
  · exact ⟨h1, by omega, .inl ⟨rfl, rfl⟩⟩
  · refine ⟨h1, Nat.le_trans hnc hcm, .inr ⟨g, 0, cap, rfl, hnc, hcm, (Array.getElem?_eq_some_iff.1 hg).1, fun j u hu => ?_⟩⟩
    rw [Nat.zero_add, cell_of_row w g j cur e (0, 0) hg]
    rw [← ht, List.getElem?_take] at hu
    split at hu
    · simpa using hu
    · cases hu

/-- An append of what reads as a row, nil or not, onto a row of the call's own. -/
theorem wpList_append_rd {P : Program} (w : World) {ops : Array Oper} {rest : List Oper} {o : Oper} {a : Act} {Q : Exit → Act → World → Prop} (hgd : o.guard = none) (s x : Operand) (t : TypeId)
    (ho : o.op = .call { callee := .builtin .append, args := #[s, x], argTypes := #[t, t] })
    (base : Nat) (e : TypeId) (i : TypeInfo) (z : Value) (size bytes : Nat) (ht : P.underlying t = some (.slice e)) (hi : P.info? e = some i) (hz : i.zero = some z)
    (hsize : i.size = size) (hby : i.bytes = bytes) (hzs : z.cells.size = size) (hsz : 0 < size)
    (v : Value) (n : Nat) (xs : List Value) (hs : a.eval s = v) (hown : w.ownsRow base e size v n xs)
    (vx : Value) (m : Nat) (news : List Value) (hx : a.eval x = vx) (hr : Rd w size vx m news) (h1 : ∀ u ∈ news, u.oneCell' = true)
    (h63 : n + m ≤ maxLen) (hbytes : (n + m) * bytes ≤ 140737488355328) (hbase : base ≤ w.heap.size)
    (h : ∀ v' w', w'.ownsRow base e size v' (n + m) (xs ++ news) → w.grownBy w' v.ownBlock → (v'.ownBlock = v.ownBlock ∨ v'.ownBlock = some w.heap.size) → wpList P ops Q rest (a.put o.dst v') w') :
    wpList P ops Q (o :: rest) a w := by
  obtain ⟨hl, _, hr⟩ := hr
  rcases hr with ⟨rfl, rfl⟩ | ⟨b, of, c, rfl, _, _, _, hc⟩
  · have hnews : news = [] := List.eq_nil_of_length_eq_zero (by simpa using hl)
    subst hnews
    refine wpList_plain hgd fun K hK => ?_
    have hrun := run_append_owned_none (P := P) w base t o.type e i size ht hi v n xs hown
    unfold Oper.wp execOp
    simp only [ho, resolve, invoke, builtin, Sem.run_bind, Sem.run_pure, Result.andThen_ok, List.map_toArray, List.map_cons, List.map_nil, hs, hx, hrun]
    exact hK _ _ (h v w (by simpa using hown) (World.grownBy.refl _ _) (.inl rfl))
  · exact wpList_append_own_at w hgd s x t ho base e i z size bytes ht hi hz hsize hby hzs hsz v n xs hs hown ⟨b, of, none⟩ m c news hx hl (fun j u hu => by rw [Addr.add_lit]; exact hc j u hu) h1 h63 hbytes hbase fun v' w' h2 h3 _ h4 => h v' w' h2 h3 h4

/-- Of a row of the call's own nothing turns while another block is written. -/
theorem own_only {w w' : World} {base : Nat} {e : TypeId} {k n g : Nat} {v : Value} {xs : List Value} (h : w.ownsRow base e k v n xs) (hb : Only g w w') (hne : v.ownBlock ≠ some g) : w'.ownsRow base e k v n xs :=
  h.kept hb (.inr hne)
theorem own_grew {w w' : World} {base : Nat} {e : TypeId} {k n : Nat} {v : Value} {xs : List Value} (h : w.ownsRow base e k v n xs) (hb : Grew w w') : w'.ownsRow base e k v n xs :=
  h.kept (row := none) (hb.by_ _) (by cases hv : v.ownBlock <;> simp)
theorem own_base {w : World} {base base' : Nat} {e : TypeId} {k n : Nat} {v : Value} {xs : List Value} (h : w.ownsRow base e k v n xs) (hb : base' ≤ base) : w.ownsRow base' e k v n xs := by
  obtain ⟨h1, h2⟩ := h
  refine ⟨h1, ?_⟩
  rcases h2 with h2 | ⟨g, cap, cur, h3, h4, h5⟩
  · exact .inl h2
  · exact .inr ⟨g, cap, cur, h3, by omega, h5⟩
/-- A row of the call's own is no block of another element type. -/
theorem own_ne {w : World} {base : Nat} {e e' : TypeId} {k n g : Nat} {v : Value} {xs : List Value} {cs : Array Value} (h : w.ownsRow base e k v n xs) (hg : w.heap[g]? = some (.cells cs e' (0, 0))) (hne : e ≠ e') : v.ownBlock ≠ some g := by
  rcases h.2 with ⟨rfl, _⟩ | ⟨g', cap, cur, rfl, _, hh, _⟩
  · simp [Value.ownBlock]
  · intro he
    have : g' = g := by simpa [Value.ownBlock] using he
    subst this
    rw [hh] at hg
    injection hg with hg
    injection hg with _ ht
    exact hne ht
theorem own_of_ge {w : World} {base g : Nat} {e : TypeId} {k n : Nat} {v : Value} {xs : List Value} (h : w.ownsRow base e k v n xs) (hv : v.ownBlock = some g) : base ≤ g := (h.lt g hv).1
/-- Two rows of the call's own, one newer than the other's world. -/
theorem own_new_ne {w w' : World} {base : Nat} {e e' : TypeId} {k n k' n' : Nat} {v v' : Value} {xs xs' : List Value} (h : w.ownsRow base e k v n xs) (h' : w'.ownsRow w.heap.size e' k' v' n' xs') (g : Nat) (hg : v'.ownBlock = some g) : v.ownBlock ≠ some g := by
  intro hv
  have h1 := (h.lt g hv).2
  have h2 := (h'.lt g hg).1
  omega

/-- A store into a block that is known whole. -/
theorem blk_set {w : World} {g : Nat} {t : TypeId} {cs : Array Value} (h : w.heap[g]? = some (.cells cs t (0, 0))) (i : Nat) (u : Value) : (w.setCell ⟨g, i, none⟩ u).heap[g]? = some (.cells (cs.setIfInBounds i u) t (0, 0)) := by
  simp [World.setCell, Array.getElem?_modify, h]
theorem blk_frozen {w : World} {g : Nat} {t : TypeId} {cs : Array Value} (h : w.heap[g]? = some (.cells cs t (0, 0))) (i : Nat) : w.frozen? ⟨g, i, none⟩ = false := by simp [World.frozen?, h]
theorem blk_cell {w : World} {g : Nat} {t : TypeId} {cs : Array Value} (h : w.heap[g]? = some (.cells cs t (0, 0))) (i : Nat) : w.cell? ⟨g, i, none⟩ = cs[i]? := cell_of_row w g i cs t (0, 0) h
theorem blk_lt {w : World} {g : Nat} {o : Obj} (h : w.heap[g]? = some o) : g < w.heap.size := (Array.getElem?_eq_some_iff.1 h).1
theorem blk_new (w : World) (o : Obj) : (w.alloc o).heap[w.heap.size]? = some o := heap_alloc_new w o
/-- Two cells of an array are written: the pairs below stay, the new pair stands there. -/
theorem pair_step {cur : Array Value} {F G : Nat → Value} {j : Nat} (hs : j * 2 + 1 < cur.size) (h : ∀ i, i < j → cur[i * 2]? = some (F i) ∧ cur[i * 2 + 1]? = some (G i)) :
    ∀ i, i < j + 1 → ((cur.setIfInBounds (j * 2) (F j)).setIfInBounds (j * 2 + 1) (G j))[i * 2]? = some (F i) ∧ ((cur.setIfInBounds (j * 2) (F j)).setIfInBounds (j * 2 + 1) (G j))[i * 2 + 1]? = some (G i) := by
  intro i hi
  simp only [Array.getElem?_setIfInBounds, Array.size_setIfInBounds]
  rcases Nat.lt_or_ge i j with hk | hk
  · rw [if_neg (by omega), if_neg (by omega), if_neg (by omega), if_neg (by omega)]
    exact h i hk
  · obtain rfl : i = j := by omega
    rw [if_neg (by omega), if_pos rfl, if_pos (by omega), if_pos rfl, if_pos (by omega)]
    exact ⟨rfl, rfl⟩

/-- 'append([]T(nil), make([]T, n)...)', n not 0. -/
theorem run_grow_nil {P : Program} (w : World) (t tn ty e : TypeId) (i : TypeInfo) (z : Value) (size : Nat) (ht : P.underlying t = some (.slice e)) (htn : P.underlying tn = some (.int .i64)) (hi : P.info? e = some i) (hz : i.zero = some z) (hsize : i.size = size) (hzs : z.cells.size = size) (hs : 0 < size)
    (n : Nat) (h0 : 0 < n) (hb : n * i.bytes ≤ 140737488355328) (h63 : n ≤ 4611686018427387904) :
    ∃ G cs, n ≤ G ∧ G ≤ 9223372036854775807 ∧ cs.size = G * size ∧ (Builtin.append_ #[t, tn] ty #[.slice none 0 0, .int .i64 n]).run P w = .ok (.slice (some ⟨w.heap.size, 0, none⟩) n G) (w.drew.alloc (.cells cs e)) := by
  have h := Lib.run_append_grow_zeros (P := P) w t tn ty e i z .i64 .i64 ht htn hi hz none 0 0 [] (run_firstCells_none w.drew i.size 0 0 0) n h0 (by omega) (by omega) (by omega) (by omega) (by
    have := growslice_fits (need := 0 + n) (old := 0) (bytes := i.bytes) (by omega) (by simpa using hb)
    exact this)
  simp only [Nat.zero_add] at h
  have hge := grownCap_ge w n 0 e
  have hle := grownCap_le_maxLen w n 0 e (by unfold maxLen; omega)
  unfold maxLen at hle
  refine ⟨_, _, hge, hle, ?_, h⟩
  simp only [Array.size_append, size_zeroCells, hzs, List.size_toArray, List.length_nil, Nat.zero_add, ← Nat.add_mul]
  congr 1
  omega

end Go.Proofs.YtofeeenjlaljpaaGreat

/- The parser of formulas as a plain function on lists of bytes. No program is in sight. -/
namespace Go.Proofs.YtofeeenjlaljpaaGreat
namespace Fm

/-- A node: its kind and its symbol. -/
abbrev Nd := Int × Int

def falsum : List Nd := [(1, 0)]
def truth : List Nd := [(4, 0), (1, 0), (1, 0)]
def vari (v : Int) : List Nd := [(0, v)]
def join (k : Int) (a b : List Nd) : List Nd := (k, 0) :: (a ++ b)
def pre (k : Int) (a : List Nd) : List Nd := (k, 0) :: a
def neg (a : List Nd) : List Nd := join 4 a falsum

/-- The state of a reader: the position and whether the byte there cannot follow. -/
abbrev St := Nat × Bool
abbrev Res := List Nd × St

/-- 'take': is the byte next? -/
def sees (s : List UInt8) (st : St) (c : UInt8) : Bool := !st.2 && (s[st.1]? == some c)
def step (st : St) : St := (st.1 + 1, st.2)
def need (s : List UInt8) (st : St) (c : UInt8) : St := if sees s st c then step st else (st.1, true)

/-- 'a = join(kind, a, sub())' as long as the byte is next. -/
def loop (s : List UInt8) (k : Int) (c : UInt8) (sub : St → Res) : Nat → List Nd → St → Res
  | 0, a, st => (a, st)
  | m + 1, a, st => if sees s st c then let r := sub (step st); loop s k c sub m (join k a r.1) r.2 else (a, st)

def andF (s : List UInt8) (m : Nat) (sub : St → Res) (st : St) : Res := let r := sub st; loop s 2 38 sub m r.1 r.2
def orF (s : List UInt8) (m : Nat) (sub : St → Res) (st : St) : Res := let r := andF s m sub st; loop s 3 124 (andF s m sub) m r.1 r.2
def impF (s : List UInt8) (m : Nat) (sub : St → Res) : Nat → St → Res
  | 0, st => orF s m sub st
  | i + 1, st => let r := orF s m sub st; if sees s r.2 62 then let q := impF s m sub i (step r.2); (join 4 r.1 q.1, q.2) else r

/-- The letter that is next, if one of 'pqrstu' is. -/
def letter (s : List UInt8) (st : St) : Option Nat := if st.2 then none else
  match s[st.1]? with
  | some c => if 112 ≤ c.toNat ∧ c.toNat ≤ 117 then some (c.toNat - 112) else none
  | none => none

def preF (s : List UInt8) (m : Nat) : Nat → St → Res
  | 0, st => (falsum, (st.1, true))
  | f + 1, st =>
    if sees s st 126 then let r := preF s m f (step st); (neg r.1, r.2)
    else if sees s st 91 then let r := preF s m f (need s (step st) 93); (pre 5 r.1, r.2)
    else if sees s st 60 then let r := preF s m f (need s (step st) 62); (pre 6 r.1, r.2)
    else if sees s st 70 then (falsum, step st)
    else if sees s st 84 then (truth, step st)
    else if sees s st 40 then let r := impF s m (preF s m f) m (step st); (r.1, need s r.2 41)
    else match letter s st with
      | some v => (vari v, step st)
      | none => (falsum, (st.1, true))

/-- The whole text: with enough fuel. -/
def parse (s : List UInt8) (m : Nat) : Res := impF s m (preF s m m) m (0, false)

end Fm
end Go.Proofs.YtofeeenjlaljpaaGreat

/- Slices of nodes, as lists of pairs of numbers. -/
namespace Go.Proofs.YtofeeenjlaljpaaGreat
open Go.RowKit
open Fm (Nd)

def kd (xs : List Nd) (i : Nat) : Int := (xs.getD i (0, 0)).1
def sy (xs : List Nd) (i : Nat) : Int := (xs.getD i (0, 0)).2
def cells (xs : List Nd) : List Value := xs.flatMap fun x => [.int .i64 x.1, .int .i64 x.2]

theorem cells_nil : cells [] = [] := rfl
theorem cells_cons (x : Nd) (xs : List Nd) : cells (x :: xs) = .int .i64 x.1 :: .int .i64 x.2 :: cells xs := rfl
theorem cells_append (xs ys : List Nd) : cells (xs ++ ys) = cells xs ++ cells ys := by simp [cells, List.flatMap_append]
theorem cells_length (xs : List Nd) : (cells xs).length = xs.length * 2 := by
  induction xs with
  | nil => rfl
  | cons x xs ih => rw [cells_cons]; simp [ih]; omega
theorem cells_one (xs : List Nd) : ∀ u ∈ cells xs, u.oneCell' = true := by
  intro u hu
  simp only [cells, List.mem_flatMap] at hu
  obtain ⟨x, _, hx⟩ := hu
  simp at hx
  rcases hx with rfl | rfl <;> rfl
theorem cells_at (xs : List Nd) : ∀ i, i < xs.length → (cells xs)[i * 2]? = some (.int .i64 (kd xs i)) ∧ (cells xs)[i * 2 + 1]? = some (.int .i64 (sy xs i)) := by
  induction xs with
  | nil => intro i hi; simp at hi
  | cons x xs ih =>
    intro i hi
    match i with
    | 0 => exact ⟨rfl, rfl⟩
    | i + 1 =>
      have h := ih i (by simpa using hi)
      rw [cells_cons]
      have e1 : (i + 1) * 2 = i * 2 + 1 + 1 := by omega
      rw [e1]
      simp only [List.getElem?_cons_succ]
      have k1 : kd (x :: xs) (i + 1) = kd xs i := rfl
      have k2 : sy (x :: xs) (i + 1) = sy xs i := rfl
      rw [k1, k2]
      exact h
theorem cells_ext {cs : List Value} {xs : List Nd} (hl : cs.length = xs.length * 2) (h : ∀ i, i < xs.length → cs[i * 2]? = some (.int .i64 (kd xs i)) ∧ cs[i * 2 + 1]? = some (.int .i64 (sy xs i))) : cs = cells xs := by
  apply List.ext_getElem? 
  intro j
  by_cases hj : j < xs.length * 2
  · have hd := Nat.div_add_mod j 2
    have hi : j / 2 < xs.length := by omega
    have h1 := h (j / 2) hi
    have h2 := cells_at xs (j / 2) hi
    rcases Nat.mod_two_eq_zero_or_one j with hm | hm
    · have e : j = j / 2 * 2 := by omega
      rw [e, h1.1, h2.1]
    · have e : j = j / 2 * 2 + 1 := by omega
      rw [e, h1.2, h2.2]
  · rw [List.getElem?_eq_none (by omega), List.getElem?_eq_none (by rw [cells_length]; omega)]
theorem kd_lt {xs : List Nd} {i : Nat} (h : i < xs.length) : xs[i] = (kd xs i, sy xs i) := by
  simp [kd, sy, List.getD, h]
theorem nd_ext {xs ys : List Nd} (hl : xs.length = ys.length) (h : ∀ i, i < xs.length → kd xs i = kd ys i ∧ sy xs i = sy ys i) : xs = ys := by
  apply List.ext_getElem hl
  intro i h1 h2
  rw [kd_lt h1, kd_lt h2, (h i h1).1, (h i h1).2]

/-- The value reads as the list. -/
def Nodes (w : World) (v : Value) (xs : List Nd) : Prop := Rd w 2 v xs.length (cells xs)
/-- The value is a row of the call's own, newer than block B, that holds the list. -/
def Own (w : World) (B : Nat) (v : Value) (xs : List Nd) : Prop := w.ownsRow B 87 2 v xs.length (cells xs)

theorem Nodes.grew {w w' : World} {v : Value} {xs : List Nd} (h : Nodes w v xs) (hb : Grew w w') : Nodes w' v xs := Rd.grew h hb
theorem Nodes.nil_ (w : World) : Nodes w (.slice none 0 0) [] := Rd.nil_ w 2
theorem Own.nodes {w : World} {B : Nat} {v : Value} {xs : List Nd} (h : Own w B v xs) : Nodes w v xs := Rd.of_own h
theorem Own.nil_ (w : World) (B : Nat) : Own w B (.slice none 0 0) [] := World.ownsRow_nil w B _ 2
theorem Own.grew {w w' : World} {B : Nat} {v : Value} {xs : List Nd} (h : Own w B v xs) (hb : Grew w w') : Own w' B v xs := own_grew h hb
theorem Own.only {w w' : World} {B g : Nat} {v : Value} {xs : List Nd} (h : Own w B v xs) (hb : Only g w w') (hne : v.ownBlock ≠ some g) : Own w' B v xs := own_only h hb hne
theorem Own.base {w : World} {B B' : Nat} {v : Value} {xs : List Nd} (h : Own w B v xs) (hb : B' ≤ B) : Own w B' v xs := own_base h hb

theorem Nodes.open_ {w : World} {v : Value} {xs : List Nd} (h : Nodes w v xs) :
    (v = .slice none 0 0 ∧ xs = []) ∨ ∃ b o c, v = .slice (some ⟨b, o, none⟩) xs.length c ∧ xs.length ≤ c ∧ c ≤ 9223372036854775807 ∧ b < w.heap.size ∧
      ∀ i, i < xs.length → ∀ W, Grew w W → W.cell? ⟨b, o + i * 2, none⟩ = some (.int .i64 (kd xs i)) ∧ W.cell? ⟨b, o + i * 2 + 1, none⟩ = some (.int .i64 (sy xs i)) := by
  obtain ⟨_, _, h3⟩ := h
  rcases h3 with ⟨h4, h5⟩ | ⟨b, o, c, h4, h5, h6, h7, h8⟩
  · exact .inl ⟨h4, List.eq_nil_of_length_eq_zero h5⟩
  · refine .inr ⟨b, o, c, h4, h5, h6, h7, fun i hi W hW => ?_⟩
    obtain ⟨k1, k2⟩ := cells_at xs i hi
    exact ⟨(hW.cell (p := ⟨b, o + i * 2, none⟩) h7).trans (h8 _ _ k1), (hW.cell (p := ⟨b, o + i * 2 + 1, none⟩) h7).trans (h8 _ _ k2)⟩
theorem Nodes.len_le {w : World} {v : Value} {xs : List Nd} (h : Nodes w v xs) : xs.length ≤ 9223372036854775807 := h.2.1

/-- A row of the call's own, opened: its block. -/
theorem Own.open_ {w : World} {B : Nat} {v : Value} {xs : List Nd} (h : Own w B v xs) :
    (v = .slice none 0 0 ∧ xs = []) ∨ ∃ g c cur, v = .slice (some ⟨g, 0, none⟩) xs.length c ∧ B ≤ g ∧ g < w.heap.size ∧ w.heap[g]? = some (.cells cur 87 (0, 0)) ∧ xs.length ≤ c ∧ c ≤ 9223372036854775807 ∧ cur.size = c * 2 ∧
      ∀ i, i < xs.length → cur[i * 2]? = some (.int .i64 (kd xs i)) ∧ cur[i * 2 + 1]? = some (.int .i64 (sy xs i)) := by
  obtain ⟨_, h2⟩ := h
  rcases h2 with ⟨rfl, h5⟩ | ⟨g, cap, cur, rfl, hb, hg, hnc, hcm, hcs, ht⟩
  · exact .inl ⟨rfl, List.eq_nil_of_length_eq_zero h5⟩
  · refine .inr ⟨g, cap, cur, rfl, hb, (Array.getElem?_eq_some_iff.1 hg).1, hg, hnc, hcm, hcs, fun i hi => ?_⟩
    obtain ⟨k1, k2⟩ := cells_at xs i hi
    rw [← ht, List.getElem?_take] at k1 k2
    rw [if_pos (by omega)] at k1 k2
    exact ⟨by simpa using k1, by simpa using k2⟩
theorem Own.mk_ {w : World} {B : Nat} {xs : List Nd} {g c : Nat} {cur : Array Value} (hB : B ≤ g) (hg : w.heap[g]? = some (.cells cur 87 (0, 0))) (hnc : xs.length ≤ c) (hcm : c ≤ 9223372036854775807) (hcs : cur.size = c * 2)
    (hc : ∀ i, i < xs.length → cur[i * 2]? = some (.int .i64 (kd xs i)) ∧ cur[i * 2 + 1]? = some (.int .i64 (sy xs i))) : Own w B (.slice (some ⟨g, 0, none⟩) xs.length c) xs := by
  refine ⟨cells_length xs, .inr ⟨g, c, cur, rfl, hB, hg, hnc, hcm, hcs, cells_ext (by simp; omega) fun i hi => ?_⟩⟩
  rw [List.getElem?_take, List.getElem?_take, if_pos (by omega), if_pos (by omega)]
  obtain ⟨k1, k2⟩ := hc i hi
  exact ⟨by simpa using k1, by simpa using k2⟩
/-- A literal of nodes in a new block. -/
theorem Own.lit (w : World) (B : Nat) (xs : List Nd) (cs : Array Value) (hB : B ≤ w.heap.size) (hn : xs.length ≤ 9223372036854775807) (hc : cs.toList = cells xs) :
    Own (w.alloc (.cells cs 87)) B (.slice (some ⟨w.heap.size, 0, none⟩) xs.length xs.length) xs := by
  have hl : cs.size = xs.length * 2 := by rw [← Array.length_toList, hc, cells_length]
  have h := World.ownsRow_lit (e := 87) (size := 2) w cs xs.length hB hn hl
  rw [hc] at h
  exact h

theorem Tryz.infoNd : (Tryz.prog.info? 87).map (fun i => (i.zero, i.size, i.bytes)) = some (some (.agg #[.int .i64 0, .int .i64 0]), 2, 16) := by kernel_rfl

theorem nodes_slice {w : World} {v : Value} {xs : List Nd} (h : Nodes w v xs) : ∃ A c, v = .slice A xs.length c := by
  rcases h.open_ with ⟨rfl, rfl⟩ | ⟨b, o, c, rfl, _⟩
  · exact ⟨_, _, rfl⟩
  · exact ⟨_, _, rfl⟩

/-- Two nodes, compared. -/
theorem Tryz.ndGuard : Tryz.prog.eqGuardType Tryz.prog.depth 87 = false := by kernel_rfl
theorem Tryz.ndEq (a b c d : Int) (w : World) : (Op.equalIn 10000 87 (.agg #[.int .i64 a, .int .i64 b]) (.agg #[.int .i64 c, .int .i64 d])).run Tryz.prog w = .ok (a == c && b == d) w := by
  have u2 := Tryz.underlying2
  have hS : Tryz.prog.underlying 87 = some (.struct (Tryz.prog.fieldsOf 87)) := by kernel_rfl
  have hp : Tryz.prog.stoodInHeld 87 = false := by kernel_rfl
  rw [show (10000 : Nat) = 9999 + 1 from rfl, run_equalIn_agg w 9999 87 _ _ hS hp]
  simp only [Program.fieldsOf, Tryz.underlying87]
  go_simp
  by_cases h1 : a = c <;> by_cases h2 : b = d <;> simp [h1, h2]
theorem Tryz.ndNeq (a b c d : Int) (w : World) : (binOp .neq 87 (.agg #[.int .i64 a, .int .i64 b]) (.agg #[.int .i64 c, .int .i64 d])).run Tryz.prog w = .ok (.bool (!(a == c && b == d))) w := by
  rw [run_neq_struct, Tryz.ndEq]; rfl

theorem big2 {n m : Nat} (h : n + m ≤ 1099511627776) : n + m ≤ maxLen ∧ (n + m) * 16 ≤ 140737488355328 := by
  unfold maxLen; omega

/-- 'out = append(out, xs...)', out a row of the call's own. -/
theorem wpList_app {ops : Array Oper} {rest : List Oper} {o : Oper} {a : Act} {Q : Exit → Act → World → Prop} {w w0 : World} (s x : Operand) (hgd : o.guard = none)
    (ho : o.op = .call { callee := .builtin .append, args := #[s, x], argTypes := #[56, 56] })
    (v : Value) (xs : List Nd) (hs : a.eval s = v) (hown : Own w w0.heap.size v xs) (hg : Grew w0 w) (vx : Value) (ys : List Nd) (hx : a.eval x = vx) (hr : Nodes w vx ys) (hn : xs.length + ys.length ≤ 1099511627776)
    (h : ∀ v' w', Own w' w0.heap.size v' (xs ++ ys) → Grew w0 w' → w.grownBy w' v.ownBlock → wpList Tryz.prog ops Q rest (a.put o.dst v') w') : wpList Tryz.prog ops Q (o :: rest) a w := by
  obtain ⟨i0, hi0, hz0, hz1, hz2⟩ := info_parts Tryz.infoNd
  refine wpList_append_rd w hgd s x _ ho w0.heap.size 87 i0 _ 2 16 Tryz.underlying56 hi0 hz0 hz1 hz2 rfl (by omega) v xs.length (cells xs) hs hown vx ys.length (cells ys) hx hr (cells_one ys) (big2 hn).1 (big2 hn).2 hg.size ?_
  intro v' w' h1 h2 h3
  refine h v' w' ?_ (hg.grown h2 fun k hk => (hown.lt k hk).1) h2
  unfold Own
  rw [cells_append, List.length_append]
  exact h1

end Go.Proofs.YtofeeenjlaljpaaGreat

/- Slices of int64 in memory, and the laws' own helpers on them. -/
namespace Go.Proofs.YtofeeenjlaljpaaGreat
open Go.RowKit

def it (L : List Int) (i : Nat) : Int := L.getD i 0
def icells (L : List Int) : List Value := L.map (Value.int .i64)
theorem icells_length (L : List Int) : (icells L).length = L.length * 1 := by simp [icells]
theorem icells_one (L : List Int) : ∀ u ∈ icells L, u.oneCell' = true := by
  intro u hu
  simp only [icells, List.mem_map] at hu
  obtain ⟨s, _, rfl⟩ := hu
  rfl
theorem icells_at {L : List Int} {i : Nat} (h : i < L.length) : (icells L)[i]? = some (.int .i64 (it L i)) := by simp [icells, it, List.getD, h]
theorem icells_append (K L : List Int) : icells (K ++ L) = icells K ++ icells L := by simp [icells]
theorem it_get {L : List Int} {i : Nat} (h : i < L.length) : L[i] = it L i := by simp [it, List.getD, h]
theorem it_ext {K L : List Int} (hl : K.length = L.length) (h : ∀ i, i < K.length → it K i = it L i) : K = L := by
  apply List.ext_getElem hl
  intro i h1 h2
  rw [it_get h1, it_get h2]
  exact h i h1

/-- v reads as the list. -/
def Ints (w : World) (v : Value) (L : List Int) : Prop := Rd w 1 v L.length (icells L)
/-- v is a row of the call's own. -/
def OwnI (w : World) (B : Nat) (v : Value) (L : List Int) : Prop := w.ownsRow B 2 1 v L.length (icells L)
theorem Ints.grew {w w' : World} {v : Value} {L : List Int} (h : Ints w v L) (hb : Grew w w') : Ints w' v L := Rd.grew h hb
theorem Ints.nil_ (w : World) : Ints w (.slice none 0 0) [] := Rd.nil_ w 1
theorem OwnI.ints {w : World} {B : Nat} {v : Value} {L : List Int} (h : OwnI w B v L) : Ints w v L := Rd.of_own h
theorem OwnI.nil_ (w : World) (B : Nat) : OwnI w B (.slice none 0 0) [] := World.ownsRow_nil w B _ 1
theorem OwnI.grew {w w' : World} {B : Nat} {v : Value} {L : List Int} (h : OwnI w B v L) (hb : Grew w w') : OwnI w' B v L := own_grew h hb
theorem OwnI.base {w : World} {B B' : Nat} {v : Value} {L : List Int} (h : OwnI w B v L) (hb : B' ≤ B) : OwnI w B' v L := own_base h hb
theorem Ints.open_ {w : World} {v : Value} {L : List Int} (h : Ints w v L) :
    (v = .slice none 0 0 ∧ L = []) ∨ ∃ b o c, v = .slice (some ⟨b, o, none⟩) L.length c ∧ L.length ≤ c ∧ c ≤ 9223372036854775807 ∧ b < w.heap.size ∧
      ∀ i, i < L.length → ∀ W, Grew w W → W.cell? ⟨b, o + i, none⟩ = some (.int .i64 (it L i)) := by
  obtain ⟨_, _, h3⟩ := h
  rcases h3 with ⟨h4, h5⟩ | ⟨b, o, c, h4, h5, h6, h7, h8⟩
  · exact .inl ⟨h4, List.eq_nil_of_length_eq_zero h5⟩
  · exact .inr ⟨b, o, c, h4, h5, h6, h7, fun i hi W hW => (hW.cell (p := ⟨b, o + i, none⟩) h7).trans (h8 _ _ (icells_at hi))⟩
theorem ints_slice {w : World} {v : Value} {L : List Int} (h : Ints w v L) : ∃ A c, v = .slice A L.length c := by
  rcases h.open_ with ⟨rfl, rfl⟩ | ⟨b, o, c, rfl, _⟩
  · exact ⟨_, _, rfl⟩
  · exact ⟨_, _, rfl⟩
theorem OwnI.mk_ {w : World} {B : Nat} {L : List Int} {g c : Nat} {cur : Array Value} (hB : B ≤ g) (hg : w.heap[g]? = some (.cells cur 2 (0, 0))) (hnc : L.length ≤ c) (hcm : c ≤ 9223372036854775807) (hcs : cur.size = c)
    (hc : ∀ i, i < L.length → cur[i]? = some (.int .i64 (it L i))) : OwnI w B (.slice (some ⟨g, 0, none⟩) L.length c) L := by
  refine ⟨icells_length L, .inr ⟨g, c, cur, rfl, hB, hg, hnc, hcm, by omega, ?_⟩⟩
  apply List.ext_getElem?
  intro j
  rw [List.getElem?_take]
  by_cases hj : j < L.length
  · rw [if_pos (by omega), icells_at hj]
    simpa using hc j hj
  · rw [if_neg (by omega), List.getElem?_eq_none (by rw [icells_length]; omega)]
theorem Tryz.infoI : (Tryz.prog.info? 2).map (fun i => (i.zero, i.size, i.bytes)) = some (some (.int .i64 0), 1, 8) := by kernel_rfl
/-- The call returns a new list of numbers. -/
def GivesI (w : World) (L : List Int) (e : Ending) (w' : World) : Prop := ∃ v, e = .returned v ∧ OwnI w' w.heap.size v L ∧ Grew w w'

theorem one_stepI {cur : Array Value} {F : Nat → Value} {j : Nat} (hs : j < cur.size) (h : ∀ i, i < j → cur[i]? = some (F i)) :
    ∀ i, i < j + 1 → (cur.setIfInBounds j (F j))[i]? = some (F i) := by
  intro i hi
  simp only [Array.getElem?_setIfInBounds]
  rcases Nat.lt_or_ge i j with hk | hk
  · rw [if_neg (by omega)]
    exact h i hk
  · obtain rfl : i = j := by omega
    rw [if_pos rfl, if_pos hs]
end Go.Proofs.YtofeeenjlaljpaaGreat

/- Slices of int64 that came in: szInt64S. -/
namespace Go.Proofs.YtofeeenjlaljpaaGreat
open Go.RowKit

/-- A list of numbers that came in. -/
def ArgI (w : World) (v : Value) (L : List Int) : Prop := (∃ A c, v = .slice A L.length c ∧ L.length ≤ 9223372036854775807) ∧ (0 < L.length → Ints w v L)
theorem ArgI.grew {w w' : World} {v : Value} {L : List Int} (h : ArgI w v L) (hg : Grew w w') : ArgI w' v L := ⟨h.1, fun hp => (h.2 hp).grew hg⟩

theorem szInt64S_c (v : Value) (L : List Int) (left : Int) (w : World) (h : ArgI w v L) (h0 : 0 ≤ left) (h1 : left ≤ 1048576) :
    Calls Tryz.prog 71 #[v, .int .i64 left] w fun e w' => ∃ r : Int, e = .returned (.int .i64 r) ∧ (r ≤ 1048576 ∧ (0 ≤ r → L.length ≤ 1048576)) ∧ Grew w w' := by
  obtain ⟨⟨A, c, rfl, hmax⟩, _⟩ := h
  generalize L.length = n at *
  by_cases hlong : left < n
  · go_enter Tryz.func71, Tryz.ntmps71
    go_wp2_with fail
    go_ret
    exact ⟨_, rfl, ⟨by omega, fun h => absurd h (by omega)⟩, Grew.refl _⟩
  · go_enter Tryz.func71, Tryz.ntmps71
    go_wp2_with fail
    go_ret
    exact ⟨_, rfl, ⟨by omega, fun _ => by omega⟩, Grew.refl _⟩
end Go.Proofs.YtofeeenjlaljpaaGreat

/- Slices of strings. -/
namespace Go.Proofs.YtofeeenjlaljpaaGreat
open Go.RowKit

def st (L : List ByteArray) (i : Nat) : ByteArray := L.getD i ByteArray.empty
def scells (L : List ByteArray) : List Value := L.map Value.string
theorem scells_length (L : List ByteArray) : (scells L).length = L.length * 1 := by simp [scells]
theorem scells_one (L : List ByteArray) : ∀ u ∈ scells L, u.oneCell' = true := by
  intro u hu
  simp only [scells, List.mem_map] at hu
  obtain ⟨x, _, rfl⟩ := hu
  rfl
theorem scells_at {L : List ByteArray} {i : Nat} (h : i < L.length) : (scells L)[i]? = some (.string (st L i)) := by simp [scells, st, List.getD, h]
theorem scells_append (K L : List ByteArray) : scells (K ++ L) = scells K ++ scells L := by simp [scells]
theorem st_get {L : List ByteArray} {i : Nat} (h : i < L.length) : L[i] = st L i := by simp [st, List.getD, h]

/-- The value reads as the list of strings. -/
def Strs (w : World) (v : Value) (L : List ByteArray) : Prop := Rd w 1 v L.length (scells L)
/-- A row of the call's own that holds the strings. -/
def OwnS (w : World) (B : Nat) (v : Value) (L : List ByteArray) : Prop := w.ownsRow B 9 1 v L.length (scells L)
theorem Strs.grew {w w' : World} {v : Value} {L : List ByteArray} (h : Strs w v L) (hb : Grew w w') : Strs w' v L := Rd.grew h hb
theorem Strs.nil_ (w : World) : Strs w (.slice none 0 0) [] := Rd.nil_ w 1
theorem OwnS.strs {w : World} {B : Nat} {v : Value} {L : List ByteArray} (h : OwnS w B v L) : Strs w v L := Rd.of_own h
theorem OwnS.nil_ (w : World) (B : Nat) : OwnS w B (.slice none 0 0) [] := World.ownsRow_nil w B _ 1
theorem OwnS.grew {w w' : World} {B : Nat} {v : Value} {L : List ByteArray} (h : OwnS w B v L) (hb : Grew w w') : OwnS w' B v L := own_grew h hb
theorem OwnS.base {w : World} {B B' : Nat} {v : Value} {L : List ByteArray} (h : OwnS w B v L) (hb : B' ≤ B) : OwnS w B' v L := own_base h hb

theorem Strs.open_ {w : World} {v : Value} {L : List ByteArray} (h : Strs w v L) :
    (v = .slice none 0 0 ∧ L = []) ∨ ∃ b o c, v = .slice (some ⟨b, o, none⟩) L.length c ∧ L.length ≤ c ∧ c ≤ 9223372036854775807 ∧ b < w.heap.size ∧
      ∀ i, i < L.length → ∀ W, Grew w W → W.cell? ⟨b, o + i, none⟩ = some (.string (st L i)) := by
  obtain ⟨_, _, h3⟩ := h
  rcases h3 with ⟨h4, h5⟩ | ⟨b, o, c, h4, h5, h6, h7, h8⟩
  · exact .inl ⟨h4, List.eq_nil_of_length_eq_zero h5⟩
  · exact .inr ⟨b, o, c, h4, h5, h6, h7, fun i hi W hW => (hW.cell (p := ⟨b, o + i, none⟩) h7).trans (h8 _ _ (scells_at hi))⟩
theorem strs_slice {w : World} {v : Value} {L : List ByteArray} (h : Strs w v L) : ∃ A c, v = .slice A L.length c := by
  rcases h.open_ with ⟨rfl, rfl⟩ | ⟨b, o, c, rfl, _⟩
  · exact ⟨_, _, rfl⟩
  · exact ⟨_, _, rfl⟩
/-- A literal of strings in a new block. -/
theorem OwnS.lit (w : World) (B : Nat) (L : List ByteArray) (cs : Array Value) (hB : B ≤ w.heap.size) (hn : L.length ≤ 9223372036854775807) (hc : cs.toList = scells L) :
    OwnS (w.alloc (.cells cs 9)) B (.slice (some ⟨w.heap.size, 0, none⟩) L.length L.length) L := by
  have hl : cs.size = L.length * 1 := by rw [← Array.length_toList, hc, scells_length]
  have h := World.ownsRow_lit (e := 9) (size := 1) w cs L.length hB hn hl
  rw [hc] at h
  exact h
theorem OwnS.mk_ {w : World} {B : Nat} {L : List ByteArray} {g c : Nat} {cur : Array Value} (hB : B ≤ g) (hg : w.heap[g]? = some (.cells cur 9 (0, 0))) (hnc : L.length ≤ c) (hcm : c ≤ 9223372036854775807) (hcs : cur.size = c)
    (hc : ∀ i, i < L.length → cur[i]? = some (.string (st L i))) : OwnS w B (.slice (some ⟨g, 0, none⟩) L.length c) L := by
  refine ⟨scells_length L, .inr ⟨g, c, cur, rfl, hB, hg, hnc, hcm, by omega, ?_⟩⟩
  apply List.ext_getElem?
  intro j
  rw [List.getElem?_take]
  by_cases hj : j < L.length
  · rw [if_pos (by omega), scells_at hj]
    simpa using hc j hj
  · rw [if_neg (by omega), List.getElem?_eq_none (by rw [scells_length]; omega)]

theorem Tryz.infoStr : (Tryz.prog.info? 9).map (fun i => (i.zero, i.size, i.bytes)) = some (some (.string ByteArray.empty), 1, 16) := by kernel_rfl

/-- The call returns a new list of strings. -/
def GivesS (w : World) (L : List ByteArray) (e : Ending) (w' : World) : Prop := ∃ v, e = .returned v ∧ OwnS w' w.heap.size v L ∧ Grew w w'

end Go.Proofs.YtofeeenjlaljpaaGreat

/- The laws' own helpers on slices of strings: szStringS, toStringS, eqStringS. -/
namespace Go.Proofs.YtofeeenjlaljpaaGreat
open Go.RowKit

/-- A list of strings that came in. -/
def ArgS (w : World) (v : Value) (L : List ByteArray) : Prop :=
  (∃ A c, v = .slice A L.length c ∧ L.length ≤ 9223372036854775807) ∧ (0 < L.length → Strs w v L) ∧ ∀ i, i < L.length → (st L i).size ≤ 9223372036854775807
theorem ArgS.grew {w w' : World} {v : Value} {L : List ByteArray} (h : ArgS w v L) (hg : Grew w w') : ArgS w' v L := ⟨h.1, fun hp => (h.2.1 hp).grew hg, h.2.2⟩

/-- None of the first k is long. -/
def Small (L : List ByteArray) (k : Nat) : Prop := ∀ i, i < k → (st L i).size ≤ 1048576
theorem Small.zero (L : List ByteArray) : Small L 0 := fun i hi => absurd hi (by omega)
theorem Small.succ {L : List ByteArray} {k : Nat} (h : Small L k) (h1 : (st L k).size ≤ 1048576) : Small L (k + 1) := by
  intro i hi
  rcases Nat.lt_or_ge i k with hk | hk
  · exact h i hk
  · obtain rfl : i = k := by omega
    exact h1
/-- What the sizes' walk gives. -/
def Sizes (L : List ByteArray) (r : Int) : Prop := r ≤ 1048576 ∧ (0 ≤ r → L.length ≤ 1048576 ∧ Small L L.length)

theorem szStringS_c (v : Value) (L : List ByteArray) (left : Int) (w : World) (h : ArgS w v L) (h0 : 0 ≤ left) (h1 : left ≤ 1048576) :
    Calls Tryz.prog 72 #[v, .int .i64 left] w fun e w' => ∃ r : Int, e = .returned (.int .i64 r) ∧ Sizes L r ∧ Grew w w' := by
  obtain ⟨⟨A, c, rfl, hmax⟩, hS, hz⟩ := h
  by_cases hlong : left < L.length
  · clear hS hz
    go_enter Tryz.func72, Tryz.ntmps72
    go_wp2_with fail
    go_ret
    exact ⟨_, rfl, ⟨by omega, fun h => absurd h (by omega)⟩, Grew.refl _⟩
  · by_cases hp : 0 < L.length
    · rcases (hS hp).open_ with ⟨_, h2⟩ | ⟨b, o, c', hv, hc, hm, hb, hcell⟩
      · rw [h2] at hp; cases hp
      obtain ⟨rfl, rfl⟩ : A = some ⟨b, o, none⟩ ∧ c = c' := by simpa using hv
      clear hS hv
      have HE : Hid (∀ r : Int, (r ≤ 1048576 ∧ (0 ≤ r → L.length ≤ 1048576 ∧ Small L L.length)) → Sizes L r) := Lib.hid (fun _ h => h)
      have HC := Lib.hid hcell
      have HZ := Lib.hid hz
      clear hcell hz
      generalize hN : L.length = n at *
      clear hN
      go_enter Tryz.func72, Tryz.ntmps72
      go_wp2_with fail
      go_loopw [1, 5] (fun kk i wr => ∃ (j : Nat) (l : Int), j ≤ n ∧ i = .int .i64 j ∧ kk = .int .i64 l ∧ 0 ≤ l ∧ l ≤ left ∧ Grew w wr ∧ Hid (Small L j)) (fun _ i _ => n - (intOf i).toNat)
      case atStart => exact ⟨0, left - n, Nat.zero_le _, rfl, rfl, by omega, by omega, Grew.refl _, Small.zero _⟩
      case round =>
        obtain ⟨j, l, hj, rfl, rfl, hl0, hl1, hB, HJ⟩ := hrel
        by_cases hlt : j < n
        · have k1 := HC.out j hlt _ hB
          have k2 := HZ.out j hlt
          have HS := Lib.hid (fun h => HJ.out.succ (k := j) h)
          generalize st L j = x at *
          by_cases hbig : l < x.size
          · go_wp2_with fail
            go_ret
            exact ⟨_, rfl, HE.out _ ⟨by omega, fun h => absurd h (by omega)⟩, hB⟩
          · go_wp2_with fail
            go_roundw
            case rel => exact ⟨j + 1, l - x.size, by omega, by go_num, rfl, by omega, by omega, hB, HS.out (by omega)⟩
            case measure => simp [intOf]; omega
        · obtain rfl : j = n := by omega
          go_wp2_with fail
          go_ret
          exact ⟨_, rfl, HE.out _ ⟨by omega, fun _ => ⟨by omega, HJ.out⟩⟩, hB⟩
    · obtain rfl : L = [] := List.eq_nil_of_length_eq_zero (by omega)
      simp only [List.length_nil] at *
      go_enter Tryz.func72, Tryz.ntmps72
      go_wp2_with fail
      refine wp_loop_rounds 1 ?_; rw [rounds_succ]
      go_wp2_with fail
      go_ret
      exact ⟨_, rfl, ⟨by omega, fun _ => ⟨by simp, fun i hi => absurd hi (by simp)⟩⟩, Grew.refl _⟩

theorem one_step {cur : Array Value} {F : Nat → Value} {j : Nat} (hs : j < cur.size) (h : ∀ i, i < j → cur[i]? = some (F i)) :
    ∀ i, i < j + 1 → (cur.setIfInBounds j (F j))[i]? = some (F i) := by
  intro i hi
  simp only [Array.getElem?_setIfInBounds]
  rcases Nat.lt_or_ge i j with hk | hk
  · rw [if_neg (by omega)]
    exact h i hk
  · obtain rfl : i = j := by omega
    rw [if_pos rfl, if_pos hs]

theorem toStringS_c (v : Value) (L : List ByteArray) (w : World) (h : ArgS w v L) (hn : L.length ≤ 1048576) :
    Calls Tryz.prog 75 #[v] w (GivesS w L) := by
  obtain ⟨⟨A, c, rfl, hmax⟩, hS, _⟩ := h
  have hmk := run_make_row' (P := Tryz.prog) 24 9 (.string ByteArray.empty) 16 Tryz.underlying24 Tryz.infoStr rfl .i64 .i64 L.length (by omega) (by omega)
  have hend : ∀ cur w', w'.heap[w.heap.size]? = some (.cells cur 9 (0, 0)) → cur.size = L.length → (∀ i, i < L.length → cur[i]? = some (.string (st L i))) → OwnS w' w.heap.size (.slice (some ⟨w.heap.size, 0, none⟩) L.length L.length) L :=
    fun cur w' h1 h2 h3 => OwnS.mk_ (Nat.le_refl _) h1 (Nat.le_refl _) (by omega) h2 h3
  have HE := Lib.hid hend
  clear hend
  have hsz : (madeCells #[Value.string ByteArray.empty] L.length).size = L.length := by simp [madeCells]
  have hnew := blk_new w (.cells (madeCells #[Value.string ByteArray.empty] L.length) 9)
  have hal := (Grew.refl w).alloc (.cells (madeCells #[Value.string ByteArray.empty] L.length) 9)
  generalize madeCells #[Value.string ByteArray.empty] L.length = cur0 at *
  by_cases hp : 0 < L.length
  · rcases (hS hp).open_ with ⟨_, h2⟩ | ⟨b, o, c', hv, hc, hm, hb, hcell⟩
    · rw [h2] at hp; cases hp
    obtain ⟨rfl, rfl⟩ : A = some ⟨b, o, none⟩ ∧ c = c' := by simpa using hv
    clear hS hv
    have HC := Lib.hid hcell
    clear hcell
    generalize hN : L.length = n at *
    clear hN
    have HNEW := Lib.hid hnew
    clear hnew
    have HAL := Lib.hid hal
    clear hal
    go_enter Tryz.func75, Tryz.ntmps75
    go_wp2_with fail
    go_loopw [4] (fun i wr => ∃ (j : Nat) (cur : Array Value), j ≤ n ∧ i = .int .i64 j ∧ wr.heap[w.heap.size]? = some (.cells cur 9 (0, 0)) ∧ cur.size = n ∧ Grew w wr ∧ (∀ i, i < j → cur[i]? = some (.string (st L i)))) (fun i _ => n - (intOf i).toNat)
    case atStart => exact ⟨0, cur0, Nat.zero_le _, rfl, HNEW.out, hsz, HAL.out, fun i hi => absurd hi (by omega)⟩
    case round =>
      obtain ⟨j, cur, hj, rfl, hh, hcs, hB, hc2⟩ := hrel
      have HD := Lib.hid hc2
      clear hc2
      by_cases hlt : j < n
      · have k1 := HC.out j hlt _ hB
        have HS := Lib.hid (one_step (F := fun i => .string (st L i)) (j := j) (by omega) HD.out)
        have f1 : ∀ i, wr.frozen? ⟨w.heap.size, i, none⟩ = false := fun i => by simp [World.frozen?, hh]
        obtain ⟨u1, hu1⟩ : ∃ u, wr.cell? ⟨w.heap.size, 0 + j, none⟩ = some u := by
          rw [cell_of_row wr w.heap.size _ cur _ (0, 0) hh]
          exact ⟨_, Array.getElem?_eq_getElem (by omega)⟩
        simp only [Nat.zero_add] at hu1
        have HH := Lib.hid hh
        clear hh
        generalize st L j = x at *
        go_wp2_with fail
        go_roundw
        case rel => exact ⟨j + 1, _, by omega, by go_num, blk_set HH.out _ _, by simp [hcs], hB.setCell (Nat.le_refl _) _, HS.out⟩
        case measure => simp [intOf]; omega
      · obtain rfl : j = n := by omega
        have HH := Lib.hid hh
        clear hh
        go_wp2_with fail
        go_ret
        exact ⟨_, rfl, HE.out _ _ HH.out hcs HD.out, hB⟩
  · have hp0 : L.length ≤ 0 := by omega
    have HNEW := Lib.hid hnew
    clear hnew hS hp
    have HAL := Lib.hid hal
    clear hal
    generalize hN : L.length = n at *
    clear hN
    go_enter Tryz.func75, Tryz.ntmps75
    go_wp2_with fail
    refine wp_loop_rounds 1 ?_; rw [rounds_succ]
    go_wp2_with fail
    go_ret
    exact ⟨_, rfl, HE.out _ _ HNEW.out hsz (fun i hi => absurd hi (by omega)), HAL.out⟩

/-- Two lists of strings that are equal. -/
theorem eqStringS_yes (v1 v2 : Value) (L : List ByteArray) (w : World) (h1 : Strs w v1 L) (h2 : Strs w v2 L) (hn : L.length ≤ 1099511627776) :
    Calls Tryz.prog 14 #[v1, v2] w fun e w' => e = .returned (.bool true) ∧ Grew w w' := by
  rcases h1.open_ with ⟨rfl, rfl⟩ | ⟨b1, o1, c1, rfl, hc1, hm1, hb1, hf⟩
  · obtain ⟨A, c, rfl⟩ := strs_slice h2
    go_enter Tryz.func14, Tryz.ntmps14
    go_wp2_with fail
    refine wp_loop_rounds 1 ?_; rw [rounds_succ]
    go_wp2_with fail
    go_ret
    exact ⟨rfl, Grew.refl _⟩
  · rcases h2.open_ with ⟨rfl, rfl⟩ | ⟨b2, o2, c2, rfl, hc2, hm2, hb2, hh⟩
    · go_enter Tryz.func14, Tryz.ntmps14
      go_wp2_with fail
      refine wp_loop_rounds 1 ?_; rw [rounds_succ]
      go_wp2_with fail
      go_ret
      exact ⟨rfl, Grew.refl _⟩
    · clear h1 h2
      have HF := Lib.hid hf
      have HH := Lib.hid hh
      clear hf hh
      generalize hN : L.length = n at *
      clear hN
      go_enter Tryz.func14, Tryz.ntmps14
      go_wp2_with fail
      go_loopw [5] (fun i wr => ∃ j : Nat, j ≤ n ∧ i = .int .i64 j ∧ Grew w wr) (fun i _ => n - (intOf i).toNat)
      case atStart => exact ⟨0, Nat.zero_le _, rfl, Grew.refl _⟩
      case round =>
        obtain ⟨j, hj, rfl, hB⟩ := hrel
        by_cases hlt : j < n
        · have k1 : ∀ W, Grew w W → W.cell? ⟨b1, o1 + j, none⟩ = some (.string (st L j)) := fun W hW => HF.out j hlt W hW
          have k2 : ∀ W, Grew w W → W.cell? ⟨b2, o2 + j, none⟩ = some (.string (st L j)) := fun W hW => HH.out j hlt W hW
          have k3 := k1 _ hB
          have k4 := k2 _ hB
          generalize st L j = x at *
          have hx : (x.toList != x.toList) = false := by simp
          go_wp2_with fail
          go_quiet (fail)
          go_wp2_with fail
          go_roundw
          case rel => exact ⟨j + 1, by omega, by go_num, by first | assumption | exact hB.drewN _⟩
          case measure => simp [intOf]; omega
        · go_wp2_with fail
          go_ret
          exact ⟨rfl, by assumption⟩
end Go.Proofs.YtofeeenjlaljpaaGreat

/- A row that is written: other rows stay, older worlds have not changed. -/
namespace Go.Proofs.YtofeeenjlaljpaaGreat
open Go.RowKit

theorem own_row {w w' : World} {B : Nat} {e : TypeId} {k n : Nat} {v : Value} {xs : List Value} {row : Option Nat} (h : w.ownsRow B e k v n xs) (hg : w.grownBy w' row) (hne : ∀ g, row = some g → v.ownBlock ≠ some g) : w'.ownsRow B e k v n xs := by
  cases row with
  | none => exact own_grew h ⟨hg.os, hg.tape, hg.output, hg.size, fun i hi => hg.block i hi (by simp)⟩
  | some g => exact own_only h (show Only g w w' from hg) (hne g rfl)
theorem grew_row {W w w' : World} {row : Option Nat} (h : Grew W w) (hg : w.grownBy w' row) (hne : ∀ g, row = some g → W.heap.size ≤ g) : Grew W w' := h.grown hg hne
theorem row_of {w w' : World} {v : Value} (h1 : ∀ g, v.ownBlock = some g → Only g w w') (h2 : v.ownBlock = none → Grew w w') : w.grownBy w' v.ownBlock := by
  cases hv : v.ownBlock with
  | none => exact (h2 hv).by_ _
  | some g => exact h1 g hv
end Go.Proofs.YtofeeenjlaljpaaGreat

/- Strings that are not larger than memory. -/
namespace Go.Proofs.YtofeeenjlaljpaaGreat
open Go.RowKit

/-- No text of the list is long. -/
def Fits (L : List ByteArray) : Prop := ∀ i, i < L.length → (st L i).size ≤ 1048576
end Go.Proofs.YtofeeenjlaljpaaGreat

/- Rows of numbers and of strings of the call's own, or empty slices. -/
namespace Go.Proofs.YtofeeenjlaljpaaGreat
open Go.RowKit

/-- A row of numbers of the call's own, or an empty slice. -/
def OwnIe (w : World) (B : Nat) (v : Value) (L : List Int) : Prop := OwnI w B v L ∨ (L = [] ∧ Ints w v [])
def OwnSe (w : World) (B : Nat) (v : Value) (L : List ByteArray) : Prop := OwnS w B v L ∨ (L = [] ∧ Strs w v [])
theorem OwnIe.ints {w : World} {B : Nat} {v : Value} {L : List Int} (h : OwnIe w B v L) : Ints w v L := by
  rcases h with h | ⟨rfl, h⟩
  · exact h.ints
  · exact h
theorem OwnSe.strs {w : World} {B : Nat} {v : Value} {L : List ByteArray} (h : OwnSe w B v L) : Strs w v L := by
  rcases h with h | ⟨rfl, h⟩
  · exact h.strs
  · exact h
theorem OwnIe.grew {w w' : World} {B : Nat} {v : Value} {L : List Int} (h : OwnIe w B v L) (hb : Grew w w') : OwnIe w' B v L := by
  rcases h with h | ⟨e, h⟩
  · exact .inl (h.grew hb)
  · exact .inr ⟨e, h.grew hb⟩
theorem OwnSe.grew {w w' : World} {B : Nat} {v : Value} {L : List ByteArray} (h : OwnSe w B v L) (hb : Grew w w') : OwnSe w' B v L := by
  rcases h with h | ⟨e, h⟩
  · exact .inl (h.grew hb)
  · exact .inr ⟨e, h.grew hb⟩
theorem OwnIe.base {w : World} {B B' : Nat} {v : Value} {L : List Int} (h : OwnIe w B v L) (hb : B' ≤ B) : OwnIe w B' v L := h.imp (fun h => h.base hb) id
theorem OwnSe.base {w : World} {B B' : Nat} {v : Value} {L : List ByteArray} (h : OwnSe w B v L) (hb : B' ≤ B) : OwnSe w B' v L := h.imp (fun h => h.base hb) id
theorem small_fits {L : List ByteArray} (h : Small L L.length) : Fits L := h
end Go.Proofs.YtofeeenjlaljpaaGreat

/- Slices of Deductions in memory. -/
namespace Go.Proofs.YtofeeenjlaljpaaGreat
open Go.RowKit

abbrev Dd := Int × List Int × List ByteArray × ByteArray × Int
/-- The cells of one. -/
def DdCells (w : World) (b o : Nat) (x : Dd) (up ua : Value) : Prop :=
  w.cell? ⟨b, o, none⟩ = some (.int .i64 x.1) ∧ w.cell? ⟨b, o + 1, none⟩ = some up ∧ w.cell? ⟨b, o + 2, none⟩ = some ua ∧ w.cell? ⟨b, o + 3, none⟩ = some (.string x.2.2.2.1) ∧ w.cell? ⟨b, o + 4, none⟩ = some (.int .i64 x.2.2.2.2)
theorem DdCells.grew {w w' : World} {b o : Nat} {x : Dd} {up ua : Value} (h : DdCells w b o x up ua) (hb : b < w.heap.size) (hg : Grew w w') : DdCells w' b o x up ua :=
  ⟨(hg.cell (p := ⟨b, o, none⟩) hb).trans h.1, (hg.cell (p := ⟨b, o + 1, none⟩) hb).trans h.2.1, (hg.cell (p := ⟨b, o + 2, none⟩) hb).trans h.2.2.1, (hg.cell (p := ⟨b, o + 3, none⟩) hb).trans h.2.2.2.1, (hg.cell (p := ⟨b, o + 4, none⟩) hb).trans h.2.2.2.2⟩
/-- The value reads as the list; the inner lists are read by PI and PS. -/
def DdRd (PI : World → Value → List Int → Prop) (PS : World → Value → List ByteArray → Prop) (w : World) (v : Value) (xs : List Dd) : Prop :=
  (v = .slice none 0 0 ∧ xs = []) ∨ ∃ b o c, v = .slice (some ⟨b, o, none⟩) xs.length c ∧ xs.length ≤ c ∧ c ≤ 9223372036854775807 ∧ b < w.heap.size ∧
    ∀ i x, xs[i]? = some x → ∃ up ua, DdCells w b (o + i * 5) x up ua ∧ PI w up x.2.1 ∧ PS w ua x.2.2.1
theorem DdRd.grew {PI : World → Value → List Int → Prop} {PS : World → Value → List ByteArray → Prop} (hI : ∀ w w' v L, Grew w w' → PI w v L → PI w' v L) (hS : ∀ w w' v L, Grew w w' → PS w v L → PS w' v L) {w w' : World} {v : Value} {xs : List Dd} (h : DdRd PI PS w v xs) (hg : Grew w w') : DdRd PI PS w' v xs := by
  rcases h with h | ⟨b, o, c, h1, h2, h3, h4, h5⟩
  · exact .inl h
  · refine .inr ⟨b, o, c, h1, h2, h3, Nat.lt_of_lt_of_le h4 hg.size, fun i x hx => ?_⟩
    obtain ⟨up, ua, k1, k2, k3⟩ := h5 i x hx
    exact ⟨up, ua, k1.grew h4 hg, hI _ _ _ _ hg k2, hS _ _ _ _ hg k3⟩
/-- The value reads as the list. -/
def Dds (w : World) (v : Value) (xs : List Dd) : Prop := DdRd Ints Strs w v xs
theorem Dds.grew {w w' : World} {v : Value} {xs : List Dd} (h : Dds w v xs) (hg : Grew w w') : Dds w' v xs := DdRd.grew (fun _ _ _ _ g k => k.grew g) (fun _ _ _ _ g k => k.grew g) h hg
/-- A list that came in. -/
def ArgDd (w : World) (v : Value) (xs : List Dd) : Prop :=
  (∃ A c, v = .slice A xs.length c ∧ xs.length ≤ 9223372036854775807) ∧ (0 < xs.length → DdRd ArgI ArgS w v xs) ∧ ∀ x ∈ xs, x.2.2.2.1.size ≤ 9223372036854775807
theorem ArgDd.grew {w w' : World} {v : Value} {xs : List Dd} (h : ArgDd w v xs) (hg : Grew w w') : ArgDd w' v xs := ⟨h.1, fun hp => DdRd.grew (fun _ _ _ _ g k => k.grew g) (fun _ _ _ _ g k => k.grew g) (h.2.1 hp) hg, h.2.2⟩
theorem Dds_slice {w : World} {v : Value} {xs : List Dd} (h : Dds w v xs) : ∃ A c, v = .slice A xs.length c := by
  rcases h with ⟨rfl, rfl⟩ | ⟨b, o, c, rfl, _⟩
  · exact ⟨_, _, rfl⟩
  · exact ⟨_, _, rfl⟩
theorem DdRd.open_ {PI : World → Value → List Int → Prop} {PS : World → Value → List ByteArray → Prop} {w : World} {v : Value} {xs : List Dd} (h : DdRd PI PS w v xs) (hp : 0 < xs.length) : ∃ b o c, v = .slice (some ⟨b, o, none⟩) xs.length c ∧ xs.length ≤ c ∧ c ≤ 9223372036854775807 ∧ b < w.heap.size ∧
    ∀ i x, xs[i]? = some x → ∃ up ua, (∀ W, Grew w W → DdCells W b (o + i * 5) x up ua) ∧ PI w up x.2.1 ∧ PS w ua x.2.2.1 := by
  rcases h with ⟨_, h⟩ | ⟨b, o, c, h1, h2, h3, h4, h5⟩
  · rw [h] at hp; cases hp
  · refine ⟨b, o, c, h1, h2, h3, h4, fun i x hx => ?_⟩
    obtain ⟨up, ua, k1, k2, k3⟩ := h5 i x hx
    exact ⟨up, ua, fun W hW => k1.grew h4 hW, k2, k3⟩

/-- The cells of one in a row. -/
def DdRow (cur : Array Value) (k : Nat) (x : Dd) (up ua : Value) : Prop :=
  cur[k]? = some (.int .i64 x.1) ∧ cur[k + 1]? = some up ∧ cur[k + 2]? = some ua ∧ cur[k + 3]? = some (.string x.2.2.2.1) ∧ cur[k + 4]? = some (.int .i64 x.2.2.2.2)
/-- A row of the call's own, with rows of the call's own. -/
def OwnDd (w : World) (B : Nat) (v : Value) (xs : List Dd) : Prop :=
  (v = .slice none 0 0 ∧ xs = []) ∨ ∃ g c cur, v = .slice (some ⟨g, 0, none⟩) xs.length c ∧ B ≤ g ∧ w.heap[g]? = some (.cells cur 50 (0, 0)) ∧ xs.length ≤ c ∧ c ≤ 9223372036854775807 ∧ cur.size = c * 5 ∧
    ∀ i x, xs[i]? = some x → ∃ up ua, DdRow cur (i * 5) x up ua ∧ OwnIe w B up x.2.1 ∧ OwnSe w B ua x.2.2.1
theorem OwnDd.grew {w w' : World} {B : Nat} {v : Value} {xs : List Dd} (h : OwnDd w B v xs) (hg : Grew w w') : OwnDd w' B v xs := by
  rcases h with h | ⟨g, c, cur, h1, h2, h3, h4, h5, h6, h7⟩
  · exact .inl h
  · refine .inr ⟨g, c, cur, h1, h2, (hg.block (blk_lt h3)).trans h3, h4, h5, h6, fun i x hx => ?_⟩
    obtain ⟨up, ua, k1, k2, k3⟩ := h7 i x hx
    exact ⟨up, ua, k1, k2.grew hg, k3.grew hg⟩
theorem OwnDd.base {w : World} {B B' : Nat} {v : Value} {xs : List Dd} (h : OwnDd w B v xs) (hb : B' ≤ B) : OwnDd w B' v xs := by
  rcases h with h | ⟨g, c, cur, h1, h2, h3, h4, h5, h6, h7⟩
  · exact .inl h
  · refine .inr ⟨g, c, cur, h1, Nat.le_trans hb h2, h3, h4, h5, h6, fun i x hx => ?_⟩
    obtain ⟨up, ua, k1, k2, k3⟩ := h7 i x hx
    exact ⟨up, ua, k1, k2.base hb, k3.base hb⟩
theorem DdRow.cells {w : World} {g : Nat} {cur : Array Value} {t : TypeId} {k : Nat} {x : Dd} {up ua : Value} (h : DdRow cur k x up ua) (hg : w.heap[g]? = some (.cells cur t (0, 0))) : DdCells w g k x up ua :=
  ⟨(blk_cell hg _).trans h.1, (blk_cell hg _).trans h.2.1, (blk_cell hg _).trans h.2.2.1, (blk_cell hg _).trans h.2.2.2.1, (blk_cell hg _).trans h.2.2.2.2⟩
theorem OwnDd.rd {w : World} {B : Nat} {v : Value} {xs : List Dd} (h : OwnDd w B v xs) : Dds w v xs := by
  rcases h with h | ⟨g, c, cur, h1, h2, h3, h4, h5, h6, h7⟩
  · exact .inl h
  · refine .inr ⟨g, 0, c, h1, h4, h5, blk_lt h3, fun i x hx => ?_⟩
    obtain ⟨up, ua, k1, k2, k3⟩ := h7 i x hx
    refine ⟨up, ua, ?_, k2.ints, k3.strs⟩
    rw [Nat.zero_add]
    exact k1.cells h3
/-- None is larger than memory. -/
def FitDd (x : Dd) : Prop := x.2.1.length ≤ 1048576 ∧ x.2.2.1.length ≤ 1048576 ∧ Fits x.2.2.1 ∧ x.2.2.2.1.size ≤ 1048576
def FitsDd (xs : List Dd) : Prop := ∀ x ∈ xs, FitDd x
/-- The sizes' walk. -/
def SizesDd (xs : List Dd) (r : Int) : Prop := r ≤ 1048576 ∧ (0 ≤ r → xs.length ≤ 1048576 ∧ FitsDd xs)
theorem infoDd : (Tryz.prog.info? 50).map (fun i => (i.zero, i.size, i.bytes)) = some (some (.agg #[.int .i64 0, .slice none 0 0, .slice none 0 0, .string ByteArray.empty, .int .i64 0]), 5, 80) := by kernel_rfl
end Go.Proofs.YtofeeenjlaljpaaGreat

/- The laws' own helpers on slices of int64: toInt64S, eqInt64S, markInt64S, heldInt64S. -/
namespace Go.Proofs.YtofeeenjlaljpaaGreat
open Go.RowKit

theorem toInt64S_c (v : Value) (L : List Int) (w : World) (h : ArgI w v L) (hn : L.length ≤ 1048576) :
    Calls Tryz.prog 74 #[v] w (GivesI w L) := by
  obtain ⟨⟨A, c, rfl, hmax⟩, hS⟩ := h
  have hmk := run_make_row' (P := Tryz.prog) 34 2 (.int .i64 0) 8 Tryz.underlying34 Tryz.infoI rfl .i64 .i64 L.length (by omega) (by omega)
  have hend : ∀ cur w', w'.heap[w.heap.size]? = some (.cells cur 2 (0, 0)) → cur.size = L.length → (∀ i, i < L.length → cur[i]? = some (.int .i64 (it L i))) → OwnI w' w.heap.size (.slice (some ⟨w.heap.size, 0, none⟩) L.length L.length) L :=
    fun cur w' h1 h2 h3 => OwnI.mk_ (Nat.le_refl _) h1 (Nat.le_refl _) (by omega) h2 h3
  have HE := Lib.hid hend
  clear hend
  have hsz : (madeCells #[Value.int .i64 0] L.length).size = L.length := by simp [madeCells]
  have hnew := blk_new w (.cells (madeCells #[Value.int .i64 0] L.length) 2)
  have hal := (Grew.refl w).alloc (.cells (madeCells #[Value.int .i64 0] L.length) 2)
  generalize madeCells #[Value.int .i64 0] L.length = cur0 at *
  by_cases hp : 0 < L.length
  · rcases (hS hp).open_ with ⟨_, h2⟩ | ⟨b, o, c', hv, hc, hm, hb, hcell⟩
    · rw [h2] at hp; cases hp
    obtain ⟨rfl, rfl⟩ : A = some ⟨b, o, none⟩ ∧ c = c' := by simpa using hv
    clear hS hv
    have HC := Lib.hid hcell
    clear hcell
    generalize hN : L.length = n at *
    clear hN
    have HNEW := Lib.hid hnew
    clear hnew
    have HAL := Lib.hid hal
    clear hal
    go_enter Tryz.func74, Tryz.ntmps74
    go_wp2_with fail
    go_loopw [4] (fun i wr => ∃ (j : Nat) (cur : Array Value), j ≤ n ∧ i = .int .i64 j ∧ wr.heap[w.heap.size]? = some (.cells cur 2 (0, 0)) ∧ cur.size = n ∧ Grew w wr ∧ (∀ i, i < j → cur[i]? = some (.int .i64 (it L i)))) (fun i _ => n - (intOf i).toNat)
    case atStart => exact ⟨0, cur0, Nat.zero_le _, rfl, HNEW.out, hsz, HAL.out, fun i hi => absurd hi (by omega)⟩
    case round =>
      obtain ⟨j, cur, hj, rfl, hh, hcs, hB, hc2⟩ := hrel
      have HD := Lib.hid hc2
      clear hc2
      by_cases hlt : j < n
      · have k1 := HC.out j hlt _ hB
        have HS := Lib.hid (one_stepI (F := fun i => .int .i64 (it L i)) (j := j) (by omega) HD.out)
        have f1 : ∀ i, wr.frozen? ⟨w.heap.size, i, none⟩ = false := fun i => by simp [World.frozen?, hh]
        obtain ⟨u1, hu1⟩ : ∃ u, wr.cell? ⟨w.heap.size, 0 + j, none⟩ = some u := by
          rw [cell_of_row wr w.heap.size _ cur _ (0, 0) hh]
          exact ⟨_, Array.getElem?_eq_getElem (by omega)⟩
        simp only [Nat.zero_add] at hu1
        have HH := Lib.hid hh
        clear hh
        generalize it L j = x at *
        go_wp2_with fail
        go_roundw
        case rel => exact ⟨j + 1, _, by omega, by go_num, blk_set HH.out _ _, by simp [hcs], hB.setCell (Nat.le_refl _) _, HS.out⟩
        case measure => simp [intOf]; omega
      · obtain rfl : j = n := by omega
        have HH := Lib.hid hh
        clear hh
        go_wp2_with fail
        go_ret
        exact ⟨_, rfl, HE.out _ _ HH.out hcs HD.out, hB⟩
  · have hp0 : L.length ≤ 0 := by omega
    have HNEW := Lib.hid hnew
    clear hnew hS hp
    have HAL := Lib.hid hal
    clear hal
    generalize hN : L.length = n at *
    clear hN
    go_enter Tryz.func74, Tryz.ntmps74
    go_wp2_with fail
    refine wp_loop_rounds 1 ?_; rw [rounds_succ]
    go_wp2_with fail
    go_ret
    exact ⟨_, rfl, HE.out _ _ HNEW.out hsz (fun i hi => absurd hi (by omega)), HAL.out⟩
end Go.Proofs.YtofeeenjlaljpaaGreat

/- Two lists of int64 that are equal: eqInt64S. -/
namespace Go.Proofs.YtofeeenjlaljpaaGreat
open Go.RowKit

/-- Two lists of numbers that are equal. -/
theorem eqInt64S_yes (v1 v2 : Value) (L : List Int) (w : World) (h1 : Ints w v1 L) (h2 : Ints w v2 L) (hn : L.length ≤ 1099511627776) :
    Calls Tryz.prog 21 #[v1, v2] w fun e w' => e = .returned (.bool true) ∧ Grew w w' := by
  rcases h1.open_ with ⟨rfl, rfl⟩ | ⟨b1, o1, c1, rfl, hc1, hm1, hb1, hf⟩
  · obtain ⟨A, c, rfl⟩ := ints_slice h2
    go_enter Tryz.func21, Tryz.ntmps21
    go_wp2_with fail
    refine wp_loop_rounds 1 ?_; rw [rounds_succ]
    go_wp2_with fail
    go_ret
    exact ⟨rfl, Grew.refl _⟩
  · rcases h2.open_ with ⟨rfl, rfl⟩ | ⟨b2, o2, c2, rfl, hc2, hm2, hb2, hh⟩
    · go_enter Tryz.func21, Tryz.ntmps21
      go_wp2_with fail
      refine wp_loop_rounds 1 ?_; rw [rounds_succ]
      go_wp2_with fail
      go_ret
      exact ⟨rfl, Grew.refl _⟩
    · clear h1 h2
      have HF := Lib.hid hf
      have HH := Lib.hid hh
      clear hf hh
      generalize hN : L.length = n at *
      clear hN
      go_enter Tryz.func21, Tryz.ntmps21
      go_wp2_with fail
      go_loopw [5] (fun i wr => ∃ j : Nat, j ≤ n ∧ i = .int .i64 j ∧ Grew w wr) (fun i _ => n - (intOf i).toNat)
      case atStart => exact ⟨0, Nat.zero_le _, rfl, Grew.refl _⟩
      case round =>
        obtain ⟨j, hj, rfl, hB⟩ := hrel
        by_cases hlt : j < n
        · have k1 : ∀ W, Grew w W → W.cell? ⟨b1, o1 + j, none⟩ = some (.int .i64 (it L j)) := fun W hW => HF.out j hlt W hW
          have k2 : ∀ W, Grew w W → W.cell? ⟨b2, o2 + j, none⟩ = some (.int .i64 (it L j)) := fun W hW => HH.out j hlt W hW
          have k3 := k1 _ hB
          have k4 := k2 _ hB
          generalize it L j = x at *
          have hx : (x != x) = false := by simp
          go_wp2_with fail
          go_quiet (fail)
          go_wp2_with fail
          go_roundw
          case rel => exact ⟨j + 1, by omega, by go_num, by first | assumption | exact hB.drewN _⟩
          case measure => simp [intOf]; omega
        · go_wp2_with fail
          go_ret
          exact ⟨rfl, by assumption⟩
end Go.Proofs.YtofeeenjlaljpaaGreat

/- make of rows of elements of several cells; the blocks of three allocations. -/
namespace Go.Proofs.YtofeeenjlaljpaaGreat
open Go.RowKit

theorem run_make_rows {P : Program} (t e : TypeId) (z : Value) (size bytes : Nat) (zs : Array Value) (ht : P.underlying t = some (.slice e)) (hinfo : (P.info? e).map (fun i => (i.zero, i.size, i.bytes)) = some (some z, size, bytes)) (hzs : z.cells = zs)
    (kl kc : IntKind) (n : Nat) (hbytes : bytes * n ≤ 281474976710656) (h63 : n ≤ 9223372036854775807) (w : World) :
    (Instr.makeSlice t (.int kl (n : Int)) (.int kc (n : Int))).run P w = .ok (.slice (some ⟨w.heap.size, 0, none⟩) n n) (w.alloc (.cells (madeCells zs (n * size)) e)) := by
  obtain ⟨i, hi, hz, hs, hb⟩ := info_parts hinfo
  have hb' : (i.bytes : Int) * (n : Int) ≤ 281474976710656 := by
    rw [hb]
    have h : ((bytes * n : Nat) : Int) ≤ 281474976710656 := by omega
    rwa [Int.natCast_mul] at h
  have hr := run_make (P := P) w t e i z ht hi hz kl kc n n (by omega) (Int.le_refl _) hb' (by omega)
  simp only [Int.toNat_natCast, hs, hzs] at hr
  exact hr

theorem blk3_mid (w : World) (a b c : Obj) : (((w.alloc a).alloc b).alloc c).heap[w.heap.size + 1]? = some b := by
  have h := blk_new (w.alloc a) b
  have e : (w.alloc a).heap.size = w.heap.size + 1 := by simp
  rw [e] at h
  have h2 := ((Grew.refl ((w.alloc a).alloc b)).alloc c).block (k := w.heap.size + 1) (by simp)
  rw [h2, h]
end Go.Proofs.YtofeeenjlaljpaaGreat

/- The laws' own helpers on slices of deductions: toDeductionS, eqDeductionS. -/
namespace Go.Proofs.YtofeeenjlaljpaaGreat
open Go.RowKit

theorem blk3_all (w : World) (a b c : Obj) : (((w.alloc a).alloc b).alloc c).heap[w.heap.size]? = some a ∧ (((w.alloc a).alloc b).alloc c).heap[w.heap.size + 1]? = some b ∧ (((w.alloc a).alloc b).alloc c).heap[w.heap.size + 1 + 1]? = some c := by
  refine ⟨?_, blk3_mid w a b c, ?_⟩
  · have h := (((Grew.refl (w.alloc a)).alloc b).alloc c).block (k := w.heap.size) (by simp)
    rw [h]; exact blk_new w a
  · have h := blk_new ((w.alloc a).alloc b) c
    have e : ((w.alloc a).alloc b).heap.size = w.heap.size + 1 + 1 := by simp
    rwa [e] at h

theorem own_set {w : World} {B b i : Nat} {e : TypeId} {k n : Nat} {v u : Value} {xs : List Value} (h : w.ownsRow B e k v n xs) (hb : b < B) : (w.setCell ⟨b, i, none⟩ u).ownsRow B e k v n xs :=
  own_only h ((Only.refl b w).setCell u) (fun hh => by have := own_of_ge h hh; omega)

set_option maxHeartbeats 1000000 in
theorem toDeduction_c (x : Dd) (up ua : Value) (w : World) (hp : ArgI w up x.2.1) (hs : ArgS w ua x.2.2.1) (n1 : x.2.1.length ≤ 1048576) (n2 : x.2.2.1.length ≤ 1048576) :
    Calls Tryz.prog 39 #[.agg #[.int .i64 x.1, up, ua, .string x.2.2.2.1, .int .i64 x.2.2.2.2]] w fun e w' => ∃ vp va, e = .returned (.agg #[.int .i64 x.1, vp, va, .string x.2.2.2.1, .int .i64 x.2.2.2.2]) ∧ OwnI w' w.heap.size vp x.2.1 ∧ OwnS w' w.heap.size va x.2.2.1 ∧ Grew w w' := by
  have KI := Lib.hid (fun W (hW : Grew w W) => toInt64S_c up x.2.1 W (hp.grew hW) n1)
  have KS := Lib.hid (fun W (hW : Grew w W) => toStringS_c ua x.2.2.1 W (hs.grew hW) n2)
  obtain ⟨⟨A, c, rfl, hm1⟩, _⟩ := hp
  obtain ⟨⟨A2, c2, rfl, hm2⟩, _, _⟩ := hs
  clear n1 n2
  obtain ⟨r0, P, S, C, N⟩ := x
  simp only at *
  generalize hpl : P.length = pl at *
  generalize hsl : S.length = sl at *
  replace hpl := Lib.hid hpl
  replace hsl := Lib.hid hsl
  have hal := (((Grew.refl w).alloc (.cells #[.int .i64 r0, .slice A pl c, .slice A2 sl c2, .string C, .int .i64 N] 47)).alloc (.cells #[.int .i64 0, .slice none 0 0, .slice none 0 0, .string ByteArray.empty, .int .i64 0] 50)).alloc (.cells #[.int .i64 r0, .slice none 0 0, .slice none 0 0, .string ByteArray.empty, .int .i64 0] 50)
  go_enter Tryz.func39, Tryz.ntmps39
  go_wp2_with fail
  refine (KI.out _ hal).mono ?_
  rintro e w1 ⟨vp, rfl, hop, hg1⟩
  obtain ⟨VA, vc, rfl⟩ := ints_slice hop.ints
  rw [hpl.out] at hop ⊢
  have hW0 : (((w.alloc (.cells #[.int .i64 r0, .slice A pl c, .slice A2 sl c2, .string C, .int .i64 N] 47)).alloc (.cells #[.int .i64 0, .slice none 0 0, .slice none 0 0, .string ByteArray.empty, .int .i64 0] 50)).alloc (.cells #[.int .i64 r0, .slice none 0 0, .slice none 0 0, .string ByteArray.empty, .int .i64 0] 50)).heap.size = w.heap.size + 3 := by simp
  rw [hW0] at hop
  have hz1 := hg1.size
  rw [hW0] at hz1
  have hb1 : w1.heap[w.heap.size + 1 + 1]? = some (.cells #[.int .i64 r0, .slice none 0 0, .slice none 0 0, .string ByteArray.empty, .int .i64 0] 50 (0, 0)) := (hg1.block (k := w.heap.size + 1 + 1) (by rw [hW0]; omega)).trans (blk3_all w _ _ _).2.2
  have hr1 : w1.heap[w.heap.size + 1]? = some (.cells #[.int .i64 0, .slice none 0 0, .slice none 0 0, .string ByteArray.empty, .int .i64 0] 50 (0, 0)) := (hg1.block (k := w.heap.size + 1) (by rw [hW0]; omega)).trans (blk3_all w _ _ _).2.1
  have ha1 : w1.heap[w.heap.size]? = some (.cells #[.int .i64 r0, .slice A pl c, .slice A2 sl c2, .string C, .int .i64 N] 47 (0, 0)) := (hg1.block (k := w.heap.size) (by rw [hW0]; omega)).trans (blk3_all w _ _ _).1
  have f1 : w1.cell? ⟨w.heap.size + 1 + 1, 1, none⟩ = some (.slice none 0 0) := (blk_cell hb1 1).trans rfl
  have f2 : w1.frozen? ⟨w.heap.size + 1 + 1, 1, none⟩ = false := blk_frozen hb1 1
  have f3 : w1.cell? ⟨w.heap.size, 2, none⟩ = some (.slice A2 sl c2) := (blk_cell ha1 2).trans rfl
  have hO1 : Only (w.heap.size + 1 + 1) w1 (w1.setCell ⟨w.heap.size + 1 + 1, 1, none⟩ (.slice VA pl vc)) := (Only.refl _ _).setCell _
  have hop2 : OwnI (w1.setCell ⟨w.heap.size + 1 + 1, 1, none⟩ (.slice VA pl vc)) (w.heap.size + 3) (.slice VA pl vc) P := own_only hop hO1 (fun h => by have := own_of_ge hop h; omega)
  have gW2 : Grew w (w1.setCell ⟨w.heap.size + 1 + 1, 1, none⟩ (.slice VA pl vc)) := (hal.trans hg1).setCell (by show w.heap.size ≤ w.heap.size + 1 + 1; omega) _
  have HB2 := Lib.hid (blk_set hb1 1 (.slice VA pl vc))
  have HR2 : Hid ((w1.setCell ⟨w.heap.size + 1 + 1, 1, none⟩ (.slice VA pl vc)).heap[w.heap.size + 1]? = some (.cells #[.int .i64 0, .slice none 0 0, .slice none 0 0, .string ByteArray.empty, .int .i64 0] 50 (0, 0))) := Lib.hid ((hO1.block (k := w.heap.size + 1) (by omega) (by omega)).trans hr1)
  have HA2 : Hid ((w1.setCell ⟨w.heap.size + 1 + 1, 1, none⟩ (.slice VA pl vc)).heap[w.heap.size]? = some (.cells #[.int .i64 r0, .slice A pl c, .slice A2 sl c2, .string C, .int .i64 N] 47 (0, 0))) := Lib.hid ((hO1.block (k := w.heap.size) (by omega) (by omega)).trans ha1)
  have HOP := Lib.hid hop2
  clear hop hop2 hb1 hr1 ha1 hO1 hW0
  go_wp2_with fail
  refine (KS.out _ gW2).mono ?_
  rintro e w2 ⟨va, rfl, hos, hg2⟩
  obtain ⟨WA, wc, rfl⟩ := strs_slice hos.strs
  rw [hsl.out] at hos ⊢
  have hz2 : w.heap.size + 3 ≤ w2.heap.size := by have := hg2.size; simp [World.setCell] at this; omega
  have hz3 : (w1.setCell ⟨w.heap.size + 1 + 1, 1, none⟩ (.slice VA pl vc)).heap.size = w1.heap.size := by simp [World.setCell]
  have hb2 := (hg2.block (k := w.heap.size + 1 + 1) (by rw [hz3]; omega)).trans HB2.out
  have hr2 := (hg2.block (k := w.heap.size + 1) (by rw [hz3]; omega)).trans HR2.out
  have ha2 := (hg2.block (k := w.heap.size) (by rw [hz3]; omega)).trans HA2.out
  have k3 : w2.cell? ⟨w.heap.size, 3, none⟩ = some (.string C) := (blk_cell ha2 3).trans rfl
  have k4 : w2.cell? ⟨w.heap.size, 4, none⟩ = some (.int .i64 N) := (blk_cell ha2 4).trans rfl
  have o0 : w2.cell? ⟨w.heap.size + 1 + 1, 0, none⟩ = some (.int .i64 r0) := (blk_cell hb2 0).trans rfl
  have o1 : w2.cell? ⟨w.heap.size + 1 + 1, 1, none⟩ = some (.slice VA pl vc) := (blk_cell hb2 1).trans rfl
  have o2 : w2.cell? ⟨w.heap.size + 1 + 1, 2, none⟩ = some (.slice none 0 0) := (blk_cell hb2 2).trans rfl
  have o3 : w2.cell? ⟨w.heap.size + 1 + 1, 3, none⟩ = some (.string ByteArray.empty) := (blk_cell hb2 3).trans rfl
  have o4 : w2.cell? ⟨w.heap.size + 1 + 1, 4, none⟩ = some (.int .i64 0) := (blk_cell hb2 4).trans rfl
  have q0 : w2.cell? ⟨w.heap.size + 1, 0, none⟩ = some (.int .i64 0) := (blk_cell hr2 0).trans rfl
  have q1 : w2.cell? ⟨w.heap.size + 1, 1, none⟩ = some (.slice none 0 0) := (blk_cell hr2 1).trans rfl
  have q2 : w2.cell? ⟨w.heap.size + 1, 2, none⟩ = some (.slice none 0 0) := (blk_cell hr2 2).trans rfl
  have q3 : w2.cell? ⟨w.heap.size + 1, 3, none⟩ = some (.string ByteArray.empty) := (blk_cell hr2 3).trans rfl
  have q4 : w2.cell? ⟨w.heap.size + 1, 4, none⟩ = some (.int .i64 0) := (blk_cell hr2 4).trans rfl
  have y1 : ∀ i, w2.frozen? ⟨w.heap.size + 1 + 1, i, none⟩ = false := fun i => blk_frozen hb2 i
  have y2 : ∀ i, w2.frozen? ⟨w.heap.size + 1, i, none⟩ = false := fun i => blk_frozen hr2 i
  have HOS := Lib.hid hos
  have HR := Lib.hid hr2
  have HOPG := Lib.hid (HOP.out.grew hg2)
  have gW := gW2.trans hg2
  clear hb2 hr2 ha2 hos f1 f2 f3
  go_wp2_with fail
  (try simp only [Exit.inBlock, Exit.then])
  have hinfo : (Tryz.prog.info? 50).map (·.size) = some 5 := by kernel_rfl
  refine bodyPost_ret (results_cell_row rfl _ _ (w.heap.size + 1) 50 #[.int .i64 r0, .slice VA pl vc, .slice WA sl wc, .string C, .int .i64 N] (0, 0) _ rfl ?_ Tryz.underlying50 rfl hinfo) rfl ?_
  · simp [World.setCell, Array.getElem?_modify, HR.out]
  · refine ⟨_, _, rfl, ?_, ?_, ?_⟩
    · exact OwnI.base (B := w.heap.size + 3) (own_set (own_set (own_set (own_set (own_set (own_set (own_set (own_set HOPG.out (by omega)) (by omega)) (by omega)) (by omega)) (by omega)) (by omega)) (by omega)) (by omega)) (by omega)
    · exact OwnS.base (B := w.heap.size + 3) (own_set (own_set (own_set (own_set (own_set (own_set (own_set (own_set (HOS.out.base (B' := w.heap.size + 3) (by rw [hz3]; exact hz1)) (by omega)) (by omega)) (by omega)) (by omega)) (by omega)) (by omega)) (by omega)) (by omega)) (by omega)
    · have hq1 : w.heap.size ≤ w.heap.size + 1 := by omega
      have hq2 : w.heap.size ≤ w.heap.size + 1 + 1 := by omega
      exact (((((((gW.setCell hq2 _).setCell hq2 _).setCell hq2 _).setCell hq1 _).setCell hq1 _).setCell hq1 _).setCell hq1 _).setCell hq1 _
end Go.Proofs.YtofeeenjlaljpaaGreat

/- The laws' own helpers on slices of Deductions: toDeductionS, eqDeductionS. -/
namespace Go.Proofs.YtofeeenjlaljpaaGreat
open Go.RowKit

/-- Five cells are written. -/
theorem DdRow.keep {cur : Array Value} {i j : Nat} {x : Dd} {vp va a b c d e : Value} (h : DdRow cur (i * 5) x vp va) (hi : i < j) :
    DdRow (((((cur.setIfInBounds (j * 5) a).setIfInBounds (j * 5 + 1) b).setIfInBounds (j * 5 + 2) c).setIfInBounds (j * 5 + 3) d).setIfInBounds (j * 5 + 4) e) (i * 5) x vp va := by
  obtain ⟨h0, h1, h2, h3, h4⟩ := h
  unfold DdRow
  simp only [Array.getElem?_setIfInBounds, Array.size_setIfInBounds]
  refine ⟨?_, ?_, ?_, ?_, ?_⟩
  · rw [if_neg (by omega), if_neg (by omega), if_neg (by omega), if_neg (by omega), if_neg (by omega)]; exact h0
  · rw [if_neg (by omega), if_neg (by omega), if_neg (by omega), if_neg (by omega), if_neg (by omega)]; exact h1
  · rw [if_neg (by omega), if_neg (by omega), if_neg (by omega), if_neg (by omega), if_neg (by omega)]; exact h2
  · rw [if_neg (by omega), if_neg (by omega), if_neg (by omega), if_neg (by omega), if_neg (by omega)]; exact h3
  · rw [if_neg (by omega), if_neg (by omega), if_neg (by omega), if_neg (by omega), if_neg (by omega)]; exact h4
theorem DdRow.new {cur : Array Value} {j : Nat} (x : Dd) (vp va : Value) (hs : j * 5 + 4 < cur.size) :
    DdRow (((((cur.setIfInBounds (j * 5) (.int .i64 x.1)).setIfInBounds (j * 5 + 1) vp).setIfInBounds (j * 5 + 2) va).setIfInBounds (j * 5 + 3) (.string x.2.2.2.1)).setIfInBounds (j * 5 + 4) (.int .i64 x.2.2.2.2)) (j * 5) x vp va := by
  unfold DdRow
  simp only [Array.getElem?_setIfInBounds, Array.size_setIfInBounds]
  refine ⟨?_, ?_, ?_, ?_, ?_⟩
  · rw [if_neg (by omega), if_neg (by omega), if_neg (by omega), if_neg (by omega), if_pos trivial, if_pos (by omega)]
  · rw [if_neg (by omega), if_neg (by omega), if_neg (by omega), if_pos trivial, if_pos (by omega)]
  · rw [if_neg (by omega), if_neg (by omega), if_pos trivial, if_pos (by omega)]
  · rw [if_neg (by omega), if_pos trivial, if_pos (by omega)]
  · rw [if_pos trivial, if_pos (by omega)]
/-- The first j are written; their rows lie from block B on. -/
def DdDone (w : World) (B : Nat) (cur : Array Value) (xs : List Dd) (j : Nat) : Prop := ∀ i x, i < j → xs[i]? = some x → ∃ vp va, DdRow cur (i * 5) x vp va ∧ OwnI w B vp x.2.1 ∧ OwnS w B va x.2.2.1
theorem DdDone.own {w : World} {g : Nat} {cur : Array Value} {xs : List Dd} (h : DdDone w (g + 1) cur xs xs.length) (hg : w.heap[g]? = some (.cells cur 50 (0, 0))) (hs : cur.size = xs.length * 5) (hm : xs.length ≤ 9223372036854775807) : OwnDd w g (.slice (some ⟨g, 0, none⟩) xs.length xs.length) xs := by
  refine .inr ⟨g, xs.length, cur, rfl, Nat.le_refl _, hg, Nat.le_refl _, hm, hs, fun i x hx => ?_⟩
  obtain ⟨vp, va, k1, k2, k3⟩ := h i x (List.getElem?_eq_some_iff.1 hx).1 hx
  exact ⟨vp, va, k1, .inl (k2.base (Nat.le_succ _)), .inl (k3.base (Nat.le_succ _))⟩

set_option maxHeartbeats 1000000 in
theorem toDeductionS_c (v : Value) (xs : List Dd) (w : World) (h : ArgDd w v xs) (hn : xs.length ≤ 1048576) (hfit : FitsDd xs) :
    Calls Tryz.prog 12 #[v] w fun e w' => ∃ v', e = .returned v' ∧ OwnDd w' w.heap.size v' xs ∧ Grew w w' := by
  obtain ⟨⟨A, c, rfl, hmax⟩, hS, _⟩ := h
  have hmk := fun W => run_make_rows (P := Tryz.prog) 27 50 (.agg #[.int .i64 0, .slice none 0 0, .slice none 0 0, .string ByteArray.empty, .int .i64 0]) 5 80 #[.int .i64 0, .slice none 0 0, .slice none 0 0, .string ByteArray.empty, .int .i64 0] Tryz.underlying27 infoDd rfl .i64 .i64 xs.length (by omega) (by omega) W
  have HE := Lib.hid (fun cur w' (h1 : w'.heap[w.heap.size]? = some (.cells cur 50 (0, 0))) (h2 : cur.size = xs.length * 5) (h3 : DdDone w' (w.heap.size + 1) cur xs xs.length) => h3.own h1 h2 (by omega))
  have hsz : (madeCells #[Value.int .i64 0, .slice none 0 0, .slice none 0 0, .string ByteArray.empty, .int .i64 0] (xs.length * 5)).size = xs.length * 5 := size_madeCells _ _
  have hnew := blk_new w (.cells (madeCells #[Value.int .i64 0, .slice none 0 0, .slice none 0 0, .string ByteArray.empty, .int .i64 0] (xs.length * 5)) 50)
  have hal := (Grew.refl w).alloc (.cells (madeCells #[Value.int .i64 0, .slice none 0 0, .slice none 0 0, .string ByteArray.empty, .int .i64 0] (xs.length * 5)) 50)
  generalize madeCells #[Value.int .i64 0, .slice none 0 0, .slice none 0 0, .string ByteArray.empty, .int .i64 0] (xs.length * 5) = cur0 at *
  by_cases hp : 0 < xs.length
  · obtain ⟨b, o, c', hv, hc, hm, hb, hcell⟩ := (hS hp).open_ hp
    obtain ⟨rfl, rfl⟩ : A = some ⟨b, o, none⟩ ∧ c = c' := by simpa using hv
    clear hS hv
    have HC := Lib.hid hcell
    have HX := Lib.hid (fun j (hj : j < xs.length) => (⟨xs[j], List.getElem?_eq_getElem hj, hfit _ (List.getElem_mem hj)⟩ : ∃ x, xs[j]? = some x ∧ FitDd x))
    clear hcell hfit
    generalize hN : xs.length = n at *
    clear hN
    have HNEW := Lib.hid hnew
    clear hnew
    have HAL := Lib.hid hal
    clear hal
    go_enter Tryz.func12, Tryz.ntmps12
    go_wp2_with fail
    go_loopw [4] (fun i wr => ∃ (j : Nat) (cur : Array Value), j ≤ n ∧ i = .int .i64 j ∧ wr.heap[w.heap.size]? = some (.cells cur 50 (0, 0)) ∧ cur.size = n * 5 ∧ Grew w wr ∧ Hid (DdDone wr (w.heap.size + 1) cur xs j)) (fun i _ => n - (intOf i).toNat)
    case atStart => exact ⟨0, cur0, Nat.zero_le _, rfl, HNEW.out, hsz, HAL.out, fun i x hi => absurd hi (by omega)⟩
    case round =>
      obtain ⟨j, cur, hj, rfl, hh, hcs, hB, HD⟩ := hrel
      have HH := Lib.hid hh
      have hlt1 := blk_lt hh
      clear hh
      by_cases hlt : j < n
      · obtain ⟨x, hx, hfx⟩ := HX.out j hlt
        obtain ⟨up, ua, hcl, hpi, hps⟩ := HC.out j x hx
        obtain ⟨k1, k2, k3, k4, k5⟩ := hcl _ hB
        have KT := Lib.hid (fun W (hW : Grew wr W) => toDeduction_c x up ua W (hpi.grew (hB.trans hW)) (hps.grew (hB.trans hW)) hfx.1 hfx.2.1)
        obtain ⟨⟨A1, ca1, rfl, _⟩, _⟩ := hpi
        obtain ⟨⟨A2, ca2, rfl, _⟩, _, _⟩ := hps
        have hx' := Lib.hid hx
        clear hx hfx hcl
        have HNW := Lib.hid (fun vp va => DdRow.new (cur := cur) (j := j) x vp va (by omega))
        generalize hl1 : x.2.1.length = l1 at *
        generalize hl2 : x.2.2.1.length = l2 at *
        replace hl1 := Lib.hid hl1
        replace hl2 := Lib.hid hl2
        generalize hx1 : x.1 = xr at *
        generalize hx3 : x.2.2.2.1 = xc at *
        generalize hx4 : x.2.2.2.2 = xn at *
        clear hx1 hx3 hx4
        go_wp2_with fail
        refine (KT.out _ (Grew.refl wr)).mono ?_
        rintro e w1 ⟨vp, va, rfl, hop, hos, hg1⟩
        obtain ⟨VA, vc, rfl⟩ := ints_slice hop.ints
        obtain ⟨WA, wc, rfl⟩ := strs_slice hos.strs
        have hh := (hg1.block hlt1).trans HH.out
        have f1 : ∀ i, w1.frozen? ⟨w.heap.size, i, none⟩ = false := fun i => blk_frozen hh i
        have hcell : ∀ k, k < n * 5 → ∃ u, w1.cell? ⟨w.heap.size, k, none⟩ = some u := fun k hk => by
          rw [blk_cell hh]
          exact ⟨_, Array.getElem?_eq_getElem (by omega)⟩
        obtain ⟨u1, hu1⟩ := hcell (j * 5) (by omega)
        obtain ⟨u2, hu2⟩ := hcell (j * 5 + 1) (by omega)
        obtain ⟨u3, hu3⟩ := hcell (j * 5 + 2) (by omega)
        obtain ⟨u4, hu4⟩ := hcell (j * 5 + 3) (by omega)
        obtain ⟨u5, hu5⟩ := hcell (j * 5 + 4) (by omega)
        have HH1 := Lib.hid hh
        have HOP := Lib.hid (hop.base (B' := w.heap.size + 1) (by omega))
        have HOS := Lib.hid (hos.base (B' := w.heap.size + 1) (by omega))
        clear hh hcell hop hos
        rw [hl1.out]
        rw [hl2.out]
        rw [hl1.out] at HOP
        rw [hl2.out] at HOS
        go_wp2_with fail
        go_roundw
        case rel =>
          refine ⟨j + 1, _, by omega, by go_num, blk_set (blk_set (blk_set (blk_set (blk_set HH1.out _ _) _ _) _ _) _ _) _ _, by simp [hcs], ((((((hB.trans hg1).setCell (Nat.le_refl _) _).setCell (Nat.le_refl _) _).setCell (Nat.le_refl _) _).setCell (Nat.le_refl _) _).setCell (Nat.le_refl _) _), fun i y hi hy => ?_⟩
          rcases Nat.lt_or_ge i j with hk | hk
          · obtain ⟨p1, p2, q1, q2, q3⟩ := HD.out i y hk hy
            exact ⟨p1, p2, q1.keep hk, own_set (own_set (own_set (own_set (own_set (q2.grew hg1) (by omega)) (by omega)) (by omega)) (by omega)) (by omega), own_set (own_set (own_set (own_set (own_set (q3.grew hg1) (by omega)) (by omega)) (by omega)) (by omega)) (by omega)⟩
          · obtain rfl : i = j := by omega
            have hxy : x = y := Option.some.inj (hx'.out.symm.trans hy)
            subst hxy
            exact ⟨_, _, HNW.out _ _, own_set (own_set (own_set (own_set (own_set HOP.out (by omega)) (by omega)) (by omega)) (by omega)) (by omega), own_set (own_set (own_set (own_set (own_set HOS.out (by omega)) (by omega)) (by omega)) (by omega)) (by omega)⟩
        case measure => simp [intOf]; omega
      · obtain rfl : j = n := by omega
        go_wp2_with fail
        go_ret
        exact ⟨_, rfl, HE.out _ _ HH.out hcs HD.out, hB⟩
  · have hp0 : xs.length ≤ 0 := by omega
    have HNEW := Lib.hid hnew
    clear hnew hS hp hfit
    have HAL := Lib.hid hal
    clear hal
    generalize hN : xs.length = n at *
    clear hN
    go_enter Tryz.func12, Tryz.ntmps12
    go_wp2_with fail
    refine wp_loop_rounds 1 ?_; rw [rounds_succ]
    go_wp2_with fail
    go_ret
    exact ⟨_, rfl, HE.out _ _ HNEW.out hsz (fun i x hi => absurd hi (by omega)), HAL.out⟩

theorem eqDeduction_c (x : Dd) (up ua vp va : Value) (w : World) (h1 : Ints w up x.2.1) (h2 : Strs w ua x.2.2.1) (h3 : Ints w vp x.2.1) (h4 : Strs w va x.2.2.1) (n1 : x.2.1.length ≤ 1048576) (n2 : x.2.2.1.length ≤ 1048576) :
    Calls Tryz.prog 43 #[.agg #[.int .i64 x.1, up, ua, .string x.2.2.2.1, .int .i64 x.2.2.2.2], .agg #[.int .i64 x.1, vp, va, .string x.2.2.2.1, .int .i64 x.2.2.2.2]] w fun e w' => e = .returned (.bool true) ∧ Grew w w' := by
  have KI := Lib.hid (fun W (hW : Grew w W) => eqInt64S_yes up vp x.2.1 W (h1.grew hW) (h3.grew hW) (by omega))
  have KS := Lib.hid (fun W (hW : Grew w W) => eqStringS_yes ua va x.2.2.1 W (h2.grew hW) (h4.grew hW) (by omega))
  obtain ⟨A, c, rfl⟩ := ints_slice h1
  obtain ⟨B, d, rfl⟩ := strs_slice h2
  obtain ⟨A2, c2, rfl⟩ := ints_slice h3
  obtain ⟨B2, d2, rfl⟩ := strs_slice h4
  clear h1 h2 h3 h4 n1 n2
  have hal := ((Grew.refl w).alloc (.cells #[.int .i64 x.1, .slice A x.2.1.length c, .slice B x.2.2.1.length d, .string x.2.2.2.1, .int .i64 x.2.2.2.2] 50)).alloc (.cells #[.int .i64 x.1, .slice A2 x.2.1.length c2, .slice B2 x.2.2.1.length d2, .string x.2.2.2.1, .int .i64 x.2.2.2.2] 50)
  have hal1 := (Grew.refl w).alloc (.cells #[.int .i64 x.1, .slice A x.2.1.length c, .slice B x.2.2.1.length d, .string x.2.2.2.1, .int .i64 x.2.2.2.2] 50)
  generalize x.1 = xr at *
  generalize x.2.1.length = l1 at *
  generalize x.2.2.1.length = l2 at *
  generalize x.2.2.2.1 = xc at *
  generalize x.2.2.2.2 = xn at *
  have e1 : (xr != xr) = false := by simp
  have e2 : (xc.toList != xc.toList) = false := by simp
  have e3 : (xn != xn) = false := by simp
  have hW0 : ((w.alloc (.cells #[.int .i64 xr, .slice A l1 c, .slice B l2 d, .string xc, .int .i64 xn] 50)).alloc (.cells #[.int .i64 xr, .slice A2 l1 c2, .slice B2 l2 d2, .string xc, .int .i64 xn] 50)).heap.size = w.heap.size + 1 + 1 := by simp
  have hA0 : ((w.alloc (.cells #[.int .i64 xr, .slice A l1 c, .slice B l2 d, .string xc, .int .i64 xn] 50)).alloc (.cells #[.int .i64 xr, .slice A2 l1 c2, .slice B2 l2 d2, .string xc, .int .i64 xn] 50)).heap[w.heap.size]? = some (.cells #[.int .i64 xr, .slice A l1 c, .slice B l2 d, .string xc, .int .i64 xn] 50 (0, 0)) := by
    rw [((Grew.refl (w.alloc (.cells #[.int .i64 xr, .slice A l1 c, .slice B l2 d, .string xc, .int .i64 xn] 50))).alloc _).block (k := w.heap.size) (by simp)]
    exact blk_new w _
  have hB0 := blk_new (w.alloc (.cells #[.int .i64 xr, .slice A l1 c, .slice B l2 d, .string xc, .int .i64 xn] 50)) (.cells #[.int .i64 xr, .slice A2 l1 c2, .slice B2 l2 d2, .string xc, .int .i64 xn] 50)
  have hsz : (w.alloc (.cells #[.int .i64 xr, .slice A l1 c, .slice B l2 d, .string xc, .int .i64 xn] 50)).heap.size = w.heap.size + 1 := by simp
  rw [hsz] at hB0
  have HW0 := Lib.hid hW0
  have HA0 := Lib.hid hA0
  have HB0 := Lib.hid hB0
  clear hW0 hA0 hB0 hsz
  go_enter Tryz.func43, Tryz.ntmps43
  go_wp2_with fail
  refine (KI.out _ hal).mono ?_
  rintro e w1 ⟨rfl, hg1⟩
  have g1 := hal.trans hg1
  have hA1 := (hg1.block (k := w.heap.size) (by rw [HW0.out]; omega)).trans HA0.out
  have hB1 := (hg1.block (k := w.heap.size + 1) (by rw [HW0.out]; omega)).trans HB0.out
  have a2 : w1.cell? ⟨w.heap.size, 2, none⟩ = some (.slice B l2 d) := (blk_cell hA1 2).trans rfl
  have b2 : w1.cell? ⟨w.heap.size + 1, 2, none⟩ = some (.slice B2 l2 d2) := (blk_cell hB1 2).trans rfl
  have HA1 := Lib.hid hA1
  have HB1 := Lib.hid hB1
  have l1 := blk_lt hA1
  have l2' := blk_lt hB1
  clear hA1 hB1
  go_wp2_with fail
  refine (KS.out _ g1).mono ?_
  rintro e w2 ⟨rfl, hg2⟩
  have g2 := g1.trans hg2
  have hA2 := (hg2.block l1).trans HA1.out
  have hB2 := (hg2.block l2').trans HB1.out
  have a3 : w2.cell? ⟨w.heap.size, 3, none⟩ = some (.string xc) := (blk_cell hA2 3).trans rfl
  have b3 : w2.cell? ⟨w.heap.size + 1, 3, none⟩ = some (.string xc) := (blk_cell hB2 3).trans rfl
  have a4 : w2.cell? ⟨w.heap.size, 4, none⟩ = some (.int .i64 xn) := (blk_cell hA2 4).trans rfl
  have b4 : w2.cell? ⟨w.heap.size + 1, 4, none⟩ = some (.int .i64 xn) := (blk_cell hB2 4).trans rfl
  clear hA2 hB2
  go_wp2_with fail
  go_ret
  exact ⟨rfl, g2⟩

/-- Two lists that are equal. -/
theorem eqDeductionS_yes (v1 v2 : Value) (xs : List Dd) (w : World) (h1 : Dds w v1 xs) (h2 : Dds w v2 xs) (hn : xs.length ≤ 1099511627776) (hf : FitsDd xs) :
    Calls Tryz.prog 15 #[v1, v2] w fun e w' => e = .returned (.bool true) ∧ Grew w w' := by
  by_cases hp : 0 < xs.length
  · obtain ⟨b1, o1, c1, rfl, hc1, hm1, hb1, hcl1⟩ := DdRd.open_ h1 hp
    obtain ⟨b2, o2, c2, rfl, hc2, hm2, hb2, hcl2⟩ := DdRd.open_ h2 hp
    clear h1 h2
    have H1 := Lib.hid hcl1
    have H2 := Lib.hid hcl2
    have HX := Lib.hid (fun j (hj : j < xs.length) => (⟨xs[j], List.getElem?_eq_getElem hj, hf _ (List.getElem_mem hj)⟩ : ∃ x, xs[j]? = some x ∧ FitDd x))
    clear hcl1 hcl2 hf
    generalize hN : xs.length = n at *
    clear hN
    go_enter Tryz.func15, Tryz.ntmps15
    go_wp2_with fail
    go_loopw [5] (fun i wr => ∃ j : Nat, j ≤ n ∧ i = .int .i64 j ∧ Grew w wr) (fun i _ => n - (intOf i).toNat)
    case atStart => exact ⟨0, Nat.zero_le _, rfl, Grew.refl _⟩
    case round =>
      obtain ⟨j, hj, rfl, hB⟩ := hrel
      by_cases hlt : j < n
      · obtain ⟨x, hx, hfx⟩ := HX.out j hlt
        obtain ⟨up, ua, q1, q2, q3⟩ := H1.out j x hx
        obtain ⟨vp, va, r1, r2, r3⟩ := H2.out j x hx
        have KE := Lib.hid (fun W (hW : Grew w W) => eqDeduction_c x up ua vp va W (q2.grew hW) (q3.grew hW) (r2.grew hW) (r3.grew hW) hfx.1 hfx.2.1)
        obtain ⟨U1, cu1, rfl⟩ := ints_slice q2
        obtain ⟨U2, cu2, rfl⟩ := strs_slice q3
        obtain ⟨V1, cv1, rfl⟩ := ints_slice r2
        obtain ⟨V2, cv2, rfl⟩ := strs_slice r3
        have s0 := fun W (hW : Grew w W) => (q1 W hW).1
        have s1 := fun W (hW : Grew w W) => (q1 W hW).2.1
        have s2 := fun W (hW : Grew w W) => (q1 W hW).2.2.1
        have s3 := fun W (hW : Grew w W) => (q1 W hW).2.2.2.1
        have s4 := fun W (hW : Grew w W) => (q1 W hW).2.2.2.2
        have t0 := fun W (hW : Grew w W) => (r1 W hW).1
        have t1 := fun W (hW : Grew w W) => (r1 W hW).2.1
        have t2 := fun W (hW : Grew w W) => (r1 W hW).2.2.1
        have t3 := fun W (hW : Grew w W) => (r1 W hW).2.2.2.1
        have t4 := fun W (hW : Grew w W) => (r1 W hW).2.2.2.2
        have hd := hB.drew
        clear hx q1 q2 q3 r1 r2 r3 hfx
        generalize x.1 = xr at *
        generalize x.2.1.length = l1 at *
        generalize x.2.2.1.length = l2 at *
        generalize x.2.2.2.1 = xc at *
        generalize x.2.2.2.2 = xn at *
        go_wp2_with fail
        go_region_held3 (fun w' => Grew w w') (with_reducible assumption)
          (first | (go_at_call 43; refine (KE.out _ hd).mono ?_; rintro e w1 ⟨rfl, hg1⟩; have hk1 := hd.trans hg1))
        go_wp2_with fail
        go_roundw
        case rel => exact ⟨j + 1, by omega, by go_num, hk1⟩
        case measure => simp [intOf]; omega
      · obtain rfl : j = n := by omega
        go_wp2_with fail
        go_ret
        exact ⟨rfl, hB⟩
  · obtain rfl : xs = [] := List.eq_nil_of_length_eq_zero (by omega)
    obtain ⟨A, c, rfl⟩ := Dds_slice h1
    obtain ⟨B, d, rfl⟩ := Dds_slice h2
    simp only [List.length_nil]
    clear h1 h2 hp hf hn
    go_enter Tryz.func15, Tryz.ntmps15
    go_wp2_with fail
    refine wp_loop_rounds 1 ?_; rw [rounds_succ]
    go_wp2_with fail
    go_ret
    exact ⟨rfl, Grew.refl _⟩
end Go.Proofs.YtofeeenjlaljpaaGreat

/- Rows of steps of the call's own whose inner rows lie apart from each other. -/
namespace Go.Proofs.YtofeeenjlaljpaaGreat
open Go.RowKit

/-- Two rows that share no block. -/
def Apart (a b : Value) : Prop := ∀ g, a.ownBlock = some g → b.ownBlock ≠ some g
theorem Apart.symm {a b : Value} (h : Apart a b) : Apart b a := fun g hg hb => h g hb hg

/-- The steps that stand in the row's cells; their inner rows ps, us lie in the blocks from lo to hi, apart from each other. -/
structure Dx (w : World) (lo hi : Nat) (xs : List Dd) (n : Nat) (cur : Array Value) (ps us : Nat → Value) : Prop where
  rows : ∀ i x, i < n → xs[i]? = some x → DdRow cur (i * 5) x (ps i) (us i) ∧ OwnI w lo (ps i) x.2.1 ∧ OwnS w lo (us i) x.2.2.1
  hiP : ∀ i b, i < n → (ps i).ownBlock = some b → b < hi
  hiS : ∀ i b, i < n → (us i).ownBlock = some b → b < hi
  apP : ∀ i k, i < k → k < n → Apart (ps i) (ps k)
  apS : ∀ i k, i < k → k < n → Apart (us i) (us k)
theorem Dx.zero (w : World) (lo hi : Nat) (xs : List Dd) (cur : Array Value) (ps us : Nat → Value) : Dx w lo hi xs 0 cur ps us :=
  ⟨fun i x h => absurd h (by omega), fun i b h => absurd h (by omega), fun i b h => absurd h (by omega), fun i k h h2 => absurd h2 (by omega), fun i k h h2 => absurd h2 (by omega)⟩
theorem Dx.grew {w w' : World} {lo hi n : Nat} {xs : List Dd} {cur : Array Value} {ps us : Nat → Value} (h : Dx w lo hi xs n cur ps us) (hg : Grew w w') : Dx w' lo hi xs n cur ps us :=
  ⟨fun i x hi hx => let ⟨a, b, c⟩ := h.rows i x hi hx; ⟨a, b.grew hg, c.grew hg⟩, h.hiP, h.hiS, h.apP, h.apS⟩
theorem Dx.up {w : World} {lo hi hi' n : Nat} {xs : List Dd} {cur : Array Value} {ps us : Nat → Value} (h : Dx w lo hi xs n cur ps us) (hh : hi ≤ hi') : Dx w lo hi' xs n cur ps us :=
  ⟨h.rows, fun i b a c => Nat.lt_of_lt_of_le (h.hiP i b a c) hh, fun i b a c => Nat.lt_of_lt_of_le (h.hiS i b a c) hh, h.apP, h.apS⟩
theorem Dx.down {w : World} {lo lo' hi n : Nat} {xs : List Dd} {cur : Array Value} {ps us : Nat → Value} (h : Dx w lo hi xs n cur ps us) (hh : lo' ≤ lo) : Dx w lo' hi xs n cur ps us :=
  ⟨fun i x a b => let ⟨p, q, r⟩ := h.rows i x a b; ⟨p, q.base hh, r.base hh⟩, h.hiP, h.hiS, h.apP, h.apS⟩
/-- A row of steps of the call's own, all of it in the blocks from lo to hi. -/
def OwnDx (w : World) (lo hi : Nat) (v : Value) (xs : List Dd) : Prop :=
  (v = .slice none 0 0 ∧ xs = []) ∨ ∃ g c cur ps us, v = .slice (some ⟨g, 0, none⟩) xs.length c ∧ lo ≤ g ∧ g < hi ∧ w.heap[g]? = some (.cells cur 50 (0, 0)) ∧ xs.length ≤ c ∧ c ≤ 9223372036854775807 ∧ cur.size = c * 5 ∧ Dx w lo hi xs xs.length cur ps us
theorem OwnDx.grew {w w' : World} {lo hi : Nat} {v : Value} {xs : List Dd} (h : OwnDx w lo hi v xs) (hg : Grew w w') : OwnDx w' lo hi v xs := by
  rcases h with h | ⟨g, c, cur, ps, us, h1, h2, h3, h4, h5, h6, h7, h8⟩
  · exact .inl h
  · exact .inr ⟨g, c, cur, ps, us, h1, h2, h3, (hg.block (blk_lt h4)).trans h4, h5, h6, h7, h8.grew hg⟩
theorem OwnDx.up {w : World} {lo hi hi' : Nat} {v : Value} {xs : List Dd} (h : OwnDx w lo hi v xs) (hh : hi ≤ hi') : OwnDx w lo hi' v xs := by
  rcases h with h | ⟨g, c, cur, ps, us, h1, h2, h3, h4, h5, h6, h7, h8⟩
  · exact .inl h
  · exact .inr ⟨g, c, cur, ps, us, h1, h2, Nat.lt_of_lt_of_le h3 hh, h4, h5, h6, h7, h8.up hh⟩
theorem OwnDx.down {w : World} {lo lo' hi : Nat} {v : Value} {xs : List Dd} (h : OwnDx w lo hi v xs) (hh : lo' ≤ lo) : OwnDx w lo' hi v xs := by
  rcases h with h | ⟨g, c, cur, ps, us, h1, h2, h3, h4, h5, h6, h7, h8⟩
  · exact .inl h
  · exact .inr ⟨g, c, cur, ps, us, h1, Nat.le_trans hh h2, h3, h4, h5, h6, h7, h8.down hh⟩
theorem OwnDx.rd {w : World} {lo hi : Nat} {v : Value} {xs : List Dd} (h : OwnDx w lo hi v xs) : Dds w v xs := by
  rcases h with h | ⟨g, c, cur, ps, us, h1, h2, h3, h4, h5, h6, h7, h8⟩
  · exact .inl h
  · refine .inr ⟨g, 0, c, h1, h5, h6, blk_lt h4, fun i x hx => ?_⟩
    obtain ⟨k1, k2, k3⟩ := h8.rows i x (List.getElem?_eq_some_iff.1 hx).1 hx
    refine ⟨_, _, ?_, k2.ints, k3.strs⟩
    rw [Nat.zero_add]
    exact k1.cells h4

/-- Of what was there the blocks from lo to hi alone may have changed. -/
structure Span (lo hi : Nat) (a b : World) : Prop where
  os : b.os = a.os
  tape : b.tape = a.tape
  output : b.output = a.output
  size : a.heap.size ≤ b.heap.size
  block : ∀ k, k < a.heap.size → (k < lo ∨ hi ≤ k) → b.heap[k]? = a.heap[k]?
theorem Span.refl (lo hi : Nat) (w : World) : Span lo hi w w := ⟨rfl, rfl, rfl, Nat.le_refl _, fun _ _ _ => rfl⟩
theorem Span.trans {lo hi : Nat} {a b c : World} (h : Span lo hi a b) (k : Span lo hi b c) : Span lo hi a c :=
  ⟨k.os.trans h.os, k.tape.trans h.tape, k.output.trans h.output, Nat.le_trans h.size k.size, fun i hi' ho => (k.block i (Nat.lt_of_lt_of_le hi' h.size) ho).trans (h.block i hi' ho)⟩
theorem Span.of_grew {lo hi : Nat} {a b : World} (h : Grew a b) : Span lo hi a b := ⟨h.os, h.tape, h.output, h.size, fun k hk _ => h.block hk⟩
theorem Span.grew {lo hi : Nat} {a b c : World} (h : Span lo hi a b) (k : Grew b c) : Span lo hi a c := h.trans (Span.of_grew k)
theorem Span.of_row {lo hi : Nat} {a b : World} {row : Option Nat} (h : a.grownBy b row) (hr : ∀ g, row = some g → lo ≤ g ∧ g < hi) : Span lo hi a b :=
  ⟨h.os, h.tape, h.output, h.size, fun k hk ho => h.block k hk (fun e => by have := hr k e.symm; omega)⟩
theorem Span.of_only {lo hi g : Nat} {a b : World} (h : Only g a b) (h1 : lo ≤ g) (h2 : g < hi) : Span lo hi a b :=
  ⟨h.os, h.tape, h.output, h.size, fun k hk ho => h.block hk (by omega)⟩
/-- Nothing older than lo has changed. -/
theorem Span.old {lo hi : Nat} {w a b : World} (h : Span lo hi a b) (h0 : Grew w a) (hl : w.heap.size ≤ lo) : Grew w b :=
  ⟨h.os.trans h0.os, h.tape.trans h0.tape, h.output.trans h0.output, Nat.le_trans h0.size h.size, fun k hk => (h.block k (Nat.lt_of_lt_of_le hk h0.size) (.inl (Nat.lt_of_lt_of_le hk hl))).trans (h0.block hk)⟩
/-- A row outside stays. -/
theorem Span.own {lo hi B : Nat} {a b : World} {e : TypeId} {k n : Nat} {v : Value} {xs : List Value} (h : Span lo hi a b) (ho : a.ownsRow B e k v n xs) (hv : ∀ g, v.ownBlock = some g → g < lo ∨ hi ≤ g) : b.ownsRow B e k v n xs := by
  obtain ⟨h1, h2⟩ := ho
  refine ⟨h1, ?_⟩
  rcases h2 with h2 | ⟨g, cap, cur, rfl, h4, h5, h6⟩
  · exact .inl h2
  · exact .inr ⟨g, cap, cur, rfl, h4, (h.block g (blk_lt h5) (hv g rfl)).trans h5, h6⟩
theorem Span.ownDx {lo hi lo' hi' : Nat} {a b : World} {v : Value} {xs : List Dd} (h : Span lo hi a b) (ho : OwnDx a lo' hi' v xs) (hd : hi' ≤ lo ∨ hi ≤ lo') : OwnDx b lo' hi' v xs := by
  rcases ho with ho | ⟨g, c, cur, ps, us, h1, h2, h3, h4, h5, h6, h7, h8⟩
  · exact .inl ho
  · refine .inr ⟨g, c, cur, ps, us, h1, h2, h3, (h.block g (blk_lt h4) (by omega)).trans h4, h5, h6, h7, ⟨fun i x hi hx => ?_, h8.hiP, h8.hiS, h8.apP, h8.apS⟩⟩
    obtain ⟨k1, k2, k3⟩ := h8.rows i x hi hx
    exact ⟨k1, h.own k2 (fun b hb => by have := h8.hiP i b hi hb; have := own_of_ge k2 hb; omega), h.own k3 (fun b hb => by have := h8.hiS i b hi hb; have := own_of_ge k3 hb; omega)⟩

/-- One step more, with fresh inner rows; then the row's block is written. -/
theorem Dx.snoc {w w1 W : World} {lo g n j : Nat} {xs : List Dd} {cur cur' : Array Value} {ps us : Nat → Value} {x : Dd} {vp va : Value} (h : Dx w lo w.heap.size xs j cur ps us) (hg1 : Grew w w1) (hlo : lo ≤ w.heap.size) (hx : xs[j]? = some x)
    (hp : OwnI w1 w.heap.size vp x.2.1) (hs : OwnS w1 w.heap.size va x.2.2.1) (hgl : g < lo) (hW : Only g w1 W) (hn : DdRow cur' (j * 5) x vp va) (hk : ∀ i y up ua, i < j → DdRow cur (i * 5) y up ua → DdRow cur' (i * 5) y up ua) (_hnj : j < n) :
    Dx W lo W.heap.size xs (j + 1) cur' (fun i => if i = j then vp else ps i) (fun i => if i = j then va else us i) := by
  have hz1 := hg1.size
  have hz2 := hW.size
  refine ⟨fun i y hi hy => ?_, fun i b hi hb => ?_, fun i b hi hb => ?_, fun i k hik hk2 => ?_, fun i k hik hk2 => ?_⟩
  · by_cases hij : i = j
    · subst hij
      have e : y = x := Option.some.inj (hy.symm.trans hx)
      subst e
      simp only [if_true]
      exact ⟨hn, own_base (own_only hp hW (fun he => by have := own_of_ge hp he; omega)) hlo, own_base (own_only hs hW (fun he => by have := own_of_ge hs he; omega)) hlo⟩
    · simp only [if_neg hij]
      obtain ⟨k1, k2, k3⟩ := h.rows i y (by omega) hy
      exact ⟨hk i y _ _ (by omega) k1, own_only (k2.grew hg1) hW (fun he => by have := own_of_ge k2 he; omega), own_only (k3.grew hg1) hW (fun he => by have := own_of_ge k3 he; omega)⟩
  · by_cases hij : i = j
    · simp only [if_pos hij] at hb
      have := (hp.lt b hb).2
      omega
    · simp only [if_neg hij] at hb
      have := h.hiP i b (by omega) hb
      omega
  · by_cases hij : i = j
    · simp only [if_pos hij] at hb
      have := (hs.lt b hb).2
      omega
    · simp only [if_neg hij] at hb
      have := h.hiS i b (by omega) hb
      omega
  · by_cases hkj : k = j
    · subst hkj
      simp only [if_true, if_neg (show ¬ i = k by omega)]
      intro b hb hb2
      have h3 := h.hiP i b (by omega) hb
      have h4 := own_of_ge hp hb2
      omega
    · simp only [if_neg hkj, if_neg (show ¬ i = j by omega)]
      exact h.apP i k hik (by omega)
  · by_cases hkj : k = j
    · subst hkj
      simp only [if_true, if_neg (show ¬ i = k by omega)]
      intro b hb hb2
      have h3 := h.hiS i b (by omega) hb
      have h4 := own_of_ge hs hb2
      omega
    · simp only [if_neg hkj, if_neg (show ¬ i = j by omega)]
      exact h.apS i k hik (by omega)
theorem dd_keep {cur : Array Value} {i j : Nat} {x : Dd} {vp va a b c d e : Value} (hi : i < j) (h : DdRow cur (i * 5) x vp va) :
    DdRow (((((cur.setIfInBounds (j * 5) a).setIfInBounds (j * 5 + 1) b).setIfInBounds (j * 5 + 2) c).setIfInBounds (j * 5 + 3) d).setIfInBounds (j * 5 + 4) e) (i * 5) x vp va := h.keep hi

set_option maxHeartbeats 1000000 in
theorem toDeductionS_x (v : Value) (xs : List Dd) (w : World) (h : ArgDd w v xs) (hn : xs.length ≤ 1048576) (hfit : FitsDd xs) :
    Calls Tryz.prog 12 #[v] w fun e w' => ∃ v', e = .returned v' ∧ OwnDx w' w.heap.size w'.heap.size v' xs ∧ Grew w w' := by
  obtain ⟨⟨A, c, rfl, hmax⟩, hS, _⟩ := h
  have hmk := fun W => run_make_rows (P := Tryz.prog) 27 50 (.agg #[.int .i64 0, .slice none 0 0, .slice none 0 0, .string ByteArray.empty, .int .i64 0]) 5 80 #[.int .i64 0, .slice none 0 0, .slice none 0 0, .string ByteArray.empty, .int .i64 0] Tryz.underlying27 infoDd rfl .i64 .i64 xs.length (by omega) (by omega) W
  have HE : Hid (∀ cur w' ps us, w'.heap[w.heap.size]? = some (.cells cur 50 (0, 0)) → cur.size = xs.length * 5 → Dx w' (w.heap.size + 1) w'.heap.size xs xs.length cur ps us → OwnDx w' w.heap.size w'.heap.size (.slice (some ⟨w.heap.size, 0, none⟩) xs.length xs.length) xs) := Lib.hid (fun cur w' ps us h1 h2 h3 => .inr ⟨w.heap.size, xs.length, cur, ps, us, rfl, Nat.le_refl _, blk_lt h1, h1, Nat.le_refl _, by omega, h2, h3.down (Nat.le_succ _)⟩)
  have hsz : (madeCells #[Value.int .i64 0, .slice none 0 0, .slice none 0 0, .string ByteArray.empty, .int .i64 0] (xs.length * 5)).size = xs.length * 5 := size_madeCells _ _
  have hnew := blk_new w (.cells (madeCells #[Value.int .i64 0, .slice none 0 0, .slice none 0 0, .string ByteArray.empty, .int .i64 0] (xs.length * 5)) 50)
  have hal := (Grew.refl w).alloc (.cells (madeCells #[Value.int .i64 0, .slice none 0 0, .slice none 0 0, .string ByteArray.empty, .int .i64 0] (xs.length * 5)) 50)
  generalize madeCells #[Value.int .i64 0, .slice none 0 0, .slice none 0 0, .string ByteArray.empty, .int .i64 0] (xs.length * 5) = cur0 at *
  by_cases hp : 0 < xs.length
  · obtain ⟨b, o, c', hv, hc, hm, hb, hcell⟩ := (hS hp).open_ hp
    obtain ⟨rfl, rfl⟩ : A = some ⟨b, o, none⟩ ∧ c = c' := by simpa using hv
    clear hS hv
    have HC := Lib.hid hcell
    have HX := Lib.hid (fun j (hj : j < xs.length) => (⟨xs[j], List.getElem?_eq_getElem hj, hfit _ (List.getElem_mem hj)⟩ : ∃ x, xs[j]? = some x ∧ FitDd x))
    clear hcell hfit
    generalize hN : xs.length = n at *
    clear hN
    have HNEW := Lib.hid hnew
    clear hnew
    have HAL := Lib.hid hal
    clear hal
    go_enter Tryz.func12, Tryz.ntmps12
    go_wp2_with fail
    go_loopw [4] (fun i wr => ∃ (j : Nat) (cur : Array Value), j ≤ n ∧ i = .int .i64 j ∧ wr.heap[w.heap.size]? = some (.cells cur 50 (0, 0)) ∧ cur.size = n * 5 ∧ Grew w wr ∧ Hid (∃ ps us, Dx wr (w.heap.size + 1) wr.heap.size xs j cur ps us)) (fun i _ => n - (intOf i).toNat)
    case atStart => exact ⟨0, cur0, Nat.zero_le _, rfl, HNEW.out, hsz, HAL.out, ⟨fun _ => .slice none 0 0, fun _ => .slice none 0 0, Dx.zero _ _ _ _ _ _ _⟩⟩
    case round =>
      obtain ⟨j, cur, hj, rfl, hh, hcs, hB, HD⟩ := hrel
      have HH := Lib.hid hh
      have hlt1 := blk_lt hh
      clear hh
      by_cases hlt : j < n
      · obtain ⟨x, hx, hfx⟩ := HX.out j hlt
        obtain ⟨up, ua, hcl, hpi, hps⟩ := HC.out j x hx
        obtain ⟨k1, k2, k3, k4, k5⟩ := hcl _ hB
        have KT := Lib.hid (fun W (hW : Grew wr W) => toDeduction_c x up ua W (hpi.grew (hB.trans hW)) (hps.grew (hB.trans hW)) hfx.1 hfx.2.1)
        obtain ⟨⟨A1, ca1, rfl, _⟩, _⟩ := hpi
        obtain ⟨⟨A2, ca2, rfl, _⟩, _, _⟩ := hps
        have hx' := Lib.hid hx
        clear hx hfx hcl
        have HNW := Lib.hid (fun vp va => DdRow.new (cur := cur) (j := j) x vp va (by omega))
        generalize hl1 : x.2.1.length = l1 at *
        generalize hl2 : x.2.2.1.length = l2 at *
        replace hl1 := Lib.hid hl1
        replace hl2 := Lib.hid hl2
        generalize hx1 : x.1 = xr at *
        generalize hx3 : x.2.2.2.1 = xc at *
        generalize hx4 : x.2.2.2.2 = xn at *
        clear hx1 hx3 hx4
        go_wp2_with fail
        refine (KT.out _ (Grew.refl wr)).mono ?_
        rintro e w1 ⟨vp, va, rfl, hop, hos, hg1⟩
        obtain ⟨VA, vc, rfl⟩ := ints_slice hop.ints
        obtain ⟨WA, wc, rfl⟩ := strs_slice hos.strs
        have hh := (hg1.block hlt1).trans HH.out
        have f1 : ∀ i, w1.frozen? ⟨w.heap.size, i, none⟩ = false := fun i => blk_frozen hh i
        have hcell : ∀ k, k < n * 5 → ∃ u, w1.cell? ⟨w.heap.size, k, none⟩ = some u := fun k hk => by
          rw [blk_cell hh]
          exact ⟨_, Array.getElem?_eq_getElem (by omega)⟩
        obtain ⟨u1, hu1⟩ := hcell (j * 5) (by omega)
        obtain ⟨u2, hu2⟩ := hcell (j * 5 + 1) (by omega)
        obtain ⟨u3, hu3⟩ := hcell (j * 5 + 2) (by omega)
        obtain ⟨u4, hu4⟩ := hcell (j * 5 + 3) (by omega)
        obtain ⟨u5, hu5⟩ := hcell (j * 5 + 4) (by omega)
        have HH1 := Lib.hid hh
        have HOP := Lib.hid hop
        have HOS := Lib.hid hos
        have HG1 := Lib.hid hg1
        clear hh hcell hop hos
        rw [hl1.out]
        rw [hl2.out]
        rw [hl1.out] at HOP
        rw [hl2.out] at HOS
        go_wp2_with fail
        go_roundw
        case rel =>
          refine ⟨j + 1, _, by omega, by go_num, blk_set (blk_set (blk_set (blk_set (blk_set HH1.out _ _) _ _) _ _) _ _) _ _, by simp [hcs], ((((((hB.trans hg1).setCell (Nat.le_refl _) _).setCell (Nat.le_refl _) _).setCell (Nat.le_refl _) _).setCell (Nat.le_refl _) _).setCell (Nat.le_refl _) _), ?_⟩
          obtain ⟨ps, us, hD⟩ := HD.out
          exact ⟨_, _, hD.snoc (n := n) HG1.out hlt1 hx'.out HOP.out HOS.out (Nat.lt_succ_self _) ((((((Only.refl _ w1).setCell _).setCell _).setCell _).setCell _).setCell _) (HNW.out _ _) (fun i y up ua hi hr => dd_keep hi hr) hlt⟩
        case measure => simp [intOf]; omega
      · obtain rfl : j = n := by omega
        go_wp2_with fail
        go_ret
        obtain ⟨ps, us, hD⟩ := HD.out
        exact ⟨_, rfl, HE.out _ _ ps us HH.out hcs hD, hB⟩
  · have hp0 : xs.length ≤ 0 := by omega
    have HNEW := Lib.hid hnew
    clear hnew hS hp hfit
    have HAL := Lib.hid hal
    clear hal
    generalize hN : xs.length = n at *
    clear hN
    go_enter Tryz.func12, Tryz.ntmps12
    go_wp2_with fail
    refine wp_loop_rounds 1 ?_; rw [rounds_succ]
    go_wp2_with fail
    go_ret
    exact ⟨_, rfl, HE.out _ _ (fun _ => .slice none 0 0) (fun _ => .slice none 0 0) HNEW.out hsz ⟨fun i x hi => absurd hi (by omega), fun i b hi => absurd hi (by omega), fun i b hi => absurd hi (by omega), fun i k hi hk => absurd hk (by omega), fun i k hi hk => absurd hk (by omega)⟩, HAL.out⟩
end Go.Proofs.YtofeeenjlaljpaaGreat

/- The laws' text of a mark: one text for each number. -/
namespace Go.Proofs.YtofeeenjlaljpaaGreat
open Go.RowKit

theorem conv_one (Y : Int) (w : World) (t : TypeId) : (convert 84 9 (.slice (some ⟨w.heap.size, 0, none⟩) 1 1)).run Tryz.prog (w.alloc (.cells #[.int .u8 Y] t)) = .ok (.string (strOfNums [Y])) (w.alloc (.cells #[.int .u8 Y] t)) :=
  run_convert_bytes_arg (P := Tryz.prog) (w := w.alloc (.cells #[.int .u8 Y] t)) 84 5 Tryz.underlying84 Tryz.underlying5 w.heap.size 0 1 1 [Y] rfl (fun i hi => by
    obtain rfl : i = 0 := by omega
    simp) 9 Tryz.underlying9

/-- The digits of m ahead of z. -/
def digs : Nat → Nat → ByteArray → ByteArray
  | 0, _, z => z
  | f + 1, m, z => if m = 0 then z else digs f (m / 10) (strOfNums [((48 + m % 10 : Nat) : Int)] ++ z)
theorem digs_zero (f : Nat) (z : ByteArray) : digs f 0 z = z := by cases f <;> simp [digs]
theorem digs_step {f m : Nat} (h : 0 < m) (z : ByteArray) : digs (f + 1) m z = digs f (m / 10) (strOfNums [((48 + m % 10 : Nat) : Int)] ++ z) := by rw [digs, if_neg (by omega)]
/-- The text of a mark. -/
def mtx (k : Int) : ByteArray := if k ≤ 0 then ⟨#[109, 48]⟩ else ⟨#[109]⟩ ++ digs k.toNat k.toNat ⟨#[]⟩

theorem markTextD_c (k : Int) (w : World) (h0 : 0 ≤ k) (h1 : k ≤ 4611686018427387904) :
    Calls Tryz.prog 44 #[.int .i64 k] w fun e w' => e = .returned (.string (mtx k)) ∧ Grew w w' := by
  unfold mtx
  by_cases hk : k ≤ 0
  · rw [if_pos hk]
    go_enter Tryz.func44, Tryz.ntmps44
    go_wp2_with fail
    go_ret
    exact ⟨rfl, Grew.refl _⟩
  · rw [if_neg hk]
    obtain ⟨M, hM⟩ : ∃ M, M = (⟨#[109]⟩ : ByteArray) ++ digs k.toNat k.toNat ⟨#[]⟩ := ⟨_, rfl⟩
    rw [← hM]
    obtain ⟨n, rfl⟩ : ∃ n : Nat, k = (n : Int) := ⟨k.toNat, by omega⟩
    rw [Int.toNat_natCast] at hM
    have HM := Lib.hid hM
    have HST := Lib.hid (fun f m (h : 0 < m) z => @digs_step f m h z)
    have HZ := Lib.hid (fun f z => digs_zero f z)
    clear hM
    go_enter Tryz.func44, Tryz.ntmps44
    go_wp2_with fail
    go_loopw [0, 3] (fun kk s wr => ∃ (m f : Nat) (z : ByteArray), m ≤ f ∧ (z.size : Int) + m ≤ 4611686018427387904 ∧ kk = .int .i64 m ∧ s = .string z ∧ Grew w wr ∧ Hid (M = (⟨#[109]⟩ : ByteArray) ++ digs f m z)) (fun kk _ _ => (intOf kk).toNat)
    case atStart => exact ⟨n, n, ⟨#[]⟩, Nat.le_refl _, by show ((0 : Nat) : Int) + n ≤ _; omega, rfl, rfl, Grew.refl _, HM.out⟩
    case round =>
      obtain ⟨m, f, z, hm0, hm1, rfl, rfl, hB, HJ⟩ := hrel
      by_cases hp : 0 < m
      · obtain ⟨g, rfl⟩ : ∃ g, f = g + 1 := ⟨f - 1, by omega⟩
        have hcv := conv_one
        have hs1 : ∀ Y, (strOfNums [Y]).size = 1 := fun Y => by rw [strOfNums_size]; rfl
        have hne : ∀ o, Grew w (wr.alloc o) := fun o => hB.alloc o
        have hv : Hid (M = (⟨#[109]⟩ : ByteArray) ++ digs g (m / 10) (strOfNums [((48 + m % 10 : Nat) : Int)] ++ z)) := Lib.hid (by rw [HJ.out, HST.out g m hp])
        clear HM HJ
        go_wp2_with fail
        go_roundw
        case rel => exact ⟨m / 10, g, _, by omega, by rw [ByteArray.size_append, hs1]; omega, by go_num, rfl, hne _, hv.out⟩
        case measure => simp [intOf]; omega
      · obtain rfl : m = 0 := by omega
        have hv : Hid (M = (⟨#[109]⟩ : ByteArray) ++ z) := Lib.hid (by rw [HJ.out, HZ.out])
        go_wp2_with fail
        go_ret
        exact ⟨by rw [hv.out]; rfl, hB⟩
end Go.Proofs.YtofeeenjlaljpaaGreat

/- The laws' marks on lists of strings. -/
namespace Go.Proofs.YtofeeenjlaljpaaGreat
open Go.RowKit

theorem markText_c (k : Int) (w : World) (h0 : 0 ≤ k) (h1 : k ≤ 4611686018427387904) :
    Calls Tryz.prog 44 #[.int .i64 k] w fun e w' => ∃ s, e = .returned (.string s) ∧ Grew w w' :=
  (markTextD_c k w h0 h1).mono fun _ _ ⟨h, hg⟩ => ⟨_, h, hg⟩
/-- markStringS writes into a row of the call's own. -/
theorem markStringS_c (v : Value) (L : List ByteArray) (B : Nat) (k : Int) (w : World) (h : OwnS w B v L) (hk0 : 0 ≤ k) (hk : k ≤ 1099511627776) (hn : L.length ≤ 1048576) :
    Calls Tryz.prog 17 #[v, .int .i64 k] w fun e w' => e = .returned (.int .i64 (k + L.length)) ∧ (∀ g, v.ownBlock = some g → Only g w w') ∧ (v.ownBlock = none → Grew w w') := by
  rcases h.2 with ⟨rfl, h0⟩ | ⟨g, c, cur0, rfl, hB, hh0, hnc, hcm, hcs0, _⟩
  · have hL : L.length = 0 := by simpa using h0
    rw [hL]
    clear h h0
    go_enter Tryz.func17, Tryz.ntmps17
    go_wp2_with fail
    refine wp_loop_rounds 1 ?_; rw [rounds_succ]
    go_wp2_with fail
    go_ret
    exact ⟨by simp, fun _ _ => Only.refl _ _, fun _ => Grew.refl _⟩
  · clear h
    generalize hN : L.length = n at *
    clear hN
    go_enter Tryz.func17, Tryz.ntmps17
    go_wp2_with fail
    go_loopw [1, 5] (fun kk i wr => ∃ (j : Nat) (cur : Array Value), j ≤ n ∧ i = .int .i64 j ∧ kk = .int .i64 (k + (j : Int)) ∧ wr.heap[g]? = some (.cells cur 9 (0, 0)) ∧ cur.size = c * 1 ∧ Only g w wr) (fun _ i _ => n - (intOf i).toNat)
    case atStart => exact ⟨0, cur0, Nat.zero_le _, rfl, by simp, hh0, hcs0, Only.refl _ _⟩
    case round =>
      obtain ⟨j, cur, hj, rfl, rfl, hh, hcs, ho⟩ := hrel
      by_cases hlt : j < n
      · have HH := Lib.hid hh
        clear hh
        go_wp2_with fail
        refine (markText_c _ _ (by omega) (by omega)).mono ?_
        rintro e w1 ⟨s, rfl, hg1⟩
        have hh1 := (hg1.block (blk_lt HH.out)).trans HH.out
        have f1 : w1.frozen? ⟨g, j, none⟩ = false := blk_frozen hh1 j
        obtain ⟨u1, hu1⟩ : ∃ u, w1.cell? ⟨g, j, none⟩ = some u := by
          rw [blk_cell hh1]
          exact ⟨_, Array.getElem?_eq_getElem (by omega)⟩
        have HH1 := Lib.hid hh1
        clear hh1
        go_wp2_with fail
        go_roundw
        case rel => exact ⟨j + 1, _, by omega, by go_num, by go_num, blk_set HH1.out _ _, by simp [hcs], (ho.grew hg1).setCell _⟩
        case measure => simp [intOf]; omega
      · obtain rfl : j = n := by omega
        have HH := Lib.hid hh
        clear hh
        go_wp2_with fail
        go_ret
        exact ⟨rfl, fun g' hg' => by simp [Value.ownBlock] at hg'; subst hg'; exact ho, fun hg' => by simp [Value.ownBlock] at hg'⟩
end Go.Proofs.YtofeeenjlaljpaaGreat

/- The laws' marks on lists of strings, in the form that the laws' walks use. -/
namespace Go.Proofs.YtofeeenjlaljpaaGreat
open Go.RowKit

theorem markStringS_w (v : Value) (L : List ByteArray) (B : Nat) (k : Int) (w : World) (h : OwnS w B v L) (hk0 : 0 ≤ k) (hk : k ≤ 1099511627776) (hn : L.length ≤ 1048576) :
    Calls Tryz.prog 17 #[v, .int .i64 k] w fun e w' => e = .returned (.int .i64 (k + L.length)) ∧ w.grownBy w' v.ownBlock :=
  (markStringS_c v L B k w h hk0 hk hn).mono fun _ _ ⟨h1, h2, h3⟩ => ⟨h1, row_of h2 h3⟩
end Go.Proofs.YtofeeenjlaljpaaGreat

/- The laws' marks on a list of strings that is read again: what markStringS leaves, heldStringS. -/
namespace Go.Proofs.YtofeeenjlaljpaaGreat
open Go.RowKit

def smarks (k : Int) (n : Nat) : List ByteArray := (List.range n).map fun i : Nat => mtx (k + (i : Int))
theorem smarks_length (k : Int) (n : Nat) : (smarks k n).length = n := by simp [smarks]
theorem smarks_st {k : Int} {n i : Nat} (h : i < n) : st (smarks k n) i = mtx (k + (i : Int)) := by simp [smarks, st, List.getD, h]

theorem markStringS_m (v : Value) (xs : List ByteArray) (B : Nat) (k : Int) (w : World) (h : OwnS w B v xs) (hk0 : 0 ≤ k) (hk : k ≤ 2305843009213693952) (hn : xs.length ≤ 1048576) :
    Calls Tryz.prog 17 #[v, .int .i64 k] w fun e w' => e = .returned (.int .i64 (k + xs.length)) ∧ OwnS w' B v (smarks k xs.length) ∧ w.grownBy w' v.ownBlock := by
  rcases h.2 with ⟨rfl, h0⟩ | ⟨g, c, cur0, rfl, hB, hh0, hnc, hcm, hcs0, _⟩
  · have hL : xs.length = 0 := by simpa using h0
    rw [hL]
    clear h h0
    go_enter Tryz.func17, Tryz.ntmps17
    go_wp2_with fail
    refine wp_loop_rounds 1 ?_; rw [rounds_succ]
    go_wp2_with fail
    go_ret
    exact ⟨by simp, by simpa [smarks] using OwnS.nil_ _ _, World.grownBy.refl _ _⟩
  · have hend : ∀ cur w', w'.heap[g]? = some (.cells cur 9 (0, 0)) → cur.size = c * 1 → (∀ i, i < xs.length → cur[i]? = some (.string (mtx (k + (i : Int))))) → OwnS w' B (.slice (some ⟨g, 0, none⟩) xs.length c) (smarks k xs.length) := by
      intro cur w' h1 h2 h3
      have := OwnS.mk_ (w := w') (B := B) (L := smarks k xs.length) (g := g) (c := c) (cur := cur) hB h1 (by rw [smarks_length]; exact hnc) hcm (by omega) (fun i hi => by
        rw [smarks_length] at hi
        rw [smarks_st hi]
        exact h3 i hi)
      rw [smarks_length] at this
      exact this
    generalize hN : xs.length = n at *
    clear hN h
    have HE := Lib.hid hend
    clear hend
    go_enter Tryz.func17, Tryz.ntmps17
    go_wp2_with fail
    go_loopw [1, 5] (fun kk i wr => ∃ (j : Nat) (cur : Array Value), j ≤ n ∧ i = .int .i64 j ∧ kk = .int .i64 (k + (j : Int)) ∧ wr.heap[g]? = some (.cells cur 9 (0, 0)) ∧ cur.size = c * 1 ∧ Only g w wr ∧ Hid (∀ i, i < j → cur[i]? = some (.string (mtx (k + (i : Int)))))) (fun _ i _ => n - (intOf i).toNat)
    case atStart => exact ⟨0, cur0, Nat.zero_le _, rfl, by simp, hh0, hcs0, Only.refl _ _, fun i hi => absurd hi (by omega)⟩
    case round =>
      obtain ⟨j, cur, hj, rfl, rfl, hh, hcs, ho, HC⟩ := hrel
      by_cases hlt : j < n
      · have HS := Lib.hid (one_step (F := fun i => .string (mtx (k + (i : Int)))) (j := j) (by omega) HC.out)
        have HH := Lib.hid hh
        clear hh
        go_wp2_with fail
        refine (markTextD_c (k + (j : Int)) _ (by omega) (by omega)).mono ?_
        rintro e w1 ⟨rfl, hg1⟩
        have hh1 := (hg1.block (blk_lt HH.out)).trans HH.out
        have f1 : w1.frozen? ⟨g, j, none⟩ = false := blk_frozen hh1 j
        obtain ⟨u1, hu1⟩ : ∃ u, w1.cell? ⟨g, j, none⟩ = some u := by
          rw [blk_cell hh1]
          exact ⟨_, Array.getElem?_eq_getElem (by omega)⟩
        have HH1 := Lib.hid hh1
        clear hh1
        go_wp2_with fail
        go_roundw
        case rel => exact ⟨j + 1, _, by omega, by go_num, by go_num, blk_set HH1.out _ _, by simp [hcs], (ho.grew hg1).setCell _, HS.out⟩
        case measure => simp [intOf]; omega
      · obtain rfl : j = n := by omega
        have HH := Lib.hid hh
        clear hh
        go_wp2_with fail
        go_ret
        exact ⟨rfl, HE.out _ _ HH.out hcs HC.out, ho⟩

/-- heldStringS finds the marks that stand there. -/
theorem heldStringS_c (v : Value) (n : Nat) (k : Int) (w : World) (h : Strs w v (smarks k n)) (hk0 : 0 ≤ k) (hk : k ≤ 2305843009213693952) (hn : n ≤ 1048576) :
    Calls Tryz.prog 18 #[v, .int .i64 k] w fun e w' => e = .returned (.int .i64 (k + n)) ∧ Grew w w' := by
  have hl := smarks_length k n
  rcases h.open_ with ⟨rfl, h0⟩ | ⟨b, o, c, rfl, hc, hm, hb, hf⟩
  · obtain rfl : n = 0 := by rw [h0] at hl; simpa using hl.symm
    go_enter Tryz.func18, Tryz.ntmps18
    go_wp2_with fail
    refine wp_loop_rounds 1 ?_; rw [rounds_succ]
    go_wp2_with fail
    go_ret
    exact ⟨by simp, Grew.refl _⟩
  · rw [hl] at hc hf ⊢
    clear hl h
    have HF : Hid (∀ i, i < n → ∀ W, Grew w W → W.cell? ⟨b, o + i, none⟩ = some (.string (mtx (k + (i : Int))))) := Lib.hid fun i hi W hW => by
      have := hf i hi W hW
      rwa [smarks_st hi] at this
    clear hf
    go_enter Tryz.func18, Tryz.ntmps18
    go_wp2_with fail
    go_loopw [1, 5] (fun kk i wr => ∃ (j : Nat), j ≤ n ∧ i = .int .i64 j ∧ kk = .int .i64 (k + (j : Int)) ∧ Grew w wr) (fun _ i _ => n - (intOf i).toNat)
    case atStart => exact ⟨0, Nat.zero_le _, rfl, by simp, Grew.refl _⟩
    case round =>
      obtain ⟨j, hj, rfl, rfl, hB⟩ := hrel
      by_cases hlt : j < n
      · have k1 : ∀ W, Grew w W → W.cell? ⟨b, o + j, none⟩ = some (.string (mtx (k + (j : Int)))) := fun W hW => HF.out j hlt W hW
        have HMT := Lib.hid (fun W => markTextD_c (k + (j : Int)) W (by omega) (by omega))
        generalize mtx (k + (j : Int)) = z at *
        have hz : (z.toList != z.toList) = false := by simp
        have hrr := hB
        have hdr := hB.drew
        go_wp2_with fail
        go_region_held3 (fun w' => Grew w w') (with_reducible assumption)
          (first | (go_at_call 44; refine (HMT.out _).mono ?_; rintro e w1 ⟨rfl, hg1⟩; have hk1 : Grew w w1 := hdr.trans hg1))
        go_wp2_with fail
        go_roundw
        case rel => exact ⟨j + 1, by omega, by go_num, by go_num, hk1⟩
        case measure => simp [intOf]; omega
      · obtain rfl : j = n := by omega
        go_wp2_with fail
        go_ret
        exact ⟨rfl, by assumption⟩
end Go.Proofs.YtofeeenjlaljpaaGreat

/- The laws' marks on slices of int64. -/
namespace Go.Proofs.YtofeeenjlaljpaaGreat
open Go.RowKit

def imarks (k : Int) (n : Nat) : List Int := (List.range n).map fun i : Nat => k + (i : Int)
theorem imarks_length (k : Int) (n : Nat) : (imarks k n).length = n := by simp [imarks]
theorem imarks_at {k : Int} {n i : Nat} (h : i < n) : it (imarks k n) i = k + i := by simp [imarks, it, List.getD, h]

theorem markInt64S_c (v : Value) (L : List Int) (B : Nat) (k : Int) (w : World) (h : OwnI w B v L) (hk0 : 0 ≤ k) (hk : k ≤ 4611686018427387904) (hn : L.length ≤ 1099511627776) :
    Calls Tryz.prog 22 #[v, .int .i64 k] w fun e w' => e = .returned (.int .i64 (k + L.length)) ∧ OwnI w' B v (imarks k L.length) ∧ w.grownBy w' v.ownBlock := by
  rcases h.2 with ⟨rfl, h0⟩ | ⟨g, c, cur0, rfl, hB, hh0, hnc, hcm, hcs0, _⟩
  · have hL : L.length = 0 := by simpa using h0
    rw [hL]
    clear h h0
    go_enter Tryz.func22, Tryz.ntmps22
    go_wp2_with fail
    refine wp_loop_rounds 1 ?_; rw [rounds_succ]
    go_wp2_with fail
    go_ret
    exact ⟨by simp, by simpa [imarks] using OwnI.nil_ _ _, World.grownBy.refl _ _⟩
  · have hend : ∀ cur w', w'.heap[g]? = some (.cells cur 2 (0, 0)) → cur.size = c → (∀ i, i < L.length → cur[i]? = some (.int .i64 (k + (i : Int)))) → OwnI w' B (.slice (some ⟨g, 0, none⟩) L.length c) (imarks k L.length) := by
      intro cur w' h1 h2 h3
      have := OwnI.mk_ (w := w') (B := B) (L := imarks k L.length) (g := g) (c := c) (cur := cur) hB h1 (by rw [imarks_length]; exact hnc) hcm h2 (fun i hi => by
        rw [imarks_length] at hi
        rw [imarks_at hi]
        exact h3 i hi)
      rw [imarks_length] at this
      exact this
    generalize hN : L.length = n at *
    clear hN h
    have HE := Lib.hid hend
    clear hend
    go_enter Tryz.func22, Tryz.ntmps22
    go_wp2_with fail
    go_loopw [1, 5] (fun kk i wr => ∃ (j : Nat) (cur : Array Value), j ≤ n ∧ i = .int .i64 j ∧ kk = .int .i64 (k + (j : Int)) ∧ wr.heap[g]? = some (.cells cur 2 (0, 0)) ∧ cur.size = c ∧ Only g w wr ∧ (∀ i, i < j → cur[i]? = some (.int .i64 (k + (i : Int))))) (fun _ i _ => n - (intOf i).toNat)
    case atStart => exact ⟨0, cur0, Nat.zero_le _, rfl, by simp, hh0, by omega, Only.refl _ _, fun i hi => absurd hi (by omega)⟩
    case round =>
      obtain ⟨j, cur, hj, rfl, rfl, hh, hcs, ho, hc⟩ := hrel
      have HC := Lib.hid hc
      clear hc
      by_cases hlt : j < n
      · have f1 : wr.frozen? ⟨g, j, none⟩ = false := blk_frozen hh j
        obtain ⟨u1, hu1⟩ : ∃ u, wr.cell? ⟨g, j, none⟩ = some u := by
          rw [blk_cell hh]
          exact ⟨_, Array.getElem?_eq_getElem (by omega)⟩
        have HH := Lib.hid hh
        clear hh
        go_wp2_with fail
        go_roundw
        case rel => exact ⟨j + 1, _, by omega, by go_num, by go_num, blk_set HH.out _ _, by simp [hcs], ho.setCell _, one_stepI (F := fun i => .int .i64 (k + (i : Int))) (by omega) HC.out⟩
        case measure => simp [intOf]; omega
      · obtain rfl : j = n := by omega
        have HH := Lib.hid hh
        clear hh
        go_wp2_with fail
        go_ret
        exact ⟨rfl, HE.out _ _ HH.out hcs HC.out, ho⟩

theorem heldInt64S_c (v : Value) (n : Nat) (k : Int) (w : World) (h : Ints w v (imarks k n)) (hk0 : 0 ≤ k) (hk : k ≤ 4611686018427387904) (hn : n ≤ 1099511627776) :
    Calls Tryz.prog 23 #[v, .int .i64 k] w fun e w' => e = .returned (.int .i64 (k + n)) ∧ Grew w w' := by
  have hat := fun i => @imarks_at k n i
  rcases h.open_ with ⟨rfl, h0⟩ | ⟨b, o, c, rfl, hc, hm, hb, hcell⟩
  · have hn0 : n = 0 := by have := congrArg List.length h0; rw [imarks_length] at this; simpa using this
    subst hn0
    clear h h0 hat
    go_enter Tryz.func23, Tryz.ntmps23
    go_wp2_with fail
    refine wp_loop_rounds 1 ?_; rw [rounds_succ]
    go_wp2_with fail
    go_ret
    exact ⟨by simp, Grew.refl _⟩
  · rw [imarks_length] at hc hcell ⊢
    have HC : Hid (∀ i, i < n → ∀ W, Grew w W → W.cell? ⟨b, o + i, none⟩ = some (.int .i64 (k + (i : Int)))) := Lib.hid (fun i hi W hW => by rw [← hat i hi]; exact hcell i hi W hW)
    clear h hcell hat
    go_enter Tryz.func23, Tryz.ntmps23
    go_wp2_with fail
    go_loopw [1, 5] (fun kk i wr => ∃ j : Nat, j ≤ n ∧ i = .int .i64 j ∧ kk = .int .i64 (k + (j : Int)) ∧ Grew w wr) (fun _ i _ => n - (intOf i).toNat)
    case atStart => exact ⟨0, Nat.zero_le _, rfl, by simp, Grew.refl _⟩
    case round =>
      obtain ⟨j, hj, rfl, rfl, hB⟩ := hrel
      by_cases hlt : j < n
      · have k1 := HC.out j hlt _ hB
        have hq : (k + (j : Int) != k + (j : Int)) = false := by simp
        go_wp2_with fail
        go_roundw
        case rel => exact ⟨j + 1, by omega, by go_num, by go_num, hB⟩
        case measure => simp [intOf]; omega
      · obtain rfl : j = n := by omega
        go_wp2_with fail
        go_ret
        exact ⟨rfl, hB⟩
/-- The forms that the laws' walks use. -/
theorem markInt64S_w (v : Value) (L : List Int) (B : Nat) (k : Int) (w : World) (h : OwnI w B v L) (hk0 : 0 ≤ k) (hk : k ≤ 1099511627776) (hn : L.length ≤ 1048576) :
    Calls Tryz.prog 22 #[v, .int .i64 k] w fun e w' => e = .returned (.int .i64 (k + L.length)) ∧ w.grownBy w' v.ownBlock :=
  (markInt64S_c v L B k w h hk0 (by omega) (by omega)).mono fun _ _ ⟨h1, _, h3⟩ => ⟨h1, h3⟩
theorem markInt64S_m (v : Value) (L : List Int) (B : Nat) (k : Int) (w : World) (h : OwnI w B v L) (hk0 : 0 ≤ k) (hk : k ≤ 1099511627776) (hn : L.length ≤ 1048576) :
    Calls Tryz.prog 22 #[v, .int .i64 k] w fun e w' => e = .returned (.int .i64 (k + L.length)) ∧ OwnI w' B v (imarks k L.length) ∧ w.grownBy w' v.ownBlock :=
  markInt64S_c v L B k w h hk0 (by omega) (by omega)
end Go.Proofs.YtofeeenjlaljpaaGreat

/- The laws' marks on rows of steps: markDeductionS, heldDeductionS. -/
namespace Go.Proofs.YtofeeenjlaljpaaGreat
open Go.RowKit

def dd0 : Dd := (0, [], [], ByteArray.empty, 0)
/-- The number at which the marks of the j-th step begin. -/
def dk (k : Int) (xs : List Dd) : Nat → Int
  | 0 => k
  | j + 1 => dk k xs j + 3 + ((xs.getD j dd0).2.1.length : Int) + ((xs.getD j dd0).2.2.1.length : Int)
theorem dk_zero (k : Int) (xs : List Dd) : dk k xs 0 = k := rfl
theorem dk_succ {k : Int} {xs : List Dd} {j : Nat} {x : Dd} (h : xs[j]? = some x) : dk k xs (j + 1) = dk k xs j + 3 + (x.2.1.length : Int) + (x.2.2.1.length : Int) := by
  rw [dk]
  simp [List.getD, h]
theorem dk_le {k : Int} {xs : List Dd} (hf : FitsDd xs) : ∀ j, j ≤ xs.length → k ≤ dk k xs j ∧ dk k xs j ≤ k + 2097155 * (j : Int) := by
  intro j
  induction j with
  | zero => intro _; rw [dk_zero]; omega
  | succ j ih =>
    intro hj
    obtain ⟨h1, h2⟩ := ih (by omega)
    have hx : xs[j]? = some xs[j] := List.getElem?_eq_getElem (by omega)
    obtain ⟨f1, f2, _⟩ := hf xs[j] (List.getElem_mem (by omega))
    rw [dk_succ hx]
    omega
/-- A step with marks from k on. -/
def dmk (k : Int) (x : Dd) : Dd := (k, imarks (k + 1) x.2.1.length, smarks (k + 1 + x.2.1.length) x.2.2.1.length, mtx (k + 1 + x.2.1.length + x.2.2.1.length), k + 1 + x.2.1.length + x.2.2.1.length + 1)
/-- The steps of which the first j bear marks. -/
def mixl (k : Int) (xs : List Dd) (j : Nat) : List Dd := (List.range xs.length).map fun i => if i < j then dmk (dk k xs i) (xs.getD i dd0) else xs.getD i dd0
theorem mixl_len (k : Int) (xs : List Dd) (j : Nat) : (mixl k xs j).length = xs.length := by simp [mixl]
theorem mixl_at {k : Int} {xs : List Dd} {i j : Nat} {x : Dd} (h : xs[i]? = some x) : (mixl k xs j)[i]? = some (if i < j then dmk (dk k xs i) x else x) := by
  have hi := (List.getElem?_eq_some_iff.1 h).1
  unfold mixl
  rw [List.getElem?_map, List.getElem?_range hi]
  have e : xs.getD i dd0 = x := by simp [List.getD, h]
  simp only [Option.map_some, e]
theorem mixl_zero (k : Int) (xs : List Dd) : mixl k xs 0 = xs := by
  apply List.ext_getElem? 
  intro i
  cases h : xs[i]? with
  | none => exact List.getElem?_eq_none (by rw [mixl_len]; exact List.getElem?_eq_none_iff.1 h)
  | some x => rw [mixl_at h, if_neg (by omega)]
def ddmarks (k : Int) (xs : List Dd) : List Dd := mixl k xs xs.length
theorem ddmarks_len (k : Int) (xs : List Dd) : (ddmarks k xs).length = xs.length := mixl_len k xs _
theorem ddmarks_at {k : Int} {xs : List Dd} {i : Nat} {x : Dd} (h : xs[i]? = some x) : (ddmarks k xs)[i]? = some (dmk (dk k xs i) x) := by
  unfold ddmarks
  rw [mixl_at h, if_pos (List.getElem?_eq_some_iff.1 h).1]

theorem own_types {w : World} {B B' : Nat} {e e' : TypeId} {k n k' n' : Nat} {v v' : Value} {xs xs' : List Value} (h : w.ownsRow B e k v n xs) (h' : w.ownsRow B' e' k' v' n' xs') (hne : e ≠ e') : Apart v v' := by
  intro g hg hg'
  rcases h'.2 with ⟨rfl, _⟩ | ⟨g', cap, cur, rfl, _, hh, _⟩
  · simp [Value.ownBlock] at hg'
  · have : g' = g := by simpa [Value.ownBlock] using hg'
    subst this
    exact own_ne h hh hne hg
/-- A row keeps its place while an apart one is written. -/
theorem own_apart {w w' : World} {B : Nat} {e : TypeId} {k n : Nat} {v r : Value} {xs : List Value} (h : w.ownsRow B e k v n xs) (hg : w.grownBy w' r.ownBlock) (ha : Apart r v) : w'.ownsRow B e k v n xs := own_row h hg ha
theorem tS_D : 9 ≠ 50 := by decide
theorem tI_D : 2 ≠ 50 := by decide
theorem tI_S : 2 ≠ 9 := by decide

theorem Dx.at1 {w : World} {lo hi n g j i : Nat} {ys : List Dd} {cur : Array Value} {ps us : Nat → Value} {x : Dd} {u : Value} (h : Dx w lo hi ys n cur ps us) (hh : w.heap[g]? = some (.cells cur 50 (0, 0))) (hj : j < n) (hx : ys[j]? = some x) :
    OwnI (w.setCell ⟨g, i, none⟩ u) lo (ps j) x.2.1 ∧ OwnS (w.setCell ⟨g, i, none⟩ u) lo (us j) x.2.2.1 := by
  obtain ⟨_, k2, k3⟩ := h.rows j x hj hx
  have ho : Only g w (w.setCell ⟨g, i, none⟩ u) := (Only.refl g w).setCell u
  exact ⟨own_only k2 ho (own_ne k2 hh tI_D), own_only k3 ho (own_ne k3 hh tS_D)⟩
theorem Dx.mark {w wb wc wd W : World} {lo hi n g j i : Nat} {ys ys' : List Dd} {cur cur' : Array Value} {ps us : Nat → Value} {x x' : Dd} {u : Value} (h : Dx w lo hi ys n cur ps us) (hh : w.heap[g]? = some (.cells cur 50 (0, 0))) (hj : j < n) (hx : ys[j]? = some x) (hx' : ys'[j]? = some x') (hys : ∀ i, i ≠ j → ys'[i]? = ys[i]?)
    (hb : (w.setCell ⟨g, i, none⟩ u).grownBy wb (ps j).ownBlock) (hP : OwnI wb lo (ps j) x'.2.1) (hc : wb.grownBy wc (us j).ownBlock) (hS : OwnS wc lo (us j) x'.2.2.1) (hd : Grew wc wd) (hW : Only g wd W) (hg : wd.heap[g]? = some (.cells cur' 50 (0, 0)))
    {curW : Array Value} (hn : DdRow curW (j * 5) x' (ps j) (us j)) (hk : ∀ i y up ua, i ≠ j → DdRow cur (i * 5) y up ua → DdRow curW (i * 5) y up ua) : Dx W lo hi ys' n curW ps us := by
  obtain ⟨b2, b3⟩ := h.at1 (i := i) (u := u) hh hj hx
  have c3 : OwnS wb lo (us j) x.2.2.1 := own_apart b3 hb (own_types b2 b3 tI_S)
  have hPc : OwnI wc lo (ps j) x'.2.1 := own_apart hP hc ((own_types hP c3 tI_S).symm)
  have hPd := hPc.grew hd
  have hSd := hS.grew hd
  refine ⟨fun k y hk1 hy => ?_, h.hiP, h.hiS, h.apP, h.apS⟩
  by_cases hkj : k = j
  · subst hkj
    have e : y = x' := Option.some.inj (hy.symm.trans hx')
    subst e
    exact ⟨hn, own_only hPd hW (own_ne hPd hg tI_D), own_only hSd hW (own_ne hSd hg tS_D)⟩
  · rw [hys k hkj] at hy
    obtain ⟨k1, _, _⟩ := h.rows k y hk1 hy
    obtain ⟨d2, d3⟩ := h.at1 (i := i) (u := u) hh hk1 hy
    have apP : Apart (ps j) (ps k) := by
      rcases Nat.lt_or_ge j k with h1 | h1
      · exact h.apP j k h1 hk1
      · exact (h.apP k j (by omega) hj).symm
    have apS : Apart (us j) (us k) := by
      rcases Nat.lt_or_ge j k with h1 | h1
      · exact h.apS j k h1 hk1
      · exact (h.apS k j (by omega) hj).symm
    have e2 : OwnI wb lo (ps k) y.2.1 := own_apart d2 hb apP
    have e3 : OwnS wb lo (us k) y.2.2.1 := own_apart d3 hb (own_types b2 d3 tI_S)
    have f2 : OwnI wc lo (ps k) y.2.1 := own_apart e2 hc ((own_types e2 c3 tI_S).symm)
    have f3 : OwnS wc lo (us k) y.2.2.1 := own_apart e3 hc apS
    have g2 := f2.grew hd
    have g3 := f3.grew hd
    exact ⟨hk k y _ _ hkj k1, own_only g2 hW (own_ne g2 hg tI_D), own_only g3 hW (own_ne g3 hg tS_D)⟩

/-- The row's cells behind the marks of a step. -/
theorem row_new {cur : Array Value} {j : Nat} {x : Dd} {up ua : Value} (r c n : Value) (x' : Dd) (h : DdRow cur (j * 5) x up ua) (hs : j * 5 + 4 < cur.size) (hr : r = .int .i64 x'.1) (hc : c = .string x'.2.2.2.1) (hn : n = .int .i64 x'.2.2.2.2) :
    DdRow (((cur.setIfInBounds (j * 5) r).setIfInBounds (j * 5 + 3) c).setIfInBounds (j * 5 + 4) n) (j * 5) x' up ua := by
  obtain ⟨h0, h1, h2, h3, h4⟩ := h
  subst hr hc hn
  unfold DdRow
  simp only [Array.getElem?_setIfInBounds, Array.size_setIfInBounds]
  refine ⟨?_, ?_, ?_, ?_, ?_⟩
  · rw [if_neg (by omega), if_neg (by omega), if_pos trivial, if_pos (by omega)]
  · rw [if_neg (by omega), if_neg (by omega), if_neg (by omega)]; exact h1
  · rw [if_neg (by omega), if_neg (by omega), if_neg (by omega)]; exact h2
  · rw [if_neg (by omega), if_pos trivial, if_pos (by omega)]
  · rw [if_pos trivial, if_pos (by omega)]
theorem row_keep {cur : Array Value} {i j : Nat} {y : Dd} {up ua r c n : Value} (hij : i ≠ j) (h : DdRow cur (i * 5) y up ua) : DdRow (((cur.setIfInBounds (j * 5) r).setIfInBounds (j * 5 + 3) c).setIfInBounds (j * 5 + 4) n) (i * 5) y up ua := by
  obtain ⟨h0, h1, h2, h3, h4⟩ := h
  unfold DdRow
  simp only [Array.getElem?_setIfInBounds, Array.size_setIfInBounds]
  refine ⟨?_, ?_, ?_, ?_, ?_⟩
  · rw [if_neg (by omega), if_neg (by omega), if_neg (by omega)]; exact h0
  · rw [if_neg (by omega), if_neg (by omega), if_neg (by omega)]; exact h1
  · rw [if_neg (by omega), if_neg (by omega), if_neg (by omega)]; exact h2
  · rw [if_neg (by omega), if_neg (by omega), if_neg (by omega)]; exact h3
  · rw [if_neg (by omega), if_neg (by omega), if_neg (by omega)]; exact h4

set_option maxHeartbeats 4000000 in
theorem markDeductionS_x (v : Value) (xs : List Dd) (lo hi : Nat) (k : Int) (w : World) (h : OwnDx w lo hi v xs) (hf : FitsDd xs) (hk0 : 0 ≤ k) (hk : k ≤ 35184372088832) (hn : xs.length ≤ 1048576) :
    Calls Tryz.prog 16 #[v, .int .i64 k] w fun e w' => e = .returned (.int .i64 (dk k xs xs.length)) ∧ OwnDx w' lo hi v (ddmarks k xs) ∧ Span lo hi w w' := by
  rcases h with ⟨rfl, rfl⟩ | ⟨g, c, cur0, ps, us, rfl, hlo, hhi, hh0, hnc, hcm, hcs0, hD0⟩
  · go_enter Tryz.func16, Tryz.ntmps16
    go_wp2_with fail
    refine wp_loop_rounds 1 ?_; rw [rounds_succ]
    go_wp2_with fail
    go_ret
    exact ⟨rfl, .inl ⟨rfl, rfl⟩, Span.refl _ _ _⟩
  · have HE : Hid (∀ cur w', w'.heap[g]? = some (.cells cur 50 (0, 0)) → cur.size = c * 5 → Dx w' lo hi (mixl k xs xs.length) xs.length cur ps us → OwnDx w' lo hi (.slice (some ⟨g, 0, none⟩) xs.length c) (ddmarks k xs)) := Lib.hid (fun cur w' h1 h2 h3 => .inr ⟨g, c, cur, ps, us, by rw [ddmarks_len], hlo, hhi, h1, by rw [ddmarks_len]; exact hnc, hcm, h2, by rw [ddmarks_len]; exact h3⟩)
    have HX := Lib.hid (fun j (hj : j < xs.length) => (⟨xs[j], List.getElem?_eq_getElem hj, hf _ (List.getElem_mem hj)⟩ : ∃ x, xs[j]? = some x ∧ FitDd x))
    have HL := Lib.hid (fun j (hj : j ≤ xs.length) => @dk_le k xs hf j hj)
    have HS := Lib.hid (fun j x (hx : xs[j]? = some x) => @dk_succ k xs j x hx)
    have HM := Lib.hid (fun i j x (hx : xs[i]? = some x) => @mixl_at k xs i j x hx)
    have HMN : Hid (∀ i j, xs[i]? = none → (mixl k xs j)[i]? = none) := Lib.hid (fun i j h => List.getElem?_eq_none (by rw [mixl_len]; exact List.getElem?_eq_none_iff.1 h))
    have hD1 : Hid (Dx w lo hi (mixl k xs 0) xs.length cur0 ps us) := Lib.hid (by rw [mixl_zero]; exact hD0)
    have hz0 := dk_zero k xs
    have HZ := Lib.hid hz0
    clear hf hD0 hz0
    generalize hN : xs.length = n at *
    have HN := Lib.hid hN
    clear hN
    go_enter Tryz.func16, Tryz.ntmps16
    go_wp2_with fail
    go_loopw [1, 5] (fun kk i wr => ∃ (j : Nat) (cur : Array Value), j ≤ n ∧ i = .int .i64 j ∧ kk = .int .i64 (dk k xs j) ∧ Hid (wr.heap[g]? = some (.cells cur 50 (0, 0))) ∧ cur.size = c * 5 ∧ Hid (Dx wr lo hi (mixl k xs j) n cur ps us) ∧ Hid (Span lo hi w wr)) (fun _ i _ => n - (intOf i).toNat)
    case atStart => exact ⟨0, cur0, Nat.zero_le _, rfl, by rw [HZ.out], hh0, hcs0, hD1, Span.refl _ _ _⟩
    case round =>
      obtain ⟨j, cur, hj, rfl, rfl, HH, hcs, HD, HSp⟩ := hrel
      by_cases hlt : j < n
      · obtain ⟨x, hx, hfx⟩ := HX.out j hlt
        have hmj : (mixl k xs j)[j]? = some x := by rw [HM.out j j x hx, if_neg (by omega)]
        have hmj1 : (mixl k xs (j + 1))[j]? = some (dmk (dk k xs j) x) := by rw [HM.out j (j + 1) x hx, if_pos (by omega)]
        have hmo : ∀ i, i ≠ j → (mixl k xs (j + 1))[i]? = (mixl k xs j)[i]? := fun i hij => by
          cases hxi : xs[i]? with
          | none => rw [HMN.out i _ hxi, HMN.out i _ hxi]
          | some y =>
            rw [HM.out i _ y hxi, HM.out i _ y hxi]
            by_cases hlt2 : i < j
            · rw [if_pos hlt2, if_pos (by omega)]
            · rw [if_neg hlt2, if_neg (by omega)]
        obtain ⟨hb1, hb2⟩ := HL.out j (by omega)
        obtain ⟨hb3, hb4⟩ := HL.out (j + 1) (by omega)
        have hsu := HS.out j x hx
        obtain ⟨f1, f2, _, _⟩ := hfx
        obtain ⟨k1, k2, k3⟩ := HD.out.rows j x hlt hmj
        have hA := HD.out.at1 (i := j * 5) (u := .int .i64 (dk k xs j)) HH.out hlt hmj
        have HK1 := Lib.hid k1
        have HMJ := Lib.hid hmj
        have HMJ1 := Lib.hid hmj1
        have HMO := Lib.hid hmo
        have KI := Lib.hid (markInt64S_c (ps j) x.2.1 lo (dk k xs j + 1) _ hA.1 (by omega) (by omega) (by omega))
        have KS : Hid (∀ W, OwnS W lo (us j) x.2.2.1 → Calls Tryz.prog 17 #[us j, .int .i64 (dk k xs j + 1 + x.2.1.length)] W fun e w' => e = .returned (.int .i64 (dk k xs j + 1 + x.2.1.length + x.2.2.1.length)) ∧ OwnS w' lo (us j) (smarks (dk k xs j + 1 + x.2.1.length) x.2.2.1.length) ∧ W.grownBy w' (us j).ownBlock) := Lib.hid (fun W hW => markStringS_m (us j) x.2.2.1 lo (dk k xs j + 1 + x.2.1.length) W hW (by omega) (by omega) (by omega))
        have KT := Lib.hid (fun W => markTextD_c (dk k xs j + 1 + x.2.1.length + x.2.2.1.length) W (by omega) (by omega))
        have HSU := Lib.hid hsu
        have HA := Lib.hid hA
        have c0 : ∃ u, wr.cell? ⟨g, j * 5, none⟩ = some u := ⟨_, (blk_cell HH.out _).trans k1.1⟩
        obtain ⟨u0, hu0⟩ := c0
        have ff : ∀ i, wr.frozen? ⟨g, i, none⟩ = false := fun i => blk_frozen HH.out i
        have HH1 := Lib.hid (blk_set HH.out (j * 5) (.int .i64 (dk k xs j)))
        have c1 : (wr.setCell ⟨g, j * 5, none⟩ (.int .i64 (dk k xs j))).cell? ⟨g, j * 5 + 1, none⟩ = some (ps j) := (blk_cell HH1.out _).trans (by rw [Array.getElem?_setIfInBounds, if_neg (by omega)]; exact k1.2.1)
        have hpo := HD.out.hiP j
        have hso := HD.out.hiS j
        have HPO := Lib.hid (fun b (hb : (ps j).ownBlock = some b) => hpo b hlt hb)
        have HSO := Lib.hid (fun b (hb : (us j).ownBlock = some b) => hso b hlt hb)
        have nb1 : (ps j).ownBlock ≠ some g := own_ne hA.1 HH1.out tI_D
        have nb2 : (us j).ownBlock ≠ some g := own_ne hA.2 HH1.out tS_D
        have NB1 := Lib.hid nb1
        have NB2 := Lib.hid nb2
        have HP0 := Lib.hid (fun b (hb : (ps j).ownBlock = some b) => own_of_ge k2 hb)
        have HS0 := Lib.hid (fun b (hb : (us j).ownBlock = some b) => own_of_ge k3 hb)
        have hk3 : cur[j * 5 + 2]? = some (us j) := k1.2.2.1
        have HK3 := Lib.hid hk3
        have hjs : j * 5 + 4 < cur.size := by omega
        clear hA k1 k2 k3 hmj hmj1 hmo hsu hpo hso hx nb1 nb2 hk3
        generalize hdj : dk k xs j = dj at *
        have HDJ := Lib.hid hdj
        clear hdj
        generalize hlp : x.2.1.length = lp at *
        have HLP := Lib.hid hlp
        clear hlp
        generalize hls : x.2.2.1.length = ls at *
        have HLS := Lib.hid hls
        clear hls
        generalize hpj : ps j = vp at *
        have HPJ := Lib.hid hpj
        clear hpj
        generalize huj : us j = vu at *
        have HUJ := Lib.hid huj
        clear huj
        go_wp2_with fail
        refine (KI.out).mono ?_
        rintro e wb ⟨rfl, hPb, hbr⟩
        have HPb := Lib.hid hPb
        have HBR := Lib.hid hbr
        have hgb := (hbr.block g (blk_lt HH1.out) (fun e => NB1.out e.symm)).trans HH1.out
        have HGB := Lib.hid hgb
        have c2 : wb.cell? ⟨g, j * 5 + 2, none⟩ = some vu := (blk_cell hgb _).trans (by rw [Array.getElem?_setIfInBounds, if_neg (by omega)]; exact HK3.out)
        have S2 := Lib.hid (own_apart HA.out.2 hbr (own_types HA.out.1 HA.out.2 tI_S))
        clear hPb hbr hgb c1
        go_wp2_with fail
        refine (KS.out _ S2.out).mono ?_
        rintro e wc ⟨rfl, hSc, hcr⟩
        have HSc := Lib.hid hSc
        have HCR := Lib.hid hcr
        have hgc := (hcr.block g (blk_lt HGB.out) (fun e => NB2.out e.symm)).trans HGB.out
        have HGC := Lib.hid hgc
        clear hSc hcr hgc c2
        go_wp2_with fail
        refine (KT.out _).mono ?_
        rintro e wd ⟨rfl, hgd⟩
        have HGD0 := Lib.hid hgd
        have hgd5 := (hgd.block (blk_lt HGC.out)).trans HGC.out
        have fd : ∀ i, wd.frozen? ⟨g, i, none⟩ = false := fun i => blk_frozen hgd5 i
        obtain ⟨u3, hu3⟩ : ∃ u, wd.cell? ⟨g, j * 5 + 3, none⟩ = some u := by
          rw [blk_cell hgd5]
          exact ⟨_, Array.getElem?_eq_getElem (by simp; omega)⟩
        obtain ⟨u4, hu4⟩ : ∃ u, wd.cell? ⟨g, j * 5 + 4, none⟩ = some u := by
          rw [blk_cell hgd5]
          exact ⟨_, Array.getElem?_eq_getElem (by simp; omega)⟩
        have HGD := Lib.hid hgd5
        clear hgd5 hgd ff
        go_wp2_with fail
        go_roundw
        case rel =>
          have hW := (Only.refl g wd).setCell (o := j * 5 + 3) (.string (mtx (dj + 1 + lp + ls)))
          have hW2 := hW.setCell (o := j * 5 + 4) (.int .i64 (dj + 1 + lp + ls + 1))
          refine ⟨j + 1, _, by omega, by go_num, congrArg (Value.int .i64) (by have := HSU.out; omega), blk_set (blk_set HGD.out _ _) _ _, by simp [hcs], ?_, ?_⟩
          · have hm := HMJ1.out
            refine HD.out.mark (x := x) (x' := dmk dj x) (i := j * 5) (u := .int .i64 dj) HH.out hlt HMJ.out hm HMO.out (by rw [HPJ.out]; exact HBR.out) (by rw [HPJ.out]; unfold dmk; rw [HLP.out]; exact HPb.out) (by rw [HUJ.out]; exact HCR.out) (by rw [HUJ.out]; unfold dmk; rw [HLP.out, HLS.out]; exact HSc.out) HGD0.out hW2 HGD.out ?_ (fun i y up ua hij hr => row_keep hij hr)
            rw [HPJ.out, HUJ.out]
            exact row_new _ _ _ (dmk dj x) HK1.out hjs rfl (by unfold dmk; rw [HLP.out, HLS.out]) (by unfold dmk; rw [HLP.out, HLS.out])
          · have s0 : Span lo hi wr (wr.setCell ⟨g, j * 5, none⟩ (.int .i64 dj)) := Span.of_only ((Only.refl g wr).setCell _) hlo hhi
            exact ((((HSp.out.trans s0).trans (Span.of_row HBR.out fun b hb => ⟨HP0.out b hb, HPO.out b hb⟩)).trans (Span.of_row HCR.out fun b hb => ⟨HS0.out b hb, HSO.out b hb⟩)).grew HGD0.out).trans (Span.of_only hW2 hlo hhi)
        case measure => simp [intOf]; omega
      · obtain rfl : j = n := by omega
        have HE1 := Lib.hid (HE.out cur wr HH.out hcs)
        go_wp2_with fail
        go_ret
        exact ⟨rfl, HE1.out HD.out, HSp.out⟩

set_option maxHeartbeats 4000000 in
/-- heldDeductionS finds the marks that stand there. -/
theorem heldDeductionS_c (v : Value) (xs : List Dd) (k : Int) (w : World) (h : Dds w v (ddmarks k xs)) (hf : FitsDd xs) (hk0 : 0 ≤ k) (hk : k ≤ 35184372088832) (hn : xs.length ≤ 1048576) :
    Calls Tryz.prog 26 #[v, .int .i64 k] w fun e w' => e = .returned (.int .i64 (dk k xs xs.length)) ∧ Grew w w' := by
  by_cases hp : 0 < xs.length
  · obtain ⟨b, o, c, rfl, hc, hm, hb, hcell⟩ := DdRd.open_ h (by rw [ddmarks_len]; exact hp)
    rw [ddmarks_len] at hc ⊢
    have HX := Lib.hid (fun j (hj : j < xs.length) => (⟨xs[j], List.getElem?_eq_getElem hj, hf _ (List.getElem_mem hj)⟩ : ∃ x, xs[j]? = some x ∧ FitDd x))
    have HL := Lib.hid (fun j (hj : j ≤ xs.length) => @dk_le k xs hf j hj)
    have HS := Lib.hid (fun j x (hx : xs[j]? = some x) => @dk_succ k xs j x hx)
    have HC := Lib.hid (fun j x (hx : xs[j]? = some x) => hcell j _ (ddmarks_at (k := k) hx))
    have HZ := Lib.hid (dk_zero k xs)
    clear hf h hcell hp
    generalize hN : xs.length = n at *
    clear hN
    go_enter Tryz.func26, Tryz.ntmps26
    go_wp2_with fail
    go_loopw [1, 5] (fun kk i wr => ∃ (j : Nat), j ≤ n ∧ i = .int .i64 j ∧ kk = .int .i64 (dk k xs j) ∧ Grew w wr) (fun _ i _ => n - (intOf i).toNat)
    case atStart => exact ⟨0, Nat.zero_le _, rfl, by rw [HZ.out], Grew.refl _⟩
    case round =>
      obtain ⟨j, hj, rfl, rfl, hB⟩ := hrel
      by_cases hlt : j < n
      · obtain ⟨x, hx, hfx⟩ := HX.out j hlt
        obtain ⟨up, ua, hcs, hI, hS⟩ := HC.out j x hx
        obtain ⟨hb1, hb2⟩ := HL.out j (by omega)
        obtain ⟨hb3, hb4⟩ := HL.out (j + 1) (by omega)
        have HSU := Lib.hid (HS.out j x hx)
        have hsu := HS.out j x hx
        obtain ⟨f1, f2, _, _⟩ := hfx
        have q0 : ∀ W, Grew w W → W.cell? ⟨b, o + j * 5, none⟩ = some (.int .i64 (dk k xs j)) := fun W hW => (hcs W hW).1
        have q1 : ∀ W, Grew w W → W.cell? ⟨b, o + j * 5 + 1, none⟩ = some up := fun W hW => (hcs W hW).2.1
        have q2 : ∀ W, Grew w W → W.cell? ⟨b, o + j * 5 + 2, none⟩ = some ua := fun W hW => (hcs W hW).2.2.1
        have q3 : ∀ W, Grew w W → W.cell? ⟨b, o + j * 5 + 3, none⟩ = some (.string (mtx (dk k xs j + 1 + x.2.1.length + x.2.2.1.length))) := fun W hW => (hcs W hW).2.2.2.1
        have q4 : ∀ W, Grew w W → W.cell? ⟨b, o + j * 5 + 4, none⟩ = some (.int .i64 (dk k xs j + 1 + x.2.1.length + x.2.2.1.length + 1)) := fun W hW => (hcs W hW).2.2.2.2
        have KI := Lib.hid (fun W (hW : Grew w W) => heldInt64S_c up x.2.1.length (dk k xs j + 1) W (hI.grew hW) (by omega) (by omega) (by omega))
        have KS := Lib.hid (fun W (hW : Grew w W) => heldStringS_c ua x.2.2.1.length (dk k xs j + 1 + x.2.1.length) W (hS.grew hW) (by omega) (by omega) (by omega))
        have KT := Lib.hid (fun W => markTextD_c (dk k xs j + 1 + x.2.1.length + x.2.2.1.length) W (by omega) (by omega))
        have hI' := hI
        have hS' := hS
        have eI : (dmk (dk k xs j) x).2.1 = imarks (dk k xs j + 1) x.2.1.length := rfl
        have eS : (dmk (dk k xs j) x).2.2.1 = smarks (dk k xs j + 1 + x.2.1.length) x.2.2.1.length := rfl
        rw [eI] at hI'
        rw [eS] at hS'
        obtain ⟨A1, ca1, rfl⟩ := ints_slice hI'
        obtain ⟨A2, ca2, rfl⟩ := strs_slice hS'
        rw [imarks_length] at *
        rw [smarks_length] at *
        clear hcs hI hS hI' hS' hx eI eS hsu
        generalize dk k xs j = dj at *
        generalize x.2.1.length = lp at *
        generalize x.2.2.1.length = ls at *
        have n1 : (dj != dj) = false := by simp
        have n2 : (dj + 1 + (lp : Int) + (ls : Int) + 1 != dj + 1 + (lp : Int) + (ls : Int) + 1) = false := by simp
        generalize hmt : mtx (dj + 1 + (lp : Int) + (ls : Int)) = z at *
        clear hmt
        have hz : (z.toList != z.toList) = false := by simp
        go_wp2_with fail
        refine (KI.out _ hB).mono ?_
        rintro e w1 ⟨rfl, hg1⟩
        have g1 := hB.trans hg1
        go_wp2_with fail
        refine (KS.out _ g1).mono ?_
        rintro e w2 ⟨rfl, hg2⟩
        have g2 := g1.trans hg2
        have hdr := g2.drew
        go_wp2_with fail
        go_region_held3 (fun w' => Grew w w') (with_reducible assumption)
          (first | (go_at_call 44; refine (KT.out _).mono ?_; rintro e w3 ⟨rfl, hg3⟩; have hk3 : Grew w w3 := hdr.trans hg3))
        go_wp2_with fail
        go_roundw
        case rel => exact ⟨j + 1, by omega, by go_num, congrArg (Value.int .i64) (by have := HSU.out; omega), hk3⟩
        case measure => simp [intOf]; omega
      · obtain rfl : j = n := by omega
        go_wp2_with fail
        go_ret
        exact ⟨rfl, hB⟩
  · obtain rfl : xs = [] := List.eq_nil_of_length_eq_zero (by omega)
    have e0 : ddmarks k [] = [] := rfl
    rw [e0] at h
    obtain ⟨A, c, rfl⟩ := Dds_slice h
    simp only [List.length_nil]
    clear h hf hp hn e0
    go_enter Tryz.func26, Tryz.ntmps26
    go_wp2_with fail
    refine wp_loop_rounds 1 ?_; rw [rounds_succ]
    go_wp2_with fail
    go_ret
    exact ⟨rfl, Grew.refl _⟩
end Go.Proofs.YtofeeenjlaljpaaGreat

/- The smallest formulas, and the formulas of a kind: the program's and the reference's makers. -/
namespace Go.Proofs.YtofeeenjlaljpaaGreat
open Go.RowKit
open Fm (Nd)

/-- The call returns a new list of nodes and changes nothing that was there. -/
def Gives (w : World) (xs : List Nd) (e : Ending) (w' : World) : Prop := ∃ v, e = .returned v ∧ Own w' w.heap.size v xs ∧ Grew w w'

/-- A new block that holds one node. -/
theorem Own.one (w : World) (B : Nat) (k s : Int) (hB : B ≤ w.heap.size) : Own (w.alloc (.cells #[.int .i64 k, .int .i64 s] 87)) B (.slice (some ⟨w.heap.size, 0, none⟩) 1 1) [(k, s)] :=
  Own.lit w B [(k, s)] #[.int .i64 k, .int .i64 s] hB (by simp) rfl

theorem l02Pair_c (k : Int) (va vb : Value) (xs ys : List Nd) (w : World) (ha : Nodes w va xs) (hb : Nodes w vb ys) (hn : xs.length + ys.length ≤ 1099511627775) :
    Calls Tryz.prog 47 #[.int .i64 k, va, vb] w (Gives w (Fm.join k xs ys)) := by
  go_enter Tryz.func47, Tryz.ntmps47
  go_wp2_with (first
    | (at_builtin; refine wpList_app (w0 := w) (.tmp 9) (.tmp 10) rfl rfl _ [(k, 0)] rfl (Own.one w _ k 0 (Nat.le_refl _)) ((Grew.refl w).alloc _) va xs rfl (ha.grew ((Grew.refl w).alloc _)) (by simp; omega) ?_; intro v1 w1 hown1 hg1 _)
    | (at_builtin; refine wpList_app (w0 := w) (.tmp 11) (.tmp 12) rfl rfl _ _ rfl hown1 hg1 vb ys rfl (hb.grew hg1) (by simp; omega) ?_; intro v2 w2 hown2 hg2 _))
  go_ret
  exact ⟨_, rfl, by simpa [Fm.join] using hown2, hg2⟩
theorem l02Pre_c (k : Int) (va : Value) (xs : List Nd) (w : World) (ha : Nodes w va xs) (hn : xs.length ≤ 1099511627775) :
    Calls Tryz.prog 183 #[.int .i64 k, va] w (Gives w (Fm.pre k xs)) := by
  go_enter Tryz.func183, Tryz.ntmps183
  go_wp2_with (first
    | (at_builtin; refine wpList_app (w0 := w) _ _ rfl rfl _ [(k, 0)] rfl (Own.one w _ k 0 (Nat.le_refl _)) ((Grew.refl w).alloc _) va xs rfl (ha.grew ((Grew.refl w).alloc _)) (by simp; omega) ?_; intro v1 w1 hown1 hg1 _))
  go_ret
  exact ⟨_, rfl, by simpa [Fm.pre] using hown1, hg1⟩

theorem l02False_c (w : World) : Calls Tryz.prog 142 #[] w (Gives w Fm.falsum) := by
  have h := Own.one w _ 1 0 (Nat.le_refl _)
  go_enter Tryz.func142, Tryz.ntmps142
  go_wp2_with fail
  go_ret
  exact ⟨_, rfl, h, (Grew.refl w).alloc _⟩

theorem l02Var_c (v : Int) (w : World) : Calls Tryz.prog 181 #[.int .i64 v] w (Gives w (Fm.vari v)) := by
  have h := Own.one w _ 0 v (Nat.le_refl _)
  go_enter Tryz.func181, Tryz.ntmps181
  go_wp2_with fail
  go_ret
  exact ⟨_, rfl, h, (Grew.refl w).alloc _⟩

theorem l02Not_c (va : Value) (xs : List Nd) (w : World) (ha : Nodes w va xs) (hn : xs.length ≤ 1099511627774) :
    Calls Tryz.prog 141 #[va] w (Gives w (Fm.neg xs)) := by
  go_enter Tryz.func141, Tryz.ntmps141
  go_wp2_with fail
  refine (l02False_c _).mono ?_
  rintro e w1 ⟨v1, rfl, ho1, hg1⟩
  go_wp2_with fail
  refine (l02Pair_c _ _ _ xs Fm.falsum _ (ha.grew hg1) ho1.nodes (by simp [Fm.falsum]; omega)).mono ?_
  rintro e w2 ⟨v2, rfl, ho2, hg2⟩
  go_wp2_with fail
  go_ret
  exact ⟨_, rfl, ho2.base hg1.size, hg1.trans hg2⟩

theorem l02True_c (w : World) : Calls Tryz.prog 107 #[] w (Gives w Fm.truth) := by
  go_enter Tryz.func107, Tryz.ntmps107
  go_wp2_with fail
  refine (l02False_c _).mono ?_
  rintro e w1 ⟨v1, rfl, ho1, hg1⟩
  go_wp2_with fail
  refine (l02Not_c _ Fm.falsum _ ho1.nodes (by simp [Fm.falsum])).mono ?_
  rintro e w2 ⟨v2, rfl, ho2, hg2⟩
  go_wp2_with fail
  go_ret
  exact ⟨_, rfl, ho2.base hg1.size, hg1.trans hg2⟩

theorem falsum_c (w : World) : Calls Tryz.prog 178 #[] w (Gives w Fm.falsum) := by
  have h := Own.one w _ 1 0 (Nat.le_refl _)
  go_enter Tryz.func178, Tryz.ntmps178
  go_wp2_with fail
  go_ret
  exact ⟨_, rfl, h, (Grew.refl w).alloc _⟩

theorem truth_c (w : World) : Calls Tryz.prog 179 #[] w (Gives w Fm.truth) := by
  have h := Own.lit w w.heap.size Fm.truth #[.int .i64 4, .int .i64 0, .int .i64 1, .int .i64 0, .int .i64 1, .int .i64 0] (Nat.le_refl _) (by simp [Fm.truth]) rfl
  go_enter Tryz.func179, Tryz.ntmps179
  go_wp2_with fail
  go_ret
  exact ⟨_, rfl, h, (Grew.refl w).alloc _⟩

theorem variable_c (v : Int) (w : World) : Calls Tryz.prog 180 #[.int .i64 v] w (Gives w (Fm.vari v)) := by
  have h := Own.one w _ 0 v (Nat.le_refl _)
  go_enter Tryz.func180, Tryz.ntmps180
  go_wp2_with fail
  go_ret
  exact ⟨_, rfl, h, (Grew.refl w).alloc _⟩

theorem grow_c (n : Nat) (w : World) (hn : n ≤ 1099511627776) :
    Calls Tryz.prog 108 #[.slice none 0 0, .int .i64 n] w (Gives w []) := by
  obtain ⟨i0, hi0, hz0, hz1, hz2⟩ := info_parts Tryz.infoNd
  rcases Nat.eq_zero_or_pos n with rfl | h0
  · go_enter Tryz.func108, Tryz.ntmps108
    go_wp2_with fail
    go_ret
    exact ⟨_, rfl, Own.nil_ _ _, Grew.refl _⟩
  · have hr := fun ty => run_grow_nil (P := Tryz.prog) w 56 3 ty 87 i0 _ 2 Tryz.underlying56 Tryz.underlying3 hi0 hz0 hz1 rfl (by omega) n h0 (by rw [hz2]; omega) (by omega)
    have HR := Lib.hid hr
    clear hr hz0 hz1 hz2 hi0
    go_enter Tryz.func108, Tryz.ntmps108
    go_wp2_with (at_builtin; obtain ⟨G, cs, hG1, hG2, hcs, hrun⟩ := HR.out _; refine Lib.wpList_append_run _ rfl _ _ _ _ rfl _ _ rfl rfl _ _ hrun ?_; have HC := Lib.hid hcs; clear hcs hrun)
    go_ret
    refine ⟨_, rfl, ?_, ((Grew.refl w).alloc _).drew⟩
    exact Own.mk_ (xs := []) (Nat.le_refl _) (blk_new w _) (by simp) hG2 HC.out (by simp)

/-- A slice of k slices of nodes that lies in memory: the j-th reads as L[j]. -/
def Lists (w : World) (v : Value) (L : List (List Nd)) : Prop :=
  (v = .slice none 0 0 ∧ L = []) ∨ ∃ b o c, v = .slice (some ⟨b, o, none⟩) L.length c ∧ L.length ≤ c ∧ c ≤ 9223372036854775807 ∧ b < w.heap.size ∧
    ∀ i, i < L.length → ∃ u, w.cell? ⟨b, o + i, none⟩ = some u ∧ Nodes w u (L.getD i [])
theorem Lists.grew {w w' : World} {v : Value} {L : List (List Nd)} (h : Lists w v L) (hb : Grew w w') : Lists w' v L := by
  rcases h with h | ⟨b, o, c, h1, h2, h3, h4, h5⟩
  · exact .inl h
  · refine .inr ⟨b, o, c, h1, h2, h3, Nat.lt_of_lt_of_le h4 hb.size, fun i hi => ?_⟩
    obtain ⟨u, h6, h7⟩ := h5 i hi
    exact ⟨u, (hb.cell (p := ⟨b, o + i, none⟩) h4).trans h6, h7.grew hb⟩
/-- How many nodes the first k lists have. -/
def total (L : List (List Nd)) (k : Nat) : Nat := ((L.take k).flatten).length
theorem total_zero (L : List (List Nd)) : total L 0 = 0 := by unfold total; rw [List.take_zero]; rfl
theorem total_succ {L : List (List Nd)} {k : Nat} (h : k < L.length) : total L (k + 1) = total L k + (L.getD k []).length := by
  unfold total
  rw [List.take_succ_eq_append_getElem h, List.flatten_append, List.length_append]
  simp [List.getD, h]
theorem total_mono {L : List (List Nd)} {k : Nat} : total L k ≤ L.flatten.length := by
  rw [total]
  have : L.flatten = (L.take k).flatten ++ (L.drop k).flatten := by rw [← List.flatten_append, List.take_append_drop]
  rw [this, List.length_append]
  omega
theorem concat_c (v : Value) (L : List (List Nd)) (w : World) (hL : Lists w v L) (hk : L.length ≤ 1099511627776) (hn : L.flatten.length ≤ 1099511627776) :
    Calls Tryz.prog 84 #[v] w (Gives w L.flatten) := by
  have hfull : total L L.length = L.flatten.length := by unfold total; rw [List.take_length]
  rcases hL with ⟨rfl, rfl⟩ | ⟨b, o, c, rfl, hc, hm, hb, hcell⟩
  · go_enter Tryz.func84, Tryz.ntmps84
    go_wp2_with fail
    refine wp_loop_rounds 1 ?_; rw [rounds_succ]
    go_wp2_with fail
    refine (grow_c 0 _ (by omega)).mono ?_
    rintro e w1 ⟨v1, rfl, ho1, hg1⟩
    go_wp2_with fail
    refine wp_loop_rounds 1 ?_; rw [rounds_succ]
    go_wp2_with fail
    go_ret
    exact ⟨_, rfl, ho1, hg1⟩
  · have HF := Lib.hid hfull
    have HC := Lib.hid hcell
    have HN := Lib.hid hn
    clear hfull hcell hn
    generalize hK : L.length = K at *
    have HK := Lib.hid hK
    clear hK
    go_enter Tryz.func84, Tryz.ntmps84
    go_wp2_with fail
    go_loopw [3, 5, 11] (fun n _ i wr => ∃ j : Nat, j ≤ K ∧ i = .int .i64 j ∧ n = .int .i64 (total L j) ∧ Grew w wr) (fun _ _ i _ => K - (intOf i).toNat)
    case atStart => exact ⟨0, Nat.zero_le _, rfl, by simp [total_zero], Grew.refl _⟩
    case round =>
      obtain ⟨j, hj, rfl, rfl, hB⟩ := hrel
      by_cases hlt : j < K
      · have hltL : j < L.length := by rw [HK.out]; exact hlt
        obtain ⟨u, hu1, hu2⟩ := HC.out j hlt
        have hs : total L (j + 1) = total L j + (L.getD j []).length := total_succ hltL
        have hle : total L (j + 1) ≤ 1099511627776 := Nat.le_trans total_mono HN.out
        generalize L.getD j [] = X at *
        obtain ⟨A, cc, rfl⟩ := nodes_slice hu2
        have k1 : ∀ W, Grew w W → W.cell? ⟨b, o + j, none⟩ = some (.slice A X.length cc) := fun W hW => (hW.cell (p := ⟨b, o + j, none⟩) hb).trans hu1
        rw [hs] at hle
        have HS := Lib.hid hs
        clear hs hu1 hu2
        go_wp2_with fail
        go_roundw
        case rel => exact ⟨j + 1, by omega, by go_num, by rw [HS.out]; go_num, by assumption⟩
        case measure => simp [intOf]; omega
      · have hjK : j = K := by omega
        subst hjK
        go_wp2_with fail
        refine (grow_c (total L j) _ (by rw [HF.out]; exact HN.out)).mono ?_
        rintro e w1 ⟨v1, rfl, ho1, hg1⟩
        have hg1' := hB.trans hg1
        have ho1' := ho1.base hB.size
        clear ho1 hg1 hlt
        go_wp2_with fail
        go_loopw [6, 8, 27] (fun v _ i wx => ∃ n : Nat, n ≤ j ∧ i = .int .i64 n ∧ Own wx w.heap.size v (L.take n).flatten ∧ Grew w wx) (fun _ _ i _ => j - (intOf i).toNat)
        case atStart => exact ⟨0, Nat.zero_le _, rfl, by simpa using ho1', hg1'⟩
        case round =>
          obtain ⟨n, hn, rfl, hown, hG⟩ := hrel
          by_cases hlt : n < j
          · have hltL : n < L.length := by rw [HK.out]; exact hlt
            obtain ⟨u, hu1, hu2⟩ := HC.out n hlt
            have hs : total L (n + 1) = total L n + (L.getD n []).length := total_succ hltL
            have hle : total L (n + 1) ≤ 1099511627776 := Nat.le_trans total_mono HN.out
            have hfl : (L.take (n + 1)).flatten = (L.take n).flatten ++ L.getD n [] := by
              rw [List.take_succ_eq_append_getElem hltL, List.flatten_append]
              simp [List.getD, hltL]
            have htl : (L.take n).flatten.length = total L n := rfl
            generalize L.getD n [] = X at *
            have k1 : ∀ W, Grew w W → W.cell? ⟨b, o + n, none⟩ = some u := fun W hW => (hW.cell (p := ⟨b, o + n, none⟩) hb).trans hu1
            have hbd : (L.take n).flatten.length + X.length ≤ 1099511627776 := by rw [htl, ← hs]; exact hle
            have HFL := Lib.hid hfl
            generalize (L.take n).flatten = Y at *
            clear hs hu1 htl hle hfl
            obtain ⟨A, cc, rfl⟩ := nodes_slice hu2
            go_wp2_with (first
              | (at_builtin; refine wpList_app (w0 := w) _ _ rfl rfl _ Y rfl hown hG _ X rfl (hu2.grew hG) hbd ?_; intro v2 w2 hown2 hg2 _))
            go_roundw
            case rel => exact ⟨n + 1, by omega, by go_num, by rw [HFL.out]; assumption, by assumption⟩
            case measure => simp [intOf]; omega
          · have hnj : n = j := by omega
            subst hnj
            have hfl : (L.take n).flatten = L.flatten := by rw [← HK.out, List.take_length]
            rw [hfl] at hown
            clear hfl
            go_wp2_with fail
            go_ret
            exact ⟨_, rfl, hown, hG⟩
end Go.Proofs.YtofeeenjlaljpaaGreat

/- The program's makers over slices.Concat. -/
namespace Go.Proofs.YtofeeenjlaljpaaGreat
open Go.RowKit
open Fm (Nd)

/-- A block that has just been made and holds slices of nodes. -/
theorem lists_new (w : World) (t : TypeId) (us : List Value) (L : List (List Nd)) (hm : L.length ≤ 9223372036854775807)
    (h : ∀ i, i < L.length → ∃ u, us[i]? = some u ∧ Nodes w u (L.getD i [])) : Lists (w.alloc (.cells us.toArray t)) (.slice (some ⟨w.heap.size, 0, none⟩) L.length L.length) L := by
  refine .inr ⟨w.heap.size, 0, L.length, rfl, Nat.le_refl _, hm, by simp, fun i hi => ?_⟩
  obtain ⟨u, h1, h2⟩ := h i hi
  refine ⟨u, ?_, h2.grew ((Grew.refl w).alloc _)⟩
  rw [Nat.zero_add, blk_cell (blk_new w _)]
  simpa using h1

theorem join_c (k : Int) (va vb : Value) (xs ys : List Nd) (w : World) (ha : Nodes w va xs) (hb : Nodes w vb ys) (hn : xs.length + ys.length ≤ 1099511627775) :
    Calls Tryz.prog 50 #[.int .i64 k, va, vb] w (Gives w (Fm.join k xs ys)) := by
  have o1 := Own.one w w.heap.size k 0 (Nat.le_refl _)
  have g1 := (Grew.refl w).alloc (.cells #[.int .i64 k, .int .i64 0] 87)
  have hl := lists_new (w.alloc (.cells #[.int .i64 k, .int .i64 0] 87)) 56 [.slice (some ⟨w.heap.size, 0, none⟩) 1 1, va, vb] [[(k, 0)], xs, ys] (by simp) (fun i hi => by
    match i, hi with
    | 0, _ => exact ⟨_, rfl, o1.nodes⟩
    | 1, _ => exact ⟨_, rfl, ha.grew g1⟩
    | 2, _ => exact ⟨_, rfl, hb.grew g1⟩)
  obtain ⟨A, ca, rfl⟩ := nodes_slice ha
  obtain ⟨B, cb, rfl⟩ := nodes_slice hb
  simp only [List.length_cons, List.length_nil, World.size_alloc] at hl
  go_enter Tryz.func50, Tryz.ntmps50
  go_wp2_with fail
  refine (concat_c _ _ _ hl (by simp) (by simp; omega)).mono ?_
  rintro e w1 ⟨v1, rfl, ho1, hg1⟩
  go_wp2_with fail
  go_ret
  exact ⟨_, rfl, by simpa [Fm.join] using ho1.base (by simp; omega), hg1.of_alloc.of_alloc⟩

theorem prefix_c (k : Int) (va : Value) (xs : List Nd) (w : World) (ha : Nodes w va xs) (hn : xs.length ≤ 1099511627775) :
    Calls Tryz.prog 175 #[.int .i64 k, va] w (Gives w (Fm.pre k xs)) := by
  have o1 := Own.one w w.heap.size k 0 (Nat.le_refl _)
  have g1 := (Grew.refl w).alloc (.cells #[.int .i64 k, .int .i64 0] 87)
  have hl := lists_new (w.alloc (.cells #[.int .i64 k, .int .i64 0] 87)) 56 [.slice (some ⟨w.heap.size, 0, none⟩) 1 1, va] [[(k, 0)], xs] (by simp) (fun i hi => by
    match i, hi with
    | 0, _ => exact ⟨_, rfl, o1.nodes⟩
    | 1, _ => exact ⟨_, rfl, ha.grew g1⟩)
  obtain ⟨A, ca, rfl⟩ := nodes_slice ha
  simp only [List.length_cons, List.length_nil, World.size_alloc] at hl
  go_enter Tryz.func175, Tryz.ntmps175
  go_wp2_with fail
  refine (concat_c _ _ _ hl (by simp) (by simp; omega)).mono ?_
  rintro e w1 ⟨v1, rfl, ho1, hg1⟩
  go_wp2_with fail
  go_ret
  exact ⟨_, rfl, by simpa [Fm.pre] using ho1.base (by simp; omega), hg1.of_alloc.of_alloc⟩

theorem negation_c (va : Value) (xs : List Nd) (w : World) (ha : Nodes w va xs) (hn : xs.length ≤ 1099511627774) :
    Calls Tryz.prog 173 #[va] w (Gives w (Fm.neg xs)) := by
  go_enter Tryz.func173, Tryz.ntmps173
  go_wp2_with fail
  refine (falsum_c _).mono ?_
  rintro e w1 ⟨v1, rfl, ho1, hg1⟩
  go_wp2_with fail
  refine (join_c _ _ _ xs Fm.falsum _ (ha.grew hg1) ho1.nodes (by simp [Fm.falsum]; omega)).mono ?_
  rintro e w2 ⟨v2, rfl, ho2, hg2⟩
  go_wp2_with fail
  go_ret
  exact ⟨_, rfl, ho2.base hg1.size, hg1.trans hg2⟩
end Go.Proofs.YtofeeenjlaljpaaGreat

/- The readers' first steps: take, need, l02Take, l02Need. -/
namespace Go.Proofs.YtofeeenjlaljpaaGreat
open Go.RowKit

/-- Block g holds a reader: its text, its position, whether it is bad. -/
def Rdr (w : World) (g : Nat) (T : TypeId) (s : ByteArray) (st : Fm.St) : Prop := w.heap[g]? = some (.cells #[.string s, .int .i64 st.1, .bool st.2] T (0, 0))
theorem Rdr.text {w : World} {g T : Nat} {s : ByteArray} {st : Fm.St} (h : Rdr w g T s st) : w.cell? ⟨g, 0, none⟩ = some (.string s) := by rw [blk_cell h]; rfl
theorem Rdr.at_ {w : World} {g T : Nat} {s : ByteArray} {st : Fm.St} (h : Rdr w g T s st) : w.cell? ⟨g, 1, none⟩ = some (.int .i64 st.1) := by rw [blk_cell h]; rfl
theorem Rdr.bad {w : World} {g T : Nat} {s : ByteArray} {st : Fm.St} (h : Rdr w g T s st) : w.cell? ⟨g, 2, none⟩ = some (.bool st.2) := by rw [blk_cell h]; rfl
theorem Rdr.free {w : World} {g T : Nat} {s : ByteArray} {st : Fm.St} (h : Rdr w g T s st) (i : Nat) : w.frozen? ⟨g, i, none⟩ = false := blk_frozen h i
theorem Rdr.lt {w : World} {g T : Nat} {s : ByteArray} {st : Fm.St} (h : Rdr w g T s st) : g < w.heap.size := blk_lt h
theorem Rdr.grew {w w' : World} {g T : Nat} {s : ByteArray} {st : Fm.St} (h : Rdr w g T s st) (hg : Grew w w') : Rdr w' g T s st := (hg.block h.lt).trans h
theorem Rdr.move {w : World} {g T : Nat} {s : ByteArray} {st : Fm.St} (h : Rdr w g T s st) (n : Nat) : Rdr (w.setCell ⟨g, 1, none⟩ (.int .i64 n)) g T s (n, st.2) := blk_set h 1 _
theorem Rdr.spoil {w : World} {g T : Nat} {s : ByteArray} {st : Fm.St} (h : Rdr w g T s st) : Rdr (w.setCell ⟨g, 2, none⟩ (.bool true)) g T s (st.1, true) := blk_set h 2 _

/-- What 'take' leaves. -/
def Took (w : World) (g : Nat) (T : TypeId) (s : ByteArray) (st : Fm.St) (c : UInt8) (e : Ending) (w' : World) : Prop :=
  e = .returned (.bool (Fm.sees s.data.toList st c)) ∧ Rdr w' g T s (if Fm.sees s.data.toList st c then Fm.step st else st) ∧ Only g w w'

theorem sees_bad (s : List UInt8) (p : Nat) (c : UInt8) : Fm.sees s (p, true) c = false := rfl
theorem sees_end (s : ByteArray) (p : Nat) (c : UInt8) (h : s.size ≤ p) : Fm.sees s.data.toList (p, false) c = false := by
  have : s.data.toList[p]? = none := by rw [Array.getElem?_toList, Array.getElem?_eq_none]; exact h
  simp [Fm.sees, this]
theorem sees_in (s : ByteArray) (p : Nat) (c : UInt8) (h : p < s.size) : Fm.sees s.data.toList (p, false) c = (s[p] == c) := by
  have : s.data.toList[p]? = some s[p] := by rw [Array.getElem?_toList]; exact Array.getElem?_eq_getElem h
  simp [Fm.sees, this]
theorem byte_eq (a b : UInt8) : ((a.toNat : Int) == b.toNat) = (a == b) := by
  rw [Bool.eq_iff_iff]; simp only [beq_iff_eq, ← UInt8.toNat_inj]; omega
theorem byte_ne (a b : UInt8) : ((a.toNat : Int) != b.toNat) = !(a == b) := by
  rw [bne, byte_eq]

theorem Took.no {w w' : World} {g T : Nat} {s : ByteArray} {st : Fm.St} {c : UInt8} (h : Rdr w g T s st) (hs : Fm.sees s.data.toList st c = false) (hw : Grew w w') : Took w g T s st c (.returned (.bool false)) w' := by
  unfold Took; rw [hs]; exact ⟨rfl, h.grew hw, hw.only⟩
theorem Took.yes {w w' : World} {g T : Nat} {s : ByteArray} {p : Nat} {b : Bool} {c : UInt8} (h : Rdr w g T s (p, b)) (hs : Fm.sees s.data.toList (p, b) c = true) (hw : Grew w w') : Took w g T s (p, b) c (.returned (.bool true)) (w'.setCell ⟨g, 1, none⟩ (.int .i64 ((p : Int) + 1))) := by
  unfold Took; rw [hs]; exact ⟨rfl, (h.grew hw).move (p + 1), hw.only.setCell _⟩

theorem take_c (g T : Nat) (s : ByteArray) (st : Fm.St) (c : UInt8) (m : Int) (w : World) (h : Rdr w g T s st) (hs : s.size ≤ 1099511627776) (hat : st.1 ≤ s.size) (hm : m = (c.toNat : Int)) :
    Calls Tryz.prog 144 #[.pointer (some ⟨g, 0, none⟩), .int .u8 m] w (Took w g T s st c) := by
  subst hm
  have c0 := h.text
  have c1 := h.at_
  have c2 := h.bad
  have hf := h.free 1
  obtain ⟨p, b⟩ := st
  simp only at c0 c1 c2 hat
  by_cases hb : b = true
  · subst hb
    have HH := Lib.hid h
    clear h
    go_enter Tryz.func144, Tryz.ntmps144
    go_wp2_with fail
    go_quiet (fail)
    go_wp2_with fail
    go_ret
    exact Took.no HH.out (sees_bad _ _ _) ((Grew.refl _).drewN _)
  · have hb' : b = false := by simpa using hb
    subst hb'
    by_cases hlt : p < s.size
    · have hd : decide ((s.size : Int) ≤ (p : Int)) = false := by simp; omega
      have HH := Lib.hid h
      clear h hb
      go_enter Tryz.func144, Tryz.ntmps144
      go_wp2_with fail
      go_quiet (fail)
      go_wp2_with fail
      · have h1 : s.size ≤ p ∨ ((s[p].toNat : Int) != c.toNat) = true := by assumption
        go_ret
        exact Took.no HH.out (by rw [sees_in s p c hlt]; rcases h1 with h1 | h1; omega; rw [byte_ne] at h1; simpa using h1) ((Grew.refl _).drewN _)
      · have h1 : ¬ s.size ≤ p ∧ ((s[p].toNat : Int) != c.toNat) = false := by assumption
        go_ret
        exact Took.yes HH.out (by rw [sees_in s p c hlt]; have := h1.2; rw [byte_ne] at this; simpa using this) ((Grew.refl _).drewN _)
    · have hd : decide ((s.size : Int) ≤ (p : Int)) = true := by simp; omega
      have HH := Lib.hid h
      clear h hb
      go_enter Tryz.func144, Tryz.ntmps144
      go_wp2_with fail
      go_quiet (fail)
      go_wp2_with fail
      go_ret
      exact Took.no HH.out (sees_end _ _ _ (by omega)) ((Grew.refl _).drewN _)

theorem l02Take_c (g T : Nat) (s : ByteArray) (st : Fm.St) (c : UInt8) (m : Int) (w : World) (h : Rdr w g T s st) (hs : s.size ≤ 1099511627776) (hat : st.1 ≤ s.size) (hm : m = (c.toNat : Int)) :
    Calls Tryz.prog 170 #[.pointer (some ⟨g, 0, none⟩), .int .u8 m] w (Took w g T s st c) := by
  subst hm
  have c0 := h.text
  have c1 := h.at_
  have c2 := h.bad
  have hf := h.free 1
  obtain ⟨p, b⟩ := st
  simp only at c0 c1 c2 hat
  by_cases hb : b = true
  · subst hb
    have HH := Lib.hid h
    clear h
    go_enter Tryz.func170, Tryz.ntmps170
    go_wp2_with fail
    go_quiet (fail)
    go_wp2_with fail
    go_ret
    exact Took.no HH.out (sees_bad _ _ _) ((Grew.refl _).drewN _)
  · have hb' : b = false := by simpa using hb
    subst hb'
    by_cases hlt : p < s.size
    · have hd : decide ((p : Int) < (s.size : Int)) = true := by simp; omega
      have HH := Lib.hid h
      clear h hb
      go_enter Tryz.func170, Tryz.ntmps170
      go_wp2_with fail
      go_quiet (fail)
      go_wp2_with fail
      · have h1 : ((s[p].toNat : Int) == c.toNat) = true := by assumption
        go_ret
        exact Took.yes HH.out (by rw [sees_in s p c hlt]; rw [byte_eq] at h1; simpa using h1) ((Grew.refl _).drewN _)
      · have h1 : ((s[p].toNat : Int) == c.toNat) = false := by assumption
        go_ret
        exact Took.no HH.out (by rw [sees_in s p c hlt]; rw [byte_eq] at h1; simpa using h1) ((Grew.refl _).drewN _)
    · have hd : decide ((p : Int) < (s.size : Int)) = false := by simp; omega
      have HH := Lib.hid h
      clear h hb
      go_enter Tryz.func170, Tryz.ntmps170
      go_wp2_with fail
      go_quiet (fail)
      go_wp2_with fail
      go_ret
      exact Took.no HH.out (sees_end _ _ _ (by omega)) ((Grew.refl _).drewN _)

theorem take_yes (g T : Nat) (s : ByteArray) (st : Fm.St) (c : UInt8) (m : Int) (w : World) (h : Rdr w g T s st) (hs : s.size ≤ 1099511627776) (hat : st.1 ≤ s.size) (hm : m = (c.toNat : Int)) (hsee : Fm.sees s.data.toList st c = true) :
    Calls Tryz.prog 144 #[.pointer (some ⟨g, 0, none⟩), .int .u8 m] w fun e w' => e = .returned (.bool true) ∧ Rdr w' g T s (Fm.step st) ∧ Only g w w' :=
  (take_c g T s st c m w h hs hat hm).mono fun e w' hh => by
    unfold Took at hh; rw [hsee] at hh; exact hh
theorem take_no (g T : Nat) (s : ByteArray) (st : Fm.St) (c : UInt8) (m : Int) (w : World) (h : Rdr w g T s st) (hs : s.size ≤ 1099511627776) (hat : st.1 ≤ s.size) (hm : m = (c.toNat : Int)) (hsee : Fm.sees s.data.toList st c = false) :
    Calls Tryz.prog 144 #[.pointer (some ⟨g, 0, none⟩), .int .u8 m] w fun e w' => e = .returned (.bool false) ∧ Rdr w' g T s st ∧ Only g w w' :=
  (take_c g T s st c m w h hs hat hm).mono fun e w' hh => by
    unfold Took at hh; rw [hsee] at hh; exact hh
theorem need_c (g T : Nat) (s : ByteArray) (st : Fm.St) (c : UInt8) (m : Int) (w : World) (h : Rdr w g T s st) (hs : s.size ≤ 1099511627776) (hat : st.1 ≤ s.size) (hm : m = (c.toNat : Int)) :
    Calls Tryz.prog 174 #[.pointer (some ⟨g, 0, none⟩), .int .u8 m] w fun e w' => e = .returned (.tuple #[]) ∧ Rdr w' g T s (Fm.need s.data.toList st c) ∧ Only g w w' := by
  subst hm
  by_cases hsee : Fm.sees s.data.toList st c = true
  · have hn : Fm.need s.data.toList st c = Fm.step st := by unfold Fm.need; rw [if_pos hsee]
    rw [hn]
    clear hn
    go_enter Tryz.func174, Tryz.ntmps174
    go_wp2_with fail
    refine (take_yes g T s st c _ _ h hs hat rfl hsee).mono ?_
    rintro e w1 ⟨rfl, h1, o1⟩
    go_wp2_with fail
    go_end0
    exact ⟨rfl, h1, o1⟩
  · have hsee' : Fm.sees s.data.toList st c = false := by simpa using hsee
    have hn : Fm.need s.data.toList st c = (st.1, true) := by unfold Fm.need; rw [if_neg hsee]
    rw [hn]
    clear hn hsee
    go_enter Tryz.func174, Tryz.ntmps174
    go_wp2_with fail
    refine (take_no g T s st c _ _ h hs hat rfl hsee').mono ?_
    rintro e w1 ⟨rfl, h1, o1⟩
    have c2 := h1.bad
    have hf := h1.free 2
    have HH := Lib.hid h1
    clear h1
    go_wp2_with fail
    go_end0
    exact ⟨rfl, HH.out.spoil, o1.setCell _⟩

theorem l02Take_yes (g T : Nat) (s : ByteArray) (st : Fm.St) (c : UInt8) (m : Int) (w : World) (h : Rdr w g T s st) (hs : s.size ≤ 1099511627776) (hat : st.1 ≤ s.size) (hm : m = (c.toNat : Int)) (hsee : Fm.sees s.data.toList st c = true) :
    Calls Tryz.prog 170 #[.pointer (some ⟨g, 0, none⟩), .int .u8 m] w fun e w' => e = .returned (.bool true) ∧ Rdr w' g T s (Fm.step st) ∧ Only g w w' :=
  (l02Take_c g T s st c m w h hs hat hm).mono fun e w' hh => by
    unfold Took at hh; rw [hsee] at hh; exact hh
theorem l02Take_no (g T : Nat) (s : ByteArray) (st : Fm.St) (c : UInt8) (m : Int) (w : World) (h : Rdr w g T s st) (hs : s.size ≤ 1099511627776) (hat : st.1 ≤ s.size) (hm : m = (c.toNat : Int)) (hsee : Fm.sees s.data.toList st c = false) :
    Calls Tryz.prog 170 #[.pointer (some ⟨g, 0, none⟩), .int .u8 m] w fun e w' => e = .returned (.bool false) ∧ Rdr w' g T s st ∧ Only g w w' :=
  (l02Take_c g T s st c m w h hs hat hm).mono fun e w' hh => by
    unfold Took at hh; rw [hsee] at hh; exact hh
theorem l02Need_c (g T : Nat) (s : ByteArray) (st : Fm.St) (c : UInt8) (m : Int) (w : World) (h : Rdr w g T s st) (hs : s.size ≤ 1099511627776) (hat : st.1 ≤ s.size) (hm : m = (c.toNat : Int)) :
    Calls Tryz.prog 182 #[.pointer (some ⟨g, 0, none⟩), .int .u8 m] w fun e w' => e = .returned (.tuple #[]) ∧ Rdr w' g T s (Fm.need s.data.toList st c) ∧ Only g w w' := by
  subst hm
  by_cases hsee : Fm.sees s.data.toList st c = true
  · have hn : Fm.need s.data.toList st c = Fm.step st := by unfold Fm.need; rw [if_pos hsee]
    rw [hn]
    clear hn
    go_enter Tryz.func182, Tryz.ntmps182
    go_wp2_with fail
    refine (l02Take_yes g T s st c _ _ h hs hat rfl hsee).mono ?_
    rintro e w1 ⟨rfl, h1, o1⟩
    go_wp2_with fail
    go_end0
    exact ⟨rfl, h1, o1⟩
  · have hsee' : Fm.sees s.data.toList st c = false := by simpa using hsee
    have hn : Fm.need s.data.toList st c = (st.1, true) := by unfold Fm.need; rw [if_neg hsee]
    rw [hn]
    clear hn hsee
    go_enter Tryz.func182, Tryz.ntmps182
    go_wp2_with fail
    refine (l02Take_no g T s st c _ _ h hs hat rfl hsee').mono ?_
    rintro e w1 ⟨rfl, h1, o1⟩
    have c2 := h1.bad
    have hf := h1.free 2
    have HH := Lib.hid h1
    clear h1
    go_wp2_with fail
    go_end0
    exact ⟨rfl, HH.out.spoil, o1.setCell _⟩
end Go.Proofs.YtofeeenjlaljpaaGreat

/- The plain parser: how far it comes, how many nodes it makes, which byte is next. No program is in sight. -/
namespace Go.Proofs.YtofeeenjlaljpaaGreat
namespace Fm

theorem sees_eq {s : List UInt8} {st : St} {c : UInt8} (h : sees s st c = true) : st.2 = false ∧ s[st.1]? = some c := by
  unfold sees at h
  simp only [Bool.and_eq_true, Bool.not_eq_true', beq_iff_eq] at h
  exact h
theorem sees_lt {s : List UInt8} {st : St} {c : UInt8} (h : sees s st c = true) : st.1 < s.length := by
  have := (sees_eq h).2
  rcases Nat.lt_or_ge st.1 s.length with h1 | h1
  · exact h1
  · rw [List.getElem?_eq_none h1] at this; cases this
theorem sees_other {s : List UInt8} {st : St} {c d : UInt8} (h : sees s st c = true) (hne : c ≠ d) : sees s st d = false := by
  obtain ⟨h1, h2⟩ := sees_eq h
  unfold sees
  rw [h1, h2]
  simp [hne]
theorem letter_some {s : List UInt8} {st : St} {v : Nat} (h : letter s st = some v) : v < 6 ∧ sees s st (UInt8.ofNat (112 + v)) = true := by
  unfold letter at h
  split at h
  · cases h
  · rename_i hb
    have hb' : st.2 = false := by simpa using hb
    split at h
    · rename_i c hc
      split at h
      · rename_i hr
        injection h with h
        subst h
        refine ⟨by omega, ?_⟩
        unfold sees
        have e : UInt8.ofNat (112 + (c.toNat - 112)) = c := by
          apply UInt8.toNat_inj.1
          rw [UInt8.toNat_ofNat']
          omega
        rw [hb', hc, e]
        simp
      · cases h
    · cases h
theorem letter_of_sees {s : List UInt8} {st : St} {v : Nat} (hv : v < 6) (h : sees s st (UInt8.ofNat (112 + v)) = true) : letter s st = some v := by
  obtain ⟨h1, h2⟩ := sees_eq h
  unfold letter
  rw [h1, h2]
  have e : (UInt8.ofNat (112 + v)).toNat = 112 + v := by rw [UInt8.toNat_ofNat']; omega
  simp only [e]
  rw [if_neg (by simp), if_pos (by omega)]
  congr 1
  omega
theorem letter_none {s : List UInt8} {st : St} (h : letter s st = none) (v : Nat) (hv : v < 6) : sees s st (UInt8.ofNat (112 + v)) = false := by
  cases hs : sees s st (UInt8.ofNat (112 + v)) with
  | false => rfl
  | true => rw [letter_of_sees hv hs] at h; cases h
theorem letter_ne {s : List UInt8} {st : St} {v i : Nat} (h : letter s st = some v) (hi : i < 6) (hne : i ≠ v) : sees s st (UInt8.ofNat (112 + i)) = false := by
  cases hs : sees s st (UInt8.ofNat (112 + i)) with
  | false => rfl
  | true => rw [letter_of_sees hi hs] at h; injection h with h; exact absurd h hne
theorem letter_of_other {s : List UInt8} {st : St} {c : UInt8} (h : sees s st c = true) (hc : c.toNat < 112 ∨ 117 < c.toNat) : letter s st = none := by
  obtain ⟨h1, h2⟩ := sees_eq h
  unfold letter
  rw [h1, h2]
  simp only
  rw [if_neg (by simp), if_neg (by omega)]

/-- A result that does not run backwards or over the end, and is not too long. -/
def Ok (s : List UInt8) (st : St) (r : Res) : Prop := st.1 ≤ r.2.1 ∧ r.2.1 ≤ s.length ∧ r.1.length ≤ 3 * (r.2.1 - st.1) + 1

theorem need_pos {s : List UInt8} {st : St} {c : UInt8} (h : st.1 ≤ s.length) : st.1 ≤ (need s st c).1 ∧ (need s st c).1 ≤ s.length := by
  unfold need
  split
  · rename_i hs
    have := sees_lt hs
    simp only [step]
    omega
  · exact ⟨Nat.le_refl _, h⟩

theorem loop_ok {s : List UInt8} {k : Int} {c : UInt8} {sub : St → Res} (hsub : ∀ st, st.1 ≤ s.length → Ok s st (sub st)) : ∀ (m : Nat) (a : List Nd) (st st0 : St), st0.1 ≤ st.1 → st.1 ≤ s.length → a.length ≤ 3 * (st.1 - st0.1) + 1 → Ok s st0 (loop s k c sub m a st) := by
  intro m
  induction m with
  | zero => intro a st st0 h1 h2 h3; exact ⟨h1, h2, h3⟩
  | succ m ih =>
    intro a st st0 h1 h2 h3
    unfold loop
    split
    · rename_i hs
      have hlt := sees_lt hs
      have h := hsub (step st) (by simp only [step]; omega)
      obtain ⟨g1, g2, g3⟩ := h
      simp only [step] at g1 g2 g3
      refine ih _ _ st0 (by simp only [step]; omega) (by simp only [step]; omega) ?_
      simp only [join, List.length_cons, List.length_append, step]
      omega
    · exact ⟨h1, h2, h3⟩

theorem andF_ok {s : List UInt8} {m : Nat} {sub : St → Res} (hsub : ∀ st, st.1 ≤ s.length → Ok s st (sub st)) (st : St) (h : st.1 ≤ s.length) : Ok s st (andF s m sub st) := by
  obtain ⟨g1, g2, g3⟩ := hsub st h
  exact loop_ok hsub m _ _ st g1 g2 g3
theorem orF_ok {s : List UInt8} {m : Nat} {sub : St → Res} (hsub : ∀ st, st.1 ≤ s.length → Ok s st (sub st)) (st : St) (h : st.1 ≤ s.length) : Ok s st (orF s m sub st) := by
  obtain ⟨g1, g2, g3⟩ := andF_ok (m := m) hsub st h
  exact loop_ok (fun st h => andF_ok hsub st h) m _ _ st g1 g2 g3
theorem impF_ok {s : List UInt8} {m : Nat} {sub : St → Res} (hsub : ∀ st, st.1 ≤ s.length → Ok s st (sub st)) : ∀ (i : Nat) (st : St), st.1 ≤ s.length → Ok s st (impF s m sub i st) := by
  intro i
  induction i with
  | zero => intro st h; exact orF_ok hsub st h
  | succ i ih =>
    intro st h
    unfold impF
    obtain ⟨g1, g2, g3⟩ := orF_ok (m := m) hsub st h
    dsimp only
    split
    · rename_i hs
      have hlt := sees_lt hs
      obtain ⟨k1, k2, k3⟩ := ih (step (orF s m sub st).2) (by simp only [step]; omega)
      simp only [step] at k1 k2 k3
      refine ⟨by simp only [step]; omega, by simp only [step]; omega, ?_⟩
      simp only [join, List.length_cons, List.length_append, step]
      omega
    · exact ⟨g1, g2, g3⟩
theorem preF_ok {s : List UInt8} {m : Nat} : ∀ (f : Nat) (st : St), st.1 ≤ s.length → Ok s st (preF s m f st) := by
  intro f
  induction f with
  | zero => intro st h; exact ⟨Nat.le_refl _, h, by simp [preF, falsum]⟩
  | succ f ih =>
    intro st h
    unfold preF
    split
    · rename_i hs
      have hlt := sees_lt hs
      obtain ⟨k1, k2, k3⟩ := ih (step st) (by simp only [step]; omega)
      simp only [step] at k1 k2 k3
      refine ⟨by simp only [step]; omega, by simp only [step]; omega, ?_⟩
      simp only [neg, join, falsum, List.length_cons, List.length_append, List.length_nil, step]
      omega
    split
    · rename_i hs
      have hlt := sees_lt hs
      obtain ⟨n1, n2⟩ := need_pos (s := s) (st := step st) (c := 93) (by simp only [step]; omega)
      obtain ⟨k1, k2, k3⟩ := ih (need s (step st) 93) n2
      have e : (step st).1 = st.1 + 1 := rfl
      refine ⟨by simp only; omega, by simp only; omega, ?_⟩
      simp only [pre, List.length_cons]
      omega
    split
    · rename_i hs
      have hlt := sees_lt hs
      obtain ⟨n1, n2⟩ := need_pos (s := s) (st := step st) (c := 62) (by simp only [step]; omega)
      obtain ⟨k1, k2, k3⟩ := ih (need s (step st) 62) n2
      have e : (step st).1 = st.1 + 1 := rfl
      refine ⟨by simp only; omega, by simp only; omega, ?_⟩
      simp only [pre, List.length_cons]
      omega
    split
    · rename_i hs
      have hlt := sees_lt hs
      exact ⟨by simp only [step]; omega, by simp only [step]; omega, by simp [falsum]⟩
    split
    · rename_i hs
      have hlt := sees_lt hs
      exact ⟨by simp only [step]; omega, by simp only [step]; omega, by simp only [truth, step, List.length_cons, List.length_nil]; omega⟩
    split
    · rename_i hs
      have hlt := sees_lt hs
      obtain ⟨k1, k2, k3⟩ := impF_ok (m := m) ih m (step st) (by simp only [step]; omega)
      obtain ⟨n1, n2⟩ := need_pos (s := s) (st := (impF s m (preF s m f) m (step st)).2) (c := 41) k2
      have e : (step st).1 = st.1 + 1 := rfl
      refine ⟨by simp only; omega, n2, ?_⟩
      simp only
      omega
    split
    · rename_i v hv
      have hlt := sees_lt (letter_some hv).2
      exact ⟨by simp only [step]; omega, by simp only [step]; omega, by simp [vari]⟩
    · exact ⟨Nat.le_refl _, h, by simp [falsum]⟩

theorem parse_ok (s : List UInt8) (m : Nat) : Ok s (0, false) (parse s m) := impF_ok (fun st h => preF_ok m st h) m (0, false) (by simp)

theorem preF_not {s : List UInt8} {m f : Nat} {st : St} (h : sees s st 126 = true) : preF s m (f + 1) st = (neg (preF s m f (step st)).1, (preF s m f (step st)).2) := by
  rw [preF, if_pos h]
theorem preF_box {s : List UInt8} {m f : Nat} {st : St} (h : sees s st 91 = true) : preF s m (f + 1) st = (pre 5 (preF s m f (need s (step st) 93)).1, (preF s m f (need s (step st) 93)).2) := by
  rw [preF, if_neg (by rw [sees_other h (by decide)]; decide), if_pos h]
theorem preF_dia {s : List UInt8} {m f : Nat} {st : St} (h : sees s st 60 = true) : preF s m (f + 1) st = (pre 6 (preF s m f (need s (step st) 62)).1, (preF s m f (need s (step st) 62)).2) := by
  rw [preF, if_neg (by rw [sees_other h (by decide)]; decide), if_neg (by rw [sees_other h (by decide)]; decide), if_pos h]
theorem preF_fls {s : List UInt8} {m f : Nat} {st : St} (h : sees s st 70 = true) : preF s m (f + 1) st = (falsum, step st) := by
  rw [preF, if_neg (by rw [sees_other h (by decide)]; decide), if_neg (by rw [sees_other h (by decide)]; decide), if_neg (by rw [sees_other h (by decide)]; decide), if_pos h]
theorem preF_tru {s : List UInt8} {m f : Nat} {st : St} (h : sees s st 84 = true) : preF s m (f + 1) st = (truth, step st) := by
  rw [preF, if_neg (by rw [sees_other h (by decide)]; decide), if_neg (by rw [sees_other h (by decide)]; decide), if_neg (by rw [sees_other h (by decide)]; decide), if_neg (by rw [sees_other h (by decide)]; decide), if_pos h]
theorem preF_par {s : List UInt8} {m f : Nat} {st : St} (h : sees s st 40 = true) : preF s m (f + 1) st = ((impF s m (preF s m f) m (step st)).1, need s (impF s m (preF s m f) m (step st)).2 41) := by
  rw [preF, if_neg (by rw [sees_other h (by decide)]; decide), if_neg (by rw [sees_other h (by decide)]; decide), if_neg (by rw [sees_other h (by decide)]; decide), if_neg (by rw [sees_other h (by decide)]; decide), if_neg (by rw [sees_other h (by decide)]; decide), if_pos h]
theorem sees_low {s : List UInt8} {st : St} {v : Nat} {c : UInt8} (h : letter s st = some v) (hc : c.toNat < 112 ∨ 117 < c.toNat) : sees s st c = false := by
  refine sees_other (letter_some h).2 fun e => ?_
  have := (letter_some h).1
  have h2 : (UInt8.ofNat (112 + v)).toNat = 112 + v := by rw [UInt8.toNat_ofNat']; omega
  rw [e] at h2
  omega
theorem preF_var {s : List UInt8} {m f : Nat} {st : St} {v : Nat} (h : letter s st = some v) : preF s m (f + 1) st = (vari v, step st) := by
  rw [preF, if_neg (by rw [sees_low h (by decide)]; decide), if_neg (by rw [sees_low h (by decide)]; decide), if_neg (by rw [sees_low h (by decide)]; decide), if_neg (by rw [sees_low h (by decide)]; decide), if_neg (by rw [sees_low h (by decide)]; decide), if_neg (by rw [sees_low h (by decide)]; decide), h]
theorem preF_bad {s : List UInt8} {m f : Nat} {st : St} (h1 : sees s st 126 = false) (h2 : sees s st 91 = false) (h3 : sees s st 60 = false) (h4 : sees s st 70 = false) (h5 : sees s st 84 = false) (h6 : sees s st 40 = false) (h : letter s st = none) : preF s m (f + 1) st = (falsum, (st.1, true)) := by
  rw [preF, if_neg (by rw [h1]; decide), if_neg (by rw [h2]; decide), if_neg (by rw [h3]; decide), if_neg (by rw [h4]; decide), if_neg (by rw [h5]; decide), if_neg (by rw [h6]; decide), h]
theorem impF_yes {s : List UInt8} {m i : Nat} {sub : St → Res} {st : St} (h : sees s (orF s m sub st).2 62 = true) : impF s m sub (i + 1) st = (join 4 (orF s m sub st).1 (impF s m sub i (step (orF s m sub st).2)).1, (impF s m sub i (step (orF s m sub st).2)).2) := by
  rw [impF]; dsimp only; rw [if_pos h]
theorem impF_no {s : List UInt8} {m i : Nat} {sub : St → Res} {st : St} (h : sees s (orF s m sub st).2 62 = false) : impF s m sub (i + 1) st = orF s m sub st := by
  rw [impF]; dsimp only; rw [if_neg (by rw [h]; decide)]

end Fm
end Go.Proofs.YtofeeenjlaljpaaGreat

/- The program's reader: what its functions read is what the plain parser gives. -/
namespace Go.Proofs.YtofeeenjlaljpaaGreat
open Go.RowKit
open Fm (Nd)

/-- The call returns the list r.1 in new memory, and the reader stands at r.2. -/
def Reads (w : World) (g : Nat) (T : TypeId) (s : ByteArray) (r : Fm.Res) (e : Ending) (w' : World) : Prop :=
  ∃ v, e = .returned v ∧ Own w' w.heap.size v r.1 ∧ Rdr w' g T s r.2 ∧ Only g w w'

theorem own_rdr_ne {w : World} {B g : Nat} {v : Value} {xs : List Nd} {T : TypeId} {s : ByteArray} {st : Fm.St} (h : Own w B v xs) (hr : Rdr w g T s st) (hne : 87 ≠ T) : v.ownBlock ≠ some g := own_ne h hr hne

theorem size_toList (s : ByteArray) : s.data.toList.length = s.size := by simp

/-- One 'join' in a loop of 'and' or 'or'. -/
theorem Reads.ok_len {s : ByteArray} {st : Fm.St} {r : Fm.Res} (h : Fm.Ok s.data.toList st r) (hs : s.size ≤ 1048576) : r.1.length ≤ 3145729 := by
  obtain ⟨h1, h2, h3⟩ := h
  rw [size_toList] at h2
  omega

/-- The contract of a function that reads, for a plain function sub and all states from which less than f bytes are left. -/
def Sub (F : FuncId) (T : TypeId) (s : ByteArray) (f : Nat) (sub : Fm.St → Fm.Res) : Prop :=
  ∀ (g : Nat) (st : Fm.St) (w : World), Rdr w g T s st → st.1 ≤ s.size → s.size - st.1 < f → Calls Tryz.prog F #[.pointer (some ⟨g, 0, none⟩)] w (Reads w g T s (sub st))

theorem and_c (T : TypeId) (hT : 87 ≠ T) (s : ByteArray) (f m : Nat) (sub : Fm.St → Fm.Res) (hs : s.size ≤ 1048576) (hm : s.size < m) (hok : ∀ st : Fm.St, st.1 ≤ s.data.toList.length → Fm.Ok s.data.toList st (sub st))
    (hsub : Sub 171 T s f sub) : Sub 165 T s f (fun st => Fm.loop s.data.toList 2 38 sub m (sub st).1 (sub st).2) := by
  intro g st w hR hat hfu
  have HS := Lib.hid hsub
  have HO := Lib.hid hok
  clear hsub hok
  have hsz := size_toList s
  have h0 : Fm.Ok s.data.toList st (sub st) := HO.out st (by rw [hsz]; exact hat)
  show Calls _ _ _ _ (Reads w g T s (Fm.loop s.data.toList 2 38 sub m (sub st).1 (sub st).2))
  obtain ⟨R, hR0⟩ : ∃ R, R = Fm.loop s.data.toList 2 38 sub m (sub st).1 (sub st).2 := ⟨_, rfl⟩
  rw [← hR0]
  have hend := Lib.hid hR0
  clear hR0
  have HZ := Lib.hid hsz
  clear hsz
  go_enter Tryz.func165, Tryz.ntmps165
  go_wp2_with fail
  refine (HS.out g st _ hR hat hfu).mono ?_
  rintro e w1 ⟨v1, rfl, ho1, hR1, hO1⟩
  generalize sub st = r1 at *
  obtain ⟨k1, k2, k3⟩ := h0
  rw [HZ.out] at k2
  go_wp2_with fail
  go_loopg [3] m (fun i v wr => ∃ (a : List Nd) (st' : Fm.St), Own wr w.heap.size v a ∧ Rdr wr g T s st' ∧ Only g w wr ∧ Hid (Fm.loop s.data.toList 2 38 sub i a st' = R) ∧ s.size - st'.1 < i ∧ st.1 ≤ st'.1 ∧ st'.1 ≤ s.size ∧ a.length ≤ 3 * st'.1 + 1)
  case atStart => exact ⟨r1.1, r1.2, ho1, hR1, hO1, hend.out.symm, by omega, by omega, by omega, by omega⟩
  case round =>
    obtain ⟨a, st', hown, hR', hO', hl, hi, hst, hst2, hlen⟩ := hrel
    have hne := own_rdr_ne hown hR' hT
    clear hend ho1 hR1 hO1 k1 k2 k3 hR
    obtain ⟨j, rfl⟩ : ∃ j, gk = j + 1 := ⟨gk - 1, by omega⟩
    by_cases hsee : Fm.sees s.data.toList st' 38 = true
    · have hlt := Fm.sees_lt hsee
      rw [HZ.out] at hlt
      have hl2 : Hid (Fm.loop s.data.toList 2 38 sub j (Fm.join 2 a (sub (Fm.step st')).1) (sub (Fm.step st')).2 = R) := by
        have := hl.out
        rw [Fm.loop, if_pos hsee] at this
        exact this
      obtain ⟨k1, k2, k3⟩ : Fm.Ok s.data.toList (Fm.step st') (sub (Fm.step st')) := HO.out (Fm.step st') (by rw [HZ.out]; exact hlt)
      rw [HZ.out] at k2
      have e1 : (Fm.step st').1 = st'.1 + 1 := rfl
      rw [e1] at k1 k3
      have hfu2 : s.size - (Fm.step st').1 < f := by rw [e1]; omega
      have hat2 : (Fm.step st').1 ≤ s.size := by rw [e1]; omega
      clear hl e1
      go_wp2_with fail
      refine (take_yes g T s st' 38 _ _ hR' (by omega) hst2 rfl hsee).mono ?_
      rintro e w2 ⟨rfl, hR2, hO2⟩
      clear hsee hR'
      generalize Fm.step st' = st2 at *
      go_wp2_with fail
      refine (HS.out g st2 _ hR2 hat2 hfu2).mono ?_
      rintro e w3 ⟨v3, rfl, ho3, hR3, hO3⟩
      generalize sub st2 = r3 at *
      go_wp2_with fail
      refine (join_c 2 _ _ a r3.1 _ ((hown.only hO2 hne).only hO3 hne).nodes ho3.nodes (by omega)).mono ?_
      rintro e w4 ⟨v4, rfl, ho4, hg4⟩
      go_wp2_with fail
      go_roundg j
      case measure => omega
      case rel => exact ⟨_, r3.2, ho4.base (by have := hO'.size; have := hO2.size; have := hO3.size; omega), hR3.grew hg4, ((hO'.trans hO2).trans hO3).grew hg4, hl2, by omega, by omega, by omega, by simp only [Fm.join, List.length_cons, List.length_append]; omega⟩
    · have hsee' : Fm.sees s.data.toList st' 38 = false := by simpa using hsee
      have hl2 : Hid (R = (a, st')) := by
        have := hl.out
        rw [Fm.loop, if_neg hsee] at this
        exact this.symm
      clear hsee hl
      go_wp2_with fail
      refine (take_no g T s st' 38 _ _ hR' (by omega) hst2 rfl hsee').mono ?_
      rintro e w2 ⟨rfl, hR2, hO2⟩
      go_wp2_with fail
      go_ret
      rw [hl2.out]
      exact ⟨_, rfl, hown.only hO2 hne, hR2, hO'.trans hO2⟩
theorem or_c (T : TypeId) (hT : 87 ≠ T) (s : ByteArray) (f m : Nat) (sub : Fm.St → Fm.Res) (hs : s.size ≤ 1048576) (hm : s.size < m) (hok : ∀ st : Fm.St, st.1 ≤ s.data.toList.length → Fm.Ok s.data.toList st (sub st))
    (hsub : Sub 165 T s f sub) : Sub 143 T s f (fun st => Fm.loop s.data.toList 3 124 sub m (sub st).1 (sub st).2) := by
  intro g st w hR hat hfu
  have HS := Lib.hid hsub
  have HO := Lib.hid hok
  clear hsub hok
  have hsz := size_toList s
  have h0 : Fm.Ok s.data.toList st (sub st) := HO.out st (by rw [hsz]; exact hat)
  show Calls _ _ _ _ (Reads w g T s (Fm.loop s.data.toList 3 124 sub m (sub st).1 (sub st).2))
  obtain ⟨R, hR0⟩ : ∃ R, R = Fm.loop s.data.toList 3 124 sub m (sub st).1 (sub st).2 := ⟨_, rfl⟩
  rw [← hR0]
  have hend := Lib.hid hR0
  clear hR0
  have HZ := Lib.hid hsz
  clear hsz
  go_enter Tryz.func143, Tryz.ntmps143
  go_wp2_with fail
  refine (HS.out g st _ hR hat hfu).mono ?_
  rintro e w1 ⟨v1, rfl, ho1, hR1, hO1⟩
  generalize sub st = r1 at *
  obtain ⟨k1, k2, k3⟩ := h0
  rw [HZ.out] at k2
  go_wp2_with fail
  go_loopg [3] m (fun i v wr => ∃ (a : List Nd) (st' : Fm.St), Own wr w.heap.size v a ∧ Rdr wr g T s st' ∧ Only g w wr ∧ Hid (Fm.loop s.data.toList 3 124 sub i a st' = R) ∧ s.size - st'.1 < i ∧ st.1 ≤ st'.1 ∧ st'.1 ≤ s.size ∧ a.length ≤ 3 * st'.1 + 1)
  case atStart => exact ⟨r1.1, r1.2, ho1, hR1, hO1, hend.out.symm, by omega, by omega, by omega, by omega⟩
  case round =>
    obtain ⟨a, st', hown, hR', hO', hl, hi, hst, hst2, hlen⟩ := hrel
    have hne := own_rdr_ne hown hR' hT
    clear hend ho1 hR1 hO1 k1 k2 k3 hR
    obtain ⟨j, rfl⟩ : ∃ j, gk = j + 1 := ⟨gk - 1, by omega⟩
    by_cases hsee : Fm.sees s.data.toList st' 124 = true
    · have hlt := Fm.sees_lt hsee
      rw [HZ.out] at hlt
      have hl2 : Hid (Fm.loop s.data.toList 3 124 sub j (Fm.join 3 a (sub (Fm.step st')).1) (sub (Fm.step st')).2 = R) := by
        have := hl.out
        rw [Fm.loop, if_pos hsee] at this
        exact this
      obtain ⟨k1, k2, k3⟩ : Fm.Ok s.data.toList (Fm.step st') (sub (Fm.step st')) := HO.out (Fm.step st') (by rw [HZ.out]; exact hlt)
      rw [HZ.out] at k2
      have e1 : (Fm.step st').1 = st'.1 + 1 := rfl
      rw [e1] at k1 k3
      have hfu2 : s.size - (Fm.step st').1 < f := by rw [e1]; omega
      have hat2 : (Fm.step st').1 ≤ s.size := by rw [e1]; omega
      clear hl e1
      go_wp2_with fail
      refine (take_yes g T s st' 124 _ _ hR' (by omega) hst2 rfl hsee).mono ?_
      rintro e w2 ⟨rfl, hR2, hO2⟩
      clear hsee hR'
      generalize Fm.step st' = st2 at *
      go_wp2_with fail
      refine (HS.out g st2 _ hR2 hat2 hfu2).mono ?_
      rintro e w3 ⟨v3, rfl, ho3, hR3, hO3⟩
      generalize sub st2 = r3 at *
      go_wp2_with fail
      refine (join_c 3 _ _ a r3.1 _ ((hown.only hO2 hne).only hO3 hne).nodes ho3.nodes (by omega)).mono ?_
      rintro e w4 ⟨v4, rfl, ho4, hg4⟩
      go_wp2_with fail
      go_roundg j
      case measure => omega
      case rel => exact ⟨_, r3.2, ho4.base (by have := hO'.size; have := hO2.size; have := hO3.size; omega), hR3.grew hg4, ((hO'.trans hO2).trans hO3).grew hg4, hl2, by omega, by omega, by omega, by simp only [Fm.join, List.length_cons, List.length_append]; omega⟩
    · have hsee' : Fm.sees s.data.toList st' 124 = false := by simpa using hsee
      have hl2 : Hid (R = (a, st')) := by
        have := hl.out
        rw [Fm.loop, if_neg hsee] at this
        exact this.symm
      clear hsee hl
      go_wp2_with fail
      refine (take_no g T s st' 124 _ _ hR' (by omega) hst2 rfl hsee').mono ?_
      rintro e w2 ⟨rfl, hR2, hO2⟩
      go_wp2_with fail
      go_ret
      rw [hl2.out]
      exact ⟨_, rfl, hown.only hO2 hne, hR2, hO'.trans hO2⟩

theorem imply_c (T : TypeId) (hT : 87 ≠ T) (s : ByteArray) (f m : Nat) (sub : Fm.St → Fm.Res) (hs : s.size ≤ 1048576) (hok : ∀ st : Fm.St, st.1 ≤ s.data.toList.length → Fm.Ok s.data.toList st (sub st))
    (hsub : Sub 143 T s f (Fm.orF s.data.toList m sub)) : ∀ (i : Nat) (g : Nat) (st : Fm.St) (w : World), Rdr w g T s st → st.1 ≤ s.size → s.size - st.1 < i → s.size - st.1 < f →
      Calls Tryz.prog 109 #[.pointer (some ⟨g, 0, none⟩)] w (Reads w g T s (Fm.impF s.data.toList m sub i st)) := by
  intro i
  induction i with
  | zero => intro g st w _ _ h; omega
  | succ i ih =>
    intro g st w hR hat hi hfu
    have HS := Lib.hid hsub
    have HI := Lib.hid ih
    clear hsub ih
    have hsz := size_toList s
    have h0 : Fm.Ok s.data.toList st (Fm.orF s.data.toList m sub st) := Fm.orF_ok hok st (by rw [hsz]; exact hat)
    have hy := @Fm.impF_yes s.data.toList m i sub st
    have hn := @Fm.impF_no s.data.toList m i sub st
    have hk := fun st h => Fm.impF_ok (m := m) hok i st h
    have HK := Lib.hid hk
    have HZ := Lib.hid hsz
    clear hsz hok hk
    have HC := fun g h1 => HS.out g st w h1 hat hfu
    have HD := Lib.hid HC
    clear HC HS
    generalize Fm.orF s.data.toList m sub st = r1 at *
    obtain ⟨k1, k2, k3⟩ := h0
    rw [HZ.out] at k2
    by_cases hsee : Fm.sees s.data.toList r1.2 62 = true
    · have hlt := Fm.sees_lt hsee
      rw [HZ.out] at hlt
      have e1 : (Fm.step r1.2).1 = r1.2.1 + 1 := rfl
      obtain ⟨q1, q2, q3⟩ := HK.out (Fm.step r1.2) (by rw [HZ.out, e1]; exact hlt)
      rw [HZ.out] at q2
      rw [e1] at q1 q3
      have hq := HI.out g (Fm.step r1.2)
      rw [e1] at hq
      have HQ := Lib.hid hq
      rw [hy hsee]
      clear hy hn HI hq HK e1
      go_enter Tryz.func109, Tryz.ntmps109
      go_wp2_with fail
      refine (HD.out g hR).mono ?_
      rintro e w1 ⟨v1, rfl, ho1, hR1, hO1⟩
      have hne := own_rdr_ne ho1 hR1 hT
      go_wp2_with fail
      refine (take_yes g T s r1.2 62 _ _ hR1 (by omega) (by omega) rfl hsee).mono ?_
      rintro e w2 ⟨rfl, hR2, hO2⟩
      go_wp2_with fail
      refine (HQ.out _ hR2 (by omega) (by omega) (by omega)).mono ?_
      rintro e w3 ⟨v3, rfl, ho3, hR3, hO3⟩
      generalize Fm.impF s.data.toList m sub i (Fm.step r1.2) = r3 at *
      go_wp2_with fail
      refine (join_c 4 _ _ r1.1 r3.1 _ ((ho1.only hO2 hne).only hO3 hne).nodes ho3.nodes (by omega)).mono ?_
      rintro e w4 ⟨v4, rfl, ho4, hg4⟩
      go_wp2_with fail
      go_ret
      exact ⟨_, rfl, ho4.base (by have := hO1.size; have := hO2.size; have := hO3.size; omega), hR3.grew hg4, ((hO1.trans hO2).trans hO3).grew hg4⟩
    · have hsee' : Fm.sees s.data.toList r1.2 62 = false := by simpa using hsee
      rw [hn hsee']
      clear hy hn HI HK hsee
      go_enter Tryz.func109, Tryz.ntmps109
      go_wp2_with fail
      refine (HD.out g hR).mono ?_
      rintro e w1 ⟨v1, rfl, ho1, hR1, hO1⟩
      have hne := own_rdr_ne ho1 hR1 hT
      go_wp2_with fail
      refine (take_no g T s r1.2 62 _ _ hR1 (by omega) (by omega) rfl hsee').mono ?_
      rintro e w2 ⟨rfl, hR2, hO2⟩
      go_wp2_with fail
      go_ret
      exact ⟨_, rfl, ho1.only hO2 hne, hR2, hO1.trans hO2⟩

end Go.Proofs.YtofeeenjlaljpaaGreat

/- The program's reader: the two lowest levels. -/
namespace Go.Proofs.YtofeeenjlaljpaaGreat
open Go.RowKit
open Fm (Nd)

/-- The range over the letters, at a block of the call's own. -/
def letters : ByteArray := ⟨#[112, 113, 114, 115, 116, 117]⟩
theorem only_iterAt {g k : Nat} {a b : World} (h : Only g a b) (hk : a.heap.size ≤ k) (s : ByteArray) (p : Nat) : Only g a (b.iterAt k s p) :=
  ⟨h.os, h.tape, h.output, by rw [Lib.iterAt_size]; exact h.size, fun i hi hne => (Lib.iterAt_other b k i s p (by omega)).trans (World.grownBy.block h i hi hne)⟩
theorem Rdr.iterAt {w : World} {g T k : Nat} {s : ByteArray} {st : Fm.St} (h : Rdr w g T s st) (hk : g ≠ k) (x : ByteArray) (p : Nat) : Rdr (w.iterAt k x p) g T s st := (Lib.iterAt_other w k g x p hk).trans h

theorem next_letter {P : Program} (w : World) (k i : Nat) (ty : TypeId) (hk : w.heap[k]? = some (.stringIter letters i)) (hi : i < 6) :
    (Instr.next (.pointer (some ⟨k, 0, none⟩)) true ty).run P w = .ok (.tuple #[.bool true, .int .i64 i, .int .i32 (112 + (i : Int))]) (w.iterAt k letters (i + 1)) := by
  have h6 : i = 0 ∨ i = 1 ∨ i = 2 ∨ i = 3 ∨ i = 4 ∨ i = 5 := by omega
  rcases h6 with rfl | rfl | rfl | rfl | rfl | rfl <;> exact Lib.run_next_ascii_at w k letters _ ty hk (by decide) (by decide)
theorem letter_byte {i : Nat} (hi : i < 6) : 112 + (i : Int) = ((UInt8.ofNat (112 + i)).toNat : Int) := by
  rw [UInt8.toNat_ofNat']; omega

theorem atom_c (T : TypeId) (hT : 87 ≠ T) (s : ByteArray) (f m : Nat) (hs : s.size ≤ 1048576)
    (himp : Sub 109 T s f (Fm.impF s.data.toList m (Fm.preF s.data.toList m f) m)) (g : Nat) (st : Fm.St) (w : World) (hR : Rdr w g T s st) (hat : st.1 ≤ s.size) (hfu : s.size - st.1 < f + 1)
    (h126 : Fm.sees s.data.toList st 126 = false) (h91 : Fm.sees s.data.toList st 91 = false) (h60 : Fm.sees s.data.toList st 60 = false) :
    Calls Tryz.prog 176 #[.pointer (some ⟨g, 0, none⟩)] w (Reads w g T s (Fm.preF s.data.toList m (f + 1) st)) := by
  have HI := Lib.hid himp
  have HZ := Lib.hid (size_toList s)
  clear himp
  by_cases h70 : Fm.sees s.data.toList st 70 = true
  · rw [Fm.preF_fls h70]
    go_enter Tryz.func176, Tryz.ntmps176
    go_wp2_with fail
    refine (take_yes g T s st 70 _ _ hR (by omega) hat rfl h70).mono ?_
    rintro e w1 ⟨rfl, hR1, hO1⟩
    go_wp2_with fail
    refine (falsum_c _).mono ?_
    rintro e w2 ⟨v2, rfl, ho2, hg2⟩
    go_wp2_with fail
    go_ret
    exact ⟨_, rfl, ho2.base hO1.size, hR1.grew hg2, hO1.grew hg2⟩
  have h70' : Fm.sees s.data.toList st 70 = false := by simpa using h70
  by_cases h84 : Fm.sees s.data.toList st 84 = true
  · rw [Fm.preF_tru h84]
    clear h70
    go_enter Tryz.func176, Tryz.ntmps176
    go_wp2_with fail
    refine (take_no g T s st 70 _ _ hR (by omega) hat rfl h70').mono ?_
    rintro e w1 ⟨rfl, hR1, hO1⟩
    go_wp2_with fail
    refine (take_yes g T s st 84 _ _ hR1 (by omega) hat rfl h84).mono ?_
    rintro e w2 ⟨rfl, hR2, hO2⟩
    go_wp2_with fail
    refine (truth_c _).mono ?_
    rintro e w3 ⟨v3, rfl, ho3, hg3⟩
    go_wp2_with fail
    go_ret
    exact ⟨_, rfl, ho3.base (Nat.le_trans hO1.size hO2.size), hR2.grew hg3, (hO1.trans hO2).grew hg3⟩
  have h84' : Fm.sees s.data.toList st 84 = false := by simpa using h84
  clear h70 h84
  by_cases h40 : Fm.sees s.data.toList st 40 = true
  · rw [Fm.preF_par h40]
    have hlt := Fm.sees_lt h40
    rw [HZ.out] at hlt
    have hk : Fm.Ok s.data.toList (Fm.step st) (Fm.impF s.data.toList m (Fm.preF s.data.toList m f) m (Fm.step st)) := Fm.impF_ok (fun st h => Fm.preF_ok f st h) m (Fm.step st) (by rw [HZ.out]; exact hlt)
    have e1 : (Fm.step st).1 = st.1 + 1 := rfl
    obtain ⟨k1, k2, k3⟩ := hk
    rw [HZ.out] at k2
    rw [e1] at k1 k3
    have hq := HI.out g (Fm.step st)
    rw [e1] at hq
    have HQ := Lib.hid hq
    clear hq e1 HI
    generalize Fm.impF s.data.toList m (Fm.preF s.data.toList m f) m (Fm.step st) = r at *
    go_enter Tryz.func176, Tryz.ntmps176
    go_wp2_with fail
    refine (take_no g T s st 70 _ _ hR (by omega) hat rfl h70').mono ?_
    rintro e w1 ⟨rfl, hR1, hO1⟩
    go_wp2_with fail
    refine (take_no g T s st 84 _ _ hR1 (by omega) hat rfl h84').mono ?_
    rintro e w2 ⟨rfl, hR2, hO2⟩
    go_wp2_with fail
    refine (take_yes g T s st 40 _ _ hR2 (by omega) hat rfl h40).mono ?_
    rintro e w3 ⟨rfl, hR3, hO3⟩
    go_wp2_with fail
    refine (HQ.out _ hR3 (by omega) (by omega)).mono ?_
    rintro e w4 ⟨v4, rfl, ho4, hR4, hO4⟩
    have hne := own_rdr_ne ho4 hR4 hT
    go_wp2_with fail
    refine (need_c g T s r.2 41 _ _ hR4 (by omega) (by omega) rfl).mono ?_
    rintro e w5 ⟨rfl, hR5, hO5⟩
    go_wp2_with fail
    go_ret
    exact ⟨_, rfl, (ho4.only hO5 hne).base (by have := hO1.size; have := hO2.size; have := hO3.size; omega), hR5, (((hO1.trans hO2).trans hO3).trans hO4).trans hO5⟩
  have h40' : Fm.sees s.data.toList st 40 = false := by simpa using h40
  clear h40 HI
  cases hl : Fm.letter s.data.toList st with
  | some v =>
    rw [Fm.preF_var hl]
    have hv := (Fm.letter_some hl).1
    have hvs := (Fm.letter_some hl).2
    have hno := fun i hi hne => @Fm.letter_ne s.data.toList st v i hl hi hne
    have HN := Lib.hid hno
    clear hno hl
    go_enter Tryz.func176, Tryz.ntmps176
    go_wp2_with fail
    refine (take_no g T s st 70 _ _ hR (by omega) hat rfl h70').mono ?_
    rintro e w1 ⟨rfl, hR1, hO1⟩
    go_wp2_with fail
    refine (take_no g T s st 84 _ _ hR1 (by omega) hat rfl h84').mono ?_
    rintro e w2 ⟨rfl, hR2, hO2⟩
    go_wp2_with fail
    refine (take_no g T s st 40 _ _ hR2 (by omega) hat rfl h40').mono ?_
    rintro e w3 ⟨rfl, hR3, hO3⟩
    go_wp2_with fail
    have hit := World.iter_heap w3 letters 0
    have hR4 : Rdr (w3.iter letters 0) g T s st := hR3.grew ((Grew.refl w3).alloc _)
    have hO4 : Only g w (w3.iter letters 0) := ((hO1.trans hO2).trans hO3).alloc _
    have hgk : g ≠ w3.heap.size := by have := hR3.lt; omega
    have hk : w.heap.size ≤ w3.heap.size := ((hO1.trans hO2).trans hO3).size
    have HW := Lib.hid hit
    clear hit hR3 hO3 hR2 hO2 hR1 hO1
    go_loopg [4, 5] 6 (fun n _ _ wr => ∃ i : Nat, n = 6 - i ∧ i ≤ v ∧ Rdr wr g T s st ∧ Only g w wr ∧ Hid (wr.heap[w3.heap.size]? = some (.stringIter letters i)))
    case atStart => exact ⟨0, rfl, Nat.zero_le _, hR4, hO4, HW.out⟩
    case round =>
      obtain ⟨i, rfl, hiv, hRr, hOr, HX⟩ := hrel
      have hnx := fun ty => next_letter (P := Tryz.prog) wr w3.heap.size i ty HX.out (by omega)
      have HY : Hid ((wr.iterAt w3.heap.size letters (i + 1)).heap[w3.heap.size]? = some (.stringIter letters (i + 1))) := Lib.hid (Lib.iterAt_heap wr w3.heap.size letters i (i + 1) HX.out)
      have hR5 := hRr.iterAt hgk letters (i + 1)
      have hO5 := only_iterAt hOr hk letters (i + 1)
      by_cases hiv2 : i = v
      · subst hiv2
        go_wp2_with fail
        refine (take_yes g T s st _ _ _ hR5 (by omega) hat (letter_byte (by omega)) hvs).mono ?_
        rintro e w4 ⟨rfl, hR6, hO6⟩
        go_wp2_with fail
        refine (variable_c _ _).mono ?_
        rintro e w5 ⟨v5, rfl, ho5, hg5⟩
        go_wp2_with fail
        go_ret
        exact ⟨_, rfl, ho5.base (hO5.trans hO6).size, hR6.grew hg5, (hO5.trans hO6).grew hg5⟩
      · have hs0 := HN.out i (by omega) hiv2
        go_wp2_with fail
        refine (take_no g T s st _ _ _ hR5 (by omega) hat (letter_byte (by omega)) hs0).mono ?_
        rintro e w4 ⟨rfl, hR6, hO6⟩
        have HV : Hid (w4.heap[w3.heap.size]? = some (.stringIter letters (i + 1))) := Lib.hid ((hO6.block (blk_lt HY.out) (Ne.symm hgk)).trans HY.out)
        go_wp2_with fail
        go_roundg (6 - (i + 1))
        case measure => omega
        case rel => exact ⟨i + 1, rfl, by omega, hR6, hO5.trans hO6, HV⟩
  | none =>
    rw [Fm.preF_bad h126 h91 h60 h70' h84' h40' hl]
    have hno := fun i hi => @Fm.letter_none s.data.toList st hl i hi
    have HN := Lib.hid hno
    clear hno hl
    go_enter Tryz.func176, Tryz.ntmps176
    go_wp2_with fail
    refine (take_no g T s st 70 _ _ hR (by omega) hat rfl h70').mono ?_
    rintro e w1 ⟨rfl, hR1, hO1⟩
    go_wp2_with fail
    refine (take_no g T s st 84 _ _ hR1 (by omega) hat rfl h84').mono ?_
    rintro e w2 ⟨rfl, hR2, hO2⟩
    go_wp2_with fail
    refine (take_no g T s st 40 _ _ hR2 (by omega) hat rfl h40').mono ?_
    rintro e w3 ⟨rfl, hR3, hO3⟩
    go_wp2_with fail
    have hit := World.iter_heap w3 letters 0
    have hR4 : Rdr (w3.iter letters 0) g T s st := hR3.grew ((Grew.refl w3).alloc _)
    have hO4 : Only g w (w3.iter letters 0) := ((hO1.trans hO2).trans hO3).alloc _
    have hgk : g ≠ w3.heap.size := by have := hR3.lt; omega
    have hk : w.heap.size ≤ w3.heap.size := ((hO1.trans hO2).trans hO3).size
    have HW := Lib.hid hit
    clear hit hR3 hO3 hR2 hO2 hR1 hO1
    go_loopg [4, 5] 7 (fun n _ _ wr => ∃ i : Nat, n = 7 - i ∧ i ≤ 6 ∧ Rdr wr g T s st ∧ Only g w wr ∧ Hid (wr.heap[w3.heap.size]? = some (.stringIter letters i)))
    case atStart => exact ⟨0, rfl, Nat.zero_le _, hR4, hO4, HW.out⟩
    case round =>
      obtain ⟨i, rfl, hiv, hRr, hOr, HX⟩ := hrel
      by_cases hi6 : i < 6
      · have hnx := fun ty => next_letter (P := Tryz.prog) wr w3.heap.size i ty HX.out hi6
        have HY : Hid ((wr.iterAt w3.heap.size letters (i + 1)).heap[w3.heap.size]? = some (.stringIter letters (i + 1))) := Lib.hid (Lib.iterAt_heap wr w3.heap.size letters i (i + 1) HX.out)
        have hR5 := hRr.iterAt hgk letters (i + 1)
        have hO5 := only_iterAt hOr hk letters (i + 1)
        have hs0 := HN.out i hi6
        go_wp2_with fail
        refine (take_no g T s st _ _ _ hR5 (by omega) hat (letter_byte hi6) hs0).mono ?_
        rintro e w4 ⟨rfl, hR6, hO6⟩
        have HV : Hid (w4.heap[w3.heap.size]? = some (.stringIter letters (i + 1))) := Lib.hid ((hO6.block (blk_lt HY.out) (Ne.symm hgk)).trans HY.out)
        go_wp2_with fail
        go_roundg (7 - (i + 1))
        case measure => omega
        case rel => exact ⟨i + 1, rfl, by omega, hR6, hO5.trans hO6, HV⟩
      · have hi66 : i = 6 := by omega
        subst hi66
        have hnx := fun ty => Lib.run_next_end_at (P := Tryz.prog) wr w3.heap.size letters 6 ty HX.out (by decide)
        have c2 := hRr.bad
        have hf := hRr.free 2
        go_wp2_with fail
        refine (falsum_c _).mono ?_
        rintro e w5 ⟨v5, rfl, ho5, hg5⟩
        go_wp2_with fail
        go_ret
        exact ⟨_, rfl, ho5.base (hOr.setCell _).size, hRr.spoil.grew hg5, (hOr.setCell _).grew hg5⟩

theorem prefix_sub (T : TypeId) (hT : 87 ≠ T) (s : ByteArray) (m : Nat) (hs : s.size ≤ 1048576) (hm : s.size < m) : ∀ f, f ≤ m → Sub 171 T s f (Fm.preF s.data.toList m f) := by
  intro f
  induction f with
  | zero => intro _ g st w _ _ h; omega
  | succ f ih =>
    intro hfm g st w hR hat hfu
    have hp := ih (by omega)
    have hok : ∀ st : Fm.St, st.1 ≤ s.data.toList.length → Fm.Ok s.data.toList st (Fm.preF s.data.toList m f st) := fun st h => Fm.preF_ok f st h
    have hand := and_c T hT s f m _ hs hm hok hp
    have hor := or_c T hT s f m _ hs hm (fun st h => Fm.andF_ok (m := m) hok st h) hand
    have himp := imply_c T hT s f m _ hs hok hor m
    have HA := Lib.hid (fun g st w h1 h2 h3 => atom_c T hT s f m hs (fun g st w h1 h2 h3 => himp g st w h1 h2 (by omega) h3) g st w h1 h2 h3)
    have HP := Lib.hid hp
    have HZ := Lib.hid (size_toList s)
    have HK := Lib.hid hok
    clear ih hp hand hor himp hok
    by_cases h126 : Fm.sees s.data.toList st 126 = true
    · rw [Fm.preF_not h126]
      have hlt := Fm.sees_lt h126
      rw [HZ.out] at hlt
      have e1 : (Fm.step st).1 = st.1 + 1 := rfl
      obtain ⟨k1, k2, k3⟩ := HK.out (Fm.step st) (by rw [HZ.out]; exact hlt)
      rw [HZ.out] at k2
      rw [e1] at k1 k3
      have hq := HP.out g (Fm.step st)
      rw [e1] at hq
      have HQ := Lib.hid hq
      clear hq e1 HA HK HP
      generalize Fm.preF s.data.toList m f (Fm.step st) = r at *
      go_enter Tryz.func171, Tryz.ntmps171
      go_wp2_with fail
      refine (take_yes g T s st 126 _ _ hR (by omega) hat rfl h126).mono ?_
      rintro e w1 ⟨rfl, hR1, hO1⟩
      go_wp2_with fail
      refine (HQ.out _ hR1 (by omega) (by omega)).mono ?_
      rintro e w2 ⟨v2, rfl, ho2, hR2, hO2⟩
      go_wp2_with fail
      refine (negation_c _ r.1 _ ho2.nodes (by omega)).mono ?_
      rintro e w3 ⟨v3, rfl, ho3, hg3⟩
      go_wp2_with fail
      go_ret
      exact ⟨_, rfl, ho3.base (hO1.trans hO2).size, hR2.grew hg3, (hO1.trans hO2).grew hg3⟩
    have h126' : Fm.sees s.data.toList st 126 = false := by simpa using h126
    clear h126
    by_cases h91 : Fm.sees s.data.toList st 91 = true
    · rw [Fm.preF_box h91]
      have hlt := Fm.sees_lt h91
      rw [HZ.out] at hlt
      have e1 : (Fm.step st).1 = st.1 + 1 := rfl
      have hn := Fm.need_pos (s := s.data.toList) (st := Fm.step st) (c := 93) (by rw [HZ.out, e1]; exact hlt)
      rw [HZ.out, e1] at hn
      obtain ⟨n1, n2⟩ := hn
      obtain ⟨k1, k2, k3⟩ := HK.out (Fm.need s.data.toList (Fm.step st) 93) (by rw [HZ.out]; exact n2)
      rw [HZ.out] at k2
      have HQ := Lib.hid (HP.out g (Fm.need s.data.toList (Fm.step st) 93))
      have hat1 : (Fm.step st).1 ≤ s.size := by rw [e1]; omega
      clear e1 HA HK HP
      go_enter Tryz.func171, Tryz.ntmps171
      go_wp2_with fail
      refine (take_no g T s st 126 _ _ hR (by omega) hat rfl h126').mono ?_
      rintro e w1 ⟨rfl, hR1, hO1⟩
      go_wp2_with fail
      refine (take_yes g T s st 91 _ _ hR1 (by omega) hat rfl h91).mono ?_
      rintro e w2 ⟨rfl, hR2, hO2⟩
      go_wp2_with fail
      refine (need_c g T s (Fm.step st) 93 _ _ hR2 (by omega) hat1 rfl).mono ?_
      rintro e w3 ⟨rfl, hR3, hO3⟩
      generalize Fm.need s.data.toList (Fm.step st) 93 = st2 at *
      generalize Fm.preF s.data.toList m f st2 = r at *
      go_wp2_with fail
      refine (HQ.out _ hR3 (by omega) (by omega)).mono ?_
      rintro e w4 ⟨v4, rfl, ho4, hR4, hO4⟩
      go_wp2_with fail
      refine (prefix_c 5 _ r.1 _ ho4.nodes (by omega)).mono ?_
      rintro e w5 ⟨v5, rfl, ho5, hg5⟩
      go_wp2_with fail
      go_ret
      exact ⟨_, rfl, ho5.base (((hO1.trans hO2).trans hO3).trans hO4).size, hR4.grew hg5, (((hO1.trans hO2).trans hO3).trans hO4).grew hg5⟩
    have h91' : Fm.sees s.data.toList st 91 = false := by simpa using h91
    clear h91
    by_cases h60 : Fm.sees s.data.toList st 60 = true
    · rw [Fm.preF_dia h60]
      have hlt := Fm.sees_lt h60
      rw [HZ.out] at hlt
      have e1 : (Fm.step st).1 = st.1 + 1 := rfl
      have hn := Fm.need_pos (s := s.data.toList) (st := Fm.step st) (c := 62) (by rw [HZ.out, e1]; exact hlt)
      rw [HZ.out, e1] at hn
      obtain ⟨n1, n2⟩ := hn
      obtain ⟨k1, k2, k3⟩ := HK.out (Fm.need s.data.toList (Fm.step st) 62) (by rw [HZ.out]; exact n2)
      rw [HZ.out] at k2
      have HQ := Lib.hid (HP.out g (Fm.need s.data.toList (Fm.step st) 62))
      have hat1 : (Fm.step st).1 ≤ s.size := by rw [e1]; omega
      clear e1 HA HK HP
      go_enter Tryz.func171, Tryz.ntmps171
      go_wp2_with fail
      refine (take_no g T s st 126 _ _ hR (by omega) hat rfl h126').mono ?_
      rintro e w1 ⟨rfl, hR1, hO1⟩
      go_wp2_with fail
      refine (take_no g T s st 91 _ _ hR1 (by omega) hat rfl h91').mono ?_
      rintro e w11 ⟨rfl, hR11, hO11⟩
      go_wp2_with fail
      refine (take_yes g T s st 60 _ _ hR11 (by omega) hat rfl h60).mono ?_
      rintro e w2 ⟨rfl, hR2, hO2⟩
      go_wp2_with fail
      refine (need_c g T s (Fm.step st) 62 _ _ hR2 (by omega) hat1 rfl).mono ?_
      rintro e w3 ⟨rfl, hR3, hO3⟩
      generalize Fm.need s.data.toList (Fm.step st) 62 = st2 at *
      generalize Fm.preF s.data.toList m f st2 = r at *
      go_wp2_with fail
      refine (HQ.out _ hR3 (by omega) (by omega)).mono ?_
      rintro e w4 ⟨v4, rfl, ho4, hR4, hO4⟩
      go_wp2_with fail
      refine (prefix_c 6 _ r.1 _ ho4.nodes (by omega)).mono ?_
      rintro e w5 ⟨v5, rfl, ho5, hg5⟩
      go_wp2_with fail
      go_ret
      exact ⟨_, rfl, ho5.base ((((hO1.trans hO11).trans hO2).trans hO3).trans hO4).size, hR4.grew hg5, ((((hO1.trans hO11).trans hO2).trans hO3).trans hO4).grew hg5⟩
    have h60' : Fm.sees s.data.toList st 60 = false := by simpa using h60
    clear h60 HK HP
    have HQ := Lib.hid (fun w hR => HA.out g st w hR hat hfu h126' h91' h60')
    clear HA
    generalize Fm.preF s.data.toList m (f + 1) st = r at *
    go_enter Tryz.func171, Tryz.ntmps171
    go_wp2_with fail
    refine (take_no g T s st 126 _ _ hR (by omega) hat rfl h126').mono ?_
    rintro e w1 ⟨rfl, hR1, hO1⟩
    go_wp2_with fail
    refine (take_no g T s st 91 _ _ hR1 (by omega) hat rfl h91').mono ?_
    rintro e w2 ⟨rfl, hR2, hO2⟩
    go_wp2_with fail
    refine (take_no g T s st 60 _ _ hR2 (by omega) hat rfl h60').mono ?_
    rintro e w3 ⟨rfl, hR3, hO3⟩
    go_wp2_with fail
    refine (HQ.out _ hR3).mono ?_
    rintro e w4 ⟨v4, rfl, ho4, hR4, hO4⟩
    go_wp2_with fail
    go_ret
    exact ⟨_, rfl, ho4.base ((hO1.trans hO2).trans hO3).size, hR4, ((hO1.trans hO2).trans hO3).trans hO4⟩

/-- The program's reader at a text's beginning. -/
theorem imply_top (T : TypeId) (hT : 87 ≠ T) (s : ByteArray) (m : Nat) (hs : s.size ≤ 1048576) (hm : s.size < m) (g : Nat) (w : World) (hR : Rdr w g T s (0, false)) :
    Calls Tryz.prog 109 #[.pointer (some ⟨g, 0, none⟩)] w (Reads w g T s (Fm.parse s.data.toList m)) := by
  have hok : ∀ st : Fm.St, st.1 ≤ s.data.toList.length → Fm.Ok s.data.toList st (Fm.preF s.data.toList m m st) := fun st h => Fm.preF_ok m st h
  have hand := and_c T hT s m m _ hs hm hok (prefix_sub T hT s m hs hm m (Nat.le_refl _))
  have hor := or_c T hT s m m _ hs hm (fun st h => Fm.andF_ok (m := m) hok st h) hand
  exact imply_c T hT s m m _ hs hok hor m g (0, false) w hR (by simp) (by simpa using hm) (by simpa using hm)
end Go.Proofs.YtofeeenjlaljpaaGreat

/- The reference's reader: what l02Imply, l02Or, l02And read is what the plain parser gives. -/
namespace Go.Proofs.YtofeeenjlaljpaaGreat
open Go.RowKit
open Fm (Nd)

theorem l02And_c (T : TypeId) (hT : 87 ≠ T) (s : ByteArray) (f m : Nat) (sub : Fm.St → Fm.Res) (hs : s.size ≤ 1048576) (hm : s.size < m) (hok : ∀ st : Fm.St, st.1 ≤ s.data.toList.length → Fm.Ok s.data.toList st (sub st))
    (hsub : Sub 177 T s f sub) : Sub 172 T s f (fun st => Fm.loop s.data.toList 2 38 sub m (sub st).1 (sub st).2) := by
  intro g st w hR hat hfu
  have HS := Lib.hid hsub
  have HO := Lib.hid hok
  clear hsub hok
  have hsz := size_toList s
  have h0 : Fm.Ok s.data.toList st (sub st) := HO.out st (by rw [hsz]; exact hat)
  show Calls _ _ _ _ (Reads w g T s (Fm.loop s.data.toList 2 38 sub m (sub st).1 (sub st).2))
  obtain ⟨R, hR0⟩ : ∃ R, R = Fm.loop s.data.toList 2 38 sub m (sub st).1 (sub st).2 := ⟨_, rfl⟩
  rw [← hR0]
  have hend := Lib.hid hR0
  clear hR0
  have HZ := Lib.hid hsz
  clear hsz
  go_enter Tryz.func172, Tryz.ntmps172
  go_wp2_with fail
  refine (HS.out g st _ hR hat hfu).mono ?_
  rintro e w1 ⟨v1, rfl, ho1, hR1, hO1⟩
  generalize sub st = r1 at *
  obtain ⟨k1, k2, k3⟩ := h0
  rw [HZ.out] at k2
  go_wp2_with fail
  go_loopg [3] m (fun i v wr => ∃ (a : List Nd) (st' : Fm.St), Own wr w.heap.size v a ∧ Rdr wr g T s st' ∧ Only g w wr ∧ Hid (Fm.loop s.data.toList 2 38 sub i a st' = R) ∧ s.size - st'.1 < i ∧ st.1 ≤ st'.1 ∧ st'.1 ≤ s.size ∧ a.length ≤ 3 * st'.1 + 1)
  case atStart => exact ⟨r1.1, r1.2, ho1, hR1, hO1, hend.out.symm, by omega, by omega, by omega, by omega⟩
  case round =>
    obtain ⟨a, st', hown, hR', hO', hl, hi, hst, hst2, hlen⟩ := hrel
    have hne := own_rdr_ne hown hR' hT
    clear hend ho1 hR1 hO1 k1 k2 k3 hR
    obtain ⟨j, rfl⟩ : ∃ j, gk = j + 1 := ⟨gk - 1, by omega⟩
    by_cases hsee : Fm.sees s.data.toList st' 38 = true
    · have hlt := Fm.sees_lt hsee
      rw [HZ.out] at hlt
      have hl2 : Hid (Fm.loop s.data.toList 2 38 sub j (Fm.join 2 a (sub (Fm.step st')).1) (sub (Fm.step st')).2 = R) := by
        have := hl.out
        rw [Fm.loop, if_pos hsee] at this
        exact this
      obtain ⟨k1, k2, k3⟩ : Fm.Ok s.data.toList (Fm.step st') (sub (Fm.step st')) := HO.out (Fm.step st') (by rw [HZ.out]; exact hlt)
      rw [HZ.out] at k2
      have e1 : (Fm.step st').1 = st'.1 + 1 := rfl
      rw [e1] at k1 k3
      have hfu2 : s.size - (Fm.step st').1 < f := by rw [e1]; omega
      have hat2 : (Fm.step st').1 ≤ s.size := by rw [e1]; omega
      clear hl e1
      go_wp2_with fail
      refine (l02Take_yes g T s st' 38 _ _ hR' (by omega) hst2 rfl hsee).mono ?_
      rintro e w2 ⟨rfl, hR2, hO2⟩
      clear hsee hR'
      generalize Fm.step st' = st2 at *
      go_wp2_with fail
      refine (HS.out g st2 _ hR2 hat2 hfu2).mono ?_
      rintro e w3 ⟨v3, rfl, ho3, hR3, hO3⟩
      generalize sub st2 = r3 at *
      go_wp2_with fail
      refine (l02Pair_c 2 _ _ a r3.1 _ ((hown.only hO2 hne).only hO3 hne).nodes ho3.nodes (by omega)).mono ?_
      rintro e w4 ⟨v4, rfl, ho4, hg4⟩
      go_wp2_with fail
      go_roundg j
      case measure => omega
      case rel => exact ⟨_, r3.2, ho4.base (by have := hO'.size; have := hO2.size; have := hO3.size; omega), hR3.grew hg4, ((hO'.trans hO2).trans hO3).grew hg4, hl2, by omega, by omega, by omega, by simp only [Fm.join, List.length_cons, List.length_append]; omega⟩
    · have hsee' : Fm.sees s.data.toList st' 38 = false := by simpa using hsee
      have hl2 : Hid (R = (a, st')) := by
        have := hl.out
        rw [Fm.loop, if_neg hsee] at this
        exact this.symm
      clear hsee hl
      go_wp2_with fail
      refine (l02Take_no g T s st' 38 _ _ hR' (by omega) hst2 rfl hsee').mono ?_
      rintro e w2 ⟨rfl, hR2, hO2⟩
      go_wp2_with fail
      go_ret
      rw [hl2.out]
      exact ⟨_, rfl, hown.only hO2 hne, hR2, hO'.trans hO2⟩
theorem l02Or_c (T : TypeId) (hT : 87 ≠ T) (s : ByteArray) (f m : Nat) (sub : Fm.St → Fm.Res) (hs : s.size ≤ 1048576) (hm : s.size < m) (hok : ∀ st : Fm.St, st.1 ≤ s.data.toList.length → Fm.Ok s.data.toList st (sub st))
    (hsub : Sub 172 T s f sub) : Sub 169 T s f (fun st => Fm.loop s.data.toList 3 124 sub m (sub st).1 (sub st).2) := by
  intro g st w hR hat hfu
  have HS := Lib.hid hsub
  have HO := Lib.hid hok
  clear hsub hok
  have hsz := size_toList s
  have h0 : Fm.Ok s.data.toList st (sub st) := HO.out st (by rw [hsz]; exact hat)
  show Calls _ _ _ _ (Reads w g T s (Fm.loop s.data.toList 3 124 sub m (sub st).1 (sub st).2))
  obtain ⟨R, hR0⟩ : ∃ R, R = Fm.loop s.data.toList 3 124 sub m (sub st).1 (sub st).2 := ⟨_, rfl⟩
  rw [← hR0]
  have hend := Lib.hid hR0
  clear hR0
  have HZ := Lib.hid hsz
  clear hsz
  go_enter Tryz.func169, Tryz.ntmps169
  go_wp2_with fail
  refine (HS.out g st _ hR hat hfu).mono ?_
  rintro e w1 ⟨v1, rfl, ho1, hR1, hO1⟩
  generalize sub st = r1 at *
  obtain ⟨k1, k2, k3⟩ := h0
  rw [HZ.out] at k2
  go_wp2_with fail
  go_loopg [3] m (fun i v wr => ∃ (a : List Nd) (st' : Fm.St), Own wr w.heap.size v a ∧ Rdr wr g T s st' ∧ Only g w wr ∧ Hid (Fm.loop s.data.toList 3 124 sub i a st' = R) ∧ s.size - st'.1 < i ∧ st.1 ≤ st'.1 ∧ st'.1 ≤ s.size ∧ a.length ≤ 3 * st'.1 + 1)
  case atStart => exact ⟨r1.1, r1.2, ho1, hR1, hO1, hend.out.symm, by omega, by omega, by omega, by omega⟩
  case round =>
    obtain ⟨a, st', hown, hR', hO', hl, hi, hst, hst2, hlen⟩ := hrel
    have hne := own_rdr_ne hown hR' hT
    clear hend ho1 hR1 hO1 k1 k2 k3 hR
    obtain ⟨j, rfl⟩ : ∃ j, gk = j + 1 := ⟨gk - 1, by omega⟩
    by_cases hsee : Fm.sees s.data.toList st' 124 = true
    · have hlt := Fm.sees_lt hsee
      rw [HZ.out] at hlt
      have hl2 : Hid (Fm.loop s.data.toList 3 124 sub j (Fm.join 3 a (sub (Fm.step st')).1) (sub (Fm.step st')).2 = R) := by
        have := hl.out
        rw [Fm.loop, if_pos hsee] at this
        exact this
      obtain ⟨k1, k2, k3⟩ : Fm.Ok s.data.toList (Fm.step st') (sub (Fm.step st')) := HO.out (Fm.step st') (by rw [HZ.out]; exact hlt)
      rw [HZ.out] at k2
      have e1 : (Fm.step st').1 = st'.1 + 1 := rfl
      rw [e1] at k1 k3
      have hfu2 : s.size - (Fm.step st').1 < f := by rw [e1]; omega
      have hat2 : (Fm.step st').1 ≤ s.size := by rw [e1]; omega
      clear hl e1
      go_wp2_with fail
      refine (l02Take_yes g T s st' 124 _ _ hR' (by omega) hst2 rfl hsee).mono ?_
      rintro e w2 ⟨rfl, hR2, hO2⟩
      clear hsee hR'
      generalize Fm.step st' = st2 at *
      go_wp2_with fail
      refine (HS.out g st2 _ hR2 hat2 hfu2).mono ?_
      rintro e w3 ⟨v3, rfl, ho3, hR3, hO3⟩
      generalize sub st2 = r3 at *
      go_wp2_with fail
      refine (l02Pair_c 3 _ _ a r3.1 _ ((hown.only hO2 hne).only hO3 hne).nodes ho3.nodes (by omega)).mono ?_
      rintro e w4 ⟨v4, rfl, ho4, hg4⟩
      go_wp2_with fail
      go_roundg j
      case measure => omega
      case rel => exact ⟨_, r3.2, ho4.base (by have := hO'.size; have := hO2.size; have := hO3.size; omega), hR3.grew hg4, ((hO'.trans hO2).trans hO3).grew hg4, hl2, by omega, by omega, by omega, by simp only [Fm.join, List.length_cons, List.length_append]; omega⟩
    · have hsee' : Fm.sees s.data.toList st' 124 = false := by simpa using hsee
      have hl2 : Hid (R = (a, st')) := by
        have := hl.out
        rw [Fm.loop, if_neg hsee] at this
        exact this.symm
      clear hsee hl
      go_wp2_with fail
      refine (l02Take_no g T s st' 124 _ _ hR' (by omega) hst2 rfl hsee').mono ?_
      rintro e w2 ⟨rfl, hR2, hO2⟩
      go_wp2_with fail
      go_ret
      rw [hl2.out]
      exact ⟨_, rfl, hown.only hO2 hne, hR2, hO'.trans hO2⟩

theorem l02Imply_c (T : TypeId) (hT : 87 ≠ T) (s : ByteArray) (f m : Nat) (sub : Fm.St → Fm.Res) (hs : s.size ≤ 1048576) (hok : ∀ st : Fm.St, st.1 ≤ s.data.toList.length → Fm.Ok s.data.toList st (sub st))
    (hsub : Sub 169 T s f (Fm.orF s.data.toList m sub)) : ∀ (i : Nat) (g : Nat) (st : Fm.St) (w : World), Rdr w g T s st → st.1 ≤ s.size → s.size - st.1 < i → s.size - st.1 < f →
      Calls Tryz.prog 164 #[.pointer (some ⟨g, 0, none⟩)] w (Reads w g T s (Fm.impF s.data.toList m sub i st)) := by
  intro i
  induction i with
  | zero => intro g st w _ _ h; omega
  | succ i ih =>
    intro g st w hR hat hi hfu
    have HS := Lib.hid hsub
    have HI := Lib.hid ih
    clear hsub ih
    have hsz := size_toList s
    have h0 : Fm.Ok s.data.toList st (Fm.orF s.data.toList m sub st) := Fm.orF_ok hok st (by rw [hsz]; exact hat)
    have hy := @Fm.impF_yes s.data.toList m i sub st
    have hn := @Fm.impF_no s.data.toList m i sub st
    have hk := fun st h => Fm.impF_ok (m := m) hok i st h
    have HK := Lib.hid hk
    have HZ := Lib.hid hsz
    clear hsz hok hk
    have HC := fun g h1 => HS.out g st w h1 hat hfu
    have HD := Lib.hid HC
    clear HC HS
    generalize Fm.orF s.data.toList m sub st = r1 at *
    obtain ⟨k1, k2, k3⟩ := h0
    rw [HZ.out] at k2
    by_cases hsee : Fm.sees s.data.toList r1.2 62 = true
    · have hlt := Fm.sees_lt hsee
      rw [HZ.out] at hlt
      have e1 : (Fm.step r1.2).1 = r1.2.1 + 1 := rfl
      obtain ⟨q1, q2, q3⟩ := HK.out (Fm.step r1.2) (by rw [HZ.out, e1]; exact hlt)
      rw [HZ.out] at q2
      rw [e1] at q1 q3
      have hq := HI.out g (Fm.step r1.2)
      rw [e1] at hq
      have HQ := Lib.hid hq
      rw [hy hsee]
      clear hy hn HI hq HK e1
      go_enter Tryz.func164, Tryz.ntmps164
      go_wp2_with fail
      refine (HD.out g hR).mono ?_
      rintro e w1 ⟨v1, rfl, ho1, hR1, hO1⟩
      have hne := own_rdr_ne ho1 hR1 hT
      go_wp2_with fail
      refine (l02Take_yes g T s r1.2 62 _ _ hR1 (by omega) (by omega) rfl hsee).mono ?_
      rintro e w2 ⟨rfl, hR2, hO2⟩
      go_wp2_with fail
      refine (HQ.out _ hR2 (by omega) (by omega) (by omega)).mono ?_
      rintro e w3 ⟨v3, rfl, ho3, hR3, hO3⟩
      generalize Fm.impF s.data.toList m sub i (Fm.step r1.2) = r3 at *
      go_wp2_with fail
      refine (l02Pair_c 4 _ _ r1.1 r3.1 _ ((ho1.only hO2 hne).only hO3 hne).nodes ho3.nodes (by omega)).mono ?_
      rintro e w4 ⟨v4, rfl, ho4, hg4⟩
      go_wp2_with fail
      go_ret
      exact ⟨_, rfl, ho4.base (by have := hO1.size; have := hO2.size; have := hO3.size; omega), hR3.grew hg4, ((hO1.trans hO2).trans hO3).grew hg4⟩
    · have hsee' : Fm.sees s.data.toList r1.2 62 = false := by simpa using hsee
      rw [hn hsee']
      clear hy hn HI HK hsee
      go_enter Tryz.func164, Tryz.ntmps164
      go_wp2_with fail
      refine (HD.out g hR).mono ?_
      rintro e w1 ⟨v1, rfl, ho1, hR1, hO1⟩
      have hne := own_rdr_ne ho1 hR1 hT
      go_wp2_with fail
      refine (l02Take_no g T s r1.2 62 _ _ hR1 (by omega) (by omega) rfl hsee').mono ?_
      rintro e w2 ⟨rfl, hR2, hO2⟩
      go_wp2_with fail
      go_ret
      exact ⟨_, rfl, ho1.only hO2 hne, hR2, hO1.trans hO2⟩

end Go.Proofs.YtofeeenjlaljpaaGreat
