/- Texts in one file: Bt Base Parse0 Nodes RowLem Ints MbT MbV Bx Parse1 Tree Fv DecT NisT NisL AppI MbB MbM MbS MbF MbE Make MbW MbR MbX MbH Range MbP MbQ MbSq MbO MbMl Vm EncI Lit Join TakeP WalkP WalkA. -/
import Derived.WalkKit
import Derived.Laws.BitsLemmas
import Derived.Laws.Bits64
import Derived.WalkSpells
import Derived.WalkLawsBesides
import Derived.Lib.Hide
import Derived.Deep.Draws
import Derived.Deep.AppendLies
import Derived.Maps.AppendAt
import Derived.Lib.AppendZerosOnto
import Derived.Test.YtefkgomecpnpbaaGreatProg
import Derived.Deep.RegionHeld3
import Derived.Deep.QuietTactic
import Derived.BigQuiet
import Derived.Deep.LoopGhost
import Derived.Deep.OwnRows
import Derived.Outline
import Derived.Lib.SliceRun
import Derived.Lib.SlicesS
import Derived.Shelf.Abstract
import Derived.Lib.OthersKept
set_option linter.all false

/- Masks: bit operations on int64 that are not negative. No program is in sight. -/
namespace Go.Proofs.YtefkgomecpnpbaaGreat
open Go.RowKit

theorem ofInt_64 (a : Nat) (ha : a < 9223372036854775808) : (BitVec.ofInt 64 (a : Int)).toNat = a := by
  rw [BitVec.ofInt_natCast, BitVec.toNat_ofNat]; exact Nat.mod_eq_of_lt (by omega)
theorem and_i64 (a b : Nat) (ha : a < 9223372036854775808) (hb : b < 9223372036854775808) : bits .and .i64 (a : Int) (b : Int) = ((a &&& b : Nat) : Int) := by
  have hx : a &&& b < 2 ^ 63 := Nat.and_lt_two_pow _ (by omega)
  show IntKind.i64.wrap ((BitVec.ofInt 64 (a : Int) &&& BitVec.ofInt 64 (b : Int)).toNat : Int) = _
  rw [BitVec.toNat_and, ofInt_64 a ha, ofInt_64 b hb, IntKind.wrap_i64]
  omega
theorem or_i64 (a b : Nat) (ha : a < 9223372036854775808) (hb : b < 9223372036854775808) : bits .or .i64 (a : Int) (b : Int) = ((a ||| b : Nat) : Int) := by
  have hx : a ||| b < 2 ^ 63 := Nat.or_lt_two_pow (by omega) (by omega)
  show IntKind.i64.wrap ((BitVec.ofInt 64 (a : Int) ||| BitVec.ofInt 64 (b : Int)).toNat : Int) = _
  rw [BitVec.toNat_or, ofInt_64 a ha, ofInt_64 b hb, IntKind.wrap_i64]
  omega
/-- The members of a that are none of b's. -/
def dif (a b : Nat) : Nat := a ^^^ (a &&& b)
theorem dif_bit (a b i : Nat) : (dif a b).testBit i = (a.testBit i && !b.testBit i) := by
  unfold dif
  rw [Nat.testBit_xor, Nat.testBit_and]
  cases a.testBit i <;> cases b.testBit i <;> rfl
theorem andNot_i64 (a b : Nat) (ha : a < 9223372036854775808) (hb : b < 9223372036854775808) : bits .andNot .i64 (a : Int) (b : Int) = ((dif a b : Nat) : Int) := by
  have e : (BitVec.ofInt 64 (a : Int) &&& ~~~BitVec.ofInt 64 (b : Int)).toNat = dif a b := by
    apply Nat.eq_of_testBit_eq
    intro i
    rw [dif_bit, BitVec.testBit_toNat, BitVec.getLsbD_and, BitVec.getLsbD_not, ← BitVec.testBit_toNat, ← BitVec.testBit_toNat, ofInt_64 a ha, ofInt_64 b hb]
    by_cases hi : i < 64
    · simp [hi]
    · have : a.testBit i = false := Nat.testBit_lt_two_pow (Nat.lt_of_lt_of_le ha (Nat.le_trans (by decide : 9223372036854775808 ≤ 2 ^ 64) (Nat.pow_le_pow_right (by omega) (by omega))))
      simp [this]
  have hx : dif a b < 2 ^ 63 := by
    unfold dif
    exact Nat.xor_lt_two_pow (by omega) (Nat.and_lt_two_pow _ (by omega))
  show IntKind.i64.wrap ((BitVec.ofInt 64 (a : Int) &&& ~~~BitVec.ofInt 64 (b : Int)).toNat : Int) = _
  rw [e, IntKind.wrap_i64]
  omega
/-- The i-th bit, as the code asks for it. -/
theorem bit_i64 (m i : Nat) (hm : m < 9223372036854775808) : (bits .and .i64 ((m / 2 ^ i : Nat) : Int) 1 == 1) = m.testBit i := by
  have h1 : m / 2 ^ i < 9223372036854775808 := Nat.lt_of_le_of_lt (Nat.div_le_self _ _) hm
  have h2 := and_i64 (m / 2 ^ i) 1 h1 (by decide)
  rw [show ((1 : Nat) : Int) = 1 from rfl] at h2
  rw [h2, Nat.and_one_is_mod, Nat.testBit_eq_decide_div_mod_eq]
  rcases Nat.mod_two_eq_zero_or_one (m / 2 ^ i) with h | h
  · rw [h]; rfl
  · rw [h]; rfl
theorem shr_i64 (m i : Nat) : ((m : Int).fdiv (2 ^ i)) = ((m / 2 ^ i : Nat) : Int) := by
  rw [Int.fdiv_eq_ediv_of_nonneg _ (by exact Int.le_of_lt (Int.pow_pos (by omega)))]
  rw [Int.natCast_ediv, Int.natCast_pow]
  rfl
/-- The members of a mask below n, ascending. -/
def mem (m n : Nat) : List Int := ((List.range n).filter m.testBit).map fun i : Nat => (i : Int)
theorem mem_zero (m : Nat) : mem m 0 = [] := rfl
theorem mem_yes {m n : Nat} (h : m.testBit n = true) : mem m (n + 1) = mem m n ++ [(n : Int)] := by
  unfold mem
  rw [List.range_succ, List.filter_append, List.map_append]
  simp [h]
theorem mem_no {m n : Nat} (h : m.testBit n = false) : mem m (n + 1) = mem m n := by
  unfold mem
  rw [List.range_succ, List.filter_append, List.map_append]
  simp [h]
theorem mem_len (m n : Nat) : (mem m n).length ≤ n := by
  unfold mem
  rw [List.length_map]
  have := List.length_filter_le m.testBit (List.range n)
  simpa using this
theorem mem_mem (m n : Nat) (x : Int) : x ∈ mem m n ↔ ∃ i : Nat, i < n ∧ m.testBit i = true ∧ x = (i : Int) := by
  unfold mem
  rw [List.mem_map]
  constructor
  · rintro ⟨i, hi, rfl⟩
    rw [List.mem_filter, List.mem_range] at hi
    exact ⟨i, hi.1, hi.2, rfl⟩
  · rintro ⟨i, hi, hb, rfl⟩
    exact ⟨i, by rw [List.mem_filter, List.mem_range]; exact ⟨hi, hb⟩, rfl⟩
/-- Above its highest bit a mask has no members. -/
theorem mem_top {m n : Nat} (h : m / 2 ^ n = 0) : ∀ k, n ≤ k → mem m k = mem m n := by
  intro k hk
  induction k with
  | zero =>
    obtain rfl : n = 0 := by omega
    rfl
  | succ k ih =>
    by_cases he : n = k + 1
    · rw [he]
    · have hb : m.testBit k = false := by
        have hlt : m < 2 ^ n := by
          rcases Nat.lt_or_ge m (2 ^ n) with h1 | h1
          · exact h1
          · have := Nat.div_pos h1 (Nat.pow_pos (by omega)); omega
        exact Nat.testBit_lt_two_pow (Nat.lt_of_lt_of_le hlt (Nat.pow_le_pow_right (by omega) (by omega)))
      rw [mem_no hb, ih (by omega)]
end Go.Proofs.YtefkgomecpnpbaaGreat

/- Words for memory: what a call leaves as it was, a slice that reads as a row of cells, an append onto a row of the call's own. No program is in sight. -/
namespace Go.Proofs.YtefkgomecpnpbaaGreat
open Go.RowKit

/-- Nothing that was there has changed; there may be new blocks. -/
def Grew (a b : World) : Prop := Below a.heap.size a b
theorem Grew.refl (w : World) : Grew w w := Below.refl _ _
theorem Grew.size {a b : World} (h : Grew a b) : a.heap.size ≤ b.heap.size := Below.size h
theorem Grew.trans {a b c : World} (h : Grew a b) (k : Grew b c) : Grew a c := Below.trans h (Below.mono k (Below.size h))
theorem Grew.drew {a b : World} (h : Grew a b) : Grew a b.drew := Below.drew h
theorem Grew.drewN {a b : World} (h : Grew a b) (n : Nat) : Grew a (b.drewN n) := ⟨h.os, h.tape, h.output, h.size, h.block⟩
theorem Grew.alloc {a b : World} (h : Grew a b) (o : Obj) : Grew a (b.alloc o) := Below.alloc h (Below.size h) o
theorem Grew.of_drew {a b : World} (h : Grew a.drew b) : Grew a b := ⟨h.os, h.tape, h.output, h.size, h.block⟩
theorem Grew.of_drewN {a b : World} {n : Nat} (h : Grew (a.drewN n) b) : Grew a b := ⟨h.os, h.tape, h.output, h.size, h.block⟩
theorem Grew.of_alloc {a b : World} {o : Obj} (h : Grew (a.alloc o) b) : Grew a b := ((Grew.refl a).alloc o).trans h
theorem Grew.setCell {a b : World} (h : Grew a b) {p : Addr} (hp : a.heap.size ≤ p.block) (u : Value) : Grew a (b.setCell p u) := Below.setCell h hp u
theorem Grew.cell {a b : World} (h : Grew a b) {p : Addr} (hp : p.block < a.heap.size) : b.cell? p = a.cell? p := Below.cell h hp
theorem Grew.block {a b : World} (h : Grew a b) {k : Nat} (hp : k < a.heap.size) : b.heap[k]? = a.heap[k]? := Below.block h k hp
theorem Grew.grown {a b c : World} {row : Option Nat} (h : Grew a b) (hg : b.grownBy c row) (hr : ∀ k, row = some k → a.heap.size ≤ k) : Grew a c := Below.grown h hg (Below.size h) hr
theorem Grew.by_ {a b : World} (h : Grew a b) (row : Option Nat) : a.grownBy b row := ⟨h.os, h.tape, h.output, h.size, fun _ hi _ => h.block hi⟩
theorem Grew.below {a b : World} (h : Grew a b) : Below a.heap.size a b := h

/-- Of what was there block g alone may have changed. -/
def Only (g : Nat) (a b : World) : Prop := a.grownBy b (some g)
theorem Only.refl (g : Nat) (w : World) : Only g w w := World.grownBy.refl w _
theorem Only.size {g : Nat} {a b : World} (h : Only g a b) : a.heap.size ≤ b.heap.size := World.grownBy.size h
theorem Only.trans {g : Nat} {a b c : World} (h : Only g a b) (k : Only g b c) : Only g a c := World.grownBy.trans h k
theorem Only.drew {g : Nat} {a b : World} (h : Only g a b) : Only g a b.drew := ⟨h.os, h.tape, h.output, h.size, h.block⟩
theorem Only.drewN {g : Nat} {a b : World} (h : Only g a b) (n : Nat) : Only g a (b.drewN n) := ⟨h.os, h.tape, h.output, h.size, h.block⟩
theorem Grew.only {g : Nat} {a b : World} (h : Grew a b) : Only g a b := h.by_ _
theorem Only.grew {g : Nat} {a b c : World} (h : Only g a b) (k : Grew b c) : Only g a c := Only.trans h k.only
theorem Only.alloc {g : Nat} {a b : World} (h : Only g a b) (o : Obj) : Only g a (b.alloc o) := h.grew ((Grew.refl b).alloc o)
theorem Only.setCell {g o : Nat} {a b : World} (h : Only g a b) (u : Value) : Only g a (b.setCell ⟨g, o, none⟩ u) :=
  ⟨h.os, h.tape, h.output, by simpa [World.setCell] using h.size, fun _ hi hne => (Below.heap_setCell b ⟨g, o, none⟩ u _ (by rintro rfl; exact hne rfl)).trans (World.grownBy.block h _ hi hne)⟩
theorem Only.block {g : Nat} {a b : World} (h : Only g a b) {k : Nat} (hk : k < a.heap.size) (hne : k ≠ g) : b.heap[k]? = a.heap[k]? :=
  World.grownBy.block h k hk (fun e => hne (by injection e))
theorem Only.cell {g : Nat} {a b : World} (h : Only g a b) {p : Addr} (hk : p.block < a.heap.size) (hne : p.block ≠ g) : b.cell? p = a.cell? p :=
  World.cell?_of_block (h.block hk hne)
/-- Where the block is newer than a, nothing of a has changed. -/
theorem Only.grew_of {g : Nat} {a b c : World} (h : Only g b c) (k : Grew a b) (hg : a.heap.size ≤ g) : Grew a c :=
  ⟨h.os.trans k.os, h.tape.trans k.tape, h.output.trans k.output, Nat.le_trans k.size h.size, fun i hi => (h.block (Nat.lt_of_lt_of_le hi k.size) (by omega)).trans (k.block hi)⟩

/-- The slice value v has n elements of k cells each, which hold xs. -/
def Rd (w : World) (k : Nat) (v : Value) (n : Nat) (xs : List Value) : Prop :=
  xs.length = n * k ∧ n ≤ 9223372036854775807 ∧
  ((v = .slice none 0 0 ∧ n = 0) ∨ ∃ b o c, v = .slice (some ⟨b, o, none⟩) n c ∧ n ≤ c ∧ c ≤ 9223372036854775807 ∧ b < w.heap.size ∧ ∀ j u, xs[j]? = some u → w.cell? ⟨b, o + j, none⟩ = some u)

theorem Rd.grew {w w' : World} {k n : Nat} {v : Value} {xs : List Value} (h : Rd w k v n xs) (hb : Grew w w') : Rd w' k v n xs := by
  obtain ⟨h1, h2, h3⟩ := h
  refine ⟨h1, h2, ?_⟩
  rcases h3 with h3 | ⟨b, o, c, rfl, h4, h5, h6, h7⟩
  · exact .inl h3
  · exact .inr ⟨b, o, c, rfl, h4, h5, Nat.lt_of_lt_of_le h6 hb.size, fun j u hu => (hb.cell (p := ⟨b, o + j, none⟩) h6).trans (h7 j u hu)⟩

theorem Rd.nil_ (w : World) (k : Nat) : Rd w k (.slice none 0 0) 0 [] := ⟨by simp, by omega, .inl ⟨rfl, rfl⟩⟩

theorem Rd.of_own {w : World} {base : Nat} {e : TypeId} {k n : Nat} {v : Value} {xs : List Value} (h : w.ownsRow base e k v n xs) : Rd w k v n xs := by
  obtain ⟨h1, h2⟩ := h
  rcases h2 with ⟨rfl, rfl⟩ | ⟨g, cap, cur, rfl, hb, hg, hnc, hcm, hcs, ht⟩
  · exact ⟨h1, by omega, .inl ⟨rfl, rfl⟩⟩
  · refine ⟨h1, Nat.le_trans hnc hcm, .inr ⟨g, 0, cap, rfl, hnc, hcm, (Array.getElem?_eq_some_iff.1 hg).1, fun j u hu => ?_⟩⟩
    rw [Nat.zero_add, cell_of_row w g j cur e (0, 0) hg]
    rw [← ht, List.getElem?_take] at hu
    split at hu
    · simpa using hu
    · cases hu

/-- An append of what reads as a row, nil or not, onto a row of the call's own. -/
theorem wpList_append_rd {P : Program} (w : World) {ops : Array Oper} {rest : List Oper} {o : Oper} {a : Act} {Q : Exit → Act → World → Prop} (hgd : o.guard = none) (s x : Operand) (t : TypeId)
    (ho : o.op = .call { callee := .builtin .append, args := #[s, x], argTypes := #[t, t] })
    (base : Nat) (e : TypeId) (i : TypeInfo) (z : Value) (size bytes : Nat) (ht : P.underlying t = some (.slice e)) (hi : P.info? e = some i) (hz : i.zero = some z)
    (hsize : i.size = size) (hby : i.bytes = bytes) (hzs : z.cells.size = size) (hsz : 0 < size)
    (v : Value) (n : Nat) (xs : List Value) (hs : a.eval s = v) (hown : w.ownsRow base e size v n xs)
    (vx : Value) (m : Nat) (news : List Value) (hx : a.eval x = vx) (hr : Rd w size vx m news) (h1 : ∀ u ∈ news, u.oneCell' = true)
    (h63 : n + m ≤ maxLen) (hbytes : (n + m) * bytes ≤ 140737488355328) (hbase : base ≤ w.heap.size)
    (h : ∀ v' w', w'.ownsRow base e size v' (n + m) (xs ++ news) → w.grownBy w' v.ownBlock → (v'.ownBlock = v.ownBlock ∨ v'.ownBlock = some w.heap.size) → wpList P ops Q rest (a.put o.dst v') w') :
    wpList P ops Q (o :: rest) a w := by
  obtain ⟨hl, _, hr⟩ := hr
  rcases hr with ⟨rfl, rfl⟩ | ⟨b, of, c, rfl, _, _, _, hc⟩
  · have hnews : news = [] := List.eq_nil_of_length_eq_zero (by simpa using hl)
    subst hnews
    refine wpList_plain hgd fun K hK => ?_
    have hrun := run_append_owned_none (P := P) w base t o.type e i size ht hi v n xs hown
    unfold Oper.wp execOp
    simp only [ho, resolve, invoke, builtin, Sem.run_bind, Sem.run_pure, Result.andThen_ok, List.map_toArray, List.map_cons, List.map_nil, hs, hx, hrun]
    exact hK _ _ (h v w (by simpa using hown) (World.grownBy.refl _ _) (.inl rfl))
  · exact wpList_append_own_at w hgd s x t ho base e i z size bytes ht hi hz hsize hby hzs hsz v n xs hs hown ⟨b, of, none⟩ m c news hx hl (fun j u hu => by rw [Addr.add_lit]; exact hc j u hu) h1 h63 hbytes hbase fun v' w' h2 h3 _ h4 => h v' w' h2 h3 h4

/-- Of a row of the call's own nothing turns while another block is written. -/
theorem own_only {w w' : World} {base : Nat} {e : TypeId} {k n g : Nat} {v : Value} {xs : List Value} (h : w.ownsRow base e k v n xs) (hb : Only g w w') (hne : v.ownBlock ≠ some g) : w'.ownsRow base e k v n xs :=
  h.kept hb (.inr hne)
theorem own_grew {w w' : World} {base : Nat} {e : TypeId} {k n : Nat} {v : Value} {xs : List Value} (h : w.ownsRow base e k v n xs) (hb : Grew w w') : w'.ownsRow base e k v n xs :=
  h.kept (row := none) (hb.by_ _) (by cases hv : v.ownBlock <;> simp)
theorem own_base {w : World} {base base' : Nat} {e : TypeId} {k n : Nat} {v : Value} {xs : List Value} (h : w.ownsRow base e k v n xs) (hb : base' ≤ base) : w.ownsRow base' e k v n xs := by
  obtain ⟨h1, h2⟩ := h
  refine ⟨h1, ?_⟩
  rcases h2 with h2 | ⟨g, cap, cur, h3, h4, h5⟩
  · exact .inl h2
  · exact .inr ⟨g, cap, cur, h3, by omega, h5⟩
/-- A row of the call's own is no block of another element type. -/
theorem own_ne {w : World} {base : Nat} {e e' : TypeId} {k n g : Nat} {v : Value} {xs : List Value} {cs : Array Value} (h : w.ownsRow base e k v n xs) (hg : w.heap[g]? = some (.cells cs e' (0, 0))) (hne : e ≠ e') : v.ownBlock ≠ some g := by
  rcases h.2 with ⟨rfl, _⟩ | ⟨g', cap, cur, rfl, _, hh, _⟩
  · simp [Value.ownBlock]
  · intro he
    have : g' = g := by simpa [Value.ownBlock] using he
    subst this
    rw [hh] at hg
    injection hg with hg
    injection hg with _ ht
    exact hne ht
theorem own_of_ge {w : World} {base g : Nat} {e : TypeId} {k n : Nat} {v : Value} {xs : List Value} (h : w.ownsRow base e k v n xs) (hv : v.ownBlock = some g) : base ≤ g := (h.lt g hv).1
/-- Two rows of the call's own, one newer than the other's world. -/
theorem own_new_ne {w w' : World} {base : Nat} {e e' : TypeId} {k n k' n' : Nat} {v v' : Value} {xs xs' : List Value} (h : w.ownsRow base e k v n xs) (h' : w'.ownsRow w.heap.size e' k' v' n' xs') (g : Nat) (hg : v'.ownBlock = some g) : v.ownBlock ≠ some g := by
  intro hv
  have h1 := (h.lt g hv).2
  have h2 := (h'.lt g hg).1
  omega

/-- A store into a block that is known whole. -/
theorem blk_set {w : World} {g : Nat} {t : TypeId} {cs : Array Value} (h : w.heap[g]? = some (.cells cs t (0, 0))) (i : Nat) (u : Value) : (w.setCell ⟨g, i, none⟩ u).heap[g]? = some (.cells (cs.setIfInBounds i u) t (0, 0)) := by
  simp [World.setCell, Array.getElem?_modify, h]
theorem blk_frozen {w : World} {g : Nat} {t : TypeId} {cs : Array Value} (h : w.heap[g]? = some (.cells cs t (0, 0))) (i : Nat) : w.frozen? ⟨g, i, none⟩ = false := by simp [World.frozen?, h]
theorem blk_cell {w : World} {g : Nat} {t : TypeId} {cs : Array Value} (h : w.heap[g]? = some (.cells cs t (0, 0))) (i : Nat) : w.cell? ⟨g, i, none⟩ = cs[i]? := cell_of_row w g i cs t (0, 0) h
theorem blk_lt {w : World} {g : Nat} {o : Obj} (h : w.heap[g]? = some o) : g < w.heap.size := (Array.getElem?_eq_some_iff.1 h).1
theorem blk_new (w : World) (o : Obj) : (w.alloc o).heap[w.heap.size]? = some o := heap_alloc_new w o
/-- Two cells of an array are written: the pairs below stay, the new pair stands there. -/
theorem pair_step {cur : Array Value} {F G : Nat → Value} {j : Nat} (hs : j * 2 + 1 < cur.size) (h : ∀ i, i < j → cur[i * 2]? = some (F i) ∧ cur[i * 2 + 1]? = some (G i)) :
    ∀ i, i < j + 1 → ((cur.setIfInBounds (j * 2) (F j)).setIfInBounds (j * 2 + 1) (G j))[i * 2]? = some (F i) ∧ ((cur.setIfInBounds (j * 2) (F j)).setIfInBounds (j * 2 + 1) (G j))[i * 2 + 1]? = some (G i) := by
  intro i hi
  simp only [Array.getElem?_setIfInBounds, Array.size_setIfInBounds]
  rcases Nat.lt_or_ge i j with hk | hk
  · rw [if_neg (by omega), if_neg (by omega), if_neg (by omega), if_neg (by omega)]
    exact h i hk
  · obtain rfl : i = j := by omega
    rw [if_neg (by omega), if_pos rfl, if_pos (by omega), if_pos rfl, if_pos (by omega)]
    exact ⟨rfl, rfl⟩

/-- 'append([]T(nil), make([]T, n)...)', n not 0. -/
theorem run_grow_nil {P : Program} (w : World) (t tn ty e : TypeId) (i : TypeInfo) (z : Value) (size : Nat) (ht : P.underlying t = some (.slice e)) (htn : P.underlying tn = some (.int .i64)) (hi : P.info? e = some i) (hz : i.zero = some z) (hsize : i.size = size) (hzs : z.cells.size = size) (hs : 0 < size)
    (n : Nat) (h0 : 0 < n) (hb : n * i.bytes ≤ 140737488355328) (h63 : n ≤ 4611686018427387904) :
    ∃ G cs, n ≤ G ∧ G ≤ 9223372036854775807 ∧ cs.size = G * size ∧ (Builtin.append_ #[t, tn] ty #[.slice none 0 0, .int .i64 n]).run P w = .ok (.slice (some ⟨w.heap.size, 0, none⟩) n G) (w.drew.alloc (.cells cs e)) := by
  have h := Lib.run_append_grow_zeros (P := P) w t tn ty e i z .i64 .i64 ht htn hi hz none 0 0 [] (run_firstCells_none w.drew i.size 0 0 0) n h0 (by omega) (by omega) (by omega) (by omega) (by
    have := growslice_fits (need := 0 + n) (old := 0) (bytes := i.bytes) (by omega) (by simpa using hb)
    exact this)
  simp only [Nat.zero_add] at h
  have hge := grownCap_ge w n 0 e
  have hle := grownCap_le_maxLen w n 0 e (by unfold maxLen; omega)
  unfold maxLen at hle
  refine ⟨_, _, hge, hle, ?_, h⟩
  simp only [Array.size_append, size_zeroCells, hzs, List.size_toArray, List.length_nil, Nat.zero_add, ← Nat.add_mul]
  congr 1
  omega

end Go.Proofs.YtefkgomecpnpbaaGreat

/- The parser of formulas as a plain function on lists of bytes. No program is in sight. -/
namespace Go.Proofs.YtefkgomecpnpbaaGreat
namespace Fm

/-- A node: its kind and its symbol. -/
abbrev Nd := Int × Int

def falsum : List Nd := [(1, 0)]
def truth : List Nd := [(4, 0), (1, 0), (1, 0)]
def vari (v : Int) : List Nd := [(0, v)]
def join (k : Int) (a b : List Nd) : List Nd := (k, 0) :: (a ++ b)
def pre (k : Int) (a : List Nd) : List Nd := (k, 0) :: a
def neg (a : List Nd) : List Nd := join 4 a falsum

/-- The state of a reader: the position and whether the byte there cannot follow. -/
abbrev St := Nat × Bool
abbrev Res := List Nd × St

/-- 'take': is the byte next? -/
def sees (s : List UInt8) (st : St) (c : UInt8) : Bool := !st.2 && (s[st.1]? == some c)
def step (st : St) : St := (st.1 + 1, st.2)
def need (s : List UInt8) (st : St) (c : UInt8) : St := if sees s st c then step st else (st.1, true)

/-- 'a = join(kind, a, sub())' as long as the byte is next. -/
def loop (s : List UInt8) (k : Int) (c : UInt8) (sub : St → Res) : Nat → List Nd → St → Res
  | 0, a, st => (a, st)
  | m + 1, a, st => if sees s st c then let r := sub (step st); loop s k c sub m (join k a r.1) r.2 else (a, st)

def andF (s : List UInt8) (m : Nat) (sub : St → Res) (st : St) : Res := let r := sub st; loop s 2 38 sub m r.1 r.2
def orF (s : List UInt8) (m : Nat) (sub : St → Res) (st : St) : Res := let r := andF s m sub st; loop s 3 124 (andF s m sub) m r.1 r.2
def impF (s : List UInt8) (m : Nat) (sub : St → Res) : Nat → St → Res
  | 0, st => orF s m sub st
  | i + 1, st => let r := orF s m sub st; if sees s r.2 62 then let q := impF s m sub i (step r.2); (join 4 r.1 q.1, q.2) else r

/-- The letter that is next, if one of 'pqrstu' is. -/
def letter (s : List UInt8) (st : St) : Option Nat := if st.2 then none else
  match s[st.1]? with
  | some c => if 112 ≤ c.toNat ∧ c.toNat ≤ 117 then some (c.toNat - 112) else none
  | none => none

def preF (s : List UInt8) (m : Nat) : Nat → St → Res
  | 0, st => (falsum, (st.1, true))
  | f + 1, st =>
    if sees s st 126 then let r := preF s m f (step st); (neg r.1, r.2)
    else if sees s st 91 then let r := preF s m f (need s (step st) 93); (pre 5 r.1, r.2)
    else if sees s st 60 then let r := preF s m f (need s (step st) 62); (pre 6 r.1, r.2)
    else if sees s st 70 then (falsum, step st)
    else if sees s st 84 then (truth, step st)
    else if sees s st 40 then let r := impF s m (preF s m f) m (step st); (r.1, need s r.2 41)
    else match letter s st with
      | some v => (vari v, step st)
      | none => (falsum, (st.1, true))

/-- The whole text: with enough fuel. -/
def parse (s : List UInt8) (m : Nat) : Res := impF s m (preF s m m) m (0, false)

end Fm
end Go.Proofs.YtefkgomecpnpbaaGreat

/- Slices of nodes, as lists of pairs of numbers. -/
namespace Go.Proofs.YtefkgomecpnpbaaGreat
open Go.RowKit
open Fm (Nd)

def kd (xs : List Nd) (i : Nat) : Int := (xs.getD i (0, 0)).1
def sy (xs : List Nd) (i : Nat) : Int := (xs.getD i (0, 0)).2
def cells (xs : List Nd) : List Value := xs.flatMap fun x => [.int .i64 x.1, .int .i64 x.2]

theorem cells_nil : cells [] = [] := rfl
theorem cells_cons (x : Nd) (xs : List Nd) : cells (x :: xs) = .int .i64 x.1 :: .int .i64 x.2 :: cells xs := rfl
theorem cells_append (xs ys : List Nd) : cells (xs ++ ys) = cells xs ++ cells ys := by simp [cells, List.flatMap_append]
theorem cells_length (xs : List Nd) : (cells xs).length = xs.length * 2 := by
  induction xs with
  | nil => rfl
  | cons x xs ih => rw [cells_cons]; simp [ih]; omega
theorem cells_one (xs : List Nd) : ∀ u ∈ cells xs, u.oneCell' = true := by
  intro u hu
  simp only [cells, List.mem_flatMap] at hu
  obtain ⟨x, _, hx⟩ := hu
  simp at hx
  rcases hx with rfl | rfl <;> rfl
theorem cells_at (xs : List Nd) : ∀ i, i < xs.length → (cells xs)[i * 2]? = some (.int .i64 (kd xs i)) ∧ (cells xs)[i * 2 + 1]? = some (.int .i64 (sy xs i)) := by
  induction xs with
  | nil => intro i hi; simp at hi
  | cons x xs ih =>
    intro i hi
    match i with
    | 0 => exact ⟨rfl, rfl⟩
    | i + 1 =>
      have h := ih i (by simpa using hi)
      rw [cells_cons]
      have e1 : (i + 1) * 2 = i * 2 + 1 + 1 := by omega
      rw [e1]
      simp only [List.getElem?_cons_succ]
      have k1 : kd (x :: xs) (i + 1) = kd xs i := rfl
      have k2 : sy (x :: xs) (i + 1) = sy xs i := rfl
      rw [k1, k2]
      exact h
theorem cells_ext {cs : List Value} {xs : List Nd} (hl : cs.length = xs.length * 2) (h : ∀ i, i < xs.length → cs[i * 2]? = some (.int .i64 (kd xs i)) ∧ cs[i * 2 + 1]? = some (.int .i64 (sy xs i))) : cs = cells xs := by
  apply List.ext_getElem? 
  intro j
  by_cases hj : j < xs.length * 2
  · have hd := Nat.div_add_mod j 2
    have hi : j / 2 < xs.length := by omega
    have h1 := h (j / 2) hi
    have h2 := cells_at xs (j / 2) hi
    rcases Nat.mod_two_eq_zero_or_one j with hm | hm
    · have e : j = j / 2 * 2 := by omega
      rw [e, h1.1, h2.1]
    · have e : j = j / 2 * 2 + 1 := by omega
      rw [e, h1.2, h2.2]
  · rw [List.getElem?_eq_none (by omega), List.getElem?_eq_none (by rw [cells_length]; omega)]
theorem kd_lt {xs : List Nd} {i : Nat} (h : i < xs.length) : xs[i] = (kd xs i, sy xs i) := by
  simp [kd, sy, List.getD, h]
theorem nd_ext {xs ys : List Nd} (hl : xs.length = ys.length) (h : ∀ i, i < xs.length → kd xs i = kd ys i ∧ sy xs i = sy ys i) : xs = ys := by
  apply List.ext_getElem hl
  intro i h1 h2
  rw [kd_lt h1, kd_lt h2, (h i h1).1, (h i h1).2]

/-- The value reads as the list. -/
def Nodes (w : World) (v : Value) (xs : List Nd) : Prop := Rd w 2 v xs.length (cells xs)
/-- The value is a row of the call's own, newer than block B, that holds the list. -/
def Own (w : World) (B : Nat) (v : Value) (xs : List Nd) : Prop := w.ownsRow B 45 2 v xs.length (cells xs)

theorem Nodes.grew {w w' : World} {v : Value} {xs : List Nd} (h : Nodes w v xs) (hb : Grew w w') : Nodes w' v xs := Rd.grew h hb
theorem Nodes.nil_ (w : World) : Nodes w (.slice none 0 0) [] := Rd.nil_ w 2
theorem Own.nodes {w : World} {B : Nat} {v : Value} {xs : List Nd} (h : Own w B v xs) : Nodes w v xs := Rd.of_own h
theorem Own.nil_ (w : World) (B : Nat) : Own w B (.slice none 0 0) [] := World.ownsRow_nil w B _ 2
theorem Own.grew {w w' : World} {B : Nat} {v : Value} {xs : List Nd} (h : Own w B v xs) (hb : Grew w w') : Own w' B v xs := own_grew h hb
theorem Own.only {w w' : World} {B g : Nat} {v : Value} {xs : List Nd} (h : Own w B v xs) (hb : Only g w w') (hne : v.ownBlock ≠ some g) : Own w' B v xs := own_only h hb hne
theorem Own.base {w : World} {B B' : Nat} {v : Value} {xs : List Nd} (h : Own w B v xs) (hb : B' ≤ B) : Own w B' v xs := own_base h hb

theorem Nodes.open_ {w : World} {v : Value} {xs : List Nd} (h : Nodes w v xs) :
    (v = .slice none 0 0 ∧ xs = []) ∨ ∃ b o c, v = .slice (some ⟨b, o, none⟩) xs.length c ∧ xs.length ≤ c ∧ c ≤ 9223372036854775807 ∧ b < w.heap.size ∧
      ∀ i, i < xs.length → ∀ W, Grew w W → W.cell? ⟨b, o + i * 2, none⟩ = some (.int .i64 (kd xs i)) ∧ W.cell? ⟨b, o + i * 2 + 1, none⟩ = some (.int .i64 (sy xs i)) := by
  obtain ⟨_, _, h3⟩ := h
  rcases h3 with ⟨h4, h5⟩ | ⟨b, o, c, h4, h5, h6, h7, h8⟩
  · exact .inl ⟨h4, List.eq_nil_of_length_eq_zero h5⟩
  · refine .inr ⟨b, o, c, h4, h5, h6, h7, fun i hi W hW => ?_⟩
    obtain ⟨k1, k2⟩ := cells_at xs i hi
    exact ⟨(hW.cell (p := ⟨b, o + i * 2, none⟩) h7).trans (h8 _ _ k1), (hW.cell (p := ⟨b, o + i * 2 + 1, none⟩) h7).trans (h8 _ _ k2)⟩
theorem Nodes.len_le {w : World} {v : Value} {xs : List Nd} (h : Nodes w v xs) : xs.length ≤ 9223372036854775807 := h.2.1

/-- A row of the call's own, opened: its block. -/
theorem Own.open_ {w : World} {B : Nat} {v : Value} {xs : List Nd} (h : Own w B v xs) :
    (v = .slice none 0 0 ∧ xs = []) ∨ ∃ g c cur, v = .slice (some ⟨g, 0, none⟩) xs.length c ∧ B ≤ g ∧ g < w.heap.size ∧ w.heap[g]? = some (.cells cur 45 (0, 0)) ∧ xs.length ≤ c ∧ c ≤ 9223372036854775807 ∧ cur.size = c * 2 ∧
      ∀ i, i < xs.length → cur[i * 2]? = some (.int .i64 (kd xs i)) ∧ cur[i * 2 + 1]? = some (.int .i64 (sy xs i)) := by
  obtain ⟨_, h2⟩ := h
  rcases h2 with ⟨rfl, h5⟩ | ⟨g, cap, cur, rfl, hb, hg, hnc, hcm, hcs, ht⟩
  · exact .inl ⟨rfl, List.eq_nil_of_length_eq_zero h5⟩
  · refine .inr ⟨g, cap, cur, rfl, hb, (Array.getElem?_eq_some_iff.1 hg).1, hg, hnc, hcm, hcs, fun i hi => ?_⟩
    obtain ⟨k1, k2⟩ := cells_at xs i hi
    rw [← ht, List.getElem?_take] at k1 k2
    rw [if_pos (by omega)] at k1 k2
    exact ⟨by simpa using k1, by simpa using k2⟩
theorem Own.mk_ {w : World} {B : Nat} {xs : List Nd} {g c : Nat} {cur : Array Value} (hB : B ≤ g) (hg : w.heap[g]? = some (.cells cur 45 (0, 0))) (hnc : xs.length ≤ c) (hcm : c ≤ 9223372036854775807) (hcs : cur.size = c * 2)
    (hc : ∀ i, i < xs.length → cur[i * 2]? = some (.int .i64 (kd xs i)) ∧ cur[i * 2 + 1]? = some (.int .i64 (sy xs i))) : Own w B (.slice (some ⟨g, 0, none⟩) xs.length c) xs := by
  refine ⟨cells_length xs, .inr ⟨g, c, cur, rfl, hB, hg, hnc, hcm, hcs, cells_ext (by simp; omega) fun i hi => ?_⟩⟩
  rw [List.getElem?_take, List.getElem?_take, if_pos (by omega), if_pos (by omega)]
  obtain ⟨k1, k2⟩ := hc i hi
  exact ⟨by simpa using k1, by simpa using k2⟩
/-- A literal of nodes in a new block. -/
theorem Own.lit (w : World) (B : Nat) (xs : List Nd) (cs : Array Value) (hB : B ≤ w.heap.size) (hn : xs.length ≤ 9223372036854775807) (hc : cs.toList = cells xs) :
    Own (w.alloc (.cells cs 45)) B (.slice (some ⟨w.heap.size, 0, none⟩) xs.length xs.length) xs := by
  have hl : cs.size = xs.length * 2 := by rw [← Array.length_toList, hc, cells_length]
  have h := World.ownsRow_lit (e := 45) (size := 2) w cs xs.length hB hn hl
  rw [hc] at h
  exact h

theorem Tryz.infoNd : (Tryz.prog.info? 45).map (fun i => (i.zero, i.size, i.bytes)) = some (some (.agg #[.int .i64 0, .int .i64 0]), 2, 16) := by kernel_rfl

theorem nodes_slice {w : World} {v : Value} {xs : List Nd} (h : Nodes w v xs) : ∃ A c, v = .slice A xs.length c := by
  rcases h.open_ with ⟨rfl, rfl⟩ | ⟨b, o, c, rfl, _⟩
  · exact ⟨_, _, rfl⟩
  · exact ⟨_, _, rfl⟩

/-- Two nodes, compared. -/
theorem Tryz.ndGuard : Tryz.prog.eqGuardType Tryz.prog.depth 45 = false := by kernel_rfl
theorem Tryz.ndEq (a b c d : Int) (w : World) : (Op.equalIn 10000 45 (.agg #[.int .i64 a, .int .i64 b]) (.agg #[.int .i64 c, .int .i64 d])).run Tryz.prog w = .ok (a == c && b == d) w := by
  have u2 := Tryz.underlying2
  have hS : Tryz.prog.underlying 45 = some (.struct (Tryz.prog.fieldsOf 45)) := by kernel_rfl
  have hp : Tryz.prog.stoodInHeld 45 = false := by kernel_rfl
  rw [show (10000 : Nat) = 9999 + 1 from rfl, run_equalIn_agg w 9999 45 _ _ hS hp]
  simp only [Program.fieldsOf, Tryz.underlying45]
  go_simp
  by_cases h1 : a = c <;> by_cases h2 : b = d <;> simp [h1, h2]
theorem Tryz.ndNeq (a b c d : Int) (w : World) : (binOp .neq 45 (.agg #[.int .i64 a, .int .i64 b]) (.agg #[.int .i64 c, .int .i64 d])).run Tryz.prog w = .ok (.bool (!(a == c && b == d))) w := by
  rw [run_neq_struct, Tryz.ndEq]; rfl

theorem big2 {n m : Nat} (h : n + m ≤ 1099511627776) : n + m ≤ maxLen ∧ (n + m) * 16 ≤ 140737488355328 := by
  unfold maxLen; omega

/-- 'out = append(out, xs...)', out a row of the call's own. -/
theorem wpList_app {ops : Array Oper} {rest : List Oper} {o : Oper} {a : Act} {Q : Exit → Act → World → Prop} {w w0 : World} (s x : Operand) (hgd : o.guard = none)
    (ho : o.op = .call { callee := .builtin .append, args := #[s, x], argTypes := #[24, 24] })
    (v : Value) (xs : List Nd) (hs : a.eval s = v) (hown : Own w w0.heap.size v xs) (hg : Grew w0 w) (vx : Value) (ys : List Nd) (hx : a.eval x = vx) (hr : Nodes w vx ys) (hn : xs.length + ys.length ≤ 1099511627776)
    (h : ∀ v' w', Own w' w0.heap.size v' (xs ++ ys) → Grew w0 w' → w.grownBy w' v.ownBlock → wpList Tryz.prog ops Q rest (a.put o.dst v') w') : wpList Tryz.prog ops Q (o :: rest) a w := by
  obtain ⟨i0, hi0, hz0, hz1, hz2⟩ := info_parts Tryz.infoNd
  refine wpList_append_rd w hgd s x _ ho w0.heap.size 45 i0 _ 2 16 Tryz.underlying24 hi0 hz0 hz1 hz2 rfl (by omega) v xs.length (cells xs) hs hown vx ys.length (cells ys) hx hr (cells_one ys) (big2 hn).1 (big2 hn).2 hg.size ?_
  intro v' w' h1 h2 h3
  refine h v' w' ?_ (hg.grown h2 fun k hk => (hown.lt k hk).1) h2
  unfold Own
  rw [cells_append, List.length_append]
  exact h1

end Go.Proofs.YtefkgomecpnpbaaGreat

/- A row that is written: other rows stay, older worlds have not changed. -/
namespace Go.Proofs.YtefkgomecpnpbaaGreat
open Go.RowKit

theorem own_row {w w' : World} {B : Nat} {e : TypeId} {k n : Nat} {v : Value} {xs : List Value} {row : Option Nat} (h : w.ownsRow B e k v n xs) (hg : w.grownBy w' row) (hne : ∀ g, row = some g → v.ownBlock ≠ some g) : w'.ownsRow B e k v n xs := by
  cases row with
  | none => exact own_grew h ⟨hg.os, hg.tape, hg.output, hg.size, fun i hi => hg.block i hi (by simp)⟩
  | some g => exact own_only h (show Only g w w' from hg) (hne g rfl)
theorem grew_row {W w w' : World} {row : Option Nat} (h : Grew W w) (hg : w.grownBy w' row) (hne : ∀ g, row = some g → W.heap.size ≤ g) : Grew W w' := h.grown hg hne
theorem row_of {w w' : World} {v : Value} (h1 : ∀ g, v.ownBlock = some g → Only g w w') (h2 : v.ownBlock = none → Grew w w') : w.grownBy w' v.ownBlock := by
  cases hv : v.ownBlock with
  | none => exact (h2 hv).by_ _
  | some g => exact h1 g hv
end Go.Proofs.YtefkgomecpnpbaaGreat

/- Slices of int64 in memory, and the laws' own helpers on them. -/
namespace Go.Proofs.YtefkgomecpnpbaaGreat
open Go.RowKit

def it (L : List Int) (i : Nat) : Int := L.getD i 0
def icells (L : List Int) : List Value := L.map (Value.int .i64)
theorem icells_length (L : List Int) : (icells L).length = L.length * 1 := by simp [icells]
theorem icells_one (L : List Int) : ∀ u ∈ icells L, u.oneCell' = true := by
  intro u hu
  simp only [icells, List.mem_map] at hu
  obtain ⟨s, _, rfl⟩ := hu
  rfl
theorem icells_at {L : List Int} {i : Nat} (h : i < L.length) : (icells L)[i]? = some (.int .i64 (it L i)) := by simp [icells, it, List.getD, h]
theorem icells_append (K L : List Int) : icells (K ++ L) = icells K ++ icells L := by simp [icells]
theorem it_get {L : List Int} {i : Nat} (h : i < L.length) : L[i] = it L i := by simp [it, List.getD, h]
theorem it_ext {K L : List Int} (hl : K.length = L.length) (h : ∀ i, i < K.length → it K i = it L i) : K = L := by
  apply List.ext_getElem hl
  intro i h1 h2
  rw [it_get h1, it_get h2]
  exact h i h1

/-- v reads as the list. -/
def Ints (w : World) (v : Value) (L : List Int) : Prop := Rd w 1 v L.length (icells L)
/-- v is a row of the call's own. -/
def OwnI (w : World) (B : Nat) (v : Value) (L : List Int) : Prop := w.ownsRow B 2 1 v L.length (icells L)
theorem Ints.grew {w w' : World} {v : Value} {L : List Int} (h : Ints w v L) (hb : Grew w w') : Ints w' v L := Rd.grew h hb
theorem Ints.nil_ (w : World) : Ints w (.slice none 0 0) [] := Rd.nil_ w 1
theorem OwnI.ints {w : World} {B : Nat} {v : Value} {L : List Int} (h : OwnI w B v L) : Ints w v L := Rd.of_own h
theorem OwnI.nil_ (w : World) (B : Nat) : OwnI w B (.slice none 0 0) [] := World.ownsRow_nil w B _ 1
theorem OwnI.grew {w w' : World} {B : Nat} {v : Value} {L : List Int} (h : OwnI w B v L) (hb : Grew w w') : OwnI w' B v L := own_grew h hb
theorem OwnI.base {w : World} {B B' : Nat} {v : Value} {L : List Int} (h : OwnI w B v L) (hb : B' ≤ B) : OwnI w B' v L := own_base h hb
theorem Ints.open_ {w : World} {v : Value} {L : List Int} (h : Ints w v L) :
    (v = .slice none 0 0 ∧ L = []) ∨ ∃ b o c, v = .slice (some ⟨b, o, none⟩) L.length c ∧ L.length ≤ c ∧ c ≤ 9223372036854775807 ∧ b < w.heap.size ∧
      ∀ i, i < L.length → ∀ W, Grew w W → W.cell? ⟨b, o + i, none⟩ = some (.int .i64 (it L i)) := by
  obtain ⟨_, _, h3⟩ := h
  rcases h3 with ⟨h4, h5⟩ | ⟨b, o, c, h4, h5, h6, h7, h8⟩
  · exact .inl ⟨h4, List.eq_nil_of_length_eq_zero h5⟩
  · exact .inr ⟨b, o, c, h4, h5, h6, h7, fun i hi W hW => (hW.cell (p := ⟨b, o + i, none⟩) h7).trans (h8 _ _ (icells_at hi))⟩
theorem ints_slice {w : World} {v : Value} {L : List Int} (h : Ints w v L) : ∃ A c, v = .slice A L.length c := by
  rcases h.open_ with ⟨rfl, rfl⟩ | ⟨b, o, c, rfl, _⟩
  · exact ⟨_, _, rfl⟩
  · exact ⟨_, _, rfl⟩
theorem OwnI.mk_ {w : World} {B : Nat} {L : List Int} {g c : Nat} {cur : Array Value} (hB : B ≤ g) (hg : w.heap[g]? = some (.cells cur 2 (0, 0))) (hnc : L.length ≤ c) (hcm : c ≤ 9223372036854775807) (hcs : cur.size = c)
    (hc : ∀ i, i < L.length → cur[i]? = some (.int .i64 (it L i))) : OwnI w B (.slice (some ⟨g, 0, none⟩) L.length c) L := by
  refine ⟨icells_length L, .inr ⟨g, c, cur, rfl, hB, hg, hnc, hcm, by omega, ?_⟩⟩
  apply List.ext_getElem?
  intro j
  rw [List.getElem?_take]
  by_cases hj : j < L.length
  · rw [if_pos (by omega), icells_at hj]
    simpa using hc j hj
  · rw [if_neg (by omega), List.getElem?_eq_none (by rw [icells_length]; omega)]
theorem Tryz.infoI : (Tryz.prog.info? 2).map (fun i => (i.zero, i.size, i.bytes)) = some (some (.int .i64 0), 1, 8) := by kernel_rfl
/-- The call returns a new list of numbers. -/
def GivesI (w : World) (L : List Int) (e : Ending) (w' : World) : Prop := ∃ v, e = .returned v ∧ OwnI w' w.heap.size v L ∧ Grew w w'

theorem one_stepI {cur : Array Value} {F : Nat → Value} {j : Nat} (hs : j < cur.size) (h : ∀ i, i < j → cur[i]? = some (F i)) :
    ∀ i, i < j + 1 → (cur.setIfInBounds j (F j))[i]? = some (F i) := by
  intro i hi
  simp only [Array.getElem?_setIfInBounds]
  rcases Nat.lt_or_ge i j with hk | hk
  · rw [if_neg (by omega)]
    exact h i hk
  · obtain rfl : i = j := by omega
    rw [if_pos rfl, if_pos hs]
end Go.Proofs.YtefkgomecpnpbaaGreat

/- Masks, plain: rows of numbers that are masks; members, images, squeezed masks. No program is in sight. -/
namespace Go.Proofs.YtefkgomecpnpbaaGreat
open Go.RowKit

/-- A row of natural numbers as the numbers in memory. -/
def zs (L : List Nat) : List Int := L.map fun i : Nat => (i : Int)
def nt (L : List Nat) (i : Nat) : Nat := L.getD i 0
theorem zs_len (L : List Nat) : (zs L).length = L.length := by simp [zs]
theorem zs_it {L : List Nat} {i : Nat} (h : i < L.length) : it (zs L) i = ((nt L i : Nat) : Int) := by simp [it, zs, nt, List.getD, h]
theorem zs_append (K L : List Nat) : zs (K ++ L) = zs K ++ zs L := by simp [zs]
theorem zs_one (x : Nat) : zs [x] = [(x : Int)] := rfl
theorem nt_get {L : List Nat} {i : Nat} (h : i < L.length) : L[i] = nt L i := by simp [nt, List.getD, h]
theorem nt_mem {L : List Nat} {i : Nat} (h : i < L.length) : nt L i ∈ L := by rw [← nt_get h]; exact List.getElem_mem h
theorem mem_nt {L : List Nat} {x : Nat} (h : x ∈ L) : ∃ i, i < L.length ∧ nt L i = x := by
  obtain ⟨i, hi, rfl⟩ := List.getElem_of_mem h
  exact ⟨i, hi, (nt_get hi).symm⟩
theorem take_succ_nt {L : List Nat} {i : Nat} (h : i < L.length) : L.take (i + 1) = L.take i ++ [nt L i] := by
  rw [List.take_add_one, List.getElem?_eq_getElem h, nt_get h]; rfl
theorem zs_inj {K L : List Nat} (h : zs K = zs L) : K = L := by
  have := congrArg (List.map Int.toNat) h
  simpa [zs, Function.comp_def] using this
/-- The row's numbers are masks below 2^30. -/
def Sm (L : List Nat) : Prop := ∀ m ∈ L, m < 1073741824
theorem Sm.at_ {L : List Nat} (h : Sm L) {i : Nat} (hi : i < L.length) : nt L i < 1073741824 := h _ (nt_mem hi)
theorem Sm.nil_ : Sm [] := fun m h => absurd h (by simp)
theorem Sm.app {K : List Nat} {x : Nat} (h : Sm K) (hx : x < 1073741824) : Sm (K ++ [x]) := by
  intro m hm
  rw [List.mem_append, List.mem_singleton] at hm
  rcases hm with hm | rfl
  · exact h _ hm
  · exact hx

/-- The members of a mask below n, ascending. -/
def mb (m n : Nat) : List Nat := (List.range n).filter m.testBit
theorem mb_mem {m n x : Nat} : x ∈ mb m n ↔ x < n ∧ m.testBit x = true := by
  unfold mb; rw [List.mem_filter, List.mem_range]
theorem mem_mb (m n : Nat) : mem m n = zs (mb m n) := rfl
theorem mb_yes {m n : Nat} (h : m.testBit n = true) : mb m (n + 1) = mb m n ++ [n] := by
  unfold mb; rw [List.range_succ, List.filter_append]; simp [h]
theorem mb_no {m n : Nat} (h : m.testBit n = false) : mb m (n + 1) = mb m n := by
  unfold mb; rw [List.range_succ, List.filter_append]; simp [h]
theorem mb_len (m n : Nat) : (mb m n).length ≤ n := by
  unfold mb
  have := List.length_filter_le m.testBit (List.range n)
  simpa using this
theorem div_zero_lt {m n : Nat} (h : m / 2 ^ n = 0) : m < 2 ^ n := by
  rcases Nat.lt_or_ge m (2 ^ n) with h1 | h1
  · exact h1
  · have := Nat.div_pos h1 (Nat.pow_pos (by omega)); omega
theorem bit_lt {m n i : Nat} (hm : m < 2 ^ n) (h : m.testBit i = true) : i < n := by
  rcases Nat.lt_or_ge i n with h1 | h1
  · exact h1
  · have := Nat.testBit_lt_two_pow (Nat.lt_of_lt_of_le hm (Nat.pow_le_pow_right (by omega) h1))
    rw [this] at h; cases h
theorem mb_top {m n : Nat} (h : m < 2 ^ n) : ∀ k, n ≤ k → mb m k = mb m n := by
  intro k hk
  induction k with
  | zero =>
    obtain rfl : n = 0 := by omega
    rfl
  | succ k ih =>
    by_cases he : n = k + 1
    · rw [he]
    · have hb : m.testBit k = false := Nat.testBit_lt_two_pow (Nat.lt_of_lt_of_le h (Nat.pow_le_pow_right (by omega) (by omega)))
      rw [mb_no hb, ih (by omega)]
/-- All members of a mask. -/
def mbs (m : Nat) : List Nat := mb m 30
theorem mbs_len (m : Nat) : (mbs m).length ≤ 30 := mb_len m 30
theorem mbs_of {m n : Nat} (_ : m < 1073741824) (h : m / 2 ^ n = 0) (hn : n ≤ 30) : mb m n = mbs m := ((mb_top (div_zero_lt h)) 30 hn).symm
theorem mbs_mem {m x : Nat} (hm : m < 1073741824) : x ∈ mbs m ↔ m.testBit x = true := by
  unfold mbs
  rw [mb_mem]
  exact ⟨fun h => h.2, fun h => ⟨bit_lt (n := 30) (by omega) h, h⟩⟩
theorem mbs_lt {m n x : Nat} (hm : m < 2 ^ n) (hx : x ∈ mbs m) : x < n := bit_lt hm (mb_mem.1 hx).2
theorem mbs_sm (m : Nat) : Sm (mbs m) := by
  intro x hx
  have := (mb_mem.1 hx).1
  omega
theorem mbs_at {m i : Nat} (h : i < (mbs m).length) : nt (mbs m) i < 30 := (mb_mem.1 (nt_mem h)).1
theorem pow30 {k : Nat} (h : k < 30) : 2 ^ k < 1073741824 := by
  have : 2 ^ k < 2 ^ 30 := Nat.pow_lt_pow_right (by omega) h
  omega
theorem pow30' {k : Nat} (h : k ≤ 30) : 2 ^ k ≤ 1073741824 := by
  have : 2 ^ k ≤ 2 ^ 30 := Nat.pow_le_pow_right (by omega) h
  omega
theorem pow63 {k : Nat} (h : k ≤ 30) : IntKind.i64.wrap (1 * 2 ^ k) = ((2 ^ k : Nat) : Int) := by
  have h1 := pow30' h
  have h2 : (((2 ^ k : Nat) : Int)) = (2 : Int) ^ k := by rw [Int.natCast_pow]; rfl
  rw [Int.one_mul, ← h2, IntKind.wrap_i64]
  generalize (2 ^ k : Nat) = p at h1
  omega
theorem or_sm {a b : Nat} (ha : a < 1073741824) (hb : b < 1073741824) : a ||| b < 1073741824 := Nat.or_lt_two_pow (n := 30) ha hb
theorem or_n {a b n : Nat} (ha : a < 2 ^ n) (hb : b < 2 ^ n) : a ||| b < 2 ^ n := Nat.or_lt_two_pow ha hb

theorem wrap_pow {k : Nat} (h : k ≤ 30) : wrap64 (2 ^ k) = ((2 ^ k : Nat) : Int) := by
  have h1 := pow63 h
  rw [Int.one_mul] at h1
  rw [← h1]
  unfold wrap64
  rw [IntKind.wrap_i64]
theorem bit_e (m i : Nat) (hm : m < 9223372036854775808) : (bits .and .i64 ((m : Int) / 2 ^ i) 1 == 1) = m.testBit i := by
  have h := bit_i64 m i hm
  rw [Int.natCast_ediv, Int.natCast_pow] at h
  exact h

theorem div_e (m i : Nat) : (m : Int) / 2 ^ i = ((m / 2 ^ i : Nat) : Int) := by
  rw [Int.natCast_ediv, Int.natCast_pow]; rfl

/-- What the first k of a list of elements see together. -/
def orK (A is : List Nat) : Nat → Nat
  | 0 => 0
  | k + 1 => orK A is k ||| nt A (nt is k)
theorem orK_sm {A is : List Nat} (h : Sm A) : ∀ k, orK A is k < 1073741824
  | 0 => by show 0 < _; omega
  | k + 1 => by
    refine or_sm (orK_sm h k) ?_
    unfold nt
    by_cases hi : is.getD k 0 < A.length
    · exact Sm.at_ h hi
    · rw [List.getD_eq_getElem?_getD, List.getElem?_eq_none (by omega)]; show 0 < _; omega
theorem orK_bit (A is : List Nat) (x : Nat) : ∀ k, (orK A is k).testBit x = true ↔ ∃ j, j < k ∧ (nt A (nt is j)).testBit x = true
  | 0 => by show (0 : Nat).testBit x = true ↔ _; simp
  | k + 1 => by
    show ((orK A is k ||| nt A (nt is k)).testBit x = true) ↔ _
    rw [Nat.testBit_or, Bool.or_eq_true, orK_bit A is x k]
    constructor
    · rintro (⟨j, hj, h⟩ | h)
      · exact ⟨j, by omega, h⟩
      · exact ⟨k, by omega, h⟩
    · rintro ⟨j, hj, h⟩
      by_cases he : j = k
      · exact .inr (he ▸ h)
      · exact .inl ⟨j, by omega, h⟩
/-- The image of a mask. -/
def img (A : List Nat) (m : Nat) : Nat := orK A (mbs m) (mbs m).length
theorem img_bit {A : List Nat} {m : Nat} (hm : m < 1073741824) (x : Nat) : (img A m).testBit x = true ↔ ∃ j, m.testBit j = true ∧ (nt A j).testBit x = true := by
  unfold img
  rw [orK_bit]
  constructor
  · rintro ⟨j, hj, h⟩
    exact ⟨_, (mbs_mem hm).1 (nt_mem hj), h⟩
  · rintro ⟨j, hj, h⟩
    obtain ⟨k, hk, rfl⟩ := mem_nt ((mbs_mem hm).2 hj)
    exact ⟨k, hk, h⟩
/-- The image, reckoned element by element. -/
def imK (A : List Nat) (m : Nat) : Nat → Nat
  | 0 => 0
  | k + 1 => if m.testBit k then imK A m k ||| nt A k else imK A m k
theorem imK_sm {A : List Nat} {m : Nat} (h : Sm A) : ∀ k, k ≤ A.length → imK A m k < 1073741824
  | 0, _ => by show 0 < _; omega
  | k + 1, hk => by
    unfold imK
    split
    · exact or_sm (imK_sm h k (by omega)) (h.at_ (by omega))
    · exact imK_sm h k (by omega)
theorem imK_bit (A : List Nat) (m x : Nat) : ∀ k, (imK A m k).testBit x = true ↔ ∃ j, j < k ∧ m.testBit j = true ∧ (nt A j).testBit x = true
  | 0 => by show (0 : Nat).testBit x = true ↔ _; simp
  | k + 1 => by
    have ih := imK_bit A m x k
    have hone : (∃ j, j < k + 1 ∧ m.testBit j = true ∧ (nt A j).testBit x = true) ↔ (∃ j, j < k ∧ m.testBit j = true ∧ (nt A j).testBit x = true) ∨ (m.testBit k = true ∧ (nt A k).testBit x = true) := by
      constructor
      · rintro ⟨j, hj, h⟩
        by_cases he : j = k
        · exact .inr (he ▸ h)
        · exact .inl ⟨j, by omega, h⟩
      · rintro (⟨j, hj, h⟩ | h)
        · exact ⟨j, by omega, h⟩
        · exact ⟨k, by omega, h⟩
    rw [hone, ← ih, show imK A m (k + 1) = if m.testBit k = true then imK A m k ||| nt A k else imK A m k from rfl]
    cases hb : m.testBit k with
    | true => rw [if_pos rfl, Nat.testBit_or, Bool.or_eq_true]; simp
    | false => rw [if_neg (by simp)]; simp
theorem img_imK {A : List Nat} {m : Nat} (hm : m < 2 ^ A.length) (hn : A.length ≤ 30) : imK A m A.length = img A m := by
  have hm' : m < 1073741824 := Nat.lt_of_lt_of_le hm (pow30' hn)
  apply Nat.eq_of_testBit_eq
  intro x
  rw [Bool.eq_iff_iff, imK_bit, img_bit hm']
  constructor
  · rintro ⟨j, hj, h⟩; exact ⟨j, h⟩
  · rintro ⟨j, h⟩; exact ⟨j, bit_lt hm h.1, h⟩

/-- The indices, in a list of elements, of the members of a mask. -/
def sqK (m : Nat) (is : List Nat) : Nat → Nat
  | 0 => 0
  | k + 1 => if m.testBit (nt is k) then sqK m is k ||| 2 ^ k else sqK m is k
theorem sqK_yes {m : Nat} {is : List Nat} {k : Nat} (h : m.testBit (nt is k) = true) : sqK m is (k + 1) = sqK m is k ||| 2 ^ k := by
  show (if _ then _ else _) = _
  rw [if_pos h]
theorem sqK_no {m : Nat} {is : List Nat} {k : Nat} (h : m.testBit (nt is k) = false) : sqK m is (k + 1) = sqK m is k := by
  show (if _ then _ else _) = _
  rw [if_neg (by rw [h]; simp)]
theorem sqK_lt (m : Nat) (is : List Nat) : ∀ k, sqK m is k < 2 ^ k
  | 0 => by show 0 < _; omega
  | k + 1 => by
    have ih := sqK_lt m is k
    have h2 : 2 ^ (k + 1) = 2 * 2 ^ k := by rw [Nat.pow_succ]; omega
    unfold sqK
    split
    · exact or_n (by omega) (by omega)
    · omega
def sqz (m on : Nat) : Nat := sqK m (mbs on) (mbs on).length
theorem sqz_sm (m on : Nat) : sqz m on < 1073741824 := Nat.lt_of_lt_of_le (sqK_lt _ _ _) (pow30' (mbs_len on))
theorem sqK_sm {m : Nat} {is : List Nat} {k : Nat} (h : k ≤ 30) : sqK m is k < 1073741824 := Nat.lt_of_lt_of_le (sqK_lt _ _ _) (pow30' h)
/-- The numbers of the row that are masks of n elements. -/
def mk (n : Nat) (x : Int) : Bool := decide (0 ≤ x ∧ x ≤ ((2 ^ n : Nat) : Int) - 1)
/-- A row of masks of n elements is a row of natural numbers. -/
theorem nats_of {n : Nat} : ∀ {L : List Int}, (∀ x ∈ L, mk n x = true) → ∃ M : List Nat, L = zs M ∧ M.length = L.length ∧ ∀ m ∈ M, m < 2 ^ n
  | [], _ => ⟨[], rfl, rfl, fun m h => absurd h (by simp)⟩
  | x :: L, h => by
    obtain ⟨M, h1, h2, h3⟩ := nats_of (L := L) fun y hy => h y (List.mem_cons_of_mem _ hy)
    have hx := h x List.mem_cons_self
    have hx := of_decide_eq_true hx
    have hp : (0 : Nat) < 2 ^ n := Nat.pow_pos (by omega)
    refine ⟨x.toNat :: M, ?_, by simp [h2], ?_⟩
    · show x :: L = _ :: zs M
      rw [← h1]
      have he2 : x = ((x.toNat : Nat) : Int) := by omega
      exact congrArg (· :: L) he2
    · intro m hm
      rcases List.mem_cons.1 hm with rfl | hm
      · generalize (2 ^ n : Nat) = p at hp hx ⊢
        omega
      · exact h3 m hm
end Go.Proofs.YtefkgomecpnpbaaGreat

/- Relations, plain: reflexive, transitive (by Warshall's closure), antisymmetric (by the inverse). No program is in sight. -/
namespace Go.Proofs.YtefkgomecpnpbaaGreat
open Go.RowKit

def allB (n : Nat) (p : Nat → Bool) : Bool := (List.range n).all p
theorem allB_iff {n : Nat} {p : Nat → Bool} : allB n p = true ↔ ∀ i, i < n → p i = true := by
  unfold allB
  rw [List.all_eq_true]
  exact ⟨fun h i hi => h i (List.mem_range.2 hi), fun h i hi => h i (List.mem_range.1 hi)⟩
theorem allB_no {n : Nat} {p : Nat → Bool} {i : Nat} (hi : i < n) (h : p i = false) : allB n p = false := by
  cases hb : allB n p with
  | false => rfl
  | true => rw [allB_iff.1 hb i hi] at h; cases h
/-- The first k have the property. -/
def AllK (p : Nat → Bool) (k : Nat) : Prop := ∀ i, i < k → p i = true
theorem AllK.zero (p : Nat → Bool) : AllK p 0 := fun i hi => absurd hi (by omega)
theorem AllK.succ {p : Nat → Bool} {k : Nat} (h : AllK p k) (h1 : p k = true) : AllK p (k + 1) := by
  intro i hi
  by_cases he : i = k
  · rw [he]; exact h1
  · exact h i (by omega)
theorem allB_of {n : Nat} {p : Nat → Bool} (h : AllK p n) : allB n p = true := allB_iff.2 h
theorem allB_congr {n : Nat} {p q : Nat → Bool} (h : ∀ i, i < n → p i = q i) : allB n p = allB n q := by
  rw [Bool.eq_iff_iff, allB_iff, allB_iff]
  exact ⟨fun a i hi => h i hi ▸ a i hi, fun a i hi => (h i hi).symm ▸ a i hi⟩

/-- A row of masks of as many elements as it has numbers. -/
def Rl (A : List Nat) : Prop := A.length ≤ 30 ∧ ∀ m ∈ A, m < 2 ^ A.length
theorem Rl.lt {A : List Nat} (h : Rl A) {i : Nat} (hi : i < A.length) : nt A i < 2 ^ A.length := h.2 _ (nt_mem hi)
theorem Rl.sm {A : List Nat} (h : Rl A) : Sm A := fun m hm => Nat.lt_of_lt_of_le (h.2 m hm) (pow30' h.1)
theorem Rl.bit {A : List Nat} (h : Rl A) {i x : Nat} (hi : i < A.length) (hx : (nt A i).testBit x = true) : x < A.length := bit_lt (h.lt hi) hx

def reflB (A : List Nat) : Bool := allB A.length fun x => (nt A x).testBit x
def transB (A : List Nat) : Bool := allB A.length fun x => decide (dif (img A (nt A x)) (nt A x) = 0)
def antiX (A : List Nat) (x y : Nat) : Bool := !((nt A x).testBit y && (!(x == y) && (nt A y).testBit x))
def antiB (A : List Nat) : Bool := allB A.length fun x => allB A.length fun y => antiX A x y

theorem dif_zero {a b : Nat} : dif a b = 0 ↔ ∀ z, a.testBit z = true → b.testBit z = true := by
  constructor
  · intro h z hz
    have := congrArg (fun n => n.testBit z) h
    simp only [dif_bit, Nat.zero_testBit, hz, Bool.true_and] at this
    simpa using this
  · intro h
    apply Nat.eq_of_testBit_eq
    intro z
    rw [dif_bit, Nat.zero_testBit]
    cases hz : a.testBit z with
    | false => rfl
    | true => rw [h z hz]; rfl
/-- Transitive: what a seen element sees is seen. -/
def Trn (A : List Nat) : Prop := ∀ x y z, x < A.length → (nt A x).testBit y = true → (nt A y).testBit z = true → (nt A x).testBit z = true
theorem transB_iff {A : List Nat} (h : Rl A) : transB A = true ↔ Trn A := by
  unfold transB
  rw [allB_iff]
  constructor
  · intro h1 x y z hx hy hz
    exact dif_zero.1 (of_decide_eq_true (h1 x hx)) z ((img_bit (h.sm.at_ hx) z).2 ⟨y, hy, hz⟩)
  · intro h1 x hx
    refine decide_eq_true (dif_zero.2 fun z hz => ?_)
    obtain ⟨y, hy, hyz⟩ := (img_bit (h.sm.at_ hx) z).1 hz
    exact h1 x y z hx hy hyz

/-! The inverse. -/
def Bk (a : Nat → Nat) (n i k : Nat) (f : Nat → Nat) : Prop :=
  ∀ j, j < n → f j < 1073741824 ∧ ∀ x, (f j).testBit x = true ↔ ((x < i ∧ (a x).testBit j = true) ∨ (x = i ∧ j ∈ (mbs (a i)).take k))
theorem Bk.zero (a : Nat → Nat) (n : Nat) : Bk a n 0 0 (fun _ => 0) := by
  intro j _
  refine ⟨by show 0 < 1073741824; omega, fun x => ?_⟩
  rw [Nat.zero_testBit]
  constructor
  · intro h; cases h
  · rintro (⟨h, _⟩ | ⟨_, h⟩)
    · omega
    · rw [List.take_zero] at h; cases h
theorem Bk.step {a : Nat → Nat} {n i k : Nat} {f f' : Nat → Nat} (h : Bk a n i k f) (hk : k < (mbs (a i)).length) (hi : i < 30) (h1 : f' (nt (mbs (a i)) k) = f (nt (mbs (a i)) k) ||| 2 ^ i) (h2 : ∀ j, j < n → j ≠ nt (mbs (a i)) k → f' j = f j) : Bk a n i (k + 1) f' := by
  intro j hj
  obtain ⟨b1, b2⟩ := h j hj
  rw [take_succ_nt hk]
  by_cases he : j = nt (mbs (a i)) k
  · rw [he, h1, ← he]
    refine ⟨or_sm b1 (pow30 hi), fun x => ?_⟩
    rw [Nat.testBit_or, Bool.or_eq_true, b2 x, Nat.testBit_two_pow, decide_eq_true_eq, List.mem_append, List.mem_singleton]
    constructor
    · rintro ((h | ⟨h, hm⟩) | h)
      · exact .inl h
      · exact .inr ⟨h, .inl hm⟩
      · exact .inr ⟨h.symm, .inr rfl⟩
    · rintro (h | ⟨h, hm⟩)
      · exact .inl (.inl h)
      · exact .inr h.symm
  · rw [h2 j hj he]
    refine ⟨b1, fun x => ?_⟩
    rw [b2 x, List.mem_append, List.mem_singleton]
    constructor
    · rintro (h | ⟨h, hm⟩)
      · exact .inl h
      · exact .inr ⟨h, .inl hm⟩
    · rintro (h | ⟨h, hm | hm⟩)
      · exact .inl h
      · exact .inr ⟨h, hm⟩
      · exact absurd hm he
theorem Bk.next {a : Nat → Nat} {n i : Nat} {f : Nat → Nat} (h : Bk a n i (mbs (a i)).length f) (ha : a i < 1073741824) : Bk a n (i + 1) 0 f := by
  intro j hj
  obtain ⟨b1, b2⟩ := h j hj
  refine ⟨b1, fun x => ?_⟩
  rw [b2 x, List.take_length, List.take_zero, mbs_mem ha]
  constructor
  · rintro (⟨h, hb⟩ | ⟨h, hb⟩)
    · exact .inl ⟨by omega, hb⟩
    · exact .inl ⟨by omega, by rw [h]; exact hb⟩
  · rintro (⟨h, hb⟩ | ⟨_, h⟩)
    · by_cases he : x = i
      · exact .inr ⟨he, by rw [← he]; exact hb⟩
      · exact .inl ⟨by omega, hb⟩
    · cases h
theorem Bk.bit {a : Nat → Nat} {n : Nat} {f : Nat → Nat} (h : Bk a n n 0 f) {j : Nat} (hj : j < n) (x : Nat) : (f j).testBit x = true ↔ x < n ∧ (a x).testBit j = true := by
  rw [(h j hj).2 x]
  constructor
  · rintro (h | ⟨_, h⟩)
    · exact h
    · rw [List.take_zero] at h; cases h
  · exact .inl
theorem anti_eq {A : List Nat} {f : Nat → Nat} (h : Bk (nt A) A.length A.length 0 f) : allB A.length (fun x => decide (dif (nt A x &&& f x) (2 ^ x) = 0)) = antiB A := by
  unfold antiB
  refine allB_congr fun x hx => ?_
  rw [Bool.eq_iff_iff, decide_eq_true_eq, dif_zero, allB_iff]
  constructor
  · intro h1 y hy
    unfold antiX
    cases hb : (nt A x).testBit y with
    | false => rfl
    | true =>
      cases hc : (nt A y).testBit x with
      | false => simp
      | true =>
        have := h1 y (by rw [Nat.testBit_and, hb, (h.bit hx y).2 ⟨hy, hc⟩]; rfl)
        rw [Nat.testBit_two_pow, decide_eq_true_eq] at this
        simp [this]
  · intro h1 z hz
    rw [Nat.testBit_and, Bool.and_eq_true, h.bit hx z] at hz
    have := h1 z hz.2.1
    unfold antiX at this
    rw [hz.1, hz.2.2] at this
    rw [Nat.testBit_two_pow, decide_eq_true_eq]
    simpa using this

/-! The transitive closure. -/
def Wr (a : Nat → Nat) (n j i : Nat) (f : Nat → Nat) : Prop :=
  (∀ x, x < n → f x < 1073741824 ∧ ∀ z, (a x).testBit z = true → (f x).testBit z = true) ∧
  (∀ x y, x < n → (y < j ∨ (y = j ∧ x < i)) → (a x).testBit y = true → ∀ z, (a y).testBit z = true → (f x).testBit z = true) ∧
  ((∀ x y z, x < n → (a x).testBit y = true → (a y).testBit z = true → (a x).testBit z = true) → ∀ x, x < n → f x = a x)
theorem Wr.zero {A : List Nat} (h : Rl A) : Wr (nt A) A.length 0 0 (nt A) :=
  ⟨fun _ hx => ⟨h.sm.at_ hx, fun _ hz => hz⟩, fun x y _ hy => by omega, fun _ _ _ => rfl⟩
theorem Wr.next {a : Nat → Nat} {n j : Nat} {f : Nat → Nat} (h : Wr a n j n f) : Wr a n (j + 1) 0 f := by
  refine ⟨h.1, fun x y hx hy => h.2.1 x y hx ?_, h.2.2⟩
  rcases hy with hy | ⟨_, hy⟩
  · by_cases he : y = j
    · exact .inr ⟨he, hx⟩
    · exact .inl (by omega)
  · omega
theorem Wr.skip {a : Nat → Nat} {n j i : Nat} {f : Nat → Nat} (h : Wr a n j i f) (hi : i < n) (hb : (f i).testBit j = false) : Wr a n j (i + 1) f := by
  refine ⟨h.1, fun x y hx hy hxy => ?_, h.2.2⟩
  by_cases he : y = j ∧ x = i
  · obtain ⟨rfl, rfl⟩ := he
    rw [(h.1 x hi).2 y hxy] at hb
    cases hb
  · refine h.2.1 x y hx ?_ hxy
    rcases hy with hy | ⟨hy, hx2⟩
    · exact .inl hy
    · exact .inr ⟨hy, by omega⟩
theorem Wr.step {a : Nat → Nat} {n j i : Nat} {f f' : Nat → Nat} (h : Wr a n j i f) (hi : i < n) (hj : j < n) (hb : (f i).testBit j = true) (h1 : f' i = f i ||| f j) (h2 : ∀ x, x < n → x ≠ i → f' x = f x) : Wr a n j (i + 1) f' := by
  have hup : ∀ x, x < n → ∀ z, (f x).testBit z = true → (f' x).testBit z = true := by
    intro x hx z hz
    by_cases he : x = i
    · rw [he, h1, Nat.testBit_or, ← he, hz]; rfl
    · rw [h2 x hx he]; exact hz
  refine ⟨fun x hx => ⟨?_, fun z hz => hup x hx z ((h.1 x hx).2 z hz)⟩, fun x y hx hy hxy z hyz => ?_, fun ht x hx => ?_⟩
  · by_cases he : x = i
    · rw [he, h1]; exact or_sm (h.1 i hi).1 (h.1 j hj).1
    · rw [h2 x hx he]; exact (h.1 x hx).1
  · by_cases he : y = j ∧ x = i
    · obtain ⟨rfl, rfl⟩ := he
      rw [h1, Nat.testBit_or, (h.1 y hj).2 z hyz]
      simp
    · refine hup x hx z (h.2.1 x y hx ?_ hxy z hyz)
      rcases hy with hy | ⟨hy, hx2⟩
      · exact .inl hy
      · exact .inr ⟨hy, by omega⟩
  · have hf := h.2.2 ht
    by_cases he : x = i
    · subst he
      rw [h1, hf x hx, hf j hj]
      rw [hf x hx] at hb
      apply Nat.eq_of_testBit_eq
      intro z
      rw [Nat.testBit_or]
      cases hax : (a x).testBit z with
      | true => rfl
      | false =>
        cases hjz : (a j).testBit z with
        | false => rfl
        | true => rw [ht x j z hx hb hjz] at hax; cases hax
    · rw [h2 x hx he]; exact hf x hx
theorem trans_eq {A : List Nat} (hA : Rl A) {f : Nat → Nat} (h : Wr (nt A) A.length A.length 0 f) : decide (zs ((List.range A.length).map f) = zs A) = transB A := by
  rw [Bool.eq_iff_iff, decide_eq_true_eq, transB_iff hA]
  have hL : (List.range A.length).map f = A ↔ ∀ x, x < A.length → f x = nt A x := by
    constructor
    · intro he x hx
      have := congrArg (fun L => nt L x) he
      simpa [nt, List.getD, hx] using this
    · intro he
      apply List.ext_getElem (by simp)
      intro x h1 h2
      rw [nt_get h2]
      simpa using he x h2
  constructor
  · intro he x y z hx hxy hyz
    have hf := hL.1 (zs_inj he)
    rw [← hf x hx]
    exact h.2.1 x y hx (.inl (hA.bit hx hxy)) hxy z hyz
  · intro ht
    exact congrArg zs (hL.2 (h.2.2 ht))
end Go.Proofs.YtefkgomecpnpbaaGreat

/- Boxes, full masks, implications of sets, plain. No program is in sight. -/
namespace Go.Proofs.YtefkgomecpnpbaaGreat
open Go.RowKit

/-- The elements among the first k that see members of m alone. -/
def bxK (A : List Nat) (m : Nat) : Nat → Nat
  | 0 => 0
  | k + 1 => if dif (nt A k) m = 0 then bxK A m k ||| 2 ^ k else bxK A m k
theorem bxK_yes {A : List Nat} {m k : Nat} (h : decide (dif (nt A k) m = 0) = true) : bxK A m (k + 1) = bxK A m k ||| 2 ^ k := by
  show (if _ then _ else _) = _
  rw [if_pos (of_decide_eq_true h)]
theorem bxK_no {A : List Nat} {m k : Nat} (h : decide (dif (nt A k) m = 0) = false) : bxK A m (k + 1) = bxK A m k := by
  show (if _ then _ else _) = _
  rw [if_neg (of_decide_eq_false h)]
theorem bxK_lt (A : List Nat) (m : Nat) : ∀ k, bxK A m k < 2 ^ k
  | 0 => by show 0 < _; omega
  | k + 1 => by
    have ih := bxK_lt A m k
    have h2 : 2 ^ (k + 1) = 2 * 2 ^ k := by rw [Nat.pow_succ]; omega
    unfold bxK
    split
    · exact or_n (by omega) (by omega)
    · omega
theorem bxK_sm {A : List Nat} {m k : Nat} (h : k ≤ 30) : bxK A m k < 1073741824 := Nat.lt_of_lt_of_le (bxK_lt _ _ _) (pow30' h)
theorem bxK_bit (A : List Nat) (m x : Nat) : ∀ k, (bxK A m k).testBit x = true ↔ x < k ∧ ∀ z, (nt A x).testBit z = true → m.testBit z = true
  | 0 => by show (0 : Nat).testBit x = true ↔ _; simp
  | k + 1 => by
    have ih := bxK_bit A m x k
    have hlt := bxK_lt A m k
    rw [show bxK A m (k + 1) = if dif (nt A k) m = 0 then bxK A m k ||| 2 ^ k else bxK A m k from rfl]
    by_cases hd : dif (nt A k) m = 0
    · rw [if_pos hd, Nat.testBit_or, Bool.or_eq_true, ih, Nat.testBit_two_pow]
      constructor
      · rintro (⟨h1, h2⟩ | h1)
        · exact ⟨by omega, h2⟩
        · obtain rfl : k = x := by simpa using h1
          exact ⟨by omega, dif_zero.1 hd⟩
      · rintro ⟨h1, h2⟩
        by_cases hx : k = x
        · exact .inr (by simp [hx])
        · exact .inl ⟨by omega, h2⟩
    · rw [if_neg hd, ih]
      constructor
      · rintro ⟨h1, h2⟩; exact ⟨by omega, h2⟩
      · rintro ⟨h1, h2⟩
        by_cases hx : x = k
        · exact absurd (dif_zero.2 (hx ▸ h2)) hd
        · exact ⟨by omega, h2⟩
/-- The elements that see members of m alone. -/
def bx (A : List Nat) (m : Nat) : Nat := bxK A m A.length
theorem bx_lt (A : List Nat) (m : Nat) : bx A m < 2 ^ A.length := bxK_lt A m A.length
theorem bx_bit {A : List Nat} {m x : Nat} : (bx A m).testBit x = true ↔ x < A.length ∧ ∀ z, (nt A x).testBit z = true → m.testBit z = true := bxK_bit A m x A.length
theorem and_dif {a m : Nat} : (a &&& m = a) ↔ dif a m = 0 := by
  rw [dif_zero]
  constructor
  · intro h z hz
    rw [← h, Nat.testBit_and] at hz
    simp only [Bool.and_eq_true] at hz
    exact hz.2
  · intro h
    apply Nat.eq_of_testBit_eq
    intro z
    rw [Nat.testBit_and]
    cases hz : a.testBit z with
    | false => rfl
    | true => rw [h z hz]; rfl
theorem dif_le {a b : Nat} : dif a b ≤ a := by
  have h : dif a b &&& a = dif a b := and_dif.2 (dif_zero.2 fun z hz => by rw [dif_bit] at hz; simp only [Bool.and_eq_true] at hz; exact hz.1)
  rw [← h]
  exact Nat.and_le_right
/-- All elements. -/
def full (n : Nat) : Nat := 2 ^ n - 1
theorem full_bit (n x : Nat) : (full n).testBit x = decide (x < n) := Nat.testBit_two_pow_sub_one n x
theorem full_lt (n : Nat) : full n < 2 ^ n := by
  have : 0 < 2 ^ n := Nat.pow_pos (by omega)
  unfold full; omega
theorem full_cast (n : Nat) : ((full n : Nat) : Int) = ((2 ^ n : Nat) : Int) - 1 := by
  have : 0 < 2 ^ n := Nat.pow_pos (by omega)
  unfold full
  generalize 2 ^ n = p at *
  omega
/-- The implication of two sets. -/
def ar (A : List Nat) (a b : Nat) : Nat := bx A (dif (full A.length) a ||| b)
theorem ar_bit {A : List Nat} (hA : Rl A) {a b x : Nat} : (ar A a b).testBit x = true ↔ x < A.length ∧ ∀ z, (nt A x).testBit z = true → a.testBit z = true → b.testBit z = true := by
  unfold ar
  rw [bx_bit]
  constructor
  · rintro ⟨h1, h2⟩
    refine ⟨h1, fun z hz ha => ?_⟩
    have h3 := h2 z hz
    rw [Nat.testBit_or, dif_bit, ha] at h3
    simpa using h3
  · rintro ⟨h1, h2⟩
    refine ⟨h1, fun z hz => ?_⟩
    rw [Nat.testBit_or, dif_bit, full_bit, decide_eq_true (hA.bit h1 hz)]
    cases ha : a.testBit z with
    | false => rfl
    | true => rw [h2 z hz ha]; simp
end Go.Proofs.YtefkgomecpnpbaaGreat

/- The plain parser: how far it comes, how many nodes it makes, which byte is next. No program is in sight. -/
namespace Go.Proofs.YtefkgomecpnpbaaGreat
namespace Fm

theorem sees_eq {s : List UInt8} {st : St} {c : UInt8} (h : sees s st c = true) : st.2 = false ∧ s[st.1]? = some c := by
  unfold sees at h
  simp only [Bool.and_eq_true, Bool.not_eq_true', beq_iff_eq] at h
  exact h
theorem sees_lt {s : List UInt8} {st : St} {c : UInt8} (h : sees s st c = true) : st.1 < s.length := by
  have := (sees_eq h).2
  rcases Nat.lt_or_ge st.1 s.length with h1 | h1
  · exact h1
  · rw [List.getElem?_eq_none h1] at this; cases this
theorem sees_other {s : List UInt8} {st : St} {c d : UInt8} (h : sees s st c = true) (hne : c ≠ d) : sees s st d = false := by
  obtain ⟨h1, h2⟩ := sees_eq h
  unfold sees
  rw [h1, h2]
  simp [hne]
theorem letter_some {s : List UInt8} {st : St} {v : Nat} (h : letter s st = some v) : v < 6 ∧ sees s st (UInt8.ofNat (112 + v)) = true := by
  unfold letter at h
  split at h
  · cases h
  · rename_i hb
    have hb' : st.2 = false := by simpa using hb
    split at h
    · rename_i c hc
      split at h
      · rename_i hr
        injection h with h
        subst h
        refine ⟨by omega, ?_⟩
        unfold sees
        have e : UInt8.ofNat (112 + (c.toNat - 112)) = c := by
          apply UInt8.toNat_inj.1
          rw [UInt8.toNat_ofNat']
          omega
        rw [hb', hc, e]
        simp
      · cases h
    · cases h
theorem letter_of_sees {s : List UInt8} {st : St} {v : Nat} (hv : v < 6) (h : sees s st (UInt8.ofNat (112 + v)) = true) : letter s st = some v := by
  obtain ⟨h1, h2⟩ := sees_eq h
  unfold letter
  rw [h1, h2]
  have e : (UInt8.ofNat (112 + v)).toNat = 112 + v := by rw [UInt8.toNat_ofNat']; omega
  simp only [e]
  rw [if_neg (by simp), if_pos (by omega)]
  congr 1
  omega
theorem letter_none {s : List UInt8} {st : St} (h : letter s st = none) (v : Nat) (hv : v < 6) : sees s st (UInt8.ofNat (112 + v)) = false := by
  cases hs : sees s st (UInt8.ofNat (112 + v)) with
  | false => rfl
  | true => rw [letter_of_sees hv hs] at h; cases h
theorem letter_ne {s : List UInt8} {st : St} {v i : Nat} (h : letter s st = some v) (hi : i < 6) (hne : i ≠ v) : sees s st (UInt8.ofNat (112 + i)) = false := by
  cases hs : sees s st (UInt8.ofNat (112 + i)) with
  | false => rfl
  | true => rw [letter_of_sees hi hs] at h; injection h with h; exact absurd h hne
theorem letter_of_other {s : List UInt8} {st : St} {c : UInt8} (h : sees s st c = true) (hc : c.toNat < 112 ∨ 117 < c.toNat) : letter s st = none := by
  obtain ⟨h1, h2⟩ := sees_eq h
  unfold letter
  rw [h1, h2]
  simp only
  rw [if_neg (by simp), if_neg (by omega)]

/-- A result that does not run backwards or over the end, and is not too long. -/
def Ok (s : List UInt8) (st : St) (r : Res) : Prop := st.1 ≤ r.2.1 ∧ r.2.1 ≤ s.length ∧ r.1.length ≤ 3 * (r.2.1 - st.1) + 1

theorem need_pos {s : List UInt8} {st : St} {c : UInt8} (h : st.1 ≤ s.length) : st.1 ≤ (need s st c).1 ∧ (need s st c).1 ≤ s.length := by
  unfold need
  split
  · rename_i hs
    have := sees_lt hs
    simp only [step]
    omega
  · exact ⟨Nat.le_refl _, h⟩

theorem loop_ok {s : List UInt8} {k : Int} {c : UInt8} {sub : St → Res} (hsub : ∀ st, st.1 ≤ s.length → Ok s st (sub st)) : ∀ (m : Nat) (a : List Nd) (st st0 : St), st0.1 ≤ st.1 → st.1 ≤ s.length → a.length ≤ 3 * (st.1 - st0.1) + 1 → Ok s st0 (loop s k c sub m a st) := by
  intro m
  induction m with
  | zero => intro a st st0 h1 h2 h3; exact ⟨h1, h2, h3⟩
  | succ m ih =>
    intro a st st0 h1 h2 h3
    unfold loop
    split
    · rename_i hs
      have hlt := sees_lt hs
      have h := hsub (step st) (by simp only [step]; omega)
      obtain ⟨g1, g2, g3⟩ := h
      simp only [step] at g1 g2 g3
      refine ih _ _ st0 (by simp only [step]; omega) (by simp only [step]; omega) ?_
      simp only [join, List.length_cons, List.length_append, step]
      omega
    · exact ⟨h1, h2, h3⟩

theorem andF_ok {s : List UInt8} {m : Nat} {sub : St → Res} (hsub : ∀ st, st.1 ≤ s.length → Ok s st (sub st)) (st : St) (h : st.1 ≤ s.length) : Ok s st (andF s m sub st) := by
  obtain ⟨g1, g2, g3⟩ := hsub st h
  exact loop_ok hsub m _ _ st g1 g2 g3
theorem orF_ok {s : List UInt8} {m : Nat} {sub : St → Res} (hsub : ∀ st, st.1 ≤ s.length → Ok s st (sub st)) (st : St) (h : st.1 ≤ s.length) : Ok s st (orF s m sub st) := by
  obtain ⟨g1, g2, g3⟩ := andF_ok (m := m) hsub st h
  exact loop_ok (fun st h => andF_ok hsub st h) m _ _ st g1 g2 g3
theorem impF_ok {s : List UInt8} {m : Nat} {sub : St → Res} (hsub : ∀ st, st.1 ≤ s.length → Ok s st (sub st)) : ∀ (i : Nat) (st : St), st.1 ≤ s.length → Ok s st (impF s m sub i st) := by
  intro i
  induction i with
  | zero => intro st h; exact orF_ok hsub st h
  | succ i ih =>
    intro st h
    unfold impF
    obtain ⟨g1, g2, g3⟩ := orF_ok (m := m) hsub st h
    dsimp only
    split
    · rename_i hs
      have hlt := sees_lt hs
      obtain ⟨k1, k2, k3⟩ := ih (step (orF s m sub st).2) (by simp only [step]; omega)
      simp only [step] at k1 k2 k3
      refine ⟨by simp only [step]; omega, by simp only [step]; omega, ?_⟩
      simp only [join, List.length_cons, List.length_append, step]
      omega
    · exact ⟨g1, g2, g3⟩
theorem preF_ok {s : List UInt8} {m : Nat} : ∀ (f : Nat) (st : St), st.1 ≤ s.length → Ok s st (preF s m f st) := by
  intro f
  induction f with
  | zero => intro st h; exact ⟨Nat.le_refl _, h, by simp [preF, falsum]⟩
  | succ f ih =>
    intro st h
    unfold preF
    split
    · rename_i hs
      have hlt := sees_lt hs
      obtain ⟨k1, k2, k3⟩ := ih (step st) (by simp only [step]; omega)
      simp only [step] at k1 k2 k3
      refine ⟨by simp only [step]; omega, by simp only [step]; omega, ?_⟩
      simp only [neg, join, falsum, List.length_cons, List.length_append, List.length_nil, step]
      omega
    split
    · rename_i hs
      have hlt := sees_lt hs
      obtain ⟨n1, n2⟩ := need_pos (s := s) (st := step st) (c := 93) (by simp only [step]; omega)
      obtain ⟨k1, k2, k3⟩ := ih (need s (step st) 93) n2
      have e : (step st).1 = st.1 + 1 := rfl
      refine ⟨by simp only; omega, by simp only; omega, ?_⟩
      simp only [pre, List.length_cons]
      omega
    split
    · rename_i hs
      have hlt := sees_lt hs
      obtain ⟨n1, n2⟩ := need_pos (s := s) (st := step st) (c := 62) (by simp only [step]; omega)
      obtain ⟨k1, k2, k3⟩ := ih (need s (step st) 62) n2
      have e : (step st).1 = st.1 + 1 := rfl
      refine ⟨by simp only; omega, by simp only; omega, ?_⟩
      simp only [pre, List.length_cons]
      omega
    split
    · rename_i hs
      have hlt := sees_lt hs
      exact ⟨by simp only [step]; omega, by simp only [step]; omega, by simp [falsum]⟩
    split
    · rename_i hs
      have hlt := sees_lt hs
      exact ⟨by simp only [step]; omega, by simp only [step]; omega, by simp only [truth, step, List.length_cons, List.length_nil]; omega⟩
    split
    · rename_i hs
      have hlt := sees_lt hs
      obtain ⟨k1, k2, k3⟩ := impF_ok (m := m) ih m (step st) (by simp only [step]; omega)
      obtain ⟨n1, n2⟩ := need_pos (s := s) (st := (impF s m (preF s m f) m (step st)).2) (c := 41) k2
      have e : (step st).1 = st.1 + 1 := rfl
      refine ⟨by simp only; omega, n2, ?_⟩
      simp only
      omega
    split
    · rename_i v hv
      have hlt := sees_lt (letter_some hv).2
      exact ⟨by simp only [step]; omega, by simp only [step]; omega, by simp [vari]⟩
    · exact ⟨Nat.le_refl _, h, by simp [falsum]⟩

theorem parse_ok (s : List UInt8) (m : Nat) : Ok s (0, false) (parse s m) := impF_ok (fun st h => preF_ok m st h) m (0, false) (by simp)

theorem preF_not {s : List UInt8} {m f : Nat} {st : St} (h : sees s st 126 = true) : preF s m (f + 1) st = (neg (preF s m f (step st)).1, (preF s m f (step st)).2) := by
  rw [preF, if_pos h]
theorem preF_box {s : List UInt8} {m f : Nat} {st : St} (h : sees s st 91 = true) : preF s m (f + 1) st = (pre 5 (preF s m f (need s (step st) 93)).1, (preF s m f (need s (step st) 93)).2) := by
  rw [preF, if_neg (by rw [sees_other h (by decide)]; decide), if_pos h]
theorem preF_dia {s : List UInt8} {m f : Nat} {st : St} (h : sees s st 60 = true) : preF s m (f + 1) st = (pre 6 (preF s m f (need s (step st) 62)).1, (preF s m f (need s (step st) 62)).2) := by
  rw [preF, if_neg (by rw [sees_other h (by decide)]; decide), if_neg (by rw [sees_other h (by decide)]; decide), if_pos h]
theorem preF_fls {s : List UInt8} {m f : Nat} {st : St} (h : sees s st 70 = true) : preF s m (f + 1) st = (falsum, step st) := by
  rw [preF, if_neg (by rw [sees_other h (by decide)]; decide), if_neg (by rw [sees_other h (by decide)]; decide), if_neg (by rw [sees_other h (by decide)]; decide), if_pos h]
theorem preF_tru {s : List UInt8} {m f : Nat} {st : St} (h : sees s st 84 = true) : preF s m (f + 1) st = (truth, step st) := by
  rw [preF, if_neg (by rw [sees_other h (by decide)]; decide), if_neg (by rw [sees_other h (by decide)]; decide), if_neg (by rw [sees_other h (by decide)]; decide), if_neg (by rw [sees_other h (by decide)]; decide), if_pos h]
theorem preF_par {s : List UInt8} {m f : Nat} {st : St} (h : sees s st 40 = true) : preF s m (f + 1) st = ((impF s m (preF s m f) m (step st)).1, need s (impF s m (preF s m f) m (step st)).2 41) := by
  rw [preF, if_neg (by rw [sees_other h (by decide)]; decide), if_neg (by rw [sees_other h (by decide)]; decide), if_neg (by rw [sees_other h (by decide)]; decide), if_neg (by rw [sees_other h (by decide)]; decide), if_neg (by rw [sees_other h (by decide)]; decide), if_pos h]
theorem sees_low {s : List UInt8} {st : St} {v : Nat} {c : UInt8} (h : letter s st = some v) (hc : c.toNat < 112 ∨ 117 < c.toNat) : sees s st c = false := by
  refine sees_other (letter_some h).2 fun e => ?_
  have := (letter_some h).1
  have h2 : (UInt8.ofNat (112 + v)).toNat = 112 + v := by rw [UInt8.toNat_ofNat']; omega
  rw [e] at h2
  omega
theorem preF_var {s : List UInt8} {m f : Nat} {st : St} {v : Nat} (h : letter s st = some v) : preF s m (f + 1) st = (vari v, step st) := by
  rw [preF, if_neg (by rw [sees_low h (by decide)]; decide), if_neg (by rw [sees_low h (by decide)]; decide), if_neg (by rw [sees_low h (by decide)]; decide), if_neg (by rw [sees_low h (by decide)]; decide), if_neg (by rw [sees_low h (by decide)]; decide), if_neg (by rw [sees_low h (by decide)]; decide), h]
theorem preF_bad {s : List UInt8} {m f : Nat} {st : St} (h1 : sees s st 126 = false) (h2 : sees s st 91 = false) (h3 : sees s st 60 = false) (h4 : sees s st 70 = false) (h5 : sees s st 84 = false) (h6 : sees s st 40 = false) (h : letter s st = none) : preF s m (f + 1) st = (falsum, (st.1, true)) := by
  rw [preF, if_neg (by rw [h1]; decide), if_neg (by rw [h2]; decide), if_neg (by rw [h3]; decide), if_neg (by rw [h4]; decide), if_neg (by rw [h5]; decide), if_neg (by rw [h6]; decide), h]
theorem impF_yes {s : List UInt8} {m i : Nat} {sub : St → Res} {st : St} (h : sees s (orF s m sub st).2 62 = true) : impF s m sub (i + 1) st = (join 4 (orF s m sub st).1 (impF s m sub i (step (orF s m sub st).2)).1, (impF s m sub i (step (orF s m sub st).2)).2) := by
  rw [impF]; dsimp only; rw [if_pos h]
theorem impF_no {s : List UInt8} {m i : Nat} {sub : St → Res} {st : St} (h : sees s (orF s m sub st).2 62 = false) : impF s m sub (i + 1) st = orF s m sub st := by
  rw [impF]; dsimp only; rw [if_neg (by rw [h]; decide)]

end Fm
end Go.Proofs.YtefkgomecpnpbaaGreat

/- Formulas as trees, their lists of nodes and their texts. No program is in sight. -/
namespace Go.Proofs.YtefkgomecpnpbaaGreat
namespace Fm

inductive Tree where
  | var (v : Fin 6)
  | fls
  | and (a b : Tree)
  | or (a b : Tree)
  | imp (a b : Tree)
  | box (a : Tree)
  | dia (a : Tree)

/-- The list of the nodes. -/
def enc : Tree → List Nd
  | .var v => [(0, (v.val : Int))]
  | .fls => [(1, 0)]
  | .and a b => (2, 0) :: (enc a ++ enc b)
  | .or a b => (3, 0) :: (enc a ++ enc b)
  | .imp a b => (4, 0) :: (enc a ++ enc b)
  | .box a => (5, 0) :: enc a
  | .dia a => (6, 0) :: enc a

theorem enc_pos (t : Tree) : 1 ≤ (enc t).length := by cases t <;> simp [enc]

def isF : Tree → Bool
  | .fls => true
  | _ => false
theorem isF_eq {t : Tree} (h : isF t = true) : t = .fls := by cases t <;> simp_all [isF]

/-- How many parts the nodes of a kind have. -/
def arity (k : Int) : Nat := if k = 2 ∨ k = 3 ∨ k = 4 then 2 else if k = 5 ∨ k = 6 then 1 else 0
theorem arity_le (k : Int) : arity k ≤ 2 := by unfold arity; split; omega; split <;> omega

/-- How many nodes are read till no part is open. -/
def scan : List Nd → Nat → Option Nat
  | _, 0 => some 0
  | [], _ + 1 => none
  | x :: xs, o + 1 => (scan xs (o + arity x.1)).map (· + 1)

theorem scan_zero (xs : List Nd) : scan xs 0 = some 0 := by cases xs <;> rfl
theorem scan_nil (o : Nat) : scan [] (o + 1) = none := rfl
theorem scan_cons (x : Nd) (xs : List Nd) (o : Nat) : scan (x :: xs) (o + 1) = (scan xs (o + arity x.1)).map (· + 1) := rfl

theorem scan_enc (t : Tree) : ∀ (rest : List Nd) (o : Nat), scan (enc t ++ rest) (o + 1) = (scan rest o).map (· + (enc t).length) := by
  induction t with
  | var v => intro rest o; simp [enc, scan_cons, arity]
  | fls => intro rest o; simp [enc, scan_cons, arity]
  | and a b iha ihb =>
    intro rest o
    simp only [enc, List.cons_append, scan_cons, List.append_assoc]
    rw [show arity 2 = 2 from rfl, show o + 2 = (o + 1) + 1 from rfl, iha, ihb]
    cases scan rest o <;> simp; omega
  | or a b iha ihb =>
    intro rest o
    simp only [enc, List.cons_append, scan_cons, List.append_assoc]
    rw [show arity 3 = 2 from rfl, show o + 2 = (o + 1) + 1 from rfl, iha, ihb]
    cases scan rest o <;> simp; omega
  | imp a b iha ihb =>
    intro rest o
    simp only [enc, List.cons_append, scan_cons, List.append_assoc]
    rw [show arity 4 = 2 from rfl, show o + 2 = (o + 1) + 1 from rfl, iha, ihb]
    cases scan rest o <;> simp; omega
  | box a iha =>
    intro rest o
    simp only [enc, List.cons_append, scan_cons]
    rw [show arity 5 = 1 from rfl, iha]
    cases scan rest o <;> simp; omega
  | dia a iha =>
    intro rest o
    simp only [enc, List.cons_append, scan_cons]
    rw [show arity 6 = 1 from rfl, iha]
    cases scan rest o <;> simp; omega
theorem scan_one (t : Tree) (rest : List Nd) : scan (enc t ++ rest) 1 = some (enc t).length := by
  rw [scan_enc t rest 0, scan_zero]; simp
theorem scan_le : ∀ (xs : List Nd) (o n : Nat), scan xs o = some n → n ≤ xs.length := by
  intro xs
  induction xs with
  | nil => intro o n h; cases o with
    | zero => simp [scan_zero] at h; omega
    | succ o => simp [scan_nil] at h
  | cons x xs ih => intro o n h; cases o with
    | zero => simp [scan_zero] at h; omega
    | succ o =>
      rw [scan_cons] at h
      cases hs : scan xs (o + arity x.1) with
      | none => rw [hs] at h; simp at h
      | some m => rw [hs] at h; simp at h; have := ih _ _ hs; simp; omega

/-- The level of the grammar at which a text stands. -/
def own : Tree → Nat
  | .and _ _ => 2
  | .or _ _ => 1
  | .imp _ b => if isF b then 3 else 0
  | _ => 3
def wrap (l o : Nat) (s : List UInt8) : List UInt8 := if o < l then [40] ++ s ++ [41] else s
/-- The text at a level. -/
def txt : Tree → Nat → List UInt8
  | .var v, _ => [UInt8.ofNat (112 + v.val)]
  | .fls, _ => [70]
  | .and a b, l => wrap l 2 (txt a 2 ++ [38] ++ txt b 3)
  | .or a b, l => wrap l 1 (txt a 1 ++ [124] ++ txt b 2)
  | .imp a b, l => if isF b then (if isF a then [84] else [126] ++ txt a 3) else wrap l 0 (txt a 1 ++ [62] ++ txt b 0)
  | .box a, _ => [91, 93] ++ txt a 3
  | .dia a, _ => [60, 62] ++ txt a 3

theorem wrap_len (l o : Nat) (s : List UInt8) : (wrap l o s).length ≤ s.length + 2 := by
  unfold wrap; split <;> simp
theorem txt_len (t : Tree) : ∀ l, (txt t l).length ≤ 4 * (enc t).length := by
  induction t with
  | var v => intro l; simp [txt, enc]
  | fls => intro l; simp [txt, enc]
  | and a b iha ihb =>
    intro l
    have := wrap_len l 2 (txt a 2 ++ [38] ++ txt b 3)
    have h1 := iha 2
    have h2 := ihb 3
    simp only [txt, enc, List.length_cons, List.length_append, List.length_nil] at *
    omega
  | or a b iha ihb =>
    intro l
    have := wrap_len l 1 (txt a 1 ++ [124] ++ txt b 2)
    have h1 := iha 1
    have h2 := ihb 2
    simp only [txt, enc, List.length_cons, List.length_append, List.length_nil] at *
    omega
  | imp a b iha ihb =>
    intro l
    have := wrap_len l 0 (txt a 1 ++ [62] ++ txt b 0)
    have h1 := iha 1
    have h2 := ihb 0
    have h3 := iha 3
    have h4 := enc_pos a
    simp only [txt]
    split
    · split
      · simp [enc]; omega
      · simp only [enc, List.length_cons, List.length_append, List.length_nil]; omega
    · simp only [enc, List.length_cons, List.length_append, List.length_nil] at *; omega
  | box a iha =>
    intro l
    have h3 := iha 3
    simp only [txt, enc, List.length_cons, List.length_append, List.length_nil]; omega
  | dia a iha =>
    intro l
    have h3 := iha 3
    simp only [txt, enc, List.length_cons, List.length_append, List.length_nil]; omega

theorem arity_enc (t : Tree) : ∃ x rest, enc t = x :: rest := by cases t <;> exact ⟨_, _, rfl⟩

/-- Every list that the parser makes is that of a tree. -/
def IsEnc (xs : List Nd) : Prop := ∃ t, xs = enc t
theorem isEnc_join {k : Int} {a b : List Nd} (hk : k = 2 ∨ k = 3 ∨ k = 4) (ha : IsEnc a) (hb : IsEnc b) : IsEnc (join k a b) := by
  obtain ⟨s, rfl⟩ := ha
  obtain ⟨t, rfl⟩ := hb
  rcases hk with rfl | rfl | rfl
  · exact ⟨.and s t, rfl⟩
  · exact ⟨.or s t, rfl⟩
  · exact ⟨.imp s t, rfl⟩
theorem isEnc_pre {k : Int} {a : List Nd} (hk : k = 5 ∨ k = 6) (ha : IsEnc a) : IsEnc (pre k a) := by
  obtain ⟨s, rfl⟩ := ha
  rcases hk with rfl | rfl
  · exact ⟨.box s, rfl⟩
  · exact ⟨.dia s, rfl⟩
theorem isEnc_falsum : IsEnc falsum := ⟨.fls, rfl⟩
theorem loop_enc {s : List UInt8} {k : Int} {c : UInt8} {sub : St → Res} (hk : k = 2 ∨ k = 3 ∨ k = 4) (hsub : ∀ st, IsEnc (sub st).1) : ∀ (m : Nat) (a : List Nd) (st : St), IsEnc a → IsEnc (loop s k c sub m a st).1 := by
  intro m
  induction m with
  | zero => intro a st h; exact h
  | succ m ih =>
    intro a st h
    unfold loop
    split
    · exact ih _ _ (isEnc_join hk h (hsub _))
    · exact h
theorem andF_enc {s : List UInt8} {m : Nat} {sub : St → Res} (hsub : ∀ st, IsEnc (sub st).1) (st : St) : IsEnc (andF s m sub st).1 := loop_enc (.inl rfl) hsub _ _ _ (hsub st)
theorem orF_enc {s : List UInt8} {m : Nat} {sub : St → Res} (hsub : ∀ st, IsEnc (sub st).1) (st : St) : IsEnc (orF s m sub st).1 := loop_enc (.inr (.inl rfl)) (fun st => andF_enc hsub st) _ _ _ (andF_enc hsub st)
theorem impF_enc {s : List UInt8} {m : Nat} {sub : St → Res} (hsub : ∀ st, IsEnc (sub st).1) : ∀ (i : Nat) (st : St), IsEnc (impF s m sub i st).1 := by
  intro i
  induction i with
  | zero => intro st; exact orF_enc hsub st
  | succ i ih =>
    intro st
    unfold impF
    dsimp only
    split
    · exact isEnc_join (.inr (.inr rfl)) (orF_enc hsub st) (ih _)
    · exact orF_enc hsub st
theorem preF_enc {s : List UInt8} {m : Nat} : ∀ (f : Nat) (st : St), IsEnc (preF s m f st).1 := by
  intro f
  induction f with
  | zero => intro st; exact isEnc_falsum
  | succ f ih =>
    intro st
    unfold preF
    split
    · exact isEnc_join (.inr (.inr rfl)) (ih _) isEnc_falsum
    split
    · exact isEnc_pre (.inl rfl) (ih _)
    split
    · exact isEnc_pre (.inr rfl) (ih _)
    split
    · exact isEnc_falsum
    split
    · exact ⟨.imp .fls .fls, rfl⟩
    split
    · exact impF_enc ih _ _
    split
    · rename_i v hv
      exact ⟨.var ⟨v, (letter_some hv).1⟩, rfl⟩
    · exact isEnc_falsum
theorem parse_enc (s : List UInt8) (m : Nat) : IsEnc (parse s m).1 := impF_enc (fun st => preF_enc m st) m _

end Fm
end Go.Proofs.YtefkgomecpnpbaaGreat

/- The value of a plain formula on a poset. No program is in sight. -/
namespace Go.Proofs.YtefkgomecpnpbaaGreat
open Go.RowKit
open Fm (Nd Tree)

/-- The value of a plain formula. -/
def fv (A V : List Nat) : Tree → Nat
  | .var v => nt V v.val
  | .fls => 0
  | .and a b => fv A V a &&& fv A V b
  | .or a b => fv A V a ||| fv A V b
  | .imp a b => ar A (fv A V a) (fv A V b)
  | .box _ => 0
  | .dia _ => 0
theorem fv_lt {A V : List Nat} (hV : ∀ m ∈ V, m < 2 ^ A.length) : ∀ t : Tree, fv A V t < 2 ^ A.length
  | .var v => by
    show nt V v.val < _
    by_cases h : v.val < V.length
    · exact hV _ (nt_mem h)
    · unfold nt; rw [List.getD_eq_getElem?_getD, List.getElem?_eq_none (by omega)]; exact Nat.pow_pos (by omega)
  | .fls => Nat.pow_pos (by omega)
  | .and a b => Nat.and_lt_two_pow _ (fv_lt hV b)
  | .or a b => Nat.or_lt_two_pow (fv_lt hV a) (fv_lt hV b)
  | .imp a b => bx_lt _ _
  | .box _ => Nat.pow_pos (by omega)
  | .dia _ => Nat.pow_pos (by omega)
end Go.Proofs.YtefkgomecpnpbaaGreat

/- Intuitionistic consequence by Kripke models; the rules of a terminating search, each an equivalence; a measure. No program is in sight. -/
namespace Go.Proofs.YtefkgomecpnpbaaGreat
namespace Fm

structure Kr where
  W : Type
  le : W → W → Prop
  val : W → Fin 6 → Prop
  refl : ∀ w, le w w
  trans : ∀ {a b c}, le a b → le b c → le a c
  mono : ∀ {a b v}, le a b → val a v → val b v

namespace Kr
def force (K : Kr) : K.W → Tree → Prop
  | w, .var v => K.val w v
  | _, .fls => False
  | w, .and a b => K.force w a ∧ K.force w b
  | w, .or a b => K.force w a ∨ K.force w b
  | w, .imp a b => ∀ u, K.le w u → K.force u a → K.force u b
  | _, .box _ => False
  | _, .dia _ => False
theorem force_mono (K : Kr) {w u : K.W} (h : K.le w u) : ∀ {a : Tree}, K.force w a → K.force u a := by
  intro a
  induction a with
  | var v => exact K.mono h
  | fls => exact id
  | and a b ha hb => exact fun ⟨h1, h2⟩ => ⟨ha h1, hb h2⟩
  | or a b ha hb => exact fun h1 => h1.elim (fun h => .inl (ha h)) (fun h => .inr (hb h))
  | imp a b _ _ => exact fun h1 v hv => h1 v (K.trans h hv)
  | box a _ => exact id
  | dia a _ => exact id

/-- A new root below the roots of some models. -/
def glue (ι : Type) (M : ι → Kr) (r : ∀ i, (M i).W) (p : Fin 6 → Prop) (hp : ∀ v, p v → ∀ i, (M i).val (r i) v) : Kr where
  W := Option (Σ i, (M i).W)
  le x y := match x, y with
    | none, none => True
    | none, some ⟨i, u⟩ => (M i).le (r i) u
    | some _, none => False
    | some ⟨i, u⟩, some ⟨j, v⟩ => ∃ h : i = j, (M j).le (h ▸ u) v
  val x v := match x with
    | none => p v
    | some ⟨i, u⟩ => (M i).val u v
  refl := by
    intro x
    cases x with
    | none => trivial
    | some x => exact ⟨rfl, (M x.1).refl _⟩
  trans := by
    intro a b c h1 h2
    match a, b, c, h1, h2 with
    | none, none, none, _, _ => trivial
    | none, none, some _, _, h2 => exact h2
    | none, some ⟨i, u⟩, some ⟨j, v⟩, h1, h2 =>
      obtain ⟨rfl, h2⟩ := h2
      exact (M i).trans h1 h2
    | some ⟨i, u⟩, some ⟨j, v⟩, some ⟨k, x⟩, h1, h2 =>
      obtain ⟨rfl, h1⟩ := h1
      obtain ⟨rfl, h2⟩ := h2
      exact ⟨rfl, (M i).trans h1 h2⟩
  mono := by
    intro a b v h1 h2
    match a, b, h1, h2 with
    | none, none, _, h2 => exact h2
    | none, some ⟨i, u⟩, h1, h2 => exact (M i).mono h1 (hp v h2 i)
    | some ⟨i, u⟩, some ⟨j, x⟩, h1, h2 =>
      obtain ⟨rfl, h1⟩ := h1
      exact (M i).mono h1 h2

theorem glue_force {ι : Type} {M : ι → Kr} {r : ∀ i, (M i).W} {p : Fin 6 → Prop} {hp : ∀ v, p v → ∀ i, (M i).val (r i) v} (i : ι) : ∀ (a : Tree) (u : (M i).W), (glue ι M r p hp).force (some ⟨i, u⟩) a ↔ (M i).force u a := by
  intro a
  induction a with
  | var v => intro u; exact Iff.rfl
  | fls => intro u; exact Iff.rfl
  | and a b ha hb => intro u; exact and_congr (ha u) (hb u)
  | or a b ha hb => intro u; exact or_congr (ha u) (hb u)
  | imp a b ha hb =>
    intro u
    constructor
    · intro h v hv h1
      exact (hb v).1 (h (some ⟨i, v⟩) ⟨rfl, hv⟩ ((ha v).2 h1))
    · intro h x hx h1
      match x, hx, h1 with
      | some ⟨j, v⟩, hx, h1 =>
        obtain ⟨rfl, hx⟩ := hx
        exact (hb v).2 (h v hx ((ha v).1 h1))
  | box a _ => intro u; exact Iff.rfl
  | dia a _ => intro u; exact Iff.rfl
end Kr

/-- c follows from the formulas of G. -/
def Ent (G : Tree → Prop) (c : Tree) : Prop := ∀ (K : Kr) (w : K.W), (∀ a, G a → K.force w a) → K.force w c
theorem Ent.congr {G H : Tree → Prop} {c : Tree} (h : ∀ a, G a ↔ H a) : Ent G c ↔ Ent H c := by
  have : G = H := funext fun a => propext (h a)
  rw [this]
theorem Ent.more {G H : Tree → Prop} {c : Tree} (h : ∀ a, G a → H a) (hG : Ent G c) : Ent H c := fun K w hw => hG K w fun a ha => hw a (h a ha)
/-- G with one formula more. -/
def plus (G : Tree → Prop) (x : Tree) : Tree → Prop := fun a => G a ∨ a = x

theorem ent_mem {G : Tree → Prop} {c : Tree} (h : G c) : Ent G c := fun _ _ hw => hw c h
theorem ent_fls {G : Tree → Prop} {c : Tree} (h : G .fls) : Ent G c := fun _ _ hw => (hw .fls h).elim
/-- Formulas x that are forced exactly where those of the list are. -/
theorem ent_swap {R : Tree → Prop} {x c : Tree} {H : Tree → Prop} (h : ∀ (K : Kr) (w : K.W), (∀ a, R a → K.force w a) → (K.force w x ↔ ∀ a, H a → K.force w a)) : Ent (plus R x) c ↔ Ent (fun a => R a ∨ H a) c := by
  constructor
  · intro h1 K w hw
    refine h1 K w fun a ha => ?_
    rcases ha with ha | rfl
    · exact hw a (.inl ha)
    · exact (h K w fun a ha => hw a (.inl ha)).2 fun a ha => hw a (.inr ha)
  · intro h1 K w hw
    refine h1 K w fun a ha => ?_
    rcases ha with ha | ha
    · exact hw a (.inl ha)
    · exact (h K w fun a ha => hw a (.inl ha)).1 (hw x (.inr rfl)) a ha
theorem ent_drop {R : Tree → Prop} {x c : Tree} (h : ∀ (K : Kr) (w : K.W), (∀ a, R a → K.force w a) → K.force w x) : Ent (plus R x) c ↔ Ent R c := by
  constructor
  · intro h1 K w hw
    refine h1 K w fun a ha => ?_
    rcases ha with ha | rfl
    · exact hw a ha
    · exact h K w hw
  · exact Ent.more fun a ha => .inl ha
theorem ent_or_useless {R : Tree → Prop} {x y c : Tree} (h : R x ∨ R y) : Ent (plus R (.or x y)) c ↔ Ent R c :=
  ent_drop fun _ _ hw => h.elim (fun h => .inl (hw _ h)) (fun h => .inr (hw _ h))
theorem ent_imp_useless {R : Tree → Prop} {x y c : Tree} (h : R y) : Ent (plus R (.imp x y)) c ↔ Ent R c :=
  ent_drop fun K _ hw _ hu _ => K.force_mono hu (hw _ h)
theorem ent_fls_imp {R : Tree → Prop} {y c : Tree} : Ent (plus R (.imp .fls y)) c ↔ Ent R c :=
  ent_drop fun _ _ _ _ _ h => h.elim
theorem ent_and {R : Tree → Prop} {x y c : Tree} : Ent (plus R (.and x y)) c ↔ Ent (plus (plus R x) y) c := by
  refine (ent_swap (x := .and x y) (H := fun a => a = x ∨ a = y) fun K w _ => ⟨fun h a ha => ?_, fun h => ⟨h x (.inl rfl), h y (.inr rfl)⟩⟩).trans (Ent.congr fun a => ?_)
  · rcases ha with rfl | rfl
    · exact h.1
    · exact h.2
  · exact or_assoc.symm
theorem ent_or {R : Tree → Prop} {x y c : Tree} : Ent (plus R (.or x y)) c ↔ Ent (plus R x) c ∧ Ent (plus R y) c := by
  constructor
  · intro h
    refine ⟨fun K w hw => h K w fun a ha => ?_, fun K w hw => h K w fun a ha => ?_⟩
    · rcases ha with ha | rfl
      · exact hw a (.inl ha)
      · exact .inl (hw x (.inr rfl))
    · rcases ha with ha | rfl
      · exact hw a (.inl ha)
      · exact .inr (hw y (.inr rfl))
  · intro ⟨h1, h2⟩ K w hw
    rcases hw _ (.inr rfl) with h | h
    · refine h1 K w fun a ha => ?_
      rcases ha with ha | rfl
      · exact hw a (.inl ha)
      · exact h
    · refine h2 K w fun a ha => ?_
      rcases ha with ha | rfl
      · exact hw a (.inl ha)
      · exact h
theorem ent_one {R : Tree → Prop} {x y c : Tree} (h : ∀ (K : Kr) (w : K.W), (∀ a, R a → K.force w a) → (K.force w x ↔ K.force w y)) : Ent (plus R x) c ↔ Ent (plus R y) c :=
  (ent_swap (H := fun a => a = y) fun K w hw => ⟨fun hx a ha => by rw [ha]; exact (h K w hw).1 hx, fun ha => (h K w hw).2 (ha y rfl)⟩)
theorem ent_mp {R : Tree → Prop} {x y c : Tree} (h : R x) : Ent (plus R (.imp x y)) c ↔ Ent (plus R y) c :=
  ent_one fun K w hw => ⟨fun hi => hi w (K.refl w) (hw x h), fun hy _ hu _ => K.force_mono hu hy⟩
theorem ent_and_imp {R : Tree → Prop} {x y z c : Tree} : Ent (plus R (.imp (.and x y) z)) c ↔ Ent (plus R (.imp x (.imp y z))) c :=
  ent_one fun K _ _ => ⟨fun h u hu hx v hv hy => h v (K.trans hu hv) ⟨K.force_mono hv hx, hy⟩, fun h u hu ⟨hx, hy⟩ => h u hu hx u (K.refl u) hy⟩
theorem ent_or_imp {R : Tree → Prop} {x y z c : Tree} : Ent (plus R (.imp (.or x y) z)) c ↔ Ent (plus (plus R (.imp x z)) (.imp y z)) c := by
  refine (ent_swap (x := .imp (.or x y) z) (H := fun a => a = .imp x z ∨ a = .imp y z) fun K w _ => ⟨fun h a ha => ?_, fun h u hu hxy => ?_⟩).trans (Ent.congr fun a => ?_)
  · rcases ha with rfl | rfl
    · exact fun u hu hx => h u hu (.inl hx)
    · exact fun u hu hy => h u hu (.inr hy)
  · rcases hxy with hx | hy
    · exact h _ (.inl rfl) u hu hx
    · exact h _ (.inr rfl) u hu hy
  · exact or_assoc.symm
theorem ent_r_and {G : Tree → Prop} {x y : Tree} : Ent G (.and x y) ↔ Ent G x ∧ Ent G y :=
  ⟨fun h => ⟨fun K w hw => (h K w hw).1, fun K w hw => (h K w hw).2⟩, fun h K w hw => ⟨h.1 K w hw, h.2 K w hw⟩⟩
theorem ent_r_imp {G : Tree → Prop} {x y : Tree} : Ent G (.imp x y) ↔ Ent (plus G x) y := by
  constructor
  · intro h K w hw
    exact h K w (fun a ha => hw a (.inl ha)) w (K.refl w) (hw x (.inr rfl))
  · intro h K w hw u hu hx
    refine h K u fun a ha => ?_
    rcases ha with ha | rfl
    · exact K.force_mono hu (hw a ha)
    · exact hx
theorem ent_r_or1 {G : Tree → Prop} {x y : Tree} (h : Ent G x) : Ent G (.or x y) := fun K w hw => .inl (h K w hw)
theorem ent_r_or2 {G : Tree → Prop} {x y : Tree} (h : Ent G y) : Ent G (.or x y) := fun K w hw => .inr (h K w hw)
/-- The rule for (x>y)>z is sound. -/
theorem ent_imp_imp {R : Tree → Prop} {x y z c : Tree} (h1 : Ent (plus (plus R (.imp y z)) x) y) (h2 : Ent (plus R z) c) : Ent (plus R (.imp (.imp x y) z)) c := by
  intro K w hw
  have hz : K.force w z := by
    refine hw _ (.inr rfl) w (K.refl w) fun u hu hx => ?_
    refine h1 K u fun a ha => ?_
    rcases ha with (ha | rfl) | rfl
    · exact K.force_mono hu (hw a (.inl ha))
    · intro v hv hy
      exact hw _ (.inr rfl) v (K.trans hu hv) fun s hs _ => K.force_mono hs hy
    · exact hx
  refine h2 K w fun a ha => ?_
  rcases ha with ha | rfl
  · exact hw a (.inl ha)
  · exact hz

theorem not_ent {G : Tree → Prop} {c : Tree} (h : ¬ Ent G c) : ∃ (K : Kr) (w : K.W), (∀ a, G a → K.force w a) ∧ ¬ K.force w c := by
  by_cases hx : ∃ (K : Kr) (w : K.W), (∀ a, G a → K.force w a) ∧ ¬ K.force w c
  · exact hx
  · refine absurd (fun K w hw => ?_) h
    by_cases hc : K.force w c
    · exact hc
    · exact absurd ⟨K, w, hw, hc⟩ hx

/-- A formula to which no rule of the left side applies that loses nothing. -/
def Stuck (G : Tree → Prop) (a : Tree) : Prop := (∃ v, a = .var v) ∨ (∃ v y, a = .imp (.var v) y ∧ ¬ G (.var v)) ∨ (∃ x y z, a = .imp (.imp x y) z)

/-- Where every formula is stuck, a consequence comes by one of the ways. -/
theorem ent_ways {G : Tree → Prop} {c : Tree} (hs : ∀ a, G a → Stuck G a) (hc : ¬ G c) (hk : (∃ v, c = .var v) ∨ c = .fls ∨ ∃ x y, c = .or x y) (h : Ent G c) :
    (∃ x y, c = .or x y ∧ (Ent G x ∨ Ent G y)) ∨ ∃ x y z, G (.imp (.imp x y) z) ∧ Ent (fun a => (G a ∧ a ≠ .imp (.imp x y) z) ∨ a = .imp y z ∨ a = x) y ∧ Ent (fun a => (G a ∧ a ≠ .imp (.imp x y) z) ∨ a = z) c := by
  by_cases hno : (∃ x y, c = .or x y ∧ (Ent G x ∨ Ent G y)) ∨ ∃ x y z, G (.imp (.imp x y) z) ∧ Ent (fun a => (G a ∧ a ≠ .imp (.imp x y) z) ∨ a = .imp y z ∨ a = x) y ∧ Ent (fun a => (G a ∧ a ≠ .imp (.imp x y) z) ∨ a = z) c
  · exact hno
  exfalso
  -- the right premise of every such implication follows, since its conclusion does
  have hr : ∀ x y z, G (.imp (.imp x y) z) → Ent (fun a => (G a ∧ a ≠ .imp (.imp x y) z) ∨ a = z) c := by
    intro x y z hG K w hw
    refine h K w fun a ha => ?_
    by_cases e : a = .imp (.imp x y) z
    · subst e
      exact fun u hu _ => K.force_mono hu (hw z (.inr rfl))
    · exact hw a (.inl ⟨ha, e⟩)
  have hl : ∀ x y z, G (.imp (.imp x y) z) → ¬ Ent (fun a => (G a ∧ a ≠ .imp (.imp x y) z) ∨ a = .imp y z ∨ a = x) y := fun x y z hG hE => hno (.inr ⟨x, y, z, hG, hE, hr x y z hG⟩)
  -- the models: one for each implication of an implication, two for a disjunction
  let I := { q : Tree × Tree × Tree // G (.imp (.imp q.1 q.2.1) q.2.2) }
  have hm1 : ∀ i : I, ∃ (K : Kr) (w : K.W), (∀ a, ((G a ∧ a ≠ .imp (.imp i.1.1 i.1.2.1) i.1.2.2) ∨ a = .imp i.1.2.1 i.1.2.2 ∨ a = i.1.1) → K.force w a) ∧ ¬ K.force w i.1.2.1 := fun i => not_ent (hl _ _ _ i.2)
  let J := { q : Tree × Tree // c = .or q.1 q.2 } × Bool
  have hm2 : ∀ j : J, ∃ (K : Kr) (w : K.W), (∀ a, G a → K.force w a) ∧ ¬ K.force w (if j.2 then j.1.1.1 else j.1.1.2) := by
    rintro ⟨⟨⟨x, y⟩, hq⟩, b⟩
    cases b with
    | true => exact not_ent fun hE => hno (.inl ⟨x, y, hq, .inl hE⟩)
    | false => exact not_ent fun hE => hno (.inl ⟨x, y, hq, .inr hE⟩)
  let M : I ⊕ J → Kr := fun s => match s with
    | .inl i => Classical.choose (hm1 i)
    | .inr j => Classical.choose (hm2 j)
  let r : ∀ s : I ⊕ J, (M s).W := fun s => match s with
    | .inl i => Classical.choose (Classical.choose_spec (hm1 i))
    | .inr j => Classical.choose (Classical.choose_spec (hm2 j))
  have s1 : ∀ i : I, (∀ a, ((G a ∧ a ≠ .imp (.imp i.1.1 i.1.2.1) i.1.2.2) ∨ a = .imp i.1.2.1 i.1.2.2 ∨ a = i.1.1) → (M (.inl i)).force (r (.inl i)) a) ∧ ¬ (M (.inl i)).force (r (.inl i)) i.1.2.1 := fun i => Classical.choose_spec (Classical.choose_spec (hm1 i))
  have s2 : ∀ j : J, (∀ a, G a → (M (.inr j)).force (r (.inr j)) a) ∧ ¬ (M (.inr j)).force (r (.inr j)) (if j.2 then j.1.1.1 else j.1.1.2) := fun j => Classical.choose_spec (Classical.choose_spec (hm2 j))
  -- every model's root forces all of G
  have hall : ∀ (s : I ⊕ J) a, G a → (M s).force (r s) a := by
    intro s a ha
    match s with
    | .inr j => exact (s2 j).1 a ha
    | .inl i =>
      by_cases e : a = .imp (.imp i.1.1 i.1.2.1) i.1.2.2
      · rw [e]
        intro u hu hxy
        have hx := (s1 i).1 i.1.1 (.inr (.inr rfl))
        have hyz := (s1 i).1 (.imp i.1.2.1 i.1.2.2) (.inr (.inl rfl))
        exact hyz u hu (hxy u ((M (.inl i)).refl u) ((M (.inl i)).force_mono hu hx))
      · exact (s1 i).1 a (.inl ⟨ha, e⟩)
  let N := Kr.glue (I ⊕ J) M r (fun v => G (.var v)) (fun v hv s => hall s (.var v) hv)
  have hsome : ∀ (s : I ⊕ J) a, N.force (some ⟨s, r s⟩) a ↔ (M s).force (r s) a := fun s a => Kr.glue_force s a (r s)
  have hup : ∀ s : I ⊕ J, N.le none (some ⟨s, r s⟩) := fun s => (M s).refl (r s)
  -- the root forces all of G
  have hroot : ∀ a, G a → N.force none a := by
    intro a ha
    -- above the root, all of G is forced
    have habove : ∀ s u, (M s).le (r s) u → (M s).force u a := fun s u hu => (M s).force_mono hu (hall s a ha)
    rcases hs a ha with ⟨v, rfl⟩ | ⟨v, y, rfl, hv⟩ | ⟨x, y, z, rfl⟩
    · exact ha
    · intro w hw hp
      match w, hw, hp with
      | none, _, hp => exact absurd hp hv
      | some ⟨s, u⟩, hw, hp =>
        have h1 := habove s u hw
        exact (Kr.glue_force s y u).2 (h1 u ((M s).refl u) ((Kr.glue_force s (.var v) u).1 hp))
    · intro w hw hp
      match w, hw, hp with
      | none, _, hp =>
        have i : I := ⟨(x, y, z), ha⟩
        exfalso
        have hy := hp (some ⟨.inl ⟨(x, y, z), ha⟩, r (.inl ⟨(x, y, z), ha⟩)⟩) (hup (.inl ⟨(x, y, z), ha⟩)) ((hsome _ x).2 ((s1 ⟨(x, y, z), ha⟩).1 x (.inr (.inr rfl))))
        exact (s1 ⟨(x, y, z), ha⟩).2 ((hsome _ y).1 hy)
      | some ⟨s, u⟩, hw, hp =>
        have h1 := habove s u hw
        exact (Kr.glue_force s z u).2 (h1 u ((M s).refl u) ((Kr.glue_force s (.imp x y) u).1 hp))
  have hcf := h N none hroot
  rcases hk with ⟨v, rfl⟩ | rfl | ⟨x, y, rfl⟩
  · exact hc hcf
  · exact hcf
  · rcases hcf with hx | hy
    · have h1 := N.force_mono (hup (.inr (⟨(x, y), rfl⟩, true))) hx
      exact (s2 (⟨(x, y), rfl⟩, true)).2 ((hsome _ _).1 h1)
    · have h1 := N.force_mono (hup (.inr (⟨(x, y), rfl⟩, false))) hy
      exact (s2 (⟨(x, y), rfl⟩, false)).2 ((hsome _ _).1 h1)
end Fm
end Go.Proofs.YtefkgomecpnpbaaGreat

/- Formulas with one variable, plain: each is equivalent to falsity, truth or a formula of the Nishimura sequence; how far it lies in the sequence. No program is in sight. -/
namespace Go.Proofs.YtefkgomecpnpbaaGreat
namespace Fm

/-- x k = N(2k-1) (x 0 = falsity), y k = N(2k) (y 0 = the variable, as x 1). -/
def Nis (K : Kr) : Nat → (K.W → Prop) × (K.W → Prop)
  | 0 => (fun _ => False, fun w => K.val w 0)
  | k + 1 => (fun w => (Nis K k).2 w ∨ (Nis K k).1 w, fun w => ∀ u, K.le w u → (Nis K k).2 u → (Nis K k).1 u)
def NX (K : Kr) (k : Nat) : K.W → Prop := (Nis K k).1
def NY (K : Kr) (k : Nat) : K.W → Prop := (Nis K k).2
section
variable {K : Kr}
theorem nx_zero {w : K.W} : NX K 0 w ↔ False := Iff.rfl
theorem nx_succ {k : Nat} {w : K.W} : NX K (k + 1) w ↔ NY K k w ∨ NX K k w := Iff.rfl
theorem ny_succ {k : Nat} {w : K.W} : NY K (k + 1) w ↔ ∀ u, K.le w u → NY K k u → NX K k u := Iff.rfl
theorem nis_mono : ∀ {k : Nat} {w u : K.W}, K.le w u → (NX K k w → NX K k u) ∧ (NY K k w → NY K k u)
  | 0, _, _, h => ⟨id, fun hv => K.mono h hv⟩
  | _ + 1, _, _, h => ⟨fun hx => hx.elim (fun a => .inl ((nis_mono h).2 a)) (fun a => .inr ((nis_mono h).1 a)), fun hy v hv => hy v (K.trans h hv)⟩
theorem nx_mono {k : Nat} {w u : K.W} (h : K.le w u) (hx : NX K k w) : NX K k u := (nis_mono h).1 hx
theorem ny_mono {k : Nat} {w u : K.W} (h : K.le w u) (hy : NY K k w) : NY K k u := (nis_mono h).2 hy
/-- x j stands below x k. -/
theorem nx_up {w : K.W} : ∀ {j k : Nat}, j ≤ k → NX K j w → NX K k w := by
  intro j k h
  induction k with
  | zero =>
    intro hx
    obtain rfl : j = 0 := by omega
    exact hx
  | succ k ih =>
    intro hx
    by_cases he : j = k + 1
    · exact he ▸ hx
    · exact .inr (ih (by omega) hx)
/-- x j stands below y k. -/
theorem nx_ny {w : K.W} {j k : Nat} (h : j < k) (hx : NX K j w) : NY K k w := by
  cases k with
  | zero => omega
  | succ k => exact fun u hu _ => nx_up (by omega : j ≤ k) (nx_mono hu hx)
theorem ny_nx {w : K.W} {j k : Nat} (h : j < k) (hy : NY K j w) : NX K k w := nx_up (by omega : j + 1 ≤ k) (.inl hy)
theorem ny_up {w : K.W} {j k : Nat} (h : j + 1 < k) (hy : NY K j w) : NY K k w := nx_ny h (ny_nx (Nat.lt_succ_self j) hy)
/-- The meet of x and y at one place. -/
theorem nx_meet {w : K.W} {k : Nat} (hx : NX K (k + 1) w) (hy : NY K (k + 1) w) : NX K k w := hx.elim (fun a => hy w (K.refl w) a) id
/-- The meet of two neighbours y. -/
theorem ny_meet {w : K.W} {k : Nat} (h1 : NY K k w) (h2 : NY K (k + 1) w) : NX K k w := h2 w (K.refl w) h1
theorem ny_meet' {w : K.W} {k : Nat} (h1 : NY K (k + 1) w) (h2 : NY K (k + 2) w) : NX K k w := nx_meet (ny_meet h1 h2) h1
end

/-- The codes. -/
inductive NC where
  | top
  | x (k : Nat)
  | y (k : Nat)
def NC.den (K : Kr) : NC → K.W → Prop
  | .top, _ => True
  | .x k, w => NX K k w
  | .y k, w => NY K (k + 1) w
/-- How far it lies. -/
def NC.far : NC → Nat
  | .top => 0
  | .x k => 2 * k
  | .y k => 2 * k + 3
theorem NC.mono {K : Kr} {c : NC} {w u : K.W} (h : K.le w u) : c.den K w → c.den K u := by
  cases c with
  | top => exact id
  | x k => exact nx_mono h
  | y k => exact ny_mono h
def NC.and : NC → NC → NC
  | .top, c => c
  | c, .top => c
  | .x j, .x k => if j ≤ k then .x j else .x k
  | .x j, .y k => if j ≤ k then .x j else if j = k + 1 then .x k else .y k
  | .y k, .x j => if j ≤ k then .x j else if j = k + 1 then .x k else .y k
  | .y j, .y k => if j = k then .y j else if k = j + 1 then .x j else if j = k + 1 then .x k else if j < k then .y j else .y k
def NC.or : NC → NC → NC
  | .top, _ => .top
  | _, .top => .top
  | .x j, .x k => if j ≤ k then .x k else .x j
  | .x j, .y k => if j ≤ k then .y k else if j = k + 1 then .x (k + 2) else .x j
  | .y k, .x j => if j ≤ k then .y k else if j = k + 1 then .x (k + 2) else .x j
  | .y j, .y k => if j = k then .y j else if k = j + 1 then .x (j + 3) else if j = k + 1 then .x (k + 3) else if j < k then .y k else .y j
def NC.imp : NC → NC → NC
  | .top, c => c
  | _, .top => .top
  | .x j, .x k => if j ≤ k then .top else if j = k + 1 then .y k else .x k
  | .x j, .y k => if j ≤ k then .top else .y k
  | .y j, .x k => if j + 1 < k then .top else if k = j + 1 then .y (j + 1) else if k = j then .y (j + 1) else if k + 1 = j then .y k else .x k
  | .y j, .y k => if j = k then .top else if k = j + 1 then .y (j + 1) else if j < k then .top else .y k

theorem NC.and_den (K : Kr) (a b : NC) (w : K.W) : (a.and b).den K w ↔ a.den K w ∧ b.den K w := by
  have xy : ∀ j k, (if j ≤ k then NC.x j else if j = k + 1 then NC.x k else NC.y k).den K w ↔ NX K j w ∧ NY K (k + 1) w := by
    intro j k
    by_cases h1 : j ≤ k
    · rw [if_pos h1]
      exact ⟨fun h => ⟨h, nx_ny (by omega) h⟩, fun h => h.1⟩
    · rw [if_neg h1]
      by_cases h2 : j = k + 1
      · rw [if_pos h2]; subst h2
        exact ⟨fun h => ⟨nx_up (by omega) (show NX K k w from h), nx_ny (by omega) (show NX K k w from h)⟩, fun h => nx_meet h.1 h.2⟩
      · rw [if_neg h2]
        exact ⟨fun h => ⟨ny_nx (by omega) (show NY K (k + 1) w from h), h⟩, fun h => h.2⟩
  cases a with
  | top => cases b <;> exact ⟨fun h => ⟨trivial, h⟩, fun h => h.2⟩
  | x j =>
    cases b with
    | top => exact ⟨fun h => ⟨h, trivial⟩, fun h => h.1⟩
    | x k =>
      show (if j ≤ k then NC.x j else NC.x k).den K w ↔ NX K j w ∧ NX K k w
      by_cases h1 : j ≤ k
      · rw [if_pos h1]; exact ⟨fun h => ⟨h, nx_up h1 h⟩, fun h => h.1⟩
      · rw [if_neg h1]; exact ⟨fun h => ⟨nx_up (by omega) (show NX K k w from h), h⟩, fun h => h.2⟩
    | y k => exact xy j k
  | y j =>
    cases b with
    | top => exact ⟨fun h => ⟨h, trivial⟩, fun h => h.1⟩
    | x k => exact (xy k j).trans ⟨fun h => ⟨h.2, h.1⟩, fun h => ⟨h.2, h.1⟩⟩
    | y k =>
      show (if j = k then NC.y j else if k = j + 1 then NC.x j else if j = k + 1 then NC.x k else if j < k then NC.y j else NC.y k).den K w ↔ NY K (j + 1) w ∧ NY K (k + 1) w
      by_cases h1 : j = k
      · rw [if_pos h1]; subst h1; exact ⟨fun h => ⟨h, h⟩, fun h => h.1⟩
      · rw [if_neg h1]
        by_cases h2 : k = j + 1
        · rw [if_pos h2]; subst h2
          exact ⟨fun h => ⟨nx_ny (by omega) (show NX K j w from h), nx_ny (by omega) (show NX K j w from h)⟩, fun h => ny_meet' h.1 h.2⟩
        · rw [if_neg h2]
          by_cases h3 : j = k + 1
          · rw [if_pos h3]; subst h3
            exact ⟨fun h => ⟨nx_ny (by omega) (show NX K k w from h), nx_ny (by omega) (show NX K k w from h)⟩, fun h => ny_meet' h.2 h.1⟩
          · rw [if_neg h3]
            by_cases h4 : j < k
            · rw [if_pos h4]; exact ⟨fun h => ⟨h, ny_up (by omega) (show NY K (j + 1) w from h)⟩, fun h => h.1⟩
            · rw [if_neg h4]; exact ⟨fun h => ⟨ny_up (by omega) (show NY K (k + 1) w from h), h⟩, fun h => h.2⟩
theorem NC.or_den (K : Kr) (a b : NC) (w : K.W) : (a.or b).den K w ↔ a.den K w ∨ b.den K w := by
  have xy : ∀ j k, (if j ≤ k then NC.y k else if j = k + 1 then NC.x (k + 2) else NC.x j).den K w ↔ NX K j w ∨ NY K (k + 1) w := by
    intro j k
    by_cases h1 : j ≤ k
    · rw [if_pos h1]
      exact ⟨fun h => .inr h, fun h => h.elim (fun h => nx_ny (by omega) h) id⟩
    · rw [if_neg h1]
      by_cases h2 : j = k + 1
      · rw [if_pos h2]; subst h2
        exact ⟨fun h => (nx_succ.1 (show NX K (k + 1 + 1) w from h)).elim .inr .inl, fun h => h.elim .inr .inl⟩
      · rw [if_neg h2]
        exact ⟨fun h => .inl h, fun h => h.elim id (fun h => ny_nx (by omega) h)⟩
  cases a with
  | top => cases b <;> exact ⟨fun _ => .inl trivial, fun _ => trivial⟩
  | x j =>
    cases b with
    | top => exact ⟨fun _ => .inr trivial, fun _ => trivial⟩
    | x k =>
      show (if j ≤ k then NC.x k else NC.x j).den K w ↔ NX K j w ∨ NX K k w
      by_cases h1 : j ≤ k
      · rw [if_pos h1]; exact ⟨fun h => .inr h, fun h => h.elim (nx_up h1) id⟩
      · rw [if_neg h1]; exact ⟨fun h => .inl h, fun h => h.elim id (nx_up (by omega))⟩
    | y k => exact xy j k
  | y j =>
    cases b with
    | top => exact ⟨fun _ => .inr trivial, fun _ => trivial⟩
    | x k => exact (xy k j).trans ⟨fun h => h.elim .inr .inl, fun h => h.elim .inr .inl⟩
    | y k =>
      have nb : ∀ i, NX K (i + 3) w ↔ NY K (i + 1) w ∨ NY K (i + 2) w := fun i => by
        constructor
        · intro h
          rcases h with h | h
          · exact .inr h
          · rcases h with h | h
            · exact .inl h
            · exact .inr (nx_ny (by omega) h)
        · intro h
          rcases h with h | h
          · exact ny_nx (by omega) h
          · exact .inl h
      show (if j = k then NC.y j else if k = j + 1 then NC.x (j + 3) else if j = k + 1 then NC.x (k + 3) else if j < k then NC.y k else NC.y j).den K w ↔ NY K (j + 1) w ∨ NY K (k + 1) w
      by_cases h1 : j = k
      · rw [if_pos h1]; subst h1; exact ⟨fun h => .inl h, fun h => h.elim id id⟩
      · rw [if_neg h1]
        by_cases h2 : k = j + 1
        · rw [if_pos h2]; subst h2; exact nb j
        · rw [if_neg h2]
          by_cases h3 : j = k + 1
          · rw [if_pos h3]; subst h3; exact (nb k).trans ⟨fun h => h.elim .inr .inl, fun h => h.elim .inr .inl⟩
          · rw [if_neg h3]
            by_cases h4 : j < k
            · rw [if_pos h4]; exact ⟨fun h => .inr h, fun h => h.elim (ny_up (by omega)) id⟩
            · rw [if_neg h4]; exact ⟨fun h => .inl h, fun h => h.elim id (ny_up (by omega))⟩

section
variable {K : Kr}
theorem imp_top {w : K.W} {P Q : K.W → Prop} (h : ∀ u, P u → Q u) : NC.den K .top w ↔ ∀ u, K.le w u → P u → Q u := ⟨fun _ u _ => h u, fun _ => trivial⟩
/-- x (k+1) → x k is y (k+1). -/
theorem imp_xx {w : K.W} {k : Nat} : NY K (k + 1) w ↔ ∀ u, K.le w u → NX K (k + 1) u → NX K k u := by
  constructor
  · intro h u hu hx; exact hx.elim (h u hu) id
  · intro h u hu hy; exact h u hu (.inl hy)
/-- x j → x k is x k, where j is greater by 2. -/
theorem imp_xx2 {w : K.W} {j k : Nat} (hj : k + 2 ≤ j) : NX K k w ↔ ∀ u, K.le w u → NX K j u → NX K k u := by
  constructor
  · intro h u hu _; exact nx_mono hu h
  · intro h
    have hy : NY K (k + 1) w := imp_xx.2 fun u hu hx => h u hu (nx_up (by omega) hx)
    exact h w (K.refl w) (ny_nx (by omega) hy)
theorem imp_xy {w : K.W} {j k : Nat} (hj : k + 1 ≤ j) : NY K (k + 1) w ↔ ∀ u, K.le w u → NX K j u → NY K (k + 1) u := by
  constructor
  · intro h u hu _; exact ny_mono hu h
  · intro h u hu hy
    exact h u hu (ny_nx (by omega) hy) u (K.refl u) hy
theorem imp_yy {w : K.W} {j k : Nat} (hj : k < j) : NY K (k + 1) w ↔ ∀ u, K.le w u → NY K (j + 1) u → NY K (k + 1) u := by
  constructor
  · intro h u hu _; exact ny_mono hu h
  · intro h u hu hy
    exact h u hu (ny_up (by omega) hy) u (K.refl u) hy
theorem imp_yy1 {w : K.W} {j : Nat} : NY K (j + 1) w ↔ ∀ u, K.le w u → NY K j u → NY K (j + 1) u := by
  constructor
  · intro h u hu _; exact ny_mono hu h
  · intro h u hu hy; exact h u hu hy u (K.refl u) hy
/-- y (k+1) → x k is y (k+2). -/
theorem imp_yx {w : K.W} {k : Nat} : NY K (k + 2) w ↔ ∀ u, K.le w u → NY K (k + 1) u → NX K k u := by
  constructor
  · intro h u hu hy; exact nx_meet (h u hu hy) hy
  · intro h u hu hy; exact nx_up (by omega) (h u hu hy)
/-- y (k+2) → x k is y (k+1). -/
theorem imp_yx1 {w : K.W} {k : Nat} : NY K (k + 1) w ↔ ∀ u, K.le w u → NY K (k + 2) u → NX K k u := by
  constructor
  · intro h u hu hy; exact ny_meet' (ny_mono hu h) hy
  · intro h; exact imp_xx.2 fun u hu hx => h u hu (nx_ny (by omega) hx)
theorem imp_yx2 {w : K.W} {j k : Nat} (hj : k + 3 ≤ j) : NX K k w ↔ ∀ u, K.le w u → NY K j u → NX K k u := by
  constructor
  · intro h u hu _; exact nx_mono hu h
  · intro h; exact (imp_xx2 (Nat.le_refl (k + 2))).2 fun u hu hx => h u hu (nx_ny (by omega) hx)
end
theorem NC.imp_den (K : Kr) (a b : NC) (w : K.W) : (a.imp b).den K w ↔ ∀ u, K.le w u → a.den K u → b.den K u := by
  have t1 : ∀ (c : NC), c.den K w ↔ ∀ u, K.le w u → NC.den K .top u → c.den K u := fun c => ⟨fun h u hu _ => NC.mono hu h, fun h => h w (K.refl w) trivial⟩
  cases a with
  | top => cases b <;> exact t1 _
  | x j =>
    cases b with
    | top => exact imp_top (fun _ _ => trivial)
    | x k =>
      show (if j ≤ k then NC.top else if j = k + 1 then NC.y k else NC.x k).den K w ↔ ∀ u, K.le w u → NX K j u → NX K k u
      by_cases h1 : j ≤ k
      · rw [if_pos h1]; exact imp_top (fun _ => nx_up h1)
      · rw [if_neg h1]
        by_cases h2 : j = k + 1
        · rw [if_pos h2]; subst h2; exact imp_xx
        · rw [if_neg h2]; exact imp_xx2 (by omega)
    | y k =>
      show (if j ≤ k then NC.top else NC.y k).den K w ↔ ∀ u, K.le w u → NX K j u → NY K (k + 1) u
      by_cases h1 : j ≤ k
      · rw [if_pos h1]; exact imp_top (fun _ => nx_ny (by omega))
      · rw [if_neg h1]; exact imp_xy (by omega)
  | y j =>
    cases b with
    | top => exact imp_top (fun _ _ => trivial)
    | x k =>
      show (if j + 1 < k then NC.top else if k = j + 1 then NC.y (j + 1) else if k = j then NC.y (j + 1) else if k + 1 = j then NC.y k else NC.x k).den K w ↔ ∀ u, K.le w u → NY K (j + 1) u → NX K k u
      by_cases h1 : j + 1 < k
      · rw [if_pos h1]; exact imp_top (fun _ => ny_nx h1)
      · rw [if_neg h1]
        by_cases h2 : k = j + 1
        · rw [if_pos h2]; subst h2; exact Iff.rfl
        · rw [if_neg h2]
          by_cases h3 : k = j
          · rw [if_pos h3]; subst h3; exact imp_yx
          · rw [if_neg h3]
            by_cases h4 : k + 1 = j
            · rw [if_pos h4]; subst h4; exact imp_yx1
            · rw [if_neg h4]; exact imp_yx2 (by omega)
    | y k =>
      show (if j = k then NC.top else if k = j + 1 then NC.y (j + 1) else if j < k then NC.top else NC.y k).den K w ↔ ∀ u, K.le w u → NY K (j + 1) u → NY K (k + 1) u
      by_cases h1 : j = k
      · rw [if_pos h1]; subst h1; exact imp_top (fun _ => id)
      · rw [if_neg h1]
        by_cases h2 : k = j + 1
        · rw [if_pos h2]; subst h2; exact imp_yy1
        · rw [if_neg h2]
          by_cases h3 : j < k
          · rw [if_pos h3]; exact imp_top (fun _ => ny_up (by omega))
          · rw [if_neg h3]; exact imp_yy (by omega)

/-- The code of a formula. -/
def nc : Tree → NC
  | .var _ => .x 1
  | .fls => .x 0
  | .and a b => (nc a).and (nc b)
  | .or a b => (nc a).or (nc b)
  | .imp a b => (nc a).imp (nc b)
  | .box _ => .x 0
  | .dia _ => .x 0
/-- Only the first variable. -/
def One : Tree → Prop
  | .var v => v = 0
  | .fls => True
  | .and a b => One a ∧ One b
  | .or a b => One a ∧ One b
  | .imp a b => One a ∧ One b
  | .box _ => False
  | .dia _ => False
theorem nc_den (K : Kr) : ∀ (t : Tree), One t → ∀ w, K.force w t ↔ (nc t).den K w
  | .var v, h, w => by
    have h : v = 0 := h
    subst h
    show K.val w 0 ↔ K.val w 0 ∨ False
    exact ⟨.inl, fun h => h.elim id False.elim⟩
  | .fls, _, w => Iff.rfl
  | .and a b, h, w => (and_congr (nc_den K a h.1 w) (nc_den K b h.2 w)).trans (NC.and_den K _ _ w).symm
  | .or a b, h, w => (or_congr (nc_den K a h.1 w) (nc_den K b h.2 w)).trans (NC.or_den K _ _ w).symm
  | .imp a b, h, w => by
    refine Iff.trans ?_ (NC.imp_den K _ _ w).symm
    exact forall_congr' fun u => imp_congr Iff.rfl (imp_congr (nc_den K a h.1 u) (nc_den K b h.2 u))
  | .box _, h, _ => h.elim
  | .dia _, h, _ => h.elim
theorem NC.and_far (a b : NC) : (a.and b).far ≤ max a.far b.far := by
  cases a <;> cases b <;> simp only [NC.and] <;> (repeat' split) <;> simp only [NC.far] <;> omega
theorem NC.or_far (a b : NC) : (a.or b).far ≤ max a.far b.far + 2 := by
  cases a <;> cases b <;> simp only [NC.or] <;> (repeat' split) <;> simp only [NC.far] <;> omega
theorem NC.imp_far (a b : NC) : (a.imp b).far ≤ max a.far b.far + 2 := by
  cases a <;> cases b <;> simp only [NC.imp] <;> (repeat' split) <;> simp only [NC.far] <;> omega
theorem nc_far : ∀ (t : Tree), (nc t).far ≤ (enc t).length + 1
  | .var _ => by simp [nc, NC.far, enc]
  | .fls => by simp [nc, NC.far, enc]
  | .and a b => by
    have := nc_far a; have := nc_far b; have := NC.and_far (nc a) (nc b); have := enc_pos a; have := enc_pos b
    simp only [nc, enc, List.length_cons, List.length_append]; omega
  | .or a b => by
    have := nc_far a; have := nc_far b; have := NC.or_far (nc a) (nc b); have := enc_pos a; have := enc_pos b
    simp only [nc, enc, List.length_cons, List.length_append]; omega
  | .imp a b => by
    have := nc_far a; have := nc_far b; have := NC.imp_far (nc a) (nc b); have := enc_pos a; have := enc_pos b
    simp only [nc, enc, List.length_cons, List.length_append]; omega
  | .box _ => by simp [nc, NC.far]
  | .dia _ => by simp [nc, NC.far]
end Fm
end Go.Proofs.YtefkgomecpnpbaaGreat

/- The values of formulas with one variable on the first 28 elements of the ladder, plain. No program is in sight. -/
namespace Go.Proofs.YtefkgomecpnpbaaGreat
open Go.RowKit
open Fm (Nd Tree Kr NC)

/-- A poset with upsets as a model. -/
def krOf (A V : List Nat) (hr : ∀ x, x < A.length → (nt A x).testBit x = true) (ht : ∀ x y z, x < A.length → (nt A x).testBit y = true → (nt A y).testBit z = true → (nt A x).testBit z = true)
    (hV : ∀ v x y, x < A.length → (nt A x).testBit y = true → (nt V v).testBit x = true → (nt V v).testBit y = true) : Kr where
  W := { x : Nat // x < A.length }
  le x y := (nt A x.1).testBit y.1 = true
  val x v := (nt V v.val).testBit x.1 = true
  refl x := hr x.1 x.2
  trans {a b c} h1 h2 := ht a.1 b.1 c.1 a.2 h1 h2
  mono {a b v} h1 h2 := hV v.val a.1 b.1 a.2 h1 h2
theorem fv_force {A V : List Nat} (hA : Rl A) {hr ht hV} : ∀ (t : Tree) (x : (krOf A V hr ht hV).W), (krOf A V hr ht hV).force x t ↔ (fv A V t).testBit x.1 = true
  | .var _, _ => Iff.rfl
  | .fls, x => by show False ↔ (0 : Nat).testBit x.1 = true; simp
  | .and a b, x => by
    show _ ∧ _ ↔ (fv A V a &&& fv A V b).testBit x.1 = true
    rw [Nat.testBit_and, Bool.and_eq_true, fv_force hA a x, fv_force hA b x]
  | .or a b, x => by
    show _ ∨ _ ↔ (fv A V a ||| fv A V b).testBit x.1 = true
    rw [Nat.testBit_or, Bool.or_eq_true, fv_force hA a x, fv_force hA b x]
  | .imp a b, x => by
    show (∀ u, _ → _ → _) ↔ (ar A (fv A V a) (fv A V b)).testBit x.1 = true
    rw [ar_bit hA]
    constructor
    · intro h
      refine ⟨x.2, fun z hz ha => ?_⟩
      have hz' := hA.bit x.2 hz
      exact (fv_force hA b ⟨z, hz'⟩).1 (h ⟨z, hz'⟩ hz ((fv_force hA a ⟨z, hz'⟩).2 ha))
    · rintro ⟨_, h⟩ u hu ha
      exact (fv_force hA b u).2 (h u.1 hu ((fv_force hA a u).1 ha))
  | .box _, x => by show False ↔ (0 : Nat).testBit x.1 = true; simp
  | .dia _, x => by show False ↔ (0 : Nat).testBit x.1 = true; simp

/-- What the x-th element of the ladder sees, given the ones below. -/
def ladX (L : List Nat) (x : Nat) : Nat := if x = 2 then 2 ^ x ||| nt L 0 else if 2 < x then 2 ^ x ||| (nt L (x - 2) ||| nt L (x - 3)) else 2 ^ x
def ladK : Nat → List Nat
  | 0 => []
  | x + 1 => ladK x ++ [ladX (ladK x) x]
def lad : List Nat := [1, 2, 5, 11, 23, 47, 95, 191, 383, 767, 1535, 3071, 6143, 12287, 24575, 49151, 98303, 196607, 393215, 786431, 1572863, 3145727, 6291455, 12582911, 25165823, 50331647, 100663295, 201326591]
theorem lad_eq : ladK 28 = lad := by decide +kernel
theorem lad_len : lad.length = 28 := rfl
theorem lad_rl : Rl lad := ⟨by decide, by decide +kernel⟩
def ladB (x y : Nat) : Bool := (nt lad x).testBit y
theorem lad_refl : ∀ x, x < lad.length → (nt lad x).testBit x = true := by decide +kernel
theorem lad_tr0 : ∀ x, x < 28 → ∀ y, y < 28 → (nt lad x).testBit y = true → ∀ z, z < 28 → (nt lad y).testBit z = true → (nt lad x).testBit z = true := by decide +kernel
theorem lad_trans : ∀ x y z, x < lad.length → (nt lad x).testBit y = true → (nt lad y).testBit z = true → (nt lad x).testBit z = true := fun x y z hx hy hz => by
  have h1 := lad_rl.bit hx hy
  have h2 := lad_rl.bit h1 hz
  rw [lad_len] at *
  exact lad_tr0 x hx y h1 hy z h2 hz
def lv : List Nat := [1, 0, 0, 0, 0, 0]
theorem lv_up : ∀ v x y, x < lad.length → (nt lad x).testBit y = true → (nt lv v).testBit x = true → (nt lv v).testBit y = true := by
  intro v x y hx hy hv
  rcases Nat.lt_or_ge v 6 with h | h
  · have k : ∀ v, v < 6 → ∀ x, x < 28 → (nt lv v).testBit x = true → ∀ y, y < 28 → (nt lad x).testBit y = true → (nt lv v).testBit y = true := by decide +kernel
    exact k v h x hx hv y (lad_rl.bit hx hy) hy
  · have : nt lv v = 0 := by unfold nt; rw [List.getD_eq_getElem?_getD, List.getElem?_eq_none (by simpa [lv] using h)]; rfl
    rw [this] at hv; simp at hv
noncomputable def KL : Kr := krOf lad lv lad_refl lad_trans lv_up
/-- The masks of x k and y k on the ladder. -/
def nxy : Nat → Nat × Nat
  | 0 => (0, 1)
  | k + 1 => ((nxy k).2 ||| (nxy k).1, ar lad (nxy k).2 (nxy k).1)
theorem nxy_den : ∀ (k : Nat) (w : KL.W), (Fm.NX KL k w ↔ (nxy k).1.testBit w.1 = true) ∧ (Fm.NY KL k w ↔ (nxy k).2.testBit w.1 = true)
  | 0, w => by
    constructor
    · show False ↔ (0 : Nat).testBit w.1 = true; simp
    · exact Iff.rfl
  | k + 1, w => by
    constructor
    · rw [Fm.nx_succ, (nxy_den k w).1, (nxy_den k w).2]
      show _ ↔ ((nxy k).2 ||| (nxy k).1).testBit w.1 = true
      rw [Nat.testBit_or, Bool.or_eq_true]
    · rw [Fm.ny_succ]
      show _ ↔ (ar lad (nxy k).2 (nxy k).1).testBit w.1 = true
      rw [ar_bit lad_rl]
      constructor
      · intro h
        refine ⟨w.2, fun z hz ha => ?_⟩
        have hz' := lad_rl.bit w.2 hz
        exact (nxy_den k ⟨z, hz'⟩).1.1 (h ⟨z, hz'⟩ hz ((nxy_den k ⟨z, hz'⟩).2.2 ha))
      · rintro ⟨_, h⟩ u hu ha
        exact (nxy_den k u).1.2 (h u.1 hu ((nxy_den k u).2.1 ha))
/-- The set of an index from 0 up: the program's indexSet, the reference's l20Set. -/
def iset (i : Nat) : Nat := if i % 2 = 1 then full ((i + 1) / 2) else if i = 0 then 0 else full (i / 2 - 1) ||| 2 ^ (i / 2)
theorem nxy_set : ∀ k, k < 27 → (nxy (k + 1)).1 = iset (2 * k + 1) ∧ (nxy (k + 1)).2 = iset (2 * k + 2) := by decide +kernel
/-- A code's index, 0 for -1, 1 for 0 and so on; its mask on the ladder. -/
def nix : NC → Int
  | .top => -1
  | .x k => if k = 0 then 0 else 2 * (k : Int) - 1
  | .y k => 2 * (k : Int) + 2
theorem nix_zero : nix (.x 0) = 0 := rfl
theorem nix_x (k : Nat) : nix (.x (k + 1)) = ((2 * k + 1 : Nat) : Int) := by
  show (if k + 1 = 0 then (0 : Int) else 2 * ((k + 1 : Nat) : Int) - 1) = _
  rw [if_neg (by omega)]; omega
theorem nix_y (k : Nat) : nix (.y k) = ((2 * k + 2 : Nat) : Int) := by
  show 2 * (k : Int) + 2 = _
  omega
def ncm : NC → Nat
  | .top => full 28
  | .x k => (nxy k).1
  | .y k => (nxy (k + 1)).2
def isetI (i : Int) : Nat := if i < 0 then full 28 else iset i.toNat
theorem isetI_nat (i : Nat) : isetI (i : Int) = iset i := by unfold isetI; rw [if_neg (by omega), Int.toNat_natCast]
theorem ncm_set (c : NC) (h : c.far ≤ 52) : ncm c = isetI (nix c) := by
  cases c with
  | top => rfl
  | x k =>
    cases k with
    | zero => rfl
    | succ k =>
      have hk : k < 27 := by simp only [NC.far] at h; omega
      show (nxy (k + 1)).1 = _
      rw [(nxy_set k hk).1, nix_x, isetI_nat]
  | y k =>
    have hk : k < 27 := by simp only [NC.far] at h; omega
    show (nxy (k + 1)).2 = _
    rw [(nxy_set k hk).2, nix_y, isetI_nat]
theorem ncm_den (c : NC) (w : KL.W) : c.den KL w ↔ (ncm c).testBit w.1 = true := by
  cases c with
  | top =>
    have h : w.1 < 28 := w.2
    show True ↔ (full 28).testBit w.1 = true
    rw [full_bit, decide_eq_true h]
    simp
  | x k => exact (nxy_den k w).1
  | y k => exact (nxy_den (k + 1) w).2
theorem iset_lt : ∀ i, i < 54 → iset i < 2 ^ 28 := by decide +kernel
theorem iset_inj : ∀ i, i < 54 → ∀ j, j < 54 → iset i = iset j → i = j := by decide +kernel
theorem iset_full : ∀ i, i < 54 → iset i ≠ full 28 := by decide +kernel
theorem lv_lt : ∀ m ∈ lv, m < 2 ^ lad.length := by decide +kernel
/-- The ladder value of a formula is the set of its code's index. -/
theorem fv_lad {t : Tree} (h1 : Fm.One t) (h2 : (Fm.enc t).length ≤ 40) : fv lad lv t = isetI (nix (Fm.nc t)) := by
  have hf := Fm.nc_far t
  rw [← ncm_set _ (by omega)]
  apply Nat.eq_of_testBit_eq
  intro x
  have hlt : fv lad lv t < 2 ^ 28 := fv_lt lv_lt t
  have hlt2 : ncm (Fm.nc t) < 2 ^ 28 := by
    rw [ncm_set _ (by omega)]
    unfold isetI
    by_cases hn : nix (Fm.nc t) < 0
    · rw [if_pos hn]; exact full_lt 28
    · rw [if_neg hn]
      refine iset_lt _ ?_
      generalize Fm.nc t = c at *
      cases c with
      | top => decide
      | x k =>
        simp only [NC.far] at hf
        show (if k = 0 then (0 : Int) else 2 * (k : Int) - 1).toNat < 54
        split <;> omega
      | y k =>
        simp only [NC.far] at hf
        show (2 * (k : Int) + 2).toNat < 54
        omega
  by_cases hx : x < 28
  · have h3 := fv_force (V := lv) lad_rl (hr := lad_refl) (ht := lad_trans) (hV := lv_up) t ⟨x, hx⟩
    have h4 := Fm.nc_den KL t h1 ⟨x, hx⟩
    have h5 := ncm_den (Fm.nc t) ⟨x, hx⟩
    rw [Bool.eq_iff_iff]
    exact h3.symm.trans (h4.trans h5)
  · have z1 : (fv lad lv t).testBit x = false := by
      cases hb : (fv lad lv t).testBit x with
      | false => rfl
      | true => exact absurd (bit_lt hlt hb) hx
    have z2 : (ncm (Fm.nc t)).testBit x = false := by
      cases hb : (ncm (Fm.nc t)).testBit x with
      | false => rfl
      | true => exact absurd (bit_lt hlt2 hb) hx
    rw [z1, z2]
theorem nix_range {t : Tree} (h2 : (Fm.enc t).length ≤ 40) : -1 ≤ nix (Fm.nc t) ∧ nix (Fm.nc t) < 54 := by
  have hf := Fm.nc_far t
  generalize Fm.nc t = c at *
  cases c with
  | top => decide
  | x k =>
    simp only [NC.far] at hf
    show -1 ≤ (if k = 0 then (0 : Int) else 2 * (k : Int) - 1) ∧ (if k = 0 then (0 : Int) else 2 * (k : Int) - 1) < 54
    split <;> omega
  | y k =>
    simp only [NC.far] at hf
    show -1 ≤ (2 * (k : Int) + 2) ∧ (2 * (k : Int) + 2) < 54
    omega

/-- N(n). -/
def nis : Nat → Tree
  | 0 => .fls
  | 1 => .var 0
  | 2 => .imp (.var 0) .fls
  | n + 3 => if n % 2 = 0 then .or (nis (n + 2)) (nis (n + 1)) else .imp (nis (n + 1)) (nis n)
theorem nis_odd (k : Nat) : nis (2 * k + 3) = .or (nis (2 * k + 2)) (nis (2 * k + 1)) := by rw [nis]; rw [if_pos (by omega)]
theorem nis_even (k : Nat) : nis (2 * k + 4) = .imp (nis (2 * k + 2)) (nis (2 * k + 1)) := by
  show nis ((2 * k + 1) + 3) = _
  rw [nis, if_neg (by omega)]
theorem nis_den (K : Kr) : ∀ (k : Nat) (w : K.W), (K.force w (nis (2 * k + 1)) ↔ Fm.NX K (k + 1) w) ∧ (K.force w (nis (2 * k + 2)) ↔ Fm.NY K (k + 1) w)
  | 0, w => by
    constructor
    · show K.val w 0 ↔ K.val w 0 ∨ False
      exact ⟨.inl, fun h => h.elim id False.elim⟩
    · exact Iff.rfl
  | k + 1, w => by
    have ih := nis_den K k
    constructor
    · rw [show 2 * (k + 1) + 1 = 2 * k + 3 by omega, nis_odd, Fm.nx_succ]
      show _ ∨ _ ↔ _
      rw [(ih w).1, (ih w).2]
    · rw [show 2 * (k + 1) + 2 = 2 * k + 4 by omega, nis_even, Fm.ny_succ]
      exact forall_congr' fun u => imp_congr Iff.rfl (imp_congr (ih u).2 (ih u).1)
/-- Truth for -1. -/
def nisI (i : Int) : Tree := if i < 0 then .imp .fls .fls else nis i.toNat
theorem nisI_nat (i : Nat) : nisI (i : Int) = nis i := by unfold nisI; rw [if_neg (by omega), Int.toNat_natCast]
theorem nisI_den (K : Kr) (c : NC) (w : K.W) : K.force w (nisI (nix c)) ↔ c.den K w := by
  cases c with
  | top => exact ⟨fun _ => trivial, fun _ _ _ h => h⟩
  | x k =>
    cases k with
    | zero => exact Iff.rfl
    | succ k =>
      rw [nix_x, nisI_nat]
      exact (nis_den K k w).1
  | y k =>
    rw [nix_y, nisI_nat]
    exact (nis_den K k w).2
/-- A formula is equivalent to the one of its index. -/
theorem nisI_eqv {t : Tree} (h1 : Fm.One t) (K : Kr) (w : K.W) : K.force w t ↔ K.force w (nisI (nix (Fm.nc t))) := (Fm.nc_den K t h1 w).trans (nisI_den K _ w).symm
/-- The theorems are those of index -1. -/
theorem nix_theorem {t : Tree} (h1 : Fm.One t) (h2 : (Fm.enc t).length ≤ 40) : (∀ (K : Kr) (w : K.W), K.force w t) ↔ nix (Fm.nc t) = -1 := by
  constructor
  · intro h
    apply Classical.byContradiction
    intro hn
    obtain ⟨r1, r2⟩ := nix_range h2
    have e := fv_lad h1 h2
    unfold isetI at e
    rw [if_neg (by omega)] at e
    refine iset_full (nix (Fm.nc t)).toNat (by omega) ?_
    rw [← e]
    have hlt : fv lad lv t < 2 ^ 28 := fv_lt lv_lt t
    apply Nat.eq_of_testBit_eq
    intro x
    rw [full_bit]
    by_cases hx : x < 28
    · rw [decide_eq_true hx]
      exact (fv_force (V := lv) lad_rl (hr := lad_refl) (ht := lad_trans) (hV := lv_up) t ⟨x, hx⟩).1 (h _ _)
    · rw [decide_eq_false hx]
      cases hb : (fv lad lv t).testBit x with
      | false => rfl
      | true => exact absurd (bit_lt hlt hb) hx
  · intro h K w
    rw [nisI_eqv h1 K w, h]
    exact fun _ _ h => h
end Go.Proofs.YtefkgomecpnpbaaGreat

/- Appends of numbers. -/
namespace Go.Proofs.YtefkgomecpnpbaaGreat
open Go.RowKit

/-- 'out = append(out, x)' onto a row of numbers of the call's own. -/
theorem wpList_appI {ops : Array Oper} {rest : List Oper} {o : Oper} {a : Act} {Q : Exit → Act → World → Prop} {w w0 : World} (s x : Operand) (hgd : o.guard = none)
    (ho : o.op = .call { callee := .builtin .append, args := #[s, x], argTypes := #[47, 47] })
    (v : Value) (L : List Int) (hs : a.eval s = v) (hown : OwnI w w0.heap.size v L) (hg : Grew w0 w) (vx : Value) (k : Int) (hx : a.eval x = vx) (hr : Rd w 1 vx 1 [.int .i64 k]) (hn : L.length ≤ 1048576)
    (h : ∀ v' w', OwnI w' w0.heap.size v' (L ++ [k]) → Grew w0 w' → w.grownBy w' v.ownBlock → wpList Tryz.prog ops Q rest (a.put o.dst v') w') : wpList Tryz.prog ops Q (o :: rest) a w := by
  obtain ⟨i0, hi0, hz0, hz1, hz2⟩ := info_parts Tryz.infoI
  refine wpList_append_rd w hgd s x _ ho w0.heap.size 2 i0 _ 1 8 Tryz.underlying47 hi0 hz0 hz1 hz2 rfl (by omega) v L.length (icells L) hs hown vx 1 [.int .i64 k] hx hr (by simp [Value.oneCell']) (by unfold maxLen; omega) (by omega) hg.size ?_
  intro v' w' h1 h2 h3
  refine h v' w' ?_ (hg.grown h2 fun k hk => (hown.lt k hk).1) h2
  unfold OwnI
  rw [List.length_append, icells_append]
  exact h1
theorem rd_litI (w : World) (k : Int) (t : TypeId) : Rd (w.alloc (.cells #[.int .i64 k] t)) 1 (.slice (some ⟨w.heap.size, 0, none⟩) 1 1) 1 [.int .i64 k] := by
  refine ⟨rfl, by omega, .inr ⟨w.heap.size, 0, 1, rfl, by omega, by omega, by simp, fun j x hx => ?_⟩⟩
  have hj : j = 0 := by
    have := (List.getElem?_eq_some_iff.1 hx).1
    simp at this
    omega
  subst hj
  simp at hx
  subst hx
  simp
theorem own_emptyI (w : World) : OwnI (w.alloc (.cells #[] 2)) w.heap.size (.slice (some ⟨w.heap.size, 0, none⟩) 0 0) [] :=
  World.ownsRow_lit (e := 2) (size := 1) w #[] 0 (Nat.le_refl _) (by omega) rfl
end Go.Proofs.YtefkgomecpnpbaaGreat

/- Masks: single members (has, within; l01Bit, l01One). -/
namespace Go.Proofs.YtefkgomecpnpbaaGreat
open Go.RowKit
theorem has_q (m i : Nat) (hm : m < 9223372036854775808) (hi : i < 64) (w : World) :
    Calls Tryz.prog 59 #[.int .i64 (m : Int), .int .i64 (i : Int)] w fun e w' => e = .returned (.bool (m.testBit i)) ∧ w' = w := by
  have hb := bit_e m i hm
  go_enter Tryz.func59, Tryz.ntmps59
  go_wp2_with fail
  go_ret
  exact ⟨rfl, rfl⟩
theorem has_c (m i : Nat) (hm : m < 9223372036854775808) (hi : i < 64) (w : World) :
    Calls Tryz.prog 59 #[.int .i64 (m : Int), .int .i64 (i : Int)] w fun e w' => e = .returned (.bool (m.testBit i)) ∧ Grew w w' :=
  (has_q m i hm hi w).mono fun _ _ h => ⟨h.1, h.2 ▸ Grew.refl _⟩
theorem l01One_q (i : Nat) (hi : i ≤ 30) (w : World) :
    Calls Tryz.prog 69 #[.int .i64 (i : Int)] w fun e w' => e = .returned (.int .i64 ((2 ^ i : Nat) : Int)) ∧ w' = w := by
  have hb := wrap_pow hi
  go_enter Tryz.func69, Tryz.ntmps69
  go_wp2_with fail
  go_ret
  exact ⟨congrArg (fun b => Ending.returned (.int .i64 b)) hb, rfl⟩
theorem l01One_c (i : Nat) (hi : i ≤ 30) (w : World) :
    Calls Tryz.prog 69 #[.int .i64 (i : Int)] w fun e w' => e = .returned (.int .i64 ((2 ^ i : Nat) : Int)) ∧ Grew w w' :=
  (l01One_q i hi w).mono fun _ _ h => ⟨h.1, h.2 ▸ Grew.refl _⟩
theorem l01Full_q (i : Nat) (hi : i ≤ 30) (w : World) :
    Calls Tryz.prog 47 #[.int .i64 (i : Int)] w fun e w' => e = .returned (.int .i64 (((2 ^ i : Nat) : Int) - 1)) ∧ w' = w := by
  have hp := pow30' hi
  have HO := Lib.hid (l01One_q i hi)
  generalize (2 ^ i : Nat) = p at *
  go_enter Tryz.func47, Tryz.ntmps47
  go_wp2_with fail
  refine (HO.out _).mono ?_
  rintro e w1 ⟨rfl, rfl⟩
  go_wp2_with fail
  go_ret
  exact ⟨rfl, rfl⟩
theorem l01Full_c (i : Nat) (hi : i ≤ 30) (w : World) :
    Calls Tryz.prog 47 #[.int .i64 (i : Int)] w fun e w' => e = .returned (.int .i64 (((2 ^ i : Nat) : Int) - 1)) ∧ Grew w w' :=
  (l01Full_q i hi w).mono fun _ _ h => ⟨h.1, h.2 ▸ Grew.refl _⟩
theorem within_q (m i : Nat) (hm : m < 9223372036854775808) (hi : i < 9223372036854775808) (w : World) :
    Calls Tryz.prog 129 #[.int .i64 (m : Int), .int .i64 (i : Int)] w fun e w' => e = .returned (.bool (decide (dif m i = 0))) ∧ w' = w := by
  have hb := andNot_i64 m i hm hi
  go_enter Tryz.func129, Tryz.ntmps129
  go_wp2_with fail
  go_ret
  refine ⟨congrArg (fun b => Ending.returned (.bool b)) ?_, rfl⟩
  rw [Bool.eq_iff_iff]
  simp
theorem within_c (m i : Nat) (hm : m < 9223372036854775808) (hi : i < 9223372036854775808) (w : World) :
    Calls Tryz.prog 129 #[.int .i64 (m : Int), .int .i64 (i : Int)] w fun e w' => e = .returned (.bool (decide (dif m i = 0))) ∧ Grew w w' :=
  (within_q m i hm hi w).mono fun _ _ h => ⟨h.1, h.2 ▸ Grew.refl _⟩
theorem inRange_q (k lo hi : Int) (w : World) : Calls Tryz.prog 58 #[.int .i64 k, .int .i64 lo, .int .i64 hi] w fun e w' => e = .returned (.bool (decide (lo ≤ k ∧ k ≤ hi))) ∧ w' = w := by
  by_cases h : lo ≤ k
  · have hd : decide (lo ≤ k ∧ k ≤ hi) = decide (k ≤ hi) := by simp [h]
    rw [hd]
    go_enter Tryz.func58, Tryz.ntmps58
    go_wp2_with fail
    go_ret
    exact ⟨rfl, rfl⟩
  · have hd : decide (lo ≤ k ∧ k ≤ hi) = false := by simp [h]
    rw [hd]
    go_enter Tryz.func58, Tryz.ntmps58
    go_wp2_with fail
    go_ret
    exact ⟨rfl, rfl⟩
theorem l01In_q (k lo hi : Int) (w : World) : Calls Tryz.prog 96 #[.int .i64 k, .int .i64 lo, .int .i64 hi] w fun e w' => e = .returned (.bool (decide (lo ≤ k ∧ k ≤ hi))) ∧ w' = w := by
  by_cases h : lo ≤ k
  · have hd : decide (lo ≤ k ∧ k ≤ hi) = decide (k ≤ hi) := by simp [h]
    rw [hd]
    go_enter Tryz.func96, Tryz.ntmps96
    go_wp2_with fail
    go_ret
    exact ⟨rfl, rfl⟩
  · have hd : decide (lo ≤ k ∧ k ≤ hi) = false := by simp [h]
    rw [hd]
    go_enter Tryz.func96, Tryz.ntmps96
    go_wp2_with fail
    go_ret
    exact ⟨rfl, rfl⟩
end Go.Proofs.YtefkgomecpnpbaaGreat

/- Masks: rows of members (membersOf, l01List). -/
namespace Go.Proofs.YtefkgomecpnpbaaGreat
open Go.RowKit
theorem membersOf_c (m : Nat) (hm : m < 1073741824) (w : World) :
    Calls Tryz.prog 31 #[.int .i64 (m : Int)] w (GivesI w (zs (mbs m))) := by
  obtain ⟨M, hM⟩ : ∃ M, M = zs (mbs m) := ⟨_, rfl⟩
  rw [← hM]
  have HZ := Lib.hid (fun n hn h => (congrArg zs (mbs_of (n := n) hm h hn)).trans hM.symm)
  have HH := Lib.hid (fun i (hi : i < 64) => has_c m i (by omega) hi)
  have HY := Lib.hid (fun n h => (congrArg zs (@mb_yes m n h)).trans (zs_append _ _))
  have HN := Lib.hid (fun n h => congrArg zs (@mb_no m n h))
  have HL := Lib.hid (fun n => Nat.le_trans (Nat.le_of_eq (zs_len (mb m n))) (mb_len m n))
  have HD := Lib.hid (div_e m)
  have HT := Lib.hid (fun n => @div_zero_lt m n)
  have HT30 := Lib.hid (show m / 2 ^ 30 = 0 from Nat.div_eq_of_lt hm)
  clear hM hm
  go_enter Tryz.func31, Tryz.ntmps31
  go_wp2_with fail
  go_loopw [3, 4] (fun s i wr => ∃ j : Nat, j ≤ 30 ∧ i = .int .i64 j ∧ Grew w wr ∧ OwnI wr w.heap.size s (zs (mb m j))) (fun _ i _ => 30 - (intOf i).toNat)
  case atStart => exact ⟨0, by omega, rfl, Grew.refl _, OwnI.nil_ _ _⟩
  case round =>
    obtain ⟨j, hj, rfl, hB, hO⟩ := hrel
    have hd := HD.out j
    by_cases hz : m / 2 ^ j = 0
    · have hr := Lib.hid (HZ.out j hj hz)
      rw [hz] at hd
      go_wp2_with fail
      go_ret
      rw [hr.out] at hO
      exact ⟨_, rfl, hO, hB⟩
    · have hj' : j < 30 := by
        rcases Nat.lt_or_ge j 30 with h | h
        · exact h
        · obtain rfl : j = 30 := by omega
          exact absurd HT30.out hz
      have hq : (0 : Int) < ((m / 2 ^ j : Nat) : Int) := Int.natCast_pos.2 (Nat.pos_of_ne_zero hz)
      generalize ((m / 2 ^ j : Nat) : Int) = q at *
      clear hz
      have hC := Lib.hid (HH.out j (by omega))
      have hY := Lib.hid (HY.out j)
      have hN := Lib.hid (HN.out j)
      have hl := HL.out j
      generalize m.testBit j = b at *
      go_wp2_with fail
      refine (hC.out _).mono ?_
      rintro e w1 ⟨rfl, hg1⟩
      have hB1 := hB.trans hg1
      have hO1 := hO.grew hg1
      cases b with
      | true =>
        have hy := hY.out rfl
        go_wp2_with (first | (at_builtin; refine wpList_appI (w0 := w) _ _ rfl rfl _ (zs (mb m j)) rfl (hO1.grew (Grew.alloc (Grew.refl _) _)) (hB1.alloc _) _ (j : Int) rfl (rd_litI _ _ _) (by omega) ?_; intro v2 w2 hO2 hg2 _))
        go_roundw
        case rel => exact ⟨j + 1, by omega, by go_num, hg2, by rw [hy]; exact hO2⟩
        case measure => simp [intOf]; omega
      | false =>
        have hn := hN.out rfl
        go_wp2_with fail
        go_roundw
        case rel => exact ⟨j + 1, by omega, by go_num, hB1, by rw [hn]; exact hO1⟩
        case measure => simp [intOf]; omega

end Go.Proofs.YtefkgomecpnpbaaGreat

/- Masks: images (image, l01Image). -/
namespace Go.Proofs.YtefkgomecpnpbaaGreat
open Go.RowKit
theorem ints_sliceN {w : World} {v : Value} {L : List Nat} (h : Ints w v (zs L)) : ∃ A c, v = .slice A L.length c := by
  obtain ⟨A, c, e⟩ := ints_slice h
  exact ⟨A, c, by rw [e, zs_len]⟩
theorem cellsN {w : World} {A : _} {c : Nat} {L : List Nat} (h : Ints w (.slice A L.length c) (zs L)) (h0 : 0 < L.length) :
    ∃ b o, A = some ⟨b, o, none⟩ ∧ ∀ i, i < L.length → ∀ W, Grew w W → W.cell? ⟨b, o + i, none⟩ = some (.int .i64 ((nt L i : Nat) : Int)) := by
  rcases h.open_ with ⟨_, h1⟩ | ⟨b, o, c', e, _, _, _, hc⟩
  · have := congrArg List.length h1
    rw [zs_len, List.length_nil] at this
    omega
  · injection e with e1 e2 e3
    subst e1
    exact ⟨b, o, rfl, fun i hi W hW => by rw [hc i (by rw [zs_len]; exact hi) W hW, zs_it hi]⟩

theorem orK_next (A is : List Nat) (k : Nat) : orK A is (k + 1) = orK A is k ||| nt A (nt is k) := rfl
theorem imK_yes {A : List Nat} {m k : Nat} (h : m.testBit k = true) : imK A m (k + 1) = imK A m k ||| nt A k := by
  show (if _ then _ else _) = _
  rw [if_pos h]
theorem imK_no {A : List Nat} {m k : Nat} (h : m.testBit k = false) : imK A m (k + 1) = imK A m k := by
  show (if _ then _ else _) = _
  rw [if_neg (by rw [h]; simp)]
end Go.Proofs.YtefkgomecpnpbaaGreat

/- slices.ContainsFunc over numbers: predicates with captured values. -/
namespace Go.Proofs.YtefkgomecpnpbaaGreat
open Go.RowKit

theorem it_memI {L : List Int} {i : Nat} (h : i < L.length) : it L i ∈ L := by rw [← it_get h]; exact List.getElem_mem h
theorem mem_itI {L : List Int} {x : Int} (h : x ∈ L) : ∃ i, i < L.length ∧ it L i = x := by
  obtain ⟨i, hi, rfl⟩ := List.getElem_of_mem h
  exact ⟨i, hi, (it_get hi).symm⟩
/-- None of the first k numbers has the property. -/
def NoneI (p : Int → Bool) (L : List Int) (k : Nat) : Prop := ∀ i, i < k → p (it L i) = false
theorem NoneI.zero (p : Int → Bool) (L : List Int) : NoneI p L 0 := fun i hi => absurd hi (by omega)
theorem NoneI.succ {p : Int → Bool} {L : List Int} {k : Nat} (h : NoneI p L k) (h1 : p (it L k) = false) : NoneI p L (k + 1) := by
  intro i hi
  by_cases he : i = k
  · rw [he]; exact h1
  · exact h i (by omega)
theorem noneI_any {p : Int → Bool} {L : List Int} (h : NoneI p L L.length) : L.any p = false := by
  rw [List.any_eq_false]
  intro x hx
  obtain ⟨i, hi, rfl⟩ := mem_itI hx
  rw [h i hi]; simp
theorem anyI_at {p : Int → Bool} {L : List Int} (k : Nat) (hk : k < L.length) (h : p (it L k) = true) : L.any p = true := by
  rw [List.any_eq_true]
  exact ⟨_, it_memI hk, h⟩
theorem cellsI {w : World} {A : _} {c : Nat} {L : List Int} (h : Ints w (.slice A L.length c) L) (h0 : 0 < L.length) :
    ∃ b o, A = some ⟨b, o, none⟩ ∧ ∀ i, i < L.length → ∀ W, Grew w W → W.cell? ⟨b, o + i, none⟩ = some (.int .i64 (it L i)) := by
  rcases h.open_ with ⟨_, h1⟩ | ⟨b, o, c', e, _, _, _, hc⟩
  · have := congrArg List.length h1
    rw [List.length_nil] at this
    omega
  · injection e with e1 e2 e3
    subst e1
    exact ⟨b, o, rfl, hc⟩

/-- What the function value gives at the numbers of a list. -/
def PredI (w : World) (f : Nat) (caps : Array Value) (L : List Int) (p : Int → Bool) : Prop := ∀ s W, s ∈ L → Grew w W → Calls Tryz.prog f (#[.int .i64 s] ++ caps) W fun e W' => e = .returned (.bool (p s)) ∧ Grew W W'

end Go.Proofs.YtefkgomecpnpbaaGreat

/- Rows of numbers: slices.Equal, slices.Clone; l01Own. -/
namespace Go.Proofs.YtefkgomecpnpbaaGreat
open Go.RowKit

theorem wpList_appR {ops : Array Oper} {rest : List Oper} {o : Oper} {a : Act} {Q : Exit → Act → World → Prop} {w w0 : World} (s x : Operand) (hgd : o.guard = none)
    (ho : o.op = .call { callee := .builtin .append, args := #[s, x], argTypes := #[47, 47] })
    (v : Value) (L : List Int) (hs : a.eval s = v) (hown : OwnI w w0.heap.size v L) (hg : Grew w0 w) (vx : Value) (K : List Int) (hx : a.eval x = vx) (hr : Ints w vx K) (hn : L.length + K.length ≤ 1099511627776)
    (h : ∀ v' w', OwnI w' w0.heap.size v' (L ++ K) → Grew w0 w' → w.grownBy w' v.ownBlock → wpList Tryz.prog ops Q rest (a.put o.dst v') w') : wpList Tryz.prog ops Q (o :: rest) a w := by
  obtain ⟨i0, hi0, hz0, hz1, hz2⟩ := info_parts Tryz.infoI
  refine wpList_append_rd w hgd s x _ ho w0.heap.size 2 i0 _ 1 8 Tryz.underlying47 hi0 hz0 hz1 hz2 rfl (by omega) v L.length (icells L) hs hown vx K.length (icells K) hx hr (icells_one K) (by unfold maxLen; omega) (by omega) hg.size ?_
  intro v' w' h1 h2 h3
  refine h v' w' ?_ (hg.grown h2 fun k hk => (hown.lt k hk).1) h2
  unfold OwnI
  rw [List.length_append, icells_append]
  exact h1
theorem ownR_c (v : Value) (L : List Int) (w : World) (h : Ints w v L) (hn : L.length ≤ 1099511627776) :
    Calls Tryz.prog 99 #[v] w (GivesI w L) := by
  have he := own_emptyI w
  obtain ⟨A, c, rfl⟩ := ints_slice h
  go_enter Tryz.func99, Tryz.ntmps99
  go_wp2_with (first
    | (at_builtin; refine wpList_appR (w0 := w) _ _ rfl rfl _ [] rfl he ((Grew.refl w).alloc _) _ L rfl (h.grew ((Grew.refl w).alloc _)) (by simp; omega) ?_; intro v1 w1 hown1 hg1 _))
  go_ret
  exact ⟨_, rfl, by simpa using hown1, hg1⟩

/-- The first k numbers are the same. -/
def AgreeR (xs ys : List Int) (k : Nat) : Prop := ∀ i, i < k → it xs i = it ys i
theorem AgreeR.zero (xs ys : List Int) : AgreeR xs ys 0 := fun i hi => absurd hi (by omega)
theorem AgreeR.succ {xs ys : List Int} {k : Nat} (h : AgreeR xs ys k) (h1 : it xs k = it ys k) : AgreeR xs ys (k + 1) := by
  intro i hi
  rcases Nat.lt_or_ge i k with hk | hk
  · exact h i hk
  · obtain rfl : i = k := by omega
    exact h1
end Go.Proofs.YtefkgomecpnpbaaGreat

/- make of rows of elements of several cells; the blocks of three allocations. -/
namespace Go.Proofs.YtefkgomecpnpbaaGreat
open Go.RowKit

theorem run_make_rows {P : Program} (t e : TypeId) (z : Value) (size bytes : Nat) (zs : Array Value) (ht : P.underlying t = some (.slice e)) (hinfo : (P.info? e).map (fun i => (i.zero, i.size, i.bytes)) = some (some z, size, bytes)) (hzs : z.cells = zs)
    (kl kc : IntKind) (n : Nat) (hbytes : bytes * n ≤ 281474976710656) (h63 : n ≤ 9223372036854775807) (w : World) :
    (Instr.makeSlice t (.int kl (n : Int)) (.int kc (n : Int))).run P w = .ok (.slice (some ⟨w.heap.size, 0, none⟩) n n) (w.alloc (.cells (madeCells zs (n * size)) e)) := by
  obtain ⟨i, hi, hz, hs, hb⟩ := info_parts hinfo
  have hb' : (i.bytes : Int) * (n : Int) ≤ 281474976710656 := by
    rw [hb]
    have h : ((bytes * n : Nat) : Int) ≤ 281474976710656 := by omega
    rwa [Int.natCast_mul] at h
  have hr := run_make (P := P) w t e i z ht hi hz kl kc n n (by omega) (Int.le_refl _) hb' (by omega)
  simp only [Int.toNat_natCast, hs, hzs] at hr
  exact hr

theorem blk3_mid (w : World) (a b c : Obj) : (((w.alloc a).alloc b).alloc c).heap[w.heap.size + 1]? = some b := by
  have h := blk_new (w.alloc a) b
  have e : (w.alloc a).heap.size = w.heap.size + 1 := by simp
  rw [e] at h
  have h2 := ((Grew.refl ((w.alloc a).alloc b)).alloc c).block (k := w.heap.size + 1) (by simp)
  rw [h2, h]
end Go.Proofs.YtefkgomecpnpbaaGreat

/- Relations: inverse, transitive of the program. -/
namespace Go.Proofs.YtefkgomecpnpbaaGreat
open Go.RowKit

/-- A block of natural numbers, c cells, of which the first n are read. -/
def NRow (w : World) (g n c : Nat) (f : Nat → Nat) : Prop := ∃ cur, w.heap[g]? = some (.cells cur 2 (0, 0)) ∧ cur.size = c ∧ n ≤ c ∧ c ≤ 9223372036854775807 ∧ ∀ i, i < n → cur[i]? = some (.int .i64 ((f i : Nat) : Int))
theorem NRow.lt {w : World} {g n c : Nat} {f : Nat → Nat} (h : NRow w g n c f) : g < w.heap.size := by
  obtain ⟨cur, h1, _⟩ := h
  exact blk_lt h1
theorem NRow.grew {w w' : World} {g n c : Nat} {f : Nat → Nat} (h : NRow w g n c f) (hg : Grew w w') : NRow w' g n c f := by
  have hl := h.lt
  obtain ⟨cur, h1, h2⟩ := h
  exact ⟨cur, (hg.block hl).trans h1, h2⟩
theorem NRow.cell {w : World} {g n c : Nat} {f : Nat → Nat} (h : NRow w g n c f) {p : Nat} (hp : p < n) : w.cell? ⟨g, p, none⟩ = some (.int .i64 ((f p : Nat) : Int)) := by
  obtain ⟨cur, h1, _, _, _, h3⟩ := h
  rw [blk_cell h1]
  exact h3 p hp
theorem NRow.free {w : World} {g n c : Nat} {f : Nat → Nat} (h : NRow w g n c f) (p : Nat) : w.frozen? ⟨g, p, none⟩ = false := by
  obtain ⟨cur, h1, _⟩ := h
  exact blk_frozen h1 p
theorem NRow.set {w : World} {g n c : Nat} {f f' : Nat → Nat} (h : NRow w g n c f) {p : Nat} (hp : p < n) {z : Nat} (hz : f' p = z) (hf : ∀ i, i < n → i ≠ p → f' i = f i) : NRow (w.setCell ⟨g, p, none⟩ (.int .i64 (z : Int))) g n c f' := by
  obtain ⟨cur, h1, h2, hn, hm, h3⟩ := h
  refine ⟨_, blk_set h1 p _, by simp [h2], hn, hm, fun i hi => ?_⟩
  rw [Array.getElem?_setIfInBounds]
  by_cases hip : p = i
  · subst hip
    rw [if_pos rfl, if_pos (by omega), hz]
  · rw [if_neg hip, h3 i hi, hf i hi (fun h => hip h.symm)]
theorem NRow.ints {w : World} {g n c : Nat} {f : Nat → Nat} (h : NRow w g n c f) : Ints w (.slice (some ⟨g, 0, none⟩) n c) (zs ((List.range n).map f)) := by
  obtain ⟨cur, h1, h2, hn, hm, h3⟩ := h
  have hl : (zs ((List.range n).map f)).length = n := by simp [zs]
  unfold Ints
  rw [hl]
  refine ⟨by simp [icells, zs], by omega, .inr ⟨g, 0, c, rfl, hn, hm, blk_lt h1, fun i u hu => ?_⟩⟩
  have hi : i < n := by
    have := (List.getElem?_eq_some_iff.1 hu).1
    simpa [icells, zs] using this
  rw [Nat.zero_add, blk_cell h1, h3 i hi, ← hu]
  simp [icells, zs, hi]
theorem made_z {n i : Nat} (hi : i < n) : (madeCells #[Value.int .i64 0] n)[i]? = some (.int .i64 0) := by
  have e := toList_madeCells_one (.int .i64 0) n
  rw [← Array.getElem?_toList, e]
  simp [hi]

theorem cellsO {w : World} {B c : Nat} {A : _} {L : List Nat} (h : OwnI w B (.slice A L.length c) (zs L)) (h0 : 0 < L.length) :
    ∃ b, A = some ⟨b, 0, none⟩ ∧ B ≤ b ∧ b < w.heap.size ∧ ∀ i, i < L.length → w.cell? ⟨b, i, none⟩ = some (.int .i64 ((nt L i : Nat) : Int)) := by
  obtain ⟨b, o, rfl, hc⟩ := cellsN h.ints h0
  rcases h.2 with ⟨he, _⟩ | ⟨g, c', cur, he, hB, hh, _⟩
  · cases he
  · injection he with e1 _ _
    injection e1 with e1
    injection e1 with e1 e2
    subst e1 e2
    exact ⟨b, rfl, hB, blk_lt hh, fun i hi => by have := hc i hi w (Grew.refl w); rwa [Nat.zero_add] at this⟩

/-- The call returns a row of numbers that stand in a block of its own. -/
def GivesB (w : World) (n : Nat) (P : (Nat → Nat) → Prop) (e : Ending) (w' : World) : Prop := ∃ g c f, e = .returned (.slice (some ⟨g, 0, none⟩) n c) ∧ NRow w' g n c f ∧ P f ∧ w.heap.size ≤ g ∧ Grew w w'

end Go.Proofs.YtefkgomecpnpbaaGreat

/- Masks of n elements: isMask, isRelation; l01Masks. -/
namespace Go.Proofs.YtefkgomecpnpbaaGreat
open Go.RowKit

theorem size_q (v : Value) (L : List Int) (w : World) (h : Ints w v L) :
    Calls Tryz.prog 115 #[v] w fun e w' => e = .returned (.int .i64 (L.length : Int)) ∧ w' = w := by
  obtain ⟨A, c, rfl⟩ := ints_slice h
  have hmx : L.length ≤ 9223372036854775807 := h.2.1
  clear h
  generalize L.length = n at *
  go_enter Tryz.func115, Tryz.ntmps115
  go_wp2_with fail
  go_ret
  exact ⟨rfl, rfl⟩
theorem size_c (v : Value) (L : List Int) (w : World) (h : Ints w v L) :
    Calls Tryz.prog 115 #[v] w fun e w' => e = .returned (.int .i64 (L.length : Int)) ∧ Grew w w' :=
  (size_q v L w h).mono fun _ _ h => ⟨h.1, h.2 ▸ Grew.refl _⟩
/-- Are all numbers of the row masks of n elements? -/
def mks (n : Nat) (L : List Int) : Bool := L.all (mk n)
theorem not_any {α : Type} (p : α → Bool) : ∀ L : List α, (!L.any fun x => !p x) = L.all p
  | [] => rfl
  | x :: L => by
    have ih := not_any p L
    rw [List.any_cons, List.all_cons, ← ih]
    cases p x <;> simp
end Go.Proofs.YtefkgomecpnpbaaGreat

/- Relations: transitive of the program for all relations; everyWorld, sees. -/
namespace Go.Proofs.YtefkgomecpnpbaaGreat
open Go.RowKit

/-- What the transitive closure is good for. -/
def GivesT (w : World) (A : List Nat) (e : Ending) (w' : World) : Prop := ∃ v L, e = .returned v ∧ Ints w' v L ∧ L.length = (zs A).length ∧ decide (L = zs A) = transB A ∧ Grew w w'
/-- What a condition on worlds gives. -/
def PredW (w : World) (f : Nat) (caps : Array Value) (n : Nat) (p : Nat → Bool) : Prop := ∀ x W, x < n → Grew w W → Calls Tryz.prog f (#[.int .i64 (x : Int)] ++ caps) W fun e W' => e = .returned (.bool (p x)) ∧ Grew W W'
end Go.Proofs.YtefkgomecpnpbaaGreat

/- Relations: hasFlag of the program. -/
namespace Go.Proofs.YtefkgomecpnpbaaGreat
open Go.RowKit

end Go.Proofs.YtefkgomecpnpbaaGreat

/- A number between two bounds. -/
namespace Go.Proofs.YtefkgomecpnpbaaGreat
open Go.RowKit

theorem l01In_c (k lo hi : Int) (w : World) : Calls Tryz.prog 96 #[.int .i64 k, .int .i64 lo, .int .i64 hi] w fun e w' => e = .returned (.bool (decide (lo ≤ k ∧ k ≤ hi))) ∧ Grew w w' := by
  by_cases h : lo ≤ k
  · have hd : decide (lo ≤ k ∧ k ≤ hi) = decide (k ≤ hi) := by simp [h]
    rw [hd]
    go_enter Tryz.func96, Tryz.ntmps96
    go_wp2_with fail
    go_ret
    exact ⟨rfl, Grew.refl _⟩
  · have hd : decide (lo ≤ k ∧ k ≤ hi) = false := by simp [h]
    rw [hd]
    go_enter Tryz.func96, Tryz.ntmps96
    go_wp2_with fail
    go_ret
    exact ⟨rfl, Grew.refl _⟩

theorem inRange_c (k lo hi : Int) (w : World) : Calls Tryz.prog 58 #[.int .i64 k, .int .i64 lo, .int .i64 hi] w fun e w' => e = .returned (.bool (decide (lo ≤ k ∧ k ≤ hi))) ∧ Grew w w' := by
  by_cases h : lo ≤ k
  · have hd : decide (lo ≤ k ∧ k ≤ hi) = decide (k ≤ hi) := by simp [h]
    rw [hd]
    go_enter Tryz.func58, Tryz.ntmps58
    go_wp2_with fail
    go_ret
    exact ⟨rfl, Grew.refl _⟩
  · have hd : decide (lo ≤ k ∧ k ≤ hi) = false := by simp [h]
    rw [hd]
    go_enter Tryz.func58, Tryz.ntmps58
    go_wp2_with fail
    go_ret
    exact ⟨rfl, Grew.refl _⟩
end Go.Proofs.YtefkgomecpnpbaaGreat

/- Posets of the program: isPoset, isValuation. -/
namespace Go.Proofs.YtefkgomecpnpbaaGreat
open Go.RowKit

def nats (L : List Int) : List Nat := L.map Int.toNat
theorem nats_len (L : List Int) : (nats L).length = L.length := by simp [nats]
theorem nats_ok {n : Nat} {L : List Int} (h : mks n L = true) : zs (nats L) = L ∧ ∀ m ∈ nats L, m < 2 ^ n := by
  unfold mks at h
  rw [List.all_eq_true] at h
  obtain ⟨M, h1, _, h3⟩ := nats_of h
  have : nats L = M := by
    rw [h1]
    simp [nats, zs, Function.comp_def]
  rw [this]
  exact ⟨h1.symm, h3⟩
/-- Is it a poset? -/
def posB (sz : Int) (L : List Int) : Bool := decide (0 ≤ sz ∧ sz ≤ 8) && (decide ((L.length : Int) = sz) && (mks L.length L && (reflB (nats L) && (transB (nats L) && antiB (nats L)))))
theorem pos_rl {L : List Int} (hn : L.length ≤ 30) (h : mks L.length L = true) : Rl (nats L) := by
  have := nats_ok h
  refine ⟨by rw [nats_len]; exact hn, ?_⟩
  rw [nats_len]
  exact this.2
theorem info2P : (Tryz.prog.info? 63).map (·.size) = some 2 := by kernel_rfl
end Go.Proofs.YtefkgomecpnpbaaGreat

/- Valuations of the program: isUpset, isValuation. -/
namespace Go.Proofs.YtefkgomecpnpbaaGreat
open Go.RowKit

/-- Is it an upset? -/
def upB (A : List Nat) (x : Int) : Bool := mk A.length x && decide (img A x.toNat = x.toNat)
theorem mk_nat {n : Nat} {x : Int} (h : mk n x = true) : x = ((x.toNat : Nat) : Int) ∧ x.toNat < 2 ^ n := by
  have h := of_decide_eq_true h
  have hp : (0 : Nat) < 2 ^ n := Nat.pow_pos (by omega)
  generalize (2 ^ n : Nat) = p at *
  omega
/-- Is it a valuation on a poset? -/
def valB (sz : Int) (L V : List Int) : Bool := posB sz L && (decide (V.length = 6) && V.all (upB (nats L)))
theorem posB_ok {sz : Int} {L : List Int} (h : posB sz L = true) : sz = (L.length : Int) ∧ L.length ≤ 8 ∧ Rl (nats L) ∧ zs (nats L) = L ∧ mks L.length L = true ∧ reflB (nats L) = true ∧ transB (nats L) = true ∧ antiB (nats L) = true := by
  unfold posB at h
  simp only [Bool.and_eq_true, decide_eq_true_eq] at h
  obtain ⟨h1, h2, h3, h4, h5, h6⟩ := h
  exact ⟨h2.symm, by omega, pos_rl (by omega) h3, (nats_ok h3).1, h3, h4, h5, h6⟩
end Go.Proofs.YtefkgomecpnpbaaGreat

/- Masks: squeezed masks (squeeze, l05Squeeze). -/
namespace Go.Proofs.YtefkgomecpnpbaaGreat
open Go.RowKit
end Go.Proofs.YtefkgomecpnpbaaGreat

/- Parts of posets and valuations: partOn, squeezeAll, CutDown of the program. -/
namespace Go.Proofs.YtefkgomecpnpbaaGreat
open Go.RowKit

/-- The part of a relation on a mask. -/
def prt (A : List Nat) (m : Nat) : List Nat := (mbs m).map fun x => sqz (nt A x) m
def prtK (A : List Nat) (m k : Nat) : List Nat := ((mbs m).take k).map fun x => sqz (nt A x) m
theorem prtK_next {A : List Nat} {m k : Nat} (h : k < (mbs m).length) : prtK A m (k + 1) = prtK A m k ++ [sqz (nt A (nt (mbs m) k)) m] := by
  unfold prtK
  rw [take_succ_nt h, List.map_append]
  rfl
theorem prtK_len (A : List Nat) (m k : Nat) : (prtK A m k).length ≤ k := by
  unfold prtK
  rw [List.length_map, List.length_take]
  omega
theorem prtK_all (A : List Nat) (m : Nat) : prtK A m (mbs m).length = prt A m := by
  unfold prtK prt
  rw [List.take_length]
theorem prt_len (A : List Nat) (m : Nat) : (prt A m).length ≤ 30 := by
  unfold prt
  rw [List.length_map]
  exact mbs_len m
/-- The part of a valuation on a mask. -/
def sqa (V : List Nat) (m : Nat) : List Nat := V.map fun x => sqz x m
def sqaK (V : List Nat) (m k : Nat) : List Nat := (V.take k).map fun x => sqz x m
theorem sqaK_next {V : List Nat} {m k : Nat} (h : k < V.length) : sqaK V m (k + 1) = sqaK V m k ++ [sqz (nt V k) m] := by
  unfold sqaK
  rw [take_succ_nt h, List.map_append]
  rfl
theorem sqaK_len (V : List Nat) (m k : Nat) : (sqaK V m k).length ≤ k := by
  unfold sqaK
  rw [List.length_map, List.length_take]
  omega
theorem sqaK_all (V : List Nat) (m : Nat) : sqaK V m V.length = sqa V m := by
  unfold sqaK sqa
  rw [List.take_length]
theorem posetOf_c (v : Value) (L : List Int) (w : World) (h : Ints w v L) :
    Calls Tryz.prog 103 #[v] w fun e w' => e = .returned (.agg #[.int .i64 (L.length : Int), v]) ∧ Grew w w' := by
  have hinfo := info2P
  have hb : ∀ o1, (w.alloc o1).heap[w.heap.size]? = some o1 := fun o1 => blk_new w o1
  have HS := Lib.hid (fun W hW => size_q v L W (h.grew hW))
  have hmx : L.length ≤ 9223372036854775807 := h.2.1
  obtain ⟨A, c, rfl⟩ := ints_slice h
  clear h
  generalize L.length = n at *
  go_enter Tryz.func103, Tryz.ntmps103
  go_wp2_with fail
  refine (HS.out _ ((Grew.refl w).alloc _)).mono ?_
  rintro e w1 ⟨rfl, rfl⟩
  go_wp2_with fail
  (try simp only [Exit.inBlock, Exit.then])
  refine bodyPost_ret (results_cell_row rfl _ _ w.heap.size _ _ _ _ rfl (hb _) Tryz.underlying63 rfl hinfo) rfl ?_
  exact ⟨rfl, (Grew.refl w).alloc _⟩
/-- A poset in a block of its own, given by value. -/
def GivesPs (w : World) (L : List Int) (e : Ending) (w' : World) : Prop := ∃ v, e = .returned (.agg #[.int .i64 (L.length : Int), v]) ∧ OwnI w' w.heap.size v L ∧ Grew w w'
end Go.Proofs.YtefkgomecpnpbaaGreat

/- Masks: rows of members of the reference (l01List). -/
namespace Go.Proofs.YtefkgomecpnpbaaGreat
open Go.RowKit
theorem half_bit (m j : Nat) : decide (m / 2 ^ j % 2 = 1) = m.testBit j := (Nat.testBit_eq_decide_div_mod_eq ..).symm
theorem half_next (m j : Nat) : m / 2 ^ j / 2 = m / 2 ^ (j + 1) := by rw [Nat.div_div_eq_div_mul, Nat.pow_succ]
theorem l01List_c (m : Nat) (hm : m < 1073741824) (w : World) :
    Calls Tryz.prog 70 #[.int .i64 (m : Int)] w (GivesI w (zs (mbs m))) := by
  obtain ⟨M, hM⟩ : ∃ M, M = zs (mbs m) := ⟨_, rfl⟩
  rw [← hM]
  have HZ := Lib.hid (fun n hn h => (congrArg zs (mbs_of (n := n) hm h hn)).trans hM.symm)
  have HY := Lib.hid (fun n h => (congrArg zs (@mb_yes m n h)).trans (zs_append _ _))
  have HN := Lib.hid (fun n h => congrArg zs (@mb_no m n h))
  have HL := Lib.hid (fun n => Nat.le_trans (Nat.le_of_eq (zs_len (mb m n))) (mb_len m n))
  have HB := Lib.hid (half_bit m)
  have HX := Lib.hid (half_next m)
  have HT30 := Lib.hid (show m / 2 ^ 30 = 0 from Nat.div_eq_of_lt hm)
  have HS := Lib.hid (fun n => Nat.div_le_self m (2 ^ n))
  have hs0 : ((m : Nat) : Int) = ((m / 2 ^ 0 : Nat) : Int) := by rw [Nat.pow_zero, Nat.div_one]
  have HS0 := Lib.hid hs0
  clear hM hs0
  go_enter Tryz.func70, Tryz.ntmps70
  go_wp2_with fail
  go_loopw [0, 3, 4] (fun q s i wr => ∃ j : Nat, j ≤ 30 ∧ q = .int .i64 ((m / 2 ^ j : Nat) : Int) ∧ i = .int .i64 j ∧ Grew w wr ∧ OwnI wr w.heap.size s (zs (mb m j))) (fun _ _ i _ => 30 - (intOf i).toNat)
  case atStart => exact ⟨0, by omega, congrArg (Value.int .i64) HS0.out, rfl, (Grew.refl _).alloc _, own_emptyI w⟩
  case round =>
    obtain ⟨j, hj, rfl, rfl, hB, hO⟩ := hrel
    have hb := HB.out j
    have hx := HX.out j
    have hs := HS.out j
    have hz := Lib.hid (HZ.out j hj)
    have hj' : m / 2 ^ j ≠ 0 → j < 30 := by
      intro hz
      rcases Nat.lt_or_ge j 30 with h | h
      · exact h
      · obtain rfl : j = 30 := by omega
        exact absurd HT30.out hz
    have hY := Lib.hid (HY.out j)
    have hN := Lib.hid (HN.out j)
    have hl := HL.out j
    obtain ⟨d', hdd⟩ : ∃ d', m / 2 ^ (j + 1) = d' := ⟨_, rfl⟩
    rw [hdd] at hx
    have hdd := Lib.hid hdd
    generalize m / 2 ^ j = d at *
    have hd' : (d : Int) / 2 = (d' : Int) := by rw [← hx]; rfl
    by_cases h0 : d = 0
    · subst h0
      have hr := hz.out rfl
      clear hd' hx
      go_wp2_with fail
      go_ret
      rw [hr] at hO
      exact ⟨_, rfl, hO, hB⟩
    · have hj2 := hj' h0
      clear hj' hz hx
      generalize m.testBit j = b at *
      cases b with
      | true =>
        have hy := hY.out rfl
        have he : (d : Int) % 2 = 1 := by have := of_decide_eq_true hb; omega
        go_wp2_with (first | (at_builtin; refine wpList_appI (w0 := w) _ _ rfl rfl _ (zs (mb m j)) rfl (hO.grew (Grew.alloc (Grew.refl _) _)) (hB.alloc _) _ (j : Int) rfl (rd_litI _ _ _) (by omega) ?_; intro v2 w2 hO2 hg2 _))
        go_roundw
        case rel => exact ⟨j + 1, by omega, by rw [hdd.out], by go_num, hg2, by rw [hy]; exact hO2⟩
        case measure => simp [intOf]; omega
      | false =>
        have hn := hN.out rfl
        have he : (d : Int) % 2 = 0 := by have := of_decide_eq_false hb; omega
        go_wp2_with fail
        go_roundw
        case rel => exact ⟨j + 1, by omega, by rw [hdd.out], by go_num, hB, by rw [hn]; exact hO⟩
        case measure => simp [intOf]; omega
end Go.Proofs.YtefkgomecpnpbaaGreat

/- The variables of a formula: variableMask of the program, l02Variables of the reference. -/
namespace Go.Proofs.YtefkgomecpnpbaaGreat
open Go.RowKit
open Fm (Nd Tree)

/-- The mask of the variables among the first k nodes. -/
def vmK (xs : List Nd) : Nat → Nat
  | 0 => 0
  | k + 1 => if kd xs k = 0 then vmK xs k ||| 2 ^ (sy xs k).toNat else vmK xs k
theorem vmK_yes {xs : List Nd} {k : Nat} (h : kd xs k = 0) : vmK xs (k + 1) = vmK xs k ||| 2 ^ (sy xs k).toNat := by
  show (if _ then _ else _) = _
  rw [if_pos h]
theorem vmK_no {xs : List Nd} {k : Nat} (h : ¬ kd xs k = 0) : vmK xs (k + 1) = vmK xs k := by
  show (if _ then _ else _) = _
  rw [if_neg h]
def vm (xs : List Nd) : Nat := vmK xs xs.length
/-- The variables' numbers are less than 6. -/
def Vs (xs : List Nd) : Prop := ∀ i, i < xs.length → kd xs i = 0 → 0 ≤ sy xs i ∧ sy xs i < 6
theorem vmK_lt {xs : List Nd} (h : Vs xs) : ∀ k, k ≤ xs.length → vmK xs k < 2 ^ 6 := by
  intro k
  induction k with
  | zero => intro _; show 0 < 2 ^ 6; decide
  | succ k ih =>
    intro hk
    by_cases h0 : kd xs k = 0
    · rw [vmK_yes h0]
      have h1 := h k (by omega) h0
      refine or_n (ih (by omega)) ?_
      exact Nat.pow_lt_pow_right (by omega) (by omega)
    · rw [vmK_no h0]; exact ih (by omega)
theorem vmK_bit (xs : List Nd) (v : Nat) : ∀ k, (vmK xs k).testBit v = true ↔ ∃ i, i < k ∧ kd xs i = 0 ∧ (sy xs i).toNat = v := by
  intro k
  induction k with
  | zero =>
    show (0 : Nat).testBit v = true ↔ _
    simp
  | succ k ih =>
    by_cases h0 : kd xs k = 0
    · rw [vmK_yes h0, Nat.testBit_or, Bool.or_eq_true, ih, Nat.testBit_two_pow, decide_eq_true_eq]
      constructor
      · rintro (⟨i, hi, h1, h2⟩ | h1)
        · exact ⟨i, by omega, h1, h2⟩
        · exact ⟨k, by omega, h0, h1⟩
      · rintro ⟨i, hi, h1, h2⟩
        by_cases he : i = k
        · subst he; exact .inr h2
        · exact .inl ⟨i, by omega, h1, h2⟩
    · rw [vmK_no h0, ih]
      constructor
      · rintro ⟨i, hi, h1, h2⟩; exact ⟨i, by omega, h1, h2⟩
      · rintro ⟨i, hi, h1, h2⟩
        by_cases he : i = k
        · subst he; exact absurd h1 h0
        · exact ⟨i, by omega, h1, h2⟩
theorem wrap_sh {k : Nat} (h : k ≤ 30) : IntKind.i64.wrap (1 * 2 ^ k) = ((2 ^ k : Nat) : Int) := pow63 h

set_option maxHeartbeats 1000000 in
theorem variableMask_c (v : Value) (xs : List Nd) (w : World) (h : Nodes w v xs) (hv : Vs xs) (hn : xs.length ≤ 1048576) :
    Calls Tryz.prog 56 #[v] w fun e w' => e = .returned (.int .i64 ((vm xs : Nat) : Int)) ∧ Grew w w' := by
  have HY := Lib.hid (fun k => @vmK_yes xs k)
  have HN := Lib.hid (fun k => @vmK_no xs k)
  have HL := Lib.hid (fun k (hk : k ≤ xs.length) => vmK_lt hv k hk)
  have HV := Lib.hid hv
  have HZ : Hid (vmK xs 0 = 0) := Lib.hid rfl
  have HE : Hid (vm xs = vmK xs xs.length) := Lib.hid rfl
  have HO := Lib.hid (fun a b (ha : a < 2 ^ 6) (hb : b < 2 ^ 6) => or_i64 a b (by omega) (by omega))
  rcases h.open_ with ⟨rfl, rfl⟩ | ⟨b, o, c, rfl, hc, hm, hb, hcell⟩
  · clear h
    go_enter Tryz.func56, Tryz.ntmps56
    go_wp2_with fail
    refine wp_loop_rounds 1 ?_; rw [rounds_succ]
    go_wp2_with fail
    go_ret
    exact ⟨rfl, Grew.refl _⟩
  have HC := Lib.hid hcell
  clear hcell h hv
  generalize vm xs = R at *
  generalize hN : xs.length = n at *
  have HXN := Lib.hid hN
  clear hN
  go_enter Tryz.func56, Tryz.ntmps56
  go_wp2_with fail
  go_loopw [3, 5, 8] (fun q _ i wr => ∃ k : Nat, k ≤ n ∧ i = .int .i64 (k : Int) ∧ q = .int .i64 ((vmK xs k : Nat) : Int) ∧ Grew w wr) (fun _ _ i _ => n - (intOf i).toNat)
  case atStart => exact ⟨0, Nat.zero_le _, rfl, by rw [HZ.out]; rfl, Grew.refl _⟩
  case round =>
    obtain ⟨k, hk, rfl, rfl, hB⟩ := hrel
    by_cases hlt : k < n
    · obtain ⟨c0, c1⟩ := HC.out k hlt _ hB
      have hy := Lib.hid (HY.out k)
      have hno := Lib.hid (HN.out k)
      have hq := HL.out k hk
      by_cases h0 : kd xs k = 0
      · have hvs := HV.out k (by rw [HXN.out]; exact hlt) h0
        have hyk := hy.out h0
        rw [h0] at c0
        clear h0
        obtain ⟨s, hs⟩ : ∃ s : Nat, sy xs k = (s : Int) := ⟨(sy xs k).toNat, by omega⟩
        rw [hs] at c1 hyk hvs
        rw [Int.toNat_natCast] at hyk
        have hp := wrap_pow (k := s) (by omega)
        have hp64 : 2 ^ s < 2 ^ 6 := Nat.pow_lt_pow_right (by omega) (by omega)
        have ho := HO.out (vmK xs k) (2 ^ s) hq hp64
        have HYK := Lib.hid hyk
        have hs6 : (s : Int) < 6 := hvs.2
        clear hyk hs hy hno hvs
        generalize vmK xs k = q at *
        generalize (2 ^ s : Nat) = p at *
        go_wp2_with fail
        go_roundw
        case rel => exact ⟨k + 1, by omega, by go_num, by rw [HYK.out], hB.trans ((Grew.refl _).alloc _)⟩
        case measure => simp [intOf]; omega
      · have hyk := hno.out h0
        have HYK := Lib.hid hyk
        clear hyk hy hno
        generalize kd xs k = kk at *
        generalize vmK xs k = q at *
        go_wp2_with fail
        go_roundw
        case rel => exact ⟨k + 1, by omega, by go_num, by rw [HYK.out], hB.trans ((Grew.refl _).alloc _)⟩
        case measure => simp [intOf]; omega
    · obtain rfl : k = n := by omega
      have he := HE.out
      go_wp2_with fail
      go_ret
      exact ⟨by rw [he]; rfl, hB⟩
set_option maxHeartbeats 1000000 in
theorem l02Variables_c (v : Value) (xs : List Nd) (w : World) (h : Nodes w v xs) (hv : Vs xs) (hn : xs.length ≤ 1048576) :
    Calls Tryz.prog 45 #[v] w (GivesI w (zs (mbs (vm xs)))) := by
  have HY := Lib.hid (fun k => @vmK_yes xs k)
  have HN := Lib.hid (fun k => @vmK_no xs k)
  have HL := Lib.hid (fun k (hk : k ≤ xs.length) => vmK_lt hv k hk)
  have HV := Lib.hid hv
  have HZ : Hid (vmK xs 0 = 0) := Lib.hid rfl
  have HE : Hid (vm xs = vmK xs xs.length) := Lib.hid rfl
  have HO := Lib.hid (fun a b (ha : a < 2 ^ 6) (hb : b < 2 ^ 6) => or_i64 a b (by omega) (by omega))
  have HR := Lib.hid (fun W => l01List_c (vm xs) (by have := vmK_lt hv xs.length (Nat.le_refl _); unfold vm; omega) W)
  rcases h.open_ with ⟨rfl, rfl⟩ | ⟨b, o, c, rfl, hc, hm, hb, hcell⟩
  · clear h
    have hz : vm [] = 0 := rfl
    rw [hz] at HR ⊢
    generalize zs (mbs 0) = L at *
    go_enter Tryz.func45, Tryz.ntmps45
    go_wp2_with fail
    refine wp_loop_rounds 1 ?_; rw [rounds_succ]
    go_wp2_with fail
    refine (HR.out _).mono ?_
    rintro e w1 ⟨v1, rfl, hO1, hg1⟩
    go_wp2_with fail
    go_ret
    exact ⟨_, rfl, hO1, hg1⟩
  have HC := Lib.hid hcell
  clear hcell h hv
  generalize zs (mbs (vm xs)) = L at *
  generalize vm xs = R at *
  generalize hN : xs.length = n at *
  have HXN := Lib.hid hN
  clear hN
  go_enter Tryz.func45, Tryz.ntmps45
  go_wp2_with fail
  go_loopw [3, 4] (fun q i wr => ∃ k : Nat, k ≤ n ∧ i = .int .i64 (k : Int) ∧ q = .int .i64 ((vmK xs k : Nat) : Int) ∧ Grew w wr) (fun _ i _ => n - (intOf i).toNat)
  case atStart => exact ⟨0, Nat.zero_le _, rfl, by rw [HZ.out]; rfl, Grew.refl _⟩
  case round =>
    obtain ⟨k, hk, rfl, rfl, hB⟩ := hrel
    by_cases hlt : k < n
    · obtain ⟨c0, c1⟩ := HC.out k hlt _ hB
      have hy := Lib.hid (HY.out k)
      have hno := Lib.hid (HN.out k)
      have hq := HL.out k hk
      by_cases h0 : kd xs k = 0
      · have hvs := HV.out k (by rw [HXN.out]; exact hlt) h0
        have hyk := hy.out h0
        rw [h0] at c0
        clear h0
        obtain ⟨s, hs⟩ : ∃ s : Nat, sy xs k = (s : Int) := ⟨(sy xs k).toNat, by omega⟩
        rw [hs] at c1 hyk hvs
        rw [Int.toNat_natCast] at hyk
        have KO := Lib.hid (fun W => l01One_q s (by omega) W)
        have hp64 : 2 ^ s < 2 ^ 6 := Nat.pow_lt_pow_right (by omega) (by omega)
        have ho := HO.out (vmK xs k) (2 ^ s) hq hp64
        have HYK := Lib.hid hyk
        have hs6 : (s : Int) < 6 := hvs.2
        clear hyk hs hy hno hvs
        generalize vmK xs k = q at *
        generalize (2 ^ s : Nat) = p at *
        have hr1 := Grew.refl wr
        have hd1 := (Grew.refl wr).drew
        go_wp2_with fail
        refine (KO.out _).mono ?_
        rintro e w1 ⟨rfl, rfl⟩
        go_wp2_with fail
        go_roundw
        case rel => exact ⟨k + 1, by omega, by go_num, by rw [HYK.out], hB⟩
        case measure => simp [intOf]; omega
      · have hyk := hno.out h0
        have HYK := Lib.hid hyk
        clear hyk hy hno
        generalize kd xs k = kk at *
        generalize vmK xs k = q at *
        go_wp2_with fail
        go_roundw
        case rel => exact ⟨k + 1, by omega, by go_num, by rw [HYK.out], hB⟩
        case measure => simp [intOf]; omega
    · obtain rfl : k = n := by omega
      rw [← HE.out]
      go_wp2_with fail
      refine (HR.out _).mono ?_
      rintro e w1 ⟨v1, rfl, hO1, hg1⟩
      go_wp2_with fail
      go_ret
      exact ⟨_, rfl, own_base hO1 hB.size, hB.trans hg1⟩
end Go.Proofs.YtefkgomecpnpbaaGreat

/- A list of nodes is that of one formula at most. No program is in sight. -/
namespace Go.Proofs.YtefkgomecpnpbaaGreat
open Fm (Nd)

theorem enc_pre (t : Fm.Tree) : ∀ (u : Fm.Tree) (a b : List Nd), Fm.enc t ++ a = Fm.enc u ++ b → t = u ∧ a = b := by
  induction t with
  | var v =>
    intro u a b h
    cases u <;> simp [Fm.enc] at h
    exact ⟨congrArg Fm.Tree.var (Fin.ext (by have := h.1; omega)), h.2⟩
  | fls =>
    intro u a b h
    cases u <;> simp [Fm.enc] at h
    exact ⟨rfl, h⟩
  | and x y hx hy =>
    intro u a b h
    cases u <;> simp [Fm.enc] at h
    obtain ⟨e1, h1⟩ := hx _ _ _ h
    obtain ⟨e2, h2⟩ := hy _ _ _ h1
    exact ⟨by rw [e1, e2], h2⟩
  | or x y hx hy =>
    intro u a b h
    cases u <;> simp [Fm.enc] at h
    obtain ⟨e1, h1⟩ := hx _ _ _ h
    obtain ⟨e2, h2⟩ := hy _ _ _ h1
    exact ⟨by rw [e1, e2], h2⟩
  | imp x y hx hy =>
    intro u a b h
    cases u <;> simp [Fm.enc] at h
    obtain ⟨e1, h1⟩ := hx _ _ _ h
    obtain ⟨e2, h2⟩ := hy _ _ _ h1
    exact ⟨by rw [e1, e2], h2⟩
  | box x hx =>
    intro u a b h
    cases u <;> simp [Fm.enc] at h
    obtain ⟨e1, h1⟩ := hx _ _ _ h
    exact ⟨by rw [e1], h1⟩
  | dia x hx =>
    intro u a b h
    cases u <;> simp [Fm.enc] at h
    obtain ⟨e1, h1⟩ := hx _ _ _ h
    exact ⟨by rw [e1], h1⟩
theorem enc_inj {t u : Fm.Tree} (h : Fm.enc t = Fm.enc u) : t = u := (enc_pre t u [] [] (by simpa using h)).1

end Go.Proofs.YtefkgomecpnpbaaGreat

/- The smallest formulas, and the formulas of a kind: the program's and the reference's makers. -/
namespace Go.Proofs.YtefkgomecpnpbaaGreat
open Go.RowKit
open Fm (Nd)

/-- The call returns a new list of nodes and changes nothing that was there. -/
def Gives (w : World) (xs : List Nd) (e : Ending) (w' : World) : Prop := ∃ v, e = .returned v ∧ Own w' w.heap.size v xs ∧ Grew w w'

/-- A new block that holds one node. -/
theorem Own.one (w : World) (B : Nat) (k s : Int) (hB : B ≤ w.heap.size) : Own (w.alloc (.cells #[.int .i64 k, .int .i64 s] 45)) B (.slice (some ⟨w.heap.size, 0, none⟩) 1 1) [(k, s)] :=
  Own.lit w B [(k, s)] #[.int .i64 k, .int .i64 s] hB (by simp) rfl

theorem l02Pair_c (k : Int) (va vb : Value) (xs ys : List Nd) (w : World) (ha : Nodes w va xs) (hb : Nodes w vb ys) (hn : xs.length + ys.length ≤ 1099511627775) :
    Calls Tryz.prog 38 #[.int .i64 k, va, vb] w (Gives w (Fm.join k xs ys)) := by
  go_enter Tryz.func38, Tryz.ntmps38
  go_wp2_with (first
    | (at_builtin; refine wpList_app (w0 := w) (.tmp 9) (.tmp 10) rfl rfl _ [(k, 0)] rfl (Own.one w _ k 0 (Nat.le_refl _)) ((Grew.refl w).alloc _) va xs rfl (ha.grew ((Grew.refl w).alloc _)) (by simp; omega) ?_; intro v1 w1 hown1 hg1 _)
    | (at_builtin; refine wpList_app (w0 := w) (.tmp 11) (.tmp 12) rfl rfl _ _ rfl hown1 hg1 vb ys rfl (hb.grew hg1) (by simp; omega) ?_; intro v2 w2 hown2 hg2 _))
  go_ret
  exact ⟨_, rfl, by simpa [Fm.join] using hown2, hg2⟩
theorem l02Pre_c (k : Int) (va : Value) (xs : List Nd) (w : World) (ha : Nodes w va xs) (hn : xs.length ≤ 1099511627775) :
    Calls Tryz.prog 67 #[.int .i64 k, va] w (Gives w (Fm.pre k xs)) := by
  go_enter Tryz.func67, Tryz.ntmps67
  go_wp2_with (first
    | (at_builtin; refine wpList_app (w0 := w) _ _ rfl rfl _ [(k, 0)] rfl (Own.one w _ k 0 (Nat.le_refl _)) ((Grew.refl w).alloc _) va xs rfl (ha.grew ((Grew.refl w).alloc _)) (by simp; omega) ?_; intro v1 w1 hown1 hg1 _))
  go_ret
  exact ⟨_, rfl, by simpa [Fm.pre] using hown1, hg1⟩

theorem l02False_c (w : World) : Calls Tryz.prog 52 #[] w (Gives w Fm.falsum) := by
  have h := Own.one w _ 1 0 (Nat.le_refl _)
  go_enter Tryz.func52, Tryz.ntmps52
  go_wp2_with fail
  go_ret
  exact ⟨_, rfl, h, (Grew.refl w).alloc _⟩

theorem l02Var_c (v : Int) (w : World) : Calls Tryz.prog 53 #[.int .i64 v] w (Gives w (Fm.vari v)) := by
  have h := Own.one w _ 0 v (Nat.le_refl _)
  go_enter Tryz.func53, Tryz.ntmps53
  go_wp2_with fail
  go_ret
  exact ⟨_, rfl, h, (Grew.refl w).alloc _⟩

theorem l02Not_c (va : Value) (xs : List Nd) (w : World) (ha : Nodes w va xs) (hn : xs.length ≤ 1099511627774) :
    Calls Tryz.prog 51 #[va] w (Gives w (Fm.neg xs)) := by
  go_enter Tryz.func51, Tryz.ntmps51
  go_wp2_with fail
  refine (l02False_c _).mono ?_
  rintro e w1 ⟨v1, rfl, ho1, hg1⟩
  go_wp2_with fail
  refine (l02Pair_c _ _ _ xs Fm.falsum _ (ha.grew hg1) ho1.nodes (by simp [Fm.falsum]; omega)).mono ?_
  rintro e w2 ⟨v2, rfl, ho2, hg2⟩
  go_wp2_with fail
  go_ret
  exact ⟨_, rfl, ho2.base hg1.size, hg1.trans hg2⟩

theorem l02True_c (w : World) : Calls Tryz.prog 24 #[] w (Gives w Fm.truth) := by
  go_enter Tryz.func24, Tryz.ntmps24
  go_wp2_with fail
  refine (l02False_c _).mono ?_
  rintro e w1 ⟨v1, rfl, ho1, hg1⟩
  go_wp2_with fail
  refine (l02Not_c _ Fm.falsum _ ho1.nodes (by simp [Fm.falsum])).mono ?_
  rintro e w2 ⟨v2, rfl, ho2, hg2⟩
  go_wp2_with fail
  go_ret
  exact ⟨_, rfl, ho2.base hg1.size, hg1.trans hg2⟩

theorem falsum_c (w : World) : Calls Tryz.prog 40 #[] w (Gives w Fm.falsum) := by
  have h := Own.one w _ 1 0 (Nat.le_refl _)
  go_enter Tryz.func40, Tryz.ntmps40
  go_wp2_with fail
  go_ret
  exact ⟨_, rfl, h, (Grew.refl w).alloc _⟩

theorem truth_c (w : World) : Calls Tryz.prog 19 #[] w (Gives w Fm.truth) := by
  have h := Own.lit w w.heap.size Fm.truth #[.int .i64 4, .int .i64 0, .int .i64 1, .int .i64 0, .int .i64 1, .int .i64 0] (Nat.le_refl _) (by simp [Fm.truth]) rfl
  go_enter Tryz.func19, Tryz.ntmps19
  go_wp2_with fail
  go_ret
  exact ⟨_, rfl, h, (Grew.refl w).alloc _⟩

theorem variable_c (v : Int) (w : World) : Calls Tryz.prog 41 #[.int .i64 v] w (Gives w (Fm.vari v)) := by
  have h := Own.one w _ 0 v (Nat.le_refl _)
  go_enter Tryz.func41, Tryz.ntmps41
  go_wp2_with fail
  go_ret
  exact ⟨_, rfl, h, (Grew.refl w).alloc _⟩

theorem grow_c (n : Nat) (w : World) (hn : n ≤ 1099511627776) :
    Calls Tryz.prog 86 #[.slice none 0 0, .int .i64 n] w (Gives w []) := by
  obtain ⟨i0, hi0, hz0, hz1, hz2⟩ := info_parts Tryz.infoNd
  rcases Nat.eq_zero_or_pos n with rfl | h0
  · go_enter Tryz.func86, Tryz.ntmps86
    go_wp2_with fail
    go_ret
    exact ⟨_, rfl, Own.nil_ _ _, Grew.refl _⟩
  · have hr := fun ty => run_grow_nil (P := Tryz.prog) w 24 3 ty 45 i0 _ 2 Tryz.underlying24 Tryz.underlying3 hi0 hz0 hz1 rfl (by omega) n h0 (by rw [hz2]; omega) (by omega)
    have HR := Lib.hid hr
    clear hr hz0 hz1 hz2 hi0
    go_enter Tryz.func86, Tryz.ntmps86
    go_wp2_with (at_builtin; obtain ⟨G, cs, hG1, hG2, hcs, hrun⟩ := HR.out _; refine Lib.wpList_append_run _ rfl _ _ _ _ rfl _ _ rfl rfl _ _ hrun ?_; have HC := Lib.hid hcs; clear hcs hrun)
    go_ret
    refine ⟨_, rfl, ?_, ((Grew.refl w).alloc _).drew⟩
    exact Own.mk_ (xs := []) (Nat.le_refl _) (blk_new w _) (by simp) hG2 HC.out (by simp)

/-- A slice of k slices of nodes that lies in memory: the j-th reads as L[j]. -/
def Lists (w : World) (v : Value) (L : List (List Nd)) : Prop :=
  (v = .slice none 0 0 ∧ L = []) ∨ ∃ b o c, v = .slice (some ⟨b, o, none⟩) L.length c ∧ L.length ≤ c ∧ c ≤ 9223372036854775807 ∧ b < w.heap.size ∧
    ∀ i, i < L.length → ∃ u, w.cell? ⟨b, o + i, none⟩ = some u ∧ Nodes w u (L.getD i [])
theorem Lists.grew {w w' : World} {v : Value} {L : List (List Nd)} (h : Lists w v L) (hb : Grew w w') : Lists w' v L := by
  rcases h with h | ⟨b, o, c, h1, h2, h3, h4, h5⟩
  · exact .inl h
  · refine .inr ⟨b, o, c, h1, h2, h3, Nat.lt_of_lt_of_le h4 hb.size, fun i hi => ?_⟩
    obtain ⟨u, h6, h7⟩ := h5 i hi
    exact ⟨u, (hb.cell (p := ⟨b, o + i, none⟩) h4).trans h6, h7.grew hb⟩
/-- How many nodes the first k lists have. -/
def total (L : List (List Nd)) (k : Nat) : Nat := ((L.take k).flatten).length
theorem total_zero (L : List (List Nd)) : total L 0 = 0 := by unfold total; rw [List.take_zero]; rfl
theorem total_succ {L : List (List Nd)} {k : Nat} (h : k < L.length) : total L (k + 1) = total L k + (L.getD k []).length := by
  unfold total
  rw [List.take_succ_eq_append_getElem h, List.flatten_append, List.length_append]
  simp [List.getD, h]
theorem total_mono {L : List (List Nd)} {k : Nat} : total L k ≤ L.flatten.length := by
  rw [total]
  have : L.flatten = (L.take k).flatten ++ (L.drop k).flatten := by rw [← List.flatten_append, List.take_append_drop]
  rw [this, List.length_append]
  omega
theorem concat_c (v : Value) (L : List (List Nd)) (w : World) (hL : Lists w v L) (hk : L.length ≤ 1099511627776) (hn : L.flatten.length ≤ 1099511627776) :
    Calls Tryz.prog 61 #[v] w (Gives w L.flatten) := by
  have hfull : total L L.length = L.flatten.length := by unfold total; rw [List.take_length]
  rcases hL with ⟨rfl, rfl⟩ | ⟨b, o, c, rfl, hc, hm, hb, hcell⟩
  · go_enter Tryz.func61, Tryz.ntmps61
    go_wp2_with fail
    refine wp_loop_rounds 1 ?_; rw [rounds_succ]
    go_wp2_with fail
    refine (grow_c 0 _ (by omega)).mono ?_
    rintro e w1 ⟨v1, rfl, ho1, hg1⟩
    go_wp2_with fail
    refine wp_loop_rounds 1 ?_; rw [rounds_succ]
    go_wp2_with fail
    go_ret
    exact ⟨_, rfl, ho1, hg1⟩
  · have HF := Lib.hid hfull
    have HC := Lib.hid hcell
    have HN := Lib.hid hn
    clear hfull hcell hn
    generalize hK : L.length = K at *
    have HK := Lib.hid hK
    clear hK
    go_enter Tryz.func61, Tryz.ntmps61
    go_wp2_with fail
    go_loopw [3, 5, 11] (fun n _ i wr => ∃ j : Nat, j ≤ K ∧ i = .int .i64 j ∧ n = .int .i64 (total L j) ∧ Grew w wr) (fun _ _ i _ => K - (intOf i).toNat)
    case atStart => exact ⟨0, Nat.zero_le _, rfl, by simp [total_zero], Grew.refl _⟩
    case round =>
      obtain ⟨j, hj, rfl, rfl, hB⟩ := hrel
      by_cases hlt : j < K
      · have hltL : j < L.length := by rw [HK.out]; exact hlt
        obtain ⟨u, hu1, hu2⟩ := HC.out j hlt
        have hs : total L (j + 1) = total L j + (L.getD j []).length := total_succ hltL
        have hle : total L (j + 1) ≤ 1099511627776 := Nat.le_trans total_mono HN.out
        generalize L.getD j [] = X at *
        obtain ⟨A, cc, rfl⟩ := nodes_slice hu2
        have k1 : ∀ W, Grew w W → W.cell? ⟨b, o + j, none⟩ = some (.slice A X.length cc) := fun W hW => (hW.cell (p := ⟨b, o + j, none⟩) hb).trans hu1
        rw [hs] at hle
        have HS := Lib.hid hs
        clear hs hu1 hu2
        go_wp2_with fail
        go_roundw
        case rel => exact ⟨j + 1, by omega, by go_num, by rw [HS.out]; go_num, by assumption⟩
        case measure => simp [intOf]; omega
      · have hjK : j = K := by omega
        subst hjK
        go_wp2_with fail
        refine (grow_c (total L j) _ (by rw [HF.out]; exact HN.out)).mono ?_
        rintro e w1 ⟨v1, rfl, ho1, hg1⟩
        have hg1' := hB.trans hg1
        have ho1' := ho1.base hB.size
        clear ho1 hg1 hlt
        go_wp2_with fail
        go_loopw [6, 8, 27] (fun v _ i wx => ∃ n : Nat, n ≤ j ∧ i = .int .i64 n ∧ Own wx w.heap.size v (L.take n).flatten ∧ Grew w wx) (fun _ _ i _ => j - (intOf i).toNat)
        case atStart => exact ⟨0, Nat.zero_le _, rfl, by simpa using ho1', hg1'⟩
        case round =>
          obtain ⟨n, hn, rfl, hown, hG⟩ := hrel
          by_cases hlt : n < j
          · have hltL : n < L.length := by rw [HK.out]; exact hlt
            obtain ⟨u, hu1, hu2⟩ := HC.out n hlt
            have hs : total L (n + 1) = total L n + (L.getD n []).length := total_succ hltL
            have hle : total L (n + 1) ≤ 1099511627776 := Nat.le_trans total_mono HN.out
            have hfl : (L.take (n + 1)).flatten = (L.take n).flatten ++ L.getD n [] := by
              rw [List.take_succ_eq_append_getElem hltL, List.flatten_append]
              simp [List.getD, hltL]
            have htl : (L.take n).flatten.length = total L n := rfl
            generalize L.getD n [] = X at *
            have k1 : ∀ W, Grew w W → W.cell? ⟨b, o + n, none⟩ = some u := fun W hW => (hW.cell (p := ⟨b, o + n, none⟩) hb).trans hu1
            have hbd : (L.take n).flatten.length + X.length ≤ 1099511627776 := by rw [htl, ← hs]; exact hle
            have HFL := Lib.hid hfl
            generalize (L.take n).flatten = Y at *
            clear hs hu1 htl hle hfl
            obtain ⟨A, cc, rfl⟩ := nodes_slice hu2
            go_wp2_with (first
              | (at_builtin; refine wpList_app (w0 := w) _ _ rfl rfl _ Y rfl hown hG _ X rfl (hu2.grew hG) hbd ?_; intro v2 w2 hown2 hg2 _))
            go_roundw
            case rel => exact ⟨n + 1, by omega, by go_num, by rw [HFL.out]; assumption, by assumption⟩
            case measure => simp [intOf]; omega
          · have hnj : n = j := by omega
            subst hnj
            have hfl : (L.take n).flatten = L.flatten := by rw [← HK.out, List.take_length]
            rw [hfl] at hown
            clear hfl
            go_wp2_with fail
            go_ret
            exact ⟨_, rfl, hown, hG⟩
end Go.Proofs.YtefkgomecpnpbaaGreat

/- The program's makers over slices.Concat. -/
namespace Go.Proofs.YtefkgomecpnpbaaGreat
open Go.RowKit
open Fm (Nd)

/-- A block that has just been made and holds slices of nodes. -/
theorem lists_new (w : World) (t : TypeId) (us : List Value) (L : List (List Nd)) (hm : L.length ≤ 9223372036854775807)
    (h : ∀ i, i < L.length → ∃ u, us[i]? = some u ∧ Nodes w u (L.getD i [])) : Lists (w.alloc (.cells us.toArray t)) (.slice (some ⟨w.heap.size, 0, none⟩) L.length L.length) L := by
  refine .inr ⟨w.heap.size, 0, L.length, rfl, Nat.le_refl _, hm, by simp, fun i hi => ?_⟩
  obtain ⟨u, h1, h2⟩ := h i hi
  refine ⟨u, ?_, h2.grew ((Grew.refl w).alloc _)⟩
  rw [Nat.zero_add, blk_cell (blk_new w _)]
  simpa using h1

theorem join_c (k : Int) (va vb : Value) (xs ys : List Nd) (w : World) (ha : Nodes w va xs) (hb : Nodes w vb ys) (hn : xs.length + ys.length ≤ 1099511627775) :
    Calls Tryz.prog 43 #[.int .i64 k, va, vb] w (Gives w (Fm.join k xs ys)) := by
  have o1 := Own.one w w.heap.size k 0 (Nat.le_refl _)
  have g1 := (Grew.refl w).alloc (.cells #[.int .i64 k, .int .i64 0] 45)
  have hl := lists_new (w.alloc (.cells #[.int .i64 k, .int .i64 0] 45)) 24 [.slice (some ⟨w.heap.size, 0, none⟩) 1 1, va, vb] [[(k, 0)], xs, ys] (by simp) (fun i hi => by
    match i, hi with
    | 0, _ => exact ⟨_, rfl, o1.nodes⟩
    | 1, _ => exact ⟨_, rfl, ha.grew g1⟩
    | 2, _ => exact ⟨_, rfl, hb.grew g1⟩)
  obtain ⟨A, ca, rfl⟩ := nodes_slice ha
  obtain ⟨B, cb, rfl⟩ := nodes_slice hb
  simp only [List.length_cons, List.length_nil, World.size_alloc] at hl
  go_enter Tryz.func43, Tryz.ntmps43
  go_wp2_with fail
  refine (concat_c _ _ _ hl (by simp) (by simp; omega)).mono ?_
  rintro e w1 ⟨v1, rfl, ho1, hg1⟩
  go_wp2_with fail
  go_ret
  exact ⟨_, rfl, by simpa [Fm.join] using ho1.base (by simp; omega), hg1.of_alloc.of_alloc⟩

theorem prefix_c (k : Int) (va : Value) (xs : List Nd) (w : World) (ha : Nodes w va xs) (hn : xs.length ≤ 1099511627775) :
    Calls Tryz.prog 170 #[.int .i64 k, va] w (Gives w (Fm.pre k xs)) := by
  have o1 := Own.one w w.heap.size k 0 (Nat.le_refl _)
  have g1 := (Grew.refl w).alloc (.cells #[.int .i64 k, .int .i64 0] 45)
  have hl := lists_new (w.alloc (.cells #[.int .i64 k, .int .i64 0] 45)) 24 [.slice (some ⟨w.heap.size, 0, none⟩) 1 1, va] [[(k, 0)], xs] (by simp) (fun i hi => by
    match i, hi with
    | 0, _ => exact ⟨_, rfl, o1.nodes⟩
    | 1, _ => exact ⟨_, rfl, ha.grew g1⟩)
  obtain ⟨A, ca, rfl⟩ := nodes_slice ha
  simp only [List.length_cons, List.length_nil, World.size_alloc] at hl
  go_enter Tryz.func170, Tryz.ntmps170
  go_wp2_with fail
  refine (concat_c _ _ _ hl (by simp) (by simp; omega)).mono ?_
  rintro e w1 ⟨v1, rfl, ho1, hg1⟩
  go_wp2_with fail
  go_ret
  exact ⟨_, rfl, by simpa [Fm.pre] using ho1.base (by simp; omega), hg1.of_alloc.of_alloc⟩

theorem negation_c (va : Value) (xs : List Nd) (w : World) (ha : Nodes w va xs) (hn : xs.length ≤ 1099511627774) :
    Calls Tryz.prog 42 #[va] w (Gives w (Fm.neg xs)) := by
  go_enter Tryz.func42, Tryz.ntmps42
  go_wp2_with fail
  refine (falsum_c _).mono ?_
  rintro e w1 ⟨v1, rfl, ho1, hg1⟩
  go_wp2_with fail
  refine (join_c _ _ _ xs Fm.falsum _ (ha.grew hg1) ho1.nodes (by simp [Fm.falsum]; omega)).mono ?_
  rintro e w2 ⟨v2, rfl, ho2, hg2⟩
  go_wp2_with fail
  go_ret
  exact ⟨_, rfl, ho2.base hg1.size, hg1.trans hg2⟩
end Go.Proofs.YtefkgomecpnpbaaGreat

/- The readers' first steps: take, need, l02Take, l02Need. -/
namespace Go.Proofs.YtefkgomecpnpbaaGreat
open Go.RowKit

/-- Block g holds a reader: its text, its position, whether it is bad. -/
def Rdr (w : World) (g : Nat) (T : TypeId) (s : ByteArray) (st : Fm.St) : Prop := w.heap[g]? = some (.cells #[.string s, .int .i64 st.1, .bool st.2] T (0, 0))
theorem Rdr.text {w : World} {g T : Nat} {s : ByteArray} {st : Fm.St} (h : Rdr w g T s st) : w.cell? ⟨g, 0, none⟩ = some (.string s) := by rw [blk_cell h]; rfl
theorem Rdr.at_ {w : World} {g T : Nat} {s : ByteArray} {st : Fm.St} (h : Rdr w g T s st) : w.cell? ⟨g, 1, none⟩ = some (.int .i64 st.1) := by rw [blk_cell h]; rfl
theorem Rdr.bad {w : World} {g T : Nat} {s : ByteArray} {st : Fm.St} (h : Rdr w g T s st) : w.cell? ⟨g, 2, none⟩ = some (.bool st.2) := by rw [blk_cell h]; rfl
theorem Rdr.free {w : World} {g T : Nat} {s : ByteArray} {st : Fm.St} (h : Rdr w g T s st) (i : Nat) : w.frozen? ⟨g, i, none⟩ = false := blk_frozen h i
theorem Rdr.lt {w : World} {g T : Nat} {s : ByteArray} {st : Fm.St} (h : Rdr w g T s st) : g < w.heap.size := blk_lt h
theorem Rdr.grew {w w' : World} {g T : Nat} {s : ByteArray} {st : Fm.St} (h : Rdr w g T s st) (hg : Grew w w') : Rdr w' g T s st := (hg.block h.lt).trans h
theorem Rdr.move {w : World} {g T : Nat} {s : ByteArray} {st : Fm.St} (h : Rdr w g T s st) (n : Nat) : Rdr (w.setCell ⟨g, 1, none⟩ (.int .i64 n)) g T s (n, st.2) := blk_set h 1 _
theorem Rdr.spoil {w : World} {g T : Nat} {s : ByteArray} {st : Fm.St} (h : Rdr w g T s st) : Rdr (w.setCell ⟨g, 2, none⟩ (.bool true)) g T s (st.1, true) := blk_set h 2 _

/-- What 'take' leaves. -/
def Took (w : World) (g : Nat) (T : TypeId) (s : ByteArray) (st : Fm.St) (c : UInt8) (e : Ending) (w' : World) : Prop :=
  e = .returned (.bool (Fm.sees s.data.toList st c)) ∧ Rdr w' g T s (if Fm.sees s.data.toList st c then Fm.step st else st) ∧ Only g w w'

theorem sees_bad (s : List UInt8) (p : Nat) (c : UInt8) : Fm.sees s (p, true) c = false := rfl
theorem sees_end (s : ByteArray) (p : Nat) (c : UInt8) (h : s.size ≤ p) : Fm.sees s.data.toList (p, false) c = false := by
  have : s.data.toList[p]? = none := by rw [Array.getElem?_toList, Array.getElem?_eq_none]; exact h
  simp [Fm.sees, this]
theorem sees_in (s : ByteArray) (p : Nat) (c : UInt8) (h : p < s.size) : Fm.sees s.data.toList (p, false) c = (s[p] == c) := by
  have : s.data.toList[p]? = some s[p] := by rw [Array.getElem?_toList]; exact Array.getElem?_eq_getElem h
  simp [Fm.sees, this]
theorem byte_eq (a b : UInt8) : ((a.toNat : Int) == b.toNat) = (a == b) := by
  rw [Bool.eq_iff_iff]; simp only [beq_iff_eq, ← UInt8.toNat_inj]; omega
theorem byte_ne (a b : UInt8) : ((a.toNat : Int) != b.toNat) = !(a == b) := by
  rw [bne, byte_eq]

theorem Took.no {w w' : World} {g T : Nat} {s : ByteArray} {st : Fm.St} {c : UInt8} (h : Rdr w g T s st) (hs : Fm.sees s.data.toList st c = false) (hw : Grew w w') : Took w g T s st c (.returned (.bool false)) w' := by
  unfold Took; rw [hs]; exact ⟨rfl, h.grew hw, hw.only⟩
theorem Took.yes {w w' : World} {g T : Nat} {s : ByteArray} {p : Nat} {b : Bool} {c : UInt8} (h : Rdr w g T s (p, b)) (hs : Fm.sees s.data.toList (p, b) c = true) (hw : Grew w w') : Took w g T s (p, b) c (.returned (.bool true)) (w'.setCell ⟨g, 1, none⟩ (.int .i64 ((p : Int) + 1))) := by
  unfold Took; rw [hs]; exact ⟨rfl, (h.grew hw).move (p + 1), hw.only.setCell _⟩

theorem take_c (g T : Nat) (s : ByteArray) (st : Fm.St) (c : UInt8) (m : Int) (w : World) (h : Rdr w g T s st) (hs : s.size ≤ 1099511627776) (hat : st.1 ≤ s.size) (hm : m = (c.toNat : Int)) :
    Calls Tryz.prog 153 #[.pointer (some ⟨g, 0, none⟩), .int .u8 m] w (Took w g T s st c) := by
  subst hm
  have c0 := h.text
  have c1 := h.at_
  have c2 := h.bad
  have hf := h.free 1
  obtain ⟨p, b⟩ := st
  simp only at c0 c1 c2 hat
  by_cases hb : b = true
  · subst hb
    have HH := Lib.hid h
    clear h
    go_enter Tryz.func153, Tryz.ntmps153
    go_wp2_with fail
    go_quiet (fail)
    go_wp2_with fail
    go_ret
    exact Took.no HH.out (sees_bad _ _ _) ((Grew.refl _).drewN _)
  · have hb' : b = false := by simpa using hb
    subst hb'
    by_cases hlt : p < s.size
    · have hd : decide ((s.size : Int) ≤ (p : Int)) = false := by simp; omega
      have HH := Lib.hid h
      clear h hb
      go_enter Tryz.func153, Tryz.ntmps153
      go_wp2_with fail
      go_quiet (fail)
      go_wp2_with fail
      · have h1 : s.size ≤ p ∨ ((s[p].toNat : Int) != c.toNat) = true := by assumption
        go_ret
        exact Took.no HH.out (by rw [sees_in s p c hlt]; rcases h1 with h1 | h1; omega; rw [byte_ne] at h1; simpa using h1) ((Grew.refl _).drewN _)
      · have h1 : ¬ s.size ≤ p ∧ ((s[p].toNat : Int) != c.toNat) = false := by assumption
        go_ret
        exact Took.yes HH.out (by rw [sees_in s p c hlt]; have := h1.2; rw [byte_ne] at this; simpa using this) ((Grew.refl _).drewN _)
    · have hd : decide ((s.size : Int) ≤ (p : Int)) = true := by simp; omega
      have HH := Lib.hid h
      clear h hb
      go_enter Tryz.func153, Tryz.ntmps153
      go_wp2_with fail
      go_quiet (fail)
      go_wp2_with fail
      go_ret
      exact Took.no HH.out (sees_end _ _ _ (by omega)) ((Grew.refl _).drewN _)

theorem take_yes (g T : Nat) (s : ByteArray) (st : Fm.St) (c : UInt8) (m : Int) (w : World) (h : Rdr w g T s st) (hs : s.size ≤ 1099511627776) (hat : st.1 ≤ s.size) (hm : m = (c.toNat : Int)) (hsee : Fm.sees s.data.toList st c = true) :
    Calls Tryz.prog 153 #[.pointer (some ⟨g, 0, none⟩), .int .u8 m] w fun e w' => e = .returned (.bool true) ∧ Rdr w' g T s (Fm.step st) ∧ Only g w w' :=
  (take_c g T s st c m w h hs hat hm).mono fun e w' hh => by
    unfold Took at hh; rw [hsee] at hh; exact hh
theorem take_no (g T : Nat) (s : ByteArray) (st : Fm.St) (c : UInt8) (m : Int) (w : World) (h : Rdr w g T s st) (hs : s.size ≤ 1099511627776) (hat : st.1 ≤ s.size) (hm : m = (c.toNat : Int)) (hsee : Fm.sees s.data.toList st c = false) :
    Calls Tryz.prog 153 #[.pointer (some ⟨g, 0, none⟩), .int .u8 m] w fun e w' => e = .returned (.bool false) ∧ Rdr w' g T s st ∧ Only g w w' :=
  (take_c g T s st c m w h hs hat hm).mono fun e w' hh => by
    unfold Took at hh; rw [hsee] at hh; exact hh
theorem need_c (g T : Nat) (s : ByteArray) (st : Fm.St) (c : UInt8) (m : Int) (w : World) (h : Rdr w g T s st) (hs : s.size ≤ 1099511627776) (hat : st.1 ≤ s.size) (hm : m = (c.toNat : Int)) :
    Calls Tryz.prog 169 #[.pointer (some ⟨g, 0, none⟩), .int .u8 m] w fun e w' => e = .returned (.tuple #[]) ∧ Rdr w' g T s (Fm.need s.data.toList st c) ∧ Only g w w' := by
  subst hm
  by_cases hsee : Fm.sees s.data.toList st c = true
  · have hn : Fm.need s.data.toList st c = Fm.step st := by unfold Fm.need; rw [if_pos hsee]
    rw [hn]
    clear hn
    go_enter Tryz.func169, Tryz.ntmps169
    go_wp2_with fail
    refine (take_yes g T s st c _ _ h hs hat rfl hsee).mono ?_
    rintro e w1 ⟨rfl, h1, o1⟩
    go_wp2_with fail
    go_end0
    exact ⟨rfl, h1, o1⟩
  · have hsee' : Fm.sees s.data.toList st c = false := by simpa using hsee
    have hn : Fm.need s.data.toList st c = (st.1, true) := by unfold Fm.need; rw [if_neg hsee]
    rw [hn]
    clear hn hsee
    go_enter Tryz.func169, Tryz.ntmps169
    go_wp2_with fail
    refine (take_no g T s st c _ _ h hs hat rfl hsee').mono ?_
    rintro e w1 ⟨rfl, h1, o1⟩
    have c2 := h1.bad
    have hf := h1.free 2
    have HH := Lib.hid h1
    clear h1
    go_wp2_with fail
    go_end0
    exact ⟨rfl, HH.out.spoil, o1.setCell _⟩

end Go.Proofs.YtefkgomecpnpbaaGreat

/- The program's reader: what its functions read is what the plain parser gives. -/
namespace Go.Proofs.YtefkgomecpnpbaaGreat
open Go.RowKit
open Fm (Nd)

/-- The call returns the list r.1 in new memory, and the reader stands at r.2. -/
def Reads (w : World) (g : Nat) (T : TypeId) (s : ByteArray) (r : Fm.Res) (e : Ending) (w' : World) : Prop :=
  ∃ v, e = .returned v ∧ Own w' w.heap.size v r.1 ∧ Rdr w' g T s r.2 ∧ Only g w w'

theorem own_rdr_ne {w : World} {B g : Nat} {v : Value} {xs : List Nd} {T : TypeId} {s : ByteArray} {st : Fm.St} (h : Own w B v xs) (hr : Rdr w g T s st) (hne : 45 ≠ T) : v.ownBlock ≠ some g := own_ne h hr hne

theorem size_toList (s : ByteArray) : s.data.toList.length = s.size := by simp

/-- One 'join' in a loop of 'and' or 'or'. -/
theorem Reads.ok_len {s : ByteArray} {st : Fm.St} {r : Fm.Res} (h : Fm.Ok s.data.toList st r) (hs : s.size ≤ 1048576) : r.1.length ≤ 3145729 := by
  obtain ⟨h1, h2, h3⟩ := h
  rw [size_toList] at h2
  omega

/-- The contract of a function that reads, for a plain function sub and all states from which less than f bytes are left. -/
def Sub (F : FuncId) (T : TypeId) (s : ByteArray) (f : Nat) (sub : Fm.St → Fm.Res) : Prop :=
  ∀ (g : Nat) (st : Fm.St) (w : World), Rdr w g T s st → st.1 ≤ s.size → s.size - st.1 < f → Calls Tryz.prog F #[.pointer (some ⟨g, 0, none⟩)] w (Reads w g T s (sub st))

theorem and_c (T : TypeId) (hT : 45 ≠ T) (s : ByteArray) (f m : Nat) (sub : Fm.St → Fm.Res) (hs : s.size ≤ 1048576) (hm : s.size < m) (hok : ∀ st : Fm.St, st.1 ≤ s.data.toList.length → Fm.Ok s.data.toList st (sub st))
    (hsub : Sub 168 T s f sub) : Sub 163 T s f (fun st => Fm.loop s.data.toList 2 38 sub m (sub st).1 (sub st).2) := by
  intro g st w hR hat hfu
  have HS := Lib.hid hsub
  have HO := Lib.hid hok
  clear hsub hok
  have hsz := size_toList s
  have h0 : Fm.Ok s.data.toList st (sub st) := HO.out st (by rw [hsz]; exact hat)
  show Calls _ _ _ _ (Reads w g T s (Fm.loop s.data.toList 2 38 sub m (sub st).1 (sub st).2))
  obtain ⟨R, hR0⟩ : ∃ R, R = Fm.loop s.data.toList 2 38 sub m (sub st).1 (sub st).2 := ⟨_, rfl⟩
  rw [← hR0]
  have hend := Lib.hid hR0
  clear hR0
  have HZ := Lib.hid hsz
  clear hsz
  go_enter Tryz.func163, Tryz.ntmps163
  go_wp2_with fail
  refine (HS.out g st _ hR hat hfu).mono ?_
  rintro e w1 ⟨v1, rfl, ho1, hR1, hO1⟩
  generalize sub st = r1 at *
  obtain ⟨k1, k2, k3⟩ := h0
  rw [HZ.out] at k2
  go_wp2_with fail
  go_loopg [3] m (fun i v wr => ∃ (a : List Nd) (st' : Fm.St), Own wr w.heap.size v a ∧ Rdr wr g T s st' ∧ Only g w wr ∧ Hid (Fm.loop s.data.toList 2 38 sub i a st' = R) ∧ s.size - st'.1 < i ∧ st.1 ≤ st'.1 ∧ st'.1 ≤ s.size ∧ a.length ≤ 3 * st'.1 + 1)
  case atStart => exact ⟨r1.1, r1.2, ho1, hR1, hO1, hend.out.symm, by omega, by omega, by omega, by omega⟩
  case round =>
    obtain ⟨a, st', hown, hR', hO', hl, hi, hst, hst2, hlen⟩ := hrel
    have hne := own_rdr_ne hown hR' hT
    clear hend ho1 hR1 hO1 k1 k2 k3 hR
    obtain ⟨j, rfl⟩ : ∃ j, gk = j + 1 := ⟨gk - 1, by omega⟩
    by_cases hsee : Fm.sees s.data.toList st' 38 = true
    · have hlt := Fm.sees_lt hsee
      rw [HZ.out] at hlt
      have hl2 : Hid (Fm.loop s.data.toList 2 38 sub j (Fm.join 2 a (sub (Fm.step st')).1) (sub (Fm.step st')).2 = R) := by
        have := hl.out
        rw [Fm.loop, if_pos hsee] at this
        exact this
      obtain ⟨k1, k2, k3⟩ : Fm.Ok s.data.toList (Fm.step st') (sub (Fm.step st')) := HO.out (Fm.step st') (by rw [HZ.out]; exact hlt)
      rw [HZ.out] at k2
      have e1 : (Fm.step st').1 = st'.1 + 1 := rfl
      rw [e1] at k1 k3
      have hfu2 : s.size - (Fm.step st').1 < f := by rw [e1]; omega
      have hat2 : (Fm.step st').1 ≤ s.size := by rw [e1]; omega
      clear hl e1
      go_wp2_with fail
      refine (take_yes g T s st' 38 _ _ hR' (by omega) hst2 rfl hsee).mono ?_
      rintro e w2 ⟨rfl, hR2, hO2⟩
      clear hsee hR'
      generalize Fm.step st' = st2 at *
      go_wp2_with fail
      refine (HS.out g st2 _ hR2 hat2 hfu2).mono ?_
      rintro e w3 ⟨v3, rfl, ho3, hR3, hO3⟩
      generalize sub st2 = r3 at *
      go_wp2_with fail
      refine (join_c 2 _ _ a r3.1 _ ((hown.only hO2 hne).only hO3 hne).nodes ho3.nodes (by omega)).mono ?_
      rintro e w4 ⟨v4, rfl, ho4, hg4⟩
      go_wp2_with fail
      go_roundg j
      case measure => omega
      case rel => exact ⟨_, r3.2, ho4.base (by have := hO'.size; have := hO2.size; have := hO3.size; omega), hR3.grew hg4, ((hO'.trans hO2).trans hO3).grew hg4, hl2, by omega, by omega, by omega, by simp only [Fm.join, List.length_cons, List.length_append]; omega⟩
    · have hsee' : Fm.sees s.data.toList st' 38 = false := by simpa using hsee
      have hl2 : Hid (R = (a, st')) := by
        have := hl.out
        rw [Fm.loop, if_neg hsee] at this
        exact this.symm
      clear hsee hl
      go_wp2_with fail
      refine (take_no g T s st' 38 _ _ hR' (by omega) hst2 rfl hsee').mono ?_
      rintro e w2 ⟨rfl, hR2, hO2⟩
      go_wp2_with fail
      go_ret
      rw [hl2.out]
      exact ⟨_, rfl, hown.only hO2 hne, hR2, hO'.trans hO2⟩
theorem or_c (T : TypeId) (hT : 45 ≠ T) (s : ByteArray) (f m : Nat) (sub : Fm.St → Fm.Res) (hs : s.size ≤ 1048576) (hm : s.size < m) (hok : ∀ st : Fm.St, st.1 ≤ s.data.toList.length → Fm.Ok s.data.toList st (sub st))
    (hsub : Sub 163 T s f sub) : Sub 152 T s f (fun st => Fm.loop s.data.toList 3 124 sub m (sub st).1 (sub st).2) := by
  intro g st w hR hat hfu
  have HS := Lib.hid hsub
  have HO := Lib.hid hok
  clear hsub hok
  have hsz := size_toList s
  have h0 : Fm.Ok s.data.toList st (sub st) := HO.out st (by rw [hsz]; exact hat)
  show Calls _ _ _ _ (Reads w g T s (Fm.loop s.data.toList 3 124 sub m (sub st).1 (sub st).2))
  obtain ⟨R, hR0⟩ : ∃ R, R = Fm.loop s.data.toList 3 124 sub m (sub st).1 (sub st).2 := ⟨_, rfl⟩
  rw [← hR0]
  have hend := Lib.hid hR0
  clear hR0
  have HZ := Lib.hid hsz
  clear hsz
  go_enter Tryz.func152, Tryz.ntmps152
  go_wp2_with fail
  refine (HS.out g st _ hR hat hfu).mono ?_
  rintro e w1 ⟨v1, rfl, ho1, hR1, hO1⟩
  generalize sub st = r1 at *
  obtain ⟨k1, k2, k3⟩ := h0
  rw [HZ.out] at k2
  go_wp2_with fail
  go_loopg [3] m (fun i v wr => ∃ (a : List Nd) (st' : Fm.St), Own wr w.heap.size v a ∧ Rdr wr g T s st' ∧ Only g w wr ∧ Hid (Fm.loop s.data.toList 3 124 sub i a st' = R) ∧ s.size - st'.1 < i ∧ st.1 ≤ st'.1 ∧ st'.1 ≤ s.size ∧ a.length ≤ 3 * st'.1 + 1)
  case atStart => exact ⟨r1.1, r1.2, ho1, hR1, hO1, hend.out.symm, by omega, by omega, by omega, by omega⟩
  case round =>
    obtain ⟨a, st', hown, hR', hO', hl, hi, hst, hst2, hlen⟩ := hrel
    have hne := own_rdr_ne hown hR' hT
    clear hend ho1 hR1 hO1 k1 k2 k3 hR
    obtain ⟨j, rfl⟩ : ∃ j, gk = j + 1 := ⟨gk - 1, by omega⟩
    by_cases hsee : Fm.sees s.data.toList st' 124 = true
    · have hlt := Fm.sees_lt hsee
      rw [HZ.out] at hlt
      have hl2 : Hid (Fm.loop s.data.toList 3 124 sub j (Fm.join 3 a (sub (Fm.step st')).1) (sub (Fm.step st')).2 = R) := by
        have := hl.out
        rw [Fm.loop, if_pos hsee] at this
        exact this
      obtain ⟨k1, k2, k3⟩ : Fm.Ok s.data.toList (Fm.step st') (sub (Fm.step st')) := HO.out (Fm.step st') (by rw [HZ.out]; exact hlt)
      rw [HZ.out] at k2
      have e1 : (Fm.step st').1 = st'.1 + 1 := rfl
      rw [e1] at k1 k3
      have hfu2 : s.size - (Fm.step st').1 < f := by rw [e1]; omega
      have hat2 : (Fm.step st').1 ≤ s.size := by rw [e1]; omega
      clear hl e1
      go_wp2_with fail
      refine (take_yes g T s st' 124 _ _ hR' (by omega) hst2 rfl hsee).mono ?_
      rintro e w2 ⟨rfl, hR2, hO2⟩
      clear hsee hR'
      generalize Fm.step st' = st2 at *
      go_wp2_with fail
      refine (HS.out g st2 _ hR2 hat2 hfu2).mono ?_
      rintro e w3 ⟨v3, rfl, ho3, hR3, hO3⟩
      generalize sub st2 = r3 at *
      go_wp2_with fail
      refine (join_c 3 _ _ a r3.1 _ ((hown.only hO2 hne).only hO3 hne).nodes ho3.nodes (by omega)).mono ?_
      rintro e w4 ⟨v4, rfl, ho4, hg4⟩
      go_wp2_with fail
      go_roundg j
      case measure => omega
      case rel => exact ⟨_, r3.2, ho4.base (by have := hO'.size; have := hO2.size; have := hO3.size; omega), hR3.grew hg4, ((hO'.trans hO2).trans hO3).grew hg4, hl2, by omega, by omega, by omega, by simp only [Fm.join, List.length_cons, List.length_append]; omega⟩
    · have hsee' : Fm.sees s.data.toList st' 124 = false := by simpa using hsee
      have hl2 : Hid (R = (a, st')) := by
        have := hl.out
        rw [Fm.loop, if_neg hsee] at this
        exact this.symm
      clear hsee hl
      go_wp2_with fail
      refine (take_no g T s st' 124 _ _ hR' (by omega) hst2 rfl hsee').mono ?_
      rintro e w2 ⟨rfl, hR2, hO2⟩
      go_wp2_with fail
      go_ret
      rw [hl2.out]
      exact ⟨_, rfl, hown.only hO2 hne, hR2, hO'.trans hO2⟩

theorem imply_c (T : TypeId) (hT : 45 ≠ T) (s : ByteArray) (f m : Nat) (sub : Fm.St → Fm.Res) (hs : s.size ≤ 1048576) (hok : ∀ st : Fm.St, st.1 ≤ s.data.toList.length → Fm.Ok s.data.toList st (sub st))
    (hsub : Sub 152 T s f (Fm.orF s.data.toList m sub)) : ∀ (i : Nat) (g : Nat) (st : Fm.St) (w : World), Rdr w g T s st → st.1 ≤ s.size → s.size - st.1 < i → s.size - st.1 < f →
      Calls Tryz.prog 131 #[.pointer (some ⟨g, 0, none⟩)] w (Reads w g T s (Fm.impF s.data.toList m sub i st)) := by
  intro i
  induction i with
  | zero => intro g st w _ _ h; omega
  | succ i ih =>
    intro g st w hR hat hi hfu
    have HS := Lib.hid hsub
    have HI := Lib.hid ih
    clear hsub ih
    have hsz := size_toList s
    have h0 : Fm.Ok s.data.toList st (Fm.orF s.data.toList m sub st) := Fm.orF_ok hok st (by rw [hsz]; exact hat)
    have hy := @Fm.impF_yes s.data.toList m i sub st
    have hn := @Fm.impF_no s.data.toList m i sub st
    have hk := fun st h => Fm.impF_ok (m := m) hok i st h
    have HK := Lib.hid hk
    have HZ := Lib.hid hsz
    clear hsz hok hk
    have HC := fun g h1 => HS.out g st w h1 hat hfu
    have HD := Lib.hid HC
    clear HC HS
    generalize Fm.orF s.data.toList m sub st = r1 at *
    obtain ⟨k1, k2, k3⟩ := h0
    rw [HZ.out] at k2
    by_cases hsee : Fm.sees s.data.toList r1.2 62 = true
    · have hlt := Fm.sees_lt hsee
      rw [HZ.out] at hlt
      have e1 : (Fm.step r1.2).1 = r1.2.1 + 1 := rfl
      obtain ⟨q1, q2, q3⟩ := HK.out (Fm.step r1.2) (by rw [HZ.out, e1]; exact hlt)
      rw [HZ.out] at q2
      rw [e1] at q1 q3
      have hq := HI.out g (Fm.step r1.2)
      rw [e1] at hq
      have HQ := Lib.hid hq
      rw [hy hsee]
      clear hy hn HI hq HK e1
      go_enter Tryz.func131, Tryz.ntmps131
      go_wp2_with fail
      refine (HD.out g hR).mono ?_
      rintro e w1 ⟨v1, rfl, ho1, hR1, hO1⟩
      have hne := own_rdr_ne ho1 hR1 hT
      go_wp2_with fail
      refine (take_yes g T s r1.2 62 _ _ hR1 (by omega) (by omega) rfl hsee).mono ?_
      rintro e w2 ⟨rfl, hR2, hO2⟩
      go_wp2_with fail
      refine (HQ.out _ hR2 (by omega) (by omega) (by omega)).mono ?_
      rintro e w3 ⟨v3, rfl, ho3, hR3, hO3⟩
      generalize Fm.impF s.data.toList m sub i (Fm.step r1.2) = r3 at *
      go_wp2_with fail
      refine (join_c 4 _ _ r1.1 r3.1 _ ((ho1.only hO2 hne).only hO3 hne).nodes ho3.nodes (by omega)).mono ?_
      rintro e w4 ⟨v4, rfl, ho4, hg4⟩
      go_wp2_with fail
      go_ret
      exact ⟨_, rfl, ho4.base (by have := hO1.size; have := hO2.size; have := hO3.size; omega), hR3.grew hg4, ((hO1.trans hO2).trans hO3).grew hg4⟩
    · have hsee' : Fm.sees s.data.toList r1.2 62 = false := by simpa using hsee
      rw [hn hsee']
      clear hy hn HI HK hsee
      go_enter Tryz.func131, Tryz.ntmps131
      go_wp2_with fail
      refine (HD.out g hR).mono ?_
      rintro e w1 ⟨v1, rfl, ho1, hR1, hO1⟩
      have hne := own_rdr_ne ho1 hR1 hT
      go_wp2_with fail
      refine (take_no g T s r1.2 62 _ _ hR1 (by omega) (by omega) rfl hsee').mono ?_
      rintro e w2 ⟨rfl, hR2, hO2⟩
      go_wp2_with fail
      go_ret
      exact ⟨_, rfl, ho1.only hO2 hne, hR2, hO1.trans hO2⟩

end Go.Proofs.YtefkgomecpnpbaaGreat

/- The program's reader: the two lowest levels. -/
namespace Go.Proofs.YtefkgomecpnpbaaGreat
open Go.RowKit
open Fm (Nd)

/-- The range over the letters, at a block of the call's own. -/
def letters : ByteArray := ⟨#[112, 113, 114, 115, 116, 117]⟩
theorem only_iterAt {g k : Nat} {a b : World} (h : Only g a b) (hk : a.heap.size ≤ k) (s : ByteArray) (p : Nat) : Only g a (b.iterAt k s p) :=
  ⟨h.os, h.tape, h.output, by rw [Lib.iterAt_size]; exact h.size, fun i hi hne => (Lib.iterAt_other b k i s p (by omega)).trans (World.grownBy.block h i hi hne)⟩
theorem Rdr.iterAt {w : World} {g T k : Nat} {s : ByteArray} {st : Fm.St} (h : Rdr w g T s st) (hk : g ≠ k) (x : ByteArray) (p : Nat) : Rdr (w.iterAt k x p) g T s st := (Lib.iterAt_other w k g x p hk).trans h

theorem next_letter {P : Program} (w : World) (k i : Nat) (ty : TypeId) (hk : w.heap[k]? = some (.stringIter letters i)) (hi : i < 6) :
    (Instr.next (.pointer (some ⟨k, 0, none⟩)) true ty).run P w = .ok (.tuple #[.bool true, .int .i64 i, .int .i32 (112 + (i : Int))]) (w.iterAt k letters (i + 1)) := by
  have h6 : i = 0 ∨ i = 1 ∨ i = 2 ∨ i = 3 ∨ i = 4 ∨ i = 5 := by omega
  rcases h6 with rfl | rfl | rfl | rfl | rfl | rfl <;> exact Lib.run_next_ascii_at w k letters _ ty hk (by decide) (by decide)
theorem letter_byte {i : Nat} (hi : i < 6) : 112 + (i : Int) = ((UInt8.ofNat (112 + i)).toNat : Int) := by
  rw [UInt8.toNat_ofNat']; omega

theorem atom_c (T : TypeId) (hT : 45 ≠ T) (s : ByteArray) (f m : Nat) (hs : s.size ≤ 1048576)
    (himp : Sub 131 T s f (Fm.impF s.data.toList m (Fm.preF s.data.toList m f) m)) (g : Nat) (st : Fm.St) (w : World) (hR : Rdr w g T s st) (hat : st.1 ≤ s.size) (hfu : s.size - st.1 < f + 1)
    (h126 : Fm.sees s.data.toList st 126 = false) (h91 : Fm.sees s.data.toList st 91 = false) (h60 : Fm.sees s.data.toList st 60 = false) :
    Calls Tryz.prog 171 #[.pointer (some ⟨g, 0, none⟩)] w (Reads w g T s (Fm.preF s.data.toList m (f + 1) st)) := by
  have HI := Lib.hid himp
  have HZ := Lib.hid (size_toList s)
  clear himp
  by_cases h70 : Fm.sees s.data.toList st 70 = true
  · rw [Fm.preF_fls h70]
    go_enter Tryz.func171, Tryz.ntmps171
    go_wp2_with fail
    refine (take_yes g T s st 70 _ _ hR (by omega) hat rfl h70).mono ?_
    rintro e w1 ⟨rfl, hR1, hO1⟩
    go_wp2_with fail
    refine (falsum_c _).mono ?_
    rintro e w2 ⟨v2, rfl, ho2, hg2⟩
    go_wp2_with fail
    go_ret
    exact ⟨_, rfl, ho2.base hO1.size, hR1.grew hg2, hO1.grew hg2⟩
  have h70' : Fm.sees s.data.toList st 70 = false := by simpa using h70
  by_cases h84 : Fm.sees s.data.toList st 84 = true
  · rw [Fm.preF_tru h84]
    clear h70
    go_enter Tryz.func171, Tryz.ntmps171
    go_wp2_with fail
    refine (take_no g T s st 70 _ _ hR (by omega) hat rfl h70').mono ?_
    rintro e w1 ⟨rfl, hR1, hO1⟩
    go_wp2_with fail
    refine (take_yes g T s st 84 _ _ hR1 (by omega) hat rfl h84).mono ?_
    rintro e w2 ⟨rfl, hR2, hO2⟩
    go_wp2_with fail
    refine (truth_c _).mono ?_
    rintro e w3 ⟨v3, rfl, ho3, hg3⟩
    go_wp2_with fail
    go_ret
    exact ⟨_, rfl, ho3.base (Nat.le_trans hO1.size hO2.size), hR2.grew hg3, (hO1.trans hO2).grew hg3⟩
  have h84' : Fm.sees s.data.toList st 84 = false := by simpa using h84
  clear h70 h84
  by_cases h40 : Fm.sees s.data.toList st 40 = true
  · rw [Fm.preF_par h40]
    have hlt := Fm.sees_lt h40
    rw [HZ.out] at hlt
    have hk : Fm.Ok s.data.toList (Fm.step st) (Fm.impF s.data.toList m (Fm.preF s.data.toList m f) m (Fm.step st)) := Fm.impF_ok (fun st h => Fm.preF_ok f st h) m (Fm.step st) (by rw [HZ.out]; exact hlt)
    have e1 : (Fm.step st).1 = st.1 + 1 := rfl
    obtain ⟨k1, k2, k3⟩ := hk
    rw [HZ.out] at k2
    rw [e1] at k1 k3
    have hq := HI.out g (Fm.step st)
    rw [e1] at hq
    have HQ := Lib.hid hq
    clear hq e1 HI
    generalize Fm.impF s.data.toList m (Fm.preF s.data.toList m f) m (Fm.step st) = r at *
    go_enter Tryz.func171, Tryz.ntmps171
    go_wp2_with fail
    refine (take_no g T s st 70 _ _ hR (by omega) hat rfl h70').mono ?_
    rintro e w1 ⟨rfl, hR1, hO1⟩
    go_wp2_with fail
    refine (take_no g T s st 84 _ _ hR1 (by omega) hat rfl h84').mono ?_
    rintro e w2 ⟨rfl, hR2, hO2⟩
    go_wp2_with fail
    refine (take_yes g T s st 40 _ _ hR2 (by omega) hat rfl h40).mono ?_
    rintro e w3 ⟨rfl, hR3, hO3⟩
    go_wp2_with fail
    refine (HQ.out _ hR3 (by omega) (by omega)).mono ?_
    rintro e w4 ⟨v4, rfl, ho4, hR4, hO4⟩
    have hne := own_rdr_ne ho4 hR4 hT
    go_wp2_with fail
    refine (need_c g T s r.2 41 _ _ hR4 (by omega) (by omega) rfl).mono ?_
    rintro e w5 ⟨rfl, hR5, hO5⟩
    go_wp2_with fail
    go_ret
    exact ⟨_, rfl, (ho4.only hO5 hne).base (by have := hO1.size; have := hO2.size; have := hO3.size; omega), hR5, (((hO1.trans hO2).trans hO3).trans hO4).trans hO5⟩
  have h40' : Fm.sees s.data.toList st 40 = false := by simpa using h40
  clear h40 HI
  cases hl : Fm.letter s.data.toList st with
  | some v =>
    rw [Fm.preF_var hl]
    have hv := (Fm.letter_some hl).1
    have hvs := (Fm.letter_some hl).2
    have hno := fun i hi hne => @Fm.letter_ne s.data.toList st v i hl hi hne
    have HN := Lib.hid hno
    clear hno hl
    go_enter Tryz.func171, Tryz.ntmps171
    go_wp2_with fail
    refine (take_no g T s st 70 _ _ hR (by omega) hat rfl h70').mono ?_
    rintro e w1 ⟨rfl, hR1, hO1⟩
    go_wp2_with fail
    refine (take_no g T s st 84 _ _ hR1 (by omega) hat rfl h84').mono ?_
    rintro e w2 ⟨rfl, hR2, hO2⟩
    go_wp2_with fail
    refine (take_no g T s st 40 _ _ hR2 (by omega) hat rfl h40').mono ?_
    rintro e w3 ⟨rfl, hR3, hO3⟩
    go_wp2_with fail
    have hit := World.iter_heap w3 letters 0
    have hR4 : Rdr (w3.iter letters 0) g T s st := hR3.grew ((Grew.refl w3).alloc _)
    have hO4 : Only g w (w3.iter letters 0) := ((hO1.trans hO2).trans hO3).alloc _
    have hgk : g ≠ w3.heap.size := by have := hR3.lt; omega
    have hk : w.heap.size ≤ w3.heap.size := ((hO1.trans hO2).trans hO3).size
    have HW := Lib.hid hit
    clear hit hR3 hO3 hR2 hO2 hR1 hO1
    go_loopg [4, 5] 6 (fun n _ _ wr => ∃ i : Nat, n = 6 - i ∧ i ≤ v ∧ Rdr wr g T s st ∧ Only g w wr ∧ Hid (wr.heap[w3.heap.size]? = some (.stringIter letters i)))
    case atStart => exact ⟨0, rfl, Nat.zero_le _, hR4, hO4, HW.out⟩
    case round =>
      obtain ⟨i, rfl, hiv, hRr, hOr, HX⟩ := hrel
      have hnx := fun ty => next_letter (P := Tryz.prog) wr w3.heap.size i ty HX.out (by omega)
      have HY : Hid ((wr.iterAt w3.heap.size letters (i + 1)).heap[w3.heap.size]? = some (.stringIter letters (i + 1))) := Lib.hid (Lib.iterAt_heap wr w3.heap.size letters i (i + 1) HX.out)
      have hR5 := hRr.iterAt hgk letters (i + 1)
      have hO5 := only_iterAt hOr hk letters (i + 1)
      by_cases hiv2 : i = v
      · subst hiv2
        go_wp2_with fail
        refine (take_yes g T s st _ _ _ hR5 (by omega) hat (letter_byte (by omega)) hvs).mono ?_
        rintro e w4 ⟨rfl, hR6, hO6⟩
        go_wp2_with fail
        refine (variable_c _ _).mono ?_
        rintro e w5 ⟨v5, rfl, ho5, hg5⟩
        go_wp2_with fail
        go_ret
        exact ⟨_, rfl, ho5.base (hO5.trans hO6).size, hR6.grew hg5, (hO5.trans hO6).grew hg5⟩
      · have hs0 := HN.out i (by omega) hiv2
        go_wp2_with fail
        refine (take_no g T s st _ _ _ hR5 (by omega) hat (letter_byte (by omega)) hs0).mono ?_
        rintro e w4 ⟨rfl, hR6, hO6⟩
        have HV : Hid (w4.heap[w3.heap.size]? = some (.stringIter letters (i + 1))) := Lib.hid ((hO6.block (blk_lt HY.out) (Ne.symm hgk)).trans HY.out)
        go_wp2_with fail
        go_roundg (6 - (i + 1))
        case measure => omega
        case rel => exact ⟨i + 1, rfl, by omega, hR6, hO5.trans hO6, HV⟩
  | none =>
    rw [Fm.preF_bad h126 h91 h60 h70' h84' h40' hl]
    have hno := fun i hi => @Fm.letter_none s.data.toList st hl i hi
    have HN := Lib.hid hno
    clear hno hl
    go_enter Tryz.func171, Tryz.ntmps171
    go_wp2_with fail
    refine (take_no g T s st 70 _ _ hR (by omega) hat rfl h70').mono ?_
    rintro e w1 ⟨rfl, hR1, hO1⟩
    go_wp2_with fail
    refine (take_no g T s st 84 _ _ hR1 (by omega) hat rfl h84').mono ?_
    rintro e w2 ⟨rfl, hR2, hO2⟩
    go_wp2_with fail
    refine (take_no g T s st 40 _ _ hR2 (by omega) hat rfl h40').mono ?_
    rintro e w3 ⟨rfl, hR3, hO3⟩
    go_wp2_with fail
    have hit := World.iter_heap w3 letters 0
    have hR4 : Rdr (w3.iter letters 0) g T s st := hR3.grew ((Grew.refl w3).alloc _)
    have hO4 : Only g w (w3.iter letters 0) := ((hO1.trans hO2).trans hO3).alloc _
    have hgk : g ≠ w3.heap.size := by have := hR3.lt; omega
    have hk : w.heap.size ≤ w3.heap.size := ((hO1.trans hO2).trans hO3).size
    have HW := Lib.hid hit
    clear hit hR3 hO3 hR2 hO2 hR1 hO1
    go_loopg [4, 5] 7 (fun n _ _ wr => ∃ i : Nat, n = 7 - i ∧ i ≤ 6 ∧ Rdr wr g T s st ∧ Only g w wr ∧ Hid (wr.heap[w3.heap.size]? = some (.stringIter letters i)))
    case atStart => exact ⟨0, rfl, Nat.zero_le _, hR4, hO4, HW.out⟩
    case round =>
      obtain ⟨i, rfl, hiv, hRr, hOr, HX⟩ := hrel
      by_cases hi6 : i < 6
      · have hnx := fun ty => next_letter (P := Tryz.prog) wr w3.heap.size i ty HX.out hi6
        have HY : Hid ((wr.iterAt w3.heap.size letters (i + 1)).heap[w3.heap.size]? = some (.stringIter letters (i + 1))) := Lib.hid (Lib.iterAt_heap wr w3.heap.size letters i (i + 1) HX.out)
        have hR5 := hRr.iterAt hgk letters (i + 1)
        have hO5 := only_iterAt hOr hk letters (i + 1)
        have hs0 := HN.out i hi6
        go_wp2_with fail
        refine (take_no g T s st _ _ _ hR5 (by omega) hat (letter_byte hi6) hs0).mono ?_
        rintro e w4 ⟨rfl, hR6, hO6⟩
        have HV : Hid (w4.heap[w3.heap.size]? = some (.stringIter letters (i + 1))) := Lib.hid ((hO6.block (blk_lt HY.out) (Ne.symm hgk)).trans HY.out)
        go_wp2_with fail
        go_roundg (7 - (i + 1))
        case measure => omega
        case rel => exact ⟨i + 1, rfl, by omega, hR6, hO5.trans hO6, HV⟩
      · have hi66 : i = 6 := by omega
        subst hi66
        have hnx := fun ty => Lib.run_next_end_at (P := Tryz.prog) wr w3.heap.size letters 6 ty HX.out (by decide)
        have c2 := hRr.bad
        have hf := hRr.free 2
        go_wp2_with fail
        refine (falsum_c _).mono ?_
        rintro e w5 ⟨v5, rfl, ho5, hg5⟩
        go_wp2_with fail
        go_ret
        exact ⟨_, rfl, ho5.base (hOr.setCell _).size, hRr.spoil.grew hg5, (hOr.setCell _).grew hg5⟩

theorem prefix_sub (T : TypeId) (hT : 45 ≠ T) (s : ByteArray) (m : Nat) (hs : s.size ≤ 1048576) (hm : s.size < m) : ∀ f, f ≤ m → Sub 168 T s f (Fm.preF s.data.toList m f) := by
  intro f
  induction f with
  | zero => intro _ g st w _ _ h; omega
  | succ f ih =>
    intro hfm g st w hR hat hfu
    have hp := ih (by omega)
    have hok : ∀ st : Fm.St, st.1 ≤ s.data.toList.length → Fm.Ok s.data.toList st (Fm.preF s.data.toList m f st) := fun st h => Fm.preF_ok f st h
    have hand := and_c T hT s f m _ hs hm hok hp
    have hor := or_c T hT s f m _ hs hm (fun st h => Fm.andF_ok (m := m) hok st h) hand
    have himp := imply_c T hT s f m _ hs hok hor m
    have HA := Lib.hid (fun g st w h1 h2 h3 => atom_c T hT s f m hs (fun g st w h1 h2 h3 => himp g st w h1 h2 (by omega) h3) g st w h1 h2 h3)
    have HP := Lib.hid hp
    have HZ := Lib.hid (size_toList s)
    have HK := Lib.hid hok
    clear ih hp hand hor himp hok
    by_cases h126 : Fm.sees s.data.toList st 126 = true
    · rw [Fm.preF_not h126]
      have hlt := Fm.sees_lt h126
      rw [HZ.out] at hlt
      have e1 : (Fm.step st).1 = st.1 + 1 := rfl
      obtain ⟨k1, k2, k3⟩ := HK.out (Fm.step st) (by rw [HZ.out]; exact hlt)
      rw [HZ.out] at k2
      rw [e1] at k1 k3
      have hq := HP.out g (Fm.step st)
      rw [e1] at hq
      have HQ := Lib.hid hq
      clear hq e1 HA HK HP
      generalize Fm.preF s.data.toList m f (Fm.step st) = r at *
      go_enter Tryz.func168, Tryz.ntmps168
      go_wp2_with fail
      refine (take_yes g T s st 126 _ _ hR (by omega) hat rfl h126).mono ?_
      rintro e w1 ⟨rfl, hR1, hO1⟩
      go_wp2_with fail
      refine (HQ.out _ hR1 (by omega) (by omega)).mono ?_
      rintro e w2 ⟨v2, rfl, ho2, hR2, hO2⟩
      go_wp2_with fail
      refine (negation_c _ r.1 _ ho2.nodes (by omega)).mono ?_
      rintro e w3 ⟨v3, rfl, ho3, hg3⟩
      go_wp2_with fail
      go_ret
      exact ⟨_, rfl, ho3.base (hO1.trans hO2).size, hR2.grew hg3, (hO1.trans hO2).grew hg3⟩
    have h126' : Fm.sees s.data.toList st 126 = false := by simpa using h126
    clear h126
    by_cases h91 : Fm.sees s.data.toList st 91 = true
    · rw [Fm.preF_box h91]
      have hlt := Fm.sees_lt h91
      rw [HZ.out] at hlt
      have e1 : (Fm.step st).1 = st.1 + 1 := rfl
      have hn := Fm.need_pos (s := s.data.toList) (st := Fm.step st) (c := 93) (by rw [HZ.out, e1]; exact hlt)
      rw [HZ.out, e1] at hn
      obtain ⟨n1, n2⟩ := hn
      obtain ⟨k1, k2, k3⟩ := HK.out (Fm.need s.data.toList (Fm.step st) 93) (by rw [HZ.out]; exact n2)
      rw [HZ.out] at k2
      have HQ := Lib.hid (HP.out g (Fm.need s.data.toList (Fm.step st) 93))
      have hat1 : (Fm.step st).1 ≤ s.size := by rw [e1]; omega
      clear e1 HA HK HP
      go_enter Tryz.func168, Tryz.ntmps168
      go_wp2_with fail
      refine (take_no g T s st 126 _ _ hR (by omega) hat rfl h126').mono ?_
      rintro e w1 ⟨rfl, hR1, hO1⟩
      go_wp2_with fail
      refine (take_yes g T s st 91 _ _ hR1 (by omega) hat rfl h91).mono ?_
      rintro e w2 ⟨rfl, hR2, hO2⟩
      go_wp2_with fail
      refine (need_c g T s (Fm.step st) 93 _ _ hR2 (by omega) hat1 rfl).mono ?_
      rintro e w3 ⟨rfl, hR3, hO3⟩
      generalize Fm.need s.data.toList (Fm.step st) 93 = st2 at *
      generalize Fm.preF s.data.toList m f st2 = r at *
      go_wp2_with fail
      refine (HQ.out _ hR3 (by omega) (by omega)).mono ?_
      rintro e w4 ⟨v4, rfl, ho4, hR4, hO4⟩
      go_wp2_with fail
      refine (prefix_c 5 _ r.1 _ ho4.nodes (by omega)).mono ?_
      rintro e w5 ⟨v5, rfl, ho5, hg5⟩
      go_wp2_with fail
      go_ret
      exact ⟨_, rfl, ho5.base (((hO1.trans hO2).trans hO3).trans hO4).size, hR4.grew hg5, (((hO1.trans hO2).trans hO3).trans hO4).grew hg5⟩
    have h91' : Fm.sees s.data.toList st 91 = false := by simpa using h91
    clear h91
    by_cases h60 : Fm.sees s.data.toList st 60 = true
    · rw [Fm.preF_dia h60]
      have hlt := Fm.sees_lt h60
      rw [HZ.out] at hlt
      have e1 : (Fm.step st).1 = st.1 + 1 := rfl
      have hn := Fm.need_pos (s := s.data.toList) (st := Fm.step st) (c := 62) (by rw [HZ.out, e1]; exact hlt)
      rw [HZ.out, e1] at hn
      obtain ⟨n1, n2⟩ := hn
      obtain ⟨k1, k2, k3⟩ := HK.out (Fm.need s.data.toList (Fm.step st) 62) (by rw [HZ.out]; exact n2)
      rw [HZ.out] at k2
      have HQ := Lib.hid (HP.out g (Fm.need s.data.toList (Fm.step st) 62))
      have hat1 : (Fm.step st).1 ≤ s.size := by rw [e1]; omega
      clear e1 HA HK HP
      go_enter Tryz.func168, Tryz.ntmps168
      go_wp2_with fail
      refine (take_no g T s st 126 _ _ hR (by omega) hat rfl h126').mono ?_
      rintro e w1 ⟨rfl, hR1, hO1⟩
      go_wp2_with fail
      refine (take_no g T s st 91 _ _ hR1 (by omega) hat rfl h91').mono ?_
      rintro e w11 ⟨rfl, hR11, hO11⟩
      go_wp2_with fail
      refine (take_yes g T s st 60 _ _ hR11 (by omega) hat rfl h60).mono ?_
      rintro e w2 ⟨rfl, hR2, hO2⟩
      go_wp2_with fail
      refine (need_c g T s (Fm.step st) 62 _ _ hR2 (by omega) hat1 rfl).mono ?_
      rintro e w3 ⟨rfl, hR3, hO3⟩
      generalize Fm.need s.data.toList (Fm.step st) 62 = st2 at *
      generalize Fm.preF s.data.toList m f st2 = r at *
      go_wp2_with fail
      refine (HQ.out _ hR3 (by omega) (by omega)).mono ?_
      rintro e w4 ⟨v4, rfl, ho4, hR4, hO4⟩
      go_wp2_with fail
      refine (prefix_c 6 _ r.1 _ ho4.nodes (by omega)).mono ?_
      rintro e w5 ⟨v5, rfl, ho5, hg5⟩
      go_wp2_with fail
      go_ret
      exact ⟨_, rfl, ho5.base ((((hO1.trans hO11).trans hO2).trans hO3).trans hO4).size, hR4.grew hg5, ((((hO1.trans hO11).trans hO2).trans hO3).trans hO4).grew hg5⟩
    have h60' : Fm.sees s.data.toList st 60 = false := by simpa using h60
    clear h60 HK HP
    have HQ := Lib.hid (fun w hR => HA.out g st w hR hat hfu h126' h91' h60')
    clear HA
    generalize Fm.preF s.data.toList m (f + 1) st = r at *
    go_enter Tryz.func168, Tryz.ntmps168
    go_wp2_with fail
    refine (take_no g T s st 126 _ _ hR (by omega) hat rfl h126').mono ?_
    rintro e w1 ⟨rfl, hR1, hO1⟩
    go_wp2_with fail
    refine (take_no g T s st 91 _ _ hR1 (by omega) hat rfl h91').mono ?_
    rintro e w2 ⟨rfl, hR2, hO2⟩
    go_wp2_with fail
    refine (take_no g T s st 60 _ _ hR2 (by omega) hat rfl h60').mono ?_
    rintro e w3 ⟨rfl, hR3, hO3⟩
    go_wp2_with fail
    refine (HQ.out _ hR3).mono ?_
    rintro e w4 ⟨v4, rfl, ho4, hR4, hO4⟩
    go_wp2_with fail
    go_ret
    exact ⟨_, rfl, ho4.base ((hO1.trans hO2).trans hO3).size, hR4, ((hO1.trans hO2).trans hO3).trans hO4⟩

/-- The program's reader at a text's beginning. -/
theorem imply_top (T : TypeId) (hT : 45 ≠ T) (s : ByteArray) (m : Nat) (hs : s.size ≤ 1048576) (hm : s.size < m) (g : Nat) (w : World) (hR : Rdr w g T s (0, false)) :
    Calls Tryz.prog 131 #[.pointer (some ⟨g, 0, none⟩)] w (Reads w g T s (Fm.parse s.data.toList m)) := by
  have hok : ∀ st : Fm.St, st.1 ≤ s.data.toList.length → Fm.Ok s.data.toList st (Fm.preF s.data.toList m m st) := fun st h => Fm.preF_ok m st h
  have hand := and_c T hT s m m _ hs hm hok (prefix_sub T hT s m hs hm m (Nat.le_refl _))
  have hor := or_c T hT s m m _ hs hm (fun st h => Fm.andF_ok (m := m) hok st h) hand
  exact imply_c T hT s m m _ hs hok hor m g (0, false) w hR (by simp) (by simpa using hm) (by simpa using hm)
end Go.Proofs.YtefkgomecpnpbaaGreat
