/- Words for memory: what a call leaves as it was, a slice that reads as a row of cells, an append onto a row of the call's own. No program is in sight. -/
import Derived.WalkKit
import Derived.WalkSpells
import Derived.WalkLawsBesides
import Derived.Lib.Hide
import Derived.Deep.Draws
import Derived.Deep.AppendLies
import Derived.Maps.AppendAt
import Derived.Lib.AppendZerosOnto
namespace Go.Proofs.YthofkdpmgjkgkaaGreat
open Go.RowKit

/-- Nothing that was there has changed; there may be new blocks. -/
def Grew (a b : World) : Prop := Below a.heap.size a b
theorem Grew.refl (w : World) : Grew w w := Below.refl _ _
theorem Grew.size {a b : World} (h : Grew a b) : a.heap.size ≤ b.heap.size := Below.size h
theorem Grew.trans {a b c : World} (h : Grew a b) (k : Grew b c) : Grew a c := Below.trans h (Below.mono k (Below.size h))
theorem Grew.drew {a b : World} (h : Grew a b) : Grew a b.drew := Below.drew h
theorem Grew.drewN {a b : World} (h : Grew a b) (n : Nat) : Grew a (b.drewN n) := ⟨h.os, h.tape, h.output, h.size, h.block⟩
theorem Grew.alloc {a b : World} (h : Grew a b) (o : Obj) : Grew a (b.alloc o) := Below.alloc h (Below.size h) o
theorem Grew.of_drew {a b : World} (h : Grew a.drew b) : Grew a b := ⟨h.os, h.tape, h.output, h.size, h.block⟩
theorem Grew.of_drewN {a b : World} {n : Nat} (h : Grew (a.drewN n) b) : Grew a b := ⟨h.os, h.tape, h.output, h.size, h.block⟩
theorem Grew.of_alloc {a b : World} {o : Obj} (h : Grew (a.alloc o) b) : Grew a b := ((Grew.refl a).alloc o).trans h
theorem Grew.setCell {a b : World} (h : Grew a b) {p : Addr} (hp : a.heap.size ≤ p.block) (u : Value) : Grew a (b.setCell p u) := Below.setCell h hp u
theorem Grew.cell {a b : World} (h : Grew a b) {p : Addr} (hp : p.block < a.heap.size) : b.cell? p = a.cell? p := Below.cell h hp
theorem Grew.block {a b : World} (h : Grew a b) {k : Nat} (hp : k < a.heap.size) : b.heap[k]? = a.heap[k]? := Below.block h k hp
theorem Grew.grown {a b c : World} {row : Option Nat} (h : Grew a b) (hg : b.grownBy c row) (hr : ∀ k, row = some k → a.heap.size ≤ k) : Grew a c := Below.grown h hg (Below.size h) hr
theorem Grew.by_ {a b : World} (h : Grew a b) (row : Option Nat) : a.grownBy b row := ⟨h.os, h.tape, h.output, h.size, fun i hi _ => h.block hi⟩
theorem Grew.below {a b : World} (h : Grew a b) : Below a.heap.size a b := h

/-- Of what was there block g alone may have changed. -/
def Only (g : Nat) (a b : World) : Prop := a.grownBy b (some g)
theorem Only.refl (g : Nat) (w : World) : Only g w w := World.grownBy.refl w _
theorem Only.size {g : Nat} {a b : World} (h : Only g a b) : a.heap.size ≤ b.heap.size := World.grownBy.size h
theorem Only.trans {g : Nat} {a b c : World} (h : Only g a b) (k : Only g b c) : Only g a c := World.grownBy.trans h k
theorem Only.drew {g : Nat} {a b : World} (h : Only g a b) : Only g a b.drew := ⟨h.os, h.tape, h.output, h.size, h.block⟩
theorem Only.drewN {g : Nat} {a b : World} (h : Only g a b) (n : Nat) : Only g a (b.drewN n) := ⟨h.os, h.tape, h.output, h.size, h.block⟩
theorem Grew.only {g : Nat} {a b : World} (h : Grew a b) : Only g a b := h.by_ _
theorem Only.grew {g : Nat} {a b c : World} (h : Only g a b) (k : Grew b c) : Only g a c := Only.trans h k.only
theorem Only.alloc {g : Nat} {a b : World} (h : Only g a b) (o : Obj) : Only g a (b.alloc o) := h.grew ((Grew.refl b).alloc o)
theorem Only.setCell {g o : Nat} {a b : World} (h : Only g a b) (u : Value) : Only g a (b.setCell ⟨g, o, none⟩ u) :=
  ⟨h.os, h.tape, h.output, by simpa [World.setCell] using h.size, fun _ hi hne => (Below.heap_setCell b ⟨g, o, none⟩ u _ (by rintro rfl; exact hne rfl)).trans (World.grownBy.block h _ hi hne)⟩
theorem Only.block {g : Nat} {a b : World} (h : Only g a b) {k : Nat} (hk : k < a.heap.size) (hne : k ≠ g) : b.heap[k]? = a.heap[k]? :=
  World.grownBy.block h k hk (fun e => hne (by injection e))
theorem Only.cell {g : Nat} {a b : World} (h : Only g a b) {p : Addr} (hk : p.block < a.heap.size) (hne : p.block ≠ g) : b.cell? p = a.cell? p :=
  World.cell?_of_block (h.block hk hne)
/-- Where the block is newer than a, nothing of a has changed. -/
theorem Only.grew_of {g : Nat} {a b c : World} (h : Only g b c) (k : Grew a b) (hg : a.heap.size ≤ g) : Grew a c :=
  ⟨h.os.trans k.os, h.tape.trans k.tape, h.output.trans k.output, Nat.le_trans k.size h.size, fun i hi => (h.block (Nat.lt_of_lt_of_le hi k.size) (by omega)).trans (k.block hi)⟩

/-- The slice value v has n elements of k cells each, which hold xs. -/
def Rd (w : World) (k : Nat) (v : Value) (n : Nat) (xs : List Value) : Prop :=
  xs.length = n * k ∧ n ≤ 9223372036854775807 ∧
  ((v = .slice none 0 0 ∧ n = 0) ∨ ∃ b o c, v = .slice (some ⟨b, o, none⟩) n c ∧ n ≤ c ∧ c ≤ 9223372036854775807 ∧ b < w.heap.size ∧ ∀ j u, xs[j]? = some u → w.cell? ⟨b, o + j, none⟩ = some u)

theorem Rd.grew {w w' : World} {k n : Nat} {v : Value} {xs : List Value} (h : Rd w k v n xs) (hb : Grew w w') : Rd w' k v n xs := by
  obtain ⟨h1, h2, h3⟩ := h
  refine ⟨h1, h2, ?_⟩
  rcases h3 with h3 | ⟨b, o, c, rfl, h4, h5, h6, h7⟩
  · exact .inl h3
  · exact .inr ⟨b, o, c, rfl, h4, h5, Nat.lt_of_lt_of_le h6 hb.size, fun j u hu => (hb.cell (p := ⟨b, o + j, none⟩) h6).trans (h7 j u hu)⟩

theorem Rd.nil_ (w : World) (k : Nat) : Rd w k (.slice none 0 0) 0 [] := ⟨by simp, by omega, .inl ⟨rfl, rfl⟩⟩

theorem Rd.of_own {w : World} {base : Nat} {e : TypeId} {k n : Nat} {v : Value} {xs : List Value} (h : w.ownsRow base e k v n xs) : Rd w k v n xs := by
  obtain ⟨h1, h2⟩ := h
  rcases h2 with ⟨rfl, rfl⟩ | ⟨g, cap, cur, rfl, hb, hg, hnc, hcm, hcs, ht⟩
  · exact ⟨h1, by omega, .inl ⟨rfl, rfl⟩⟩
  · refine ⟨h1, Nat.le_trans hnc hcm, .inr ⟨g, 0, cap, rfl, hnc, hcm, (Array.getElem?_eq_some_iff.1 hg).1, fun j u hu => ?_⟩⟩
    rw [Nat.zero_add, cell_of_row w g j cur e (0, 0) hg]
    rw [← ht, List.getElem?_take] at hu
    split at hu
    · simpa using hu
    · cases hu

/-- An append of what reads as a row, nil or not, onto a row of the call's own. -/
theorem wpList_append_rd {P : Program} (w : World) {ops : Array Oper} {rest : List Oper} {o : Oper} {a : Act} {Q : Exit → Act → World → Prop} (hgd : o.guard = none) (s x : Operand) (t : TypeId)
    (ho : o.op = .call { callee := .builtin .append, args := #[s, x], argTypes := #[t, t] })
    (base : Nat) (e : TypeId) (i : TypeInfo) (z : Value) (size bytes : Nat) (ht : P.underlying t = some (.slice e)) (hi : P.info? e = some i) (hz : i.zero = some z)
    (hsize : i.size = size) (hby : i.bytes = bytes) (hzs : z.cells.size = size) (hsz : 0 < size)
    (v : Value) (n : Nat) (xs : List Value) (hs : a.eval s = v) (hown : w.ownsRow base e size v n xs)
    (vx : Value) (m : Nat) (news : List Value) (hx : a.eval x = vx) (hr : Rd w size vx m news) (h1 : ∀ u ∈ news, u.oneCell' = true)
    (h63 : n + m ≤ maxLen) (hbytes : (n + m) * bytes ≤ 140737488355328) (hbase : base ≤ w.heap.size)
    (h : ∀ v' w', w'.ownsRow base e size v' (n + m) (xs ++ news) → w.grownBy w' v.ownBlock → (v'.ownBlock = v.ownBlock ∨ v'.ownBlock = some w.heap.size) → wpList P ops Q rest (a.put o.dst v') w') :
    wpList P ops Q (o :: rest) a w := by
  obtain ⟨hl, _, hr⟩ := hr
  rcases hr with ⟨rfl, rfl⟩ | ⟨b, of, c, rfl, _, _, _, hc⟩
  · have hnews : news = [] := List.eq_nil_of_length_eq_zero (by simpa using hl)
    subst hnews
    refine wpList_plain hgd fun K hK => ?_
    have hrun := run_append_owned_none (P := P) w base t o.type e i size ht hi v n xs hown
    unfold Oper.wp execOp
    simp only [ho, resolve, invoke, builtin, Sem.run_bind, Sem.run_pure, Result.andThen_ok, List.map_toArray, List.map_cons, List.map_nil, hs, hx, hrun]
    exact hK _ _ (h v w (by simpa using hown) (World.grownBy.refl _ _) (.inl rfl))
  · exact wpList_append_own_at w hgd s x t ho base e i z size bytes ht hi hz hsize hby hzs hsz v n xs hs hown ⟨b, of, none⟩ m c news hx hl (fun j u hu => by rw [Addr.add_lit]; exact hc j u hu) h1 h63 hbytes hbase fun v' w' h2 h3 _ h4 => h v' w' h2 h3 h4

/-- Of a row of the call's own nothing turns while another block is written. -/
theorem own_only {w w' : World} {base : Nat} {e : TypeId} {k n g : Nat} {v : Value} {xs : List Value} (h : w.ownsRow base e k v n xs) (hb : Only g w w') (hne : v.ownBlock ≠ some g) : w'.ownsRow base e k v n xs :=
  h.kept hb (.inr hne)
theorem own_grew {w w' : World} {base : Nat} {e : TypeId} {k n : Nat} {v : Value} {xs : List Value} (h : w.ownsRow base e k v n xs) (hb : Grew w w') : w'.ownsRow base e k v n xs :=
  h.kept (row := none) (hb.by_ _) (by cases hv : v.ownBlock <;> simp)
theorem own_base {w : World} {base base' : Nat} {e : TypeId} {k n : Nat} {v : Value} {xs : List Value} (h : w.ownsRow base e k v n xs) (hb : base' ≤ base) : w.ownsRow base' e k v n xs := by
  obtain ⟨h1, h2⟩ := h
  refine ⟨h1, ?_⟩
  rcases h2 with h2 | ⟨g, cap, cur, h3, h4, h5⟩
  · exact .inl h2
  · exact .inr ⟨g, cap, cur, h3, by omega, h5⟩
/-- A row of the call's own is no block of another element type. -/
theorem own_ne {w : World} {base : Nat} {e e' : TypeId} {k n g : Nat} {v : Value} {xs : List Value} {cs : Array Value} (h : w.ownsRow base e k v n xs) (hg : w.heap[g]? = some (.cells cs e' (0, 0))) (hne : e ≠ e') : v.ownBlock ≠ some g := by
  rcases h.2 with ⟨rfl, _⟩ | ⟨g', cap, cur, rfl, _, hh, _⟩
  · simp [Value.ownBlock]
  · intro he
    have : g' = g := by simpa [Value.ownBlock] using he
    subst this
    rw [hh] at hg
    injection hg with hg
    injection hg with _ ht
    exact hne ht
theorem own_of_ge {w : World} {base g : Nat} {e : TypeId} {k n : Nat} {v : Value} {xs : List Value} (h : w.ownsRow base e k v n xs) (hv : v.ownBlock = some g) : base ≤ g := (h.lt g hv).1
/-- Two rows of the call's own, one newer than the other's world. -/
theorem own_new_ne {w w' : World} {base : Nat} {e e' : TypeId} {k n k' n' : Nat} {v v' : Value} {xs xs' : List Value} (h : w.ownsRow base e k v n xs) (h' : w'.ownsRow w.heap.size e' k' v' n' xs') (g : Nat) (hg : v'.ownBlock = some g) : v.ownBlock ≠ some g := by
  intro hv
  have h1 := (h.lt g hv).2
  have h2 := (h'.lt g hg).1
  omega

/-- A store into a block that is known whole. -/
theorem blk_set {w : World} {g : Nat} {t : TypeId} {cs : Array Value} (h : w.heap[g]? = some (.cells cs t (0, 0))) (i : Nat) (u : Value) : (w.setCell ⟨g, i, none⟩ u).heap[g]? = some (.cells (cs.setIfInBounds i u) t (0, 0)) := by
  simp [World.setCell, Array.getElem?_modify, h]
theorem blk_frozen {w : World} {g : Nat} {t : TypeId} {cs : Array Value} (h : w.heap[g]? = some (.cells cs t (0, 0))) (i : Nat) : w.frozen? ⟨g, i, none⟩ = false := by simp [World.frozen?, h]
theorem blk_cell {w : World} {g : Nat} {t : TypeId} {cs : Array Value} (h : w.heap[g]? = some (.cells cs t (0, 0))) (i : Nat) : w.cell? ⟨g, i, none⟩ = cs[i]? := cell_of_row w g i cs t (0, 0) h
theorem blk_lt {w : World} {g : Nat} {o : Obj} (h : w.heap[g]? = some o) : g < w.heap.size := (Array.getElem?_eq_some_iff.1 h).1
theorem blk_new (w : World) (o : Obj) : (w.alloc o).heap[w.heap.size]? = some o := heap_alloc_new w o
/-- Two cells of an array are written: the pairs below stay, the new pair stands there. -/
theorem pair_step {cur : Array Value} {F G : Nat → Value} {j : Nat} (hs : j * 2 + 1 < cur.size) (h : ∀ i, i < j → cur[i * 2]? = some (F i) ∧ cur[i * 2 + 1]? = some (G i)) :
    ∀ i, i < j + 1 → ((cur.setIfInBounds (j * 2) (F j)).setIfInBounds (j * 2 + 1) (G j))[i * 2]? = some (F i) ∧ ((cur.setIfInBounds (j * 2) (F j)).setIfInBounds (j * 2 + 1) (G j))[i * 2 + 1]? = some (G i) := by
  intro i hi
  simp only [Array.getElem?_setIfInBounds, Array.size_setIfInBounds]
  rcases Nat.lt_or_ge i j with hk | hk
  · rw [if_neg (by omega), if_neg (by omega), if_neg (by omega), if_neg (by omega)]
    exact h i hk
  · obtain rfl : i = j := by omega
    rw [if_neg (by omega), if_pos rfl, if_pos (by omega), if_pos rfl, if_pos (by omega)]
    exact ⟨rfl, rfl⟩

/-- 'append([]T(nil), make([]T, n)...)', n not 0. -/
theorem run_grow_nil {P : Program} (w : World) (t tn ty e : TypeId) (i : TypeInfo) (z : Value) (size : Nat) (ht : P.underlying t = some (.slice e)) (htn : P.underlying tn = some (.int .i64)) (hi : P.info? e = some i) (hz : i.zero = some z) (hsize : i.size = size) (hzs : z.cells.size = size) (hs : 0 < size)
    (n : Nat) (h0 : 0 < n) (hb : n * i.bytes ≤ 140737488355328) (h63 : n ≤ 4611686018427387904) :
    ∃ G cs, n ≤ G ∧ G ≤ 9223372036854775807 ∧ cs.size = G * size ∧ (Builtin.append_ #[t, tn] ty #[.slice none 0 0, .int .i64 n]).run P w = .ok (.slice (some ⟨w.heap.size, 0, none⟩) n G) (w.drew.alloc (.cells cs e)) := by
  have h := Lib.run_append_grow_zeros (P := P) w t tn ty e i z .i64 .i64 ht htn hi hz none 0 0 [] (run_firstCells_none w.drew i.size 0 0 0) n h0 (by omega) (by omega) (by omega) (by omega) (by
    have := growslice_fits (need := 0 + n) (old := 0) (bytes := i.bytes) (by omega) (by simpa using hb)
    exact this)
  simp only [Nat.zero_add] at h
  have hge := grownCap_ge w n 0 e
  have hle := grownCap_le_maxLen w n 0 e (by unfold maxLen; omega)
  unfold maxLen at hle
  refine ⟨_, _, hge, hle, ?_, h⟩
  simp only [Array.size_append, size_zeroCells, hzs, List.size_toArray, List.length_nil, Nat.zero_add, ← Nat.add_mul]
  congr 1
  omega

end Go.Proofs.YthofkdpmgjkgkaaGreat
