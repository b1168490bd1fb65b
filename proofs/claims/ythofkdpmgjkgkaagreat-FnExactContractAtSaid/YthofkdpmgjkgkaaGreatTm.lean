/- Slices of the nodes of terms, as lists of triples. -/
import Derived.Test.YthofkdpmgjkgkaaGreatNodes
namespace Go.Proofs.YthofkdpmgjkgkaaGreat
open Go.RowKit

abbrev Tn := Int × Int × ByteArray
def tk (xs : List Tn) (i : Nat) : Int := (xs.getD i (0, 0, ByteArray.empty)).1
def tn (xs : List Tn) (i : Nat) : Int := (xs.getD i (0, 0, ByteArray.empty)).2.1
def tt (xs : List Tn) (i : Nat) : ByteArray := (xs.getD i (0, 0, ByteArray.empty)).2.2
def tcells (xs : List Tn) : List Value := xs.flatMap fun x => [.int .i64 x.1, .int .i64 x.2.1, .string x.2.2]

theorem tcells_nil : tcells [] = [] := rfl
theorem tcells_cons (x : Tn) (xs : List Tn) : tcells (x :: xs) = .int .i64 x.1 :: .int .i64 x.2.1 :: .string x.2.2 :: tcells xs := rfl
theorem tcells_append (xs ys : List Tn) : tcells (xs ++ ys) = tcells xs ++ tcells ys := by simp [tcells, List.flatMap_append]
theorem tcells_length (xs : List Tn) : (tcells xs).length = xs.length * 3 := by
  induction xs with
  | nil => rfl
  | cons x xs ih => rw [tcells_cons]; simp [ih]; omega
theorem tcells_one (xs : List Tn) : ∀ u ∈ tcells xs, u.oneCell' = true := by
  intro u hu
  simp only [tcells, List.mem_flatMap] at hu
  obtain ⟨x, _, hx⟩ := hu
  simp at hx
  rcases hx with rfl | rfl | rfl <;> rfl
theorem tcells_at (xs : List Tn) : ∀ i, i < xs.length → (tcells xs)[i * 3]? = some (.int .i64 (tk xs i)) ∧ (tcells xs)[i * 3 + 1]? = some (.int .i64 (tn xs i)) ∧ (tcells xs)[i * 3 + 2]? = some (.string (tt xs i)) := by
  induction xs with
  | nil => intro i hi; simp at hi
  | cons x xs ih =>
    intro i hi
    match i with
    | 0 => exact ⟨rfl, rfl, rfl⟩
    | i + 1 =>
      have h := ih i (by simpa using hi)
      rw [tcells_cons]
      have e1 : (i + 1) * 3 = i * 3 + 1 + 1 + 1 := by omega
      rw [e1]
      simp only [List.getElem?_cons_succ]
      exact h
theorem tcells_ext {cs : List Value} {xs : List Tn} (hl : cs.length = xs.length * 3) (h : ∀ i, i < xs.length → cs[i * 3]? = some (.int .i64 (tk xs i)) ∧ cs[i * 3 + 1]? = some (.int .i64 (tn xs i)) ∧ cs[i * 3 + 2]? = some (.string (tt xs i))) : cs = tcells xs := by
  apply List.ext_getElem?
  intro j
  by_cases hj : j < xs.length * 3
  · have hd := Nat.div_add_mod j 3
    have hm := Nat.mod_lt j (show 0 < 3 by omega)
    have hi : j / 3 < xs.length := by omega
    have h1 := h (j / 3) hi
    have h2 := tcells_at xs (j / 3) hi
    have hc : j % 3 = 0 ∨ j % 3 = 1 ∨ j % 3 = 2 := by omega
    rcases hc with hm | hm | hm
    · have e : j = j / 3 * 3 := by omega
      rw [e, h1.1, h2.1]
    · have e : j = j / 3 * 3 + 1 := by omega
      rw [e, h1.2.1, h2.2.1]
    · have e : j = j / 3 * 3 + 2 := by omega
      rw [e, h1.2.2, h2.2.2]
  · rw [List.getElem?_eq_none (by omega), List.getElem?_eq_none (by rw [tcells_length]; omega)]
theorem tk_lt {xs : List Tn} {i : Nat} (h : i < xs.length) : xs[i] = (tk xs i, tn xs i, tt xs i) := by
  simp [tk, tn, tt, List.getD, h]
theorem tn_ext {xs ys : List Tn} (hl : xs.length = ys.length) (h : ∀ i, i < xs.length → tk xs i = tk ys i ∧ tn xs i = tn ys i ∧ tt xs i = tt ys i) : xs = ys := by
  apply List.ext_getElem hl
  intro i h1 h2
  rw [tk_lt h1, tk_lt h2, (h i h1).1, (h i h1).2.1, (h i h1).2.2]

/-- The value reads as the list. -/
def Tms (w : World) (v : Value) (xs : List Tn) : Prop := Rd w 3 v xs.length (tcells xs)
/-- The value is a row of the call's own, newer than block B, that holds the list. -/
def OwnT (w : World) (B : Nat) (v : Value) (xs : List Tn) : Prop := w.ownsRow B 66 3 v xs.length (tcells xs)

theorem Tms.grew {w w' : World} {v : Value} {xs : List Tn} (h : Tms w v xs) (hb : Grew w w') : Tms w' v xs := Rd.grew h hb
theorem Tms.nil_ (w : World) : Tms w (.slice none 0 0) [] := Rd.nil_ w 3
theorem OwnT.tms {w : World} {B : Nat} {v : Value} {xs : List Tn} (h : OwnT w B v xs) : Tms w v xs := Rd.of_own h
theorem OwnT.nil_ (w : World) (B : Nat) : OwnT w B (.slice none 0 0) [] := World.ownsRow_nil w B _ 3
theorem OwnT.grew {w w' : World} {B : Nat} {v : Value} {xs : List Tn} (h : OwnT w B v xs) (hb : Grew w w') : OwnT w' B v xs := own_grew h hb
theorem OwnT.only {w w' : World} {B g : Nat} {v : Value} {xs : List Tn} (h : OwnT w B v xs) (hb : Only g w w') (hne : v.ownBlock ≠ some g) : OwnT w' B v xs := own_only h hb hne
theorem OwnT.base {w : World} {B B' : Nat} {v : Value} {xs : List Tn} (h : OwnT w B v xs) (hb : B' ≤ B) : OwnT w B' v xs := own_base h hb

theorem Tms.open_ {w : World} {v : Value} {xs : List Tn} (h : Tms w v xs) :
    (v = .slice none 0 0 ∧ xs = []) ∨ ∃ b o c, v = .slice (some ⟨b, o, none⟩) xs.length c ∧ xs.length ≤ c ∧ c ≤ 9223372036854775807 ∧ b < w.heap.size ∧
      ∀ i, i < xs.length → ∀ W, Grew w W → W.cell? ⟨b, o + i * 3, none⟩ = some (.int .i64 (tk xs i)) ∧ W.cell? ⟨b, o + i * 3 + 1, none⟩ = some (.int .i64 (tn xs i)) ∧ W.cell? ⟨b, o + i * 3 + 2, none⟩ = some (.string (tt xs i)) := by
  obtain ⟨_, _, h3⟩ := h
  rcases h3 with ⟨h4, h5⟩ | ⟨b, o, c, h4, h5, h6, h7, h8⟩
  · exact .inl ⟨h4, List.eq_nil_of_length_eq_zero h5⟩
  · refine .inr ⟨b, o, c, h4, h5, h6, h7, fun i hi W hW => ?_⟩
    obtain ⟨k1, k2, k3⟩ := tcells_at xs i hi
    exact ⟨(hW.cell (p := ⟨b, o + i * 3, none⟩) h7).trans (h8 _ _ k1), (hW.cell (p := ⟨b, o + i * 3 + 1, none⟩) h7).trans (h8 _ _ k2), (hW.cell (p := ⟨b, o + i * 3 + 2, none⟩) h7).trans (h8 _ _ k3)⟩
theorem Tms.len_le {w : World} {v : Value} {xs : List Tn} (h : Tms w v xs) : xs.length ≤ 9223372036854775807 := h.2.1
theorem tms_slice {w : World} {v : Value} {xs : List Tn} (h : Tms w v xs) : ∃ A c, v = .slice A xs.length c := by
  rcases h.open_ with ⟨rfl, rfl⟩ | ⟨b, o, c, rfl, _⟩
  · exact ⟨_, _, rfl⟩
  · exact ⟨_, _, rfl⟩

/-- A row of the call's own, opened: its block. -/
theorem OwnT.open_ {w : World} {B : Nat} {v : Value} {xs : List Tn} (h : OwnT w B v xs) :
    (v = .slice none 0 0 ∧ xs = []) ∨ ∃ g c cur, v = .slice (some ⟨g, 0, none⟩) xs.length c ∧ B ≤ g ∧ g < w.heap.size ∧ w.heap[g]? = some (.cells cur 66 (0, 0)) ∧ xs.length ≤ c ∧ c ≤ 9223372036854775807 ∧ cur.size = c * 3 ∧
      ∀ i, i < xs.length → cur[i * 3]? = some (.int .i64 (tk xs i)) ∧ cur[i * 3 + 1]? = some (.int .i64 (tn xs i)) ∧ cur[i * 3 + 2]? = some (.string (tt xs i)) := by
  obtain ⟨_, h2⟩ := h
  rcases h2 with ⟨rfl, h5⟩ | ⟨g, cap, cur, rfl, hb, hg, hnc, hcm, hcs, ht⟩
  · exact .inl ⟨rfl, List.eq_nil_of_length_eq_zero h5⟩
  · refine .inr ⟨g, cap, cur, rfl, hb, (Array.getElem?_eq_some_iff.1 hg).1, hg, hnc, hcm, hcs, fun i hi => ?_⟩
    obtain ⟨k1, k2, k3⟩ := tcells_at xs i hi
    rw [← ht, List.getElem?_take] at k1 k2 k3
    rw [if_pos (by omega)] at k1 k2 k3
    exact ⟨by simpa using k1, by simpa using k2, by simpa using k3⟩
theorem OwnT.mk_ {w : World} {B : Nat} {xs : List Tn} {g c : Nat} {cur : Array Value} (hB : B ≤ g) (hg : w.heap[g]? = some (.cells cur 66 (0, 0))) (hnc : xs.length ≤ c) (hcm : c ≤ 9223372036854775807) (hcs : cur.size = c * 3)
    (hc : ∀ i, i < xs.length → cur[i * 3]? = some (.int .i64 (tk xs i)) ∧ cur[i * 3 + 1]? = some (.int .i64 (tn xs i)) ∧ cur[i * 3 + 2]? = some (.string (tt xs i))) : OwnT w B (.slice (some ⟨g, 0, none⟩) xs.length c) xs := by
  refine ⟨tcells_length xs, .inr ⟨g, c, cur, rfl, hB, hg, hnc, hcm, hcs, tcells_ext (by simp; omega) fun i hi => ?_⟩⟩
  rw [List.getElem?_take, List.getElem?_take, List.getElem?_take, if_pos (by omega), if_pos (by omega), if_pos (by omega)]
  obtain ⟨k1, k2, k3⟩ := hc i hi
  exact ⟨by simpa using k1, by simpa using k2, by simpa using k3⟩
/-- A literal of nodes in a new block. -/
theorem OwnT.lit (w : World) (B : Nat) (xs : List Tn) (cs : Array Value) (hB : B ≤ w.heap.size) (hn : xs.length ≤ 9223372036854775807) (hc : cs.toList = tcells xs) :
    OwnT (w.alloc (.cells cs 66)) B (.slice (some ⟨w.heap.size, 0, none⟩) xs.length xs.length) xs := by
  have hl : cs.size = xs.length * 3 := by rw [← Array.length_toList, hc, tcells_length]
  have h := World.ownsRow_lit (e := 66) (size := 3) w cs xs.length hB hn hl
  rw [hc] at h
  exact h

theorem infoTn : (Tryz.prog.info? 66).map (fun i => (i.zero, i.size, i.bytes)) = some (some (.agg #[.int .i64 0, .int .i64 0, .string ByteArray.empty]), 3, 32) := by kernel_rfl

theorem big3 {n m : Nat} (h : n + m ≤ 1099511627776) : n + m ≤ maxLen ∧ (n + m) * 32 ≤ 140737488355328 := by
  unfold maxLen; omega

/-- 'out = append(out, xs...)', out a row of the call's own. -/
theorem wpList_appT {ops : Array Oper} {rest : List Oper} {o : Oper} {a : Act} {Q : Exit → Act → World → Prop} {w w0 : World} (s x : Operand) (hgd : o.guard = none)
    (ho : o.op = .call { callee := .builtin .append, args := #[s, x], argTypes := #[24, 24] })
    (v : Value) (xs : List Tn) (hs : a.eval s = v) (hown : OwnT w w0.heap.size v xs) (hg : Grew w0 w) (vx : Value) (ys : List Tn) (hx : a.eval x = vx) (hr : Tms w vx ys) (hn : xs.length + ys.length ≤ 1099511627776)
    (h : ∀ v' w', OwnT w' w0.heap.size v' (xs ++ ys) → Grew w0 w' → w.grownBy w' v.ownBlock → wpList Tryz.prog ops Q rest (a.put o.dst v') w') : wpList Tryz.prog ops Q (o :: rest) a w := by
  obtain ⟨i0, hi0, hz0, hz1, hz2⟩ := info_parts infoTn
  refine wpList_append_rd w hgd s x _ ho w0.heap.size 66 i0 _ 3 32 Tryz.underlying24 hi0 hz0 hz1 hz2 rfl (by omega) v xs.length (tcells xs) hs hown vx ys.length (tcells ys) hx hr (tcells_one ys) (big3 hn).1 (big3 hn).2 hg.size ?_
  intro v' w' h1 h2 h3
  refine h v' w' ?_ (hg.grown h2 fun k hk => (hown.lt k hk).1) h2
  unfold OwnT
  rw [tcells_append, List.length_append]
  exact h1

theorem tcells_drop (xs : List Tn) : ∀ i, tcells (xs.drop i) = (tcells xs).drop (i * 3) := by
  induction xs with
  | nil => intro i; simp [tcells]
  | cons x xs ih =>
    intro i
    cases i with
    | zero => simp
    | succ i =>
      rw [List.drop_succ_cons, ih, tcells_cons, show (i + 1) * 3 = i * 3 + 1 + 1 + 1 by omega]
      rfl
theorem tcells_take (xs : List Tn) : ∀ i, tcells (xs.take i) = (tcells xs).take (i * 3) := by
  induction xs with
  | nil => intro i; simp [tcells]
  | cons x xs ih =>
    intro i
    cases i with
    | zero => simp [tcells]
    | succ i =>
      rw [List.take_succ_cons, tcells_cons, ih, tcells_cons, show (i + 1) * 3 = i * 3 + 1 + 1 + 1 by omega]
      rfl
/-- A cut of a slice of nodes. -/
theorem Tms.sub {w : World} {b o n c : Nat} {xs : List Tn} (h : Tms w (.slice (some ⟨b, o, none⟩) n c) xs) (i m c' : Nat) (him : i + m ≤ xs.length) (hc : m ≤ c') (hc' : c' ≤ 9223372036854775807) :
    Tms w (.slice (some ⟨b, o + i * 3, none⟩) m c') ((xs.drop i).take m) := by
  obtain ⟨h1, h2, h3⟩ := h
  have hl : ((xs.drop i).take m).length = m := by simp; omega
  refine ⟨tcells_length _, by omega, .inr ?_⟩
  rcases h3 with ⟨h4, _⟩ | ⟨b', o', c0, h4, h5, h6, h7, h8⟩
  · cases h4
  · simp only [Value.slice.injEq, Option.some.injEq, Addr.mk.injEq, and_true] at h4
    obtain ⟨⟨rfl, rfl⟩, rfl, rfl⟩ := h4
    refine ⟨b, o + i * 3, c', by rw [hl], by omega, hc', h7, fun j u hu => ?_⟩
    rw [tcells_take, List.getElem?_take] at hu
    split at hu
    · rw [tcells_drop, List.getElem?_drop] at hu
      have := h8 _ _ hu
      rw [show o + i * 3 + j = o + (i * 3 + j) by omega]
      exact this
    · cases hu
end Go.Proofs.YthofkdpmgjkgkaaGreat
