/- Texts in one file: Any MnU FaF FaD AmC MnV MnW FaW AmD LsP LsC Span AmE AmF MvS AmG RfP Vm FvP. -/
import Derived.Deep.RegionLaw
import Derived.OwnWalk
import Derived.Deep.RegionHeld3
import Derived.Test.YtopjgcbhjhhlfaaGreatPa1
import Derived.Test.YtopjgcbhjhhlfaaGreatPa2
import Derived.Test.YtopjgcbhjhhlfaaGreatPa3
set_option linter.all false

/- Drawn lists of nodes: l01Pick, l02Bend, l02Any give an own row of nodes that isn't long; what it holds does not matter. -/
namespace Go.Proofs.YtopjgcbhjhhlfaaGreat
open Go.RowKit
open Fm (Nd)

theorem l01Pick_c (g : Nat) (cv : Value) (N : Nat) (b : Nat) (w : World) (h : Src w g cv N) (hb : b < w.heap.size) (hne : b ≠ g) (hc : ∀ j, j < 5 → ∃ x : Int, w.cell? ⟨b, j, none⟩ = some (.int .i64 x)) :
    Calls Tryz.prog 50 #[.pointer (some ⟨g, 0, none⟩), .slice (some ⟨b, 0, none⟩) 5 5] w fun e w' => ∃ r : Int, e = .returned (.int .i64 r) ∧ Src w' g cv N ∧ Only g w w' := by
  have HS := Lib.hid h
  have HC := Lib.hid hc
  clear h hc
  go_enter Tryz.func50, Tryz.ntmps50
  go_wp2_with fail
  refine (l01Next_c g cv N 5 _ HS.out (by omega)).mono ?_
  rintro e w1 ⟨r, rfl, hr0, hr1, _, hS1, ho1⟩
  have hr2 := hr1 (by omega)
  obtain ⟨k, rfl⟩ : ∃ k : Nat, r = (k : Int) := ⟨r.toNat, by omega⟩
  obtain ⟨x, hx⟩ := HC.out k (by omega)
  have hx1 := (ho1.cell (p := ⟨b, k, none⟩) hb hne).trans hx
  have HS1 := Lib.hid hS1
  clear hx hS1 hr1
  go_wp2_with fail
  go_ret
  exact ⟨_, rfl, HS1.out, ho1⟩

theorem cells_set0 {cur : Array Value} {xs : List Nd} {k : Nat} {a : Int} (hk : k < xs.length) (hs : xs.length * 2 ≤ cur.size)
    (h : ∀ i, i < xs.length → cur[i * 2]? = some (.int .i64 (kd xs i)) ∧ cur[i * 2 + 1]? = some (.int .i64 (sy xs i))) :
    ∀ i, i < (xs.set k (a, sy xs k)).length → (cur.setIfInBounds (k * 2) (.int .i64 a))[i * 2]? = some (.int .i64 (kd (xs.set k (a, sy xs k)) i)) ∧ (cur.setIfInBounds (k * 2) (.int .i64 a))[i * 2 + 1]? = some (.int .i64 (sy (xs.set k (a, sy xs k)) i)) := by
  intro i hi
  rw [List.length_set] at hi
  obtain ⟨h1, h2⟩ := h i hi
  simp only [Array.getElem?_setIfInBounds]
  by_cases he : k = i
  · subst he
    rw [if_pos rfl, if_pos (by omega), if_neg (by omega), h2]
    simp [kd, sy, List.getD, hk]
  · rw [if_neg (by omega), if_neg (by omega), h1, h2]
    simp [kd, sy, List.getD, he]
theorem cells_set1 {cur : Array Value} {xs : List Nd} {k : Nat} {a : Int} (hk : k < xs.length) (hs : xs.length * 2 ≤ cur.size)
    (h : ∀ i, i < xs.length → cur[i * 2]? = some (.int .i64 (kd xs i)) ∧ cur[i * 2 + 1]? = some (.int .i64 (sy xs i))) :
    ∀ i, i < (xs.set k (kd xs k, a)).length → (cur.setIfInBounds (k * 2 + 1) (.int .i64 a))[i * 2]? = some (.int .i64 (kd (xs.set k (kd xs k, a)) i)) ∧ (cur.setIfInBounds (k * 2 + 1) (.int .i64 a))[i * 2 + 1]? = some (.int .i64 (sy (xs.set k (kd xs k, a)) i)) := by
  intro i hi
  rw [List.length_set] at hi
  obtain ⟨h1, h2⟩ := h i hi
  simp only [Array.getElem?_setIfInBounds]
  by_cases he : k = i
  · subst he
    rw [if_neg (by omega), if_pos rfl, if_pos (by omega), h1]
    simp [kd, sy, List.getD, hk]
  · rw [if_neg (by omega), if_neg (by omega), h1, h2]
    simp [kd, sy, List.getD, he]

theorem step_apprdN {P : Program} (w : World) {ops : Array Oper} {o : Oper} {a : Act} {K : Act → World → Prop} {Q : Exit → Act → World → Prop} {E : Prop} (hgd : o.guard = none) (s x : Operand) (t : TypeId)
    (ho : o.op = .call { callee := .builtin .append, args := #[s, x], argTypes := #[t, t] })
    (base : Nat) (e : TypeId) (i : TypeInfo) (z : Value) (size bytes : Nat) (ht : P.underlying t = some (.slice e)) (hi : P.info? e = some i) (hz : i.zero = some z)
    (hsize : i.size = size) (hby : i.bytes = bytes) (hzs : z.cells.size = size) (hsz : 0 < size)
    (v : Value) (n : Nat) (xs : List Value) (hs : a.eval s = v) (hown : w.ownsRow base e size v n xs)
    (vx : Value) (m : Nat) (news : List Value) (hx : a.eval x = vx) (hr : Rd w size vx m news) (h1 : ∀ u ∈ news, u.oneCell' = true)
    (h63 : n + m ≤ maxLen) (hbytes : (n + m) * bytes ≤ 140737488355328) (hbase : base ≤ w.heap.size)
    (h : ∀ v' w', w'.ownsRow base e size v' (n + m) (xs ++ news) → w.grownBy w' v.ownBlock → K (a.put o.dst v') w') :
    if Region.wanted o (yielded ops a.tmps) = true then Oper.wp P o a w K Q else E := by
  have hw : Region.wanted o (yielded ops a.tmps) = true := by simp [Region.wanted, hgd]
  rw [if_pos hw]
  obtain ⟨hl, _, hr⟩ := hr
  rcases hr with ⟨rfl, rfl⟩ | ⟨b, of, c, rfl, _, _, _, hc⟩
  · have hnews : news = [] := List.eq_nil_of_length_eq_zero (by simpa using hl)
    subst hnews
    have hrun := run_append_owned_none (P := P) w base t o.type e i size ht hi v n xs hown
    unfold Oper.wp execOp
    simp only [ho, resolve, invoke, builtin, Sem.run_bind, Sem.run_pure, Result.andThen_ok, List.map_toArray, List.map_cons, List.map_nil, hs, hx, hrun]
    exact h v w (by simpa using hown) (World.grownBy.refl _ _)
  · obtain ⟨v', w', hrun, h2, h3, _, _⟩ := run_append_own_at (P := P) w base t o.type e i z size bytes ht hi hz hsize hby hzs hsz v n xs hown ⟨b, of, none⟩ m c news hl (fun j u hu => by rw [Addr.add_lit]; exact hc j u hu) h1 h63 hbytes hbase
    unfold Oper.wp execOp
    simp only [ho, resolve, invoke, builtin, Sem.run_bind, Sem.run_pure, Result.andThen_ok, List.map_toArray, List.map_cons, List.map_nil, hs, hx, hrun]
    exact h v' w' h2 h3
theorem step_appN {ops : Array Oper} {o : Oper} {a : Act} {K : Act → World → Prop} {Q : Exit → Act → World → Prop} {E : Prop} {w : World} (B : Nat) (hgd : o.guard = none) (s x : Operand)
    (ho : o.op = .call { callee := .builtin .append, args := #[s, x], argTypes := #[38, 38] })
    (v : Value) (xs : List Nd) (hs : a.eval s = v) (hown : Own w B v xs) (hB : B ≤ w.heap.size) (vx : Value) (ys : List Nd) (hx : a.eval x = vx) (hr : Nodes w vx ys) (hn : xs.length + ys.length ≤ 1099511627776)
    (h : ∀ v' w', Own w' B v' (xs ++ ys) → w.grownBy w' v.ownBlock → K (a.put o.dst v') w') : if Region.wanted o (yielded ops a.tmps) = true then Oper.wp Tryz.prog o a w K Q else E := by
  obtain ⟨i0, hi0, hz0, hz1, hz2⟩ := info_parts Tryz.infoNd
  refine step_apprdN w hgd s x _ ho B 99 i0 _ 2 16 Tryz.underlying38 hi0 hz0 hz1 hz2 rfl (by omega) v xs.length (cells xs) hs hown vx ys.length (cells ys) hx hr (cells_one ys) (big2 hn).1 (big2 hn).2 hB ?_
  intro v' w' h1 h2
  refine h v' w' ?_ h2
  unfold Own
  rw [cells_append, List.length_append]
  exact h1
theorem wpList_appN {ops : Array Oper} {rest : List Oper} {o : Oper} {a : Act} {Q : Exit → Act → World → Prop} {w : World} (B : Nat) (s x : Operand) (hgd : o.guard = none)
    (ho : o.op = .call { callee := .builtin .append, args := #[s, x], argTypes := #[38, 38] })
    (v : Value) (xs : List Nd) (hs : a.eval s = v) (hown : Own w B v xs) (hB : B ≤ w.heap.size) (vx : Value) (ys : List Nd) (hx : a.eval x = vx) (hr : Nodes w vx ys) (hn : xs.length + ys.length ≤ 1099511627776)
    (h : ∀ v' w', Own w' B v' (xs ++ ys) → w.grownBy w' v.ownBlock → wpList Tryz.prog ops Q rest (a.put o.dst v') w') : wpList Tryz.prog ops Q (o :: rest) a w := by
  obtain ⟨i0, hi0, hz0, hz1, hz2⟩ := info_parts Tryz.infoNd
  refine wpList_append_rd w hgd s x _ ho B 99 i0 _ 2 16 Tryz.underlying38 hi0 hz0 hz1 hz2 rfl (by omega) v xs.length (cells xs) hs hown vx ys.length (cells ys) hx hr (cells_one ys) (big2 hn).1 (big2 hn).2 hB ?_
  intro v' w' h1 h2 _
  refine h v' w' ?_ h2
  unfold Own
  rw [cells_append, List.length_append]
  exact h1
theorem Src.other {w w' : World} {g gb : Nat} {v : Value} {N : Nat} (h : Src w g v N) (ho : Only gb w w') (hgb : g < gb) : Src w' g v N := by
  have hl := h.lt
  obtain ⟨⟨h1, h2, h3⟩, i, x, h4, h5, h6, h7⟩ := h
  refine ⟨⟨h1, h2, fun hp => ?_⟩, i, x, h4, h5, h6, (ho.block hl (by omega)).trans h7⟩
  obtain ⟨b, o, c, e, hb, hc, hm, hx⟩ := h3 hp
  refine ⟨b, o, c, e, hb, hc, hm, fun j hj => ?_⟩
  obtain ⟨y, y0, y1, hcell⟩ := hx j hj
  exact ⟨y, y0, y1, (ho.cell (p := ⟨b, o + j, none⟩) (by show b < _; omega) (by show b ≠ gb; omega)).trans hcell⟩
theorem Only.newer {g gb : Nat} {a b c : World} (h : Only g a b) (k : Only gb b c) (hgb : a.heap.size ≤ gb) : Only g a c :=
  ⟨k.os.trans h.os, k.tape.trans h.tape, k.output.trans h.output, Nat.le_trans h.size k.size, fun i hi hne => (k.block (Nat.lt_of_lt_of_le hi h.size) (by omega)).trans (World.grownBy.block h i hi hne)⟩

theorem Src.other2 {w w' : World} {g : Nat} {v : Value} {N : Nat} {r : Option Nat} (h : Src w g v N) (ho : w.grownBy w' r) (hr : ∀ b, r = some b → g < b) : Src w' g v N := by
  cases r with
  | none => exact h.other (gb := w.heap.size) ⟨ho.os, ho.tape, ho.output, ho.size, fun i hi _ => ho.block i hi (by simp)⟩ h.lt
  | some b => exact h.other (gb := b) ho (hr b rfl)
theorem Only.newer2 {g : Nat} {a b c : World} {r : Option Nat} (h : Only g a b) (ho : b.grownBy c r) (hr : ∀ k, r = some k → a.heap.size ≤ k) : Only g a c := by
  cases r with
  | none => exact h.newer (gb := b.heap.size) ⟨ho.os, ho.tape, ho.output, ho.size, fun i hi _ => ho.block i hi (by simp)⟩ h.size
  | some k => exact h.newer (gb := k) ho (hr k rfl)

def Bent (w : World) (g : Nat) (cv : Value) (N : Nat) (n : Nat) (e : Ending) (w' : World) : Prop :=
  ∃ v xs, e = .returned v ∧ Own w' w.heap.size v xs ∧ xs.length ≤ n ∧ Src w' g cv N ∧ Only g w w'

theorem l02Bend_c (g : Nat) (cv : Value) (N : Nat) (v : Value) (xs : List Nd) (w : World) (h : Src w g cv N) (hv : Nodes w v xs) (h0 : 0 < xs.length) (hn : xs.length ≤ 1000) :
    Calls Tryz.prog 71 #[.pointer (some ⟨g, 0, none⟩), v] w (Bent w g cv N (xs.length + 1)) := by
  have HS := Lib.hid h
  have hgl := h.lt
  clear h
  go_enter Tryz.func71, Tryz.ntmps71
  go_wp2_with fail
  refine (l02Own_c _ _ _ hv (by omega)).mono ?_
  rintro e w1 ⟨v1, rfl, ho1, hg1⟩
  obtain ⟨A1, c1, rfl⟩ := nodes_slice ho1.nodes
  have HO1 := Lib.hid ho1
  clear ho1
  go_wp2_with fail
  refine (l01Next_c g cv N xs.length _ (HS.out.grew hg1) (by omega)).mono ?_
  rintro e w2 ⟨r2, rfl, hr20, hr21, _, hS2, ho2⟩
  have hr22 := hr21 (by omega)
  obtain ⟨k, rfl⟩ : ∃ k : Nat, r2 = (k : Int) := ⟨r2.toNat, by omega⟩
  have hk : k < xs.length := by omega
  have HS2 := Lib.hid hS2
  clear hS2 hr21
  go_wp2_with fail
  refine (l01Next_c g cv N 5 _ HS2.out (by omega)).mono ?_
  rintro e w3 ⟨r3, rfl, hr30, hr31, _, hS3, ho3⟩
  have HS3 := Lib.hid hS3
  have hO3 := own_src HO1.out hgl (ho2.trans ho3)
  have hw3 := (hg1.only.trans ho2).trans ho3 (g := g)
  have hr32 := hr31 (by omega)
  clear hS3 HS2 HO1 ho2 ho3 hr31
  cases b0 : (r3 == 0) with
  | true =>
    go_wp2_with fail
    refine (l01Next_c g cv N 9 _ HS3.out (by omega)).mono ?_
    rintro e w4 ⟨r4, rfl, hr40, hr41, _, hS4, ho4⟩
    have hO4 := own_src hO3 hgl ho4
    have HS4 := Lib.hid hS4
    have hr42 := hr41 (by omega)
    have hw4 := hw3.trans ho4
    rcases hO4.open_ with ⟨_, rfl⟩ | ⟨gb, cb, cur, hvb, hBg, hgl4, hblk, hnc, hcm, hcs, hcell⟩
    · simp at h0
    simp only [Value.slice.injEq] at hvb
    obtain ⟨rfl, -, rfl⟩ := hvb
    have hk2 := hcell k hk
    have hcl : w4.cell? ⟨gb, k * 2, none⟩ = some (.int .i64 (kd xs k)) := by rw [blk_cell hblk]; exact hk2.1
    have hfr := blk_frozen hblk (k * 2)
    have HB := Lib.hid hblk
    have HCE := Lib.hid hcell
    clear hblk hcell hO4 hO3 hS4 hr41 hk2
    go_wp2_with fail
    go_ret
    refine ⟨_, xs.set k (r4 - 1, sy xs k), rfl, ?_, by simp, ?_, ?_⟩
    · have := Own.mk_ (w := w4.setCell ⟨gb, k * 2, none⟩ (.int .i64 (r4 - 1))) (B := w.heap.size) (xs := xs.set k (r4 - 1, sy xs k)) (c := c1) hBg (blk_set HB.out (k * 2) _) (by simpa using hnc) hcm (by simpa using hcs) (cells_set0 hk (by omega) HCE.out)
      simpa using this
    · exact HS4.out.other ((Only.refl gb w4).setCell _) (by omega)
    · exact hw4.newer ((Only.refl gb w4).setCell _) hBg
  | false =>
  cases b1 : (r3 == 1) with
  | true =>
    have hnew := fun o => blk_new w3 o
    have hal := fun o => (Grew.refl w3).alloc o
    go_wp2_with fail
    refine (l01Pick_c g cv N w3.heap.size _ (HS3.out.grew (hal _)) (blk_lt (hnew _)) (by have := HS3.out.lt; omega) (fun j hj => ?_)).mono ?_
    · rw [blk_cell (hnew _)]
      rcases (by omega : j = 0 ∨ j = 1 ∨ j = 2 ∨ j = 3 ∨ j = 4) with rfl | rfl | rfl | rfl | rfl <;> exact ⟨_, rfl⟩
    rintro e w4 ⟨r4, rfl, hS4, ho4⟩
    have hO4 := own_src (hO3.grew (hal _)) hgl ho4
    have hw4 := (hw3.trans (hal _).only).trans ho4 (g := g)
    have HS4 := Lib.hid hS4
    rcases hO4.open_ with ⟨_, rfl⟩ | ⟨gb, cb, cur, hvb, hBg, hgl4, hblk, hnc, hcm, hcs, hcell⟩
    · simp at h0
    simp only [Value.slice.injEq] at hvb
    obtain ⟨rfl, -, rfl⟩ := hvb
    have hk2 := hcell k hk
    have hcl : w4.cell? ⟨gb, k * 2 + 1, none⟩ = some (.int .i64 (sy xs k)) := by rw [blk_cell hblk]; exact hk2.2
    have hfr := blk_frozen hblk (k * 2 + 1)
    have HB := Lib.hid hblk
    have HCE := Lib.hid hcell
    clear hblk hcell hO4 hO3 hS4 hk2 hnew hal ho4
    go_wp2_with fail
    go_ret
    refine ⟨_, xs.set k (kd xs k, r4), rfl, ?_, by simp, ?_, ?_⟩
    · have := Own.mk_ (w := w4.setCell ⟨gb, k * 2 + 1, none⟩ (.int .i64 r4)) (B := w.heap.size) (xs := xs.set k (kd xs k, r4)) (c := c1) hBg (blk_set HB.out (k * 2 + 1) _) (by simpa using hnc) hcm (by simpa using hcs) (cells_set1 hk (by omega) HCE.out)
      simpa using this
    · exact HS4.out.other ((Only.refl gb w4).setCell _) (by omega)
    · exact hw4.newer ((Only.refl gb w4).setCell _) hBg
  | false =>
  cases b2 : (r3 == 2) with
  | true =>
    go_wp2_with fail
    refine (l01Next_c g cv N 7 _ HS3.out (by omega)).mono ?_
    rintro e w4 ⟨r4, rfl, hr40, hr41, _, hS4, ho4⟩
    have hO4 := own_src hO3 hgl ho4
    have HS4 := Lib.hid hS4
    have HO4 := Lib.hid (hO4.grew ((Grew.refl w4).alloc (.cells #[.int .i64 r4, .int .i64 0] 99)))
    have hw4 := hw3.trans ho4
    have hone := Own.one w4 w4.heap.size r4 0 (Nat.le_refl _)
    clear hS4 ho4 hO3 hO4 hr41
    go_wp2_with (first
      | (at_builtin; refine wpList_appN w.heap.size _ _ rfl rfl _ xs rfl HO4.out (Nat.le_trans hw4.size ((Grew.refl w4).alloc _).size) _ [(r4, 0)] rfl hone.nodes (by simp; omega) ?_; intro v5 w5 hown5 hg5))
    go_ret
    refine ⟨_, _, rfl, hown5, by simp, ?_, ?_⟩
    · exact (HS4.out.grew ((Grew.refl w4).alloc _)).other2 hg5 (fun b hb => Nat.lt_of_lt_of_le hgl (own_of_ge HO4.out hb))
    · exact (hw4.grew ((Grew.refl w4).alloc _)).newer2 hg5 (fun b hb => own_of_ge HO4.out hb)
  | false =>
  cases b3 : (r3 == 3) with
  | true =>
    have i1 : (k : Int) ≤ (c1 : Int) := by
      have := hO3.nodes.open_
      rcases this with ⟨_, rfl⟩ | ⟨b, o, c, hv, hc, _⟩
      · simp at h0
      · simp only [Value.slice.injEq] at hv
        obtain ⟨-, -, rfl⟩ := hv
        omega
    rcases hO3.open_ with ⟨_, rfl⟩ | ⟨gb, cb, cur, hvb, hBg, hgl4, hblk, hnc, hcm, hcs, hcell⟩
    · simp at h0
    simp only [Value.slice.injEq] at hvb
    obtain ⟨rfl, -, rfl⟩ := hvb
    have HB := Lib.hid hblk
    have HCE := Lib.hid hcell
    clear hblk hcell hO3
    go_wp2_with fail
    go_ret
    refine ⟨_, xs.take k, rfl, ?_, by rw [List.length_take]; omega, HS3.out, hw3⟩
    have hl : (xs.take k).length = k := by rw [List.length_take]; omega
    have := Own.mk_ (w := w3) (B := w.heap.size) (xs := xs.take k) (c := c1) hBg HB.out (by omega) hcm hcs (fun i hi => ?_)
    · rw [hl] at this
      exact this
    · rw [hl] at hi
      have := HCE.out i (by omega)
      simpa [kd, sy, List.getD, hi] using this
  | false =>
  cases b4 : (r3 == 4) with
  | true =>
    rcases hO3.open_ with ⟨_, rfl⟩ | ⟨gb, cb, cur, hvb, hBg, hgl4, hblk, hnc, hcm, hcs, hcell⟩
    · simp at h0
    simp only [Value.slice.injEq] at hvb
    obtain ⟨rfl, -, rfl⟩ := hvb
    have i1 : (k : Int) ≤ (c1 : Int) := by omega
    have i2 : (k : Int) + 1 ≤ (xs.length : Int) := by omega
    have i3 : (0 : Int) ≤ (k : Int) + 1 := by omega
    have i4 : IntKind.i64.wrap ((k : Int) + 1) = (k : Int) + 1 := by rw [IntKind.wrap_i64]; omega
    have hl : (xs.take k).length = k := by rw [List.length_take]; omega
    have hown0 : Own w3 w.heap.size (.slice (some ⟨gb, 0, none⟩) k c1) (xs.take k) := by
      have := Own.mk_ (w := w3) (B := w.heap.size) (xs := xs.take k) (c := c1) hBg hblk (by omega) hcm hcs (fun i hi => ?_)
      · rw [hl] at this
        exact this
      · rw [hl] at hi
        have := hcell i (by omega)
        simpa [kd, sy, List.getD, hi] using this
    have R2 := nodes_tail hO3.nodes (k + 1) (by omega) hnc rfl
    have hr0 := Grew.refl w3
    have HOW := Lib.hid (fun W (hW : Grew w3 W) => hown0.grew hW)
    have HR2 := Lib.hid (fun W (hW : Grew w3 W) => R2.grew hW)
    clear hblk hcell hown0 R2 hO3
    go_wp2_with fail
    have hsz := Nat.le_trans hw3.size (Nat.le_refl _)
    have ho1 := HOW.out _ hr0.drew
    have ho2 := HR2.out _ hr0.drew
    have hlk : (xs.take k).length + (xs.drop (k + 1)).length ≤ 1099511627776 := by simp; omega
    go_region_law (refine step_appN (w := w3.drew) w.heap.size rfl (.tmp 50) (.tmp 54) rfl (.slice (some ⟨gb, 0, none⟩) k c1) (xs.take k) (by simp [Act.eval, Act.put]) ho1 hsz (.slice (if c1 = k + 1 then some ⟨gb, 0, none⟩ else some ⟨gb, 0 + (k + 1) * 2, none⟩) (xs.length - (k + 1)) (c1 - (k + 1))) (xs.drop (k + 1)) (by simp [Act.eval, Act.put]) ho2 hlk ?_; intro v4 w4 hown4 hg4)
    go_wp2_with fail
    all_goals
      go_ret
      exact ⟨_, _, rfl, hown4, by simp; omega, HS3.out.grew hr0.drew |>.other2 hg4 (fun b hb => by simp [Value.ownBlock] at hb; omega), (hw3.grew hr0.drew).newer2 hg4 (fun b hb => by simp [Value.ownBlock] at hb; omega)⟩
  | false =>
    simp only [beq_eq_false_iff_ne, ne_eq] at b0 b1 b2 b3 b4
    omega

theorem isEnc_pos {xs : List Nd} (h : Fm.IsEnc xs) : 0 < xs.length := by
  obtain ⟨t, rfl⟩ := h
  cases t <;> simp [Fm.enc]

def slen : Value → Nat
  | .slice _ n _ => n
  | _ => 0

theorem l02Any_g (g : Nat) (cv : Value) (N : Nat) (sz vs : Int) (hz0 : 1 ≤ sz) (hz1 : sz ≤ 20) (hv0 : 1 ≤ vs) (hv1 : vs ≤ 6) (w : World) (h : Src w g cv N) :
    Calls Tryz.prog 40 #[.pointer (some ⟨g, 0, none⟩), .int .i64 sz, .int .i64 vs, .bool true] w (Bent w g cv N 47) := by
  have HS := Lib.hid h
  have hgl := h.lt
  clear h
  go_enter Tryz.func40, Tryz.ntmps40
  go_wp2_with fail
  refine (l02Draw_g g cv N vs hv0 hv1 20 sz _ (by omega) (by omega) (by omega) HS.out).mono ?_
  rintro e w1 ⟨v1, xs, rfl, ho1, he1, hl1, hS1, hw1⟩
  have HO1 := Lib.hid ho1
  have HS1 := Lib.hid hS1
  have hp1 := isEnc_pos he1
  clear ho1 hS1 he1
  go_wp2_with fail
  refine (l01Next_c g cv N 40 _ HS1.out (by omega)).mono ?_
  rintro e w2 ⟨r, rfl, hr0, hr1, _, hS2, ho2⟩
  have HO2 := Lib.hid (own_src HO1.out hgl ho2)
  have HS2 := Lib.hid hS2
  have hw2 := hw1.trans ho2
  clear hS2 ho2 HO1 HS1 hr1
  cases b0 : (r == 0) with
  | true =>
    go_wp2_with fail
    refine (l02Bend_c g cv N v1 xs _ HS2.out HO2.out.nodes hp1 (by omega)).mono ?_
    rintro e w3 ⟨v3, ys, rfl, ho3, hl3, hS3, hw3⟩
    go_wp2_with fail
    go_ret
    exact ⟨_, _, rfl, ho3.base hw2.size, by omega, hS3, hw2.trans hw3⟩
  | false =>
  cases b1 : (r == 1) with
  | false =>
    go_wp2_with fail
    go_ret
    exact ⟨_, _, rfl, HO2.out, by omega, HS2.out, hw2⟩
  | true =>
    go_wp2_with fail
    go_loopw [9] (fun vv wr => ∃ ys, Own wr w.heap.size vv ys ∧ ys.length ≤ 47 ∧ Src wr g cv N ∧ Only g w wr) (fun vv _ => 48 - slen vv)
    case atStart => exact ⟨xs, HO2.out, by omega, HS2.out, hw2⟩
    case round =>
      obtain ⟨ys, hO, hl, hS, hB⟩ := hrel
      obtain ⟨A, c, rfl⟩ := nodes_slice hO.nodes
      have HS := Lib.hid hS
      have HO := Lib.hid hO
      clear hS hO
      cases h40 : decide ((ys.length : Int) ≤ 40) with
      | false =>
        go_wp2_with fail
        go_ret
        exact ⟨_, _, rfl, HO.out, hl, HS.out, hB⟩
      | true =>
        simp only [decide_eq_true_eq] at h40
        go_wp2_with fail
        refine (l01Next_c g cv N 60 _ HS.out (by omega)).mono ?_
        rintro e w3 ⟨r3, rfl, _, _, _, hS3, ho3⟩
        have HO3 := Lib.hid (own_src HO.out hgl ho3)
        have HS3 := Lib.hid hS3
        have hw3 := hB.trans ho3
        clear hS3 ho3 HO HS hB
        by_cases h3 : 0 < r3
        · go_wp2_with fail
          refine (l01Next_c g cv N 3 _ HS3.out (by omega)).mono ?_
          rintro e w4 ⟨r4, rfl, hr40, hr41, _, hS4, ho4⟩
          have HO4 := Lib.hid (own_src HO3.out hgl ho4)
          have HS4 := Lib.hid hS4
          have hw4 := hw3.trans ho4
          have hr42 := hr41 (by omega)
          clear hS4 ho4 HO3 HS3 hw3 hr41
          go_wp2_with fail
          refine (l02Draw_g g cv N vs hv0 hv1 6 6 _ (by omega) (by omega) (by omega) HS4.out).mono ?_
          rintro e w5 ⟨v5, zs, rfl, ho5, he5, hl5, hS5, hw5⟩
          have HO5 := Lib.hid (own_src HO4.out hgl hw5)
          have HS5 := Lib.hid hS5
          have hw6 := hw4.trans hw5
          have hp5 := isEnc_pos he5
          clear hS5 HO4 HS4 hw4 he5
          go_wp2_with fail
          refine (l02Pair_c _ _ v5 ys zs _ HO5.out.nodes ho5.nodes (by omega)).mono ?_
          rintro e w7 ⟨v7, rfl, ho7, hg7⟩
          obtain ⟨A7, c7, rfl⟩ := nodes_slice ho7.nodes
          have HL7 := Lib.hid (show (Fm.join (2 + r4) ys zs).length = 1 + ys.length + zs.length by simp [Fm.join]; omega)
          go_wp2_with fail
          go_roundw
          case rel => exact ⟨_, ho7.base hw6.size, by rw [HL7.out]; omega, HS5.out.grew hg7, hw6.grew hg7⟩
          case measure => simp only [slen]; rw [HL7.out]; omega
        · go_wp2_with fail
          go_ret
          exact ⟨_, _, rfl, HO3.out, hl, HS3.out, hw3⟩
end Go.Proofs.YtopjgcbhjhhlfaaGreat


/- FnMonotone: the draw of a poset (l16Shuffle, l16Some); only its shape is told. -/
namespace Go.Proofs.YtopjgcbhjhhlfaaGreat
open Go.RowKit

theorem wpList_appIB {ops : Array Oper} {rest : List Oper} {o : Oper} {a : Act} {Q : Exit → Act → World → Prop} {w : World} (B : Nat) (s x : Operand) (hgd : o.guard = none)
    (ho : o.op = .call { callee := .builtin .append, args := #[s, x], argTypes := #[24, 24] })
    (v : Value) (L : List Int) (hs : a.eval s = v) (hown : OwnI w B v L) (hB : B ≤ w.heap.size) (vx : Value) (k : Int) (hx : a.eval x = vx) (hr : Rd w 1 vx 1 [.int .i64 k]) (hn : L.length ≤ 1048576)
    (h : ∀ v' w', OwnI w' B v' (L ++ [k]) → w.grownBy w' v.ownBlock → wpList Tryz.prog ops Q rest (a.put o.dst v') w') : wpList Tryz.prog ops Q (o :: rest) a w := by
  obtain ⟨i0, hi0, hz0, hz1, hz2⟩ := info_parts Tryz.infoI
  refine wpList_append_rd w hgd s x _ ho B 2 i0 _ 1 8 Tryz.underlying24 hi0 hz0 hz1 hz2 rfl (by omega) v L.length (icells L) hs hown vx 1 [.int .i64 k] hx hr (by simp [Value.oneCell']) (by unfold maxLen; omega) (by omega) hB ?_
  intro v' w' h1 h2 _
  refine h v' w' ?_ h2
  unfold OwnI
  rw [List.length_append, icells_append]
  exact h1
theorem own_srcI {w w' : World} {B g : Nat} {v : Value} {L : List Int} (h : OwnI w B v L) (hg : g < B) (ho : Only g w w') : OwnI w' B v L :=
  own_only h ho (fun he => by have := own_of_ge h he; omega)
theorem own_irow {w : World} {B c : Nat} {A : Option Addr} {L : List Int} (h : OwnI w B (.slice A L.length c) L) (h0 : 0 < L.length) :
    ∃ g cur, A = some ⟨g, 0, none⟩ ∧ B ≤ g ∧ w.heap[g]? = some (.cells cur 2 (0, 0)) ∧ (L.length ≤ c ∧ c ≤ 9223372036854775807 ∧ cur.size = c) ∧ ∀ i, i < L.length → cur[i]? = some (.int .i64 (it L i)) := by
  have hI := h.ints
  rcases h.2 with ⟨he, _⟩ | ⟨g, c', cur, he, hB, hh, hnc, hcm, hcs, htk⟩
  · injection he with _ e2 _
    omega
  · injection he with e1 _ e3
    subst e1 e3
    refine ⟨g, cur, rfl, hB, hh, ⟨hnc, hcm, by omega⟩, fun i hi => ?_⟩
    rcases hI.open_ with ⟨he, _⟩ | ⟨b, o, c3, he, _, _, _, hcell⟩
    · cases he
    · injection he with e1 _ _
      injection e1 with e1
      injection e1 with e1 e2
      subst e1 e2
      have := hcell i hi w (Grew.refl _)
      rwa [Nat.zero_add, blk_cell hh] at this
theorem NRow.only {w w' : World} {g gs n c : Nat} {f : Nat → Nat} (h : NRow w g n c f) (ho : Only gs w w') (hne : g ≠ gs) : NRow w' g n c f := by
  have hl := h.lt
  obtain ⟨cur, h1, h2⟩ := h
  exact ⟨cur, (ho.block hl hne).trans h1, h2⟩

def GivesD (g : Nat) (cv : Value) (N : Nat) (m : Nat) (w : World) (e : Ending) (w' : World) : Prop := ∃ v L, e = .returned (.agg #[.int .i64 (L.length : Int), v]) ∧ OwnI w' w.heap.size v (zs L) ∧ L.length ≤ m ∧ Sm L ∧ Src w' g cv N ∧ Only g w w'
theorem and_sm {a b : Nat} (ha : a < 1073741824) : a &&& b < 1073741824 := Nat.lt_of_le_of_lt Nat.and_le_left ha

end Go.Proofs.YtopjgcbhjhhlfaaGreat


/- Frames: isFrame of the program, l05Is of the reference. -/
namespace Go.Proofs.YtopjgcbhjhhlfaaGreat
open Go.RowKit

end Go.Proofs.YtopjgcbhjhhlfaaGreat


/- The draw of a frame: l05Make, l05Some of the reference; only the shape is told. -/
namespace Go.Proofs.YtopjgcbhjhhlfaaGreat
open Go.RowKit

theorem l05Make_c (v : Value) (L : List Int) (w : World) (h : Ints w v L) (hn : L.length ≤ 1099511627776) :
    Calls Tryz.prog 86 #[v] w (GivesPs w L) := by
  have hinfo := info2F
  have HC := Lib.hid (fun W hW => ownR_c v L W (h.grew hW) hn)
  have hmx : L.length ≤ 9223372036854775807 := h.2.1
  obtain ⟨A, c, rfl⟩ := ints_slice h
  clear h
  generalize hNL : L.length = n at *
  go_enter Tryz.func86, Tryz.ntmps86
  go_wp2_with fail
  refine (HC.out _ ((Grew.refl w).alloc _)).mono ?_
  rintro e w2 ⟨v2, rfl, hO2, hg2⟩
  obtain ⟨A2, c2, rfl⟩ := ints_slice hO2.ints
  have hb2 : w2.heap[w.heap.size]? = some (.cells #[.int .i64 0, .slice none 0 0] 76 (0, 0)) := (hg2.block (by simp)).trans (blk_new w _)
  have c0 : w2.cell? ⟨w.heap.size, 0, none⟩ = some (.int .i64 0) := by rw [blk_cell hb2]; rfl
  have c1 : w2.cell? ⟨w.heap.size, 1, none⟩ = some (.slice none 0 0) := by rw [blk_cell hb2]; rfl
  have f0 := blk_frozen hb2 0
  have f1 := blk_frozen hb2 1
  have HB2 := Lib.hid hb2
  have HO2 := Lib.hid hO2
  clear hb2 hO2
  rw [hNL]
  go_wp2_with fail
  (try simp only [Exit.inBlock, Exit.then])
  refine bodyPost_ret (results_cell_row rfl _ _ w.heap.size _ _ _ _ rfl (blk_set (blk_set HB2.out 0 _) 1 _) Tryz.underlying76 rfl hinfo) rfl ?_
  have hk : Only w.heap.size w2 ((w2.setCell ⟨w.heap.size, 0, none⟩ (.int .i64 (n : Int))).setCell ⟨w.heap.size, 1, none⟩ (.slice A2 n c2)) := ((Only.refl _ _).setCell _).setCell _
  have hO := HO2.out
  rw [hNL] at hO
  refine ⟨_, by rw [hNL]; rfl, ?_, (((Grew.refl w).alloc _).trans hg2).setCell (Nat.le_refl _) _ |>.setCell (Nat.le_refl _) _⟩
  exact OwnI.base (own_only hO hk (fun hh => by have := own_of_ge hO hh; simp at this; omega)) (by simp)
set_option maxRecDepth 100000 in
set_option maxHeartbeats 1000000 in
theorem l05Some_c (g : Nat) (cv : Value) (N : Nat) (m : Nat) (hm : m ≤ 8) (w : World) (h : Src w g cv N) :
    Calls Tryz.prog 85 #[.pointer (some ⟨g, 0, none⟩), .int .i64 (m : Int)] w (GivesD g cv N m w) := by
  have hinfo := info2F
  have hgl := h.lt
  have HF := Lib.hid (fun (i : Nat) (hi : i ≤ 30) W => show Calls Tryz.prog 34 #[.int .i64 (i : Int)] W fun e w' => e = .returned (.int .i64 ((full i : Nat) : Int)) ∧ w' = W from by
    have h0 := l01Full_q i hi W
    rwa [← full_cast] at h0)
  have HFS := Lib.hid (fun (i : Nat) (hi : i ≤ 30) => show full i < 1073741824 from by
    have := pow30' hi
    have := Nat.pow_pos (n := i) (show 0 < 2 by omega)
    unfold full
    omega)
  have HAN := Lib.hid (fun a b (ha : a < 1073741824) (hb : b < 1073741824) => andNot_i64 a b (by omega) (by omega))
  have HAS := Lib.hid (fun a b (ha : a < 1073741824) => Nat.lt_of_le_of_lt (dif_le (a := a) (b := b)) ha)
  have HND := Lib.hid (fun a b (ha : a < 1073741824) (hb : b < 1073741824) => and_i64 a b (by omega) (by omega))
  have HNS := Lib.hid (fun a b (ha : a < 1073741824) => and_sm (a := a) (b := b) ha)
  have hS0 := h.grew ((Grew.refl w).alloc (.cells #[.int .i64 0, .slice none 0 0] 76))
  have HS := Lib.hid hS0
  have HB0 := Lib.hid (blk_new w (.cells #[.int .i64 0, .slice none 0 0] 76))
  have hU0 := ((Grew.refl w).alloc (.cells #[.int .i64 0, .slice none 0 0] 76)).only (g := g)
  have hsz0 : (w.alloc (.cells #[.int .i64 0, .slice none 0 0] 76)).heap.size = w.heap.size + 1 := by simp
  have HSZ := Lib.hid hsz0
  obtain ⟨w0, hw0⟩ : ∃ w0, w0 = w.alloc (.cells #[.int .i64 0, .slice none 0 0] 76) := ⟨_, rfl⟩
  rw [← hw0] at HS HB0 HSZ hU0
  clear h hS0 hsz0
  go_enter Tryz.func85, Tryz.ntmps85
  go_wp2_with fail
  simp only [← hw0]
  clear hw0
  refine (l01Next_c g cv N ((m : Int) + 1) _ HS.out (by omega)).mono ?_
  rintro e w1 ⟨r, rfl, hr0, hr1, _, hS1, ho1⟩
  obtain ⟨n, rfl⟩ : ∃ n : Nat, r = n := ⟨r.toNat, by omega⟩
  have hnm := hr1 (by omega)
  have HS1 := Lib.hid hS1
  have hs1 := ho1.size
  have HG1 := Lib.hid hs1
  clear hr1 hS1 hs1
  go_wp2_with fail
  refine (l01Next_c g cv N 3 _ (HS1.out.grew ((Grew.refl _).alloc _)) (by omega)).mono ?_
  rintro e w2 ⟨th, rfl, ht0, ht1, _, hS2, ho2⟩
  obtain ⟨th, rfl⟩ : ∃ n : Nat, th = n := ⟨th.toNat, by omega⟩
  have ht2 := ht1 (by omega)
  have HS2 := Lib.hid hS2
  have hU2 := (ho1.alloc (.cells #[] 2)).trans ho2
  have HO2 := Lib.hid (own_srcI (own_emptyI w1) (by have := HG1.out; have := HSZ.out; omega) ho2)
  have HFn := Lib.hid (HF.out n (by omega))
  have hfn := HFS.out n (by omega)
  have HFX := Lib.hid (fun j (hj : j < n) => HF.out (j + 1) (by omega))
  have HFY := Lib.hid (fun j (hj : j < n) => HFS.out (j + 1) (by omega))
  clear hS2 ht1 HS1 HS
  generalize full n = fn at *
  have hB1 : w0.heap.size ≤ w1.heap.size := HG1.out
  go_wp2_with fail
  go_loopw [6, 8, 9, 10] (fun s i _ _ wr => ∃ (j : Nat) (K : List Nat), j ≤ n ∧ i = .int .i64 j ∧ Hid (OwnI wr w1.heap.size s (zs K)) ∧ Hid (K.length = j) ∧ Hid (Sm K) ∧ Hid (Src wr g cv N) ∧ Only g w0 wr ∧ w1.heap.size ≤ wr.heap.size) (fun _ i _ _ _ => n - (intOf i).toNat)
  case atStart => exact ⟨0, [], by omega, rfl, HO2, Lib.hid rfl, Lib.hid Sm.nil_, HS2, hU2, by have := ho2.size; simp at this; omega⟩
  case round =>
    obtain ⟨j, K, hj, rfl, hO, hL, hX, hS, hU, hsz⟩ := hrel
    by_cases hlt : j < n
    · go_wp2_with fail
      refine (HFn.out _).mono ?_
      rintro e w3 ⟨rfl, rfl⟩
      go_wp2_with fail
      refine (l01Next_c g cv N ((fn : Int) + 1) _ hS.out (by omega)).mono ?_
      rintro e w4 ⟨r4, rfl, hr40, hr41, _, hS4, ho4⟩
      obtain ⟨a, rfl⟩ : ∃ n : Nat, r4 = n := ⟨r4.toNat, by omega⟩
      have hr42 := hr41 (by omega)
      have ha : a < 1073741824 := by omega
      have hU4 := hU.trans ho4
      have hz4 := Nat.le_trans hsz ho4.size
      have HO4 := Lib.hid (own_srcI hO.out (by have := HSZ.out; omega) ho4)
      have HS4 := Lib.hid hS4
      clear hS4 hr41
      go_wp2_with fail
      go_loopw [9, 10] (fun q i wr => ∃ (k b : Nat), k ≤ th ∧ i = .int .i64 k ∧ q = .int .i64 b ∧ b < 1073741824 ∧ Hid (OwnI wr w1.heap.size u6 (zs K)) ∧ Hid (Src wr g cv N) ∧ Only g w0 wr ∧ w1.heap.size ≤ wr.heap.size) (fun _ i _ => th - (intOf i).toNat)
      case atStart => exact ⟨0, a, by omega, rfl, rfl, ha, HO4, HS4, hU4, hz4⟩
      case round =>
        obtain ⟨k, b, hk, rfl, rfl, hb, hO5, hS5, hU5, hsz5⟩ := hrel
        by_cases hlk : k < th
        · go_wp2_with fail
          refine (HFn.out _).mono ?_
          rintro e w6 ⟨rfl, rfl⟩
          go_wp2_with fail
          refine (l01Next_c g cv N ((fn : Int) + 1) _ hS5.out (by omega)).mono ?_
          rintro e w7 ⟨r7, rfl, hr70, hr71, _, hS7, ho7⟩
          obtain ⟨x, rfl⟩ : ∃ n : Nat, r7 = n := ⟨r7.toNat, by omega⟩
          have hr72 := hr71 (by omega)
          have hnd := HND.out b x hb (by omega)
          have hns := HNS.out b x hb
          generalize b &&& x = y at *
          have HO7 := Lib.hid (own_srcI hO5.out (by have := HSZ.out; omega) ho7)
          have HS7 := Lib.hid hS7
          clear hS7 hr71
          go_wp2_with fail
          go_roundw
          case rel => exact ⟨k + 1, y, by omega, by go_num, rfl, hns, HO7, HS7, hU5.trans ho7, Nat.le_trans hsz5 ho7.size⟩
          case measure => simp [intOf]; omega
        · have hl : (zs K).length ≤ 1048576 := by rw [zs_len, hL.out]; omega
          obtain ⟨P, hP⟩ : ∃ P, P = zs K := ⟨_, rfl⟩
          have hO6 := hO5.out
          rw [← hP] at hO6 hl
          have HPK := Lib.hid hP
          clear hP
          have hg5 := (Grew.refl wr).alloc (.cells #[.int .i64 (b : Int)] 2)
          have hSs := hS5.out
          go_wp2_with (first | (at_builtin; refine wpList_appIB w1.heap.size _ _ rfl rfl _ P rfl (hO6.grew hg5) (Nat.le_trans hsz5 hg5.size) _ (b : Int) rfl (rd_litI _ _ _) hl ?_; intro v8 w8 hO8 hg8))
          have hge := fun k hk => own_of_ge (hO6.grew hg5) (g := k) hk
          have hU8 : Only g w0 w8 := (hU5.grew hg5).newer2 hg8 (fun k hk => Nat.le_trans hB1 (hge k hk))
          go_roundw
          case rel => exact ⟨j + 1, K ++ [b], by omega, by go_num, Lib.hid (by rw [zs_append, zs_one, ← HPK.out]; exact hO8), Lib.hid (by rw [List.length_append, hL.out]; rfl), Lib.hid (hX.out.app hb), Lib.hid ((hSs.grew hg5).other2 hg8 (fun k hk => by have := hge k hk; have := HSZ.out; omega)), hU8, Nat.le_trans (Nat.le_trans hsz5 hg5.size) hg8.size⟩
          case measure => simp [intOf]; omega
    · obtain rfl : j = n := by omega
      clear HO2 HFn
      obtain ⟨A, c, rfl⟩ := ints_sliceN hO.out.ints
      have hO0 := hO.out
      rw [hL.out] at hO0
      have HO0 := Lib.hid hO0
      rw [hL.out]
      clear hO0 hO
      go_wp2_with fail
      refine (l01Next_c g cv N 8 _ hS.out (by omega)).mono ?_
      rintro e w5 ⟨r, rfl, hr0', hr8, _, hS5, ho5⟩
      have hU5 := hU.trans ho5
      have HO5 := Lib.hid (own_srcI HO0.out (by have := HSZ.out; omega) ho5)
      have HS5 := Lib.hid hS5
      have hsz5 := Nat.le_trans hsz ho5.size
      clear hS5 HO0 hr8
      cases b0 : (r == 0) with
      | true =>
        have hK1 := Lib.hid (l01Reflexive_c (.slice A j c) K w5 HO5.out.ints hX.out (by rw [hL.out]; omega))
        rw [hL.out] at hK1
        go_wp2_with fail
        refine hK1.out.mono ?_
        rintro e x1 ⟨v1, L1, rfl, hi1, hl1, hm1, hg1⟩
        obtain ⟨A1, c1, rfl⟩ := ints_sliceN hi1.ints
        have HI1 := Lib.hid hi1
        have HM1 := Lib.hid hm1
        have HL1 := Lib.hid hl1
        rw [hl1]
        clear hi1 hm1 hl1 hK1
        have hU1x := (hU5).grew hg1
        have HS1x := Lib.hid ((HS5.out).grew hg1)
        have hMk := Lib.hid (l05Make_c (.slice A1 j c1) (zs L1) x1 ((show Ints x1 (.slice A1 j c1) (zs L1) from by have h := HI1.out.ints; rw [HL1.out] at h; exact h)) (by rw [zs_len, HL1.out]; omega))
        go_wp2_with fail
        refine hMk.out.mono ?_
        rintro e w6 ⟨v6, rfl, hO6, hg6⟩
        obtain ⟨A6, c6, rfl⟩ := ints_slice hO6.ints
        have hU6 := (hU1x).grew hg6
        have hb6 : w6.heap[w.heap.size]? = some (.cells #[.int .i64 0, .slice none 0 0] 76 (0, 0)) := (hU6.block (by have := HSZ.out; omega) (by omega)).trans HB0.out
        have c0 : w6.cell? ⟨w.heap.size, 0, none⟩ = some (.int .i64 0) := by rw [blk_cell hb6]; rfl
        have c1 : w6.cell? ⟨w.heap.size, 1, none⟩ = some (.slice none 0 0) := by rw [blk_cell hb6]; rfl
        have f0 := blk_frozen hb6 0
        have f1 := blk_frozen hb6 1
        have HB6 := Lib.hid hb6
        have HO6 := Lib.hid hO6
        clear hb6 hO6
        go_wp2_with fail
        (try simp only [Exit.inBlock, Exit.then])
        refine bodyPost_ret (results_cell_row rfl _ _ w.heap.size _ _ _ _ rfl (blk_set (blk_set HB6.out 0 _) 1 _) Tryz.underlying76 rfl hinfo) rfl ?_
        have hk : Only w.heap.size w6 ((w6.setCell ⟨w.heap.size, 0, none⟩ (.int .i64 ((zs L1).length : Int))).setCell ⟨w.heap.size, 1, none⟩ (.slice A6 (zs L1).length c6)) := ((Only.refl _ _).setCell _).setCell _
        have hz6 : w.heap.size + 1 ≤ x1.heap.size := by have := HSZ.out; have := (hU1x).size; omega
        have hO7 := own_only HO6.out hk (fun hh => by have := own_of_ge HO6.out hh; omega)
        refine ⟨_, L1, by rw [← zs_len]; rfl, own_base hO7 (by omega), by rw [HL1.out]; omega, HM1.out, ((HS1x.out).grew hg6).other hk hgl, (hU0.trans hU6).newer hk (Nat.le_refl _)⟩
      | false =>
      cases b1 : (r == 1) with
      | true =>
        have hK1 := Lib.hid (l01Closure_c (.slice A j c) K w5 HO5.out.ints hX.out (by rw [hL.out]; omega))
        rw [hL.out] at hK1
        go_wp2_with fail
        refine hK1.out.mono ?_
        rintro e x1 ⟨v1, L1, rfl, hi1, hl1, hm1, hg1⟩
        obtain ⟨A1, c1, rfl⟩ := ints_sliceN hi1.ints
        have HI1 := Lib.hid hi1
        have HM1 := Lib.hid hm1
        have HL1 := Lib.hid hl1
        rw [hl1]
        clear hi1 hm1 hl1 hK1
        have hU1x := (hU5).grew hg1
        have HS1x := Lib.hid ((HS5.out).grew hg1)
        have hMk := Lib.hid (l05Make_c (.slice A1 j c1) (zs L1) x1 ((show Ints x1 (.slice A1 j c1) (zs L1) from by have h := HI1.out.ints; rw [HL1.out] at h; exact h)) (by rw [zs_len, HL1.out]; omega))
        go_wp2_with fail
        refine hMk.out.mono ?_
        rintro e w6 ⟨v6, rfl, hO6, hg6⟩
        obtain ⟨A6, c6, rfl⟩ := ints_slice hO6.ints
        have hU6 := (hU1x).grew hg6
        have hb6 : w6.heap[w.heap.size]? = some (.cells #[.int .i64 0, .slice none 0 0] 76 (0, 0)) := (hU6.block (by have := HSZ.out; omega) (by omega)).trans HB0.out
        have c0 : w6.cell? ⟨w.heap.size, 0, none⟩ = some (.int .i64 0) := by rw [blk_cell hb6]; rfl
        have c1 : w6.cell? ⟨w.heap.size, 1, none⟩ = some (.slice none 0 0) := by rw [blk_cell hb6]; rfl
        have f0 := blk_frozen hb6 0
        have f1 := blk_frozen hb6 1
        have HB6 := Lib.hid hb6
        have HO6 := Lib.hid hO6
        clear hb6 hO6
        go_wp2_with fail
        (try simp only [Exit.inBlock, Exit.then])
        refine bodyPost_ret (results_cell_row rfl _ _ w.heap.size _ _ _ _ rfl (blk_set (blk_set HB6.out 0 _) 1 _) Tryz.underlying76 rfl hinfo) rfl ?_
        have hk : Only w.heap.size w6 ((w6.setCell ⟨w.heap.size, 0, none⟩ (.int .i64 ((zs L1).length : Int))).setCell ⟨w.heap.size, 1, none⟩ (.slice A6 (zs L1).length c6)) := ((Only.refl _ _).setCell _).setCell _
        have hz6 : w.heap.size + 1 ≤ x1.heap.size := by have := HSZ.out; have := (hU1x).size; omega
        have hO7 := own_only HO6.out hk (fun hh => by have := own_of_ge HO6.out hh; omega)
        refine ⟨_, L1, by rw [← zs_len]; rfl, own_base hO7 (by omega), by rw [HL1.out]; omega, HM1.out, ((HS1x.out).grew hg6).other hk hgl, (hU0.trans hU6).newer hk (Nat.le_refl _)⟩
      | false =>
      cases b2 : (r == 2) with
      | true =>
        have hK1 := Lib.hid (l01Closure_c (.slice A j c) K w5 HO5.out.ints hX.out (by rw [hL.out]; omega))
        rw [hL.out] at hK1
        go_wp2_with fail
        refine hK1.out.mono ?_
        rintro e x1 ⟨v1, L1, rfl, hi1, hl1, hm1, hg1⟩
        obtain ⟨A1, c1, rfl⟩ := ints_sliceN hi1.ints
        have HI1 := Lib.hid hi1
        have HM1 := Lib.hid hm1
        have HL1 := Lib.hid hl1
        rw [hl1]
        clear hi1 hm1 hl1 hK1
        have hU1x := (hU5).grew hg1
        have HS1x := Lib.hid ((HS5.out).grew hg1)
        have hK2 := Lib.hid (l01Reflexive_c (.slice A1 j c1) L1 x1 (show Ints x1 (.slice A1 j c1) (zs L1) from by have h := HI1.out.ints; rw [HL1.out] at h; exact h) HM1.out (by rw [HL1.out]; omega))
        rw [HL1.out] at hK2
        go_wp2_with fail
        refine hK2.out.mono ?_
        rintro e x2 ⟨v2, L2, rfl, hi2, hl2, hm2, hg2⟩
        obtain ⟨A2, c2, rfl⟩ := ints_sliceN hi2.ints
        have HI2 := Lib.hid hi2
        have HM2 := Lib.hid hm2
        have HL2 := Lib.hid hl2
        rw [hl2]
        clear hi2 hm2 hl2 hK2
        have hU2x := (hU1x).grew hg2
        have HS2x := Lib.hid ((HS1x.out).grew hg2)
        have hMk := Lib.hid (l05Make_c (.slice A2 j c2) (zs L2) x2 ((show Ints x2 (.slice A2 j c2) (zs L2) from by have h := HI2.out.ints; rw [HL2.out] at h; exact h)) (by rw [zs_len, HL2.out]; omega))
        go_wp2_with fail
        refine hMk.out.mono ?_
        rintro e w6 ⟨v6, rfl, hO6, hg6⟩
        obtain ⟨A6, c6, rfl⟩ := ints_slice hO6.ints
        have hU6 := (hU2x).grew hg6
        have hb6 : w6.heap[w.heap.size]? = some (.cells #[.int .i64 0, .slice none 0 0] 76 (0, 0)) := (hU6.block (by have := HSZ.out; omega) (by omega)).trans HB0.out
        have c0 : w6.cell? ⟨w.heap.size, 0, none⟩ = some (.int .i64 0) := by rw [blk_cell hb6]; rfl
        have c1 : w6.cell? ⟨w.heap.size, 1, none⟩ = some (.slice none 0 0) := by rw [blk_cell hb6]; rfl
        have f0 := blk_frozen hb6 0
        have f1 := blk_frozen hb6 1
        have HB6 := Lib.hid hb6
        have HO6 := Lib.hid hO6
        clear hb6 hO6
        go_wp2_with fail
        (try simp only [Exit.inBlock, Exit.then])
        refine bodyPost_ret (results_cell_row rfl _ _ w.heap.size _ _ _ _ rfl (blk_set (blk_set HB6.out 0 _) 1 _) Tryz.underlying76 rfl hinfo) rfl ?_
        have hk : Only w.heap.size w6 ((w6.setCell ⟨w.heap.size, 0, none⟩ (.int .i64 ((zs L2).length : Int))).setCell ⟨w.heap.size, 1, none⟩ (.slice A6 (zs L2).length c6)) := ((Only.refl _ _).setCell _).setCell _
        have hz6 : w.heap.size + 1 ≤ x2.heap.size := by have := HSZ.out; have := (hU2x).size; omega
        have hO7 := own_only HO6.out hk (fun hh => by have := own_of_ge HO6.out hh; omega)
        refine ⟨_, L2, by rw [← zs_len]; rfl, own_base hO7 (by omega), by rw [HL2.out]; omega, HM2.out, ((HS2x.out).grew hg6).other hk hgl, (hU0.trans hU6).newer hk (Nat.le_refl _)⟩
      | false =>
      cases b3 : (r == 3) with
      | true =>
        by_cases hj0 : 0 < j
        · obtain ⟨gr, rfl, hgr, hR0⟩ := own_nrow HO5.out hL.out hj0
          have HR0 := Lib.hid hR0
          have HZ := Lib.hid (fun i (hi : i < j) => hX.out.at_ (show i < K.length by rw [hL.out]; exact hi))
          clear hR0 HO5
          have hgg : gr ≠ g := by have := HSZ.out; omega
          have HAN := Lib.hid (fun a b (ha : a < 1073741824) (hb : b < 1073741824) => andNot_i64 a b (by omega) (by omega))
          go_wp2_with fail
          go_loopw [11] (fun i wr => ∃ (q : Nat) (f : Nat → Nat), q ≤ j ∧ i = .int .i64 q ∧ Hid (NRow wr gr j c f) ∧ Hid (∀ x, x < j → f x < 1073741824) ∧ Hid (Src wr g cv N) ∧ Only g w0 wr ∧ w1.heap.size ≤ wr.heap.size) (fun i _ => j - (intOf i).toNat)
          case atStart => exact ⟨0, _, by omega, rfl, HR0, HZ, HS5, hU5, hsz5⟩
          case round =>
            obtain ⟨q, f, hq, rfl, hR, hZ, hSq, hUq, hszq⟩ := hrel
            by_cases hlq : q < j
            · have c2' : ∀ W, Grew wr W → W.cell? ⟨gr, q, none⟩ = some (.int .i64 ((f q : Nat) : Int)) := fun W hW => (hR.out.grew hW).cell hlq
              have c4' : ∀ W, Grew wr W → W.frozen? ⟨gr, q, none⟩ = false := fun W hW => (hR.out.grew hW).free q
              have ho := HAN.out (f q) (full (q + 1)) (hZ.out q hlq) (HFY.out q hlq)
              have hos := Lib.hid (HAS.out (f q) (full (q + 1)) (hZ.out q hlq))
              have hw1 : IntKind.i64.wrap ((q : Int) + 1) = (q : Int) + 1 := by rw [IntKind.wrap_i64]; omega
              have hFq := Lib.hid (show ∀ W, Calls Tryz.prog 34 #[.int .i64 ((q : Int) + 1)] W fun e w' => e = .returned (.int .i64 ((full (q + 1) : Nat) : Int)) ∧ w' = W from HFX.out q hlq)
              have hr1 := Grew.refl wr
              have hrd := hr1.drew
              generalize f q = y at *
              generalize full (q + 1) = fq at *
              generalize hdd : dif y fq = dd at *
              have hi0 : (0 : Int) ≤ (q : Int) := by omega
              have hi6 : (q : Int) < (j : Int) := by omega
              go_wp2_with fail
              go_region_law (first
                | (go_simp; go_at_call 34; refine (hFq.out _).mono ?_; rintro e w9 ⟨rfl, hw9⟩; rw [hw9]; clear hw9)
                | (go_at_call 34; refine (hFq.out _).mono ?_; rintro e w9 ⟨rfl, hw9⟩; rw [hw9]; clear hw9))
              all_goals
                go_wp2_with fail
                go_roundw
                case rel =>
                  have e1 : (fun p => if p = q then dd else f p) q = dd := if_pos rfl
                  have e2 : ∀ p, p < j → p ≠ q → (fun p => if p = q then dd else f p) p = f p := fun p _ hp => if_neg hp
                  have hkb : ∀ W, Grew wr W → Only gr W (W.setCell ⟨gr, q, none⟩ (.int .i64 (dd : Int))) := fun W _ => (Only.refl _ _).setCell _
                  refine ⟨q + 1, fun p => if p = q then dd else f p, by omega, by go_num, Lib.hid ((hR.out.set hlq e1 e2).grew ((Grew.refl _).drew)), Lib.hid (fun x hx => ?_), Lib.hid ((hSq.out.other (hkb wr hr1) (by first | exact hgg | exact hgg.symm | (have := HSZ.out; omega))).grew ((Grew.refl _).drew)), (hUq.newer (hkb wr hr1) (by have := HSZ.out; omega)).drew, by simpa using hszq⟩
                  by_cases hxk : x = q
                  · rw [hxk, e1]; exact hos.out
                  · rw [e2 x hx hxk]; exact hZ.out x hx
                case measure => simp [intOf]; omega
            · obtain rfl : q = j := by omega
              have hOx := hR.out.own hgr
              have HOx := Lib.hid hOx
              have HMx := Lib.hid (show Sm ((List.range q).map f) from fun m hm => by
                rw [List.mem_map] at hm
                obtain ⟨i, hi, rfl⟩ := hm
                exact hZ.out i (List.mem_range.1 hi))
              have HLx := Lib.hid (show ((List.range q).map f).length = q by simp)
              clear hOx
              generalize (List.range q).map f = Kx at *
              have hMk := Lib.hid (l05Make_c (.slice (some ⟨gr, 0, none⟩) q c) (zs Kx) wr (HOx.out.ints) (by rw [zs_len, HLx.out]; omega))
              go_wp2_with fail
              refine hMk.out.mono ?_
              rintro e w6 ⟨v6, rfl, hO6, hg6⟩
              obtain ⟨A6, c6, rfl⟩ := ints_slice hO6.ints
              have hU6 := (hUq).grew hg6
              have hb6 : w6.heap[w.heap.size]? = some (.cells #[.int .i64 0, .slice none 0 0] 76 (0, 0)) := (hU6.block (by have := HSZ.out; omega) (by omega)).trans HB0.out
              have c0 : w6.cell? ⟨w.heap.size, 0, none⟩ = some (.int .i64 0) := by rw [blk_cell hb6]; rfl
              have c1 : w6.cell? ⟨w.heap.size, 1, none⟩ = some (.slice none 0 0) := by rw [blk_cell hb6]; rfl
              have f0 := blk_frozen hb6 0
              have f1 := blk_frozen hb6 1
              have HB6 := Lib.hid hb6
              have HO6 := Lib.hid hO6
              clear hb6 hO6
              go_wp2_with fail
              (try simp only [Exit.inBlock, Exit.then])
              refine bodyPost_ret (results_cell_row rfl _ _ w.heap.size _ _ _ _ rfl (blk_set (blk_set HB6.out 0 _) 1 _) Tryz.underlying76 rfl hinfo) rfl ?_
              have hk : Only w.heap.size w6 ((w6.setCell ⟨w.heap.size, 0, none⟩ (.int .i64 ((zs Kx).length : Int))).setCell ⟨w.heap.size, 1, none⟩ (.slice A6 (zs Kx).length c6)) := ((Only.refl _ _).setCell _).setCell _
              have hz6 : w.heap.size + 1 ≤ wr.heap.size := by have := HSZ.out; have := (hUq).size; omega
              have hO7 := own_only HO6.out hk (fun hh => by have := own_of_ge HO6.out hh; omega)
              refine ⟨_, Kx, by rw [← zs_len]; rfl, own_base hO7 (by omega), by rw [HLx.out]; omega, HMx.out, ((hSq.out).grew hg6).other hk hgl, (hU0.trans hU6).newer hk (Nat.le_refl _)⟩
        · obtain rfl : j = 0 := by omega
          go_wp2_with fail
          refine wp_loop_rounds 1 ?_; rw [rounds_succ]
          have hMk := Lib.hid (l05Make_c (.slice A 0 c) (zs K) w5 (HO5.out.ints) (by rw [zs_len, hL.out]; omega))
          go_wp2_with fail
          refine hMk.out.mono ?_
          rintro e w6 ⟨v6, rfl, hO6, hg6⟩
          obtain ⟨A6, c6, rfl⟩ := ints_slice hO6.ints
          have hU6 := (hU5).grew hg6
          have hb6 : w6.heap[w.heap.size]? = some (.cells #[.int .i64 0, .slice none 0 0] 76 (0, 0)) := (hU6.block (by have := HSZ.out; omega) (by omega)).trans HB0.out
          have c0 : w6.cell? ⟨w.heap.size, 0, none⟩ = some (.int .i64 0) := by rw [blk_cell hb6]; rfl
          have c1 : w6.cell? ⟨w.heap.size, 1, none⟩ = some (.slice none 0 0) := by rw [blk_cell hb6]; rfl
          have f0 := blk_frozen hb6 0
          have f1 := blk_frozen hb6 1
          have HB6 := Lib.hid hb6
          have HO6 := Lib.hid hO6
          clear hb6 hO6
          go_wp2_with fail
          (try simp only [Exit.inBlock, Exit.then])
          refine bodyPost_ret (results_cell_row rfl _ _ w.heap.size _ _ _ _ rfl (blk_set (blk_set HB6.out 0 _) 1 _) Tryz.underlying76 rfl hinfo) rfl ?_
          have hk : Only w.heap.size w6 ((w6.setCell ⟨w.heap.size, 0, none⟩ (.int .i64 ((zs K).length : Int))).setCell ⟨w.heap.size, 1, none⟩ (.slice A6 (zs K).length c6)) := ((Only.refl _ _).setCell _).setCell _
          have hz6 : w.heap.size + 1 ≤ w5.heap.size := by have := HSZ.out; have := (hU5).size; omega
          have hO7 := own_only HO6.out hk (fun hh => by have := own_of_ge HO6.out hh; omega)
          refine ⟨_, K, by rw [← zs_len]; rfl, own_base hO7 (by omega), by rw [hL.out]; omega, hX.out, ((HS5.out).grew hg6).other hk hgl, (hU0.trans hU6).newer hk (Nat.le_refl _)⟩
      | false =>
      cases b4 : (r == 4) with
      | true =>
        by_cases hj0 : 0 < j
        · obtain ⟨gr, rfl, hgr, hR0⟩ := own_nrow HO5.out hL.out hj0
          have HR0 := Lib.hid hR0
          have HZ := Lib.hid (fun i (hi : i < j) => hX.out.at_ (show i < K.length by rw [hL.out]; exact hi))
          clear hR0 HO5
          have hgg : gr ≠ g := by have := HSZ.out; omega
          have HAN := Lib.hid (fun a b (ha : a < 1073741824) (hb : b < 1073741824) => andNot_i64 a b (by omega) (by omega))
          go_wp2_with fail
          go_loopw [12] (fun i wr => ∃ (q : Nat) (f : Nat → Nat), q ≤ j ∧ i = .int .i64 q ∧ Hid (NRow wr gr j c f) ∧ Hid (∀ x, x < j → f x < 1073741824) ∧ Hid (Src wr g cv N) ∧ Only g w0 wr ∧ w1.heap.size ≤ wr.heap.size) (fun i _ => j - (intOf i).toNat)
          case atStart => exact ⟨0, _, by omega, rfl, HR0, HZ, HS5, hU5, hsz5⟩
          case round =>
            obtain ⟨q, f, hq, rfl, hR, hZ, hSq, hUq, hszq⟩ := hrel
            by_cases hlq : q < j
            · have c2' : ∀ W, Grew wr W → W.cell? ⟨gr, q, none⟩ = some (.int .i64 ((f q : Nat) : Int)) := fun W hW => (hR.out.grew hW).cell hlq
              have c4' : ∀ W, Grew wr W → W.frozen? ⟨gr, q, none⟩ = false := fun W hW => (hR.out.grew hW).free q
              have ho := HAN.out (f q) (full (q + 1)) (hZ.out q hlq) (HFY.out q hlq)
              have hos := Lib.hid (HAS.out (f q) (full (q + 1)) (hZ.out q hlq))
              have hw1 : IntKind.i64.wrap ((q : Int) + 1) = (q : Int) + 1 := by rw [IntKind.wrap_i64]; omega
              have hFq := Lib.hid (show ∀ W, Calls Tryz.prog 34 #[.int .i64 ((q : Int) + 1)] W fun e w' => e = .returned (.int .i64 ((full (q + 1) : Nat) : Int)) ∧ w' = W from HFX.out q hlq)
              have hr1 := Grew.refl wr
              have hrd := hr1.drew
              generalize f q = y at *
              generalize full (q + 1) = fq at *
              generalize hdd : dif y fq = dd at *
              have hi0 : (0 : Int) ≤ (q : Int) := by omega
              have hi6 : (q : Int) < (j : Int) := by omega
              go_wp2_with fail
              go_region_law (first
                | (go_simp; go_at_call 34; refine (hFq.out _).mono ?_; rintro e w9 ⟨rfl, hw9⟩; rw [hw9]; clear hw9)
                | (go_at_call 34; refine (hFq.out _).mono ?_; rintro e w9 ⟨rfl, hw9⟩; rw [hw9]; clear hw9))
              all_goals
                go_wp2_with fail
                go_roundw
                case rel =>
                  have e1 : (fun p => if p = q then dd else f p) q = dd := if_pos rfl
                  have e2 : ∀ p, p < j → p ≠ q → (fun p => if p = q then dd else f p) p = f p := fun p _ hp => if_neg hp
                  have hkb : ∀ W, Grew wr W → Only gr W (W.setCell ⟨gr, q, none⟩ (.int .i64 (dd : Int))) := fun W _ => (Only.refl _ _).setCell _
                  refine ⟨q + 1, fun p => if p = q then dd else f p, by omega, by go_num, Lib.hid ((hR.out.set hlq e1 e2).grew ((Grew.refl _).drew)), Lib.hid (fun x hx => ?_), Lib.hid ((hSq.out.other (hkb wr hr1) (by first | exact hgg | exact hgg.symm | (have := HSZ.out; omega))).grew ((Grew.refl _).drew)), (hUq.newer (hkb wr hr1) (by have := HSZ.out; omega)).drew, by simpa using hszq⟩
                  by_cases hxk : x = q
                  · rw [hxk, e1]; exact hos.out
                  · rw [e2 x hx hxk]; exact hZ.out x hx
                case measure => simp [intOf]; omega
            · obtain rfl : q = j := by omega
              have hOx := hR.out.own hgr
              have HOx := Lib.hid hOx
              have HMx := Lib.hid (show Sm ((List.range q).map f) from fun m hm => by
                rw [List.mem_map] at hm
                obtain ⟨i, hi, rfl⟩ := hm
                exact hZ.out i (List.mem_range.1 hi))
              have HLx := Lib.hid (show ((List.range q).map f).length = q by simp)
              clear hOx
              generalize (List.range q).map f = Kx at *
              have hK1 := Lib.hid (l01Closure_c (.slice (some ⟨gr, 0, none⟩) q c) Kx wr HOx.out.ints HMx.out (by rw [HLx.out]; omega))
              rw [HLx.out] at hK1
              go_wp2_with fail
              refine hK1.out.mono ?_
              rintro e x1 ⟨v1, L1, rfl, hi1, hl1, hm1, hg1⟩
              obtain ⟨A1, c1, rfl⟩ := ints_sliceN hi1.ints
              have HI1 := Lib.hid hi1
              have HM1 := Lib.hid hm1
              have HL1 := Lib.hid hl1
              rw [hl1]
              clear hi1 hm1 hl1 hK1
              have hU1x := (hUq).grew hg1
              have HS1x := Lib.hid ((hSq.out).grew hg1)
              have hMk := Lib.hid (l05Make_c (.slice A1 q c1) (zs L1) x1 ((show Ints x1 (.slice A1 q c1) (zs L1) from by have h := HI1.out.ints; rw [HL1.out] at h; exact h)) (by rw [zs_len, HL1.out]; omega))
              go_wp2_with fail
              refine hMk.out.mono ?_
              rintro e w6 ⟨v6, rfl, hO6, hg6⟩
              obtain ⟨A6, c6, rfl⟩ := ints_slice hO6.ints
              have hU6 := (hU1x).grew hg6
              have hb6 : w6.heap[w.heap.size]? = some (.cells #[.int .i64 0, .slice none 0 0] 76 (0, 0)) := (hU6.block (by have := HSZ.out; omega) (by omega)).trans HB0.out
              have c0 : w6.cell? ⟨w.heap.size, 0, none⟩ = some (.int .i64 0) := by rw [blk_cell hb6]; rfl
              have c1 : w6.cell? ⟨w.heap.size, 1, none⟩ = some (.slice none 0 0) := by rw [blk_cell hb6]; rfl
              have f0 := blk_frozen hb6 0
              have f1 := blk_frozen hb6 1
              have HB6 := Lib.hid hb6
              have HO6 := Lib.hid hO6
              clear hb6 hO6
              go_wp2_with fail
              (try simp only [Exit.inBlock, Exit.then])
              refine bodyPost_ret (results_cell_row rfl _ _ w.heap.size _ _ _ _ rfl (blk_set (blk_set HB6.out 0 _) 1 _) Tryz.underlying76 rfl hinfo) rfl ?_
              have hk : Only w.heap.size w6 ((w6.setCell ⟨w.heap.size, 0, none⟩ (.int .i64 ((zs L1).length : Int))).setCell ⟨w.heap.size, 1, none⟩ (.slice A6 (zs L1).length c6)) := ((Only.refl _ _).setCell _).setCell _
              have hz6 : w.heap.size + 1 ≤ x1.heap.size := by have := HSZ.out; have := (hU1x).size; omega
              have hO7 := own_only HO6.out hk (fun hh => by have := own_of_ge HO6.out hh; omega)
              refine ⟨_, L1, by rw [← zs_len]; rfl, own_base hO7 (by omega), by rw [HL1.out]; omega, HM1.out, ((HS1x.out).grew hg6).other hk hgl, (hU0.trans hU6).newer hk (Nat.le_refl _)⟩
        · obtain rfl : j = 0 := by omega
          go_wp2_with fail
          refine wp_loop_rounds 1 ?_; rw [rounds_succ]
          have hK1 := Lib.hid (l01Closure_c (.slice A 0 c) K w5 HO5.out.ints hX.out (by rw [hL.out]; omega))
          rw [hL.out] at hK1
          go_wp2_with fail
          refine hK1.out.mono ?_
          rintro e x1 ⟨v1, L1, rfl, hi1, hl1, hm1, hg1⟩
          obtain ⟨A1, c1, rfl⟩ := ints_sliceN hi1.ints
          have HI1 := Lib.hid hi1
          have HM1 := Lib.hid hm1
          have HL1 := Lib.hid hl1
          rw [hl1]
          clear hi1 hm1 hl1 hK1
          have hU1x := (hU5).grew hg1
          have HS1x := Lib.hid ((HS5.out).grew hg1)
          have hMk := Lib.hid (l05Make_c (.slice A1 0 c1) (zs L1) x1 ((show Ints x1 (.slice A1 0 c1) (zs L1) from by have h := HI1.out.ints; rw [HL1.out] at h; exact h)) (by rw [zs_len, HL1.out]; omega))
          go_wp2_with fail
          refine hMk.out.mono ?_
          rintro e w6 ⟨v6, rfl, hO6, hg6⟩
          obtain ⟨A6, c6, rfl⟩ := ints_slice hO6.ints
          have hU6 := (hU1x).grew hg6
          have hb6 : w6.heap[w.heap.size]? = some (.cells #[.int .i64 0, .slice none 0 0] 76 (0, 0)) := (hU6.block (by have := HSZ.out; omega) (by omega)).trans HB0.out
          have c0 : w6.cell? ⟨w.heap.size, 0, none⟩ = some (.int .i64 0) := by rw [blk_cell hb6]; rfl
          have c1 : w6.cell? ⟨w.heap.size, 1, none⟩ = some (.slice none 0 0) := by rw [blk_cell hb6]; rfl
          have f0 := blk_frozen hb6 0
          have f1 := blk_frozen hb6 1
          have HB6 := Lib.hid hb6
          have HO6 := Lib.hid hO6
          clear hb6 hO6
          go_wp2_with fail
          (try simp only [Exit.inBlock, Exit.then])
          refine bodyPost_ret (results_cell_row rfl _ _ w.heap.size _ _ _ _ rfl (blk_set (blk_set HB6.out 0 _) 1 _) Tryz.underlying76 rfl hinfo) rfl ?_
          have hk : Only w.heap.size w6 ((w6.setCell ⟨w.heap.size, 0, none⟩ (.int .i64 ((zs L1).length : Int))).setCell ⟨w.heap.size, 1, none⟩ (.slice A6 (zs L1).length c6)) := ((Only.refl _ _).setCell _).setCell _
          have hz6 : w.heap.size + 1 ≤ x1.heap.size := by have := HSZ.out; have := (hU1x).size; omega
          have hO7 := own_only HO6.out hk (fun hh => by have := own_of_ge HO6.out hh; omega)
          refine ⟨_, L1, by rw [← zs_len]; rfl, own_base hO7 (by omega), by rw [HL1.out]; omega, HM1.out, ((HS1x.out).grew hg6).other hk hgl, (hU0.trans hU6).newer hk (Nat.le_refl _)⟩
      | false =>
        have hMk := Lib.hid (l05Make_c (.slice A j c) (zs K) w5 (HO5.out.ints) (by rw [zs_len, hL.out]; omega))
        go_wp2_with fail
        refine hMk.out.mono ?_
        rintro e w6 ⟨v6, rfl, hO6, hg6⟩
        obtain ⟨A6, c6, rfl⟩ := ints_slice hO6.ints
        have hU6 := (hU5).grew hg6
        have hb6 : w6.heap[w.heap.size]? = some (.cells #[.int .i64 0, .slice none 0 0] 76 (0, 0)) := (hU6.block (by have := HSZ.out; omega) (by omega)).trans HB0.out
        have c0 : w6.cell? ⟨w.heap.size, 0, none⟩ = some (.int .i64 0) := by rw [blk_cell hb6]; rfl
        have c1 : w6.cell? ⟨w.heap.size, 1, none⟩ = some (.slice none 0 0) := by rw [blk_cell hb6]; rfl
        have f0 := blk_frozen hb6 0
        have f1 := blk_frozen hb6 1
        have HB6 := Lib.hid hb6
        have HO6 := Lib.hid hO6
        clear hb6 hO6
        go_wp2_with fail
        (try simp only [Exit.inBlock, Exit.then])
        refine bodyPost_ret (results_cell_row rfl _ _ w.heap.size _ _ _ _ rfl (blk_set (blk_set HB6.out 0 _) 1 _) Tryz.underlying76 rfl hinfo) rfl ?_
        have hk : Only w.heap.size w6 ((w6.setCell ⟨w.heap.size, 0, none⟩ (.int .i64 ((zs K).length : Int))).setCell ⟨w.heap.size, 1, none⟩ (.slice A6 (zs K).length c6)) := ((Only.refl _ _).setCell _).setCell _
        have hz6 : w.heap.size + 1 ≤ w5.heap.size := by have := HSZ.out; have := (hU5).size; omega
        have hO7 := own_only HO6.out hk (fun hh => by have := own_of_ge HO6.out hh; omega)
        refine ⟨_, K, by rw [← zs_len]; rfl, own_base hO7 (by omega), by rw [hL.out]; omega, hX.out, ((HS5.out).grew hg6).other hk hgl, (hU0.trans hU6).newer hk (Nat.le_refl _)⟩
end Go.Proofs.YtopjgcbhjhhlfaaGreat


/- l15Some of the reference: the algebra of a drawn frame. -/
namespace Go.Proofs.YtopjgcbhjhhlfaaGreat
open Go.RowKit

def GivesAl (g : Nat) (cv : Value) (N : Nat) (m : Nat) (w : World) (e : Ending) (w' : World) : Prop := ∃ (n : Nat) (v : Value) (L : List Nat), e = .returned (.agg #[.int .i64 (n : Int), v]) ∧ OwnI w' w.heap.size v (zs L) ∧ n ≤ m ∧ L.length = 2 ^ n ∧ Src w' g cv N ∧ Only g w w'
set_option maxHeartbeats 2000000 in
theorem l15Some_c (g : Nat) (cv : Value) (N : Nat) (m : Nat) (hm : m ≤ 5) (w : World) (h : Src w g cv N) :
    Calls Tryz.prog 49 #[.pointer (some ⟨g, 0, none⟩), .int .i64 (m : Int)] w (GivesAl g cv N m w) := by
  have hinfo : (Tryz.prog.info? 26).map (·.size) = some 2 := by kernel_rfl
  have hgl := h.lt
  have HS := Lib.hid (h.grew ((Grew.refl w).alloc (.cells #[.int .i64 0, .slice none 0 0] 26)))
  have HB0 := Lib.hid (blk_new w (.cells #[.int .i64 0, .slice none 0 0] 26))
  have hU0 := ((Grew.refl w).alloc (.cells #[.int .i64 0, .slice none 0 0] 26)).only (g := g)
  have hsz0 : (w.alloc (.cells #[.int .i64 0, .slice none 0 0] 26)).heap.size = w.heap.size + 1 := by simp
  obtain ⟨w0, hw0⟩ : ∃ w0, w0 = w.alloc (.cells #[.int .i64 0, .slice none 0 0] 26) := ⟨_, rfl⟩
  rw [← hw0] at HS HB0 hsz0 hU0
  clear h
  go_enter Tryz.func49, Tryz.ntmps49
  go_wp2_with fail
  simp only [← hw0]
  clear hw0
  refine (l05Some_c g cv N m (by omega) w0 HS.out).mono ?_
  rintro e w1 ⟨v1, L1, rfl, hO1, hl1, hm1, hS1, ho1⟩
  have HS1 := Lib.hid hS1
  have HOF := Lib.hid (fun W (hW : Grew w1 W) => l15Of_c L1.length v1 L1 W (hO1.ints.grew hW) rfl hm1 (by omega))
  have HLN := Lib.hid (show ((List.range (2 ^ L1.length)).map (bx L1)).length = 2 ^ L1.length by simp)
  obtain ⟨A1, c1, rfl⟩ := ints_slice hO1.ints
  have hgt : ((m : Int) < (L1.length : Int)) = False := eq_false (by omega)
  have hr1 := (ho1.block (blk_lt HB0.out) (by omega)).trans HB0.out
  have HR1 := Lib.hid hr1
  have hU1 := Lib.hid (hU0.trans ho1)
  have hz1 := ho1.size
  clear hO1 hS1 ho1 hU0 hr1 hm1
  generalize (zs L1).length = l1 at *
  generalize (List.range (2 ^ L1.length)).map (bx L1) = K1 at *
  generalize hn : L1.length = n at *
  go_wp2_with fail
  have hga := (Grew.refl w1).alloc (.cells #[.int .i64 (n : Int), .slice A1 l1 c1] 76)
  refine (HOF.out _ hga).mono ?_
  rintro e w3 ⟨u, rfl, hO3, hg3⟩
  have g13 := hga.trans hg3
  have hb3 := (g13.block (blk_lt HR1.out)).trans HR1.out
  have f0 := blk_frozen hb3 0
  have f1 := blk_frozen hb3 1
  have k0 : w3.cell? ⟨w.heap.size, 0, none⟩ = some (.int .i64 0) := by rw [blk_cell hb3]; rfl
  have k1 : w3.cell? ⟨w.heap.size, 1, none⟩ = some (.slice none 0 0) := by rw [blk_cell hb3]; rfl
  have HB3 := Lib.hid hb3
  have hsa := hga.size
  have HO3 := Lib.hid (OwnI.base hO3 (show w.heap.size + 1 ≤ _ by omega))
  obtain ⟨A3, c3, rfl⟩ := ints_slice hO3.ints
  have HG := Lib.hid g13
  clear hb3 hO3 g13 hga hg3 HOF
  generalize (zs K1).length = l3 at *
  go_wp2_with fail
  (try simp only [Exit.inBlock, Exit.then])
  refine bodyPost_ret (results_cell_row rfl _ _ w.heap.size _ _ _ _ rfl (blk_set (blk_set HB3.out 0 _) 1 _) Tryz.underlying26 rfl hinfo) rfl ?_
  have hk : Only w.heap.size w3 ((w3.setCell ⟨w.heap.size, 0, none⟩ (.int .i64 (n : Int))).setCell ⟨w.heap.size, 1, none⟩ (.slice A3 l3 c3)) := ((Only.refl _ _).setCell _).setCell _
  refine ⟨n, _, K1, rfl, own_base (own_only HO3.out hk (fun hh => by have := own_of_ge HO3.out hh; omega)) (by omega), by omega, HLN.out, ((HS1.out).grew HG.out).other hk hgl, (hU1.out.trans (HG.out.only (g := g))).newer hk (Nat.le_refl _)⟩
end Go.Proofs.YtopjgcbhjhhlfaaGreat


/- FnMonotone: the draws l16Join, l16Rooted; only their shape is told. -/
namespace Go.Proofs.YtopjgcbhjhhlfaaGreat
open Go.RowKit

end Go.Proofs.YtopjgcbhjhhlfaaGreat


/- FnMonotone: the draws l16Rooted, l16Draw; only their shape is told. -/
namespace Go.Proofs.YtopjgcbhjhhlfaaGreat
open Go.RowKit

theorem l01Pick3_c (g : Nat) (cv : Value) (N : Nat) (b : Nat) (x0 x1 x2 : Int) (w : World) (h : Src w g cv N) (hb : b < w.heap.size) (hne : b ≠ g) (c0 : w.cell? ⟨b, 0, none⟩ = some (.int .i64 x0)) (c1 : w.cell? ⟨b, 1, none⟩ = some (.int .i64 x1)) (c2 : w.cell? ⟨b, 2, none⟩ = some (.int .i64 x2)) :
    Calls Tryz.prog 50 #[.pointer (some ⟨g, 0, none⟩), .slice (some ⟨b, 0, none⟩) 3 3] w fun e w' => ∃ r : Int, e = .returned (.int .i64 r) ∧ Src w' g cv N ∧ Only g w w' := by
  have HS := Lib.hid h
  have HC := Lib.hid (show ∀ j, j < 3 → ∃ x : Int, w.cell? ⟨b, j, none⟩ = some (.int .i64 x) from fun j hj => by
    match j, hj with
    | 0, _ => exact ⟨_, c0⟩
    | 1, _ => exact ⟨_, c1⟩
    | 2, _ => exact ⟨_, c2⟩)
  clear h c0 c1 c2
  go_enter Tryz.func50, Tryz.ntmps50
  go_wp2_with fail
  refine (l01Next_c g cv N 3 _ HS.out (by omega)).mono ?_
  rintro e w1 ⟨r, rfl, hr0, hr1, _, hS1, ho1⟩
  have hr2 := hr1 (by omega)
  obtain ⟨k, rfl⟩ : ∃ k : Nat, r = (k : Int) := ⟨r.toNat, by omega⟩
  obtain ⟨x, hx⟩ := HC.out k (by omega)
  have hx1 := (ho1.cell (p := ⟨b, k, none⟩) hb hne).trans hx
  have HS1 := Lib.hid hS1
  clear hx hS1 hr1
  go_wp2_with fail
  go_ret
  exact ⟨_, rfl, HS1.out, ho1⟩

theorem blk_lt' {w : World} {k : Nat} {o : Obj} (h : w.heap[k]? = some o) : k < w.heap.size := (Array.getElem?_eq_some_iff.1 h).1
def SO (g : Nat) (cv : Value) (N : Nat) (w w' : World) : Prop := Src w' g cv N ∧ Only g w w'
theorem SO.drew {g : Nat} {cv : Value} {N : Nat} {w w' : World} (h : SO g cv N w w') : SO g cv N w w'.drew := ⟨h.1.grew (Grew.refl _).drew, h.2.drew⟩
theorem so_next (g : Nat) (cv : Value) (N : Nat) (w : World) (n : Int) (hn : 1 ≤ n ∧ n ≤ 100000) (W : World) (hW : SO g cv N w W) :
    Calls Tryz.prog 21 #[.pointer (some ⟨g, 0, none⟩), .int .i64 n] W fun e w' => ∃ r : Nat, e = .returned (.int .i64 (r : Int)) ∧ (r : Int) < n ∧ SO g cv N w w' ∧ Only g W w' := by
  refine (l01Next_c g cv N n W hW.1 (by omega)).mono ?_
  rintro e w' ⟨r, rfl, h0, h1, _, hS, ho⟩
  have h2 := h1 hn.1
  obtain ⟨k, rfl⟩ : ∃ k : Nat, r = k := ⟨r.toNat, by omega⟩
  exact ⟨k, rfl, h2, ⟨hS, hW.2.trans ho⟩, ho⟩
theorem own_setI {w : World} {B g c k : Nat} {L : List Int} {cur : Array Value} {x : Int} (hB : B ≤ g) (hh : w.heap[g]? = some (.cells cur 2 (0, 0))) (hc : L.length ≤ c ∧ c ≤ 9223372036854775807 ∧ cur.size = c) (h : ∀ i, i < L.length → cur[i]? = some (.int .i64 (it L i))) (hk : k < L.length) :
    OwnI (w.setCell ⟨g, k, none⟩ (.int .i64 x)) B (.slice (some ⟨g, 0, none⟩) L.length c) (L.set k x) := by
  have hm := OwnI.mk_ (L := L.set k x) (c := c) hB (blk_set hh k (.int .i64 x)) (by rw [List.length_set]; exact hc.1) hc.2.1 (by simp [hc.2.2]) (fun i hi => by
    rw [List.length_set] at hi
    rw [Array.getElem?_setIfInBounds]
    by_cases hki : k = i
    · subst hki
      rw [if_pos rfl, if_pos (by omega)]
      simp [it, List.getD, hk]
    · rw [if_neg hki, h i hi]
      simp [it, List.getD, hki])
  rwa [List.length_set] at hm

def SR (g : Nat) (cv : Value) (N : Nat) (w0 : World) (pb gr n c : Nat) (bx : Obj) (W : World) : Prop := Src W g cv N ∧ Only g w0 W ∧ W.heap[pb]? = some bx ∧ ∃ K : List Int, K.length = n ∧ OwnI W w0.heap.size (.slice (some ⟨gr, 0, none⟩) n c) K
theorem SR.drew {g : Nat} {cv : Value} {N : Nat} {w0 W : World} {pb gr n c : Nat} {bx : Obj} (h : SR g cv N w0 pb gr n c bx W) : SR g cv N w0 pb gr n c bx W.drew := by
  obtain ⟨h1, h2, h3, K, h4, h5⟩ := h
  exact ⟨h1.grew (Grew.refl _).drew, h2.drew, h3, K, h4, h5.grew (Grew.refl _).drew⟩
theorem SR.next {g : Nat} {cv : Value} {N : Nat} {w0 W W' : World} {pb gr n c : Nat} {bx : Obj} (h : SR g cv N w0 pb gr n c bx W) (hS : Src W' g cv N) (ho : Only g W W') (hg : g < w0.heap.size) (hgp : pb ≠ g) : SR g cv N w0 pb gr n c bx W' := by
  obtain ⟨h1, h2, h3, K, h4, h5⟩ := h
  exact ⟨hS, h2.trans ho, (ho.block (blk_lt' h3) hgp).trans h3, K, h4, own_srcI h5 hg ho⟩
theorem SR.store {g : Nat} {cv : Value} {N : Nat} {w0 W : World} {pb gr n c k : Nat} {x : Int} {bx : Obj} (h : SR g cv N w0 pb gr n c bx W) (hg : g < w0.heap.size) (hgr : w0.heap.size ≤ gr) (hp : pb ≠ gr) (hk : k < n) : SR g cv N w0 pb gr n c bx (W.setCell ⟨gr, k, none⟩ (.int .i64 x)) := by
  obtain ⟨h1, h2, h3, K, rfl, h5⟩ := h
  obtain ⟨g', cur, he, hB, hh, hc, hall⟩ := own_irow h5 (by omega)
  injection he with e1
  injection e1 with e1
  subst e1
  have hkb : Only gr W (W.setCell ⟨gr, k, none⟩ (.int .i64 x)) := (Only.refl _ _).setCell _
  exact ⟨h1.other hkb (by omega), h2.newer hkb hgr, (hkb.block (blk_lt' h3) hp).trans h3, K.set k x, by rw [List.length_set], own_setI hB hh hc hall hk⟩

end Go.Proofs.YtopjgcbhjhhlfaaGreat


/- The draw of a frame: l05Draw of the reference. -/
namespace Go.Proofs.YtopjgcbhjhhlfaaGreat
open Go.RowKit

theorem l01Pick2_c (g : Nat) (cv : Value) (N : Nat) (b : Nat) (x0 x1 : Int) (w : World) (h : Src w g cv N) (hb : b < w.heap.size) (hne : b ≠ g) (c0 : w.cell? ⟨b, 0, none⟩ = some (.int .i64 x0)) (c1 : w.cell? ⟨b, 1, none⟩ = some (.int .i64 x1)) :
    Calls Tryz.prog 50 #[.pointer (some ⟨g, 0, none⟩), .slice (some ⟨b, 0, none⟩) 2 2] w fun e w' => ∃ r : Int, e = .returned (.int .i64 r) ∧ Src w' g cv N ∧ Only g w w' := by
  have HS := Lib.hid h
  have HC := Lib.hid (show ∀ j, j < 2 → ∃ x : Int, w.cell? ⟨b, j, none⟩ = some (.int .i64 x) from fun j hj => by
    match j, hj with
    | 0, _ => exact ⟨_, c0⟩
    | 1, _ => exact ⟨_, c1⟩)
  clear h c0 c1
  go_enter Tryz.func50, Tryz.ntmps50
  go_wp2_with fail
  refine (l01Next_c g cv N 2 _ HS.out (by omega)).mono ?_
  rintro e w1 ⟨r, rfl, hr0, hr1, _, hS1, ho1⟩
  have hr2 := hr1 (by omega)
  obtain ⟨k, rfl⟩ : ∃ k : Nat, r = (k : Int) := ⟨r.toNat, by omega⟩
  obtain ⟨x, hx⟩ := HC.out k (by omega)
  have hx1 := (ho1.cell (p := ⟨b, k, none⟩) hb hne).trans hx
  have HS1 := Lib.hid hS1
  clear hx hS1 hr1
  go_wp2_with fail
  go_ret
  exact ⟨_, rfl, HS1.out, ho1⟩

theorem SO.alloc {g : Nat} {cv : Value} {N : Nat} {w w' : World} (h : SO g cv N w w') (o : Obj) : SO g cv N w (w'.alloc o) := ⟨h.1.grew ((Grew.refl _).alloc o), h.2.grew ((Grew.refl _).alloc o)⟩
theorem SR.alloc {g : Nat} {cv : Value} {N : Nat} {w0 W : World} {pb gr n c : Nat} {bx : Obj} (h : SR g cv N w0 pb gr n c bx W) (o : Obj) : SR g cv N w0 pb gr n c bx (W.alloc o) := by
  obtain ⟨h1, h2, h3, K, h4, h5⟩ := h
  have hg := (Grew.refl W).alloc o
  exact ⟨h1.grew hg, h2.grew hg, (hg.block (blk_lt' h3)).trans h3, K, h4, h5.grew hg⟩
theorem so_pick (g : Nat) (cv : Value) (N : Nat) (w : World) (x0 x1 : Int) (W : World) (hW : SO g cv N w W) :
    Calls Tryz.prog 50 #[.pointer (some ⟨g, 0, none⟩), .slice (some ⟨W.heap.size, 0, none⟩) 2 2] (W.alloc (.cells #[.int .i64 x0, .int .i64 x1] 2)) fun e w' => ∃ r : Int, e = .returned (.int .i64 r) ∧ SO g cv N w w' ∧ Only g (W.alloc (.cells #[.int .i64 x0, .int .i64 x1] 2)) w' := by
  have hl := hW.1.lt
  have hA := hW.alloc (.cells #[.int .i64 x0, .int .i64 x1] 2)
  refine (l01Pick2_c g cv N W.heap.size x0 x1 _ hA.1 (by simp) (by omega) (by simp) (by simp)).mono ?_
  rintro e w' ⟨r, rfl, hS, ho⟩
  exact ⟨r, rfl, ⟨hS, hA.2.trans ho⟩, ho⟩
end Go.Proofs.YtopjgcbhjhhlfaaGreat


/- l15Elements of the reference: some drawn numbers. -/
namespace Go.Proofs.YtopjgcbhjhhlfaaGreat
open Go.RowKit

theorem SO.app {g : Nat} {cv : Value} {N : Nat} {w w' w'' : World} {r : Option Nat} (h : SO g cv N w w') (hg : w'.grownBy w'' r) (hgl : g < w.heap.size) (hr : ∀ b, r = some b → w.heap.size ≤ b) : SO g cv N w w'' :=
  ⟨h.1.other2 hg (fun b hb => by have := hr b hb; omega), h.2.newer2 hg hr⟩
def GivesEl (g : Nat) (cv : Value) (N : Nat) (w : World) (e : Ending) (w' : World) : Prop := ∃ (u : Value) (X : List Int), e = .returned u ∧ OwnI w' w.heap.size u X ∧ X.length ≤ 4 ∧ Src w' g cv N ∧ Only g w w'
set_option maxHeartbeats 2000000 in
theorem l15Elements_c (g : Nat) (cv : Value) (N : Nat) (n : Int) (v : Value) (L : List Int) (w : World) (h : Src w g cv N) (hv : Ints w v L) (h1 : 1 ≤ L.length) (h2 : L.length ≤ 1000) :
    Calls Tryz.prog 18 #[.pointer (some ⟨g, 0, none⟩), .agg #[.int .i64 n, v]] w (GivesEl g cv N w) := by
  have hgl := h.lt
  obtain ⟨A, c, rfl⟩ := ints_slice hv
  have hb0 := blk_new w (.cells #[.int .i64 n, .slice A L.length c] 26)
  have hSO : SO g cv N w (w.alloc (.cells #[.int .i64 n, .slice A L.length c] 26)) := ⟨h.grew ((Grew.refl w).alloc _), ((Grew.refl w).alloc _).only⟩
  obtain ⟨w0, hw0⟩ : ∃ w0, w0 = w.alloc (.cells #[.int .i64 n, .slice A L.length c] 26) := ⟨_, rfl⟩
  rw [← hw0] at hb0 hSO
  have HSO := Lib.hid (hSO.alloc (.cells #[] 2))
  have HNX := Lib.hid (fun (k : Int) (hk : 1 ≤ k ∧ k ≤ 100000) W hW => so_next g cv N w k hk W hW)
  have HB := Lib.hid (((Grew.refl w0).alloc (.cells #[] 2)).block (blk_lt hb0) |>.trans hb0)
  have hsz : w0.heap.size = w.heap.size + 1 := by rw [hw0]; simp
  have o0 := own_emptyI w0
  rw [hsz] at o0
  have HO := Lib.hid o0
  clear o0
  clear h hv hb0 hSO
  generalize L.length = l at *
  go_enter Tryz.func18, Tryz.ntmps18
  go_wp2_with fail
  simp only [← hw0]
  clear hw0
  refine (HNX.out 3 (by omega) _ HSO.out).mono ?_
  rintro e w1 ⟨r, rfl, hr, hS1, ho1⟩
  have hO1 := Lib.hid (show OwnI w1 (w.heap.size + 1) (.slice (some ⟨w.heap.size + 1, 0, none⟩) 0 0) [] from own_only HO.out ho1 (fun he => by have := ownI_of_ge HO.out he; omega))
  have hb1 := Lib.hid ((ho1.block (blk_lt HB.out) (by omega)).trans HB.out)
  clear ho1 HO HB HSO
  go_wp2_with fail
  go_loopw [5, 6] (fun s k wr => ∃ (j : Nat) (X : List Int), k = .int .i64 (j : Int) ∧ X.length + j ≤ 3 ∧ SO g cv N w wr ∧ Hid (OwnI wr (w.heap.size + 1) s X) ∧ Hid (wr.heap[w.heap.size]? = some (.cells #[.int .i64 n, .slice A l c] 26 (0, 0)))) (fun _ k _ => (intOf k).toNat)
  case atStart => exact ⟨r, [], rfl, by simp; omega, hS1, hO1, hb1⟩
  case round =>
    clear hO1 hb1 hS1
    obtain ⟨j, X, rfl, hj, hS, hO, hb⟩ := hrel
    by_cases hj0 : 0 < j
    · have hgt : (0 : Int) < (j : Int) := by omega
      have q1 : wr.cell? ⟨w.heap.size, 1, none⟩ = some (.slice A l c) := by rw [blk_cell hb.out]; rfl
      go_wp2_with fail
      refine (HNX.out (l : Int) (by omega) _ hS).mono ?_
      rintro e w2 ⟨r2, rfl, hr2, hS2, ho2⟩
      have hO2 : OwnI w2 (w.heap.size + 1) _ X := own_only hO.out ho2 (fun he => by have := ownI_of_ge hO.out he; omega)
      have hb2 := (ho2.block (blk_lt hb.out) (by omega)).trans hb.out
      have hz2 := blk_lt hb2
      have HS2 := Lib.hid hS2
      have HB2 := Lib.hid hb2
      have HO2 := Lib.hid hO2
      have HZ := Lib.hid (show w.heap.size + 1 ≤ w2.heap.size by omega)
      have HX := Lib.hid (show X.length ≤ 3 by omega)
      clear q1 hS2 hb2 hO2 hz2 hr2 hgt ho2
      go_wp2_with (first | (at_builtin; refine wpList_appB (w.heap.size + 1) _ _ rfl rfl _ X rfl (HO2.out.grew (Grew.alloc (Grew.refl _) _)) (Nat.le_trans HZ.out (Grew.alloc (Grew.refl _) _).size) _ (r2 : Int) rfl (rd_litI _ _ _) (Nat.le_trans HX.out (by omega)) ?_; intro v3 w3 hO3 hg3))
      have hS3 := (HS2.out.alloc (.cells #[.int .i64 (r2 : Int)] 2)).app hg3 hgl (fun b hb => by have := ownI_of_ge HO2.out hb; omega)
      have hb3 := (World.grownBy.block hg3 _ (by have := HZ.out; simp; omega) (fun he => by have := ownI_of_ge HO2.out he.symm; omega)).trans ((((Grew.refl w2).alloc (.cells #[.int .i64 (r2 : Int)] 2)).block (blk_lt HB2.out)).trans HB2.out)
      go_roundw
      case rel => exact ⟨j - 1, X ++ [(r2 : Int)], by go_num, by simp; omega, hS3, Lib.hid hO3, Lib.hid hb3⟩
      case measure => simp [intOf]; omega
    · obtain rfl : j = 0 := by omega
      have hgt : ((0 : Int) < ((0 : Nat) : Int)) = False := eq_false (by omega)
      go_wp2_with fail
      refine (HNX.out 24 (by omega) _ hS).mono ?_
      rintro e w2 ⟨r2, rfl, hr2, hS2, ho2⟩
      have hO2 : OwnI w2 (w.heap.size + 1) _ X := own_only hO.out ho2 (fun he => by have := ownI_of_ge hO.out he; omega)
      have HS2 := Lib.hid hS2
      have HO2 := Lib.hid hO2
      have HX := Lib.hid (show X.length ≤ 3 by omega)
      have HZ := Lib.hid (show w.heap.size + 1 ≤ w2.heap.size by have := ho2.size; have := blk_lt hb.out; omega)
      clear hO2 hS2 ho2 hr2 hgt hS hO hb
      by_cases h0 : r2 = 0
      · subst h0
        go_wp2_with fail
        refine (so_pick g cv N w (-1) 32 w2 HS2.out).mono ?_
        rintro e w3 ⟨r3, rfl, hS3, ho3⟩
        have HO3 := Lib.hid (show OwnI w3 (w.heap.size + 1) _ X from own_only (HO2.out.grew ((Grew.refl w2).alloc _)) ho3 (fun he => by have := ownI_of_ge HO2.out he; omega))
        have HS3 := Lib.hid hS3
        have HZ3 := Lib.hid (show w.heap.size + 1 ≤ w3.heap.size by have h1 := ho3.size; have h2 := HZ.out; simp at h1; omega)
        clear hS3 ho3
        go_wp2_with (first | (at_builtin; refine wpList_appB (w.heap.size + 1) _ _ rfl rfl _ X rfl (HO3.out.grew (Grew.alloc (Grew.refl _) _)) (Nat.le_trans HZ3.out (Grew.alloc (Grew.refl _) _).size) _ r3 rfl (rd_litI _ _ _) (Nat.le_trans HX.out (by omega)) ?_; intro v4 w4 hO4 hg4))
        have hS4 := (HS3.out.alloc (.cells #[.int .i64 r3] 2)).app hg4 hgl (fun b hb => by have := ownI_of_ge HO3.out hb; omega)
        go_ret
        exact ⟨_, X ++ [r3], rfl, OwnI.base hO4 (by omega), by have := HX.out; simp; omega, hS4.1, hS4.2⟩
      · have h0' : ((r2 : Int) = 0) = False := eq_false (by omega)
        go_wp2_with fail
        go_ret
        exact ⟨_, X, rfl, OwnI.base HO2.out (by omega), by have := HX.out; omega, HS2.out.1, HS2.out.2⟩
end Go.Proofs.YtopjgcbhjhhlfaaGreat


/- Least forms of relations, plain: comparing rows, orders of the elements, numbering anew, the least form. No program is in sight. -/
namespace Go.Proofs.YtopjgcbhjhhlfaaGreat

def IsPm (n : Nat) (o : List Nat) : Prop := o.length = n ∧ o.Nodup ∧ ∀ x ∈ o, x < n
theorem nodup_le : ∀ (n : Nat) (o : List Nat), o.Nodup → (∀ x ∈ o, x < n) → o.length ≤ n
  | 0, o, _, h => by
    cases o with
    | nil => exact Nat.le_refl _
    | cons x xs => exact absurd (h x (by simp)) (by omega)
  | n + 1, o, hn, h => by
    by_cases hm : n ∈ o
    · have h1 := nodup_le n (o.erase n) (hn.erase n) (fun x hx => by
        rw [hn.mem_erase_iff] at hx
        have := h x hx.2
        omega)
      rw [List.length_erase_of_mem hm] at h1
      omega
    · have h1 := nodup_le n o hn (fun x hx => by
        have := h x hx
        have : x ≠ n := fun he => hm (by rw [← he]; exact hx)
        omega)
      omega
theorem IsPm.hit {n : Nat} {o : List Nat} (h : IsPm n o) {x : Nat} (hx : x < n) : ∃ i, i < n ∧ nt o i = x := by
  obtain ⟨h1, h2, h3⟩ := h
  by_cases hm : x ∈ o
  · obtain ⟨i, hi, he⟩ := mem_nt hm
    exact ⟨i, by omega, he⟩
  · exfalso
    have hl := nodup_le n (x :: o) (List.nodup_cons.2 ⟨hm, h2⟩) (fun y hy => by
      rw [List.mem_cons] at hy
      rcases hy with rfl | hy
      · exact hx
      · exact h3 y hy)
    rw [List.length_cons] at hl
    omega
end Go.Proofs.YtopjgcbhjhhlfaaGreat


/- Rows compared in memory: slices.Compare over int64, spec.l01Less, spec.l01Same. -/
namespace Go.Proofs.YtopjgcbhjhhlfaaGreat
open Go.RowKit

theorem nt_ext {a b : List Nat} (hl : a.length = b.length) (h : ∀ i, i < a.length → nt a i = nt b i) : a = b := by
  apply List.ext_getElem hl
  intro i h1 h2
  rw [nt_get h1, nt_get h2]
  exact h i h1
theorem l01Same_c (v1 v2 : Value) (a b : List Nat) (w : World) (h1 : Ints w v1 (zs a)) (h2 : Ints w v2 (zs b)) (hl : a.length = b.length) :
    Calls Tryz.prog 33 #[v1, v2] w fun e w' => e = .returned (.bool (decide (a = b))) ∧ Grew w w' := by
  have HE := Lib.hid (fun (h : ∀ i, i < a.length → nt a i = nt b i) => decide_eq_true (nt_ext hl h))
  have HN := Lib.hid (fun i (h : nt a i ≠ nt b i) => decide_eq_false (fun he : a = b => h (by rw [he])))
  obtain ⟨A1, c1, rfl⟩ := ints_sliceN h1
  obtain ⟨A2, c2, rfl⟩ := ints_sliceN h2
  have HC := Lib.hid (fun h0 => cellsN h1 h0)
  have HD := Lib.hid (fun h0 => cellsN h2 h0)
  have hm1 := h1.2.1
  rw [zs_len] at hm1
  clear h1 h2
  rw [← hl] at HD ⊢
  generalize hr : decide (a = b) = r at *
  generalize a.length = n at *
  clear hl hr
  go_enter Tryz.func33, Tryz.ntmps33
  go_wp2_with fail
  go_loopw [5] (fun i wr => ∃ j : Nat, j ≤ n ∧ i = .int .i64 j ∧ Grew w wr ∧ Hid (∀ i, i < j → nt a i = nt b i)) (fun i _ => n - (intOf i).toNat)
  case atStart => exact ⟨0, by omega, rfl, Grew.refl _, Lib.hid (fun i hi => absurd hi (by omega))⟩
  case round =>
    obtain ⟨j, hj, rfl, hB, hc⟩ := hrel
    by_cases hlt : j < n
    · obtain ⟨b1, o1, rfl, hc1⟩ := HC.out (by omega)
      obtain ⟨b2, o2, rfl, hc2⟩ := HD.out (by omega)
      have k1 : ∀ W, Grew wr W → W.cell? ⟨b1, o1 + j, none⟩ = some (.int .i64 ((nt a j : Nat) : Int)) := fun W hW => hc1 j hlt _ (hB.trans hW)
      have k2 : ∀ W, Grew wr W → W.cell? ⟨b2, o2 + j, none⟩ = some (.int .i64 ((nt b j : Nat) : Int)) := fun W hW => hc2 j hlt _ (hB.trans hW)
      have hN := Lib.hid (HN.out j)
      have hS : Hid (nt a j = nt b j → ∀ i, i < j + 1 → nt a i = nt b i) := Lib.hid (fun he i hi => by
        rcases Nat.lt_or_ge i j with h | h
        · exact hc.out i h
        · obtain rfl : i = j := by omega
          exact he)
      have hi0 : (0 : Int) ≤ (j : Int) := by omega
      have hi1 : (j : Int) < (n : Int) := by omega
      have r1 := Grew.refl wr
      have r2 := (Grew.refl wr).drew
      clear hc1 hc2 HC HD
      generalize nt a j = x at *
      generalize nt b j = y at *
      by_cases he : x = y
      · have hb : ((x : Int) != (y : Int)) = false := by simp [he]
        have HR := Lib.hid (hS.out he)
        clear he
        go_wp2_with fail
        go_quiet (fail)
        go_wp2_with fail
        go_roundw
        case rel => exact ⟨j + 1, by omega, by go_num, hB.drewN _, HR⟩
        case measure => simp [intOf]; omega
      · have hb : ((x : Int) != (y : Int)) = true := by simp; omega
        have HR := Lib.hid (hN.out he)
        clear he
        go_wp2_with fail
        go_quiet (fail)
        go_wp2_with fail
        go_ret
        exact ⟨by rw [HR.out]; rfl, hB.drewN _⟩
    · obtain rfl : j = n := by omega
      have HR := Lib.hid (HE.out hc.out)
      go_wp2_with fail
      go_ret
      exact ⟨by rw [HR.out]; rfl, hB⟩

end Go.Proofs.YtopjgcbhjhhlfaaGreat


/- Two rows that share no block; a frame in which some blocks may have changed. -/
namespace Go.Proofs.YtopjgcbhjhhlfaaGreat
open Go.RowKit

def Apart (a b : Value) : Prop := ∀ g, a.ownBlock = some g → b.ownBlock ≠ some g
theorem Apart.symm {a b : Value} (h : Apart a b) : Apart b a := fun g hg hb => h g hb hg

structure Span (lo hi : Nat) (a b : World) : Prop where
  os : b.os = a.os
  tape : b.tape = a.tape
  output : b.output = a.output
  size : a.heap.size ≤ b.heap.size
  block : ∀ k, k < a.heap.size → (k < lo ∨ hi ≤ k) → b.heap[k]? = a.heap[k]?
theorem Span.refl (lo hi : Nat) (w : World) : Span lo hi w w := ⟨rfl, rfl, rfl, Nat.le_refl _, fun _ _ _ => rfl⟩
theorem Span.trans {lo hi : Nat} {a b c : World} (h : Span lo hi a b) (k : Span lo hi b c) : Span lo hi a c :=
  ⟨k.os.trans h.os, k.tape.trans h.tape, k.output.trans h.output, Nat.le_trans h.size k.size, fun i hi' ho => (k.block i (Nat.lt_of_lt_of_le hi' h.size) ho).trans (h.block i hi' ho)⟩
theorem Span.of_grew {lo hi : Nat} {a b : World} (h : Grew a b) : Span lo hi a b := ⟨h.os, h.tape, h.output, h.size, fun k hk _ => h.block hk⟩
theorem Span.grew {lo hi : Nat} {a b c : World} (h : Span lo hi a b) (k : Grew b c) : Span lo hi a c := h.trans (Span.of_grew k)
theorem Span.own {lo hi B : Nat} {a b : World} {e : TypeId} {k n : Nat} {v : Value} {xs : List Value} (h : Span lo hi a b) (ho : a.ownsRow B e k v n xs) (hv : ∀ g, v.ownBlock = some g → g < lo ∨ hi ≤ g) : b.ownsRow B e k v n xs := by
  obtain ⟨h1, h2⟩ := ho
  refine ⟨h1, ?_⟩
  rcases h2 with h2 | ⟨g, cap, cur, rfl, h4, h5, h6⟩
  · exact .inl h2
  · exact .inr ⟨g, cap, cur, rfl, h4, (h.block g (blk_lt h5) (hv g rfl)).trans h5, h6⟩
end Go.Proofs.YtopjgcbhjhhlfaaGreat


/- ModalSubalgebra of the reference. -/
namespace Go.Proofs.YtopjgcbhjhhlfaaGreat
open Go.RowKit

def mnK (E : List Nat) (x : Nat) : Nat → Bool
  | 0 => x != 0
  | k + 1 => mnK E x k && ((nt E k == 0 || nt E k == x) || !(dif (nt E k) x == 0))
theorem mnK_iff {E : List Nat} {x : Nat} : ∀ k, mnK E x k = true ↔ x ≠ 0 ∧ ∀ j, j < k → (nt E j = 0 ∨ nt E j = x ∨ ¬ dif (nt E j) x = 0)
  | 0 => by simp [mnK]
  | k + 1 => by
    rw [mnK, Bool.and_eq_true, mnK_iff k, and_assoc]
    refine and_congr_right fun _ => ?_
    have e : ((nt E k == 0 || nt E k == x) || !(dif (nt E k) x == 0)) = true ↔ (nt E k = 0 ∨ nt E k = x ∨ ¬ dif (nt E k) x = 0) := by
      simp only [Bool.or_eq_true, beq_iff_eq, Bool.not_eq_true', beq_eq_false_iff_ne, ne_eq, or_assoc]
    rw [e]
    constructor
    · rintro ⟨h1, h2⟩ j hj
      by_cases hjk : j = k
      · subst hjk; exact h2
      · exact h1 j (by omega)
    · exact fun h => ⟨fun j hj => h j (by omega), h k (by omega)⟩
theorem mnK_all (E : List Nat) (x : Nat) : mnK E x E.length = minB E x := by
  rw [Bool.eq_iff_iff, mnK_iff]
  unfold minB
  rw [Bool.and_eq_true, bne_iff_ne, Bool.not_eq_true', List.any_eq_false]
  refine and_congr_right fun _ => ?_
  constructor
  · intro h y hy
    obtain ⟨j, hj, rfl⟩ := mem_nt hy
    rw [Bool.and_eq_true, Bool.and_eq_true, bne_iff_ne, bne_iff_ne, decide_eq_true_eq]
    rintro ⟨h1, h2, h3⟩
    rcases h j hj with h4 | h4 | h4
    · exact h1 h4
    · exact h2 h4
    · exact h4 h3
  · intro h j hj
    have h1 := h _ (nt_mem hj)
    rw [Bool.and_eq_true, Bool.and_eq_true, bne_iff_ne, bne_iff_ne, decide_eq_true_eq] at h1
    by_cases a : nt E j = 0
    · exact .inl a
    · by_cases b : nt E j = x
      · exact .inr (.inl b)
      · exact .inr (.inr fun c => h1 ⟨a, b, c⟩)
theorem mn_no {E : List Nat} {x k : Nat} (h : mnK E x k = false) : mnK E x (k + 1) = false := by rw [mnK, h]; rfl
theorem mn_yes {E : List Nat} {x k : Nat} (h : mnK E x k = true) (h2 : nt E k = 0 ∨ nt E k = x ∨ ¬ dif (nt E k) x = 0) : mnK E x (k + 1) = true := by
  rw [mnK, h, Bool.true_and]
  simp only [Bool.or_eq_true, beq_iff_eq, Bool.not_eq_true', beq_eq_false_iff_ne, ne_eq, or_assoc]
  exact h2
theorem mn_bad {E : List Nat} {x k : Nat} (h1 : ¬ nt E k = 0) (h2 : ¬ nt E k = x) (h3 : dif (nt E k) x = 0) : mnK E x (k + 1) = false := by
  rw [mnK]
  have e : ((nt E k == 0 || nt E k == x) || !(dif (nt E k) x == 0)) = false := by
    simp [h1, h2, h3]
  rw [e, Bool.and_false]
theorem im_yes {A : List Nat} {m k : Nat} (h : m.testBit k = true) : imK A m (k + 1) = imK A m k ||| nt A k := by rw [imK, if_pos h]
theorem im_no {A : List Nat} {m k : Nat} (h : m.testBit k = false) : imK A m (k + 1) = imK A m k := by rw [imK, if_neg (by rw [h]; simp)]

def SxS (wl : World) (bS oS P : Nat) (S : List Nat) (W : World) : Prop := Grew wl W ∧ bS < W.heap.size ∧ ∀ i, i < P → W.cell? ⟨bS, oS + i, none⟩ = some (.int .i64 ((nt S i : Nat) : Int))
theorem SxS.step {wl W W' : World} {bS oS P : Nat} {S : List Nat} (h : SxS wl bS oS P S W) (hg : Grew W W') : SxS wl bS oS P S W' :=
  ⟨h.1.trans hg, Nat.lt_of_lt_of_le h.2.1 hg.size, fun i hi => (hg.cell (p := ⟨bS, oS + i, none⟩) h.2.1).trans (h.2.2 i hi)⟩
theorem SxS.grown {wl W W' : World} {bS oS P : Nat} {S : List Nat} {r : Option Nat} (h : SxS wl bS oS P S W) (hg : W.grownBy W' r) (hr : ∀ g, r = some g → wl.heap.size ≤ g) (hne : r ≠ some bS) : SxS wl bS oS P S W' :=
  ⟨h.1.grown hg hr, Nat.lt_of_lt_of_le h.2.1 hg.size, fun i hi => (World.cell?_of_block (a := ⟨bS, oS + i, none⟩) (World.grownBy.block hg bS h.2.1 (fun he => hne he.symm))).trans (h.2.2 i hi)⟩
theorem SxS.set {wl W : World} {bS oS P b o : Nat} {S : List Nat} {x : Value} (h : SxS wl bS oS P S W) (hb : wl.heap.size ≤ b) (hne : b ≠ bS) : SxS wl bS oS P S (W.setCell ⟨b, o, none⟩ x) :=
  have hO := (Only.refl b W).setCell (o := o) x
  ⟨h.1.setCell hb _, Nat.lt_of_lt_of_le h.2.1 hO.size, fun i hi => (World.cell?_of_block (a := ⟨bS, oS + i, none⟩) (hO.block h.2.1 (fun he => hne he.symm))).trans (h.2.2 i hi)⟩
def ByS (wl : World) (k P : Nat) (bS oS cS : Nat) (S SB : List Nat) (j : Nat) (wr : World) : Prop :=
  ∃ AB cB, wr.heap[wl.heap.size + 1 + 1]? = some (.cells #[.int .i64 (k : Int), .slice AB j cB] 26 (0, 0)) ∧ OwnI wr wl.heap.size (.slice AB j cB) (zs (SB.take j)) ∧ OwnI wr (wl.heap.size + 1) (.slice (some ⟨bS, oS, none⟩) P cS) (zs S) ∧ SxS wl bS oS P S wr ∧ (Value.slice AB j cB).ownBlock ≠ some bS
theorem ByS.next {wl W : World} {k P bS oS cS j ix n5 c5 cB : Nat} {S SB KB : List Nat} {AB A5 : Option Addr} (hb : W.heap[wl.heap.size + 1 + 1]? = some (.cells #[.int .i64 (k : Int), .slice AB j cB] 26 (0, 0)))
    (ho : OwnI W wl.heap.size (.slice A5 n5 c5) (zs KB ++ [(ix : Int)])) (hs : OwnI W (wl.heap.size + 1) (.slice (some ⟨bS, oS, none⟩) P cS) (zs S)) (hx : SxS wl bS oS P S W) (hne : (Value.slice A5 n5 c5).ownBlock ≠ some bS) (hk : SB.take (j + 1) = KB ++ [ix]) (hl : KB.length = j) :
    ByS wl k P bS oS cS S SB (j + 1) (W.setCell ⟨wl.heap.size + 1 + 1, 1, none⟩ (.slice A5 n5 c5)) := by
  have hO := (Only.refl (wl.heap.size + 1 + 1) W).setCell (o := 1) (.slice A5 n5 c5)
  have hn : n5 = j + 1 := by
    obtain ⟨A', c', he⟩ := ints_slice ho.ints
    simp only [Value.slice.injEq] at he
    rw [he.2.1, List.length_append, zs_len, hl]; rfl
  subst hn
  have e1 := fun (he : (Value.slice A5 (j + 1) c5).ownBlock = some (wl.heap.size + 1 + 1)) => own_ne ho hb (by decide) he
  have e2 := fun (he : (Value.slice (some ⟨bS, oS, none⟩) P cS).ownBlock = some (wl.heap.size + 1 + 1)) => own_ne hs hb (by decide) he
  refine ⟨A5, c5, blk_set hb 1 _, ?_, own_only hs hO e2, hx.set (by omega) (fun he => e2 (by rw [he]; rfl)), hne⟩
  rw [hk, zs_snoc]
  exact own_only ho hO e1
def Q3 (wl : World) (k : Nat) (s : Value) (L : List Nat) (W : World) : Prop :=
  Grew wl W ∧ OwnI W (wl.heap.size + 1) s (zs L) ∧ OwnI W wl.heap.size (.slice (some ⟨wl.heap.size, 0, none⟩) 0 0) [] ∧ W.heap[wl.heap.size + 1 + 1]? = some (.cells #[.int .i64 (k : Int), .slice (some ⟨wl.heap.size, 0, none⟩) 0 0] 26 (0, 0))
theorem Q3.step {wl W W' : World} {k : Nat} {s : Value} {L : List Nat} (h : Q3 wl k s L W) (hg : Grew W W') : Q3 wl k s L W' :=
  ⟨h.1.trans hg, h.2.1.grew hg, h.2.2.1.grew hg, (hg.block (blk_lt h.2.2.2)).trans h.2.2.2⟩
theorem Q3.app {wl W W' : World} {k : Nat} {s s' : Value} {L L' : List Nat} (h : Q3 wl k s L W) (ho : OwnI W' (wl.heap.size + 1) s' (zs L')) (hg : W.grownBy W' s.ownBlock) : Q3 wl k s' L' W' :=
  ⟨h.1.grown hg (fun g hg => by have := ownI_of_ge h.2.1 hg; omega), ho, own_row h.2.2.1 hg (fun g h1 h2 => by
    have h3 := ownI_of_ge h.2.1 h1
    simp only [Value.ownBlock, Option.some.injEq] at h2
    omega), (World.grownBy.block hg _ (blk_lt h.2.2.2) (fun he => own_ne h.2.1 h.2.2.2 (by decide) he.symm)).trans h.2.2.2⟩
theorem Q3.start (wl : World) (k : Nat) : Q3 wl k (.slice (some ⟨wl.heap.size + 1, 0, none⟩) 0 0) [] (((wl.alloc (.cells #[] 2)).alloc (.cells #[] 2)).alloc (.cells #[.int .i64 (k : Int), .slice (some ⟨wl.heap.size, 0, none⟩) 0 0] 26)) := by
  have o1 := own_emptyI wl
  have g1 := (Grew.refl wl).alloc (.cells #[] 2)
  have s1 : (wl.alloc (.cells #[] 2)).heap.size = wl.heap.size + 1 := by simp
  generalize wl.alloc (.cells #[] 2) = wx at *
  have o2 := own_emptyI wx
  rw [s1] at o2
  have g2 := (Grew.refl wx).alloc (.cells #[] 2)
  have s2 : (wx.alloc (.cells #[] 2)).heap.size = wl.heap.size + 1 + 1 := by simp [s1]
  generalize wx.alloc (.cells #[] 2) = wy at *
  have g3 := (Grew.refl wy).alloc (.cells #[.int .i64 (k : Int), .slice (some ⟨wl.heap.size, 0, none⟩) 0 0] 26)
  have b3 := blk_new wy (.cells #[.int .i64 (k : Int), .slice (some ⟨wl.heap.size, 0, none⟩) 0 0] 26)
  rw [s2] at b3
  exact ⟨(g1.trans g2).trans g3, o2.grew g3, o1.grew (g2.trans g3), b3⟩
theorem Q3.open_ {wl W : World} {k P : Nat} {s : Value} {S : List Nat} (h : Q3 wl k s S W) (hl : S.length = P) (hP : 0 < P) : ∃ bS oS cS, s = .slice (some ⟨bS, oS, none⟩) P cS ∧ SxS wl bS oS P S W ∧ wl.heap.size < bS := by
  rcases (h.2.1.ints).open_ with ⟨_, hnil⟩ | ⟨bu, ou, cu, hu2, hcu, hmu, hbu, hfu⟩
  · rw [← List.length_eq_zero_iff, zs_len, hl] at hnil; omega
  rw [zs_len, hl] at hu2 hfu
  refine ⟨bu, ou, cu, hu2, ⟨h.1, hbu, fun i hi => by rw [hfu i hi W (Grew.refl _), zs_it (by rw [hl]; exact hi)]⟩, ?_⟩
  have := ownI_of_ge h.2.1 (g := bu) (by rw [hu2]; rfl)
  omega

set_option maxHeartbeats 8000000 in
set_option maxRecDepth 20000 in
theorem modalSubS_yes (n : Nat) (v u : Value) (B E : List Nat) (w : World) (h : Ints w v (zs B)) (hu : Ints w u (zs E)) (hA : Alg n B) (hE : SubA n B E) (hg : genL n B E = E) :
    Calls Tryz.prog 7 #[.agg #[.int .i64 (n : Int), v], u] w (GivesSub w (((ats E).length : Int), zs (sBx B E), zs (stds E), 0)) := by
  have hinfo : (Tryz.prog.info? 26).map (·.size) = some 2 := by kernel_rfl
  have hn5 := hA.le
  have hsm := ats_small hA hE
  have hlE : E.length ≤ 32 := by
    have h1 := asc_le hE.asc hE.lt
    exact Nat.le_trans h1 (Nat.le_trans (Nat.pow_le_pow_right (by omega) hn5) (by decide))
  have hE1 : 0 < E.length := by
    cases hE0 : E with
    | nil => have := hE.cl.zero; rw [hE0] at this; cases this
    | cons a r => simp
  have hm1 : mks n (zs E) = true := by
    unfold mks
    rw [List.all_eq_true]
    intro z hz
    obtain ⟨x, hx, rfl⟩ := List.mem_map.1 hz
    exact mk_yes (hE.lt x hx)
  have KA := Lib.hid (fun W (hW : Grew w W) => l15Is_c (n : Int) v (zs B) W (h.grew hW))
  rw [algB_of hA] at KA
  have KE := Lib.hid (fun W (hW : Grew w W) => l01Masks_c n u (zs E) W (hu.grew hW) (by omega))
  rw [hm1] at KE
  have KG := Lib.hid (fun W (hW : Grew w W) => l15Generate_c n v u B E W (h.grew hW) (hu.grew hW) hA hE.lt)
  rw [hg] at KG
  have hPn : 2 ^ n ≤ 1000 := Nat.le_trans (Nat.pow_le_pow_right (by omega) hn5) (by decide)
  have KL := Lib.hid (fun g m W (hM : MRow W g (2 ^ n) m) => l15List_c g (2 ^ n) m W hM hPn)
  have KQ := Lib.hid (fun v1 W (hW : Grew w W) (h1 : Ints W v1 (zs E)) => l01Same_c v1 u E E W h1 (hu.grew hW) rfl)
  rw [decide_eq_true rfl] at KQ
  have hp30 : ∀ x, x < 2 ^ n → x < 1073741824 := fun x hx => Nat.lt_of_lt_of_le hx (pow30' (by omega))
  have hk5 : (ats E).length ≤ 5 := by omega
  have hP32 : 2 ^ (ats E).length ≤ 32 := Nat.le_trans (Nat.pow_le_pow_right (by omega) hk5) (by decide)
  have hP0 : 0 < 2 ^ (ats E).length := Nat.pow_pos (by omega)
  have HFU := l01Full_q (ats E).length (by omega)
  have hFP : full (ats E).length + 1 = 2 ^ (ats E).length := by have : full (ats E).length = 2 ^ (ats E).length - 1 := rfl; omega
  rw [← full_cast] at HFU
  have KF := Lib.hid HFU
  have hsa : Sm (ats E) := fun a ha => hp30 a (hE.lt a (ats_mem.1 ha).1)
  have HIS := Lib.hid (fun m y (hy : y ≤ (ats E).length) => imK_sm (m := m) hsa y hy)
  have HSA := Lib.hid (fun k (hk : k < (ats E).length) => hsa _ (nt_mem (L := ats E) hk))
  have HST := Lib.hid (fun x (hx : x < 2 ^ (ats E).length) => (show imK (ats E) x (ats E).length = nt (stds E) x by rw [stds_nt hx, img_imK hx (by omega)]; rfl))
  have HIY := Lib.hid (fun m k h => im_yes (A := ats E) (m := m) (k := k) h)
  have HIN := Lib.hid (fun m k h => im_no (A := ats E) (m := m) (k := k) h)
  have HBI := Lib.hid (fun x y W (hx : x < 2 ^ (ats E).length) (hy : y < (ats E).length) => l01Bit_q x y (by omega) (by omega) W)
  have hSl : (stds E).length = 2 ^ (ats E).length := stds_len
  have hBl : (sBx B E).length = 2 ^ (ats E).length := sBx_len
  have HSL := Lib.hid (fun k (hk : k < 2 ^ (ats E).length) => hp30 _ (show nt (stds E) k < 2 ^ n by rw [stds_nt hk]; exact hst_lt hE hsm.1 hk))
  have HSN := Lib.hid (fun k (hk : k < 2 ^ (ats E).length) => (show nt (stds E) k < 2 ^ n by rw [stds_nt hk]; exact hst_lt hE hsm.1 hk))
  have HTS := Lib.hid (fun j (hj : j < 2 ^ (ats E).length) => take_zs1 (A := stds E) (j := j) (by rw [hSl]; exact hj))
  have HTB := Lib.hid (fun j (hj : j < 2 ^ (ats E).length) => take_zs1 (A := sBx B E) (j := j) (by rw [hBl]; exact hj))
  have HTSE := Lib.hid (show (stds E).take (2 ^ (ats E).length) = stds E by rw [← hSl]; exact List.take_length)
  have HIX := Lib.hid (fun j vS W (hj : j < 2 ^ (ats E).length) (hS : Ints W vS (zs (stds E))) => show Calls Tryz.prog 36 #[vS, .int .i64 ((nt B (nt (stds E) j) : Nat) : Int)] W fun e w' => e = .returned (.int .i64 ((nt (sBx B E) j : Nat) : Int)) ∧ Grew W w' from by
    have hlt := sBx_lt (B := B) (E := E) hj
    refine l01IndexX_c vS (zs (stds E)) _ (nt (sBx B E) j) W hS (by rw [zs_len, hSl]; exact hlt) ?_ ?_
    · rw [it_zs9, stds_nt hlt, stds_nt hj, hst_box hE hsm.1 hj]
    · intro i hi he
      rw [it_zs9, stds_nt (Nat.lt_trans hi hlt), stds_nt hj, ← hst_box hE hsm.1 hj] at he
      have he2 : hst E i = hst E (nt (sBx B E) j) := Int.ofNat_inj.1 he
      have h3 : i = nt (sBx B E) j := hst_inj hE hsm.1 (Nat.lt_trans hi hlt) hlt he2
      exact absurd hi (by rw [← h3]; exact Nat.lt_irrefl _))
  have HBXL := Lib.hid (fun j (hj : j < 2 ^ (ats E).length) => sBx_lt (B := B) (E := E) hj)
  have HEL := Lib.hid (fun k (hk : k < E.length) => hp30 _ (hE.lt _ (nt_mem (L := E) hk)))
  have HMA := Lib.hid (mnK_all E)
  have HMN := Lib.hid (fun x k h => mn_no (E := E) (x := x) (k := k) h)
  have HMY := Lib.hid (fun x k h h2 => mn_yes (E := E) (x := x) (k := k) h h2)
  have HMB := Lib.hid (fun x k h1 h2 h3 => mn_bad (E := E) (x := x) (k := k) h1 h2 h3)
  have HFA := Lib.hid (show (E.take E.length).filter (minB E) = ats E by rw [List.take_length]; rfl)
  have HFY := Lib.hid (fun j (hj : j < E.length) h => filt_yes (p := minB E) hj h)
  have HFN := Lib.hid (fun j (hj : j < E.length) h => filt_no (p := minB E) hj h)
  have HFL := Lib.hid (fun j => show ((E.take j).filter (minB E)).length ≤ E.length from Nat.le_trans (List.length_filter_le _ _) (by rw [List.length_take]; omega))
  have hlB := hA.len
  rcases h.open_ with ⟨_, hnil⟩ | ⟨bv, ov, cv, rfl, hcv, hmv, hbv, hfv⟩
  · rw [← List.length_eq_zero_iff, zs_len, hlB] at hnil; have : 0 < 2 ^ n := Nat.pow_pos (by omega); omega
  have HFV := Lib.hid (fun k (hk : k < 2 ^ n) W (hW : Grew w W) => show W.cell? ⟨bv, ov + k, none⟩ = some (.int .i64 ((nt B k : Nat) : Int)) from by rw [hfv k (by rw [zs_len, hlB]; exact hk) W hW, zs_it (by rw [hlB]; exact hk)])
  rw [zs_len B, hlB] at *
  have HB0 := Lib.hid (((Grew.refl w).alloc (.cells #[.int .i64 (n : Int), .slice (some ⟨bv, ov, none⟩) (2 ^ n) cv] 26)).alloc (.cells #[.int .i64 0, .slice none 0 0] 26))
  have y0 : ∀ W, Grew ((w.alloc (.cells #[.int .i64 (n : Int), .slice (some ⟨bv, ov, none⟩) (2 ^ n) cv] 26)).alloc (.cells #[.int .i64 0, .slice none 0 0] 26)) W → W.heap[w.heap.size]? = some (.cells #[.int .i64 (n : Int), .slice (some ⟨bv, ov, none⟩) (2 ^ n) cv] 26 (0, 0)) :=
    fun W hW => ((((Grew.refl (w.alloc (.cells #[.int .i64 (n : Int), .slice (some ⟨bv, ov, none⟩) (2 ^ n) cv] 26))).alloc (.cells #[.int .i64 0, .slice none 0 0] 26)).trans hW).block (by simp)).trans (blk_new w _)
  have y1 : ∀ W, Grew ((w.alloc (.cells #[.int .i64 (n : Int), .slice (some ⟨bv, ov, none⟩) (2 ^ n) cv] 26)).alloc (.cells #[.int .i64 0, .slice none 0 0] 26)) W → W.heap[w.heap.size + 1]? = some (.cells #[.int .i64 0, .slice none 0 0] 26 (0, 0)) :=
    fun W hW => (hW.block (by simp)).trans (by
      have h := blk_new (w.alloc (.cells #[.int .i64 (n : Int), .slice (some ⟨bv, ov, none⟩) (2 ^ n) cv] 26)) (.cells #[.int .i64 0, .slice none 0 0] 26)
      have e : (w.alloc (.cells #[.int .i64 (n : Int), .slice (some ⟨bv, ov, none⟩) (2 ^ n) cv] 26)).heap.size = w.heap.size + 1 := by simp
      rwa [e] at h)
  have hs : ((w.alloc (.cells #[.int .i64 (n : Int), .slice (some ⟨bv, ov, none⟩) (2 ^ n) cv] 26)).alloc (.cells #[.int .i64 0, .slice none 0 0] 26)).heap.size = w.heap.size + 2 := by simp
  obtain ⟨w1, hw1⟩ : ∃ w1, w1 = (w.alloc (.cells #[.int .i64 (n : Int), .slice (some ⟨bv, ov, none⟩) (2 ^ n) cv] 26)).alloc (.cells #[.int .i64 0, .slice none 0 0] 26) := ⟨_, rfl⟩
  rw [← hw1] at y0 y1 HB0 hs
  obtain ⟨A2, c2, rfl⟩ := ints_slice hu
  have hzE : (zs E).length = E.length := zs_len E
  rw [zs_len E] at hu KE KQ KG
  rw [zs_len E]
  have c0 : ∀ W, Grew w1 W → W.cell? ⟨w.heap.size, 0, none⟩ = some (.int .i64 (n : Int)) := fun W hW => by rw [blk_cell (y0 W hW)]; rfl
  have c1 : ∀ W, Grew w1 W → W.cell? ⟨w.heap.size, 1, none⟩ = some (.slice (some ⟨bv, ov, none⟩) (2 ^ n) cv) := fun W hW => by rw [blk_cell (y0 W hW)]; rfl
  have Y1 := Lib.hid y1
  clear y0 y1 h hu hA hE hg hfv hcv hmv hbv hlB hm1 hsm hp30 hsa
  generalize minB E = mB at *
  generalize hats : ats E = AT at *
  generalize stds E = S at *
  generalize sBx B E = SB at *
  generalize hlE2 : E.length = lE at *
  generalize hATl : AT.length = k at *
  generalize full k = Fk at *
  generalize (2 : Nat) ^ k = P at *
  generalize (2 : Nat) ^ n = Pn at *
  have d0 := c0 _ (Grew.refl w1)
  have d1 := c1 _ (Grew.refl w1)
  go_enter Tryz.func7, Tryz.ntmps7
  go_wp2_with fail
  simp only [← hw1]
  clear hw1
  refine (KA.out _ HB0.out).mono ?_
  rintro e w2 ⟨rfl, hg2⟩
  replace d0 := c0 _ hg2
  replace d1 := c1 _ hg2
  go_wp2_with fail
  refine (KE.out _ (HB0.out.trans hg2)).mono ?_
  rintro e w3 ⟨rfl, hg3⟩
  have g3 := hg2.trans hg3
  replace d0 := c0 _ g3
  replace d1 := c1 _ g3
  go_wp2_with fail
  refine (KG.out _ (HB0.out.trans g3)).mono ?_
  intro e w4 hG4
  unfold GivesMk at hG4
  obtain ⟨bm, mm, he4, hM4, hf4, -, hg4⟩ := hG4
  subst he4
  have g4 := g3.trans hg4
  replace d0 := c0 _ g4
  replace d1 := c1 _ g4
  have KLM := KL.out bm mm w4 hM4
  rw [hf4] at KLM
  have KLM := Lib.hid KLM
  clear hM4 hf4
  go_wp2_with fail
  refine KLM.out.mono ?_
  rintro e w5 ⟨r4, rfl, hr4, hg5⟩
  have g5 := g4.trans hg5
  have HR4 := Lib.hid hr4.ints
  clear hr4
  rcases (HR4.out).open_ with ⟨_, hnil⟩ | ⟨bl, ol, cl, rfl, -, -, hbl, hcl⟩
  · rw [← List.length_eq_zero_iff, hzE] at hnil; omega
  rw [hzE] at hcl HR4 ⊢
  have HLC := Lib.hid (fun i (hi : i < lE) W (hW : Grew w5 W) => show W.cell? ⟨bl, ol + i, none⟩ = some (.int .i64 ((nt E i : Nat) : Int)) from by rw [hcl i hi W hW, zs_it (by rw [hlE2]; exact hi)])
  clear hcl hbl KLM KA KE KG KL
  go_wp2_with fail
  refine (KQ.out _ _ (HB0.out.trans g5) HR4.out).mono ?_
  rintro e wa ⟨rfl, hga⟩
  have ga := g5.trans hga
  have HOE := Lib.hid (own_emptyI wa)
  have HGA := Lib.hid (hga)
  have HG1 := Lib.hid ga
  clear HR4 KQ d0 d1 hg2 hg3 hg4 hg5 hga g3 g4 g5 ga
  go_wp2_with fail
  go_loopw [8, 9] (fun s i wr => ∃ j : Nat, j ≤ lE ∧ i = .int .i64 (j : Int) ∧ Grew wa wr ∧ Hid (OwnI wr wa.heap.size s (zs ((E.take j).filter mB)))) (fun _ i _ => lE - (intOf i).toNat)
  case atStart => exact ⟨0, by omega, rfl, (Grew.refl wa).alloc _, Lib.hid HOE.out⟩
  case round =>
    obtain ⟨j, hj, rfl, hB, hO⟩ := hrel
    by_cases hlt : j < lE
    · have q1 := HLC.out j hlt wr (HGA.out.trans hB)
      have hxs := HEL.out j hlt
      have HYJ := Lib.hid (HFY.out j hlt)
      have HNJ := Lib.hid (HFN.out j hlt)
      have hlj := HFL.out j
      have hMA := Lib.hid (HMA.out (nt E j))
      have hM0 : mnK E (nt E j) 0 = (nt E j != 0) := rfl
      generalize hK1 : (E.take (j + 1)).filter mB = K1 at *
      generalize (E.take j).filter mB = K0 at *
      have HMNJ := Lib.hid (fun k h => HMN.out (nt E j) k h)
      have HMYJ := Lib.hid (fun k h h2 => HMY.out (nt E j) k h h2)
      have HMBJ := Lib.hid (fun k h1 h2 h3 => HMB.out (nt E j) k h1 h2 h3)
      have HLJ := Lib.hid (fun W hW => HLC.out j hlt W hW)
      generalize nt E j = x at *
      have hq0 : ((x : Int) != 0) = mnK E x 0 := by rw [hM0, Bool.eq_iff_iff, bne_iff_ne, bne_iff_ne]; omega
      clear hM0 HFY HFN HFL HMN HMY HMB
      go_wp2_with fail
      go_loopw [10, 11] (fun m i wr => ∃ y : Nat, y ≤ lE ∧ i = .int .i64 (y : Int) ∧ m = .bool (mnK E x y) ∧ Grew wa wr ∧ Hid (OwnI wr wa.heap.size u8 (zs K0))) (fun _ i _ => lE - (intOf i).toNat)
      case atStart => exact ⟨0, by omega, rfl, rfl, hB, hO⟩
      case round =>
        obtain ⟨y, hy, rfl, rfl, hB2, hO2⟩ := hrel
        clear q1 hq0
        have p2 := HLJ.out wr (HGA.out.trans hB2)
        by_cases hyl : y < lE
        · have p1 := HLC.out y hyl wr (HGA.out.trans hB2)
          have hys := HEL.out y hyl
          have han := andNot_i64 (nt E y) x (by omega) (by omega)
          have HN1 := HMNJ.out y
          have HY1 := HMYJ.out y
          have HB1 := HMBJ.out y
          generalize hm1 : mnK E x (y + 1) = m1 at *
          have HM1 := Lib.hid hm1
          clear hm1
          generalize mnK E x y = m0 at *
          generalize nt E y = z at *
          clear HMNJ HMYJ HMBJ
          cases m0 with
          | false =>
            obtain rfl := HN1 rfl
            clear HN1 HY1 HB1 han
            go_wp2_with fail
            go_quiet (fail)
            go_wp2_with fail
            go_roundw
            case rel => exact ⟨y + 1, by omega, by go_num, by rw [HM1.out], hB2.drewN _, Lib.hid (hO2.out.grew ((Grew.refl _).drewN _))⟩
            case measure => simp [intOf]; omega
          | true =>
            clear HN1
            by_cases h0 : z = 0
            · subst h0
              obtain rfl : m1 = true := HY1 rfl (.inl rfl)
              clear HY1 HB1 han
              go_wp2_with fail
              go_quiet (fail)
              go_wp2_with fail
              go_roundw
              case rel => exact ⟨y + 1, by omega, by go_num, by rw [HM1.out], hB2.drewN _, Lib.hid (hO2.out.grew ((Grew.refl _).drewN _))⟩
              case measure => simp [intOf]; omega
            · have hz0 : decide ((z : Int) = 0) = false := decide_eq_false (by omega)
              have hz1 : ((z : Int) == 0) = false := by simpa using h0
              by_cases h1 : z = x
              · obtain rfl : m1 = true := HY1 rfl (.inr (.inl h1))
                have hzx : decide ((z : Int) = (x : Int)) = true := decide_eq_true (by omega)
                have hzy : ((z : Int) == (x : Int)) = true := by rw [beq_iff_eq]; omega
                clear HY1 HB1 han h1
                go_wp2_with fail
                go_quiet (fail)
                go_wp2_with fail
                go_roundw
                case rel => exact ⟨y + 1, by omega, by go_num, by rw [HM1.out], hB2.drewN _, Lib.hid (hO2.out.grew ((Grew.refl _).drewN _))⟩
                case measure => simp [intOf]; omega
              · have hzx : decide ((z : Int) = (x : Int)) = false := decide_eq_false (by omega)
                have hzy : ((z : Int) == (x : Int)) = false := by rw [beq_eq_false_iff_ne]; omega
                by_cases h2 : dif z x = 0
                · obtain rfl : m1 = false := HB1 h0 h1 h2
                  rw [h2] at han
                  clear HY1 HB1 h2
                  go_wp2_with fail
                  go_quiet (fail)
                  go_wp2_with fail
                  go_roundw
                  case rel => exact ⟨y + 1, by omega, by go_num, by rw [HM1.out], hB2.drewN _, Lib.hid (hO2.out.grew ((Grew.refl _).drewN _))⟩
                  case measure => simp [intOf]; omega
                · obtain rfl : m1 = true := HY1 rfl (.inr (.inr h2))
                  clear HY1 HB1
                  generalize dif z x = d at *
                  have hd0 : ((d : Int) != 0) = true := by rw [bne_iff_ne]; omega
                  go_wp2_with fail
                  go_quiet (fail)
                  go_wp2_with fail
                  go_roundw
                  case rel => exact ⟨y + 1, by omega, by go_num, by rw [HM1.out], hB2.drewN _, Lib.hid (hO2.out.grew ((Grew.refl _).drewN _))⟩
                  case measure => simp [intOf]; omega
        · obtain rfl : y = lE := by omega
          have hmx := hMA.out
          rw [hmx]
          clear hmx
          generalize hr : mB x = Q at *
          cases Q with
          | false =>
            have hK := HNJ.out rfl
            clear HYJ HNJ
            go_wp2_with fail
            go_roundw
            case rel => exact ⟨j + 1, by omega, by go_num, hB2, Lib.hid (by rw [hK1, hK]; exact hO2.out)⟩
            case measure => simp [intOf]; omega
          | true =>
            have hK := HYJ.out rfl
            clear HYJ HNJ
            go_wp2_with (first | (at_builtin; refine wpList_appI (w0 := wa) _ _ rfl rfl _ (zs K0) rfl (hO2.out.grew (Grew.alloc (Grew.refl _) _)) (hB2.alloc _) _ (x : Int) rfl (rd_litI _ _ _) (by rw [zs_len]; omega) ?_; intro v4 w6 hO4 hg4 _))
            go_roundw
            case rel => exact ⟨j + 1, by omega, by go_num, hg4, Lib.hid (by rw [hK1, hK, zs_snoc]; exact hO4)⟩
            case measure => simp [intOf]; omega
    · obtain rfl : j = lE := by omega
      rw [HFA.out] at hO
      clear HLC HEL HFY HFN HFL HMN HMY HMB HMA HOE
      obtain ⟨A8, c8, rfl⟩ := ints_slice hO.out.ints
      have hzA : (zs AT).length = k := by rw [zs_len, hATl]
      rw [hzA] at hO ⊢
      have HAC := Lib.hid (fun i (hi : i < k) => show ∃ b o, A8 = some ⟨b, o, none⟩ ∧ ∀ W, Grew wr W → W.cell? ⟨b, o + i, none⟩ = some (.int .i64 ((nt AT i : Nat) : Int)) from by
        rcases (hO.out.ints).open_ with ⟨_, hnil⟩ | ⟨bu, ou, cu, hu2, hcu, hmu, hbu, hfu⟩
        · rw [← List.length_eq_zero_iff, zs_len, hATl] at hnil; omega
        rw [zs_len, hATl] at hu2 hfu
        simp only [Value.slice.injEq] at hu2
        exact ⟨bu, ou, hu2.1, fun W hW => by rw [hfu i hi W hW, zs_it (by rw [hATl]; exact hi)]⟩)
      have HWL := Lib.hid ((HG1.out.trans hB))
      clear hO hB HG1 HGA
      generalize wr = wl at *
      have h0 := Q3.start wl k
      have HQ3 := Lib.hid h0
      clear h0
      go_wp2_with fail
      generalize ((wl.alloc (.cells #[] 2)).alloc (.cells #[] 2)).alloc (.cells #[.int .i64 (k : Int), .slice (some ⟨wl.heap.size, 0, none⟩) 0 0] 26) = w7 at *
      go_loopw [13, 14] (fun s i wr => ∃ x : Nat, x ≤ P ∧ i = .int .i64 (x : Int) ∧ Hid (Q3 wl k s (S.take x) wr)) (fun _ i _ => P - (intOf i).toNat)
      case atStart => exact ⟨0, by omega, rfl, HQ3⟩
      case round =>
        obtain ⟨x, hx, rfl, hQ⟩ := hrel
        clear HQ3
        have kA : wr.cell? ⟨wl.heap.size + 1 + 1, 0, none⟩ = some (.int .i64 (k : Int)) := by rw [blk_cell hQ.out.2.2.2]; rfl
        by_cases hlt : x < P
        · have hle : (x : Int) ≤ (Fk : Int) := by omega
          have hst := Lib.hid (HST.out x hlt)
          have hts := Lib.hid (HTS.out x hlt)
          have hsx := HSL.out x hlt
          have HIYX := Lib.hid (HIY.out x)
          have HINX := Lib.hid (HIN.out x)
          have HISX := Lib.hid (HIS.out x)
          have HBIX := Lib.hid (fun y W hy => HBI.out x y W hlt hy)
          have htl : (S.take x).length ≤ 32 := by rw [List.length_take]; omega
          generalize hT1 : S.take (x + 1) = T1 at *
          generalize S.take x = T0 at *
          generalize nt S x = sx at *
          go_wp2_with fail
          refine (KF.out _).mono ?_
          rintro e w8 ⟨rfl, hw8⟩
          rw [hw8]
          clear hw8
          go_wp2_with fail
          go_loopw [15, 16] (fun m i wr => ∃ y : Nat, y ≤ k ∧ i = .int .i64 (y : Int) ∧ m = .int .i64 ((imK AT x y : Nat) : Int) ∧ Hid (Q3 wl k u13 T0 wr)) (fun _ i _ => k - (intOf i).toNat)
          case atStart => exact ⟨0, by omega, rfl, rfl, hQ⟩
          case round =>
            clear hQ kA
            obtain ⟨y, hy, rfl, rfl, hQ⟩ := hrel
            have his := HISX.out y hy
            by_cases hly : y < k
            · obtain ⟨b8, o8, rfl, hc8⟩ := HAC.out y hly
              have q8 := hc8 _ hQ.out.1
              have hay := HSA.out y hly
              have hY := HIYX.out y
              have hN := HINX.out y
              have hB := Lib.hid (fun W => HBIX.out y W hly)
              generalize hi1 : imK AT x (y + 1) = u1 at *
              have HU1 := Lib.hid hi1
              clear hi1 hc8
              generalize imK AT x y = u0 at *
              generalize nt AT y = ay at *
              have hor := or_i64 u0 ay (by omega) (by omega)
              generalize x.testBit y = tb at *
              go_wp2_with fail
              refine (hB.out _).mono ?_
              rintro e w9 ⟨rfl, hw9⟩
              rw [hw9]
              clear hw9
              cases tb with
              | true =>
                have hv := hY rfl
                clear hY hN
                go_wp2_with fail
                go_roundw
                case rel => exact ⟨y + 1, by omega, by go_num, by rw [HU1.out, hv], hQ⟩
                case measure => simp [intOf]; omega
              | false =>
                have hv := hN rfl
                clear hY hN
                go_wp2_with fail
                go_roundw
                case rel => exact ⟨y + 1, by omega, by go_num, by rw [HU1.out, hv], hQ⟩
                case measure => simp [intOf]; omega
            · obtain rfl : y = k := by omega
              rw [hst.out] at his ⊢
              clear HIYX HINX HISX HBIX hst HAC
              have hts' := hts.out
              go_wp2_with (first | (at_builtin; refine wpList_appB (wl.heap.size + 1) _ _ rfl rfl _ (zs T0) rfl (hQ.out.2.1.grew (Grew.alloc (Grew.refl _) _)) (by have h1 := blk_lt hQ.out.2.2.2; simp; omega) _ (sx : Int) rfl (rd_litI _ _ _) (by rw [zs_len]; omega) ?_; intro v3 w9 hO3 hg9))
              go_roundw
              case rel => exact ⟨x + 1, by omega, by go_num, by rw [hT1]; exact Lib.hid (Q3.app (hQ.out.step ((Grew.refl _).alloc _)) (by rw [hts', zs_snoc]; exact hO3) hg9)⟩
              case measure => simp [intOf]; omega
        · obtain rfl : x = P := by omega
          have hle : ((x : Int) ≤ (Fk : Int)) = False := eq_false (by omega)
          have hle2 : (x ≤ Fk) = False := eq_false (by omega)
          have hle3 : decide (x ≤ Fk) = false := decide_eq_false (by omega)
          rw [HTSE.out] at hQ
          go_wp2_with fail
          refine (KF.out _).mono ?_
          rintro e w8 ⟨rfl, hw8⟩
          rw [hw8]
          clear hw8
          clear HST HTS KF HIS HIY HIN HBI HSA HAC HTSE kA
          obtain ⟨bS, oS, cS, rfl, hSx, hbS⟩ := hQ.out.open_ hSl (by omega)
          have H0 := Lib.hid (show ByS wl k x bS oS cS S SB 0 wr from ⟨_, _, hQ.out.2.2.2, hQ.out.2.2.1, hQ.out.2.1, hSx, fun he => by
            simp only [Value.ownBlock, Option.some.injEq] at he
            omega⟩)
          have C1 := fun W (hW : SxS wl bS oS x S W) => c1 W (HWL.out.trans hW.1)
          have PB := fun s (hs : s < Pn) W (hW : SxS wl bS oS x S W) => HFV.out s hs W ((HB0.out.trans HWL.out).trans hW.1)
          have YL := Lib.hid (fun W (hW : SxS wl bS oS x S W) => Y1.out W (HWL.out.trans hW.1))
          have HWW := Lib.hid (HB0.out.trans HWL.out)
          have hszl : w.heap.size + 2 ≤ wl.heap.size := by have := HWL.out.size; omega
          clear hQ c0 c1 HFV Y1 HB0 HWL hSx
          go_wp2_with fail
          go_loopw [17] (fun i wr => ∃ j : Nat, j ≤ x ∧ i = .int .i64 (j : Int) ∧ Hid (ByS wl k x bS oS cS S SB j wr)) (fun i _ => x - (intOf i).toNat)
          case atStart => exact ⟨0, by omega, rfl, H0⟩
          case round =>
            clear H0
            obtain ⟨j, hj, rfl, hBy⟩ := hrel
            obtain ⟨AB, cB, hblk, hOB, hOS, hSx, hne⟩ := hBy.out
            by_cases hlt : j < x
            · have hix := HBXL.out j hlt
              have hsn := HSN.out j hlt
              have hsx := HSL.out j hlt
              have htb := HTB.out j hlt
              have HIXJ := Lib.hid (fun W (hS : Ints W (.slice (some ⟨bS, oS, none⟩) x cS) (zs S)) => HIX.out j _ W hlt hS)
              have pB := PB (nt S j) hsn
              have pS := fun W (hW : SxS wl bS oS x S W) => hW.2.2 j hlt
              have hbo : wl.heap.size + 1 + 1 ≠ bS := fun he => own_ne hOS hblk (by decide) (by rw [he]; rfl)
              have hkl : (SB.take j).length = j := by rw [List.length_take, hBl]; omega
              obtain ⟨KB, hKBe⟩ : ∃ KB, SB.take j = KB := ⟨_, rfl⟩
              rw [hKBe] at hOB htb hkl
              have gd := (Grew.refl wr).drew
              have hdd : SxS wl bS oS x S wr.drew := hSx.step gd
              obtain ⟨ix, hixe⟩ : ∃ ix, nt SB j = ix := ⟨_, rfl⟩
              rw [hixe] at htb
              have HIXQ := Lib.hid (fun W (hS : Ints W (.slice (some ⟨bS, oS, none⟩) x cS) (zs S)) => show Calls Tryz.prog 36 #[.slice (some ⟨bS, oS, none⟩) x cS, .int .i64 ((nt B (nt S j) : Nat) : Int)] W fun e w' => e = .returned (.int .i64 (ix : Int)) ∧ Grew W w' from by rw [← hixe]; exact HIXJ.out W hS)
              have HFIN := Lib.hid (fun W (A5 : Option Addr) (n5 c5 : Nat) hb ho hs hx hne => ByS.next (wl := wl) (W := W) (k := k) (P := x) (bS := bS) (oS := oS) (cS := cS) (j := j) (ix := ix) (n5 := n5) (c5 := c5) (cB := cB) (S := S) (SB := SB) (KB := KB) (AB := AB) (A5 := A5) hb ho hs hx hne htb hkl)
              clear HIXJ hixe hKBe htb
              generalize nt S j = sx at *
              generalize nt B sx = bsx at *
              have hkl2 : KB.length ≤ 1000 := by omega
              have hj0 : (0 : Int) ≤ (sx : Int) := by omega
              have hj1 : (sx : Int) < (Pn : Int) := by omega
              clear HIX HTB HBXL HSL HSN hix PB YL HWW hBy
              go_upto_region 31 with fail
              replace hblk := (gd.block (blk_lt hblk)).trans hblk
              replace hOB := hOB.grew gd
              replace hOS := hOS.grew gd
              have kc0 : wr.drew.cell? ⟨wl.heap.size + 1 + 1, 1, none⟩ = some (.slice AB j cB) := by rw [blk_cell hblk]; rfl
              clear hSx
              refine wp_region_held_drew (S := fun w' => SxS wl bS oS x S w') (by kernel_rfl) hdd (fun hHeld => ?_)
              refine wpAnyH_take (i := 0) (oi := ?on1) (v := ?vn1) ?hin1 ?an1 ?bn1 ?cn1 ?qn1 (Or.inl ⟨?dn1, ?hyn1⟩) hHeld ?restn1
              case hin1 => (simp only [List.getElem?_toArray, List.getElem?_cons_zero]; exact rfl)
              case an1 => kernel_rfl
              case bn1 => kernel_rfl
              case cn1 => kernel_rfl
              case qn1 => exact fun _ _ _ h => h
              case dn1 => rfl
              case hyn1 => (intro z hSw; (try dsimp only at hSw); go_simp; (try with_reducible rfl))
              try simp only [Act.put, List.setIfInBounds_toArray, List.set_cons_zero, List.set_cons_succ]
              refine wpAnyH_take (i := 2) (oi := ?on2) (v := ?vn2) ?hin2 ?an2 ?bn2 ?cn2 ?qn2 (Or.inl ⟨?dn2, ?hyn2⟩) hHeld ?restn2
              case hin2 => (simp only [List.getElem?_toArray, List.getElem?_cons_succ, List.getElem?_cons_zero]; exact rfl)
              case an2 => kernel_rfl
              case bn2 => kernel_rfl
              case cn2 => kernel_rfl
              case qn2 => exact fun _ _ _ h => h
              case dn2 => rfl
              case hyn2 => (intro z hSw; (try dsimp only at hSw); go_simp; (try with_reducible rfl))
              try simp only [Act.put, List.setIfInBounds_toArray, List.set_cons_zero, List.set_cons_succ]
              refine wpAnyH_take (i := 3) (oi := ?on3) (v := ?vn3) ?hin3 ?an3 ?bn3 ?cn3 ?qn3 (Or.inl ⟨?dn3, ?hyn3⟩) hHeld ?restn3
              case hin3 => (simp only [List.getElem?_toArray, List.getElem?_cons_succ, List.getElem?_cons_zero]; exact rfl)
              case an3 => kernel_rfl
              case bn3 => kernel_rfl
              case cn3 => kernel_rfl
              case qn3 => exact fun _ _ _ h => h
              case dn3 => rfl
              case hyn3 => (intro z hSw; (try dsimp only at hSw); go_simp; (try with_reducible rfl))
              try simp only [Act.put, List.setIfInBounds_toArray, List.set_cons_zero, List.set_cons_succ]
              refine wpAnyH_take (i := 4) (oi := ?on4) (v := ?vn4) ?hin4 ?an4 ?bn4 ?cn4 ?qn4 (Or.inl ⟨?dn4, ?hyn4⟩) hHeld ?restn4
              case hin4 => (simp only [List.getElem?_toArray, List.getElem?_cons_succ, List.getElem?_cons_zero]; exact rfl)
              case an4 => kernel_rfl
              case bn4 => kernel_rfl
              case cn4 => kernel_rfl
              case qn4 => exact fun _ _ _ h => h
              case dn4 => rfl
              case hyn4 => (intro z hSw; (try dsimp only at hSw); go_simp; (try with_reducible rfl))
              try simp only [Act.put, List.setIfInBounds_toArray, List.set_cons_zero, List.set_cons_succ]
              refine wpAnyH_take (i := 5) (oi := ?on5) (v := ?vn5) ?hin5 ?an5 ?bn5 ?cn5 ?qn5 (Or.inl ⟨?dn5, ?hyn5⟩) hHeld ?restn5
              case hin5 => (simp only [List.getElem?_toArray, List.getElem?_cons_succ, List.getElem?_cons_zero]; exact rfl)
              case an5 => kernel_rfl
              case bn5 => kernel_rfl
              case cn5 => kernel_rfl
              case qn5 => exact fun _ _ _ h => h
              case dn5 => rfl
              case hyn5 => (intro z hSw; (try dsimp only at hSw); go_simp; (try with_reducible rfl))
              try simp only [Act.put, List.setIfInBounds_toArray, List.set_cons_zero, List.set_cons_succ]
              refine wpAnyH_take (i := 6) (oi := ?on6) (v := ?vn6) ?hin6 ?an6 ?bn6 ?cn6 ?qn6 (Or.inl ⟨?dn6, ?hyn6⟩) hHeld ?restn6
              case hin6 => (simp only [List.getElem?_toArray, List.getElem?_cons_succ, List.getElem?_cons_zero]; exact rfl)
              case an6 => kernel_rfl
              case bn6 => kernel_rfl
              case cn6 => kernel_rfl
              case qn6 => exact fun _ _ _ h => h
              case dn6 => rfl
              case hyn6 => (intro z hSw; (try dsimp only at hSw); go_simp; (try with_reducible rfl))
              try simp only [Act.put, List.setIfInBounds_toArray, List.set_cons_zero, List.set_cons_succ]
              refine wpAnyH_take (i := 7) (oi := ?on7) (v := ?vn7) ?hin7 ?an7 ?bn7 ?cn7 ?qn7 (Or.inl ⟨?dn7, ?hyn7⟩) hHeld ?restn7
              case hin7 => (simp only [List.getElem?_toArray, List.getElem?_cons_succ, List.getElem?_cons_zero]; exact rfl)
              case an7 => kernel_rfl
              case bn7 => kernel_rfl
              case cn7 => kernel_rfl
              case qn7 => exact fun _ _ _ h => h
              case dn7 => rfl
              case hyn7 => (intro z hSw; (try dsimp only at hSw); go_simp; (try with_reducible rfl))
              try simp only [Act.put, List.setIfInBounds_toArray, List.set_cons_zero, List.set_cons_succ]
              refine wpAnyH_take (i := 8) (oi := ?on8) (v := ?vn8) ?hin8 ?an8 ?bn8 ?cn8 ?qn8 (Or.inl ⟨?dn8, ?hyn8⟩) hHeld ?restn8
              case hin8 => (simp only [List.getElem?_toArray, List.getElem?_cons_succ, List.getElem?_cons_zero]; exact rfl)
              case an8 => kernel_rfl
              case bn8 => kernel_rfl
              case cn8 => kernel_rfl
              case qn8 => exact fun _ _ _ h => h
              case dn8 => rfl
              case hyn8 => (intro z hSw; (try dsimp only at hSw); go_simp; (try with_reducible rfl))
              try simp only [Act.put, List.setIfInBounds_toArray, List.set_cons_zero, List.set_cons_succ]
              refine wpAnyH_take (i := 9) (oi := ?on9) (v := ?vn9) ?hin9 ?an9 ?bn9 ?cn9 ?qn9 (Or.inl ⟨?dn9, ?hyn9⟩) hHeld ?restn9
              case hin9 => (simp only [List.getElem?_toArray, List.getElem?_cons_succ, List.getElem?_cons_zero]; exact rfl)
              case an9 => kernel_rfl
              case bn9 => kernel_rfl
              case cn9 => kernel_rfl
              case qn9 => exact fun _ _ _ h => h
              case dn9 => rfl
              case hyn9 => (intro z hSw; (try dsimp only at hSw); go_simp; (try with_reducible rfl))
              try simp only [Act.put, List.setIfInBounds_toArray, List.set_cons_zero, List.set_cons_succ]
              refine wpAnyH_take (i := 10) (oi := ?on10) (v := ?vn10) ?hin10 ?an10 ?bn10 ?cn10 ?qn10 (Or.inl ⟨?dn10, ?hyn10⟩) hHeld ?restn10
              case hin10 => (simp only [List.getElem?_toArray, List.getElem?_cons_succ, List.getElem?_cons_zero]; exact rfl)
              case an10 => kernel_rfl
              case bn10 => kernel_rfl
              case cn10 => kernel_rfl
              case qn10 => exact fun _ _ _ h => h
              case dn10 => rfl
              case hyn10 => (intro z hSw; (try dsimp only at hSw); go_simp; (try with_reducible rfl))
              try simp only [Act.put, List.setIfInBounds_toArray, List.set_cons_zero, List.set_cons_succ]
              refine wpAnyH_ready (rs := [1, 11]) (by kernel_rfl) (by simp) ?_
              refine AllReadyH.cons (o := ?on11) ?hin11 ?restn11 (AllReadyH.cons (o := ?on12) ?hin12 ?restn12 AllReadyH.nil)
              case hin11 => (simp only [List.getElem?_toArray, List.getElem?_cons_succ, List.getElem?_cons_zero]; exact rfl)
              case hin12 => (simp only [List.getElem?_toArray, List.getElem?_cons_succ, List.getElem?_cons_zero]; exact rfl)
              case restn11 =>
                intro K hK
                go_simp
                refine hK.out _ _ ?_ (fun hHeld => ?_)
                · (try dsimp only); first | with_reducible assumption | exact hdd
                clear hK K
                try simp only [Act.put, List.setIfInBounds_toArray, List.set_cons_zero, List.set_cons_succ]
                refine wpAnyH_ready (rs := [11]) (by kernel_rfl) (by simp) ?_
                refine AllReadyH.cons (o := ?on13) ?hin13 ?restn13 AllReadyH.nil
                case hin13 => (simp only [List.getElem?_toArray, List.getElem?_cons_succ, List.getElem?_cons_zero]; exact rfl)
                intro K hK
                go_simp
                go_at_call 36
                refine (HIXQ.out _ (hOS.ints)).mono ?_
                rintro e x2 ⟨rfl, hgx2⟩
                have hx2 : SxS wl bS oS x S x2 := hdd.step hgx2
                replace hblk := (hgx2.block (blk_lt hblk)).trans hblk
                replace hOB := hOB.grew hgx2
                replace hOS := hOS.grew hgx2
                refine hK.out _ _ ?_ (fun hHeld => ?_)
                · (try dsimp only); first | with_reducible assumption | exact hx2
                clear hK K
                try simp only [Act.put, List.setIfInBounds_toArray, List.set_cons_zero, List.set_cons_succ]
                refine wpAnyH_ready (rs := [12]) (by kernel_rfl) (by simp) ?_
                refine AllReadyH.cons (o := ?on14) ?hin14 ?restn14 AllReadyH.nil
                case hin14 => (simp only [List.getElem?_toArray, List.getElem?_cons_succ, List.getElem?_cons_zero]; exact rfl)
                intro K hK
                go_simp
                have hlit := rd_litI x2 (ix : Int) 2
                obtain ⟨x3, hwx3⟩ : ∃ W, W = x2.alloc (.cells #[.int .i64 (ix : Int)] 2) := ⟨_, rfl⟩
                have hgx3 : Grew x2 x3 := by rw [hwx3]; exact (Grew.refl _).alloc _
                have hx3 : SxS wl bS oS x S x3 := hx2.step hgx3
                rw [← hwx3] at hlit
                try simp only [← hwx3]
                clear hwx3
                replace hblk := (hgx3.block (blk_lt hblk)).trans hblk
                replace hOB := hOB.grew hgx3
                replace hOS := hOS.grew hgx3
                refine hK.out _ _ ?_ (fun hHeld => ?_)
                · (try dsimp only); first | with_reducible assumption | exact hx3
                clear hK K
                try simp only [Act.put, List.setIfInBounds_toArray, List.set_cons_zero, List.set_cons_succ]
                refine wpAnyH_ready (rs := [13]) (by kernel_rfl) (by simp) ?_
                refine AllReadyH.cons (o := ?on15) ?hin15 ?restn15 AllReadyH.nil
                case hin15 => (simp only [List.getElem?_toArray, List.getElem?_cons_succ, List.getElem?_cons_zero]; exact rfl)
                intro K hK
                refine step_appIL wl.heap.size rfl (.tmp 140) (.tmp 151) rfl (.slice AB j cB) (zs KB) rfl hOB (by have := hx3.1.size; omega) (.slice (some ⟨x2.heap.size, 0, none⟩) 1 1) _ rfl hlit (by rw [zs_len]; omega) ?_
                intro v5 x4 hown5 hg5 hat5
                obtain ⟨A5, n5, c5, rfl⟩ := own_shape hown5
                have hne5 : (Value.slice A5 n5 c5).ownBlock ≠ some bS := by
                  rcases hat5 with e | e
                  · rw [e]; exact hne
                  · rw [e]
                    intro he
                    have h9 := hx3.2.1
                    simp only [Option.some.injEq] at he
                    omega
                have hnb := fun (he : (Value.slice AB j cB).ownBlock = some (wl.heap.size + 1 + 1)) => own_ne hOB hblk (by decide) he
                have hx4 : SxS wl bS oS x S x4 := hx3.grown hg5 (fun g hg => ownI_of_ge hOB hg) hne
                replace hblk := (World.grownBy.block hg5 _ (blk_lt hblk) (fun he => hnb he.symm)).trans hblk
                have hOS5 : OwnI x4 (wl.heap.size + 1) (.slice (some ⟨bS, oS, none⟩) x cS) (zs S) := own_row hOS hg5 (fun g h1 h2 => hne (by rw [h1]; simpa [Value.ownBlock] using h2.symm))
                have kzx4 : x4.cell? ⟨wl.heap.size + 1 + 1, 1, none⟩ = some (.slice AB j cB) := by rw [blk_cell hblk]; rfl
                have fzx4 := blk_frozen hblk 1
                refine hK.out _ _ ?_ (fun hHeld => ?_)
                · (try dsimp only); first | with_reducible assumption | exact hx4
                clear hK K
                try simp only [Act.put, List.setIfInBounds_toArray, List.set_cons_zero, List.set_cons_succ]
                refine wpAnyH_take (i := 14) (oi := ?on16) (v := ?vn16) ?hin16 ?an16 ?bn16 ?cn16 ?qn16 (Or.inl ⟨?dn16, ?hyn16⟩) hHeld ?restn16
                case hin16 => (simp only [List.getElem?_toArray, List.getElem?_cons_succ, List.getElem?_cons_zero]; exact rfl)
                case an16 => kernel_rfl
                case bn16 => kernel_rfl
                case cn16 => kernel_rfl
                case qn16 => exact fun _ _ _ h => h
                case dn16 => rfl
                case hyn16 => (intro z hSw; (try dsimp only at hSw); go_simp; (try with_reducible rfl))
                try simp only [Act.put, List.setIfInBounds_toArray, List.set_cons_zero, List.set_cons_succ]
                refine wpAnyH_ready (rs := [15]) (by kernel_rfl) (by simp) ?_
                refine AllReadyH.cons (o := ?on17) ?hin17 ?restn17 AllReadyH.nil
                case hin17 => (simp only [List.getElem?_toArray, List.getElem?_cons_succ, List.getElem?_cons_zero]; exact rfl)
                intro K hK
                go_simp
                refine hK.out _ _ ?_ (fun hHeld => ?_)
                · (try dsimp only); first | with_reducible assumption | exact SxS.set hx4 (by omega) hbo
                clear hK K
                try simp only [Act.put, List.setIfInBounds_toArray, List.set_cons_zero, List.set_cons_succ]
                refine wpAnyH_done (by kernel_rfl) ?_ _
                have hFIN := Lib.hid (HFIN.out x4 _ _ _ hblk hown5 hOS5 hx4 hne5)
                clear hOB hOS hOS5 hlit hblk hown5 hg5 hne5
                go_wp2_with fail
                go_roundw
                case rel => exact ⟨j + 1, by omega, by go_num, hFIN⟩
                case measure => simp [intOf] <;> omega
              case restn12 =>
                intro K hK
                go_simp
                go_at_call 36
                refine (HIXQ.out _ (hOS.ints)).mono ?_
                rintro e x1 ⟨rfl, hgx1⟩
                have hx1 : SxS wl bS oS x S x1 := hdd.step hgx1
                replace hblk := (hgx1.block (blk_lt hblk)).trans hblk
                replace hOB := hOB.grew hgx1
                replace hOS := hOS.grew hgx1
                have kcx1 : x1.cell? ⟨wl.heap.size + 1 + 1, 1, none⟩ = some (.slice AB j cB) := by rw [blk_cell hblk]; rfl
                refine hK.out _ _ ?_ (fun hHeld => ?_)
                · (try dsimp only); first | with_reducible assumption | exact hx1
                clear hK K
                try simp only [Act.put, List.setIfInBounds_toArray, List.set_cons_zero, List.set_cons_succ]
                refine wpAnyH_ready (rs := [1, 12]) (by kernel_rfl) (by simp) ?_
                refine AllReadyH.cons (o := ?on18) ?hin18 ?restn18 (AllReadyH.cons (o := ?on19) ?hin19 ?restn19 AllReadyH.nil)
                case hin18 => (simp only [List.getElem?_toArray, List.getElem?_cons_succ, List.getElem?_cons_zero]; exact rfl)
                case hin19 => (simp only [List.getElem?_toArray, List.getElem?_cons_succ, List.getElem?_cons_zero]; exact rfl)
                case restn18 =>
                  intro K hK
                  go_simp
                  refine hK.out _ _ ?_ (fun hHeld => ?_)
                  · (try dsimp only); first | with_reducible assumption | exact hx1
                  clear hK K
                  try simp only [Act.put, List.setIfInBounds_toArray, List.set_cons_zero, List.set_cons_succ]
                  refine wpAnyH_ready (rs := [12]) (by kernel_rfl) (by simp) ?_
                  refine AllReadyH.cons (o := ?on20) ?hin20 ?restn20 AllReadyH.nil
                  case hin20 => (simp only [List.getElem?_toArray, List.getElem?_cons_succ, List.getElem?_cons_zero]; exact rfl)
                  intro K hK
                  go_simp
                  have hlit := rd_litI x1 (ix : Int) 2
                  obtain ⟨x3, hwx3⟩ : ∃ W, W = x1.alloc (.cells #[.int .i64 (ix : Int)] 2) := ⟨_, rfl⟩
                  have hgx3 : Grew x1 x3 := by rw [hwx3]; exact (Grew.refl _).alloc _
                  have hx3 : SxS wl bS oS x S x3 := hx1.step hgx3
                  rw [← hwx3] at hlit
                  try simp only [← hwx3]
                  clear hwx3
                  replace hblk := (hgx3.block (blk_lt hblk)).trans hblk
                  replace hOB := hOB.grew hgx3
                  replace hOS := hOS.grew hgx3
                  refine hK.out _ _ ?_ (fun hHeld => ?_)
                  · (try dsimp only); first | with_reducible assumption | exact hx3
                  clear hK K
                  try simp only [Act.put, List.setIfInBounds_toArray, List.set_cons_zero, List.set_cons_succ]
                  refine wpAnyH_ready (rs := [13]) (by kernel_rfl) (by simp) ?_
                  refine AllReadyH.cons (o := ?on21) ?hin21 ?restn21 AllReadyH.nil
                  case hin21 => (simp only [List.getElem?_toArray, List.getElem?_cons_succ, List.getElem?_cons_zero]; exact rfl)
                  intro K hK
                  refine step_appIL wl.heap.size rfl (.tmp 140) (.tmp 151) rfl (.slice AB j cB) (zs KB) rfl hOB (by have := hx3.1.size; omega) (.slice (some ⟨x1.heap.size, 0, none⟩) 1 1) _ rfl hlit (by rw [zs_len]; omega) ?_
                  intro v5 x4 hown5 hg5 hat5
                  obtain ⟨A5, n5, c5, rfl⟩ := own_shape hown5
                  have hne5 : (Value.slice A5 n5 c5).ownBlock ≠ some bS := by
                    rcases hat5 with e | e
                    · rw [e]; exact hne
                    · rw [e]
                      intro he
                      have h9 := hx3.2.1
                      simp only [Option.some.injEq] at he
                      omega
                  have hnb := fun (he : (Value.slice AB j cB).ownBlock = some (wl.heap.size + 1 + 1)) => own_ne hOB hblk (by decide) he
                  have hx4 : SxS wl bS oS x S x4 := hx3.grown hg5 (fun g hg => ownI_of_ge hOB hg) hne
                  replace hblk := (World.grownBy.block hg5 _ (blk_lt hblk) (fun he => hnb he.symm)).trans hblk
                  have hOS5 : OwnI x4 (wl.heap.size + 1) (.slice (some ⟨bS, oS, none⟩) x cS) (zs S) := own_row hOS hg5 (fun g h1 h2 => hne (by rw [h1]; simpa [Value.ownBlock] using h2.symm))
                  have kzx4 : x4.cell? ⟨wl.heap.size + 1 + 1, 1, none⟩ = some (.slice AB j cB) := by rw [blk_cell hblk]; rfl
                  have fzx4 := blk_frozen hblk 1
                  refine hK.out _ _ ?_ (fun hHeld => ?_)
                  · (try dsimp only); first | with_reducible assumption | exact hx4
                  clear hK K
                  try simp only [Act.put, List.setIfInBounds_toArray, List.set_cons_zero, List.set_cons_succ]
                  refine wpAnyH_take (i := 14) (oi := ?on22) (v := ?vn22) ?hin22 ?an22 ?bn22 ?cn22 ?qn22 (Or.inl ⟨?dn22, ?hyn22⟩) hHeld ?restn22
                  case hin22 => (simp only [List.getElem?_toArray, List.getElem?_cons_succ, List.getElem?_cons_zero]; exact rfl)
                  case an22 => kernel_rfl
                  case bn22 => kernel_rfl
                  case cn22 => kernel_rfl
                  case qn22 => exact fun _ _ _ h => h
                  case dn22 => rfl
                  case hyn22 => (intro z hSw; (try dsimp only at hSw); go_simp; (try with_reducible rfl))
                  try simp only [Act.put, List.setIfInBounds_toArray, List.set_cons_zero, List.set_cons_succ]
                  refine wpAnyH_ready (rs := [15]) (by kernel_rfl) (by simp) ?_
                  refine AllReadyH.cons (o := ?on23) ?hin23 ?restn23 AllReadyH.nil
                  case hin23 => (simp only [List.getElem?_toArray, List.getElem?_cons_succ, List.getElem?_cons_zero]; exact rfl)
                  intro K hK
                  go_simp
                  refine hK.out _ _ ?_ (fun hHeld => ?_)
                  · (try dsimp only); first | with_reducible assumption | exact SxS.set hx4 (by omega) hbo
                  clear hK K
                  try simp only [Act.put, List.setIfInBounds_toArray, List.set_cons_zero, List.set_cons_succ]
                  refine wpAnyH_done (by kernel_rfl) ?_ _
                  have hFIN := Lib.hid (HFIN.out x4 _ _ _ hblk hown5 hOS5 hx4 hne5)
                  clear hOB hOS hOS5 hlit hblk hown5 hg5 hne5
                  go_wp2_with fail
                  go_roundw
                  case rel => exact ⟨j + 1, by omega, by go_num, hFIN⟩
                  case measure => simp [intOf] <;> omega
                case restn19 =>
                  intro K hK
                  go_simp
                  have hlit := rd_litI x1 (ix : Int) 2
                  obtain ⟨x2, hwx2⟩ : ∃ W, W = x1.alloc (.cells #[.int .i64 (ix : Int)] 2) := ⟨_, rfl⟩
                  have hgx2 : Grew x1 x2 := by rw [hwx2]; exact (Grew.refl _).alloc _
                  have hx2 : SxS wl bS oS x S x2 := hx1.step hgx2
                  rw [← hwx2] at hlit
                  try simp only [← hwx2]
                  clear hwx2
                  replace hblk := (hgx2.block (blk_lt hblk)).trans hblk
                  replace hOB := hOB.grew hgx2
                  replace hOS := hOS.grew hgx2
                  have kcx2 : x2.cell? ⟨wl.heap.size + 1 + 1, 1, none⟩ = some (.slice AB j cB) := by rw [blk_cell hblk]; rfl
                  refine hK.out _ _ ?_ (fun hHeld => ?_)
                  · (try dsimp only); first | with_reducible assumption | exact hx2
                  clear hK K
                  try simp only [Act.put, List.setIfInBounds_toArray, List.set_cons_zero, List.set_cons_succ]
                  refine wpAnyH_ready (rs := [1]) (by kernel_rfl) (by simp) ?_
                  refine AllReadyH.cons (o := ?on24) ?hin24 ?restn24 AllReadyH.nil
                  case hin24 => (simp only [List.getElem?_toArray, List.getElem?_cons_succ, List.getElem?_cons_zero]; exact rfl)
                  intro K hK
                  go_simp
                  refine hK.out _ _ ?_ (fun hHeld => ?_)
                  · (try dsimp only); first | with_reducible assumption | exact hx2
                  clear hK K
                  try simp only [Act.put, List.setIfInBounds_toArray, List.set_cons_zero, List.set_cons_succ]
                  refine wpAnyH_ready (rs := [13]) (by kernel_rfl) (by simp) ?_
                  refine AllReadyH.cons (o := ?on25) ?hin25 ?restn25 AllReadyH.nil
                  case hin25 => (simp only [List.getElem?_toArray, List.getElem?_cons_succ, List.getElem?_cons_zero]; exact rfl)
                  intro K hK
                  refine step_appIL wl.heap.size rfl (.tmp 140) (.tmp 151) rfl (.slice AB j cB) (zs KB) rfl hOB (by have := hx2.1.size; omega) (.slice (some ⟨x1.heap.size, 0, none⟩) 1 1) _ rfl hlit (by rw [zs_len]; omega) ?_
                  intro v5 x4 hown5 hg5 hat5
                  obtain ⟨A5, n5, c5, rfl⟩ := own_shape hown5
                  have hne5 : (Value.slice A5 n5 c5).ownBlock ≠ some bS := by
                    rcases hat5 with e | e
                    · rw [e]; exact hne
                    · rw [e]
                      intro he
                      have h9 := hx2.2.1
                      simp only [Option.some.injEq] at he
                      omega
                  have hnb := fun (he : (Value.slice AB j cB).ownBlock = some (wl.heap.size + 1 + 1)) => own_ne hOB hblk (by decide) he
                  have hx4 : SxS wl bS oS x S x4 := hx2.grown hg5 (fun g hg => ownI_of_ge hOB hg) hne
                  replace hblk := (World.grownBy.block hg5 _ (blk_lt hblk) (fun he => hnb he.symm)).trans hblk
                  have hOS5 : OwnI x4 (wl.heap.size + 1) (.slice (some ⟨bS, oS, none⟩) x cS) (zs S) := own_row hOS hg5 (fun g h1 h2 => hne (by rw [h1]; simpa [Value.ownBlock] using h2.symm))
                  have kzx4 : x4.cell? ⟨wl.heap.size + 1 + 1, 1, none⟩ = some (.slice AB j cB) := by rw [blk_cell hblk]; rfl
                  have fzx4 := blk_frozen hblk 1
                  refine hK.out _ _ ?_ (fun hHeld => ?_)
                  · (try dsimp only); first | with_reducible assumption | exact hx4
                  clear hK K
                  try simp only [Act.put, List.setIfInBounds_toArray, List.set_cons_zero, List.set_cons_succ]
                  refine wpAnyH_take (i := 14) (oi := ?on26) (v := ?vn26) ?hin26 ?an26 ?bn26 ?cn26 ?qn26 (Or.inl ⟨?dn26, ?hyn26⟩) hHeld ?restn26
                  case hin26 => (simp only [List.getElem?_toArray, List.getElem?_cons_succ, List.getElem?_cons_zero]; exact rfl)
                  case an26 => kernel_rfl
                  case bn26 => kernel_rfl
                  case cn26 => kernel_rfl
                  case qn26 => exact fun _ _ _ h => h
                  case dn26 => rfl
                  case hyn26 => (intro z hSw; (try dsimp only at hSw); go_simp; (try with_reducible rfl))
                  try simp only [Act.put, List.setIfInBounds_toArray, List.set_cons_zero, List.set_cons_succ]
                  refine wpAnyH_ready (rs := [15]) (by kernel_rfl) (by simp) ?_
                  refine AllReadyH.cons (o := ?on27) ?hin27 ?restn27 AllReadyH.nil
                  case hin27 => (simp only [List.getElem?_toArray, List.getElem?_cons_succ, List.getElem?_cons_zero]; exact rfl)
                  intro K hK
                  go_simp
                  refine hK.out _ _ ?_ (fun hHeld => ?_)
                  · (try dsimp only); first | with_reducible assumption | exact SxS.set hx4 (by omega) hbo
                  clear hK K
                  try simp only [Act.put, List.setIfInBounds_toArray, List.set_cons_zero, List.set_cons_succ]
                  refine wpAnyH_done (by kernel_rfl) ?_ _
                  have hFIN := Lib.hid (HFIN.out x4 _ _ _ hblk hown5 hOS5 hx4 hne5)
                  clear hOB hOS hOS5 hlit hblk hown5 hg5 hne5
                  go_wp2_with fail
                  go_roundw
                  case rel => exact ⟨j + 1, by omega, by go_num, hFIN⟩
                  case measure => simp [intOf] <;> omega
            · obtain rfl : j = x := by omega
              have HBL := Lib.hid hblk
              have HOB := Lib.hid hOB
              have HOS := Lib.hid hOS
              have y1 := YL.out wr hSx
              have f0 := blk_frozen y1 0
              have f1 := blk_frozen y1 1
              have k0 : wr.cell? ⟨w.heap.size + 1, 0, none⟩ = some (.int .i64 0) := by rw [blk_cell y1]; rfl
              have k1 : wr.cell? ⟨w.heap.size + 1, 1, none⟩ = some (.slice none 0 0) := by rw [blk_cell y1]; rfl
              have q0 : wr.cell? ⟨wl.heap.size + 1 + 1, 0, none⟩ = some (.int .i64 (k : Int)) := by rw [blk_cell hblk]; rfl
              have q1 : wr.cell? ⟨wl.heap.size + 1 + 1, 1, none⟩ = some (.slice AB j cB) := by rw [blk_cell hblk]; rfl
              have HY := Lib.hid y1
              have HX := Lib.hid hSx.1
              have htb : (SB.take j) = SB := by rw [← hBl]; exact List.take_length
              rw [htb] at HOB
              clear hblk hOB hOS hSx hne y1 YL PB C1 HIX HTB HBXL HSL HSN hBy
              go_wp2_with fail
              (try simp only [Exit.inBlock, Exit.then])
              refine bodyPost_ret (results_cell_tmp2_row rfl _ _ (w.heap.size + 1) _ _ _ _ rfl (blk_set (blk_set HY.out 0 _) 1 _) Tryz.underlying26 rfl hinfo) rfl ?_
              have hk : Only (w.heap.size + 1) wr ((wr.setCell ⟨w.heap.size + 1, 0, none⟩ (.int .i64 (k : Int))).setCell ⟨w.heap.size + 1, 1, none⟩ (.slice AB j cB)) := ((Only.refl _ _).setCell _).setCell _
              refine ⟨_, _, rfl, ?_, ?_, ((HWW.out.trans HX.out).setCell (Nat.le_succ _) _).setCell (Nat.le_succ _) _⟩
              · exact OwnI.ints (own_only HOB.out hk (fun hh => by have := (World.ownsRow.lt HOB.out _ hh).1; omega))
              · exact OwnI.ints (own_only HOS.out hk (fun hh => by have := (World.ownsRow.lt HOS.out _ hh).1; omega))
end Go.Proofs.YtopjgcbhjhhlfaaGreat


/- ModalSubalgebra of the reference at whatever arguments. -/
namespace Go.Proofs.YtopjgcbhjhhlfaaGreat
open Go.RowKit

set_option maxHeartbeats 4000000 in
set_option maxRecDepth 20000 in
theorem modalSubS_no1 (n : Int) (v u : Value) (L X : List Int) (w : World) (h : Ints w v L) (hu : Ints w u X) (hb : (algB n L && mks n.toNat X) = false) :
    Calls Tryz.prog 7 #[.agg #[.int .i64 n, v], u] w (GivesSub w (subF n L X)) := by
  rw [subF_bad hb]
  have hinfo : (Tryz.prog.info? 26).map (·.size) = some 2 := by kernel_rfl
  have KA := Lib.hid (fun W (hW : Grew w W) => l15Is_c n v L W (h.grew hW))
  have KE : algB n L = true → ∀ W, Grew w W → Calls Tryz.prog 20 #[.int .i64 n, u] W fun e w' => e = .returned (.bool false) ∧ Grew W w' := fun ha W hW => by
    obtain ⟨N, rfl, hN⟩ := algB_range ha
    have := l01Masks_c N u X W (hu.grew hW) (by omega)
    rw [ha, Bool.true_and, Int.toNat_natCast] at hb
    rwa [hb] at this
  obtain ⟨A, c, rfl⟩ := ints_slice h
  obtain ⟨A2, c2, rfl⟩ := ints_slice hu
  have HB0 := Lib.hid (((Grew.refl w).alloc (.cells #[.int .i64 n, .slice A L.length c] 26)).alloc (.cells #[.int .i64 0, .slice none 0 0] 26))
  have y0 : ∀ W, Grew ((w.alloc (.cells #[.int .i64 n, .slice A L.length c] 26)).alloc (.cells #[.int .i64 0, .slice none 0 0] 26)) W → W.heap[w.heap.size]? = some (.cells #[.int .i64 n, .slice A L.length c] 26 (0, 0)) :=
    fun W hW => ((((Grew.refl (w.alloc (.cells #[.int .i64 n, .slice A L.length c] 26))).alloc (.cells #[.int .i64 0, .slice none 0 0] 26)).trans hW).block (by simp)).trans (blk_new w _)
  have y1 : ∀ W, Grew ((w.alloc (.cells #[.int .i64 n, .slice A L.length c] 26)).alloc (.cells #[.int .i64 0, .slice none 0 0] 26)) W → W.heap[w.heap.size + 1]? = some (.cells #[.int .i64 0, .slice none 0 0] 26 (0, 0)) :=
    fun W hW => (hW.block (by simp)).trans (by
      have h := blk_new (w.alloc (.cells #[.int .i64 n, .slice A L.length c] 26)) (.cells #[.int .i64 0, .slice none 0 0] 26)
      have e : (w.alloc (.cells #[.int .i64 n, .slice A L.length c] 26)).heap.size = w.heap.size + 1 := by simp
      rwa [e] at h)
  obtain ⟨w1, hw1⟩ : ∃ w1, w1 = (w.alloc (.cells #[.int .i64 n, .slice A L.length c] 26)).alloc (.cells #[.int .i64 0, .slice none 0 0] 26) := ⟨_, rfl⟩
  rw [← hw1] at y0 y1 HB0
  have c0 : ∀ W, Grew w1 W → W.cell? ⟨w.heap.size, 0, none⟩ = some (.int .i64 n) := fun W hW => by rw [blk_cell (y0 W hW)]; rfl
  have c1 : ∀ W, Grew w1 W → W.cell? ⟨w.heap.size, 1, none⟩ = some (.slice A L.length c) := fun W hW => by rw [blk_cell (y0 W hW)]; rfl
  have Y1 := Lib.hid y1
  have FIN := Lib.hid (fun W (hW : Grew w1 W) => show GivesSub w (0, [], [], 1) (.returned (.tuple #[.agg #[.int .i64 0, .slice none 0 0], .slice none 0 0, .int .i64 1])) ((W.setCell ⟨w.heap.size + 1, 0, none⟩ (.int .i64 0)).setCell ⟨w.heap.size + 1, 1, none⟩ (.slice none 0 0)) from
    ⟨_, _, rfl, Ints.nil_ _, Ints.nil_ _, ((HB0.out.trans hW).setCell (Nat.le_succ _) _).setCell (Nat.le_succ _) _⟩)
  clear y0 y1 h hu hb
  generalize algB n L = R at *
  generalize L.length = l at *
  generalize X.length = l2 at *
  have d0 := c0 _ (Grew.refl w1)
  have d1 := c1 _ (Grew.refl w1)
  go_enter Tryz.func7, Tryz.ntmps7
  go_wp2_with fail
  simp only [← hw1]
  clear hw1
  refine (KA.out _ HB0.out).mono ?_
  rintro e w2 ⟨rfl, hg2⟩
  replace d0 := c0 _ hg2
  replace d1 := c1 _ hg2
  cases R with
  | false =>
    have y1 := Y1.out w2 hg2
    have f0 := blk_frozen y1 0
    have f1 := blk_frozen y1 1
    have k0 : w2.cell? ⟨w.heap.size + 1, 0, none⟩ = some (.int .i64 0) := by rw [blk_cell y1]; rfl
    have k1 : w2.cell? ⟨w.heap.size + 1, 1, none⟩ = some (.slice none 0 0) := by rw [blk_cell y1]; rfl
    have HY := Lib.hid y1
    clear y1 KE
    go_wp2_with fail
    (try simp only [Exit.inBlock, Exit.then])
    refine bodyPost_ret (results_cell_tmp2_row rfl _ _ (w.heap.size + 1) _ _ _ _ rfl (blk_set (blk_set HY.out 0 _) 1 _) Tryz.underlying26 rfl hinfo) rfl ?_
    exact FIN.out w2 hg2
  | true =>
    have KE2 := Lib.hid (KE rfl)
    clear KE
    go_wp2_with fail
    refine (KE2.out _ (HB0.out.trans hg2)).mono ?_
    rintro e w3 ⟨rfl, hg3⟩
    have g3 := hg2.trans hg3
    have y1 := Y1.out w3 g3
    have f0 := blk_frozen y1 0
    have f1 := blk_frozen y1 1
    have k0 : w3.cell? ⟨w.heap.size + 1, 0, none⟩ = some (.int .i64 0) := by rw [blk_cell y1]; rfl
    have k1 : w3.cell? ⟨w.heap.size + 1, 1, none⟩ = some (.slice none 0 0) := by rw [blk_cell y1]; rfl
    have HY := Lib.hid y1
    clear y1 d0 d1
    go_wp2_with fail
    (try simp only [Exit.inBlock, Exit.then])
    refine bodyPost_ret (results_cell_tmp2_row rfl _ _ (w.heap.size + 1) _ _ _ _ rfl (blk_set (blk_set HY.out 0 _) 1 _) Tryz.underlying26 rfl hinfo) rfl ?_
    exact FIN.out w3 g3
set_option maxHeartbeats 4000000 in
set_option maxRecDepth 20000 in
theorem modalSubS_no5 (n : Nat) (v u : Value) (B E : List Nat) (w : World) (h : Ints w v (zs B)) (hu : Ints w u (zs E)) (hA : Alg n B) (hE : ∀ e ∈ E, e < 2 ^ n) (hne : ¬ genL n B E = E) :
    Calls Tryz.prog 7 #[.agg #[.int .i64 (n : Int), v], u] w (GivesSub w (0, [], [], 5)) := by
  have hinfo : (Tryz.prog.info? 26).map (·.size) = some 2 := by kernel_rfl
  have hn5 := hA.le
  have hm1 : mks n (zs E) = true := by
    unfold mks
    rw [List.all_eq_true]
    intro z hz
    obtain ⟨x, hx, rfl⟩ := List.mem_map.1 hz
    exact mk_yes (hE x hx)
  have KA := Lib.hid (fun W (hW : Grew w W) => l15Is_c (n : Int) v (zs B) W (h.grew hW))
  rw [algB_of hA] at KA
  have KE := Lib.hid (fun W (hW : Grew w W) => l01Masks_c n u (zs E) W (hu.grew hW) (by omega))
  rw [hm1] at KE
  have KG := Lib.hid (fun W (hW : Grew w W) => l15Generate_c n v u B E W (h.grew hW) (hu.grew hW) hA hE)
  have hPn : 2 ^ n ≤ 1000 := Nat.le_trans (Nat.pow_le_pow_right (by omega) hn5) (by decide)
  have KL := Lib.hid (fun g m W (hM : MRow W g (2 ^ n) m) => l15List_c g (2 ^ n) m W hM hPn)
  have KQ := Lib.hid (fun v1 W (hW : Grew w W) (h1 : Ints W v1 (zs (genL n B E))) (hl : (genL n B E).length = E.length) => l01Same_c v1 u _ E W h1 (hu.grew hW) hl)
  rw [decide_eq_false hne] at KQ
  generalize genL n B E = GL at *
  have hzG : (zs GL).length = GL.length := zs_len GL
  have hzE : (zs E).length = E.length := zs_len E
  generalize zs B = L at *
  generalize zs E = X at *
  obtain ⟨A, c, rfl⟩ := ints_slice h
  obtain ⟨A2, c2, rfl⟩ := ints_slice hu
  generalize (2 : Nat) ^ n = Pn at *
  generalize (n : Int) = n at *
  have HB0 := Lib.hid (((Grew.refl w).alloc (.cells #[.int .i64 n, .slice A L.length c] 26)).alloc (.cells #[.int .i64 0, .slice none 0 0] 26))
  have y0 : ∀ W, Grew ((w.alloc (.cells #[.int .i64 n, .slice A L.length c] 26)).alloc (.cells #[.int .i64 0, .slice none 0 0] 26)) W → W.heap[w.heap.size]? = some (.cells #[.int .i64 n, .slice A L.length c] 26 (0, 0)) :=
    fun W hW => ((((Grew.refl (w.alloc (.cells #[.int .i64 n, .slice A L.length c] 26))).alloc (.cells #[.int .i64 0, .slice none 0 0] 26)).trans hW).block (by simp)).trans (blk_new w _)
  have y1 : ∀ W, Grew ((w.alloc (.cells #[.int .i64 n, .slice A L.length c] 26)).alloc (.cells #[.int .i64 0, .slice none 0 0] 26)) W → W.heap[w.heap.size + 1]? = some (.cells #[.int .i64 0, .slice none 0 0] 26 (0, 0)) :=
    fun W hW => (hW.block (by simp)).trans (by
      have h := blk_new (w.alloc (.cells #[.int .i64 n, .slice A L.length c] 26)) (.cells #[.int .i64 0, .slice none 0 0] 26)
      have e : (w.alloc (.cells #[.int .i64 n, .slice A L.length c] 26)).heap.size = w.heap.size + 1 := by simp
      rwa [e] at h)
  obtain ⟨w1, hw1⟩ : ∃ w1, w1 = (w.alloc (.cells #[.int .i64 n, .slice A L.length c] 26)).alloc (.cells #[.int .i64 0, .slice none 0 0] 26) := ⟨_, rfl⟩
  rw [← hw1] at y0 y1 HB0
  have c0 : ∀ W, Grew w1 W → W.cell? ⟨w.heap.size, 0, none⟩ = some (.int .i64 n) := fun W hW => by rw [blk_cell (y0 W hW)]; rfl
  have c1 : ∀ W, Grew w1 W → W.cell? ⟨w.heap.size, 1, none⟩ = some (.slice A L.length c) := fun W hW => by rw [blk_cell (y0 W hW)]; rfl
  have Y1 := Lib.hid y1
  have FIN := Lib.hid (fun W (hW : Grew w1 W) => show GivesSub w (0, [], [], 5) (.returned (.tuple #[.agg #[.int .i64 0, .slice none 0 0], .slice none 0 0, .int .i64 5])) ((W.setCell ⟨w.heap.size + 1, 0, none⟩ (.int .i64 0)).setCell ⟨w.heap.size + 1, 1, none⟩ (.slice none 0 0)) from
    ⟨_, _, rfl, Ints.nil_ _, Ints.nil_ _, ((HB0.out.trans hW).setCell (Nat.le_succ _) _).setCell (Nat.le_succ _) _⟩)
  clear y0 y1 h hu hne hm1 hA hE hn5
  generalize L.length = l at *
  rw [hzE] at KE KQ KG ⊢
  clear hzE
  have HZG := Lib.hid hzG
  clear hzG
  generalize E.length = l2 at *
  have d0 := c0 _ (Grew.refl w1)
  have d1 := c1 _ (Grew.refl w1)
  go_enter Tryz.func7, Tryz.ntmps7
  go_wp2_with fail
  simp only [← hw1]
  clear hw1
  refine (KA.out _ HB0.out).mono ?_
  rintro e w2 ⟨rfl, hg2⟩
  replace d0 := c0 _ hg2
  replace d1 := c1 _ hg2
  go_wp2_with fail
  refine (KE.out _ (HB0.out.trans hg2)).mono ?_
  rintro e w3 ⟨rfl, hg3⟩
  have g3 := hg2.trans hg3
  replace d0 := c0 _ g3
  replace d1 := c1 _ g3
  go_wp2_with fail
  refine (KG.out _ (HB0.out.trans g3)).mono ?_
  rintro e w4 ⟨bm, mm, rfl, hM4, hf4, -, hg4⟩
  have g4 := g3.trans hg4
  have KLM := KL.out bm mm w4 hM4
  rw [hf4] at KLM
  have KLM := Lib.hid KLM
  clear hM4 hf4
  go_wp2_with fail
  refine KLM.out.mono ?_
  rintro e w5 ⟨r4, rfl, hr4, hg5⟩
  have g5 := g4.trans hg5
  have HR4 := Lib.hid hr4.ints
  clear hr4 KLM KL KG KE KA
  obtain ⟨A4, c4, rfl⟩ := ints_slice HR4.out
  have hzG := HZG.out
  rw [hzG] at HR4 ⊢
  clear hzG HZG
  generalize GL.length = l4 at *
  by_cases hl : l4 = l2
  · have hi : ((l4 : Int) = (l2 : Int)) = True := eq_true (by omega)
    have hj : ((l4 : Int) != (l2 : Int)) = false := by rw [bne_eq_false_iff_eq]; omega
    have KQ2 := Lib.hid (fun v1 W hW h1 => KQ.out v1 W hW h1 hl)
    clear hl
    go_wp2_with fail
    refine (KQ2.out _ _ (HB0.out.trans g5) HR4.out).mono ?_
    rintro e w6 ⟨rfl, hg6⟩
    have g6 := g5.trans hg6
    have y1 := Y1.out w6 g6
    have f0 := blk_frozen y1 0
    have f1 := blk_frozen y1 1
    have k0 : w6.cell? ⟨w.heap.size + 1, 0, none⟩ = some (.int .i64 0) := by rw [blk_cell y1]; rfl
    have k1 : w6.cell? ⟨w.heap.size + 1, 1, none⟩ = some (.slice none 0 0) := by rw [blk_cell y1]; rfl
    have HY := Lib.hid y1
    clear y1 d0 d1
    go_wp2_with fail
    (try simp only [Exit.inBlock, Exit.then])
    refine bodyPost_ret (results_cell_tmp2_row rfl _ _ (w.heap.size + 1) _ _ _ _ rfl (blk_set (blk_set HY.out 0 _) 1 _) Tryz.underlying26 rfl hinfo) rfl ?_
    exact FIN.out w6 g6
  · have hi : ((l4 : Int) = (l2 : Int)) = False := eq_false (by omega)
    have hj : ((l4 : Int) != (l2 : Int)) = true := by rw [bne_iff_ne]; omega
    have y1 := Y1.out w5 g5
    have f0 := blk_frozen y1 0
    have f1 := blk_frozen y1 1
    have k0 : w5.cell? ⟨w.heap.size + 1, 0, none⟩ = some (.int .i64 0) := by rw [blk_cell y1]; rfl
    have k1 : w5.cell? ⟨w.heap.size + 1, 1, none⟩ = some (.slice none 0 0) := by rw [blk_cell y1]; rfl
    have HY := Lib.hid y1
    clear y1 d0 d1 hl
    go_wp2_with fail
    (try simp only [Exit.inBlock, Exit.then])
    refine bodyPost_ret (results_cell_tmp2_row rfl _ _ (w.heap.size + 1) _ _ _ _ rfl (blk_set (blk_set HY.out 0 _) 1 _) Tryz.underlying26 rfl hinfo) rfl ?_
    exact FIN.out w5 g5
theorem modalSubS_c (n : Int) (v u : Value) (L X : List Int) (w : World) (h : Ints w v L) (hu : Ints w u X) :
    Calls Tryz.prog 7 #[.agg #[.int .i64 n, v], u] w (GivesSub w (subF n L X)) := by
  cases hb : algB n L && mks n.toNat X with
  | false => exact modalSubS_no1 n v u L X w h hu hb
  | true =>
    rw [Bool.and_eq_true] at hb
    obtain ⟨N, rfl, hA, hz⟩ := algB_ok hb.1
    have hm := hb.2
    rw [Int.toNat_natCast] at hm
    obtain ⟨hx, hlt⟩ := mks_zs hm
    by_cases hg : zs (genL N (nats L) (nats X)) = X
    · rw [subF_yes (by rw [hb.1, hb.2]; rfl) (by rw [Int.toNat_natCast]; exact hg)]
      have hg2 : genL N (nats L) (nats X) = nats X := zs_inj (hg.trans hx.symm)
      refine modalSubS_yes N v u (nats L) (nats X) w (by rw [hz]; exact h) (by rw [hx]; exact hu) hA (sub_of hA hlt hg2) hg2
    · rw [subF_five (by rw [hb.1, hb.2]; rfl) (by rw [Int.toNat_natCast]; exact hg)]
      refine modalSubS_no5 N v u (nats L) (nats X) w (by rw [hz]; exact h) (by rw [hx]; exact hu) hA hlt (fun e => hg (by rw [e, hx]))
end Go.Proofs.YtopjgcbhjhhlfaaGreat


/- l06Truth of the reference. -/
namespace Go.Proofs.YtopjgcbhjhhlfaaGreat
open Go.RowKit
open Fm (Nd Tree)

theorem full_sm {n : Nat} (h : n ≤ 30) : full n < 1073741824 := Nat.lt_of_lt_of_le (full_lt n) (pow30' h)
theorem tail_un {w : World} {b o n c : Nat} {k : Int} {x : Tree} (h : Nodes w (.slice (some ⟨b, o, none⟩) n c) ((k, 0) :: Fm.enc x)) :
    ¬ c = 1 ∧ 1 ≤ n ∧ n ≤ c ∧ c ≤ 9223372036854775807 ∧ Nodes w (.slice (some ⟨b, o + 2, none⟩) (n - 1) (c - 1)) (Fm.enc x) := by
  have hp := Fm.enc_pos x
  rcases h.open_ with ⟨h1, _⟩ | ⟨b', o', c', h1, h2, h3, h4, h5⟩
  · cases h1
  · obtain ⟨⟨rfl, rfl⟩, rfl, rfl⟩ : (b = b' ∧ o = o') ∧ n = ((k, 0) :: Fm.enc x).length ∧ c = c' := by simpa using h1
    simp only [List.length_cons] at h2 h ⊢
    have hc1 : ¬ c = 1 := by omega
    have h6 := nodes_tail h 1 (by omega) h2 (by simp)
    rw [if_neg hc1] at h6
    exact ⟨hc1, by omega, h2, h3, h6⟩
theorem enc_two {k : Int} {x y : Tree} {n : Nat} (h : ((k, 0) :: (Fm.enc x ++ Fm.enc y)).length ≤ n) : (Fm.enc x).length ≤ n ∧ (Fm.enc y).length ≤ n := by
  simp only [List.length_cons, List.length_append] at h
  constructor <;> omega
end Go.Proofs.YtopjgcbhjhhlfaaGreat


/- l15Value of the reference. -/
namespace Go.Proofs.YtopjgcbhjhhlfaaGreat
open Go.RowKit
open Fm (Nd Tree)

theorem av_sm {n : Nat} {B V : List Nat} (hA : Alg n B) (hV : ∀ m ∈ V, m < 2 ^ n) (t : Tree) : av n B V t < 1073741824 := Nat.lt_of_lt_of_le (av_lt hA hV t) (pow30' (by have := hA.le; omega))
def AvOk (n : Nat) (B V : List Nat) (t : Tree) : Prop := ∀ (v u va : Value) (w : World), Ints w v (zs B) → Ints w u (zs V) → Nodes w va (Fm.enc t) → (Fm.enc t).length ≤ 1048576 →
    Calls Tryz.prog 44 #[.agg #[.int .i64 (n : Int), v], u, va] w fun e w' => e = .returned (.int .i64 ((av n B V t : Nat) : Int)) ∧ Grew w w'
set_option maxHeartbeats 4000000 in
theorem value_ok (n : Nat) (B V : List Nat) (hA : Alg n B) (hV : ∀ m ∈ V, m < 2 ^ n) (hl : V.length = 6) : ∀ t : Tree, AvOk n B V t := by
  intro t
  induction t with
  | fls =>
    intro v u va w h hu ha ht
    obtain ⟨b, o, m, c, rfl, hn0, hne, hk⟩ := head_t ha
    simp only [kindOf] at hk
    have hnn : (0 : Int) < (m : Int) := by omega
    have hn5 := hA.le
    have HFull := Lib.hid (l01Full_q n (by omega))
    rw [← full_cast] at HFull
    have hfs := full_sm (n := n) (by omega)
    have hlB := hA.len
    obtain ⟨AU, cu, rfl⟩ := ints_sliceN hu
    rcases h.open_ with ⟨_, hnil⟩ | ⟨bv, ov, cv, rfl, hcv, hmv, hbv, hfv⟩
    · rw [← List.length_eq_zero_iff, zs_len, hlB] at hnil; have : 0 < 2 ^ n := Nat.pow_pos (by omega); omega
    have HFV := Lib.hid (fun k (hk : k < 2 ^ n) W (hW : Grew w W) => show W.cell? ⟨bv, ov + k, none⟩ = some (.int .i64 ((nt B k : Nat) : Int)) from by rw [hfv k (by rw [zs_len, hlB]; exact hk) W hW, zs_it (by rw [hlB]; exact hk)])
    clear hfv hcv hmv hbv
    have hzB : (zs B).length = 2 ^ n := by rw [zs_len, hlB]
    rw [hzB]
    clear hzB
    show Calls _ _ _ _ fun e w' => e = .returned (.int .i64 0) ∧ Grew w w'
    clear h hu ha ht hA hne hV hl HFV hlB
    generalize full n = FU at *
    generalize (2 : Nat) ^ n = Pn at *
    generalize V.length = NV at *
    have k0 : ∀ W, Grew (w.alloc (.cells #[.int .i64 (n : Int), .slice (some ⟨bv, ov, none⟩) Pn cv] 26)) W → W.cell? ⟨b, o, none⟩ = some (.int .i64 1) := fun W hW => hk W (((Grew.refl w).alloc _).trans hW)
    clear hk
    obtain ⟨w1, hw1⟩ : ∃ w1, w1 = w.alloc (.cells #[.int .i64 (n : Int), .slice (some ⟨bv, ov, none⟩) Pn cv] 26) := ⟨_, rfl⟩
    rw [← hw1] at k0
    have hal : Grew w w1 := by rw [hw1]; exact (Grew.refl w).alloc _
    have hb0 : w1.heap[w.heap.size]? = some (.cells #[.int .i64 (n : Int), .slice (some ⟨bv, ov, none⟩) Pn cv] 26 (0, 0)) := by rw [hw1]; exact blk_new w _
    have p0 : ∀ W, Grew w1 W → W.cell? ⟨w.heap.size, 0, none⟩ = some (.int .i64 (n : Int)) := fun W hW => by rw [blk_cell ((hW.block (blk_lt hb0)).trans hb0)]; rfl
    have p1 : ∀ W, Grew w1 W → W.cell? ⟨w.heap.size, 1, none⟩ = some (.slice (some ⟨bv, ov, none⟩) Pn cv) := fun W hW => by rw [blk_cell ((hW.block (blk_lt hb0)).trans hb0)]; rfl
    have hr1 := Grew.refl w1
    have hd1 := hr1.drew
    have p00 := p0 w1 hr1
    have k00 := k0 w1 hr1
    have HAL := Lib.hid hal
    clear hb0 hal
    go_enter Tryz.func44, Tryz.ntmps44
    go_wp2_with fail
    simp only [← hw1]
    clear hw1
    refine (HFull.out _).mono ?_
    rintro e wf ⟨rfl, hwf⟩
    rw [hwf]
    clear hwf
    go_wp2_with fail
    go_ret
    exact ⟨rfl, HAL.out⟩
  | var s =>
    intro v u va w h hu ha ht
    obtain ⟨b, o, c, rfl, hc0, hc1, hbl, hcell⟩ : ∃ b o c, va = .slice (some ⟨b, o, none⟩) 1 c ∧ 1 ≤ c ∧ c ≤ 9223372036854775807 ∧ b < w.heap.size ∧ ∀ W, Grew w W → W.cell? ⟨b, o, none⟩ = some (.int .i64 0) ∧ W.cell? ⟨b, o + 1, none⟩ = some (.int .i64 (s.val : Int)) := by
      rcases ha.open_ with ⟨_, h0⟩ | ⟨b, o, c, rfl, q1, q2, q3, q4⟩
      · exact absurd h0 (by simp [Fm.enc])
      · exact ⟨b, o, c, rfl, q1, q2, q3, fun W hW => by simpa [kd, sy, Fm.enc, List.getD] using q4 0 (by simp [Fm.enc]) W hW⟩
    have hn5 := hA.le
    have HFull := Lib.hid (l01Full_q n (by omega))
    rw [← full_cast] at HFull
    have hfs := full_sm (n := n) (by omega)
    have hlB := hA.len
    obtain ⟨AU, cu, rfl⟩ := ints_sliceN hu
    rcases h.open_ with ⟨_, hnil⟩ | ⟨bv, ov, cv, rfl, hcv, hmv, hbv, hfv⟩
    · rw [← List.length_eq_zero_iff, zs_len, hlB] at hnil; have : 0 < 2 ^ n := Nat.pow_pos (by omega); omega
    have HFV := Lib.hid (fun k (hk : k < 2 ^ n) W (hW : Grew w W) => show W.cell? ⟨bv, ov + k, none⟩ = some (.int .i64 ((nt B k : Nat) : Int)) from by rw [hfv k (by rw [zs_len, hlB]; exact hk) W hW, zs_it (by rw [hlB]; exact hk)])
    clear hfv hcv hmv hbv
    have hzB : (zs B).length = 2 ^ n := by rw [zs_len, hlB]
    rw [hzB]
    clear hzB
    have hcu := cellsN hu (by omega)
    obtain ⟨bu, ou, rfl, hcu⟩ := hcu
    have hs : s.val < 6 := s.isLt
    have k2 := hcu s.val (by omega)
    show Calls _ _ _ _ fun e w' => e = .returned (.int .i64 ((nt V s.val : Nat) : Int)) ∧ Grew w w'
    generalize nt V s.val = y at *
    generalize s.val = sv at *
    rw [hl]
    clear h hu ha ht hA hcu hV hl HFV hlB
    generalize full n = FU at *
    generalize (2 : Nat) ^ n = Pn at *
    have hsi : (sv : Int) < 6 := by omega
    have k0 : ∀ W, Grew (w.alloc (.cells #[.int .i64 (n : Int), .slice (some ⟨bv, ov, none⟩) Pn cv] 26)) W → W.cell? ⟨b, o, none⟩ = some (.int .i64 0) := fun W hW => (hcell W (((Grew.refl w).alloc _).trans hW)).1
    have k1 : ∀ W, Grew (w.alloc (.cells #[.int .i64 (n : Int), .slice (some ⟨bv, ov, none⟩) Pn cv] 26)) W → W.cell? ⟨b, o + 1, none⟩ = some (.int .i64 (sv : Int)) := fun W hW => (hcell W (((Grew.refl w).alloc _).trans hW)).2
    have k3 : ∀ W, Grew (w.alloc (.cells #[.int .i64 (n : Int), .slice (some ⟨bv, ov, none⟩) Pn cv] 26)) W → W.cell? ⟨bu, ou + sv, none⟩ = some (.int .i64 (y : Int)) := fun W hW => k2 W (((Grew.refl w).alloc _).trans hW)
    clear hcell k2
    obtain ⟨w1, hw1⟩ : ∃ w1, w1 = w.alloc (.cells #[.int .i64 (n : Int), .slice (some ⟨bv, ov, none⟩) Pn cv] 26) := ⟨_, rfl⟩
    rw [← hw1] at k0 k1 k3
    have hal : Grew w w1 := by rw [hw1]; exact (Grew.refl w).alloc _
    have hb0 : w1.heap[w.heap.size]? = some (.cells #[.int .i64 (n : Int), .slice (some ⟨bv, ov, none⟩) Pn cv] 26 (0, 0)) := by rw [hw1]; exact blk_new w _
    have p0 : ∀ W, Grew w1 W → W.cell? ⟨w.heap.size, 0, none⟩ = some (.int .i64 (n : Int)) := fun W hW => by rw [blk_cell ((hW.block (blk_lt hb0)).trans hb0)]; rfl
    have p1 : ∀ W, Grew w1 W → W.cell? ⟨w.heap.size, 1, none⟩ = some (.slice (some ⟨bv, ov, none⟩) Pn cv) := fun W hW => by rw [blk_cell ((hW.block (blk_lt hb0)).trans hb0)]; rfl
    have hr1 := Grew.refl w1
    have hd1 := hr1.drew
    have p00 := p0 w1 hr1
    have k00 := k0 w1 hr1
    have HAL := Lib.hid hal
    clear hb0 hal
    go_enter Tryz.func44, Tryz.ntmps44
    go_wp2_with fail
    simp only [← hw1]
    clear hw1
    refine (HFull.out _).mono ?_
    rintro e wf ⟨rfl, hwf⟩
    rw [hwf]
    clear hwf
    go_wp2_with fail
    go_ret
    exact ⟨rfl, HAL.out⟩
  | and x y ihx ihy =>
    intro v u va w h hu ha ht
    obtain ⟨hx, hy⟩ := enc_two (k := kindOf (.and x y)) ht
    have KL := Lib.hid (fun W (hW : Grew w W) => l02Left_c va (Fm.enc (.and x y)) x W (ha.grew hW) (by omega) (at_first (two_and x y)))
    have KR := Lib.hid (fun W (hW : Grew w W) => l02Right_c va (Fm.enc (.and x y)) x y W (ha.grew hW) (by omega) (at_first (two_and x y)) (at_second (two_and x y)) (two_and x y).len)
    have KX := Lib.hid (fun va W (hW : Grew w W) (hn : Nodes W va (Fm.enc x)) => ihx v u va W (h.grew hW) (hu.grew hW) hn hx)
    have KY := Lib.hid (fun va W (hW : Grew w W) (hn : Nodes W va (Fm.enc y)) => ihy v u va W (h.grew hW) (hu.grew hW) hn hy)
    have hsx := av_sm hA hV x
    have hsy := av_sm hA hV y
    have hn5 := hA.le
    have HFull := Lib.hid (l01Full_q n (by omega))
    rw [← full_cast] at HFull
    have hfs := full_sm (n := n) (by omega)
    have hlB := hA.len
    obtain ⟨AU, cu, rfl⟩ := ints_sliceN hu
    rcases h.open_ with ⟨_, hnil⟩ | ⟨bv, ov, cv, rfl, hcv, hmv, hbv, hfv⟩
    · rw [← List.length_eq_zero_iff, zs_len, hlB] at hnil; have : 0 < 2 ^ n := Nat.pow_pos (by omega); omega
    have HFV := Lib.hid (fun k (hk : k < 2 ^ n) W (hW : Grew w W) => show W.cell? ⟨bv, ov + k, none⟩ = some (.int .i64 ((nt B k : Nat) : Int)) from by rw [hfv k (by rw [zs_len, hlB]; exact hk) W hW, zs_it (by rw [hlB]; exact hk)])
    clear hfv hcv hmv hbv
    have hzB : (zs B).length = 2 ^ n := by rw [zs_len, hlB]
    rw [hzB] at KX KY ⊢
    clear hzB
    have hop := and_i64 (av n B V x) (av n B V y) (by omega) (by omega)
    obtain ⟨b, o, m, c, rfl, hn0, hne, hk⟩ := head_t ha
    simp only [kindOf] at hk
    have hnn : (0 : Int) < (m : Int) := by omega
    show Calls _ _ _ _ fun e w' => e = .returned (.int .i64 ((av n B V x &&& av n B V y : Nat) : Int)) ∧ Grew w w'
    generalize av n B V x = X at *
    generalize av n B V y = Y at *
    clear h hu ha ht hA hne hx hy hV hl ihx ihy hfs hsx hsy HFV hlB
    generalize full n = FU at *
    generalize X &&& Y = Z at *
    generalize V.length = NV at *
    generalize (2 : Nat) ^ n = Pn at *
    have k0 : ∀ W, Grew (w.alloc (.cells #[.int .i64 (n : Int), .slice (some ⟨bv, ov, none⟩) Pn cv] 26)) W → W.cell? ⟨b, o, none⟩ = some (.int .i64 2) := fun W hW => hk W (((Grew.refl w).alloc _).trans hW)
    clear hk
    obtain ⟨w1, hw1⟩ : ∃ w1, w1 = w.alloc (.cells #[.int .i64 (n : Int), .slice (some ⟨bv, ov, none⟩) Pn cv] 26) := ⟨_, rfl⟩
    rw [← hw1] at k0
    have hal : Grew w w1 := by rw [hw1]; exact (Grew.refl w).alloc _
    have hb0 : w1.heap[w.heap.size]? = some (.cells #[.int .i64 (n : Int), .slice (some ⟨bv, ov, none⟩) Pn cv] 26 (0, 0)) := by rw [hw1]; exact blk_new w _
    have p0 : ∀ W, Grew w1 W → W.cell? ⟨w.heap.size, 0, none⟩ = some (.int .i64 (n : Int)) := fun W hW => by rw [blk_cell ((hW.block (blk_lt hb0)).trans hb0)]; rfl
    have p1 : ∀ W, Grew w1 W → W.cell? ⟨w.heap.size, 1, none⟩ = some (.slice (some ⟨bv, ov, none⟩) Pn cv) := fun W hW => by rw [blk_cell ((hW.block (blk_lt hb0)).trans hb0)]; rfl
    have hr1 := Grew.refl w1
    have hd1 := hr1.drew
    have p00 := p0 w1 hr1
    have k00 := k0 w1 hr1
    have HAL := Lib.hid hal
    clear hb0 hal
    go_enter Tryz.func44, Tryz.ntmps44
    go_wp2_with fail
    simp only [← hw1]
    clear hw1
    refine (HFull.out _).mono ?_
    rintro e wf ⟨rfl, hwf⟩
    rw [hwf]
    clear hwf
    go_wp2_with fail
    refine wp_region_held_drew (S := fun w' => Grew w1 w') (by kernel_rfl) hd1 (fun hHeld => ?_)
    refine wpAnyH_take (i := 0) (oi := ?on1) (v := ?vn1) ?hin1 ?an1 ?bn1 ?cn1 ?qn1 (Or.inl ⟨?dn1, ?hyn1⟩) hHeld ?restn1
    case hin1 => (simp only [List.getElem?_toArray, List.getElem?_cons_zero]; exact rfl)
    case an1 => kernel_rfl
    case bn1 => kernel_rfl
    case cn1 => kernel_rfl
    case qn1 => exact fun _ _ _ h => h
    case dn1 => rfl
    case hyn1 => (intro z hSw; (try dsimp only at hSw); go_simp; (try with_reducible rfl))
    try simp only [Act.put, List.setIfInBounds_toArray, List.set_cons_zero, List.set_cons_succ]
    refine wpAnyH_take (i := 1) (oi := ?on2) (v := ?vn2) ?hin2 ?an2 ?bn2 ?cn2 ?qn2 (Or.inl ⟨?dn2, ?hyn2⟩) hHeld ?restn2
    case hin2 => (simp only [List.getElem?_toArray, List.getElem?_cons_succ, List.getElem?_cons_zero]; exact rfl)
    case an2 => kernel_rfl
    case bn2 => kernel_rfl
    case cn2 => kernel_rfl
    case qn2 => exact fun _ _ _ h => h
    case dn2 => rfl
    case hyn2 => (intro z hSw; (try dsimp only at hSw); go_simp; (try with_reducible rfl))
    try simp only [Act.put, List.setIfInBounds_toArray, List.set_cons_zero, List.set_cons_succ]
    refine wpAnyH_take (i := 2) (oi := ?on3) (v := ?vn3) ?hin3 ?an3 ?bn3 ?cn3 ?qn3 (Or.inl ⟨?dn3, ?hyn3⟩) hHeld ?restn3
    case hin3 => (simp only [List.getElem?_toArray, List.getElem?_cons_succ, List.getElem?_cons_zero]; exact rfl)
    case an3 => kernel_rfl
    case bn3 => kernel_rfl
    case cn3 => kernel_rfl
    case qn3 => exact fun _ _ _ h => h
    case dn3 => rfl
    case hyn3 => (intro z hSw; (try dsimp only at hSw); go_simp; (try with_reducible rfl))
    try simp only [Act.put, List.setIfInBounds_toArray, List.set_cons_zero, List.set_cons_succ]
    refine wpAnyH_take (i := 5) (oi := ?on4) (v := ?vn4) ?hin4 ?an4 ?bn4 ?cn4 ?qn4 (Or.inl ⟨?dn4, ?hyn4⟩) hHeld ?restn4
    case hin4 => (simp only [List.getElem?_toArray, List.getElem?_cons_succ, List.getElem?_cons_zero]; exact rfl)
    case an4 => kernel_rfl
    case bn4 => kernel_rfl
    case cn4 => kernel_rfl
    case qn4 => exact fun _ _ _ h => h
    case dn4 => rfl
    case hyn4 => (intro z hSw; (try dsimp only at hSw); go_simp; (try with_reducible rfl))
    try simp only [Act.put, List.setIfInBounds_toArray, List.set_cons_zero, List.set_cons_succ]
    refine wpAnyH_take (i := 6) (oi := ?on5) (v := ?vn5) ?hin5 ?an5 ?bn5 ?cn5 ?qn5 (Or.inl ⟨?dn5, ?hyn5⟩) hHeld ?restn5
    case hin5 => (simp only [List.getElem?_toArray, List.getElem?_cons_succ, List.getElem?_cons_zero]; exact rfl)
    case an5 => kernel_rfl
    case bn5 => kernel_rfl
    case cn5 => kernel_rfl
    case qn5 => exact fun _ _ _ h => h
    case dn5 => rfl
    case hyn5 => (intro z hSw; (try dsimp only at hSw); go_simp; (try with_reducible rfl))
    try simp only [Act.put, List.setIfInBounds_toArray, List.set_cons_zero, List.set_cons_succ]
    refine wpAnyH_take (i := 7) (oi := ?on6) (v := ?vn6) ?hin6 ?an6 ?bn6 ?cn6 ?qn6 (Or.inl ⟨?dn6, ?hyn6⟩) hHeld ?restn6
    case hin6 => (simp only [List.getElem?_toArray, List.getElem?_cons_succ, List.getElem?_cons_zero]; exact rfl)
    case an6 => kernel_rfl
    case bn6 => kernel_rfl
    case cn6 => kernel_rfl
    case qn6 => exact fun _ _ _ h => h
    case dn6 => rfl
    case hyn6 => (intro z hSw; (try dsimp only at hSw); go_simp; (try with_reducible rfl))
    try simp only [Act.put, List.setIfInBounds_toArray, List.set_cons_zero, List.set_cons_succ]
    refine wpAnyH_ready (rs := [3]) (by kernel_rfl) (by simp) ?_
    refine AllReadyH.cons (o := ?on7) ?hin7 ?restn7 AllReadyH.nil
    case hin7 => (simp only [List.getElem?_toArray, List.getElem?_cons_succ, List.getElem?_cons_zero]; exact rfl)
    intro K hK
    go_simp
    go_at_call 74
    refine (KL.out _ (HAL.out.trans hd1)).mono ?_
    rintro e w2 ⟨va2, rfl, hn2, hgw2⟩
    have h2 : Grew w1 w2 := hd1.trans hgw2
    obtain ⟨B2, e2, rfl⟩ := nodes_slice hn2
    refine hK.out _ _ ?_ (fun hHeld => ?_)
    · (try dsimp only); first | with_reducible assumption | exact Grew.alloc ‹_› _
    clear hK K
    try simp only [Act.put, List.setIfInBounds_toArray, List.set_cons_zero, List.set_cons_succ]
    refine wpAnyH_ready (rs := [4]) (by kernel_rfl) (by simp) ?_
    refine AllReadyH.cons (o := ?on8) ?hin8 ?restn8 AllReadyH.nil
    case hin8 => (simp only [List.getElem?_toArray, List.getElem?_cons_succ, List.getElem?_cons_zero]; exact rfl)
    intro K hK
    go_simp
    go_at_call 44
    refine (KX.out _ _ (HAL.out.trans h2) hn2).mono ?_
    rintro e w3 ⟨rfl, hgw3⟩
    have h3 : Grew w1 w3 := h2.trans hgw3
    refine hK.out _ _ ?_ (fun hHeld => ?_)
    · (try dsimp only); first | with_reducible assumption | exact Grew.alloc ‹_› _
    clear hK K
    try simp only [Act.put, List.setIfInBounds_toArray, List.set_cons_zero, List.set_cons_succ]
    refine wpAnyH_ready (rs := [8]) (by kernel_rfl) (by simp) ?_
    refine AllReadyH.cons (o := ?on9) ?hin9 ?restn9 AllReadyH.nil
    case hin9 => (simp only [List.getElem?_toArray, List.getElem?_cons_succ, List.getElem?_cons_zero]; exact rfl)
    intro K hK
    go_simp
    go_at_call 75
    refine (KR.out _ (HAL.out.trans h3)).mono ?_
    rintro e w4 ⟨va4, rfl, hn4, hgw4⟩
    have h4 : Grew w1 w4 := h3.trans hgw4
    obtain ⟨B4, e4, rfl⟩ := nodes_slice hn4
    refine hK.out _ _ ?_ (fun hHeld => ?_)
    · (try dsimp only); first | with_reducible assumption | exact Grew.alloc ‹_› _
    clear hK K
    try simp only [Act.put, List.setIfInBounds_toArray, List.set_cons_zero, List.set_cons_succ]
    refine wpAnyH_ready (rs := [9]) (by kernel_rfl) (by simp) ?_
    refine AllReadyH.cons (o := ?on10) ?hin10 ?restn10 AllReadyH.nil
    case hin10 => (simp only [List.getElem?_toArray, List.getElem?_cons_succ, List.getElem?_cons_zero]; exact rfl)
    intro K hK
    go_simp
    go_at_call 44
    refine (KY.out _ _ (HAL.out.trans h4) hn4).mono ?_
    rintro e w5 ⟨rfl, hgw5⟩
    have h5 : Grew w1 w5 := h4.trans hgw5
    refine hK.out _ _ ?_ (fun hHeld => ?_)
    · (try dsimp only); first | with_reducible assumption | exact Grew.alloc ‹_› _
    clear hK K
    try simp only [Act.put, List.setIfInBounds_toArray, List.set_cons_zero, List.set_cons_succ]
    refine wpAnyH_take (i := 10) (oi := ?on11) (v := ?vn11) ?hin11 ?an11 ?bn11 ?cn11 ?qn11 (Or.inl ⟨?dn11, ?hyn11⟩) hHeld ?restn11
    case hin11 => (simp only [List.getElem?_toArray, List.getElem?_cons_succ, List.getElem?_cons_zero]; exact rfl)
    case an11 => kernel_rfl
    case bn11 => kernel_rfl
    case cn11 => kernel_rfl
    case qn11 => exact fun _ _ _ h => h
    case dn11 => rfl
    case hyn11 => (intro z hSw; (try dsimp only at hSw); go_simp; (try with_reducible rfl))
    try simp only [Act.put, List.setIfInBounds_toArray, List.set_cons_zero, List.set_cons_succ]
    refine wpAnyH_take (i := 11) (oi := ?on12) (v := ?vn12) ?hin12 ?an12 ?bn12 ?cn12 ?qn12 (Or.inl ⟨?dn12, ?hyn12⟩) hHeld ?restn12
    case hin12 => (simp only [List.getElem?_toArray, List.getElem?_cons_succ, List.getElem?_cons_zero]; exact rfl)
    case an12 => kernel_rfl
    case bn12 => kernel_rfl
    case cn12 => kernel_rfl
    case qn12 => exact fun _ _ _ h => h
    case dn12 => rfl
    case hyn12 => (intro z hSw; (try dsimp only at hSw); go_simp; (try with_reducible rfl))
    try simp only [Act.put, List.setIfInBounds_toArray, List.set_cons_zero, List.set_cons_succ]
    refine wpAnyH_done (by kernel_rfl) ?_ _
    go_wp2_with fail
    go_ret
    exact ⟨rfl, HAL.out.trans h5⟩
  | or x y ihx ihy =>
    intro v u va w h hu ha ht
    obtain ⟨hx, hy⟩ := enc_two (k := kindOf (.or x y)) ht
    have KL := Lib.hid (fun W (hW : Grew w W) => l02Left_c va (Fm.enc (.or x y)) x W (ha.grew hW) (by omega) (at_first (two_or x y)))
    have KR := Lib.hid (fun W (hW : Grew w W) => l02Right_c va (Fm.enc (.or x y)) x y W (ha.grew hW) (by omega) (at_first (two_or x y)) (at_second (two_or x y)) (two_or x y).len)
    have KX := Lib.hid (fun va W (hW : Grew w W) (hn : Nodes W va (Fm.enc x)) => ihx v u va W (h.grew hW) (hu.grew hW) hn hx)
    have KY := Lib.hid (fun va W (hW : Grew w W) (hn : Nodes W va (Fm.enc y)) => ihy v u va W (h.grew hW) (hu.grew hW) hn hy)
    have hsx := av_sm hA hV x
    have hsy := av_sm hA hV y
    have hn5 := hA.le
    have HFull := Lib.hid (l01Full_q n (by omega))
    rw [← full_cast] at HFull
    have hfs := full_sm (n := n) (by omega)
    have hlB := hA.len
    obtain ⟨AU, cu, rfl⟩ := ints_sliceN hu
    rcases h.open_ with ⟨_, hnil⟩ | ⟨bv, ov, cv, rfl, hcv, hmv, hbv, hfv⟩
    · rw [← List.length_eq_zero_iff, zs_len, hlB] at hnil; have : 0 < 2 ^ n := Nat.pow_pos (by omega); omega
    have HFV := Lib.hid (fun k (hk : k < 2 ^ n) W (hW : Grew w W) => show W.cell? ⟨bv, ov + k, none⟩ = some (.int .i64 ((nt B k : Nat) : Int)) from by rw [hfv k (by rw [zs_len, hlB]; exact hk) W hW, zs_it (by rw [hlB]; exact hk)])
    clear hfv hcv hmv hbv
    have hzB : (zs B).length = 2 ^ n := by rw [zs_len, hlB]
    rw [hzB] at KX KY ⊢
    clear hzB
    have hop := or_i64 (av n B V x) (av n B V y) (by omega) (by omega)
    obtain ⟨b, o, m, c, rfl, hn0, hne, hk⟩ := head_t ha
    simp only [kindOf] at hk
    have hnn : (0 : Int) < (m : Int) := by omega
    show Calls _ _ _ _ fun e w' => e = .returned (.int .i64 ((av n B V x ||| av n B V y : Nat) : Int)) ∧ Grew w w'
    generalize av n B V x = X at *
    generalize av n B V y = Y at *
    clear h hu ha ht hA hne hx hy hV hl ihx ihy hfs hsx hsy HFV hlB
    generalize full n = FU at *
    generalize X ||| Y = Z at *
    generalize V.length = NV at *
    generalize (2 : Nat) ^ n = Pn at *
    have k0 : ∀ W, Grew (w.alloc (.cells #[.int .i64 (n : Int), .slice (some ⟨bv, ov, none⟩) Pn cv] 26)) W → W.cell? ⟨b, o, none⟩ = some (.int .i64 3) := fun W hW => hk W (((Grew.refl w).alloc _).trans hW)
    clear hk
    obtain ⟨w1, hw1⟩ : ∃ w1, w1 = w.alloc (.cells #[.int .i64 (n : Int), .slice (some ⟨bv, ov, none⟩) Pn cv] 26) := ⟨_, rfl⟩
    rw [← hw1] at k0
    have hal : Grew w w1 := by rw [hw1]; exact (Grew.refl w).alloc _
    have hb0 : w1.heap[w.heap.size]? = some (.cells #[.int .i64 (n : Int), .slice (some ⟨bv, ov, none⟩) Pn cv] 26 (0, 0)) := by rw [hw1]; exact blk_new w _
    have p0 : ∀ W, Grew w1 W → W.cell? ⟨w.heap.size, 0, none⟩ = some (.int .i64 (n : Int)) := fun W hW => by rw [blk_cell ((hW.block (blk_lt hb0)).trans hb0)]; rfl
    have p1 : ∀ W, Grew w1 W → W.cell? ⟨w.heap.size, 1, none⟩ = some (.slice (some ⟨bv, ov, none⟩) Pn cv) := fun W hW => by rw [blk_cell ((hW.block (blk_lt hb0)).trans hb0)]; rfl
    have hr1 := Grew.refl w1
    have hd1 := hr1.drew
    have p00 := p0 w1 hr1
    have k00 := k0 w1 hr1
    have HAL := Lib.hid hal
    clear hb0 hal
    go_enter Tryz.func44, Tryz.ntmps44
    go_wp2_with fail
    simp only [← hw1]
    clear hw1
    refine (HFull.out _).mono ?_
    rintro e wf ⟨rfl, hwf⟩
    rw [hwf]
    clear hwf
    go_wp2_with fail
    refine wp_region_held_drew (S := fun w' => Grew w1 w') (by kernel_rfl) hd1 (fun hHeld => ?_)
    refine wpAnyH_take (i := 0) (oi := ?on13) (v := ?vn13) ?hin13 ?an13 ?bn13 ?cn13 ?qn13 (Or.inl ⟨?dn13, ?hyn13⟩) hHeld ?restn13
    case hin13 => (simp only [List.getElem?_toArray, List.getElem?_cons_zero]; exact rfl)
    case an13 => kernel_rfl
    case bn13 => kernel_rfl
    case cn13 => kernel_rfl
    case qn13 => exact fun _ _ _ h => h
    case dn13 => rfl
    case hyn13 => (intro z hSw; (try dsimp only at hSw); go_simp; (try with_reducible rfl))
    try simp only [Act.put, List.setIfInBounds_toArray, List.set_cons_zero, List.set_cons_succ]
    refine wpAnyH_take (i := 1) (oi := ?on14) (v := ?vn14) ?hin14 ?an14 ?bn14 ?cn14 ?qn14 (Or.inl ⟨?dn14, ?hyn14⟩) hHeld ?restn14
    case hin14 => (simp only [List.getElem?_toArray, List.getElem?_cons_succ, List.getElem?_cons_zero]; exact rfl)
    case an14 => kernel_rfl
    case bn14 => kernel_rfl
    case cn14 => kernel_rfl
    case qn14 => exact fun _ _ _ h => h
    case dn14 => rfl
    case hyn14 => (intro z hSw; (try dsimp only at hSw); go_simp; (try with_reducible rfl))
    try simp only [Act.put, List.setIfInBounds_toArray, List.set_cons_zero, List.set_cons_succ]
    refine wpAnyH_take (i := 2) (oi := ?on15) (v := ?vn15) ?hin15 ?an15 ?bn15 ?cn15 ?qn15 (Or.inl ⟨?dn15, ?hyn15⟩) hHeld ?restn15
    case hin15 => (simp only [List.getElem?_toArray, List.getElem?_cons_succ, List.getElem?_cons_zero]; exact rfl)
    case an15 => kernel_rfl
    case bn15 => kernel_rfl
    case cn15 => kernel_rfl
    case qn15 => exact fun _ _ _ h => h
    case dn15 => rfl
    case hyn15 => (intro z hSw; (try dsimp only at hSw); go_simp; (try with_reducible rfl))
    try simp only [Act.put, List.setIfInBounds_toArray, List.set_cons_zero, List.set_cons_succ]
    refine wpAnyH_take (i := 5) (oi := ?on16) (v := ?vn16) ?hin16 ?an16 ?bn16 ?cn16 ?qn16 (Or.inl ⟨?dn16, ?hyn16⟩) hHeld ?restn16
    case hin16 => (simp only [List.getElem?_toArray, List.getElem?_cons_succ, List.getElem?_cons_zero]; exact rfl)
    case an16 => kernel_rfl
    case bn16 => kernel_rfl
    case cn16 => kernel_rfl
    case qn16 => exact fun _ _ _ h => h
    case dn16 => rfl
    case hyn16 => (intro z hSw; (try dsimp only at hSw); go_simp; (try with_reducible rfl))
    try simp only [Act.put, List.setIfInBounds_toArray, List.set_cons_zero, List.set_cons_succ]
    refine wpAnyH_take (i := 6) (oi := ?on17) (v := ?vn17) ?hin17 ?an17 ?bn17 ?cn17 ?qn17 (Or.inl ⟨?dn17, ?hyn17⟩) hHeld ?restn17
    case hin17 => (simp only [List.getElem?_toArray, List.getElem?_cons_succ, List.getElem?_cons_zero]; exact rfl)
    case an17 => kernel_rfl
    case bn17 => kernel_rfl
    case cn17 => kernel_rfl
    case qn17 => exact fun _ _ _ h => h
    case dn17 => rfl
    case hyn17 => (intro z hSw; (try dsimp only at hSw); go_simp; (try with_reducible rfl))
    try simp only [Act.put, List.setIfInBounds_toArray, List.set_cons_zero, List.set_cons_succ]
    refine wpAnyH_take (i := 7) (oi := ?on18) (v := ?vn18) ?hin18 ?an18 ?bn18 ?cn18 ?qn18 (Or.inl ⟨?dn18, ?hyn18⟩) hHeld ?restn18
    case hin18 => (simp only [List.getElem?_toArray, List.getElem?_cons_succ, List.getElem?_cons_zero]; exact rfl)
    case an18 => kernel_rfl
    case bn18 => kernel_rfl
    case cn18 => kernel_rfl
    case qn18 => exact fun _ _ _ h => h
    case dn18 => rfl
    case hyn18 => (intro z hSw; (try dsimp only at hSw); go_simp; (try with_reducible rfl))
    try simp only [Act.put, List.setIfInBounds_toArray, List.set_cons_zero, List.set_cons_succ]
    refine wpAnyH_ready (rs := [3]) (by kernel_rfl) (by simp) ?_
    refine AllReadyH.cons (o := ?on19) ?hin19 ?restn19 AllReadyH.nil
    case hin19 => (simp only [List.getElem?_toArray, List.getElem?_cons_succ, List.getElem?_cons_zero]; exact rfl)
    intro K hK
    go_simp
    go_at_call 74
    refine (KL.out _ (HAL.out.trans hd1)).mono ?_
    rintro e w2 ⟨va2, rfl, hn2, hgw2⟩
    have h2 : Grew w1 w2 := hd1.trans hgw2
    obtain ⟨B2, e2, rfl⟩ := nodes_slice hn2
    refine hK.out _ _ ?_ (fun hHeld => ?_)
    · (try dsimp only); first | with_reducible assumption | exact Grew.alloc ‹_› _
    clear hK K
    try simp only [Act.put, List.setIfInBounds_toArray, List.set_cons_zero, List.set_cons_succ]
    refine wpAnyH_ready (rs := [4]) (by kernel_rfl) (by simp) ?_
    refine AllReadyH.cons (o := ?on20) ?hin20 ?restn20 AllReadyH.nil
    case hin20 => (simp only [List.getElem?_toArray, List.getElem?_cons_succ, List.getElem?_cons_zero]; exact rfl)
    intro K hK
    go_simp
    go_at_call 44
    refine (KX.out _ _ (HAL.out.trans h2) hn2).mono ?_
    rintro e w3 ⟨rfl, hgw3⟩
    have h3 : Grew w1 w3 := h2.trans hgw3
    refine hK.out _ _ ?_ (fun hHeld => ?_)
    · (try dsimp only); first | with_reducible assumption | exact Grew.alloc ‹_› _
    clear hK K
    try simp only [Act.put, List.setIfInBounds_toArray, List.set_cons_zero, List.set_cons_succ]
    refine wpAnyH_ready (rs := [8]) (by kernel_rfl) (by simp) ?_
    refine AllReadyH.cons (o := ?on21) ?hin21 ?restn21 AllReadyH.nil
    case hin21 => (simp only [List.getElem?_toArray, List.getElem?_cons_succ, List.getElem?_cons_zero]; exact rfl)
    intro K hK
    go_simp
    go_at_call 75
    refine (KR.out _ (HAL.out.trans h3)).mono ?_
    rintro e w4 ⟨va4, rfl, hn4, hgw4⟩
    have h4 : Grew w1 w4 := h3.trans hgw4
    obtain ⟨B4, e4, rfl⟩ := nodes_slice hn4
    refine hK.out _ _ ?_ (fun hHeld => ?_)
    · (try dsimp only); first | with_reducible assumption | exact Grew.alloc ‹_› _
    clear hK K
    try simp only [Act.put, List.setIfInBounds_toArray, List.set_cons_zero, List.set_cons_succ]
    refine wpAnyH_ready (rs := [9]) (by kernel_rfl) (by simp) ?_
    refine AllReadyH.cons (o := ?on22) ?hin22 ?restn22 AllReadyH.nil
    case hin22 => (simp only [List.getElem?_toArray, List.getElem?_cons_succ, List.getElem?_cons_zero]; exact rfl)
    intro K hK
    go_simp
    go_at_call 44
    refine (KY.out _ _ (HAL.out.trans h4) hn4).mono ?_
    rintro e w5 ⟨rfl, hgw5⟩
    have h5 : Grew w1 w5 := h4.trans hgw5
    refine hK.out _ _ ?_ (fun hHeld => ?_)
    · (try dsimp only); first | with_reducible assumption | exact Grew.alloc ‹_› _
    clear hK K
    try simp only [Act.put, List.setIfInBounds_toArray, List.set_cons_zero, List.set_cons_succ]
    refine wpAnyH_take (i := 10) (oi := ?on23) (v := ?vn23) ?hin23 ?an23 ?bn23 ?cn23 ?qn23 (Or.inl ⟨?dn23, ?hyn23⟩) hHeld ?restn23
    case hin23 => (simp only [List.getElem?_toArray, List.getElem?_cons_succ, List.getElem?_cons_zero]; exact rfl)
    case an23 => kernel_rfl
    case bn23 => kernel_rfl
    case cn23 => kernel_rfl
    case qn23 => exact fun _ _ _ h => h
    case dn23 => rfl
    case hyn23 => (intro z hSw; (try dsimp only at hSw); go_simp; (try with_reducible rfl))
    try simp only [Act.put, List.setIfInBounds_toArray, List.set_cons_zero, List.set_cons_succ]
    refine wpAnyH_take (i := 11) (oi := ?on24) (v := ?vn24) ?hin24 ?an24 ?bn24 ?cn24 ?qn24 (Or.inl ⟨?dn24, ?hyn24⟩) hHeld ?restn24
    case hin24 => (simp only [List.getElem?_toArray, List.getElem?_cons_succ, List.getElem?_cons_zero]; exact rfl)
    case an24 => kernel_rfl
    case bn24 => kernel_rfl
    case cn24 => kernel_rfl
    case qn24 => exact fun _ _ _ h => h
    case dn24 => rfl
    case hyn24 => (intro z hSw; (try dsimp only at hSw); go_simp; (try with_reducible rfl))
    try simp only [Act.put, List.setIfInBounds_toArray, List.set_cons_zero, List.set_cons_succ]
    refine wpAnyH_done (by kernel_rfl) ?_ _
    go_wp2_with fail
    go_ret
    exact ⟨rfl, HAL.out.trans h5⟩
  | imp x y ihx ihy =>
    intro v u va w h hu ha ht
    obtain ⟨hx, hy⟩ := enc_two (k := kindOf (.imp x y)) ht
    have KL := Lib.hid (fun W (hW : Grew w W) => l02Left_c va (Fm.enc (.imp x y)) x W (ha.grew hW) (by omega) (at_first (two_imp x y)))
    have KR := Lib.hid (fun W (hW : Grew w W) => l02Right_c va (Fm.enc (.imp x y)) x y W (ha.grew hW) (by omega) (at_first (two_imp x y)) (at_second (two_imp x y)) (two_imp x y).len)
    have KX := Lib.hid (fun va W (hW : Grew w W) (hn : Nodes W va (Fm.enc x)) => ihx v u va W (h.grew hW) (hu.grew hW) hn hx)
    have KY := Lib.hid (fun va W (hW : Grew w W) (hn : Nodes W va (Fm.enc y)) => ihy v u va W (h.grew hW) (hu.grew hW) hn hy)
    have hsx := av_sm hA hV x
    have hsy := av_sm hA hV y
    have hn5 := hA.le
    have HFull := Lib.hid (l01Full_q n (by omega))
    rw [← full_cast] at HFull
    have hfs := full_sm (n := n) (by omega)
    have hlB := hA.len
    obtain ⟨AU, cu, rfl⟩ := ints_sliceN hu
    rcases h.open_ with ⟨_, hnil⟩ | ⟨bv, ov, cv, rfl, hcv, hmv, hbv, hfv⟩
    · rw [← List.length_eq_zero_iff, zs_len, hlB] at hnil; have : 0 < 2 ^ n := Nat.pow_pos (by omega); omega
    have HFV := Lib.hid (fun k (hk : k < 2 ^ n) W (hW : Grew w W) => show W.cell? ⟨bv, ov + k, none⟩ = some (.int .i64 ((nt B k : Nat) : Int)) from by rw [hfv k (by rw [zs_len, hlB]; exact hk) W hW, zs_it (by rw [hlB]; exact hk)])
    clear hfv hcv hmv hbv
    have hzB : (zs B).length = 2 ^ n := by rw [zs_len, hlB]
    rw [hzB] at KX KY ⊢
    clear hzB
    have hdl := dif_le (a := full n) (b := av n B V x)
    have hop1 := andNot_i64 (full n) (av n B V x) (by omega) (by omega)
    have hop := or_i64 (dif (full n) (av n B V x)) (av n B V y) (by omega) (by omega)
    obtain ⟨b, o, m, c, rfl, hn0, hne, hk⟩ := head_t ha
    simp only [kindOf] at hk
    have hnn : (0 : Int) < (m : Int) := by omega
    show Calls _ _ _ _ fun e w' => e = .returned (.int .i64 ((dif (full n) (av n B V x) ||| av n B V y : Nat) : Int)) ∧ Grew w w'
    generalize av n B V x = X at *
    generalize av n B V y = Y at *
    clear h hu ha ht hA hne hx hy hV hl ihx ihy hfs hsx hsy HFV hlB hdl
    generalize full n = FU at *
    generalize dif FU (X) ||| Y = Z at *
    generalize dif FU X = D at *
    generalize V.length = NV at *
    generalize (2 : Nat) ^ n = Pn at *
    have k0 : ∀ W, Grew (w.alloc (.cells #[.int .i64 (n : Int), .slice (some ⟨bv, ov, none⟩) Pn cv] 26)) W → W.cell? ⟨b, o, none⟩ = some (.int .i64 4) := fun W hW => hk W (((Grew.refl w).alloc _).trans hW)
    clear hk
    obtain ⟨w1, hw1⟩ : ∃ w1, w1 = w.alloc (.cells #[.int .i64 (n : Int), .slice (some ⟨bv, ov, none⟩) Pn cv] 26) := ⟨_, rfl⟩
    rw [← hw1] at k0
    have hal : Grew w w1 := by rw [hw1]; exact (Grew.refl w).alloc _
    have hb0 : w1.heap[w.heap.size]? = some (.cells #[.int .i64 (n : Int), .slice (some ⟨bv, ov, none⟩) Pn cv] 26 (0, 0)) := by rw [hw1]; exact blk_new w _
    have p0 : ∀ W, Grew w1 W → W.cell? ⟨w.heap.size, 0, none⟩ = some (.int .i64 (n : Int)) := fun W hW => by rw [blk_cell ((hW.block (blk_lt hb0)).trans hb0)]; rfl
    have p1 : ∀ W, Grew w1 W → W.cell? ⟨w.heap.size, 1, none⟩ = some (.slice (some ⟨bv, ov, none⟩) Pn cv) := fun W hW => by rw [blk_cell ((hW.block (blk_lt hb0)).trans hb0)]; rfl
    have hr1 := Grew.refl w1
    have hd1 := hr1.drew
    have p00 := p0 w1 hr1
    have k00 := k0 w1 hr1
    have HAL := Lib.hid hal
    clear hb0 hal
    go_enter Tryz.func44, Tryz.ntmps44
    go_wp2_with fail
    simp only [← hw1]
    clear hw1
    refine (HFull.out _).mono ?_
    rintro e wf ⟨rfl, hwf⟩
    rw [hwf]
    clear hwf
    go_wp2_with fail
    refine wp_region_held_drew (S := fun w' => Grew w1 w') (by kernel_rfl) hd1 (fun hHeld => ?_)
    refine wpAnyH_take (i := 0) (oi := ?on25) (v := ?vn25) ?hin25 ?an25 ?bn25 ?cn25 ?qn25 (Or.inl ⟨?dn25, ?hyn25⟩) hHeld ?restn25
    case hin25 => (simp only [List.getElem?_toArray, List.getElem?_cons_zero]; exact rfl)
    case an25 => kernel_rfl
    case bn25 => kernel_rfl
    case cn25 => kernel_rfl
    case qn25 => exact fun _ _ _ h => h
    case dn25 => rfl
    case hyn25 => (intro z hSw; (try dsimp only at hSw); go_simp; (try with_reducible rfl))
    try simp only [Act.put, List.setIfInBounds_toArray, List.set_cons_zero, List.set_cons_succ]
    refine wpAnyH_take (i := 1) (oi := ?on26) (v := ?vn26) ?hin26 ?an26 ?bn26 ?cn26 ?qn26 (Or.inl ⟨?dn26, ?hyn26⟩) hHeld ?restn26
    case hin26 => (simp only [List.getElem?_toArray, List.getElem?_cons_succ, List.getElem?_cons_zero]; exact rfl)
    case an26 => kernel_rfl
    case bn26 => kernel_rfl
    case cn26 => kernel_rfl
    case qn26 => exact fun _ _ _ h => h
    case dn26 => rfl
    case hyn26 => (intro z hSw; (try dsimp only at hSw); go_simp; (try with_reducible rfl))
    try simp only [Act.put, List.setIfInBounds_toArray, List.set_cons_zero, List.set_cons_succ]
    refine wpAnyH_take (i := 2) (oi := ?on27) (v := ?vn27) ?hin27 ?an27 ?bn27 ?cn27 ?qn27 (Or.inl ⟨?dn27, ?hyn27⟩) hHeld ?restn27
    case hin27 => (simp only [List.getElem?_toArray, List.getElem?_cons_succ, List.getElem?_cons_zero]; exact rfl)
    case an27 => kernel_rfl
    case bn27 => kernel_rfl
    case cn27 => kernel_rfl
    case qn27 => exact fun _ _ _ h => h
    case dn27 => rfl
    case hyn27 => (intro z hSw; (try dsimp only at hSw); go_simp; (try with_reducible rfl))
    try simp only [Act.put, List.setIfInBounds_toArray, List.set_cons_zero, List.set_cons_succ]
    refine wpAnyH_take (i := 3) (oi := ?on28) (v := ?vn28) ?hin28 ?an28 ?bn28 ?cn28 ?qn28 (Or.inl ⟨?dn28, ?hyn28⟩) hHeld ?restn28
    case hin28 => (simp only [List.getElem?_toArray, List.getElem?_cons_succ, List.getElem?_cons_zero]; exact rfl)
    case an28 => kernel_rfl
    case bn28 => kernel_rfl
    case cn28 => kernel_rfl
    case qn28 => exact fun _ _ _ h => h
    case dn28 => rfl
    case hyn28 => (intro z hSw; (try dsimp only at hSw); go_simp; (try with_reducible rfl))
    try simp only [Act.put, List.setIfInBounds_toArray, List.set_cons_zero, List.set_cons_succ]
    refine wpAnyH_take (i := 7) (oi := ?on29) (v := ?vn29) ?hin29 ?an29 ?bn29 ?cn29 ?qn29 (Or.inl ⟨?dn29, ?hyn29⟩) hHeld ?restn29
    case hin29 => (simp only [List.getElem?_toArray, List.getElem?_cons_succ, List.getElem?_cons_zero]; exact rfl)
    case an29 => kernel_rfl
    case bn29 => kernel_rfl
    case cn29 => kernel_rfl
    case qn29 => exact fun _ _ _ h => h
    case dn29 => rfl
    case hyn29 => (intro z hSw; (try dsimp only at hSw); go_simp; (try with_reducible rfl))
    try simp only [Act.put, List.setIfInBounds_toArray, List.set_cons_zero, List.set_cons_succ]
    refine wpAnyH_take (i := 8) (oi := ?on30) (v := ?vn30) ?hin30 ?an30 ?bn30 ?cn30 ?qn30 (Or.inl ⟨?dn30, ?hyn30⟩) hHeld ?restn30
    case hin30 => (simp only [List.getElem?_toArray, List.getElem?_cons_succ, List.getElem?_cons_zero]; exact rfl)
    case an30 => kernel_rfl
    case bn30 => kernel_rfl
    case cn30 => kernel_rfl
    case qn30 => exact fun _ _ _ h => h
    case dn30 => rfl
    case hyn30 => (intro z hSw; (try dsimp only at hSw); go_simp; (try with_reducible rfl))
    try simp only [Act.put, List.setIfInBounds_toArray, List.set_cons_zero, List.set_cons_succ]
    refine wpAnyH_take (i := 9) (oi := ?on31) (v := ?vn31) ?hin31 ?an31 ?bn31 ?cn31 ?qn31 (Or.inl ⟨?dn31, ?hyn31⟩) hHeld ?restn31
    case hin31 => (simp only [List.getElem?_toArray, List.getElem?_cons_succ, List.getElem?_cons_zero]; exact rfl)
    case an31 => kernel_rfl
    case bn31 => kernel_rfl
    case cn31 => kernel_rfl
    case qn31 => exact fun _ _ _ h => h
    case dn31 => rfl
    case hyn31 => (intro z hSw; (try dsimp only at hSw); go_simp; (try with_reducible rfl))
    try simp only [Act.put, List.setIfInBounds_toArray, List.set_cons_zero, List.set_cons_succ]
    refine wpAnyH_ready (rs := [4]) (by kernel_rfl) (by simp) ?_
    refine AllReadyH.cons (o := ?on32) ?hin32 ?restn32 AllReadyH.nil
    case hin32 => (simp only [List.getElem?_toArray, List.getElem?_cons_succ, List.getElem?_cons_zero]; exact rfl)
    intro K hK
    go_simp
    go_at_call 74
    refine (KL.out _ (HAL.out.trans hd1)).mono ?_
    rintro e w2 ⟨va2, rfl, hn2, hgw2⟩
    have h2 : Grew w1 w2 := hd1.trans hgw2
    obtain ⟨B2, e2, rfl⟩ := nodes_slice hn2
    refine hK.out _ _ ?_ (fun hHeld => ?_)
    · (try dsimp only); first | with_reducible assumption | exact Grew.alloc ‹_› _
    clear hK K
    try simp only [Act.put, List.setIfInBounds_toArray, List.set_cons_zero, List.set_cons_succ]
    refine wpAnyH_ready (rs := [5]) (by kernel_rfl) (by simp) ?_
    refine AllReadyH.cons (o := ?on33) ?hin33 ?restn33 AllReadyH.nil
    case hin33 => (simp only [List.getElem?_toArray, List.getElem?_cons_succ, List.getElem?_cons_zero]; exact rfl)
    intro K hK
    go_simp
    go_at_call 44
    refine (KX.out _ _ (HAL.out.trans h2) hn2).mono ?_
    rintro e w3 ⟨rfl, hgw3⟩
    have h3 : Grew w1 w3 := h2.trans hgw3
    refine hK.out _ _ ?_ (fun hHeld => ?_)
    · (try dsimp only); first | with_reducible assumption | exact Grew.alloc ‹_› _
    clear hK K
    try simp only [Act.put, List.setIfInBounds_toArray, List.set_cons_zero, List.set_cons_succ]
    refine wpAnyH_take (i := 6) (oi := ?on34) (v := ?vn34) ?hin34 ?an34 ?bn34 ?cn34 ?qn34 (Or.inl ⟨?dn34, ?hyn34⟩) hHeld ?restn34
    case hin34 => (simp only [List.getElem?_toArray, List.getElem?_cons_succ, List.getElem?_cons_zero]; exact rfl)
    case an34 => kernel_rfl
    case bn34 => kernel_rfl
    case cn34 => kernel_rfl
    case qn34 => exact fun _ _ _ h => h
    case dn34 => rfl
    case hyn34 => (intro z hSw; (try dsimp only at hSw); go_simp; (try with_reducible rfl))
    try simp only [Act.put, List.setIfInBounds_toArray, List.set_cons_zero, List.set_cons_succ]
    refine wpAnyH_ready (rs := [10]) (by kernel_rfl) (by simp) ?_
    refine AllReadyH.cons (o := ?on35) ?hin35 ?restn35 AllReadyH.nil
    case hin35 => (simp only [List.getElem?_toArray, List.getElem?_cons_succ, List.getElem?_cons_zero]; exact rfl)
    intro K hK
    go_simp
    go_at_call 75
    refine (KR.out _ (HAL.out.trans h3)).mono ?_
    rintro e w4 ⟨va4, rfl, hn4, hgw4⟩
    have h4 : Grew w1 w4 := h3.trans hgw4
    obtain ⟨B4, e4, rfl⟩ := nodes_slice hn4
    refine hK.out _ _ ?_ (fun hHeld => ?_)
    · (try dsimp only); first | with_reducible assumption | exact Grew.alloc ‹_› _
    clear hK K
    try simp only [Act.put, List.setIfInBounds_toArray, List.set_cons_zero, List.set_cons_succ]
    refine wpAnyH_ready (rs := [11]) (by kernel_rfl) (by simp) ?_
    refine AllReadyH.cons (o := ?on36) ?hin36 ?restn36 AllReadyH.nil
    case hin36 => (simp only [List.getElem?_toArray, List.getElem?_cons_succ, List.getElem?_cons_zero]; exact rfl)
    intro K hK
    go_simp
    go_at_call 44
    refine (KY.out _ _ (HAL.out.trans h4) hn4).mono ?_
    rintro e w5 ⟨rfl, hgw5⟩
    have h5 : Grew w1 w5 := h4.trans hgw5
    refine hK.out _ _ ?_ (fun hHeld => ?_)
    · (try dsimp only); first | with_reducible assumption | exact Grew.alloc ‹_› _
    clear hK K
    try simp only [Act.put, List.setIfInBounds_toArray, List.set_cons_zero, List.set_cons_succ]
    refine wpAnyH_take (i := 12) (oi := ?on37) (v := ?vn37) ?hin37 ?an37 ?bn37 ?cn37 ?qn37 (Or.inl ⟨?dn37, ?hyn37⟩) hHeld ?restn37
    case hin37 => (simp only [List.getElem?_toArray, List.getElem?_cons_succ, List.getElem?_cons_zero]; exact rfl)
    case an37 => kernel_rfl
    case bn37 => kernel_rfl
    case cn37 => kernel_rfl
    case qn37 => exact fun _ _ _ h => h
    case dn37 => rfl
    case hyn37 => (intro z hSw; (try dsimp only at hSw); go_simp; (try with_reducible rfl))
    try simp only [Act.put, List.setIfInBounds_toArray, List.set_cons_zero, List.set_cons_succ]
    refine wpAnyH_take (i := 13) (oi := ?on38) (v := ?vn38) ?hin38 ?an38 ?bn38 ?cn38 ?qn38 (Or.inl ⟨?dn38, ?hyn38⟩) hHeld ?restn38
    case hin38 => (simp only [List.getElem?_toArray, List.getElem?_cons_succ, List.getElem?_cons_zero]; exact rfl)
    case an38 => kernel_rfl
    case bn38 => kernel_rfl
    case cn38 => kernel_rfl
    case qn38 => exact fun _ _ _ h => h
    case dn38 => rfl
    case hyn38 => (intro z hSw; (try dsimp only at hSw); go_simp; (try with_reducible rfl))
    try simp only [Act.put, List.setIfInBounds_toArray, List.set_cons_zero, List.set_cons_succ]
    refine wpAnyH_done (by kernel_rfl) ?_ _
    go_wp2_with fail
    go_ret
    exact ⟨rfl, HAL.out.trans h5⟩
  | box x ihx =>
    intro v u va w h hu ha ht
    have hx : (Fm.enc x).length ≤ 1048576 := by
      have := ht
      simp only [Fm.enc, List.length_cons] at this
      omega
    have KX := Lib.hid (fun va W (hW : Grew w W) (hn : Nodes W va (Fm.enc x)) => ihx v u va W (h.grew hW) (hu.grew hW) hn hx)
    have hsx := av_sm hA hV x
    have hxl := av_lt hA hV x
    have hn5 := hA.le
    have HFull := Lib.hid (l01Full_q n (by omega))
    rw [← full_cast] at HFull
    have hfs := full_sm (n := n) (by omega)
    have hlB := hA.len
    obtain ⟨AU, cu, rfl⟩ := ints_sliceN hu
    rcases h.open_ with ⟨_, hnil⟩ | ⟨bv, ov, cv, rfl, hcv, hmv, hbv, hfv⟩
    · rw [← List.length_eq_zero_iff, zs_len, hlB] at hnil; have : 0 < 2 ^ n := Nat.pow_pos (by omega); omega
    have HFV := Lib.hid (fun k (hk : k < 2 ^ n) W (hW : Grew w W) => show W.cell? ⟨bv, ov + k, none⟩ = some (.int .i64 ((nt B k : Nat) : Int)) from by rw [hfv k (by rw [zs_len, hlB]; exact hk) W hW, zs_it (by rw [hlB]; exact hk)])
    clear hfv hcv hmv hbv
    have hzB : (zs B).length = 2 ^ n := by rw [zs_len, hlB]
    rw [hzB] at KX ⊢
    clear hzB
    have HC := Lib.hid (HFV.out _ hxl)
    have hi1 : ((av n B V x : Nat) : Int) < ((2 ^ n : Nat) : Int) := Int.ofNat_lt.2 hxl
    have hi0 : (0 : Int) ≤ ((av n B V x : Nat) : Int) := Int.natCast_nonneg _
    obtain ⟨b, o, m, c, rfl, hn0, hne, hk⟩ := head_t ha
    simp only [kindOf] at hk
    obtain ⟨hc1, hn1, hnc, hcm, hT⟩ := tail_un (k := 5) ha
    have hnn : (0 : Int) < (m : Int) := by omega
    have hn1i : (1 : Int) ≤ (m : Int) := by omega
    have HT := Lib.hid (fun W (hW : Grew w W) => hT.grew hW)
    show Calls _ _ _ _ fun e w' => e = .returned (.int .i64 ((nt B (av n B V x) : Nat) : Int)) ∧ Grew w w'
    generalize av n B V x = X at *
    clear h hu ha ht hA hne hx hV hl ihx hfs hT hsx hxl HFV hlB
    generalize full n = FU at *
    generalize nt B (X) = Z at *
    generalize V.length = NV at *
    generalize (2 : Nat) ^ n = Pn at *
    have k0 : ∀ W, Grew (w.alloc (.cells #[.int .i64 (n : Int), .slice (some ⟨bv, ov, none⟩) Pn cv] 26)) W → W.cell? ⟨b, o, none⟩ = some (.int .i64 5) := fun W hW => hk W (((Grew.refl w).alloc _).trans hW)
    have k5 : ∀ W, Grew (w.alloc (.cells #[.int .i64 (n : Int), .slice (some ⟨bv, ov, none⟩) Pn cv] 26)) W → W.cell? ⟨bv, ov + X, none⟩ = some (.int .i64 (Z : Int)) := fun W hW => HC.out W (((Grew.refl w).alloc _).trans hW)
    clear hk HC
    obtain ⟨w1, hw1⟩ : ∃ w1, w1 = w.alloc (.cells #[.int .i64 (n : Int), .slice (some ⟨bv, ov, none⟩) Pn cv] 26) := ⟨_, rfl⟩
    rw [← hw1] at k0 k5
    have hal : Grew w w1 := by rw [hw1]; exact (Grew.refl w).alloc _
    have hb0 : w1.heap[w.heap.size]? = some (.cells #[.int .i64 (n : Int), .slice (some ⟨bv, ov, none⟩) Pn cv] 26 (0, 0)) := by rw [hw1]; exact blk_new w _
    have p0 : ∀ W, Grew w1 W → W.cell? ⟨w.heap.size, 0, none⟩ = some (.int .i64 (n : Int)) := fun W hW => by rw [blk_cell ((hW.block (blk_lt hb0)).trans hb0)]; rfl
    have p1 : ∀ W, Grew w1 W → W.cell? ⟨w.heap.size, 1, none⟩ = some (.slice (some ⟨bv, ov, none⟩) Pn cv) := fun W hW => by rw [blk_cell ((hW.block (blk_lt hb0)).trans hb0)]; rfl
    have hr1 := Grew.refl w1
    have hd1 := hr1.drew
    have p00 := p0 w1 hr1
    have k00 := k0 w1 hr1
    have HAL := Lib.hid hal
    clear hb0 hal
    go_enter Tryz.func44, Tryz.ntmps44
    go_wp2_with fail
    simp only [← hw1]
    clear hw1
    refine (HFull.out _).mono ?_
    rintro e wf ⟨rfl, hwf⟩
    rw [hwf]
    clear hwf
    go_wp2_with fail
    refine wp_region_held_drew (S := fun w' => Grew w1 w') (by kernel_rfl) hd1 (fun hHeld => ?_)
    refine wpAnyH_take (i := 0) (oi := ?on39) (v := ?vn39) ?hin39 ?an39 ?bn39 ?cn39 ?qn39 (Or.inl ⟨?dn39, ?hyn39⟩) hHeld ?restn39
    case hin39 => (simp only [List.getElem?_toArray, List.getElem?_cons_zero]; exact rfl)
    case an39 => kernel_rfl
    case bn39 => kernel_rfl
    case cn39 => kernel_rfl
    case qn39 => exact fun _ _ _ h => h
    case dn39 => rfl
    case hyn39 => (intro z hSw; (try dsimp only at hSw); go_simp; (try with_reducible rfl))
    try simp only [Act.put, List.setIfInBounds_toArray, List.set_cons_zero, List.set_cons_succ]
    refine wpAnyH_take (i := 1) (oi := ?on40) (v := ?vn40) ?hin40 ?an40 ?bn40 ?cn40 ?qn40 (Or.inl ⟨?dn40, ?hyn40⟩) hHeld ?restn40
    case hin40 => (simp only [List.getElem?_toArray, List.getElem?_cons_succ, List.getElem?_cons_zero]; exact rfl)
    case an40 => kernel_rfl
    case bn40 => kernel_rfl
    case cn40 => kernel_rfl
    case qn40 => exact fun _ _ _ h => h
    case dn40 => rfl
    case hyn40 => (intro z hSw; (try dsimp only at hSw); go_simp; (try with_reducible rfl))
    try simp only [Act.put, List.setIfInBounds_toArray, List.set_cons_zero, List.set_cons_succ]
    refine wpAnyH_take (i := 2) (oi := ?on41) (v := ?vn41) ?hin41 ?an41 ?bn41 ?cn41 ?qn41 (Or.inl ⟨?dn41, ?hyn41⟩) hHeld ?restn41
    case hin41 => (simp only [List.getElem?_toArray, List.getElem?_cons_succ, List.getElem?_cons_zero]; exact rfl)
    case an41 => kernel_rfl
    case bn41 => kernel_rfl
    case cn41 => kernel_rfl
    case qn41 => exact fun _ _ _ h => h
    case dn41 => rfl
    case hyn41 => (intro z hSw; (try dsimp only at hSw); go_simp; (try with_reducible rfl))
    try simp only [Act.put, List.setIfInBounds_toArray, List.set_cons_zero, List.set_cons_succ]
    refine wpAnyH_take (i := 3) (oi := ?on42) (v := ?vn42) ?hin42 ?an42 ?bn42 ?cn42 ?qn42 (Or.inl ⟨?dn42, ?hyn42⟩) hHeld ?restn42
    case hin42 => (simp only [List.getElem?_toArray, List.getElem?_cons_succ, List.getElem?_cons_zero]; exact rfl)
    case an42 => kernel_rfl
    case bn42 => kernel_rfl
    case cn42 => kernel_rfl
    case qn42 => exact fun _ _ _ h => h
    case dn42 => rfl
    case hyn42 => (intro z hSw; (try dsimp only at hSw); go_simp; (try with_reducible rfl))
    try simp only [Act.put, List.setIfInBounds_toArray, List.set_cons_zero, List.set_cons_succ]
    refine wpAnyH_take (i := 4) (oi := ?on43) (v := ?vn43) ?hin43 ?an43 ?bn43 ?cn43 ?qn43 (Or.inl ⟨?dn43, ?hyn43⟩) hHeld ?restn43
    case hin43 => (simp only [List.getElem?_toArray, List.getElem?_cons_succ, List.getElem?_cons_zero]; exact rfl)
    case an43 => kernel_rfl
    case bn43 => kernel_rfl
    case cn43 => kernel_rfl
    case qn43 => exact fun _ _ _ h => h
    case dn43 => rfl
    case hyn43 => (intro z hSw; (try dsimp only at hSw); go_simp; (try with_reducible rfl))
    try simp only [Act.put, List.setIfInBounds_toArray, List.set_cons_zero, List.set_cons_succ]
    refine wpAnyH_take (i := 5) (oi := ?on44) (v := ?vn44) ?hin44 ?an44 ?bn44 ?cn44 ?qn44 (Or.inl ⟨?dn44, ?hyn44⟩) hHeld ?restn44
    case hin44 => (simp only [List.getElem?_toArray, List.getElem?_cons_succ, List.getElem?_cons_zero]; exact rfl)
    case an44 => kernel_rfl
    case bn44 => kernel_rfl
    case cn44 => kernel_rfl
    case qn44 => exact fun _ _ _ h => h
    case dn44 => rfl
    case hyn44 => (intro z hSw; (try dsimp only at hSw); go_simp; (try with_reducible rfl))
    try simp only [Act.put, List.setIfInBounds_toArray, List.set_cons_zero, List.set_cons_succ]
    refine wpAnyH_ready (rs := [6]) (by kernel_rfl) (by simp) ?_
    refine AllReadyH.cons (o := ?on45) ?hin45 ?restn45 AllReadyH.nil
    case hin45 => (simp only [List.getElem?_toArray, List.getElem?_cons_succ, List.getElem?_cons_zero]; exact rfl)
    intro K hK
    go_simp
    go_at_call 44
    refine (KX.out _ _ (HAL.out.trans hd1) (HT.out _ (HAL.out.trans hd1))).mono ?_
    rintro e w3 ⟨rfl, hgw3⟩
    have h3 : Grew w1 w3 := hd1.trans hgw3
    refine hK.out _ _ ?_ (fun hHeld => ?_)
    · (try dsimp only); first | with_reducible assumption | exact Grew.alloc ‹_› _
    clear hK K
    try simp only [Act.put, List.setIfInBounds_toArray, List.set_cons_zero, List.set_cons_succ]
    refine wpAnyH_take (i := 7) (oi := ?on46) (v := ?vn46) ?hin46 ?an46 ?bn46 ?cn46 ?qn46 (Or.inl ⟨?dn46, ?hyn46⟩) hHeld ?restn46
    case hin46 => (simp only [List.getElem?_toArray, List.getElem?_cons_succ, List.getElem?_cons_zero]; exact rfl)
    case an46 => kernel_rfl
    case bn46 => kernel_rfl
    case cn46 => kernel_rfl
    case qn46 => exact fun _ _ _ h => h
    case dn46 => rfl
    case hyn46 => (intro z hSw; (try dsimp only at hSw); go_simp; (try with_reducible rfl))
    try simp only [Act.put, List.setIfInBounds_toArray, List.set_cons_zero, List.set_cons_succ]
    refine wpAnyH_take (i := 8) (oi := ?on47) (v := ?vn47) ?hin47 ?an47 ?bn47 ?cn47 ?qn47 (Or.inl ⟨?dn47, ?hyn47⟩) hHeld ?restn47
    case hin47 => (simp only [List.getElem?_toArray, List.getElem?_cons_succ, List.getElem?_cons_zero]; exact rfl)
    case an47 => kernel_rfl
    case bn47 => kernel_rfl
    case cn47 => kernel_rfl
    case qn47 => exact fun _ _ _ h => h
    case dn47 => rfl
    case hyn47 => (intro z hSw; (try dsimp only at hSw); go_simp; (try with_reducible rfl))
    try simp only [Act.put, List.setIfInBounds_toArray, List.set_cons_zero, List.set_cons_succ]
    refine wpAnyH_take (i := 9) (oi := ?on48) (v := ?vn48) ?hin48 ?an48 ?bn48 ?cn48 ?qn48 (Or.inl ⟨?dn48, ?hyn48⟩) hHeld ?restn48
    case hin48 => (simp only [List.getElem?_toArray, List.getElem?_cons_succ, List.getElem?_cons_zero]; exact rfl)
    case an48 => kernel_rfl
    case bn48 => kernel_rfl
    case cn48 => kernel_rfl
    case qn48 => exact fun _ _ _ h => h
    case dn48 => rfl
    case hyn48 => (intro z hSw; (try dsimp only at hSw); go_simp; (try with_reducible rfl))
    try simp only [Act.put, List.setIfInBounds_toArray, List.set_cons_zero, List.set_cons_succ]
    refine wpAnyH_done (by kernel_rfl) ?_ _
    go_wp2_with fail
    go_ret
    exact ⟨rfl, HAL.out.trans h3⟩
  | dia x ihx =>
    intro v u va w h hu ha ht
    have hx : (Fm.enc x).length ≤ 1048576 := by
      have := ht
      simp only [Fm.enc, List.length_cons] at this
      omega
    have KX := Lib.hid (fun va W (hW : Grew w W) (hn : Nodes W va (Fm.enc x)) => ihx v u va W (h.grew hW) (hu.grew hW) hn hx)
    have hsx := av_sm hA hV x
    have hxl := av_lt hA hV x
    have hn5 := hA.le
    have HFull := Lib.hid (l01Full_q n (by omega))
    rw [← full_cast] at HFull
    have hfs := full_sm (n := n) (by omega)
    have hlB := hA.len
    obtain ⟨AU, cu, rfl⟩ := ints_sliceN hu
    rcases h.open_ with ⟨_, hnil⟩ | ⟨bv, ov, cv, rfl, hcv, hmv, hbv, hfv⟩
    · rw [← List.length_eq_zero_iff, zs_len, hlB] at hnil; have : 0 < 2 ^ n := Nat.pow_pos (by omega); omega
    have HFV := Lib.hid (fun k (hk : k < 2 ^ n) W (hW : Grew w W) => show W.cell? ⟨bv, ov + k, none⟩ = some (.int .i64 ((nt B k : Nat) : Int)) from by rw [hfv k (by rw [zs_len, hlB]; exact hk) W hW, zs_it (by rw [hlB]; exact hk)])
    clear hfv hcv hmv hbv
    have hzB : (zs B).length = 2 ^ n := by rw [zs_len, hlB]
    rw [hzB] at KX ⊢
    clear hzB
    have hdl := dif_le (a := full n) (b := av n B V x)
    have hcl := cpl_lt n (av n B V x)
    have hyl := hA.nt_lt hcl
    have hys := Nat.lt_of_lt_of_le hyl (pow30' (by omega : n ≤ 30))
    unfold cpl at hcl hyl hys
    have HC := Lib.hid (HFV.out _ hcl)
    have hi1 : ((dif (full n) (av n B V x) : Nat) : Int) < ((2 ^ n : Nat) : Int) := Int.ofNat_lt.2 hcl
    have hi0 : (0 : Int) ≤ ((dif (full n) (av n B V x) : Nat) : Int) := Int.natCast_nonneg _
    have hop1 := andNot_i64 (full n) (av n B V x) (by omega) (by omega)
    have hop := andNot_i64 (full n) (nt B (dif (full n) (av n B V x))) (by omega) (by omega)
    obtain ⟨b, o, m, c, rfl, hn0, hne, hk⟩ := head_t ha
    simp only [kindOf] at hk
    obtain ⟨hc1, hn1, hnc, hcm, hT⟩ := tail_un (k := 6) ha
    have hnn : (0 : Int) < (m : Int) := by omega
    have hn1i : (1 : Int) ≤ (m : Int) := by omega
    have HT := Lib.hid (fun W (hW : Grew w W) => hT.grew hW)
    show Calls _ _ _ _ fun e w' => e = .returned (.int .i64 ((dif (full n) (nt B (dif (full n) (av n B V x))) : Nat) : Int)) ∧ Grew w w'
    generalize av n B V x = X at *
    clear h hu ha ht hA hne hx hV hl ihx hfs hT hsx hxl HFV hlB hdl hcl hyl hys
    generalize full n = FU at *
    generalize dif FU (nt B (dif FU (X))) = Z at *
    generalize nt B (dif FU X) = Y at *
    generalize dif FU X = D at *
    generalize V.length = NV at *
    generalize (2 : Nat) ^ n = Pn at *
    have k0 : ∀ W, Grew (w.alloc (.cells #[.int .i64 (n : Int), .slice (some ⟨bv, ov, none⟩) Pn cv] 26)) W → W.cell? ⟨b, o, none⟩ = some (.int .i64 6) := fun W hW => hk W (((Grew.refl w).alloc _).trans hW)
    have k5 : ∀ W, Grew (w.alloc (.cells #[.int .i64 (n : Int), .slice (some ⟨bv, ov, none⟩) Pn cv] 26)) W → W.cell? ⟨bv, ov + D, none⟩ = some (.int .i64 (Y : Int)) := fun W hW => HC.out W (((Grew.refl w).alloc _).trans hW)
    clear hk HC
    obtain ⟨w1, hw1⟩ : ∃ w1, w1 = w.alloc (.cells #[.int .i64 (n : Int), .slice (some ⟨bv, ov, none⟩) Pn cv] 26) := ⟨_, rfl⟩
    rw [← hw1] at k0 k5
    have hal : Grew w w1 := by rw [hw1]; exact (Grew.refl w).alloc _
    have hb0 : w1.heap[w.heap.size]? = some (.cells #[.int .i64 (n : Int), .slice (some ⟨bv, ov, none⟩) Pn cv] 26 (0, 0)) := by rw [hw1]; exact blk_new w _
    have p0 : ∀ W, Grew w1 W → W.cell? ⟨w.heap.size, 0, none⟩ = some (.int .i64 (n : Int)) := fun W hW => by rw [blk_cell ((hW.block (blk_lt hb0)).trans hb0)]; rfl
    have p1 : ∀ W, Grew w1 W → W.cell? ⟨w.heap.size, 1, none⟩ = some (.slice (some ⟨bv, ov, none⟩) Pn cv) := fun W hW => by rw [blk_cell ((hW.block (blk_lt hb0)).trans hb0)]; rfl
    have hr1 := Grew.refl w1
    have hd1 := hr1.drew
    have p00 := p0 w1 hr1
    have k00 := k0 w1 hr1
    have HAL := Lib.hid hal
    clear hb0 hal
    go_enter Tryz.func44, Tryz.ntmps44
    go_wp2_with fail
    simp only [← hw1]
    clear hw1
    refine (HFull.out _).mono ?_
    rintro e wf ⟨rfl, hwf⟩
    rw [hwf]
    clear hwf
    go_wp2_with fail
    refine wp_region_held_drew (S := fun w' => Grew w1 w') (by kernel_rfl) hd1 (fun hHeld => ?_)
    refine wpAnyH_take (i := 0) (oi := ?on49) (v := ?vn49) ?hin49 ?an49 ?bn49 ?cn49 ?qn49 (Or.inl ⟨?dn49, ?hyn49⟩) hHeld ?restn49
    case hin49 => (simp only [List.getElem?_toArray, List.getElem?_cons_zero]; exact rfl)
    case an49 => kernel_rfl
    case bn49 => kernel_rfl
    case cn49 => kernel_rfl
    case qn49 => exact fun _ _ _ h => h
    case dn49 => rfl
    case hyn49 => (intro z hSw; (try dsimp only at hSw); go_simp; (try with_reducible rfl))
    try simp only [Act.put, List.setIfInBounds_toArray, List.set_cons_zero, List.set_cons_succ]
    refine wpAnyH_take (i := 1) (oi := ?on50) (v := ?vn50) ?hin50 ?an50 ?bn50 ?cn50 ?qn50 (Or.inl ⟨?dn50, ?hyn50⟩) hHeld ?restn50
    case hin50 => (simp only [List.getElem?_toArray, List.getElem?_cons_succ, List.getElem?_cons_zero]; exact rfl)
    case an50 => kernel_rfl
    case bn50 => kernel_rfl
    case cn50 => kernel_rfl
    case qn50 => exact fun _ _ _ h => h
    case dn50 => rfl
    case hyn50 => (intro z hSw; (try dsimp only at hSw); go_simp; (try with_reducible rfl))
    try simp only [Act.put, List.setIfInBounds_toArray, List.set_cons_zero, List.set_cons_succ]
    refine wpAnyH_take (i := 2) (oi := ?on51) (v := ?vn51) ?hin51 ?an51 ?bn51 ?cn51 ?qn51 (Or.inl ⟨?dn51, ?hyn51⟩) hHeld ?restn51
    case hin51 => (simp only [List.getElem?_toArray, List.getElem?_cons_succ, List.getElem?_cons_zero]; exact rfl)
    case an51 => kernel_rfl
    case bn51 => kernel_rfl
    case cn51 => kernel_rfl
    case qn51 => exact fun _ _ _ h => h
    case dn51 => rfl
    case hyn51 => (intro z hSw; (try dsimp only at hSw); go_simp; (try with_reducible rfl))
    try simp only [Act.put, List.setIfInBounds_toArray, List.set_cons_zero, List.set_cons_succ]
    refine wpAnyH_take (i := 3) (oi := ?on52) (v := ?vn52) ?hin52 ?an52 ?bn52 ?cn52 ?qn52 (Or.inl ⟨?dn52, ?hyn52⟩) hHeld ?restn52
    case hin52 => (simp only [List.getElem?_toArray, List.getElem?_cons_succ, List.getElem?_cons_zero]; exact rfl)
    case an52 => kernel_rfl
    case bn52 => kernel_rfl
    case cn52 => kernel_rfl
    case qn52 => exact fun _ _ _ h => h
    case dn52 => rfl
    case hyn52 => (intro z hSw; (try dsimp only at hSw); go_simp; (try with_reducible rfl))
    try simp only [Act.put, List.setIfInBounds_toArray, List.set_cons_zero, List.set_cons_succ]
    refine wpAnyH_take (i := 4) (oi := ?on53) (v := ?vn53) ?hin53 ?an53 ?bn53 ?cn53 ?qn53 (Or.inl ⟨?dn53, ?hyn53⟩) hHeld ?restn53
    case hin53 => (simp only [List.getElem?_toArray, List.getElem?_cons_succ, List.getElem?_cons_zero]; exact rfl)
    case an53 => kernel_rfl
    case bn53 => kernel_rfl
    case cn53 => kernel_rfl
    case qn53 => exact fun _ _ _ h => h
    case dn53 => rfl
    case hyn53 => (intro z hSw; (try dsimp only at hSw); go_simp; (try with_reducible rfl))
    try simp only [Act.put, List.setIfInBounds_toArray, List.set_cons_zero, List.set_cons_succ]
    refine wpAnyH_take (i := 5) (oi := ?on54) (v := ?vn54) ?hin54 ?an54 ?bn54 ?cn54 ?qn54 (Or.inl ⟨?dn54, ?hyn54⟩) hHeld ?restn54
    case hin54 => (simp only [List.getElem?_toArray, List.getElem?_cons_succ, List.getElem?_cons_zero]; exact rfl)
    case an54 => kernel_rfl
    case bn54 => kernel_rfl
    case cn54 => kernel_rfl
    case qn54 => exact fun _ _ _ h => h
    case dn54 => rfl
    case hyn54 => (intro z hSw; (try dsimp only at hSw); go_simp; (try with_reducible rfl))
    try simp only [Act.put, List.setIfInBounds_toArray, List.set_cons_zero, List.set_cons_succ]
    refine wpAnyH_take (i := 6) (oi := ?on55) (v := ?vn55) ?hin55 ?an55 ?bn55 ?cn55 ?qn55 (Or.inl ⟨?dn55, ?hyn55⟩) hHeld ?restn55
    case hin55 => (simp only [List.getElem?_toArray, List.getElem?_cons_succ, List.getElem?_cons_zero]; exact rfl)
    case an55 => kernel_rfl
    case bn55 => kernel_rfl
    case cn55 => kernel_rfl
    case qn55 => exact fun _ _ _ h => h
    case dn55 => rfl
    case hyn55 => (intro z hSw; (try dsimp only at hSw); go_simp; (try with_reducible rfl))
    try simp only [Act.put, List.setIfInBounds_toArray, List.set_cons_zero, List.set_cons_succ]
    refine wpAnyH_take (i := 7) (oi := ?on56) (v := ?vn56) ?hin56 ?an56 ?bn56 ?cn56 ?qn56 (Or.inl ⟨?dn56, ?hyn56⟩) hHeld ?restn56
    case hin56 => (simp only [List.getElem?_toArray, List.getElem?_cons_succ, List.getElem?_cons_zero]; exact rfl)
    case an56 => kernel_rfl
    case bn56 => kernel_rfl
    case cn56 => kernel_rfl
    case qn56 => exact fun _ _ _ h => h
    case dn56 => rfl
    case hyn56 => (intro z hSw; (try dsimp only at hSw); go_simp; (try with_reducible rfl))
    try simp only [Act.put, List.setIfInBounds_toArray, List.set_cons_zero, List.set_cons_succ]
    refine wpAnyH_ready (rs := [8]) (by kernel_rfl) (by simp) ?_
    refine AllReadyH.cons (o := ?on57) ?hin57 ?restn57 AllReadyH.nil
    case hin57 => (simp only [List.getElem?_toArray, List.getElem?_cons_succ, List.getElem?_cons_zero]; exact rfl)
    intro K hK
    go_simp
    go_at_call 44
    refine (KX.out _ _ (HAL.out.trans hd1) (HT.out _ (HAL.out.trans hd1))).mono ?_
    rintro e w3 ⟨rfl, hgw3⟩
    have h3 : Grew w1 w3 := hd1.trans hgw3
    refine hK.out _ _ ?_ (fun hHeld => ?_)
    · (try dsimp only); first | with_reducible assumption | exact Grew.alloc ‹_› _
    clear hK K
    try simp only [Act.put, List.setIfInBounds_toArray, List.set_cons_zero, List.set_cons_succ]
    refine wpAnyH_take (i := 9) (oi := ?on58) (v := ?vn58) ?hin58 ?an58 ?bn58 ?cn58 ?qn58 (Or.inl ⟨?dn58, ?hyn58⟩) hHeld ?restn58
    case hin58 => (simp only [List.getElem?_toArray, List.getElem?_cons_succ, List.getElem?_cons_zero]; exact rfl)
    case an58 => kernel_rfl
    case bn58 => kernel_rfl
    case cn58 => kernel_rfl
    case qn58 => exact fun _ _ _ h => h
    case dn58 => rfl
    case hyn58 => (intro z hSw; (try dsimp only at hSw); go_simp; (try with_reducible rfl))
    try simp only [Act.put, List.setIfInBounds_toArray, List.set_cons_zero, List.set_cons_succ]
    refine wpAnyH_take (i := 10) (oi := ?on59) (v := ?vn59) ?hin59 ?an59 ?bn59 ?cn59 ?qn59 (Or.inl ⟨?dn59, ?hyn59⟩) hHeld ?restn59
    case hin59 => (simp only [List.getElem?_toArray, List.getElem?_cons_succ, List.getElem?_cons_zero]; exact rfl)
    case an59 => kernel_rfl
    case bn59 => kernel_rfl
    case cn59 => kernel_rfl
    case qn59 => exact fun _ _ _ h => h
    case dn59 => rfl
    case hyn59 => (intro z hSw; (try dsimp only at hSw); go_simp; (try with_reducible rfl))
    try simp only [Act.put, List.setIfInBounds_toArray, List.set_cons_zero, List.set_cons_succ]
    refine wpAnyH_take (i := 11) (oi := ?on60) (v := ?vn60) ?hin60 ?an60 ?bn60 ?cn60 ?qn60 (Or.inl ⟨?dn60, ?hyn60⟩) hHeld ?restn60
    case hin60 => (simp only [List.getElem?_toArray, List.getElem?_cons_succ, List.getElem?_cons_zero]; exact rfl)
    case an60 => kernel_rfl
    case bn60 => kernel_rfl
    case cn60 => kernel_rfl
    case qn60 => exact fun _ _ _ h => h
    case dn60 => rfl
    case hyn60 => (intro z hSw; (try dsimp only at hSw); go_simp; (try with_reducible rfl))
    try simp only [Act.put, List.setIfInBounds_toArray, List.set_cons_zero, List.set_cons_succ]
    refine wpAnyH_take (i := 12) (oi := ?on61) (v := ?vn61) ?hin61 ?an61 ?bn61 ?cn61 ?qn61 (Or.inl ⟨?dn61, ?hyn61⟩) hHeld ?restn61
    case hin61 => (simp only [List.getElem?_toArray, List.getElem?_cons_succ, List.getElem?_cons_zero]; exact rfl)
    case an61 => kernel_rfl
    case bn61 => kernel_rfl
    case cn61 => kernel_rfl
    case qn61 => exact fun _ _ _ h => h
    case dn61 => rfl
    case hyn61 => (intro z hSw; (try dsimp only at hSw); go_simp; (try with_reducible rfl))
    try simp only [Act.put, List.setIfInBounds_toArray, List.set_cons_zero, List.set_cons_succ]
    refine wpAnyH_take (i := 13) (oi := ?on62) (v := ?vn62) ?hin62 ?an62 ?bn62 ?cn62 ?qn62 (Or.inl ⟨?dn62, ?hyn62⟩) hHeld ?restn62
    case hin62 => (simp only [List.getElem?_toArray, List.getElem?_cons_succ, List.getElem?_cons_zero]; exact rfl)
    case an62 => kernel_rfl
    case bn62 => kernel_rfl
    case cn62 => kernel_rfl
    case qn62 => exact fun _ _ _ h => h
    case dn62 => rfl
    case hyn62 => (intro z hSw; (try dsimp only at hSw); go_simp; (try with_reducible rfl))
    try simp only [Act.put, List.setIfInBounds_toArray, List.set_cons_zero, List.set_cons_succ]
    refine wpAnyH_done (by kernel_rfl) ?_ _
    go_wp2_with fail
    go_ret
    exact ⟨rfl, HAL.out.trans h3⟩
end Go.Proofs.YtopjgcbhjhhlfaaGreat


/- Valuations, plain: the lists that give each of some variables a value of a list, in ascending order. No program is in sight. -/
namespace Go.Proofs.YtopjgcbhjhhlfaaGreat

def lfV (f : Nat → Nat) : List Nat := (List.range 6).map f
theorem lfV_len (f : Nat → Nat) : (lfV f).length = 6 := by simp [lfV]
def Off (vs : List Nat) (f f' : Nat → Nat) : Prop := ∀ i, i < 6 → i ∉ vs → f' i = f i
theorem Off.set {v u : Nat} {vs : List Nat} {f f' : Nat → Nat} (h : Off (v :: vs) f f') : Off vs (fun i => if i = v then u else f i) (fun i => if i = v then u else f' i) := by
  intro i h6 hi
  by_cases hv : i = v
  · show (if i = v then u else f' i) = (if i = v then u else f i)
    rw [if_pos hv, if_pos hv]
  · show (if i = v then u else f' i) = (if i = v then u else f i)
    rw [if_neg hv, if_neg hv]
    exact h i h6 (by simp [hv, hi])
theorem Off.refl (vs : List Nat) (f : Nat → Nat) : Off vs f f := fun _ _ _ => rfl
end Go.Proofs.YtopjgcbhjhhlfaaGreat


/- The variables of a formula: variableMask of the program, l02Variables of the reference. -/
namespace Go.Proofs.YtopjgcbhjhhlfaaGreat
open Go.RowKit
open Fm (Nd Tree)

def vmK (xs : List Nd) : Nat → Nat
  | 0 => 0
  | k + 1 => if kd xs k = 0 then vmK xs k ||| 2 ^ (sy xs k).toNat else vmK xs k
theorem vmK_yes {xs : List Nd} {k : Nat} (h : kd xs k = 0) : vmK xs (k + 1) = vmK xs k ||| 2 ^ (sy xs k).toNat := by
  show (if _ then _ else _) = _
  rw [if_pos h]
theorem vmK_no {xs : List Nd} {k : Nat} (h : ¬ kd xs k = 0) : vmK xs (k + 1) = vmK xs k := by
  show (if _ then _ else _) = _
  rw [if_neg h]
def vm (xs : List Nd) : Nat := vmK xs xs.length
def Vs (xs : List Nd) : Prop := ∀ i, i < xs.length → kd xs i = 0 → 0 ≤ sy xs i ∧ sy xs i < 6
theorem vmK_lt {xs : List Nd} (h : Vs xs) : ∀ k, k ≤ xs.length → vmK xs k < 2 ^ 6 := by
  intro k
  induction k with
  | zero => intro _; show 0 < 2 ^ 6; decide
  | succ k ih =>
    intro hk
    by_cases h0 : kd xs k = 0
    · rw [vmK_yes h0]
      have h1 := h k (by omega) h0
      refine or_n (ih (by omega)) ?_
      exact Nat.pow_lt_pow_right (by omega) (by omega)
    · rw [vmK_no h0]; exact ih (by omega)
theorem vmK_bit (xs : List Nd) (v : Nat) : ∀ k, (vmK xs k).testBit v = true ↔ ∃ i, i < k ∧ kd xs i = 0 ∧ (sy xs i).toNat = v := by
  intro k
  induction k with
  | zero =>
    show (0 : Nat).testBit v = true ↔ _
    simp
  | succ k ih =>
    by_cases h0 : kd xs k = 0
    · rw [vmK_yes h0, Nat.testBit_or, Bool.or_eq_true, ih, Nat.testBit_two_pow, decide_eq_true_eq]
      constructor
      · rintro (⟨i, hi, h1, h2⟩ | h1)
        · exact ⟨i, by omega, h1, h2⟩
        · exact ⟨k, by omega, h0, h1⟩
      · rintro ⟨i, hi, h1, h2⟩
        by_cases he : i = k
        · subst he; exact .inr h2
        · exact .inl ⟨i, by omega, h1, h2⟩
    · rw [vmK_no h0, ih]
      constructor
      · rintro ⟨i, hi, h1, h2⟩; exact ⟨i, by omega, h1, h2⟩
      · rintro ⟨i, hi, h1, h2⟩
        by_cases he : i = k
        · subst he; exact absurd h1 h0
        · exact ⟨i, by omega, h1, h2⟩
set_option maxHeartbeats 1000000 in
theorem variableMask_c (v : Value) (xs : List Nd) (w : World) (h : Nodes w v xs) (hv : Vs xs) (hn : xs.length ≤ 1048576) :
    Calls Tryz.prog 80 #[v] w fun e w' => e = .returned (.int .i64 ((vm xs : Nat) : Int)) ∧ Grew w w' := by
  have HY := Lib.hid (fun k => @vmK_yes xs k)
  have HN := Lib.hid (fun k => @vmK_no xs k)
  have HL := Lib.hid (fun k (hk : k ≤ xs.length) => vmK_lt hv k hk)
  have HV := Lib.hid hv
  have HZ : Hid (vmK xs 0 = 0) := Lib.hid rfl
  have HE : Hid (vm xs = vmK xs xs.length) := Lib.hid rfl
  have HO := Lib.hid (fun a b (ha : a < 2 ^ 6) (hb : b < 2 ^ 6) => or_i64 a b (by omega) (by omega))
  rcases h.open_ with ⟨rfl, rfl⟩ | ⟨b, o, c, rfl, hc, hm, hb, hcell⟩
  · clear h
    go_enter Tryz.func80, Tryz.ntmps80
    go_wp2_with fail
    refine wp_loop_rounds 1 ?_; rw [rounds_succ]
    go_wp2_with fail
    go_ret
    exact ⟨rfl, Grew.refl _⟩
  have HC := Lib.hid hcell
  clear hcell h hv
  generalize vm xs = R at *
  generalize hN : xs.length = n at *
  have HXN := Lib.hid hN
  clear hN
  go_enter Tryz.func80, Tryz.ntmps80
  go_wp2_with fail
  go_loopw [3, 5, 8] (fun q _ i wr => ∃ k : Nat, k ≤ n ∧ i = .int .i64 (k : Int) ∧ q = .int .i64 ((vmK xs k : Nat) : Int) ∧ Grew w wr) (fun _ _ i _ => n - (intOf i).toNat)
  case atStart => exact ⟨0, Nat.zero_le _, rfl, by rw [HZ.out]; rfl, Grew.refl _⟩
  case round =>
    obtain ⟨k, hk, rfl, rfl, hB⟩ := hrel
    by_cases hlt : k < n
    · obtain ⟨c0, c1⟩ := HC.out k hlt _ hB
      have hy := Lib.hid (HY.out k)
      have hno := Lib.hid (HN.out k)
      have hq := HL.out k hk
      by_cases h0 : kd xs k = 0
      · have hvs := HV.out k (by rw [HXN.out]; exact hlt) h0
        have hyk := hy.out h0
        rw [h0] at c0
        clear h0
        obtain ⟨s, hs⟩ : ∃ s : Nat, sy xs k = (s : Int) := ⟨(sy xs k).toNat, by omega⟩
        rw [hs] at c1 hyk hvs
        rw [Int.toNat_natCast] at hyk
        have hp := wrap_pow (k := s) (by omega)
        have hp64 : 2 ^ s < 2 ^ 6 := Nat.pow_lt_pow_right (by omega) (by omega)
        have ho := HO.out (vmK xs k) (2 ^ s) hq hp64
        have HYK := Lib.hid hyk
        have hs6 : (s : Int) < 6 := hvs.2
        clear hyk hs hy hno hvs
        generalize vmK xs k = q at *
        generalize (2 ^ s : Nat) = p at *
        go_wp2_with fail
        go_roundw
        case rel => exact ⟨k + 1, by omega, by go_num, by rw [HYK.out], hB.trans ((Grew.refl _).alloc _)⟩
        case measure => simp [intOf]; omega
      · have hyk := hno.out h0
        have HYK := Lib.hid hyk
        clear hyk hy hno
        generalize kd xs k = kk at *
        generalize vmK xs k = q at *
        go_wp2_with fail
        go_roundw
        case rel => exact ⟨k + 1, by omega, by go_num, by rw [HYK.out], hB.trans ((Grew.refl _).alloc _)⟩
        case measure => simp [intOf]; omega
    · obtain rfl : k = n := by omega
      have he := HE.out
      go_wp2_with fail
      go_ret
      exact ⟨by rw [he]; rfl, hB⟩
set_option maxHeartbeats 1000000 in
theorem l02Variables_c (v : Value) (xs : List Nd) (w : World) (h : Nodes w v xs) (hv : Vs xs) (hn : xs.length ≤ 1048576) :
    Calls Tryz.prog 42 #[v] w (GivesI w (zs (mbs (vm xs)))) := by
  have HY := Lib.hid (fun k => @vmK_yes xs k)
  have HN := Lib.hid (fun k => @vmK_no xs k)
  have HL := Lib.hid (fun k (hk : k ≤ xs.length) => vmK_lt hv k hk)
  have HV := Lib.hid hv
  have HZ : Hid (vmK xs 0 = 0) := Lib.hid rfl
  have HE : Hid (vm xs = vmK xs xs.length) := Lib.hid rfl
  have HO := Lib.hid (fun a b (ha : a < 2 ^ 6) (hb : b < 2 ^ 6) => or_i64 a b (by omega) (by omega))
  have HR := Lib.hid (fun W => l01List_c (vm xs) (by have := vmK_lt hv xs.length (Nat.le_refl _); unfold vm; omega) W)
  rcases h.open_ with ⟨rfl, rfl⟩ | ⟨b, o, c, rfl, hc, hm, hb, hcell⟩
  · clear h
    have hz : vm [] = 0 := rfl
    rw [hz] at HR ⊢
    generalize zs (mbs 0) = L at *
    go_enter Tryz.func42, Tryz.ntmps42
    go_wp2_with fail
    refine wp_loop_rounds 1 ?_; rw [rounds_succ]
    go_wp2_with fail
    refine (HR.out _).mono ?_
    rintro e w1 ⟨v1, rfl, hO1, hg1⟩
    go_wp2_with fail
    go_ret
    exact ⟨_, rfl, hO1, hg1⟩
  have HC := Lib.hid hcell
  clear hcell h hv
  generalize zs (mbs (vm xs)) = L at *
  generalize vm xs = R at *
  generalize hN : xs.length = n at *
  have HXN := Lib.hid hN
  clear hN
  go_enter Tryz.func42, Tryz.ntmps42
  go_wp2_with fail
  go_loopw [3, 4] (fun q i wr => ∃ k : Nat, k ≤ n ∧ i = .int .i64 (k : Int) ∧ q = .int .i64 ((vmK xs k : Nat) : Int) ∧ Grew w wr) (fun _ i _ => n - (intOf i).toNat)
  case atStart => exact ⟨0, Nat.zero_le _, rfl, by rw [HZ.out]; rfl, Grew.refl _⟩
  case round =>
    obtain ⟨k, hk, rfl, rfl, hB⟩ := hrel
    by_cases hlt : k < n
    · obtain ⟨c0, c1⟩ := HC.out k hlt _ hB
      have hy := Lib.hid (HY.out k)
      have hno := Lib.hid (HN.out k)
      have hq := HL.out k hk
      by_cases h0 : kd xs k = 0
      · have hvs := HV.out k (by rw [HXN.out]; exact hlt) h0
        have hyk := hy.out h0
        rw [h0] at c0
        clear h0
        obtain ⟨s, hs⟩ : ∃ s : Nat, sy xs k = (s : Int) := ⟨(sy xs k).toNat, by omega⟩
        rw [hs] at c1 hyk hvs
        rw [Int.toNat_natCast] at hyk
        have KO := Lib.hid (fun W => l01One_q s (by omega) W)
        have hp64 : 2 ^ s < 2 ^ 6 := Nat.pow_lt_pow_right (by omega) (by omega)
        have ho := HO.out (vmK xs k) (2 ^ s) hq hp64
        have HYK := Lib.hid hyk
        have hs6 : (s : Int) < 6 := hvs.2
        clear hyk hs hy hno hvs
        generalize vmK xs k = q at *
        generalize (2 ^ s : Nat) = p at *
        have hr1 := Grew.refl wr
        have hd1 := (Grew.refl wr).drew
        go_wp2_with fail
        refine (KO.out _).mono ?_
        rintro e w1 ⟨rfl, rfl⟩
        go_wp2_with fail
        go_roundw
        case rel => exact ⟨k + 1, by omega, by go_num, by rw [HYK.out], hB⟩
        case measure => simp [intOf]; omega
      · have hyk := hno.out h0
        have HYK := Lib.hid hyk
        clear hyk hy hno
        generalize kd xs k = kk at *
        generalize vmK xs k = q at *
        go_wp2_with fail
        go_roundw
        case rel => exact ⟨k + 1, by omega, by go_num, by rw [HYK.out], hB⟩
        case measure => simp [intOf]; omega
    · obtain rfl : k = n := by omega
      rw [← HE.out]
      go_wp2_with fail
      refine (HR.out _).mono ?_
      rintro e w1 ⟨v1, rfl, hO1, hg1⟩
      go_wp2_with fail
      go_ret
      exact ⟨_, rfl, own_base hO1 hB.size, hB.trans hg1⟩
end Go.Proofs.YtopjgcbhjhhlfaaGreat


/- The values of all models on a frame, plain: a number's values for some variables; validity on a frame is truth for all numbers. No program is in sight. -/
namespace Go.Proofs.YtopjgcbhjhhlfaaGreat
open Go.RowKit
open Fm (Nd Tree)

def dg (n c num p : Nat) : Nat := num / 2 ^ (n * (c - 1 - p)) % 2 ^ n
theorem dg_lt (n c num p : Nat) : dg n c num p < 2 ^ n := Nat.mod_lt _ (Nat.pow_pos (by omega))
theorem dg_and (n c num p : Nat) : num / 2 ^ (n * (c - 1 - p)) &&& full n = dg n c num p := by
  unfold full dg
  exact Nat.and_two_pow_sub_one_eq_mod _ _
def vals (n : Nat) (vars : List Nat) (num : Nat) : List Nat := lfV fun i => if i ∈ vars then dg n vars.length num (vars.idxOf i) else 0
theorem vals_len (n : Nat) (vars : List Nat) (num : Nat) : (vals n vars num).length = 6 := lfV_len _
theorem vals_lt (n : Nat) (vars : List Nat) (num : Nat) : ∀ m ∈ vals n vars num, m < 2 ^ n := by
  intro m hm
  unfold vals lfV at hm
  obtain ⟨i, _, rfl⟩ := List.mem_map.1 hm
  by_cases h : i ∈ vars
  · simp only [if_pos h]; exact dg_lt _ _ _ _
  · simp only [if_neg h]; exact Nat.pow_pos (by omega)
def allV (n : Nat) (vars : List Nat) : List (List Nat) := (List.range (2 ^ (n * vars.length))).map (vals n vars)
theorem allV_len (n : Nat) (vars : List Nat) : (allV n vars).length = 2 ^ (n * vars.length) := by simp [allV]
theorem allV_take {n : Nat} {vars : List Nat} {k : Nat} (h : k < 2 ^ (n * vars.length)) : (allV n vars).take (k + 1) = (allV n vars).take k ++ [vals n vars k] := by
  unfold allV
  rw [← List.map_take, ← List.map_take, List.take_range, List.take_range, Nat.min_eq_left (by omega), Nat.min_eq_left (by omega), List.range_succ, List.map_append]
  rfl
def PG (n : Nat) (vars : List Nat) (num j : Nat) (f : Nat → Nat) : Prop := (∀ p, p < j → f (nt vars p) = dg n vars.length num p) ∧ ∀ i, i < 6 → i ∉ vars → f i = 0
def QG (n : Nat) (vars : List Nat) (num k : Nat) (f : Nat → Nat) : Prop := (∀ p, k ≤ p → p < vars.length → f (nt vars p) = dg n vars.length num p) ∧ ∀ i, i < 6 → i ∉ vars → f i = 0
theorem nt_inj {vars : List Nat} (hn : vars.Nodup) {i j : Nat} (hi : i < vars.length) (hj : j < vars.length) (h : nt vars i = nt vars j) : i = j := by
  unfold nt at h
  simp only [List.getD_eq_getElem?_getD, List.getElem?_eq_getElem hi, List.getElem?_eq_getElem hj, Option.getD_some] at h
  exact (List.getElem_inj hn).1 h
theorem nt_idxOf {vars : List Nat} {i : Nat} (h : i ∈ vars) : vars.idxOf i < vars.length ∧ nt vars (vars.idxOf i) = i := by
  have h1 := List.idxOf_lt_length_of_mem h
  refine ⟨h1, ?_⟩
  unfold nt
  rw [List.getD_eq_getElem?_getD, List.getElem?_eq_getElem h1, Option.getD_some]
  exact List.getElem_idxOf h1
theorem PG.zero {n : Nat} {vars : List Nat} {num : Nat} {f : Nat → Nat} (h : ∀ i, i < 6 → i ∉ vars → f i = 0) : PG n vars num 0 f := ⟨fun p hp => absurd hp (by omega), h⟩
theorem PG.set {n : Nat} {vars : List Nat} (hn : vars.Nodup) {num j : Nat} {f f' : Nat → Nat} (h : PG n vars num j f) (hj : j < vars.length) (h1 : f' (nt vars j) = dg n vars.length num j) (h2 : ∀ i, i ≠ nt vars j → f' i = f i) : PG n vars num (j + 1) f' := by
  refine ⟨fun p hp => ?_, fun i hi hv => ?_⟩
  · by_cases hpj : p = j
    · subst hpj; exact h1
    · rw [h2 _ (fun e => hpj (nt_inj hn (by omega) hj e))]
      exact h.1 p (by omega)
  · rw [h2 i (fun e => hv (by rw [e]; exact nt_mem hj))]
    exact h.2 i hi hv
theorem QG.set {n : Nat} {vars : List Nat} (hn : vars.Nodup) {num k : Nat} {f f' : Nat → Nat} (h : QG n vars num (k + 1) f) (hj : k < vars.length) (h1 : f' (nt vars k) = dg n vars.length num k) (h2 : ∀ i, i ≠ nt vars k → f' i = f i) : QG n vars num k f' := by
  refine ⟨fun p hp hpl => ?_, fun i hi hv => ?_⟩
  · by_cases hpj : p = k
    · subst hpj; exact h1
    · rw [h2 _ (fun e => hpj (nt_inj hn hpl hj e))]
      exact h.1 p (by omega) hpl
  · rw [h2 i (fun e => hv (by rw [e]; exact nt_mem hj))]
    exact h.2 i hi hv
theorem PG.vals {n : Nat} {vars : List Nat} {num : Nat} {f : Nat → Nat} (h : PG n vars num vars.length f) : (List.range 6).map f = vals n vars num := by
  unfold Go.Proofs.YtopjgcbhjhhlfaaGreat.vals lfV
  refine List.map_congr_left fun i hi => ?_
  rw [List.mem_range] at hi
  by_cases hv : i ∈ vars
  · rw [if_pos hv]
    obtain ⟨h1, h2⟩ := nt_idxOf hv
    have := h.1 _ h1
    rwa [h2] at this
  · rw [if_neg hv]
    exact h.2 i hi hv
def vldB (A vars : List Nat) (t : Tree) : Bool := (allV A.length vars).all fun x => mv A x t == full A.length
theorem vldB_yes {A vars : List Nat} {t : Tree} (h : ∀ x ∈ allV A.length vars, mv A x t = full A.length) : vldB A vars t = true := by
  unfold vldB
  rw [List.all_eq_true]
  intro x hx
  simp [h x hx]
theorem vldB_no {A vars : List Nat} {t : Tree} {x : List Nat} (hx : x ∈ allV A.length vars) (h : mv A x t ≠ full A.length) : vldB A vars t = false := by
  unfold vldB
  rw [List.all_eq_false]
  exact ⟨x, hx, by simp [h]⟩
end Go.Proofs.YtopjgcbhjhhlfaaGreat

