/- The redexes of a term: redexes of the program, l26Redexes of the reference. -/
import Derived.Test.YthofkdpmgjkgkaaGreatTmIs2
import Derived.Test.YthofkdpmgjkgkaaGreatInts
namespace Go.Proofs.YthofkdpmgjkgkaaGreat
open Go.RowKit

/-- Is a node of the one kind with a first part of the other a redex? -/
def rdx (a b : Int) : Bool := if a == 2 then b == 1 else if a == 4 || a == 5 then b == 3 else if a == 8 then (b == 6 || b == 7) else false
def rdxAt (xs : List Tn) (i : Nat) : Bool := decide (i + 1 < xs.length) && rdx (tk xs i) (tk xs (i + 1))
def redL (xs : List Tn) : Nat → List Int
  | 0 => []
  | j + 1 => if rdxAt xs j then redL xs j ++ [(j : Int)] else redL xs j
theorem redL_len (xs : List Tn) (j : Nat) : (redL xs j).length ≤ j := by
  induction j with
  | zero => simp [redL]
  | succ j ih =>
    rw [redL]
    split
    · rw [List.length_append, List.length_singleton]; omega
    · omega

/-- 'out = append(out, x)' onto a row of numbers of the call's own. -/
theorem wpList_appI {ops : Array Oper} {rest : List Oper} {o : Oper} {a : Act} {Q : Exit → Act → World → Prop} {w w0 : World} (s x : Operand) (hgd : o.guard = none)
    (ho : o.op = .call { callee := .builtin .append, args := #[s, x], argTypes := #[40, 40] })
    (v : Value) (L : List Int) (hs : a.eval s = v) (hown : OwnI w w0.heap.size v L) (hg : Grew w0 w) (vx : Value) (k : Int) (hx : a.eval x = vx) (hr : Rd w 1 vx 1 [.int .i64 k]) (hn : L.length ≤ 1048576)
    (h : ∀ v' w', OwnI w' w0.heap.size v' (L ++ [k]) → Grew w0 w' → w.grownBy w' v.ownBlock → wpList Tryz.prog ops Q rest (a.put o.dst v') w') : wpList Tryz.prog ops Q (o :: rest) a w := by
  obtain ⟨i0, hi0, hz0, hz1, hz2⟩ := info_parts Tryz.infoI
  refine wpList_append_rd w hgd s x _ ho w0.heap.size 2 i0 _ 1 8 Tryz.underlying40 hi0 hz0 hz1 hz2 rfl (by omega) v L.length (icells L) hs hown vx 1 [.int .i64 k] hx hr (by simp [Value.oneCell']) (by unfold maxLen; omega) (by omega) hg.size ?_
  intro v' w' h1 h2 h3
  refine h v' w' ?_ (hg.grown h2 fun k hk => (hown.lt k hk).1) h2
  unfold OwnI
  rw [List.length_append, icells_append]
  exact h1
theorem rd_litI (w : World) (k : Int) (t : TypeId) : Rd (w.alloc (.cells #[.int .i64 k] t)) 1 (.slice (some ⟨w.heap.size, 0, none⟩) 1 1) 1 [.int .i64 k] := by
  refine ⟨rfl, by omega, .inr ⟨w.heap.size, 0, 1, rfl, by omega, by omega, by simp, fun j x hx => ?_⟩⟩
  have hj : j = 0 := by
    have := (List.getElem?_eq_some_iff.1 hx).1
    simp at this
    omega
  subst hj
  simp at hx
  subst hx
  simp
theorem own_emptyI (w : World) : OwnI (w.alloc (.cells #[] 2)) w.heap.size (.slice (some ⟨w.heap.size, 0, none⟩) 0 0) [] :=
  World.ownsRow_lit (e := 2) (size := 1) w #[] 0 (Nat.le_refl _) (by omega) rfl

theorem rdx_kinds (a : Int) : a = 2 ∨ a = 4 ∨ a = 5 ∨ a = 8 ∨ ((a == 2) = false ∧ (a == 4) = false ∧ (a == 5) = false ∧ (a == 8) = false) := by
  by_cases h2 : a = 2
  · exact .inl h2
  by_cases h4 : a = 4
  · exact .inr (.inl h4)
  by_cases h5 : a = 5
  · exact .inr (.inr (.inl h5))
  by_cases h8 : a = 8
  · exact .inr (.inr (.inr (.inl h8)))
  · exact .inr (.inr (.inr (.inr ⟨by simpa using h2, by simpa using h4, by simpa using h5, by simpa using h8⟩)))

theorem isRedex_c (v : Value) (xs : List Tn) (i : Nat) (w : World) (h : Tms w v xs) (hi : i < xs.length) (hn : xs.length ≤ 1048576) :
    Calls Tryz.prog 65 #[v, .int .i64 i] w fun e w' => e = .returned (.bool (rdxAt xs i)) ∧ Grew w w' := by
  rcases h.open_ with ⟨_, rfl⟩ | ⟨b, o, c, rfl, hc, hm, hb, hf⟩
  · simp at hi
  unfold rdxAt
  by_cases hl : i + 1 < xs.length
  · rw [decide_eq_true hl, Bool.true_and]
    have k1 : w.cell? ⟨b, o + i * 3, none⟩ = some (.int .i64 (tk xs i)) := (hf i hi _ (Grew.refl w)).1
    have k2 : w.cell? ⟨b, o + (i + 1) * 3, none⟩ = some (.int .i64 (tk xs (i + 1))) := (hf (i + 1) hl _ (Grew.refl w)).1
    clear hf h
    generalize tk xs i = x at *
    generalize tk xs (i + 1) = y at *
    generalize xs.length = n at *
    rcases rdx_kinds x with rfl | rfl | rfl | rfl | ⟨n2, n4, n5, n8⟩
    · go_enter Tryz.func65, Tryz.ntmps65
      go_wp2_with fail
      go_ret
      exact ⟨rfl, Grew.refl _⟩
    · go_enter Tryz.func65, Tryz.ntmps65
      go_wp2_with fail
      go_ret
      exact ⟨rfl, Grew.refl _⟩
    · go_enter Tryz.func65, Tryz.ntmps65
      go_wp2_with fail
      go_ret
      exact ⟨rfl, Grew.refl _⟩
    · cases h6 : (y == 6) with
      | true =>
        have hr : rdx 8 y = true := by simp [rdx, h6]
        rw [hr]
        go_enter Tryz.func65, Tryz.ntmps65
        go_wp2_with fail
        go_ret
        exact ⟨rfl, Grew.refl _⟩
      | false =>
        have hr : rdx 8 y = (y == 7) := by simp [rdx, h6]
        rw [hr]
        go_enter Tryz.func65, Tryz.ntmps65
        go_wp2_with fail
        go_ret
        exact ⟨by simp, Grew.refl _⟩
    · have hr : rdx x y = false := by simp [rdx, n2, n4, n5, n8]
      rw [hr]
      go_enter Tryz.func65, Tryz.ntmps65
      go_wp2_with fail
      go_ret
      exact ⟨rfl, Grew.refl _⟩
  · rw [decide_eq_false hl, Bool.false_and]
    have hge : xs.length ≤ i + 1 := by omega
    clear hf h
    generalize xs.length = n at *
    go_enter Tryz.func65, Tryz.ntmps65
    go_wp2_with fail
    go_ret
    exact ⟨rfl, Grew.refl _⟩

theorem redexes_c (v : Value) (xs : List Tn) (w : World) (h : Tms w v xs) (hn : xs.length ≤ 1048576) :
    Calls Tryz.prog 80 #[v] w (GivesI w (redL xs xs.length)) := by
  have HR := Lib.hid (fun i (hi : i < xs.length) W (hW : Grew w W) => isRedex_c v xs i W (h.grew hW) hi hn)
  have HL := Lib.hid (redL_len xs)
  obtain ⟨A, c, rfl⟩ := tms_slice h
  clear h
  generalize hN : xs.length = n at *
  go_enter Tryz.func80, Tryz.ntmps80
  go_wp2_with fail
  go_loopw [3, 4, 7] (fun vv _ i wr => ∃ j : Nat, j ≤ n ∧ i = .int .i64 j ∧ OwnI wr w.heap.size vv (redL xs j) ∧ Grew w wr) (fun _ _ i _ => n - (intOf i).toNat)
  case atStart => exact ⟨0, Nat.zero_le _, rfl, OwnI.nil_ _ _, Grew.refl _⟩
  case round =>
    obtain ⟨j, hj, rfl, hO, hB⟩ := hrel
    by_cases hlt : j < n
    · have hR := Lib.hid (HR.out j hlt)
      have hl := HL.out j
      have hstep : redL xs (j + 1) = if rdxAt xs j then redL xs j ++ [(j : Int)] else redL xs j := rfl
      have HSt := Lib.hid hstep
      clear hstep
      generalize redL xs j = L at *
      cases hq : rdxAt xs j with
      | true =>
        rw [hq] at hR
        have hv := Lib.hid (HSt.out.trans (by rw [hq]; rfl : (if rdxAt xs j then L ++ [(j : Int)] else L) = L ++ [(j : Int)]))
        go_wp2_with fail
        refine (hR.out _ hB).mono ?_
        rintro e w1 ⟨rfl, hg1⟩
        have hB1 := hB.trans hg1
        have hO1 := hO.grew (hg1.trans ((Grew.refl w1).alloc (.cells #[.int .i64 (j : Int)] 2)))
        go_wp2_with (first | (at_builtin; refine wpList_appI (w0 := w) _ _ rfl rfl _ L rfl hO1 (hB1.alloc _) _ (j : Int) rfl (rd_litI _ _ _) (by omega) ?_; intro v2 w2 hown2 hg2 _))
        go_roundw
        case rel => exact ⟨j + 1, by omega, by go_num, by rw [hv.out]; exact hown2, hg2⟩
        case measure => simp [intOf]; omega
      | false =>
        rw [hq] at hR
        have hv := Lib.hid (HSt.out.trans (by rw [hq]; rfl : (if rdxAt xs j then L ++ [(j : Int)] else L) = L))
        go_wp2_with fail
        refine (hR.out _ hB).mono ?_
        rintro e w1 ⟨rfl, hg1⟩
        go_wp2_with fail
        go_roundw
        case rel => exact ⟨j + 1, by omega, by go_num, by rw [hv.out]; exact hO.grew hg1, hB.trans hg1⟩
        case measure => simp [intOf]; omega
    · obtain rfl : j = n := by omega
      go_wp2_with fail
      go_ret
      exact ⟨_, rfl, hO, hB⟩

theorem l26Redex_c (v : Value) (xs : List Tn) (i : Nat) (b o c : Nat) (w : World) (h : Tms w (.slice (some ⟨b, o, none⟩) xs.length c) xs) (hc : xs.length ≤ c) (hm : c ≤ 9223372036854775807) (hi : i < xs.length) (hn : xs.length ≤ 1048576)
    (hv : v = .slice (some ⟨b, o + i * 3, none⟩) (xs.length - i) (c - i)) :
    Calls Tryz.prog 62 #[v] w fun e w' => e = .returned (.bool (rdxAt xs i)) ∧ Grew w w' := by
  subst hv
  have hsub := h.sub i (xs.length - i) (c - i) (by omega) (by omega) (by omega)
  have hlen : ((xs.drop i).take (xs.length - i)).length = xs.length - i := by simp
  rcases h.open_ with ⟨h0, _⟩ | ⟨b', o', c', hv, hc', hm', hb, hf⟩
  · cases h0
  obtain ⟨⟨rfl, rfl⟩, _⟩ : (b = b' ∧ o = o') ∧ c = c' := by simpa using hv
  unfold rdxAt
  by_cases hl : i + 1 < xs.length
  · rw [decide_eq_true hl, Bool.true_and]
    have k1 : w.cell? ⟨b, o + i * 3, none⟩ = some (.int .i64 (tk xs i)) := (hf i hi _ (Grew.refl w)).1
    have k2 : w.cell? ⟨b, o + i * 3 + 3, none⟩ = some (.int .i64 (tk xs (i + 1))) := by
      have := (hf (i + 1) hl _ (Grew.refl w)).1
      rwa [show o + (i + 1) * 3 = o + i * 3 + 3 by omega] at this
    clear hf h hsub hlen hv hc'
    generalize tk xs i = x at *
    generalize tk xs (i + 1) = y at *
    generalize o + i * 3 = oo at *
    obtain ⟨m, hm2⟩ : ∃ m, xs.length - i = m + 2 := ⟨xs.length - i - 2, by omega⟩
    rw [hm2]
    have hmb : m ≤ 1048576 := by omega
    have hcm : m + 2 ≤ c - i := by omega
    have hcm2 : c - i ≤ 9223372036854775807 := by omega
    generalize c - i = cc at *
    clear hm2 hl hi hc hm
    rcases rdx_kinds x with rfl | rfl | rfl | rfl | ⟨n2, n4, n5, n8⟩
    · go_enter Tryz.func62, Tryz.ntmps62
      go_wp2_with fail
      go_ret
      exact ⟨rfl, Grew.refl _⟩
    · go_enter Tryz.func62, Tryz.ntmps62
      go_wp2_with fail
      go_ret
      exact ⟨rfl, Grew.refl _⟩
    · go_enter Tryz.func62, Tryz.ntmps62
      go_wp2_with fail
      go_ret
      exact ⟨rfl, Grew.refl _⟩
    · cases h6 : (y == 6) with
      | true =>
        have hr : rdx 8 y = true := by simp [rdx, h6]
        rw [hr]
        go_enter Tryz.func62, Tryz.ntmps62
        go_wp2_with fail
        go_ret
        exact ⟨rfl, Grew.refl _⟩
      | false =>
        have hr : rdx 8 y = (y == 7) := by simp [rdx, h6]
        rw [hr]
        go_enter Tryz.func62, Tryz.ntmps62
        go_wp2_with fail
        go_ret
        exact ⟨by simp, Grew.refl _⟩
    · have hr : rdx x y = false := by simp [rdx, n2, n4, n5, n8]
      rw [hr]
      go_enter Tryz.func62, Tryz.ntmps62
      go_wp2_with fail
      go_ret
      exact ⟨rfl, Grew.refl _⟩
  · rw [decide_eq_false hl, Bool.false_and]
    have h1 : xs.length - i = 1 := by omega
    rw [h1]
    clear hf h hsub hlen hv
    generalize o + i * 3 = oo at *
    generalize c - i = cc at *
    go_enter Tryz.func62, Tryz.ntmps62
    go_wp2_with fail
    go_ret
    exact ⟨rfl, Grew.refl _⟩

theorem l26Redexes_c (v : Value) (xs : List Tn) (w : World) (h : Tms w v xs) (hn : xs.length ≤ 1048576) :
    Calls Tryz.prog 81 #[v] w (GivesI w (redL xs xs.length)) := by
  have HL := Lib.hid (redL_len xs)
  rcases h.open_ with ⟨rfl, rfl⟩ | ⟨b, o, c, rfl, hc, hm, hb, hf⟩
  · clear h
    go_enter Tryz.func81, Tryz.ntmps81
    go_wp2_with fail
    refine wp_loop_rounds 1 ?_; rw [rounds_succ]
    go_wp2_with fail
    go_ret
    exact ⟨_, rfl, own_emptyI w, (Grew.refl w).alloc _⟩
  have HR := Lib.hid (fun i (hi : i < xs.length) u W (hW : Grew w W) hu => l26Redex_c u xs i b o c W (h.grew hW) hc hm hi hn hu)
  clear h hf
  generalize hN : xs.length = n at *
  go_enter Tryz.func81, Tryz.ntmps81
  go_wp2_with fail
  go_loopw [3, 4] (fun vv i wr => ∃ j : Nat, j ≤ n ∧ i = .int .i64 j ∧ OwnI wr w.heap.size vv (redL xs j) ∧ Grew w wr) (fun _ i _ => n - (intOf i).toNat)
  case atStart => exact ⟨0, Nat.zero_le _, rfl, own_emptyI w, (Grew.refl w).alloc _⟩
  case round =>
    obtain ⟨j, hj, rfl, hO, hB⟩ := hrel
    by_cases hlt : j < n
    · have hR := Lib.hid (HR.out j hlt)
      have hl := HL.out j
      have hstep : redL xs (j + 1) = if rdxAt xs j then redL xs j ++ [(j : Int)] else redL xs j := rfl
      have HSt := Lib.hid hstep
      clear hstep
      have hcj : ¬ c = j := by omega
      generalize redL xs j = L at *
      cases hq : rdxAt xs j with
      | true =>
        rw [hq] at hR
        have hv := Lib.hid (HSt.out.trans (by rw [hq]; rfl : (if rdxAt xs j then L ++ [(j : Int)] else L) = L ++ [(j : Int)]))
        go_wp2_with fail
        refine (hR.out _ _ hB rfl).mono ?_
        rintro e w1 ⟨rfl, hg1⟩
        have hB1 := hB.trans hg1
        have hO1 := hO.grew (hg1.trans ((Grew.refl w1).alloc (.cells #[.int .i64 (j : Int)] 2)))
        go_wp2_with (first | (at_builtin; refine wpList_appI (w0 := w) _ _ rfl rfl _ L rfl hO1 (hB1.alloc _) _ (j : Int) rfl (rd_litI _ _ _) (by omega) ?_; intro v2 w2 hown2 hg2 _))
        go_roundw
        case rel => exact ⟨j + 1, by omega, by go_num, by rw [hv.out]; exact hown2, hg2⟩
        case measure => simp [intOf]; omega
      | false =>
        rw [hq] at hR
        have hv := Lib.hid (HSt.out.trans (by rw [hq]; rfl : (if rdxAt xs j then L ++ [(j : Int)] else L) = L))
        go_wp2_with fail
        refine (hR.out _ _ hB rfl).mono ?_
        rintro e w1 ⟨rfl, hg1⟩
        go_wp2_with fail
        go_roundw
        case rel => exact ⟨j + 1, by omega, by go_num, by rw [hv.out]; exact hO.grew hg1, hB.trans hg1⟩
        case measure => simp [intOf]; omega
    · obtain rfl : j = n := by omega
      go_wp2_with fail
      go_ret
      exact ⟨_, rfl, hO, hB⟩

/-- What RedexesOf gives. -/
noncomputable def redF (xs : List Tn) : List Int × Int := if tmB xs then (redL xs xs.length, 0) else ([], 1)
theorem redF_len (xs : List Tn) (hn : xs.length ≤ 1048576) : (redF xs).1.length ≤ 1048576 := by
  unfold redF
  split
  · have := redL_len xs xs.length; simp; omega
  · simp
def GivesI2 (w : World) (r : List Int × Int) (e : Ending) (w' : World) : Prop := ∃ v, e = .returned (.tuple #[v, .int .i64 r.2]) ∧ OwnI w' w.heap.size v r.1 ∧ Grew w w'

theorem implRed_c (v : Value) (xs : List Tn) (w : World) (h : Tms w v xs) (hfit : FitsT xs) (hn : xs.length ≤ 1048576) :
    Calls Tryz.prog 40 #[v] w (GivesI2 w (redF xs)) := by
  have HI := fun W (hW : Grew w W) => isTerm_c v xs W (h.grew hW) hfit hn
  have HR := fun W (hW : Grew w W) => redexes_c v xs W (h.grew hW) hn
  unfold GivesI2 redF
  obtain ⟨A, c, rfl⟩ := tms_slice h
  cases hb : tmB xs with
  | false =>
    rw [hb] at HI
    rw [if_neg (by simp)]
    replace HI := Lib.hid HI
    replace HR := Lib.hid HR
    clear h hfit hb
    generalize xs.length = n at *
    go_enter Tryz.func40, Tryz.ntmps40
    go_wp2_with fail
    refine (HI.out _ (Grew.refl _)).mono ?_
    rintro e w1 ⟨rfl, hg1⟩
    go_wp2_with fail
    go_ret2
    exact ⟨.slice none 0 0, rfl, OwnI.nil_ _ _, hg1⟩
  | true =>
    rw [hb] at HI
    rw [if_pos rfl]
    replace HI := Lib.hid HI
    clear h hfit hb
    generalize redL xs xs.length = L at *
    replace HR := Lib.hid HR
    generalize xs.length = n at *
    go_enter Tryz.func40, Tryz.ntmps40
    go_wp2_with fail
    refine (HI.out _ (Grew.refl _)).mono ?_
    rintro e w1 ⟨rfl, hg1⟩
    go_wp2_with fail
    refine (HR.out _ hg1).mono ?_
    rintro e w2 ⟨u, rfl, ho, hg2⟩
    go_wp2_with fail
    go_ret2
    exact ⟨_, rfl, ho.base hg1.size, hg1.trans hg2⟩

theorem specRed_c (v : Value) (xs : List Tn) (w : World) (h : Tms w v xs) (hfit : FitsT xs) (hn : xs.length ≤ 1048576) :
    Calls Tryz.prog 41 #[v] w (GivesI2 w (redF xs)) := by
  have HI := fun W (hW : Grew w W) => l26Is_c v xs W (h.grew hW) hfit hn
  have HR := fun W (hW : Grew w W) => l26Redexes_c v xs W (h.grew hW) hn
  unfold GivesI2 redF
  obtain ⟨A, c, rfl⟩ := tms_slice h
  cases hb : tmB xs with
  | false =>
    rw [hb] at HI
    rw [if_neg (by simp)]
    replace HI := Lib.hid HI
    replace HR := Lib.hid HR
    clear h hfit hb
    generalize xs.length = n at *
    go_enter Tryz.func41, Tryz.ntmps41
    go_wp2_with fail
    refine (HI.out _ (Grew.refl _)).mono ?_
    rintro e w1 ⟨rfl, hg1⟩
    go_wp2_with fail
    go_ret2
    exact ⟨.slice none 0 0, rfl, OwnI.nil_ _ _, hg1⟩
  | true =>
    rw [hb] at HI
    rw [if_pos rfl]
    replace HI := Lib.hid HI
    clear h hfit hb
    generalize redL xs xs.length = L at *
    replace HR := Lib.hid HR
    generalize xs.length = n at *
    go_enter Tryz.func41, Tryz.ntmps41
    go_wp2_with fail
    refine (HI.out _ (Grew.refl _)).mono ?_
    rintro e w1 ⟨rfl, hg1⟩
    go_wp2_with fail
    refine (HR.out _ hg1).mono ?_
    rintro e w2 ⟨u, rfl, ho, hg2⟩
    go_wp2_with fail
    go_ret2
    exact ⟨_, rfl, ho.base hg1.size, hg1.trans hg2⟩
end Go.Proofs.YthofkdpmgjkgkaaGreat
