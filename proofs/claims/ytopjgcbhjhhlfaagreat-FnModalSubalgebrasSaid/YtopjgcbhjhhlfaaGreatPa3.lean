/- Texts in one file: AlJ StpR MbN AlK AlL AlT AlX AlY AlZ AmA AmB MbMl MbL MnT Src Draw NdTl Own. -/
import Derived.Deep.RegionHeld3
import Derived.Deep.RegionLaw
import Derived.Deep.QuietTactic
import Derived.BigQuiet
import Derived.WalkLawsBesides
import Derived.Outline
import Derived.Conc.WgArith
import Derived.Laws.Bits64
import Derived.Test.YtopjgcbhjhhlfaaGreatPa1
import Derived.Test.YtopjgcbhjhhlfaaGreatPa2
set_option linter.all false

/- The program's minimalAtoms; the exact place of a number (slices.Index). -/
namespace Go.Proofs.YtopjgcbhjhhlfaaGreat
open Go.RowKit

def minT (x : Nat) (y : Nat) : Bool := (y != 0) && ((y != x) && decide (dif y x = 0))
theorem min1_c (x y b : Nat) (w : World) (hx : x < 1073741824) (hy : y < 1073741824) (k : w.cell? ⟨b, 0, none⟩ = some (.int .i64 (x : Int))) :
    Calls Tryz.prog 59 #[.int .i64 (y : Int), .pointer (some ⟨b, 0, none⟩)] w fun e w' => e = .returned (.bool (minT x y)) ∧ Grew w w' := by
  have HW := Lib.hid (within_c y x (by omega) (by omega))
  unfold minT
  by_cases h0 : y = 0
  · subst h0
    show Calls Tryz.prog 59 #[.int .i64 0, .pointer (some ⟨b, 0, none⟩)] w fun e w' => e = .returned (.bool false) ∧ Grew w w'
    clear HW
    go_enter Tryz.func59, Tryz.ntmps59
    go_wp2_with fail
    go_ret
    exact ⟨rfl, Grew.refl _⟩
  · have hb : (y != 0) = true := by simpa using h0
    rw [hb, Bool.true_and]
    have hi : ((y : Int) = 0) = False := by simpa using h0
    by_cases h1 : y = x
    · subst h1
      have hb : (y != y) = false := by simp
      rw [hb, Bool.false_and]
      clear HW
      go_enter Tryz.func59, Tryz.ntmps59
      go_wp2_with fail
      go_ret
      exact ⟨rfl, Grew.refl _⟩
    · have hb : (y != x) = true := by simpa using h1
      rw [hb, Bool.true_and]
      have hi2 : ((y : Int) = (x : Int)) = False := by simpa using (show ¬ (y : Int) = (x : Int) by omega)
      clear hb
      generalize decide (dif y x = 0) = R at *
      go_enter Tryz.func59, Tryz.ntmps59
      go_wp2_with fail
      refine (HW.out _).mono ?_
      rintro e w2 ⟨rfl, hg2⟩
      go_wp2_with fail
      go_ret
      refine ⟨?_, hg2⟩
      have b1 : ((y : Int) != 0) = true := by simpa using h0
      have b2 : ((y : Int) != (x : Int)) = true := by simpa using (show ¬ (y : Int) = (x : Int) by omega)
      show Ending.returned (Value.bool (((y : Int) != 0) && ((y : Int) != (x : Int)) && R)) = _
      rw [b1, b2]
      rfl
theorem minB_eq (E : List Nat) (x : Nat) : minB E x = ((x != 0) && !(E.any (minT x))) := rfl
theorem any_zs (E : List Nat) (p : Nat → Bool) : (zs E).any (fun s => p s.toNat) = E.any p := by
  unfold zs
  rw [List.any_map]
  rfl
theorem filt_yes {E : List Nat} {p : Nat → Bool} {j : Nat} (hj : j < E.length) (h : p (nt E j) = true) : (E.take (j + 1)).filter p = (E.take j).filter p ++ [nt E j] := by
  have e : nt E j = E[j] := by simp [nt, List.getD, hj]
  rw [List.take_succ_eq_append_getElem hj, List.filter_append, ← e]
  simp [h]
theorem filt_no {E : List Nat} {p : Nat → Bool} {j : Nat} (hj : j < E.length) (h : p (nt E j) = false) : (E.take (j + 1)).filter p = (E.take j).filter p := by
  have e : nt E j = E[j] := by simp [nt, List.getD, hj]
  rw [List.take_succ_eq_append_getElem hj, List.filter_append, ← e]
  simp [h]
set_option maxHeartbeats 2000000 in
set_option maxRecDepth 20000 in
theorem minimalAtoms_c (u : Value) (E : List Nat) (w : World) (hu : Ints w u (zs E)) (hE : ∀ e ∈ E, e < 1073741824) (hl : E.length ≤ 1000) :
    Calls Tryz.prog 28 #[u] w fun e w' => ∃ r, e = .returned r ∧ OwnI w' w.heap.size r (zs (ats E)) ∧ Grew w w' := by
  have eg := enters_of Tryz.func59 (by kernel_rfl) rfl
  have HC := Lib.hid (fun (x b : Nat) W (hx : x < 1073741824) (hW : Grew w W) (k : W.cell? ⟨b, 0, none⟩ = some (.int .i64 (x : Int))) => show Calls Tryz.prog 53 #[u, .func (.func 59) #[] #[.pointer (some ⟨b, 0, none⟩)]] W fun e w' => e = .returned (.bool (E.any (minT x))) ∧ Grew W w' from by
    have := containsFuncI_c u (zs E) _ #[.pointer (some ⟨b, 0, none⟩)] (fun s => minT x s.toNat) W (hu.grew hW) (fun s W2 hs hW2 => by
      obtain ⟨y, hy, rfl⟩ := List.mem_map.1 hs
      exact min1_c x y b W2 hx (hE y hy) ((hW2.cell (p := ⟨b, 0, none⟩) (cell_lt9 k)).trans k)) eg
    rwa [any_zs] at this)
  have HX := Lib.hid (fun k (hk : k < E.length) => hE _ (nt_mem (L := E) hk))
  have HA := Lib.hid (show (E.take E.length).filter (minB E) = ats E by rw [List.take_length]; rfl)
  have HM := Lib.hid (minB_eq E)
  have HY := Lib.hid (fun j (hj : j < E.length) h => filt_yes (p := minB E) hj h)
  have HN := Lib.hid (fun j (hj : j < E.length) h => filt_no (p := minB E) hj h)
  have HL := Lib.hid (fun j => show ((E.take j).filter (minB E)).length ≤ E.length from Nat.le_trans (List.length_filter_le _ _) (by rw [List.length_take]; omega))
  obtain ⟨A2, c2, rfl⟩ := ints_slice hu
  have HUX := Lib.hid (fun k (hk : k < E.length) => show ∃ bu ou, A2 = some ⟨bu, ou, none⟩ ∧ ∀ W, Grew w W → W.cell? ⟨bu, ou + k, none⟩ = some (.int .i64 ((nt E k : Nat) : Int)) from by
    rcases hu.open_ with ⟨_, hnil⟩ | ⟨bu, ou, cu, hu2, hcu, hmu, hbu, hfu⟩
    · rw [← List.length_eq_zero_iff, zs_len] at hnil; omega
    rw [zs_len] at hfu
    simp only [Value.slice.injEq] at hu2
    exact ⟨bu, ou, hu2.1, fun W hW => by rw [hfu k hk W hW, zs_it hk]⟩)
  rw [zs_len] at *
  clear hu hE eg
  generalize minB E = mB at *
  generalize hm : E.length = m at *
  go_enter Tryz.func28, Tryz.ntmps28
  go_wp2_with fail
  go_loopw [3, 8] (fun s i wr => ∃ (j : Nat), j ≤ m ∧ i = .int .i64 j ∧ Grew w wr ∧ OwnI wr w.heap.size s (zs ((E.take j).filter mB))) (fun _ i _ => m - (intOf i).toNat)
  case atStart => exact ⟨0, by omega, rfl, Grew.refl _, OwnI.nil_ _ _⟩
  case round =>
    obtain ⟨j, hj, rfl, hB, hO⟩ := hrel
    by_cases hlt : j < m
    · obtain ⟨bu, ou, rfl, hcu⟩ := HUX.out j hlt
      have k1 := hcu _ hB
      have hxs := HX.out j hlt
      have hmx := HM.out (nt E j)
      have HYJ := Lib.hid (HY.out j hlt)
      have HNJ := Lib.hid (HN.out j hlt)
      have hlj := HL.out j
      have HO := Lib.hid hO
      generalize hK1 : (E.take (j + 1)).filter mB = K1 at *
      generalize (E.take j).filter mB = K0 at *
      generalize nt E j = x at *
      have HCX := Lib.hid (fun b W => HC.out x b W hxs)
      generalize E.any (minT x) = R at *
      generalize hr : mB x = Q at *
      clear hcu hO HUX HL HC HX HY HN
      by_cases h0 : x = 0
      · subst h0
        obtain rfl : Q = false := by rw [hmx]; rfl
        have hK := HNJ.out rfl
        clear hmx HYJ HNJ HCX
        go_wp2_with fail
        go_roundw
        case rel => exact ⟨j + 1, by omega, by go_num, hB.alloc _, by rw [hK1, hK]; exact HO.out.grew ((Grew.refl _).alloc _)⟩
        case measure => simp [intOf]; omega
      · have hi : ((x : Int) = 0) = False := by simpa using h0
        have hb : (x != 0) = true := by simpa using h0
        rw [hb, Bool.true_and] at hmx
        have hb1 := hB.alloc (.cells #[.int .i64 (x : Int)] 2)
        have HO1 := Lib.hid (HO.out.grew ((Grew.refl wr).alloc (.cells #[.int .i64 (x : Int)] 2)))
        have hk1 : (wr.alloc (.cells #[.int .i64 (x : Int)] 2)).cell? ⟨wr.heap.size, 0, none⟩ = some (.int .i64 (x : Int)) := by simp
        have HK := Lib.hid (HCX.out wr.heap.size _ hb1 hk1)
        have HB1 := Lib.hid hb1
        have HC1 := Lib.hid (fun W (hW : Grew (wr.alloc (.cells #[.int .i64 (x : Int)] 2)) W) => (hW.cell (p := ⟨wr.heap.size, 0, none⟩) (by simp)).trans hk1)
        clear hb HO HCX hb1 hk1
        go_wp2_with fail
        refine HK.out.mono ?_
        rintro e w2 ⟨rfl, hg2⟩
        have q0 := HC1.out w2 hg2
        have hB2 := HB1.out.trans hg2
        have HO2 := Lib.hid (HO1.out.grew hg2)
        clear HO1 HB1 HC1 HK
        cases R with
        | true =>
          obtain rfl : Q = false := hmx
          have hK := HNJ.out rfl
          go_wp2_with fail
          go_roundw
          case rel => exact ⟨j + 1, by omega, by go_num, hB2, by rw [hK1, hK]; exact HO2.out⟩
          case measure => simp [intOf]; omega
        | false =>
          obtain rfl : Q = true := hmx
          have hK := HYJ.out rfl
          go_wp2_with (first | (at_builtin; refine wpList_appI (w0 := w) _ _ rfl rfl _ (zs K0) rfl (HO2.out.grew (Grew.alloc (Grew.refl _) _)) (hB2.alloc _) _ (x : Int) rfl (rd_litI _ _ _) (by rw [zs_len]; omega) ?_; intro v3 w3 hO3 hg3 _))
          go_roundw
          case rel => exact ⟨j + 1, by omega, by go_num, hg3, by rw [hK1, hK, zs_snoc]; exact hO3⟩
          case measure => simp [intOf]; omega
    · obtain rfl : j = m := by omega
      have hA := HA.out
      rw [hA] at hO
      have HO := Lib.hid hO
      clear hO
      go_wp2_with fail
      go_ret
      exact ⟨_, rfl, HO.out, hB⟩
theorem indexX_c (v : Value) (L : List Int) (x : Int) (k : Nat) (w : World) (h : Ints w v L) (hk : k < L.length) (hx : it L k = x) (hne : ∀ j, j < k → it L j ≠ x) :
    Calls Tryz.prog 32 #[v, .int .i64 x] w fun e w' => e = .returned (.int .i64 (k : Int)) ∧ Grew w w' := by
  rcases h.open_ with ⟨rfl, rfl⟩ | ⟨b, o, c, rfl, hc, hm, hb, hcell⟩
  · simp at hk
  · have HY := Lib.hid (fun i (hi : i ≤ k) (he : it L i = x) => show i = k from by
      rcases Nat.lt_or_ge i k with h1 | h1
      · exact absurd he (hne i h1)
      · omega)
    have HZ := Lib.hid (show it L k = x from hx)
    have HC := Lib.hid hcell
    clear h hcell hx hne
    generalize hN : L.length = n at *
    clear hN
    go_enter Tryz.func32, Tryz.ntmps32
    go_wp2_with fail
    go_loopw [5, 8] (fun _ i wr => ∃ j : Nat, j ≤ k ∧ i = .int .i64 j ∧ Grew w wr) (fun _ i _ => n - (intOf i).toNat)
    case atStart => exact ⟨0, Nat.zero_le _, rfl, Grew.refl _⟩
    case round =>
      obtain ⟨j, hj, rfl, hB⟩ := hrel
      have k1 := HC.out j (by omega) _ hB
      have hlt : j < n := by omega
      have hY := Lib.hid (HY.out j hj)
      have hZ := Lib.hid (fun (e : j = k) => show it L j = x from e ▸ HZ.out)
      generalize it L j = y at *
      by_cases hy : y = x
      · have hv := hY.out hy
        subst hy
        subst hv
        go_wp2_with fail
        go_ret
        exact ⟨rfl, hB⟩
      · have hq : (x == y) = false := by simpa using fun h : x = y => hy h.symm
        have hjk : j ≠ k := fun e => hy (hZ.out e)
        clear hy
        go_wp2_with fail
        go_roundw
        case rel => exact ⟨j + 1, by omega, by go_num, hB⟩
        case measure => simp [intOf]; omega
end Go.Proofs.YtopjgcbhjhhlfaaGreat


/- An append as one step of a region that draws its order. -/
namespace Go.Proofs.YtopjgcbhjhhlfaaGreat
open Go.RowKit

theorem step_apprd {P : Program} (w : World) {ops : Array Oper} {o : Oper} {a : Act} {K : Act → World → Prop} {Q : Exit → Act → World → Prop} {E : Prop} (hgd : o.guard = none) (s x : Operand) (t : TypeId)
    (ho : o.op = .call { callee := .builtin .append, args := #[s, x], argTypes := #[t, t] })
    (base : Nat) (e : TypeId) (i : TypeInfo) (z : Value) (size bytes : Nat) (ht : P.underlying t = some (.slice e)) (hi : P.info? e = some i) (hz : i.zero = some z)
    (hsize : i.size = size) (hby : i.bytes = bytes) (hzs : z.cells.size = size) (hsz : 0 < size)
    (v : Value) (n : Nat) (xs : List Value) (hs : a.eval s = v) (hown : w.ownsRow base e size v n xs)
    (vx : Value) (m : Nat) (news : List Value) (hx : a.eval x = vx) (hr : Rd w size vx m news) (h1 : ∀ u ∈ news, u.oneCell' = true)
    (h63 : n + m ≤ maxLen) (hbytes : (n + m) * bytes ≤ 140737488355328) (hbase : base ≤ w.heap.size)
    (h : ∀ v' w', w'.ownsRow base e size v' (n + m) (xs ++ news) → w.grownBy w' v.ownBlock → K (a.put o.dst v') w') :
    if Region.wanted o (yielded ops a.tmps) = true then Oper.wp P o a w K Q else E := by
  have hw : Region.wanted o (yielded ops a.tmps) = true := by simp [Region.wanted, hgd]
  rw [if_pos hw]
  obtain ⟨hl, _, hr⟩ := hr
  rcases hr with ⟨rfl, rfl⟩ | ⟨b, of, c, rfl, _, _, _, hc⟩
  · have hnews : news = [] := List.eq_nil_of_length_eq_zero (by simpa using hl)
    subst hnews
    have hrun := run_append_owned_none (P := P) w base t o.type e i size ht hi v n xs hown
    unfold Oper.wp execOp
    simp only [ho, resolve, invoke, builtin, Sem.run_bind, Sem.run_pure, Result.andThen_ok, List.map_toArray, List.map_cons, List.map_nil, hs, hx, hrun]
    exact h v w (by simpa using hown) (World.grownBy.refl _ _)
  · obtain ⟨v', w', hrun, h2, h3, _, _⟩ := run_append_own_at (P := P) w base t o.type e i z size bytes ht hi hz hsize hby hzs hsz v n xs hown ⟨b, of, none⟩ m c news hl (fun j u hu => by rw [Addr.add_lit]; exact hc j u hu) h1 h63 hbytes hbase
    unfold Oper.wp execOp
    simp only [ho, resolve, invoke, builtin, Sem.run_bind, Sem.run_pure, Result.andThen_ok, List.map_toArray, List.map_cons, List.map_nil, hs, hx, hrun]
    exact h v' w' h2 h3

end Go.Proofs.YtopjgcbhjhhlfaaGreat


/- A result that is a struct in a cell and two slots; what CutDown gives. -/
namespace Go.Proofs.YtopjgcbhjhhlfaaGreat
open Go.RowKit

theorem results_cell_tmp2_row {P : Program} {fn : Func} {p u v : Tmp} {ty : TypeId} (h : fn.results = #[.cell p ty, .tmp u, .tmp v]) (tmps : Array Value) (w : World) (g : Nat) (t : TypeId) (cs : Array Value) (fr : Nat × Nat) (d : TypeDesc)
    (hp : tmps.getD p undef = .pointer (some ⟨g, 0, none⟩)) (hg : w.heap[g]? = some (.cells cs t fr))
    (hu : P.underlying ty = some d) (hd : (match d with | .struct _ | .array _ _ => true | _ => false) = true) (hi : (P.info? ty).map (·.size) = some cs.size) :
    (results fn tmps).run P w = .ok (.tuple #[.agg cs, tmps.getD u undef, tmps.getD v undef]) w := by
  have hp' : tmps[p]?.getD undef = .pointer (some ⟨g, 0, none⟩) := by simpa using hp
  simp [results, h, hp', asAddr, run_loadVar_row w g t ty cs fr d hg hu hd hi]

end Go.Proofs.YtopjgcbhjhhlfaaGreat


/- ModalSubalgebra of the program. -/
namespace Go.Proofs.YtopjgcbhjhhlfaaGreat
open Go.RowKit

theorem step_appI9 {ops : Array Oper} {o : Oper} {a : Act} {K : Act → World → Prop} {Q : Exit → Act → World → Prop} {E : Prop} {w : World} (B : Nat) (hgd : o.guard = none) (s x : Operand)
    (ho : o.op = .call { callee := .builtin .append, args := #[s, x], argTypes := #[24, 24] })
    (v : Value) (L : List Int) (hs : a.eval s = v) (hown : OwnI w B v L) (hB : B ≤ w.heap.size) (vx : Value) (k : Int) (hx : a.eval x = vx) (hr : Rd w 1 vx 1 [.int .i64 k]) (hn : L.length ≤ 1048576)
    (h : ∀ v' w', OwnI w' B v' (L ++ [k]) → w.grownBy w' v.ownBlock → K (a.put o.dst v') w') : if Region.wanted o (yielded ops a.tmps) = true then Oper.wp Tryz.prog o a w K Q else E := by
  obtain ⟨i0, hi0, hz0, hz1, hz2⟩ := info_parts Tryz.infoI
  refine step_apprd w hgd s x _ ho B 2 i0 _ 1 8 Tryz.underlying24 hi0 hz0 hz1 hz2 rfl (by omega) v L.length (icells L) hs hown vx 1 [.int .i64 k] hx hr (by simp [Value.oneCell']) (by unfold maxLen; omega) (by omega) hB ?_
  intro v' w' h1 h2
  refine h v' w' ?_ h2
  unfold OwnI
  rw [List.length_append, icells_append]
  exact h1
theorem equalI_c (v1 v2 : Value) (xs ys : List Int) (w : World) (h1 : Ints w v1 xs) (h2 : Ints w v2 ys) :
    Calls Tryz.prog 26 #[v1, v2] w fun e w' => e = .returned (.bool (decide (xs = ys))) ∧ Grew w w' := by
  by_cases hl : xs.length = ys.length
  · exact equalR_c v1 v2 xs ys w h1 h2 hl
  · have hd : decide (xs = ys) = false := decide_eq_false (fun h => hl (by rw [h]))
    rw [hd]
    obtain ⟨A1, c1, rfl⟩ := ints_slice h1
    obtain ⟨A2, c2, rfl⟩ := ints_slice h2
    have hi : ((xs.length : Int) = (ys.length : Int)) = False := by simpa using (show ¬ (xs.length : Int) = (ys.length : Int) by omega)
    clear h1 h2 hd
    generalize xs.length = a at *
    generalize ys.length = b at *
    go_enter Tryz.func26, Tryz.ntmps26
    go_wp2_with fail
    go_ret
    exact ⟨rfl, Grew.refl _⟩
open Classical in
noncomputable def subF (n : Int) (L X : List Int) : Int × List Int × List Int × Int :=
  if algB n L && mks n.toNat X then (if zs (genL n.toNat (nats L) (nats X)) = X then (((ats (nats X)).length : Int), zs (sBx (nats L) (nats X)), zs (stds (nats X)), 0) else (0, [], [], 5)) else (0, [], [], 1)
def GivesSub (w : World) (r : Int × List Int × List Int × Int) (e : Ending) (w' : World) : Prop :=
  ∃ v u, e = .returned (.tuple #[.agg #[.int .i64 r.1, v], u, .int .i64 r.2.2.2]) ∧ Ints w' v r.2.1 ∧ Ints w' u r.2.2.1 ∧ Grew w w'
theorem subF_bad {n : Int} {L X : List Int} (h : (algB n L && mks n.toNat X) = false) : subF n L X = (0, [], [], 1) := by unfold subF; rw [h]; rfl
theorem subF_five {n : Int} {L X : List Int} (h : (algB n L && mks n.toNat X) = true) (h2 : ¬ zs (genL n.toNat (nats L) (nats X)) = X) : subF n L X = (0, [], [], 5) := by unfold subF; rw [if_pos h, if_neg h2]
theorem subF_yes {n : Int} {L X : List Int} (h : (algB n L && mks n.toNat X) = true) (h2 : zs (genL n.toNat (nats L) (nats X)) = X) : subF n L X = (((ats (nats X)).length : Int), zs (sBx (nats L) (nats X)), zs (stds (nats X)), 0) := by unfold subF; rw [if_pos h, if_pos h2]
theorem take_zs1 {A : List Nat} {j : Nat} (h : j < A.length) : A.take (j + 1) = A.take j ++ [nt A j] := by
  rw [List.take_succ_eq_append_getElem h]
  simp [nt, List.getD, h]
def BxS (w6 : World) (k H7 Hl : Nat) (vS : Value) (S SB : List Nat) (j : Nat) (wr : World) : Prop :=
  ∃ AB cB, wr.heap[w6.heap.size]? = some (.cells #[.int .i64 (k : Int), .slice AB j cB] 26 (0, 0)) ∧ OwnI wr Hl (.slice AB j cB) (zs (SB.take j)) ∧ OwnI wr H7 vS (zs S) ∧ Grew w6 wr ∧ Hl ≤ wr.heap.size
theorem BxS.step {w6 W : World} {k H7 Hl j ix n5 c5 cB : Nat} {vS : Value} {S SB KB : List Nat} {AB A5 : Option Addr} (hb : W.heap[w6.heap.size]? = some (.cells #[.int .i64 (k : Int), .slice AB j cB] 26 (0, 0)))
    (ho : OwnI W Hl (.slice A5 n5 c5) (zs KB ++ [(ix : Int)])) (hs : OwnI W H7 vS (zs S)) (hg : Grew w6 W) (hz : Hl ≤ W.heap.size) (h7 : w6.heap.size < H7) (h8 : H7 ≤ Hl) (hk : SB.take (j + 1) = KB ++ [ix]) (hl : KB.length = j) :
    BxS w6 k H7 Hl vS S SB (j + 1) (W.setCell ⟨w6.heap.size, 1, none⟩ (.slice A5 n5 c5)) := by
  have hO := (Only.refl w6.heap.size W).setCell (o := 1) (.slice A5 n5 c5)
  have hn : n5 = j + 1 := by
    obtain ⟨A', c', he⟩ := ints_slice ho.ints
    simp only [Value.slice.injEq] at he
    rw [he.2.1, List.length_append, zs_len, hl]; rfl
  subst hn
  refine ⟨A5, c5, blk_set hb 1 _, ?_, own_only hs hO (fun he => by have := ownI_of_ge hs he; omega), hg.setCell (Nat.le_refl _) _, by have := hO.size; omega⟩
  rw [hk, zs_snoc]
  exact own_only ho hO (fun he => by have := ownI_of_ge ho he; omega)

set_option maxHeartbeats 8000000 in
set_option maxRecDepth 20000 in
theorem modalSub_yes (n : Nat) (v u : Value) (B E : List Nat) (w : World) (h : Ints w v (zs B)) (hu : Ints w u (zs E)) (hA : Alg n B) (hE : SubA n B E) (hg : genL n B E = E) :
    Calls Tryz.prog 6 #[.agg #[.int .i64 (n : Int), v], u] w (GivesSub w (((ats E).length : Int), zs (sBx B E), zs (stds E), 0)) := by
  have hinfo : (Tryz.prog.info? 26).map (·.size) = some 2 := by kernel_rfl
  have hn5 := hA.le
  have hsm := ats_small hA hE
  have hlE : E.length ≤ 32 := by
    have h1 := asc_le hE.asc hE.lt
    exact Nat.le_trans h1 (Nat.le_trans (Nat.pow_le_pow_right (by omega) hn5) (by decide))
  have hm1 : mks n (zs E) = true := by
    unfold mks
    rw [List.all_eq_true]
    intro z hz
    obtain ⟨x, hx, rfl⟩ := List.mem_map.1 hz
    exact mk_yes (hE.lt x hx)
  have ha1 : algB (n : Int) (zs B) = true := algB_of hA
  have hvs : ∃ A m c, v = .slice A m c := by obtain ⟨a, c, e⟩ := ints_slice h; exact ⟨_, _, _, e⟩
  have KA := Lib.hid (fun W (hW : Grew w W) => isModalAlgebra_c (n : Int) v (zs B) W (h.grew hW))
  rw [ha1] at KA
  have KE := Lib.hid (fun W (hW : Grew w W) => areElements_c n v u (zs E) W hvs (by omega) (hu.grew hW))
  rw [hm1] at KE
  have KG := Lib.hid (fun W (hW : Grew w W) => generated_c n v u B E W (h.grew hW) (hu.grew hW) hA hE.lt)
  rw [hg] at KG
  have KQ := Lib.hid (fun v1 W (hW : Grew w W) (h1 : Ints W v1 (zs E)) => equalI_c v1 u (zs E) (zs E) W h1 (hu.grew hW))
  rw [decide_eq_true rfl] at KQ
  have hp30 : ∀ x, x < 2 ^ n → x < 1073741824 := fun x hx => Nat.lt_of_lt_of_le hx (pow30' (by omega))
  have KM := Lib.hid (fun W (hW : Grew w W) => minimalAtoms_c u E W (hu.grew hW) (fun e he => hp30 e (hE.lt e he)) (by omega))
  have hk5 : (ats E).length ≤ 5 := by omega
  have hP32 : 2 ^ (ats E).length ≤ 32 := Nat.le_trans (Nat.pow_le_pow_right (by omega) hk5) (by decide)
  have hP0 : 0 < 2 ^ (ats E).length := Nat.pow_pos (by omega)
  have KF := Lib.hid (fun v W (hv : ∃ A m c, v = .slice A m c) => alFull_c (ats E).length v W hv (by omega))
  have hfe : full (ats E).length = 2 ^ (ats E).length - 1 := rfl
  have hwf : IntKind.i64.wrap (((full (ats E).length : Nat) : Int) + 1) = ((2 ^ (ats E).length : Nat) : Int) := by rw [IntKind.wrap_i64]; omega
  have hB30 : ∀ x, x < 2 ^ (ats E).length → x < 1073741824 := fun x hx => by omega
  have KMB := Lib.hid (fun x W (hx : x < 2 ^ (ats E).length) => membersOf_c x (hB30 x hx) W)
  have hsa : Sm (ats E) := fun a ha => hp30 a (hE.lt a (ats_mem.1 ha).1)
  have HOK := Lib.hid (fun is k => orK_sm (is := is) hsa k)
  have HSA := Lib.hid (fun k (hk : k < (ats E).length) => hsa _ (nt_mem (L := ats E) hk))
  have HST := Lib.hid (fun x (hx : x < 2 ^ (ats E).length) => (show orK (ats E) (mbs x) (mbs x).length = nt (stds E) x by rw [stds_nt hx]; rfl))
  have HML := Lib.hid (fun x => mbs_len x)
  have HMX := Lib.hid (fun x k (hx : x < 2 ^ (ats E).length) (hk : k < (mbs x).length) => mbs_lt hx (nt_mem (L := mbs x) hk))
  have HON := Lib.hid (fun is k => orK_next (ats E) is k)
  have hSl : (stds E).length = 2 ^ (ats E).length := stds_len
  have hBl : (sBx B E).length = 2 ^ (ats E).length := sBx_len
  have HSL := Lib.hid (fun k (hk : k < 2 ^ (ats E).length) => hp30 _ (show nt (stds E) k < 2 ^ n by rw [stds_nt hk]; exact hst_lt hE hsm.1 hk))
  have HSN := Lib.hid (fun k (hk : k < 2 ^ (ats E).length) => (show nt (stds E) k < 2 ^ n by rw [stds_nt hk]; exact hst_lt hE hsm.1 hk))
  have HTS := Lib.hid (fun j (hj : j < 2 ^ (ats E).length) => take_zs1 (A := stds E) (j := j) (by rw [hSl]; exact hj))
  have HTB := Lib.hid (fun j (hj : j < 2 ^ (ats E).length) => take_zs1 (A := sBx B E) (j := j) (by rw [hBl]; exact hj))
  have HTSE := Lib.hid (show (stds E).take (2 ^ (ats E).length) = stds E by rw [← hSl]; exact List.take_length)
  have HTBE := Lib.hid (show (sBx B E).take (2 ^ (ats E).length) = sBx B E by rw [← hBl]; exact List.take_length)
  have HIX := Lib.hid (fun j vS W (hj : j < 2 ^ (ats E).length) (hS : Ints W vS (zs (stds E))) => show Calls Tryz.prog 32 #[vS, .int .i64 ((nt B (nt (stds E) j) : Nat) : Int)] W fun e w' => e = .returned (.int .i64 ((nt (sBx B E) j : Nat) : Int)) ∧ Grew W w' from by
    have hlt := sBx_lt (B := B) (E := E) hj
    refine indexX_c vS (zs (stds E)) _ (nt (sBx B E) j) W hS (by rw [zs_len, hSl]; exact hlt) ?_ ?_
    · rw [it_zs9, stds_nt hlt, stds_nt hj, hst_box hE hsm.1 hj]
    · intro i hi he
      rw [it_zs9, stds_nt (Nat.lt_trans hi hlt), stds_nt hj, ← hst_box hE hsm.1 hj] at he
      have he2 : hst E i = hst E (nt (sBx B E) j) := Int.ofNat_inj.1 he
      have h3 : i = nt (sBx B E) j := hst_inj hE hsm.1 (Nat.lt_trans hi hlt) hlt he2
      exact absurd hi (by rw [← h3]; exact Nat.lt_irrefl _))
  have HBXL := Lib.hid (fun j (hj : j < 2 ^ (ats E).length) => sBx_lt (B := B) (E := E) hj)
  have hlB := hA.len
  rcases h.open_ with ⟨_, hnil⟩ | ⟨bv, ov, cv, rfl, hcv, hmv, hbv, hfv⟩
  · rw [← List.length_eq_zero_iff, zs_len, hlB] at hnil; have : 0 < 2 ^ n := Nat.pow_pos (by omega); omega
  have HFV := Lib.hid (fun k (hk : k < 2 ^ n) W (hW : Grew w W) => show W.cell? ⟨bv, ov + k, none⟩ = some (.int .i64 ((nt B k : Nat) : Int)) from by rw [hfv k (by rw [zs_len, hlB]; exact hk) W hW, zs_it (by rw [hlB]; exact hk)])
  rw [zs_len, hlB] at *
  have HB0 := Lib.hid (((Grew.refl w).alloc (.cells #[.int .i64 (n : Int), .slice (some ⟨bv, ov, none⟩) (2 ^ n) cv] 26)).alloc (.cells #[.int .i64 0, .slice none 0 0] 26))
  have y0 : ∀ W, Grew ((w.alloc (.cells #[.int .i64 (n : Int), .slice (some ⟨bv, ov, none⟩) (2 ^ n) cv] 26)).alloc (.cells #[.int .i64 0, .slice none 0 0] 26)) W → W.heap[w.heap.size]? = some (.cells #[.int .i64 (n : Int), .slice (some ⟨bv, ov, none⟩) (2 ^ n) cv] 26 (0, 0)) :=
    fun W hW => ((((Grew.refl (w.alloc (.cells #[.int .i64 (n : Int), .slice (some ⟨bv, ov, none⟩) (2 ^ n) cv] 26))).alloc (.cells #[.int .i64 0, .slice none 0 0] 26)).trans hW).block (by simp)).trans (blk_new w _)
  have y1 : ∀ W, Grew ((w.alloc (.cells #[.int .i64 (n : Int), .slice (some ⟨bv, ov, none⟩) (2 ^ n) cv] 26)).alloc (.cells #[.int .i64 0, .slice none 0 0] 26)) W → W.heap[w.heap.size + 1]? = some (.cells #[.int .i64 0, .slice none 0 0] 26 (0, 0)) :=
    fun W hW => (hW.block (by simp)).trans (by
      have h := blk_new (w.alloc (.cells #[.int .i64 (n : Int), .slice (some ⟨bv, ov, none⟩) (2 ^ n) cv] 26)) (.cells #[.int .i64 0, .slice none 0 0] 26)
      have e : (w.alloc (.cells #[.int .i64 (n : Int), .slice (some ⟨bv, ov, none⟩) (2 ^ n) cv] 26)).heap.size = w.heap.size + 1 := by simp
      rwa [e] at h)
  have hs : ((w.alloc (.cells #[.int .i64 (n : Int), .slice (some ⟨bv, ov, none⟩) (2 ^ n) cv] 26)).alloc (.cells #[.int .i64 0, .slice none 0 0] 26)).heap.size = w.heap.size + 2 := by simp
  obtain ⟨w1, hw1⟩ : ∃ w1, w1 = (w.alloc (.cells #[.int .i64 (n : Int), .slice (some ⟨bv, ov, none⟩) (2 ^ n) cv] 26)).alloc (.cells #[.int .i64 0, .slice none 0 0] 26) := ⟨_, rfl⟩
  rw [← hw1] at y0 y1 HB0 hs
  obtain ⟨A2, c2, rfl⟩ := ints_slice hu
  rw [zs_len] at *
  have c0 : ∀ W, Grew w1 W → W.cell? ⟨w.heap.size, 0, none⟩ = some (.int .i64 (n : Int)) := fun W hW => by rw [blk_cell (y0 W hW)]; rfl
  have c1 : ∀ W, Grew w1 W → W.cell? ⟨w.heap.size, 1, none⟩ = some (.slice (some ⟨bv, ov, none⟩) (2 ^ n) cv) := fun W hW => by rw [blk_cell (y0 W hW)]; rfl
  have Y1 := Lib.hid y1
  clear y0 y1 h hu hA hE hg hfv hcv hmv hbv hlB hvs ha1 hm1 hsm hp30 hfe hB30 hsa
  generalize hats : ats E = AT at *
  generalize stds E = S at *
  generalize sBx B E = SB at *
  generalize hlE2 : E.length = lE at *
  have hk0 : (0 : Int) ≤ (AT.length : Int) := by omega
  generalize hATl : AT.length = k at *
  generalize hFk : full k = Fk at *
  generalize (2 : Nat) ^ k = P at *
  generalize (2 : Nat) ^ n = Pn at *
  go_enter Tryz.func6, Tryz.ntmps6
  go_wp2_with fail
  simp only [← hw1]
  clear hw1
  have d0 := c0 _ (Grew.refl w1)
  have d1 := c1 _ (Grew.refl w1)
  go_wp2_with fail
  refine (KA.out _ HB0.out).mono ?_
  rintro e w2 ⟨rfl, hg2⟩
  replace d0 := c0 _ hg2
  replace d1 := c1 _ hg2
  go_wp2_with fail
  refine (KE.out _ (HB0.out.trans hg2)).mono ?_
  rintro e w3 ⟨rfl, hg3⟩
  have g3 := hg2.trans hg3
  replace d0 := c0 _ g3
  replace d1 := c1 _ g3
  go_wp2_with fail
  refine (KG.out _ (HB0.out.trans g3)).mono ?_
  rintro e w4 ⟨r4, rfl, hr4, hg4⟩
  have g4 := g3.trans hg4
  obtain ⟨A4, c4, rfl⟩ := ints_slice hr4
  rw [zs_len, hlE2] at hr4 ⊢
  have HR4 := Lib.hid hr4
  clear hr4
  go_wp2_with fail
  refine (KQ.out _ _ (HB0.out.trans g4) HR4.out).mono ?_
  rintro e w5 ⟨rfl, hg5⟩
  have g5 := g4.trans hg5
  go_wp2_with fail
  refine (KM.out _ (HB0.out.trans g5)).mono ?_
  rintro e w55 ⟨r5, rfl, hr5, hg55⟩
  have g55 := g5.trans hg55
  obtain ⟨A5, c5, rfl⟩ := ints_slice hr5.ints
  rw [zs_len, hATl] at hr5 ⊢
  have HSQ := Lib.hid (fun W (hW : Grew w55 W) => size_c _ (zs AT) W (hr5.ints.grew hW))
  rw [zs_len, hATl] at HSQ
  have HR5 := Lib.hid hr5
  clear hr5 hg3 hg4 hg5 hg55 g3 g4 g5 HR4 KA KE KG KQ KM d0 d1
  go_wp2_with fail
  refine (HSQ.out _ (Grew.refl _)).mono ?_
  rintro e w6 ⟨rfl, hg6⟩
  have g6 := g55.trans hg6
  go_wp2_with fail
  have hal6 := (Grew.refl w6).alloc (.cells #[.int .i64 (k : Int), .slice none 0 0] 26)
  have hnb6 := blk_new w6 (.cells #[.int .i64 (k : Int), .slice none 0 0] 26)
  refine (KF.out _ _ ⟨_, _, _, rfl⟩).mono ?_
  rintro e w7 ⟨rfl, hg7⟩
  have HBL7 := Lib.hid ((hg7.block (blk_lt hnb6)).trans hnb6)
  have h67 : Grew w6 w7 := hal6.trans hg7
  have hs67 : w6.heap.size < w7.heap.size := by have := hg7.size; simp at this; omega
  have HAC := Lib.hid (fun i (hi : i < k) => show ∃ b o, A5 = some ⟨b, o, none⟩ ∧ ∀ W, Grew w7 W → W.cell? ⟨b, o + i, none⟩ = some (.int .i64 ((nt AT i : Nat) : Int)) from by
    rcases (HR5.out.ints).open_ with ⟨_, hnil⟩ | ⟨bu, ou, cu, hu2, hcu, hmu, hbu, hfu⟩
    · rw [← List.length_eq_zero_iff, zs_len, hATl] at hnil; omega
    rw [zs_len, hATl] at hu2 hfu
    simp only [Value.slice.injEq] at hu2
    exact ⟨bu, ou, hu2.1, fun W hW => by rw [hfu i hi W ((hg6.trans h67).trans hW), zs_it (by rw [hATl]; exact hi)]⟩)
  have h7w : Grew w w7 := (HB0.out.trans g6).trans h67
  have H7W := Lib.hid h7w
  have G16 := Lib.hid g6
  have H67 := Lib.hid h67
  clear HSQ HR5 hnb6 hal6 hg7 g55 hg6 h7w h67 g6
  go_wp2_with fail
  go_loopw [9, 43] (fun s i wr => ∃ x : Nat, x ≤ P ∧ i = .int .i64 (x : Int) ∧ Grew w7 wr ∧ OwnI wr w7.heap.size s (zs (S.take x))) (fun _ i _ => P - (intOf i).toNat)
  case atStart => exact ⟨0, by omega, rfl, Grew.refl _, OwnI.nil_ _ _⟩
  case round =>
    obtain ⟨x, hx, rfl, hB, hO⟩ := hrel
    by_cases hlt : x < P
    · have KX := Lib.hid (KMB.out x wr hlt)
      have HMXX := Lib.hid (fun k hk => HMX.out x k hlt hk)
      have hst := Lib.hid (HST.out x hlt)
      have hts := Lib.hid (HTS.out x hlt)
      have hml := HML.out x
      have HO := Lib.hid hO
      clear hO
      go_wp2_with fail
      refine (KX.out).mono ?_
      rintro e w8 ⟨r8, rfl, hr8, hg8⟩
      obtain ⟨A8, c8, rfl⟩ := ints_slice hr8.ints
      rw [zs_len] at hr8 ⊢
      have HM8 := Lib.hid (fun i (hi : i < (mbs x).length) => show ∃ b o, A8 = some ⟨b, o, none⟩ ∧ ∀ W, Grew w8 W → W.cell? ⟨b, o + i, none⟩ = some (.int .i64 ((nt (mbs x) i : Nat) : Int)) from by
        rcases (hr8.ints).open_ with ⟨_, hnil⟩ | ⟨bu, ou, cu, hu2, hcu, hmu, hbu, hfu⟩
        · rw [← List.length_eq_zero_iff, zs_len] at hnil; omega
        rw [zs_len] at hu2 hfu
        simp only [Value.slice.injEq] at hu2
        exact ⟨bu, ou, hu2.1, fun W hW => by rw [hfu i hi W hW, zs_it hi]⟩)
      have hB8 := hB.trans hg8
      have HO8 := Lib.hid (HO.out.grew hg8)
      clear hr8 HO KX hg8
      generalize mbs x = M at *
      generalize hMl : M.length = ml at *
      go_wp2_with fail
      go_loopw [11, 49] (fun s i wr => ∃ y : Nat, y ≤ ml ∧ i = .int .i64 (y : Int) ∧ s = .int .i64 ((orK AT M y : Nat) : Int) ∧ Grew w8 wr) (fun _ i _ => ml - (intOf i).toNat)
      case atStart => exact ⟨0, by omega, rfl, rfl, Grew.refl _⟩
      case round =>
        obtain ⟨y, hy, rfl, rfl, hB2⟩ := hrel
        have hok := HOK.out M y
        by_cases hly : y < ml
        · obtain ⟨b8, o8, rfl, hc8⟩ := HM8.out y hly
          have hmk := HMXX.out y hly
          have q8 := hc8 _ hB2
          obtain ⟨b5, o5, rfl, hc5⟩ := HAC.out _ hmk
          have q5 := hc5 _ (hB8.trans hB2)
          have hsa := HSA.out _ hmk
          have hon := Lib.hid (HON.out M y)
          generalize hok1 : orK AT M (y + 1) = u1 at *
          generalize orK AT M y = u0 at *
          generalize nt M y = i at *
          have hor := or_i64 u0 (nt AT i) (by omega) (by omega)
          have hv := hon.out
          generalize nt AT i = ai at *
          clear hc8 hc5
          go_wp2_with fail
          go_roundw
          case rel => exact ⟨y + 1, by omega, by go_num, by rw [hok1, hv], hB2⟩
          case measure => simp [intOf]; omega
        · obtain rfl : y = ml := by omega
          rw [hst.out] at hok ⊢
          have hBB := hB8.trans hB2
          have HO9 := Lib.hid (HO8.out.grew hB2)
          have hSx := HSL.out x hlt
          generalize hsx : nt S x = sx at *
          clear HO8 HM8
          have hts' := hts.out
          go_wp2_with (first | (at_builtin; refine wpList_appI (w0 := w7) _ _ rfl rfl _ (zs (S.take x)) rfl (HO9.out.grew (Grew.alloc (Grew.refl _) _)) (hBB.alloc _) _ (sx : Int) rfl (rd_litI _ _ _) (by rw [zs_len, List.length_take]; omega) ?_; intro v3 w9 hO3 hg9 _))
          go_roundw
          case rel => exact ⟨x + 1, by omega, by go_num, hg9, by rw [hts', zs_snoc]; exact hO3⟩
          case measure => simp [intOf]; omega
    · obtain rfl : x = P := by omega
      rw [HTSE.out] at hO
      clear HST HMX HON HOK HSA HTS HAC KMB KF HML
      generalize wr = wl at *
      obtain ⟨AS, cS, rfl⟩ := ints_slice hO.ints
      rw [zs_len, hSl] at hO ⊢
      have hsl : w7.heap.size ≤ wl.heap.size := hB.size
      have HDJ := Lib.hid (fun (W : World) (v : Value) (L : List Int) (h : OwnI W wl.heap.size v L) => show (Value.slice AS x cS).ownBlock = none ∨ (Value.slice AS x cS).ownBlock ≠ v.ownBlock from by
        cases hb : (Value.slice AS x cS).ownBlock with
        | none => exact .inl rfl
        | some g =>
          refine .inr (fun he => ?_)
          have h1 := (World.ownsRow.lt hO g hb).2
          have h2 := ownI_of_ge h he.symm
          omega)
      have hblk0 := (hB.block (blk_lt HBL7.out)).trans HBL7.out
      have h6l : Grew w6 wl := H67.out.trans hB
      have C1 := fun W (hW : Grew w6 W) => c1 W (G16.out.trans hW)
      have PB := fun s (hs : s < Pn) W (hW : Grew w6 W) => HFV.out s hs W ((HB0.out.trans G16.out).trans hW)
      have Y6 := Lib.hid (fun W (hW : Grew w6 W) => Y1.out W (G16.out.trans hW))
      have HW6 := Lib.hid (HB0.out.trans G16.out)
      have hsz6 : w.heap.size + 2 ≤ w6.heap.size := by have := G16.out.size; omega
      have H0 := Lib.hid (show BxS w6 k w7.heap.size wl.heap.size (.slice AS x cS) S SB 0 wl from ⟨none, 0, hblk0, OwnI.nil_ _ _, hO, h6l, Nat.le_refl _⟩)
      clear hO hblk0 h6l hB HBL7 H67 H7W G16 c0 c1 HFV Y1 HB0 HTSE
      go_wp2_with fail
      go_loopw [67] (fun i wr => ∃ j : Nat, j ≤ x ∧ i = .int .i64 (j : Int) ∧ BxS w6 k w7.heap.size wl.heap.size (.slice AS x cS) S SB j wr) (fun i _ => x - (intOf i).toNat)
      case atStart => exact ⟨0, by omega, rfl, H0.out⟩
      case round =>
        obtain ⟨j, hj, rfl, AB, cB, hblk, hOB, hOS, hh, hzl⟩ := hrel
        by_cases hlt : j < x
        · have hix := HBXL.out j hlt
          have hsn := HSN.out j hlt
          have hsx := HSL.out j hlt
          have htb := HTB.out j hlt
          have HIXJ := Lib.hid (fun W (hS : Ints W (.slice AS x cS) (zs S)) => HIX.out j _ W hlt hS)
          have pB := PB (nt S j) hsn
          obtain ⟨bS, oS, hAS, hcS⟩ : ∃ b o, AS = some ⟨b, o, none⟩ ∧ wr.cell? ⟨b, o + j, none⟩ = some (.int .i64 ((nt S j : Nat) : Int)) := by
            rcases (hOS.ints).open_ with ⟨_, hnil⟩ | ⟨bu, ou, cu, hu2, hcu, hmu, hbu, hfu⟩
            · rw [← List.length_eq_zero_iff, zs_len, hSl] at hnil; omega
            rw [zs_len, hSl] at hu2 hfu
            simp only [Value.slice.injEq] at hu2
            exact ⟨bu, ou, hu2.1, by rw [hfu j hlt wr (Grew.refl _), zs_it (by rw [hSl]; exact hlt)]⟩
          subst hAS
          have hkl : (SB.take j).length = j := by rw [List.length_take, hBl]; omega
          have hKB : SB.take j = SB.take j := rfl
          obtain ⟨KB, hKBe⟩ : ∃ KB, SB.take j = KB := ⟨_, rfl⟩
          rw [hKBe] at hOB htb hkl
          have gd := (Grew.refl wr).drew
          have hdd : Grew w6 wr.drew := hh.trans gd
          obtain ⟨ix, hixe⟩ : ∃ ix, nt SB j = ix := ⟨_, rfl⟩
          rw [hixe] at htb
          have HIXQ := Lib.hid (fun W (hS : Ints W (.slice (some ⟨bS, oS, none⟩) x cS) (zs S)) => show Calls Tryz.prog 32 #[.slice (some ⟨bS, oS, none⟩) x cS, .int .i64 ((nt B (nt S j) : Nat) : Int)] W fun e w' => e = .returned (.int .i64 (ix : Int)) ∧ Grew W w' from by rw [← hixe]; exact HIXJ.out W hS)
          have HFIN := Lib.hid (fun W (A5 : Option Addr) (n5 c5 : Nat) (hb : W.heap[w6.heap.size]? = some (.cells #[.int .i64 (k : Int), .slice AB j cB] 26 (0, 0))) (ho : OwnI W wl.heap.size (.slice A5 n5 c5) (zs KB ++ [(ix : Int)])) (hs : OwnI W w7.heap.size (.slice (some ⟨bS, oS, none⟩) x cS) (zs S)) (hg : Grew w6 W) (hz : wl.heap.size ≤ W.heap.size) => BxS.step (SB := SB) hb ho hs hg hz hs67 hsl htb hkl)
          clear HIXJ hixe hKBe hKB htb
          generalize nt S j = sx at *
          generalize nt B sx = bsx at *
          have hkl2 : KB.length ≤ 1000 := by omega
          clear HIX HTB HBXL HSL HSN H0 hix PB Y6 HW6
          go_upto_region 22 with fail
          clear hcS
          replace hblk := (gd.block (blk_lt hblk)).trans hblk
          replace hOB := hOB.grew gd
          replace hOS := hOS.grew gd
          have hzd := gd.size
          have kc0 : wr.drew.cell? ⟨w6.heap.size, 1, none⟩ = some (.slice AB j cB) := by rw [blk_cell hblk]; rfl
          clear hh
          refine wp_region_held_drew (S := fun w' => Grew w6 w') (by kernel_rfl) hdd (fun hHeld => ?_)
          refine wpAnyH_take (i := 0) (oi := ?on1) (v := ?vn1) ?hin1 ?an1 ?bn1 ?cn1 ?qn1 (Or.inl ⟨?dn1, ?hyn1⟩) hHeld ?restn1
          case hin1 => (simp only [List.getElem?_toArray, List.getElem?_cons_zero]; exact rfl)
          case an1 => kernel_rfl
          case bn1 => kernel_rfl
          case cn1 => kernel_rfl
          case qn1 => exact fun _ _ _ h => h
          case dn1 => rfl
          case hyn1 => (intro z hSw; (try dsimp only at hSw); go_simp; (try with_reducible rfl))
          try simp only [Act.put, List.setIfInBounds_toArray, List.set_cons_zero, List.set_cons_succ]
          refine wpAnyH_take (i := 2) (oi := ?on2) (v := ?vn2) ?hin2 ?an2 ?bn2 ?cn2 ?qn2 (Or.inl ⟨?dn2, ?hyn2⟩) hHeld ?restn2
          case hin2 => (simp only [List.getElem?_toArray, List.getElem?_cons_succ, List.getElem?_cons_zero]; exact rfl)
          case an2 => kernel_rfl
          case bn2 => kernel_rfl
          case cn2 => kernel_rfl
          case qn2 => exact fun _ _ _ h => h
          case dn2 => rfl
          case hyn2 => (intro z hSw; (try dsimp only at hSw); go_simp; (try with_reducible rfl))
          try simp only [Act.put, List.setIfInBounds_toArray, List.set_cons_zero, List.set_cons_succ]
          refine wpAnyH_take (i := 3) (oi := ?on3) (v := ?vn3) ?hin3 ?an3 ?bn3 ?cn3 ?qn3 (Or.inl ⟨?dn3, ?hyn3⟩) hHeld ?restn3
          case hin3 => (simp only [List.getElem?_toArray, List.getElem?_cons_succ, List.getElem?_cons_zero]; exact rfl)
          case an3 => kernel_rfl
          case bn3 => kernel_rfl
          case cn3 => kernel_rfl
          case qn3 => exact fun _ _ _ h => h
          case dn3 => rfl
          case hyn3 => (intro z hSw; (try dsimp only at hSw); go_simp; (try with_reducible rfl))
          try simp only [Act.put, List.setIfInBounds_toArray, List.set_cons_zero, List.set_cons_succ]
          refine wpAnyH_take (i := 4) (oi := ?on4) (v := ?vn4) ?hin4 ?an4 ?bn4 ?cn4 ?qn4 (Or.inl ⟨?dn4, ?hyn4⟩) hHeld ?restn4
          case hin4 => (simp only [List.getElem?_toArray, List.getElem?_cons_succ, List.getElem?_cons_zero]; exact rfl)
          case an4 => kernel_rfl
          case bn4 => kernel_rfl
          case cn4 => kernel_rfl
          case qn4 => exact fun _ _ _ h => h
          case dn4 => rfl
          case hyn4 => (intro z hSw; (try dsimp only at hSw); go_simp; (try with_reducible rfl))
          try simp only [Act.put, List.setIfInBounds_toArray, List.set_cons_zero, List.set_cons_succ]
          refine wpAnyH_take (i := 5) (oi := ?on5) (v := ?vn5) ?hin5 ?an5 ?bn5 ?cn5 ?qn5 (Or.inl ⟨?dn5, ?hyn5⟩) hHeld ?restn5
          case hin5 => (simp only [List.getElem?_toArray, List.getElem?_cons_succ, List.getElem?_cons_zero]; exact rfl)
          case an5 => kernel_rfl
          case bn5 => kernel_rfl
          case cn5 => kernel_rfl
          case qn5 => exact fun _ _ _ h => h
          case dn5 => rfl
          case hyn5 => (intro z hSw; (try dsimp only at hSw); go_simp; (try with_reducible rfl))
          try simp only [Act.put, List.setIfInBounds_toArray, List.set_cons_zero, List.set_cons_succ]
          refine wpAnyH_take (i := 6) (oi := ?on6) (v := ?vn6) ?hin6 ?an6 ?bn6 ?cn6 ?qn6 (Or.inl ⟨?dn6, ?hyn6⟩) hHeld ?restn6
          case hin6 => (simp only [List.getElem?_toArray, List.getElem?_cons_succ, List.getElem?_cons_zero]; exact rfl)
          case an6 => kernel_rfl
          case bn6 => kernel_rfl
          case cn6 => kernel_rfl
          case qn6 => exact fun _ _ _ h => h
          case dn6 => rfl
          case hyn6 => (intro z hSw; (try dsimp only at hSw); go_simp; (try with_reducible rfl))
          try simp only [Act.put, List.setIfInBounds_toArray, List.set_cons_zero, List.set_cons_succ]
          refine wpAnyH_take (i := 7) (oi := ?on7) (v := ?vn7) ?hin7 ?an7 ?bn7 ?cn7 ?qn7 (Or.inl ⟨?dn7, ?hyn7⟩) hHeld ?restn7
          case hin7 => (simp only [List.getElem?_toArray, List.getElem?_cons_succ, List.getElem?_cons_zero]; exact rfl)
          case an7 => kernel_rfl
          case bn7 => kernel_rfl
          case cn7 => kernel_rfl
          case qn7 => exact fun _ _ _ h => h
          case dn7 => rfl
          case hyn7 => (intro z hSw; (try dsimp only at hSw); go_simp; (try with_reducible rfl))
          try simp only [Act.put, List.setIfInBounds_toArray, List.set_cons_zero, List.set_cons_succ]
          refine wpAnyH_ready (rs := [1, 8]) (by kernel_rfl) (by simp) ?_
          refine AllReadyH.cons (o := ?on8) ?hin8 ?restn8 (AllReadyH.cons (o := ?on9) ?hin9 ?restn9 AllReadyH.nil)
          case hin8 => (simp only [List.getElem?_toArray, List.getElem?_cons_succ, List.getElem?_cons_zero]; exact rfl)
          case hin9 => (simp only [List.getElem?_toArray, List.getElem?_cons_succ, List.getElem?_cons_zero]; exact rfl)
          case restn8 =>
            intro K hK
            go_simp
            refine hK.out _ _ ?_ (fun hHeld => ?_)
            · (try dsimp only); first | with_reducible assumption | exact hdd
            clear hK K
            try simp only [Act.put, List.setIfInBounds_toArray, List.set_cons_zero, List.set_cons_succ]
            refine wpAnyH_ready (rs := [8]) (by kernel_rfl) (by simp) ?_
            refine AllReadyH.cons (o := ?on10) ?hin10 ?restn10 AllReadyH.nil
            case hin10 => (simp only [List.getElem?_toArray, List.getElem?_cons_succ, List.getElem?_cons_zero]; exact rfl)
            intro K hK
            go_simp
            go_at_call 32
            refine (HIXQ.out _ (hOS.ints)).mono ?_
            rintro e x2 ⟨rfl, hgx2⟩
            have hx2 : Grew w6 x2 := hdd.trans hgx2
            replace hblk := (hgx2.block (blk_lt hblk)).trans hblk
            replace hOB := hOB.grew hgx2
            replace hOS := hOS.grew hgx2
            have zx2 := hgx2.size
            refine hK.out _ _ ?_ (fun hHeld => ?_)
            · (try dsimp only); first | with_reducible assumption | exact hx2
            clear hK K
            try simp only [Act.put, List.setIfInBounds_toArray, List.set_cons_zero, List.set_cons_succ]
            refine wpAnyH_ready (rs := [9]) (by kernel_rfl) (by simp) ?_
            refine AllReadyH.cons (o := ?on11) ?hin11 ?restn11 AllReadyH.nil
            case hin11 => (simp only [List.getElem?_toArray, List.getElem?_cons_succ, List.getElem?_cons_zero]; exact rfl)
            intro K hK
            go_simp
            have hlit := rd_litI x2 (ix : Int) 2
            obtain ⟨x3, hwx3⟩ : ∃ W, W = x2.alloc (.cells #[.int .i64 (ix : Int)] 2) := ⟨_, rfl⟩
            have hgx3 : Grew x2 x3 := by rw [hwx3]; exact (Grew.refl _).alloc _
            have hx3 : Grew w6 x3 := hx2.trans hgx3
            rw [← hwx3] at hlit
            try simp only [← hwx3]
            clear hwx3
            replace hblk := (hgx3.block (blk_lt hblk)).trans hblk
            replace hOB := hOB.grew hgx3
            replace hOS := hOS.grew hgx3
            have zx3 := hgx3.size
            refine hK.out _ _ ?_ (fun hHeld => ?_)
            · (try dsimp only); first | with_reducible assumption | exact hx3
            clear hK K
            try simp only [Act.put, List.setIfInBounds_toArray, List.set_cons_zero, List.set_cons_succ]
            refine wpAnyH_ready (rs := [10]) (by kernel_rfl) (by simp) ?_
            refine AllReadyH.cons (o := ?on12) ?hin12 ?restn12 AllReadyH.nil
            case hin12 => (simp only [List.getElem?_toArray, List.getElem?_cons_succ, List.getElem?_cons_zero]; exact rfl)
            intro K hK
            refine step_appI9 wl.heap.size rfl (.tmp 72) (.tmp 80) rfl (.slice AB j cB) (zs KB) rfl hOB (by omega) (.slice (some ⟨x2.heap.size, 0, none⟩) 1 1) _ rfl hlit (by rw [zs_len]; omega) ?_
            intro v5 x4 hown5 hg5
            obtain ⟨A5, n5, c5, rfl⟩ := own_shape hown5
            have hx4 : Grew w6 x4 := hx3.grown hg5 (fun g hg => by have := ownI_of_ge hOB hg; omega)
            replace hblk := (World.grownBy.block hg5 _ (blk_lt hblk) (fun he => by have := ownI_of_ge hOB he.symm; omega)).trans hblk
            have hOS5 : OwnI x4 w7.heap.size (.slice (some ⟨bS, oS, none⟩) x cS) (zs S) := World.ownsRow.kept hOS hg5 (HDJ.out _ _ _ hOB)
            have kzx4 : x4.cell? ⟨w6.heap.size, 1, none⟩ = some (.slice AB j cB) := by rw [blk_cell hblk]; rfl
            have fzx4 := blk_frozen hblk 1
            have zx4 := hg5.size
            refine hK.out _ _ ?_ (fun hHeld => ?_)
            · (try dsimp only); first | with_reducible assumption | exact hx4
            clear hK K
            try simp only [Act.put, List.setIfInBounds_toArray, List.set_cons_zero, List.set_cons_succ]
            refine wpAnyH_take (i := 11) (oi := ?on13) (v := ?vn13) ?hin13 ?an13 ?bn13 ?cn13 ?qn13 (Or.inl ⟨?dn13, ?hyn13⟩) hHeld ?restn13
            case hin13 => (simp only [List.getElem?_toArray, List.getElem?_cons_succ, List.getElem?_cons_zero]; exact rfl)
            case an13 => kernel_rfl
            case bn13 => kernel_rfl
            case cn13 => kernel_rfl
            case qn13 => exact fun _ _ _ h => h
            case dn13 => rfl
            case hyn13 => (intro z hSw; (try dsimp only at hSw); go_simp; (try with_reducible rfl))
            try simp only [Act.put, List.setIfInBounds_toArray, List.set_cons_zero, List.set_cons_succ]
            refine wpAnyH_ready (rs := [12]) (by kernel_rfl) (by simp) ?_
            refine AllReadyH.cons (o := ?on14) ?hin14 ?restn14 AllReadyH.nil
            case hin14 => (simp only [List.getElem?_toArray, List.getElem?_cons_succ, List.getElem?_cons_zero]; exact rfl)
            intro K hK
            go_simp
            refine hK.out _ _ ?_ (fun hHeld => ?_)
            · (try dsimp only); first | with_reducible assumption | exact Grew.setCell hx4 (Nat.le_refl _) _
            clear hK K
            try simp only [Act.put, List.setIfInBounds_toArray, List.set_cons_zero, List.set_cons_succ]
            refine wpAnyH_done (by kernel_rfl) ?_ _
            have hFIN := HFIN.out x4 _ _ _ hblk hown5 hOS5 hx4 (by omega)
            clear hOB hOS hOS5 hlit hblk hown5 hg5
            go_wp2_with fail
            go_roundw
            case rel => exact ⟨j + 1, by omega, by go_num, hFIN⟩
            case measure => simp [intOf] <;> omega
          case restn9 =>
            intro K hK
            go_simp
            go_at_call 32
            refine (HIXQ.out _ (hOS.ints)).mono ?_
            rintro e x1 ⟨rfl, hgx1⟩
            have hx1 : Grew w6 x1 := hdd.trans hgx1
            replace hblk := (hgx1.block (blk_lt hblk)).trans hblk
            replace hOB := hOB.grew hgx1
            replace hOS := hOS.grew hgx1
            have zx1 := hgx1.size
            have kcx1 : x1.cell? ⟨w6.heap.size, 1, none⟩ = some (.slice AB j cB) := by rw [blk_cell hblk]; rfl
            refine hK.out _ _ ?_ (fun hHeld => ?_)
            · (try dsimp only); first | with_reducible assumption | exact hx1
            clear hK K
            try simp only [Act.put, List.setIfInBounds_toArray, List.set_cons_zero, List.set_cons_succ]
            refine wpAnyH_ready (rs := [1, 9]) (by kernel_rfl) (by simp) ?_
            refine AllReadyH.cons (o := ?on15) ?hin15 ?restn15 (AllReadyH.cons (o := ?on16) ?hin16 ?restn16 AllReadyH.nil)
            case hin15 => (simp only [List.getElem?_toArray, List.getElem?_cons_succ, List.getElem?_cons_zero]; exact rfl)
            case hin16 => (simp only [List.getElem?_toArray, List.getElem?_cons_succ, List.getElem?_cons_zero]; exact rfl)
            case restn15 =>
              intro K hK
              go_simp
              refine hK.out _ _ ?_ (fun hHeld => ?_)
              · (try dsimp only); first | with_reducible assumption | exact hx1
              clear hK K
              try simp only [Act.put, List.setIfInBounds_toArray, List.set_cons_zero, List.set_cons_succ]
              refine wpAnyH_ready (rs := [9]) (by kernel_rfl) (by simp) ?_
              refine AllReadyH.cons (o := ?on17) ?hin17 ?restn17 AllReadyH.nil
              case hin17 => (simp only [List.getElem?_toArray, List.getElem?_cons_succ, List.getElem?_cons_zero]; exact rfl)
              intro K hK
              go_simp
              have hlit := rd_litI x1 (ix : Int) 2
              obtain ⟨x3, hwx3⟩ : ∃ W, W = x1.alloc (.cells #[.int .i64 (ix : Int)] 2) := ⟨_, rfl⟩
              have hgx3 : Grew x1 x3 := by rw [hwx3]; exact (Grew.refl _).alloc _
              have hx3 : Grew w6 x3 := hx1.trans hgx3
              rw [← hwx3] at hlit
              try simp only [← hwx3]
              clear hwx3
              replace hblk := (hgx3.block (blk_lt hblk)).trans hblk
              replace hOB := hOB.grew hgx3
              replace hOS := hOS.grew hgx3
              have zx3 := hgx3.size
              refine hK.out _ _ ?_ (fun hHeld => ?_)
              · (try dsimp only); first | with_reducible assumption | exact hx3
              clear hK K
              try simp only [Act.put, List.setIfInBounds_toArray, List.set_cons_zero, List.set_cons_succ]
              refine wpAnyH_ready (rs := [10]) (by kernel_rfl) (by simp) ?_
              refine AllReadyH.cons (o := ?on18) ?hin18 ?restn18 AllReadyH.nil
              case hin18 => (simp only [List.getElem?_toArray, List.getElem?_cons_succ, List.getElem?_cons_zero]; exact rfl)
              intro K hK
              refine step_appI9 wl.heap.size rfl (.tmp 72) (.tmp 80) rfl (.slice AB j cB) (zs KB) rfl hOB (by omega) (.slice (some ⟨x1.heap.size, 0, none⟩) 1 1) _ rfl hlit (by rw [zs_len]; omega) ?_
              intro v5 x4 hown5 hg5
              obtain ⟨A5, n5, c5, rfl⟩ := own_shape hown5
              have hx4 : Grew w6 x4 := hx3.grown hg5 (fun g hg => by have := ownI_of_ge hOB hg; omega)
              replace hblk := (World.grownBy.block hg5 _ (blk_lt hblk) (fun he => by have := ownI_of_ge hOB he.symm; omega)).trans hblk
              have hOS5 : OwnI x4 w7.heap.size (.slice (some ⟨bS, oS, none⟩) x cS) (zs S) := World.ownsRow.kept hOS hg5 (HDJ.out _ _ _ hOB)
              have kzx4 : x4.cell? ⟨w6.heap.size, 1, none⟩ = some (.slice AB j cB) := by rw [blk_cell hblk]; rfl
              have fzx4 := blk_frozen hblk 1
              have zx4 := hg5.size
              refine hK.out _ _ ?_ (fun hHeld => ?_)
              · (try dsimp only); first | with_reducible assumption | exact hx4
              clear hK K
              try simp only [Act.put, List.setIfInBounds_toArray, List.set_cons_zero, List.set_cons_succ]
              refine wpAnyH_take (i := 11) (oi := ?on19) (v := ?vn19) ?hin19 ?an19 ?bn19 ?cn19 ?qn19 (Or.inl ⟨?dn19, ?hyn19⟩) hHeld ?restn19
              case hin19 => (simp only [List.getElem?_toArray, List.getElem?_cons_succ, List.getElem?_cons_zero]; exact rfl)
              case an19 => kernel_rfl
              case bn19 => kernel_rfl
              case cn19 => kernel_rfl
              case qn19 => exact fun _ _ _ h => h
              case dn19 => rfl
              case hyn19 => (intro z hSw; (try dsimp only at hSw); go_simp; (try with_reducible rfl))
              try simp only [Act.put, List.setIfInBounds_toArray, List.set_cons_zero, List.set_cons_succ]
              refine wpAnyH_ready (rs := [12]) (by kernel_rfl) (by simp) ?_
              refine AllReadyH.cons (o := ?on20) ?hin20 ?restn20 AllReadyH.nil
              case hin20 => (simp only [List.getElem?_toArray, List.getElem?_cons_succ, List.getElem?_cons_zero]; exact rfl)
              intro K hK
              go_simp
              refine hK.out _ _ ?_ (fun hHeld => ?_)
              · (try dsimp only); first | with_reducible assumption | exact Grew.setCell hx4 (Nat.le_refl _) _
              clear hK K
              try simp only [Act.put, List.setIfInBounds_toArray, List.set_cons_zero, List.set_cons_succ]
              refine wpAnyH_done (by kernel_rfl) ?_ _
              have hFIN := HFIN.out x4 _ _ _ hblk hown5 hOS5 hx4 (by omega)
              clear hOB hOS hOS5 hlit hblk hown5 hg5
              go_wp2_with fail
              go_roundw
              case rel => exact ⟨j + 1, by omega, by go_num, hFIN⟩
              case measure => simp [intOf] <;> omega
            case restn16 =>
              intro K hK
              go_simp
              have hlit := rd_litI x1 (ix : Int) 2
              obtain ⟨x2, hwx2⟩ : ∃ W, W = x1.alloc (.cells #[.int .i64 (ix : Int)] 2) := ⟨_, rfl⟩
              have hgx2 : Grew x1 x2 := by rw [hwx2]; exact (Grew.refl _).alloc _
              have hx2 : Grew w6 x2 := hx1.trans hgx2
              rw [← hwx2] at hlit
              try simp only [← hwx2]
              clear hwx2
              replace hblk := (hgx2.block (blk_lt hblk)).trans hblk
              replace hOB := hOB.grew hgx2
              replace hOS := hOS.grew hgx2
              have zx2 := hgx2.size
              have kcx2 : x2.cell? ⟨w6.heap.size, 1, none⟩ = some (.slice AB j cB) := by rw [blk_cell hblk]; rfl
              refine hK.out _ _ ?_ (fun hHeld => ?_)
              · (try dsimp only); first | with_reducible assumption | exact hx2
              clear hK K
              try simp only [Act.put, List.setIfInBounds_toArray, List.set_cons_zero, List.set_cons_succ]
              refine wpAnyH_ready (rs := [1]) (by kernel_rfl) (by simp) ?_
              refine AllReadyH.cons (o := ?on21) ?hin21 ?restn21 AllReadyH.nil
              case hin21 => (simp only [List.getElem?_toArray, List.getElem?_cons_succ, List.getElem?_cons_zero]; exact rfl)
              intro K hK
              go_simp
              refine hK.out _ _ ?_ (fun hHeld => ?_)
              · (try dsimp only); first | with_reducible assumption | exact hx2
              clear hK K
              try simp only [Act.put, List.setIfInBounds_toArray, List.set_cons_zero, List.set_cons_succ]
              refine wpAnyH_ready (rs := [10]) (by kernel_rfl) (by simp) ?_
              refine AllReadyH.cons (o := ?on22) ?hin22 ?restn22 AllReadyH.nil
              case hin22 => (simp only [List.getElem?_toArray, List.getElem?_cons_succ, List.getElem?_cons_zero]; exact rfl)
              intro K hK
              refine step_appI9 wl.heap.size rfl (.tmp 72) (.tmp 80) rfl (.slice AB j cB) (zs KB) rfl hOB (by omega) (.slice (some ⟨x1.heap.size, 0, none⟩) 1 1) _ rfl hlit (by rw [zs_len]; omega) ?_
              intro v5 x4 hown5 hg5
              obtain ⟨A5, n5, c5, rfl⟩ := own_shape hown5
              have hx4 : Grew w6 x4 := hx2.grown hg5 (fun g hg => by have := ownI_of_ge hOB hg; omega)
              replace hblk := (World.grownBy.block hg5 _ (blk_lt hblk) (fun he => by have := ownI_of_ge hOB he.symm; omega)).trans hblk
              have hOS5 : OwnI x4 w7.heap.size (.slice (some ⟨bS, oS, none⟩) x cS) (zs S) := World.ownsRow.kept hOS hg5 (HDJ.out _ _ _ hOB)
              have kzx4 : x4.cell? ⟨w6.heap.size, 1, none⟩ = some (.slice AB j cB) := by rw [blk_cell hblk]; rfl
              have fzx4 := blk_frozen hblk 1
              have zx4 := hg5.size
              refine hK.out _ _ ?_ (fun hHeld => ?_)
              · (try dsimp only); first | with_reducible assumption | exact hx4
              clear hK K
              try simp only [Act.put, List.setIfInBounds_toArray, List.set_cons_zero, List.set_cons_succ]
              refine wpAnyH_take (i := 11) (oi := ?on23) (v := ?vn23) ?hin23 ?an23 ?bn23 ?cn23 ?qn23 (Or.inl ⟨?dn23, ?hyn23⟩) hHeld ?restn23
              case hin23 => (simp only [List.getElem?_toArray, List.getElem?_cons_succ, List.getElem?_cons_zero]; exact rfl)
              case an23 => kernel_rfl
              case bn23 => kernel_rfl
              case cn23 => kernel_rfl
              case qn23 => exact fun _ _ _ h => h
              case dn23 => rfl
              case hyn23 => (intro z hSw; (try dsimp only at hSw); go_simp; (try with_reducible rfl))
              try simp only [Act.put, List.setIfInBounds_toArray, List.set_cons_zero, List.set_cons_succ]
              refine wpAnyH_ready (rs := [12]) (by kernel_rfl) (by simp) ?_
              refine AllReadyH.cons (o := ?on24) ?hin24 ?restn24 AllReadyH.nil
              case hin24 => (simp only [List.getElem?_toArray, List.getElem?_cons_succ, List.getElem?_cons_zero]; exact rfl)
              intro K hK
              go_simp
              refine hK.out _ _ ?_ (fun hHeld => ?_)
              · (try dsimp only); first | with_reducible assumption | exact Grew.setCell hx4 (Nat.le_refl _) _
              clear hK K
              try simp only [Act.put, List.setIfInBounds_toArray, List.set_cons_zero, List.set_cons_succ]
              refine wpAnyH_done (by kernel_rfl) ?_ _
              have hFIN := HFIN.out x4 _ _ _ hblk hown5 hOS5 hx4 (by omega)
              clear hOB hOS hOS5 hlit hblk hown5 hg5
              go_wp2_with fail
              go_roundw
              case rel => exact ⟨j + 1, by omega, by go_num, hFIN⟩
              case measure => simp [intOf] <;> omega

        · obtain rfl : j = x := by omega
          have HBL := Lib.hid hblk
          have HOB := Lib.hid hOB
          have HOS := Lib.hid hOS
          have HH := Lib.hid hh
          have y1 := Y6.out wr hh
          have f0 := blk_frozen y1 0
          have f1 := blk_frozen y1 1
          have k0 : wr.cell? ⟨w.heap.size + 1, 0, none⟩ = some (.int .i64 0) := by rw [blk_cell y1]; rfl
          have k1 : wr.cell? ⟨w.heap.size + 1, 1, none⟩ = some (.slice none 0 0) := by rw [blk_cell y1]; rfl
          have q0 : wr.cell? ⟨w6.heap.size, 0, none⟩ = some (.int .i64 (k : Int)) := by rw [blk_cell hblk]; rfl
          have q1 : wr.cell? ⟨w6.heap.size, 1, none⟩ = some (.slice AB j cB) := by rw [blk_cell hblk]; rfl
          have HY := Lib.hid y1
          have htb : (SB.take j) = SB := by rw [← hBl]; exact List.take_length
          rw [htb] at HOB
          clear hblk hOB hOS hh y1 Y6 PB C1 HIX HTB HBXL HSL HSN H0 HDJ
          go_wp2_with fail
          (try simp only [Exit.inBlock, Exit.then])
          refine bodyPost_ret (results_cell_tmp2_row rfl _ _ (w.heap.size + 1) _ _ _ _ rfl (blk_set (blk_set HY.out 0 _) 1 _) Tryz.underlying26 rfl hinfo) rfl ?_
          have hk : Only (w.heap.size + 1) wr ((wr.setCell ⟨w.heap.size + 1, 0, none⟩ (.int .i64 (k : Int))).setCell ⟨w.heap.size + 1, 1, none⟩ (.slice AB j cB)) := ((Only.refl _ _).setCell _).setCell _
          refine ⟨_, _, rfl, ?_, ?_, ((HW6.out.trans HH.out).setCell (Nat.le_succ _) _).setCell (Nat.le_succ _) _⟩
          · exact OwnI.ints (own_only HOB.out hk (fun hh => by have := (World.ownsRow.lt HOB.out _ hh).1; omega))
          · exact OwnI.ints (own_only HOS.out hk (fun hh => by have := (World.ownsRow.lt HOS.out _ hh).1; omega))
end Go.Proofs.YtopjgcbhjhhlfaaGreat


/- ModalSubalgebra of the program at whatever arguments; GeneratedElements, IsModalAlgebra. -/
namespace Go.Proofs.YtopjgcbhjhhlfaaGreat
open Go.RowKit

theorem algB_range {n : Int} {L : List Int} (h : algB n L = true) : ∃ N : Nat, n = (N : Int) ∧ N ≤ 5 := by
  obtain ⟨N, h1, h2, _⟩ := algB_ok h
  exact ⟨N, h1, h2.le⟩
set_option maxHeartbeats 4000000 in
set_option maxRecDepth 20000 in
theorem modalSub_no1 (n : Int) (v u : Value) (L X : List Int) (w : World) (h : Ints w v L) (hu : Ints w u X) (hb : (algB n L && mks n.toNat X) = false) :
    Calls Tryz.prog 6 #[.agg #[.int .i64 n, v], u] w (GivesSub w (subF n L X)) := by
  rw [subF_bad hb]
  have hinfo : (Tryz.prog.info? 26).map (·.size) = some 2 := by kernel_rfl
  have KA := Lib.hid (fun W (hW : Grew w W) => isModalAlgebra_c n v L W (h.grew hW))
  have KE : algB n L = true → ∀ W, Grew w W → Calls Tryz.prog 25 #[.agg #[.int .i64 n, v], u] W fun e w' => e = .returned (.bool false) ∧ Grew W w' := fun ha W hW => by
    obtain ⟨N, rfl, hN⟩ := algB_range ha
    have := areElements_c N v u X W (by obtain ⟨a, c, e⟩ := ints_slice h; exact ⟨_, _, _, e⟩) (by omega) (hu.grew hW)
    rw [ha, Bool.true_and, Int.toNat_natCast] at hb
    rwa [hb] at this
  obtain ⟨A, c, rfl⟩ := ints_slice h
  obtain ⟨A2, c2, rfl⟩ := ints_slice hu
  have HB0 := Lib.hid (((Grew.refl w).alloc (.cells #[.int .i64 n, .slice A L.length c] 26)).alloc (.cells #[.int .i64 0, .slice none 0 0] 26))
  have y0 : ∀ W, Grew ((w.alloc (.cells #[.int .i64 n, .slice A L.length c] 26)).alloc (.cells #[.int .i64 0, .slice none 0 0] 26)) W → W.heap[w.heap.size]? = some (.cells #[.int .i64 n, .slice A L.length c] 26 (0, 0)) :=
    fun W hW => ((((Grew.refl (w.alloc (.cells #[.int .i64 n, .slice A L.length c] 26))).alloc (.cells #[.int .i64 0, .slice none 0 0] 26)).trans hW).block (by simp)).trans (blk_new w _)
  have y1 : ∀ W, Grew ((w.alloc (.cells #[.int .i64 n, .slice A L.length c] 26)).alloc (.cells #[.int .i64 0, .slice none 0 0] 26)) W → W.heap[w.heap.size + 1]? = some (.cells #[.int .i64 0, .slice none 0 0] 26 (0, 0)) :=
    fun W hW => (hW.block (by simp)).trans (by
      have h := blk_new (w.alloc (.cells #[.int .i64 n, .slice A L.length c] 26)) (.cells #[.int .i64 0, .slice none 0 0] 26)
      have e : (w.alloc (.cells #[.int .i64 n, .slice A L.length c] 26)).heap.size = w.heap.size + 1 := by simp
      rwa [e] at h)
  obtain ⟨w1, hw1⟩ : ∃ w1, w1 = (w.alloc (.cells #[.int .i64 n, .slice A L.length c] 26)).alloc (.cells #[.int .i64 0, .slice none 0 0] 26) := ⟨_, rfl⟩
  rw [← hw1] at y0 y1 HB0
  have c0 : ∀ W, Grew w1 W → W.cell? ⟨w.heap.size, 0, none⟩ = some (.int .i64 n) := fun W hW => by rw [blk_cell (y0 W hW)]; rfl
  have c1 : ∀ W, Grew w1 W → W.cell? ⟨w.heap.size, 1, none⟩ = some (.slice A L.length c) := fun W hW => by rw [blk_cell (y0 W hW)]; rfl
  have Y1 := Lib.hid y1
  have FIN := Lib.hid (fun W (hW : Grew w1 W) => show GivesSub w (0, [], [], 1) (.returned (.tuple #[.agg #[.int .i64 0, .slice none 0 0], .slice none 0 0, .int .i64 1])) ((W.setCell ⟨w.heap.size + 1, 0, none⟩ (.int .i64 0)).setCell ⟨w.heap.size + 1, 1, none⟩ (.slice none 0 0)) from
    ⟨_, _, rfl, Ints.nil_ _, Ints.nil_ _, ((HB0.out.trans hW).setCell (Nat.le_succ _) _).setCell (Nat.le_succ _) _⟩)
  clear y0 y1 h hu hb
  generalize algB n L = R at *
  generalize L.length = l at *
  generalize X.length = l2 at *
  have d0 := c0 _ (Grew.refl w1)
  have d1 := c1 _ (Grew.refl w1)
  go_enter Tryz.func6, Tryz.ntmps6
  go_wp2_with fail
  simp only [← hw1]
  clear hw1
  refine (KA.out _ HB0.out).mono ?_
  rintro e w2 ⟨rfl, hg2⟩
  replace d0 := c0 _ hg2
  replace d1 := c1 _ hg2
  cases R with
  | false =>
    have y1 := Y1.out w2 hg2
    have f0 := blk_frozen y1 0
    have f1 := blk_frozen y1 1
    have k0 : w2.cell? ⟨w.heap.size + 1, 0, none⟩ = some (.int .i64 0) := by rw [blk_cell y1]; rfl
    have k1 : w2.cell? ⟨w.heap.size + 1, 1, none⟩ = some (.slice none 0 0) := by rw [blk_cell y1]; rfl
    have HY := Lib.hid y1
    clear y1 KE
    go_wp2_with fail
    (try simp only [Exit.inBlock, Exit.then])
    refine bodyPost_ret (results_cell_tmp2_row rfl _ _ (w.heap.size + 1) _ _ _ _ rfl (blk_set (blk_set HY.out 0 _) 1 _) Tryz.underlying26 rfl hinfo) rfl ?_
    exact FIN.out w2 hg2
  | true =>
    have KE2 := Lib.hid (KE rfl)
    clear KE
    go_wp2_with fail
    refine (KE2.out _ (HB0.out.trans hg2)).mono ?_
    rintro e w3 ⟨rfl, hg3⟩
    have g3 := hg2.trans hg3
    have y1 := Y1.out w3 g3
    have f0 := blk_frozen y1 0
    have f1 := blk_frozen y1 1
    have k0 : w3.cell? ⟨w.heap.size + 1, 0, none⟩ = some (.int .i64 0) := by rw [blk_cell y1]; rfl
    have k1 : w3.cell? ⟨w.heap.size + 1, 1, none⟩ = some (.slice none 0 0) := by rw [blk_cell y1]; rfl
    have HY := Lib.hid y1
    clear y1 d0 d1
    go_wp2_with fail
    (try simp only [Exit.inBlock, Exit.then])
    refine bodyPost_ret (results_cell_tmp2_row rfl _ _ (w.heap.size + 1) _ _ _ _ rfl (blk_set (blk_set HY.out 0 _) 1 _) Tryz.underlying26 rfl hinfo) rfl ?_
    exact FIN.out w3 g3
theorem mks_zs {n : Nat} {X : List Int} (h : mks n X = true) : zs (nats X) = X ∧ ∀ e ∈ nats X, e < 2 ^ n := nats_ok h
set_option maxHeartbeats 4000000 in
set_option maxRecDepth 20000 in
theorem modalSub_no5 (n : Nat) (v u : Value) (B E : List Nat) (w : World) (h : Ints w v (zs B)) (hu : Ints w u (zs E)) (hA : Alg n B) (hE : ∀ e ∈ E, e < 2 ^ n) (hne : ¬ genL n B E = E) :
    Calls Tryz.prog 6 #[.agg #[.int .i64 (n : Int), v], u] w (GivesSub w (0, [], [], 5)) := by
  have hinfo : (Tryz.prog.info? 26).map (·.size) = some 2 := by kernel_rfl
  have hn5 := hA.le
  have hm1 : mks n (zs E) = true := by
    unfold mks
    rw [List.all_eq_true]
    intro z hz
    obtain ⟨x, hx, rfl⟩ := List.mem_map.1 hz
    exact mk_yes (hE x hx)
  have hvs : ∃ A m c, v = .slice A m c := by obtain ⟨a, c, e⟩ := ints_slice h; exact ⟨_, _, _, e⟩
  have KA := Lib.hid (fun W (hW : Grew w W) => isModalAlgebra_c (n : Int) v (zs B) W (h.grew hW))
  rw [algB_of hA] at KA
  have KE := Lib.hid (fun W (hW : Grew w W) => areElements_c n v u (zs E) W hvs (by omega) (hu.grew hW))
  rw [hm1] at KE
  have KG := Lib.hid (fun W (hW : Grew w W) => generated_c n v u B E W (h.grew hW) (hu.grew hW) hA hE)
  have KQ := Lib.hid (fun v1 W (hW : Grew w W) (h1 : Ints W v1 (zs (genL n B E))) => equalI_c v1 u _ (zs E) W h1 (hu.grew hW))
  rw [decide_eq_false (fun e => hne (zs_inj e))] at KQ
  generalize genL n B E = GL at *
  generalize zs B = L at *
  generalize zs E = X at *
  obtain ⟨A, c, rfl⟩ := ints_slice h
  obtain ⟨A2, c2, rfl⟩ := ints_slice hu
  generalize (n : Int) = n at *
  have HB0 := Lib.hid (((Grew.refl w).alloc (.cells #[.int .i64 n, .slice A L.length c] 26)).alloc (.cells #[.int .i64 0, .slice none 0 0] 26))
  have y0 : ∀ W, Grew ((w.alloc (.cells #[.int .i64 n, .slice A L.length c] 26)).alloc (.cells #[.int .i64 0, .slice none 0 0] 26)) W → W.heap[w.heap.size]? = some (.cells #[.int .i64 n, .slice A L.length c] 26 (0, 0)) :=
    fun W hW => ((((Grew.refl (w.alloc (.cells #[.int .i64 n, .slice A L.length c] 26))).alloc (.cells #[.int .i64 0, .slice none 0 0] 26)).trans hW).block (by simp)).trans (blk_new w _)
  have y1 : ∀ W, Grew ((w.alloc (.cells #[.int .i64 n, .slice A L.length c] 26)).alloc (.cells #[.int .i64 0, .slice none 0 0] 26)) W → W.heap[w.heap.size + 1]? = some (.cells #[.int .i64 0, .slice none 0 0] 26 (0, 0)) :=
    fun W hW => (hW.block (by simp)).trans (by
      have h := blk_new (w.alloc (.cells #[.int .i64 n, .slice A L.length c] 26)) (.cells #[.int .i64 0, .slice none 0 0] 26)
      have e : (w.alloc (.cells #[.int .i64 n, .slice A L.length c] 26)).heap.size = w.heap.size + 1 := by simp
      rwa [e] at h)
  obtain ⟨w1, hw1⟩ : ∃ w1, w1 = (w.alloc (.cells #[.int .i64 n, .slice A L.length c] 26)).alloc (.cells #[.int .i64 0, .slice none 0 0] 26) := ⟨_, rfl⟩
  rw [← hw1] at y0 y1 HB0
  have c0 : ∀ W, Grew w1 W → W.cell? ⟨w.heap.size, 0, none⟩ = some (.int .i64 n) := fun W hW => by rw [blk_cell (y0 W hW)]; rfl
  have c1 : ∀ W, Grew w1 W → W.cell? ⟨w.heap.size, 1, none⟩ = some (.slice A L.length c) := fun W hW => by rw [blk_cell (y0 W hW)]; rfl
  have Y1 := Lib.hid y1
  have FIN := Lib.hid (fun W (hW : Grew w1 W) => show GivesSub w (0, [], [], 5) (.returned (.tuple #[.agg #[.int .i64 0, .slice none 0 0], .slice none 0 0, .int .i64 5])) ((W.setCell ⟨w.heap.size + 1, 0, none⟩ (.int .i64 0)).setCell ⟨w.heap.size + 1, 1, none⟩ (.slice none 0 0)) from
    ⟨_, _, rfl, Ints.nil_ _, Ints.nil_ _, ((HB0.out.trans hW).setCell (Nat.le_succ _) _).setCell (Nat.le_succ _) _⟩)
  clear y0 y1 h hu hne hm1 hvs hA hE
  generalize L.length = l at *
  generalize X.length = l2 at *
  have d0 := c0 _ (Grew.refl w1)
  have d1 := c1 _ (Grew.refl w1)
  go_enter Tryz.func6, Tryz.ntmps6
  go_wp2_with fail
  simp only [← hw1]
  clear hw1
  refine (KA.out _ HB0.out).mono ?_
  rintro e w2 ⟨rfl, hg2⟩
  replace d0 := c0 _ hg2
  replace d1 := c1 _ hg2
  go_wp2_with fail
  refine (KE.out _ (HB0.out.trans hg2)).mono ?_
  rintro e w3 ⟨rfl, hg3⟩
  have g3 := hg2.trans hg3
  replace d0 := c0 _ g3
  replace d1 := c1 _ g3
  go_wp2_with fail
  refine (KG.out _ (HB0.out.trans g3)).mono ?_
  rintro e w4 ⟨r4, rfl, hr4, hg4⟩
  have g4 := g3.trans hg4
  obtain ⟨A4, c4, rfl⟩ := ints_slice hr4
  have HR4 := Lib.hid hr4
  clear hr4
  generalize (zs GL).length = l4 at *
  go_wp2_with fail
  refine (KQ.out _ _ (HB0.out.trans g4) HR4.out).mono ?_
  rintro e w5 ⟨rfl, hg5⟩
  have g5 := g4.trans hg5
  have y1 := Y1.out w5 g5
  have f0 := blk_frozen y1 0
  have f1 := blk_frozen y1 1
  have k0 : w5.cell? ⟨w.heap.size + 1, 0, none⟩ = some (.int .i64 0) := by rw [blk_cell y1]; rfl
  have k1 : w5.cell? ⟨w.heap.size + 1, 1, none⟩ = some (.slice none 0 0) := by rw [blk_cell y1]; rfl
  have HY := Lib.hid y1
  clear y1 d0 d1
  go_wp2_with fail
  (try simp only [Exit.inBlock, Exit.then])
  refine bodyPost_ret (results_cell_tmp2_row rfl _ _ (w.heap.size + 1) _ _ _ _ rfl (blk_set (blk_set HY.out 0 _) 1 _) Tryz.underlying26 rfl hinfo) rfl ?_
  exact FIN.out w5 g5
theorem modalSub_c (n : Int) (v u : Value) (L X : List Int) (w : World) (h : Ints w v L) (hu : Ints w u X) :
    Calls Tryz.prog 6 #[.agg #[.int .i64 n, v], u] w (GivesSub w (subF n L X)) := by
  cases hb : algB n L && mks n.toNat X with
  | false => exact modalSub_no1 n v u L X w h hu hb
  | true =>
    rw [Bool.and_eq_true] at hb
    obtain ⟨N, rfl, hA, hz⟩ := algB_ok hb.1
    have hm := hb.2
    rw [Int.toNat_natCast] at hm
    obtain ⟨hx, hlt⟩ := mks_zs hm
    by_cases hg : zs (genL N (nats L) (nats X)) = X
    · rw [subF_yes (by rw [hb.1, hb.2]; rfl) (by rw [Int.toNat_natCast]; exact hg)]
      have hg2 : genL N (nats L) (nats X) = nats X := zs_inj (hg.trans hx.symm)
      refine modalSub_yes N v u (nats L) (nats X) w (by rw [hz]; exact h) (by rw [hx]; exact hu) hA (sub_of hA hlt hg2) hg2
    · rw [subF_five (by rw [hb.1, hb.2]; rfl) (by rw [Int.toNat_natCast]; exact hg)]
      refine modalSub_no5 N v u (nats L) (nats X) w (by rw [hz]; exact h) (by rw [hx]; exact hu) hA hlt (fun e => hg (by rw [e, hx]))
theorem isModalAlgebraX_c (n : Int) (v : Value) (L : List Int) (w : World) (h : Ints w v L) :
    Calls Tryz.prog 12 #[.agg #[.int .i64 n, v]] w fun e w' => e = .returned (.bool (algB n L)) ∧ Grew w w' := by
  have hal := (Grew.refl w).alloc (.cells #[.int .i64 n, v] 26)
  have HI := Lib.hid (isModalAlgebra_c n v L _ (h.grew hal))
  have HG := Lib.hid hal
  obtain ⟨A, c, rfl⟩ := ints_slice h
  clear h hal
  generalize algB n L = R at *
  generalize L.length = l at *
  go_enter Tryz.func12, Tryz.ntmps12
  go_wp2_with fail
  refine HI.out.mono ?_
  rintro e w1 ⟨rfl, hg1⟩
  go_wp2_with fail
  go_ret
  exact ⟨rfl, HG.out.trans hg1⟩
theorem generatedEl_c (n : Nat) (v u : Value) (B E : List Nat) (w : World) (h : Ints w v (zs B)) (hu : Ints w u (zs E)) (hA : Alg n B) (hE : ∀ e ∈ E, e < 2 ^ n) :
    Calls Tryz.prog 10 #[.agg #[.int .i64 (n : Int), v], u] w fun e w' => ∃ r, e = .returned (.tuple #[r, .int .i64 0]) ∧ Ints w' r (zs (genL n B E)) ∧ Grew w w' := by
  have hn5 := hA.le
  have hm1 : mks n (zs E) = true := by
    unfold mks
    rw [List.all_eq_true]
    intro z hz
    obtain ⟨x, hx, rfl⟩ := List.mem_map.1 hz
    exact mk_yes (hE x hx)
  have hvs : ∃ A m c, v = .slice A m c := by obtain ⟨a, c, e⟩ := ints_slice h; exact ⟨_, _, _, e⟩
  have KA := Lib.hid (fun W (hW : Grew w W) => isModalAlgebra_c (n : Int) v (zs B) W (h.grew hW))
  rw [algB_of hA] at KA
  have KE := Lib.hid (fun W (hW : Grew w W) => areElements_c n v u (zs E) W hvs (by omega) (hu.grew hW))
  rw [hm1] at KE
  have KG := Lib.hid (fun W (hW : Grew w W) => generated_c n v u B E W (h.grew hW) (hu.grew hW) hA hE)
  generalize genL n B E = GL at *
  generalize zs B = L at *
  generalize zs E = X at *
  obtain ⟨A, c, rfl⟩ := ints_slice h
  obtain ⟨A2, c2, rfl⟩ := ints_slice hu
  generalize (n : Int) = n at *
  have HG := Lib.hid ((Grew.refl w).alloc (.cells #[.int .i64 n, .slice A L.length c] 26))
  have y0 : ∀ W, Grew (w.alloc (.cells #[.int .i64 n, .slice A L.length c] 26)) W → W.cell? ⟨w.heap.size, 0, none⟩ = some (.int .i64 n) := fun W hW => (hW.cell (p := ⟨w.heap.size, 0, none⟩) (by simp)).trans (by simp)
  have y1 : ∀ W, Grew (w.alloc (.cells #[.int .i64 n, .slice A L.length c] 26)) W → W.cell? ⟨w.heap.size, 1, none⟩ = some (.slice A L.length c) := fun W hW => (hW.cell (p := ⟨w.heap.size, 1, none⟩) (by simp)).trans (by simp)
  obtain ⟨w1, hw1⟩ : ∃ w1, w1 = w.alloc (.cells #[.int .i64 n, .slice A L.length c] 26) := ⟨_, rfl⟩
  rw [← hw1] at y0 y1 HG
  clear h hu hm1 hvs hA hE
  generalize L.length = l at *
  generalize X.length = l2 at *
  have d0 := y0 _ (Grew.refl w1)
  have d1 := y1 _ (Grew.refl w1)
  go_enter Tryz.func10, Tryz.ntmps10
  go_wp2_with fail
  simp only [← hw1]
  clear hw1
  refine (KA.out _ HG.out).mono ?_
  rintro e w2 ⟨rfl, hg2⟩
  replace d0 := y0 _ hg2
  replace d1 := y1 _ hg2
  go_wp2_with fail
  refine (KE.out _ (HG.out.trans hg2)).mono ?_
  rintro e w3 ⟨rfl, hg3⟩
  have g3 := hg2.trans hg3
  replace d0 := y0 _ g3
  replace d1 := y1 _ g3
  go_wp2_with fail
  refine (KG.out _ (HG.out.trans g3)).mono ?_
  rintro e w4 ⟨r4, rfl, hr4, hg4⟩
  have g4 := g3.trans hg4
  obtain ⟨A4, c4, rfl⟩ := ints_slice hr4
  have HR4 := Lib.hid hr4
  clear hr4
  generalize (zs GL).length = l4 at *
  go_wp2_with fail
  go_ret2
  exact ⟨_, rfl, HR4.out, HG.out.trans g4⟩
end Go.Proofs.YtopjgcbhjhhlfaaGreat


/- The marks of l15Generate, plain. -/
namespace Go.Proofs.YtopjgcbhjhhlfaaGreat
open Go.RowKit

def MRow (w : World) (g n : Nat) (u : Nat → Bool) : Prop := ∃ cur, w.heap[g]? = some (.cells cur 4 (0, 0)) ∧ cur.size = n ∧ ∀ i, i < n → cur[i]? = some (.bool (u i))
theorem MRow.lt {w : World} {g n : Nat} {u : Nat → Bool} (h : MRow w g n u) : g < w.heap.size := by
  obtain ⟨cur, h1, _⟩ := h
  exact blk_lt h1
theorem MRow.grew {w w' : World} {g n : Nat} {u : Nat → Bool} (h : MRow w g n u) (hg : Grew w w') : MRow w' g n u := by
  have hl := h.lt
  obtain ⟨cur, h1, h2⟩ := h
  exact ⟨cur, (hg.block hl).trans h1, h2⟩
theorem MRow.cell {w : World} {g n : Nat} {u : Nat → Bool} (h : MRow w g n u) {p : Nat} (hp : p < n) : w.cell? ⟨g, p, none⟩ = some (.bool (u p)) := by
  obtain ⟨cur, h1, _, h3⟩ := h
  rw [blk_cell h1]
  exact h3 p hp
theorem MRow.free {w : World} {g n : Nat} {u : Nat → Bool} (h : MRow w g n u) (p : Nat) : w.frozen? ⟨g, p, none⟩ = false := by
  obtain ⟨cur, h1, _⟩ := h
  exact blk_frozen h1 p
def mk1 (u : Nat → Bool) (p : Nat) (i : Nat) : Bool := u i || i == p
theorem MRow.set {w : World} {g n : Nat} {u : Nat → Bool} (h : MRow w g n u) {p : Nat} (hp : p < n) : MRow (w.setCell ⟨g, p, none⟩ (.bool true)) g n (mk1 u p) := by
  obtain ⟨cur, h1, h2, h3⟩ := h
  refine ⟨_, blk_set h1 p _, by simpa using h2, fun i hi => ?_⟩
  rw [Array.getElem?_setIfInBounds]
  by_cases he : p = i
  · subst he
    rw [if_pos rfl, if_pos (by omega)]
    simp [mk1]
  · rw [if_neg he, h3 i hi]
    have : (i == p) = false := by simpa using (Ne.symm he)
    simp [mk1, this]
theorem MRow.congr9 {w : World} {g n : Nat} {u u' : Nat → Bool} (h : MRow w g n u) (he : ∀ i, i < n → u i = u' i) : MRow w g n u' := by
  obtain ⟨cur, h1, h2, h3⟩ := h
  exact ⟨cur, h1, h2, fun i hi => by rw [← he i hi]; exact h3 i hi⟩
def cnt (u : Nat → Bool) : Nat → Nat
  | 0 => 0
  | k + 1 => cnt u k + (if u k then 1 else 0)
theorem cnt_le (u : Nat → Bool) : ∀ P, cnt u P ≤ P
  | 0 => Nat.le_refl _
  | k + 1 => by unfold cnt; have := cnt_le u k; split <;> omega
theorem cnt_mono {u0 u : Nat → Bool} (h : ∀ k, u0 k = true → u k = true) : ∀ P, cnt u0 P ≤ cnt u P
  | 0 => Nat.le_refl _
  | k + 1 => by
    unfold cnt
    have := cnt_mono h k
    cases h0 : u0 k with
    | true => rw [h k h0]; simp; omega
    | false => simp; omega
theorem cnt_lt {u0 u : Nat → Bool} (h : ∀ k, u0 k = true → u k = true) : ∀ P z, z < P → u z = true → u0 z = false → cnt u0 P < cnt u P
  | 0, z, hz, _, _ => absurd hz (by omega)
  | k + 1, z, hz, h1, h2 => by
    unfold cnt
    by_cases hk : z = k
    · subst hk
      rw [h1, h2]
      have := cnt_mono h z
      simp
      omega
    · have := cnt_lt h k z (by omega) h1 h2
      cases h0 : u0 k with
      | true => rw [h k h0]; simp; omega
      | false => simp; omega
structure Ps (P F : Nat) (B : List Nat) (G : Nat → Prop) (u0 : Nat → Bool) (m : Bool) (x y : Nat) (u : Nat → Bool) : Prop where
  mono : ∀ k, u0 k = true → u k = true
  snd : ∀ k, u k = true → G k
  cl : m = false → (∀ k, k < P → u k = u0 k) ∧ ∀ a b, (a < x ∨ (a = x ∧ b < y)) → b ≤ a → u0 a = true → u0 b = true → u0 (a &&& b) = true ∧ u0 (F - a) = true ∧ u0 (nt B a) = true
  new : m = true → ∃ z, z < P ∧ u z = true ∧ u0 z = false
theorem Ps.start {P F : Nat} {B : List Nat} {G : Nat → Prop} {u : Nat → Bool} (h : ∀ k, u k = true → G k) : Ps P F B G u false 0 0 u :=
  ⟨fun _ h => h, h, fun _ => ⟨fun _ _ => rfl, fun a b h => absurd h (by omega)⟩, fun h => by cases h⟩
theorem Ps.skip {P F : Nat} {B : List Nat} {G : Nat → Prop} {u0 u : Nat → Bool} {m : Bool} {x y : Nat} (h : Ps P F B G u0 m x y u) (hy : y < P) (hu : u y = false) : Ps P F B G u0 m x (y + 1) u :=
  ⟨h.mono, h.snd, fun hm => ⟨(h.cl hm).1, fun a b hab hba ha hb => by
    rcases hab with h1 | ⟨h1, h2⟩
    · exact (h.cl hm).2 a b (.inl h1) hba ha hb
    · by_cases he : b = y
      · subst he
        rw [← (h.cl hm).1 b hy, hu] at hb
        cases hb
      · exact (h.cl hm).2 a b (.inr ⟨h1, by omega⟩) hba ha hb⟩, h.new⟩
theorem Ps.row {P F : Nat} {B : List Nat} {G : Nat → Prop} {u0 u : Nat → Bool} {m : Bool} {x : Nat} (h : Ps P F B G u0 m x (x + 1) u) : Ps P F B G u0 m (x + 1) 0 u :=
  ⟨h.mono, h.snd, fun hm => ⟨(h.cl hm).1, fun a b hab hba ha hb => by
    rcases hab with h1 | ⟨h1, h2⟩
    · rcases Nat.lt_or_ge a x with h3 | h3
      · exact (h.cl hm).2 a b (.inl h3) hba ha hb
      · obtain rfl : a = x := by omega
        exact (h.cl hm).2 a b (.inr ⟨rfl, by omega⟩) hba ha hb
    · omega⟩, h.new⟩
theorem Ps.rowNo {P F : Nat} {B : List Nat} {G : Nat → Prop} {u0 u : Nat → Bool} {m : Bool} {x y : Nat} (h : Ps P F B G u0 m x y u) (hx : x < P) (hu : u x = false) : Ps P F B G u0 m (x + 1) 0 u :=
  ⟨h.mono, h.snd, fun hm => ⟨(h.cl hm).1, fun a b hab hba ha hb => by
    rcases hab with h1 | ⟨h1, h2⟩
    · rcases Nat.lt_or_ge a x with h3 | h3
      · exact (h.cl hm).2 a b (.inl h3) hba ha hb
      · obtain rfl : a = x := by omega
        rw [← (h.cl hm).1 a hx, hu] at ha
        cases ha
    · omega⟩, h.new⟩
theorem mk1_mono {u : Nat → Bool} {p k : Nat} (h : u k = true) : mk1 u p k = true := by unfold mk1; rw [h]; rfl
theorem mk1_self (u : Nat → Bool) (p : Nat) : mk1 u p p = true := by simp [mk1]
theorem mk1_or {u : Nat → Bool} {p k : Nat} (h : mk1 u p k = true) : u k = true ∨ k = p := by
  unfold mk1 at h
  rw [Bool.or_eq_true] at h
  exact h.imp id (fun h => by simpa using h)
theorem mk1_same {u : Nat → Bool} {p : Nat} (h : u p = true) (k : Nat) : mk1 u p k = u k := by
  unfold mk1
  by_cases hk : k = p
  · subst hk; rw [h]; rfl
  · have : (k == p) = false := by simpa using hk
    rw [this, Bool.or_false]
theorem Ps.step {P F : Nat} {B : List Nat} {G : Nat → Prop} {u0 u : Nat → Bool} {m : Bool} {x y : Nat} (h : Ps P F B G u0 m x y u) (hxP : x < P) (hyP : y < P) (hx : u x = true) (hy : u y = true)
    (hG : G x → G (F - x) ∧ G (nt B x) ∧ ∀ y, G y → G (x &&& y)) (h1 : x &&& y < P) (h2 : F - x < P) (h3 : nt B x < P) :
    Ps P F B G u0 (m || !u (x &&& y) || !u (F - x) || !u (nt B x)) x (y + 1) (mk1 (mk1 (mk1 u (x &&& y)) (F - x)) (nt B x)) := by
  obtain ⟨g1, g2, g3⟩ := hG (h.snd x hx)
  refine ⟨fun k hk => mk1_mono (mk1_mono (mk1_mono (h.mono k hk))), fun k hk => ?_, fun hm => ?_, fun hm => ?_⟩
  · rcases mk1_or hk with hk | rfl
    · rcases mk1_or hk with hk | rfl
      · rcases mk1_or hk with hk | rfl
        · exact h.snd k hk
        · exact g3 y (h.snd y hy)
      · exact g1
    · exact g2
  · rw [Bool.or_eq_false_iff, Bool.or_eq_false_iff, Bool.or_eq_false_iff, Bool.not_eq_false', Bool.not_eq_false', Bool.not_eq_false'] at hm
    obtain ⟨⟨⟨hm, e1⟩, e2⟩, e3⟩ := hm
    have es : ∀ k, mk1 (mk1 (mk1 u (x &&& y)) (F - x)) (nt B x) k = u k := fun k => by
      rw [mk1_same (mk1_mono (mk1_mono e3)), mk1_same (mk1_mono e2), mk1_same e1]
    refine ⟨fun k hk => by rw [es, (h.cl hm).1 k hk], fun a b hab hba ha hb => ?_⟩
    rcases hab with hab | ⟨rfl, hab⟩
    · exact (h.cl hm).2 a b (.inl hab) hba ha hb
    · by_cases he : b = y
      · subst he
        rw [← (h.cl hm).1 _ h1, ← (h.cl hm).1 _ h2, ← (h.cl hm).1 _ h3]
        exact ⟨e1, e2, e3⟩
      · exact (h.cl hm).2 a b (.inr ⟨rfl, by omega⟩) hba ha hb
  · cases hmm : m with
    | true =>
      obtain ⟨z, z1, z2, z3⟩ := h.new hmm
      exact ⟨z, z1, mk1_mono (mk1_mono (mk1_mono z2)), z3⟩
    | false =>
      have hs := (h.cl hmm).1
      rw [hmm, Bool.false_or, Bool.or_eq_true, Bool.or_eq_true, Bool.not_eq_true', Bool.not_eq_true', Bool.not_eq_true'] at hm
      rcases hm with (e | e) | e
      · exact ⟨_, h1, mk1_mono (mk1_mono (mk1_self _ _)), by rw [← hs _ h1]; exact e⟩
      · exact ⟨_, h2, mk1_mono (mk1_self _ _), by rw [← hs _ h2]; exact e⟩
      · exact ⟨_, h3, mk1_self _ _, by rw [← hs _ h3]; exact e⟩
theorem Ps.cnt {P F : Nat} {B : List Nat} {G : Nat → Prop} {u0 u : Nat → Bool} {x y : Nat} (h : Ps P F B G u0 true x y u) : cnt u0 P < cnt u P := by
  obtain ⟨z, z1, z2, z3⟩ := h.new rfl
  exact cnt_lt h.mono P z z1 z2 z3
theorem Ps.done {n : Nat} {B E : List Nat} {u0 u : Nat → Bool} (hA : Alg n B) (hE : ∀ e ∈ E, e < 2 ^ n) (h : Ps (2 ^ n) (full n) B (gen n B E) u0 false (2 ^ n) 0 u) (h0 : u 0 = true) (he : ∀ e ∈ E, u e = true) :
    (List.range (2 ^ n)).filter u = genL n B E := by
  obtain ⟨hs, hc⟩ := h.cl rfl
  have hm : ∀ k, k ∈ (List.range (2 ^ n)).filter u ↔ k < 2 ^ n ∧ u k = true := fun k => by simp
  refine genL_of hA hE (List.pairwise_lt_range.filter _) ⟨(hm 0).2 ⟨Nat.two_pow_pos n, h0⟩, fun x hx hxm => ?_⟩ (fun e hee => (hm e).2 ⟨hE e hee, he e hee⟩) (fun x hx => h.snd x ((hm x).1 hx).2)
  have hux := ((hm x).1 hxm).2
  have h0x : u0 x = true := by rw [← hs x hx]; exact hux
  have key := hc x x (.inl hx) (Nat.le_refl _) h0x h0x
  refine ⟨(hm _).2 ⟨cpl_lt n x, ?_⟩, (hm _).2 ⟨hA.nt_lt hx, ?_⟩, fun y hy => (hm _).2 ⟨and_lt hx, ?_⟩⟩
  · rw [← cpl_sub hx, hs _ (by rw [cpl_sub hx]; exact cpl_lt n x)]; exact key.2.1
  · rw [hs _ (hA.nt_lt hx)]; exact key.2.2
  · obtain ⟨hyl, huy⟩ := (hm y).1 hy
    have h0y : u0 y = true := by rw [← hs y hyl]; exact huy
    rw [hs _ (and_lt hx)]
    rcases Nat.le_total y x with h1 | h1
    · exact (hc x y (.inl hx) h1 h0x h0y).1
    · rw [Nat.and_comm]; exact (hc y x (.inl hyl) h1 h0y h0x).1
end Go.Proofs.YtopjgcbhjhhlfaaGreat


/- l15Is of the reference: is it a modal algebra? -/
namespace Go.Proofs.YtopjgcbhjhhlfaaGreat
open Go.RowKit

theorem grew_q {f : Nat} {args : Array Value} {w : World} {x : Ending} (h : Calls Tryz.prog f args w fun e w' => e = x ∧ w' = w) : Calls Tryz.prog f args w fun e w' => e = x ∧ Grew w w' :=
  h.mono fun _ _ h => ⟨h.1, h.2 ▸ Grew.refl _⟩
set_option maxHeartbeats 4000000 in
set_option maxRecDepth 20000 in
theorem l15Is_c (n : Int) (v : Value) (L : List Int) (w : World) (h : Ints w v L) :
    Calls Tryz.prog 19 #[.agg #[.int .i64 n, v]] w fun e w' => e = .returned (.bool (algB n L)) ∧ Grew w w' := by
  have HI := Lib.hid (fun W => grew_q (l01In_q n 0 5 W))
  have hal := (Grew.refl w).alloc (.cells #[.int .i64 n, v] 26)
  have HG := Lib.hid hal
  have hmx : L.length ≤ 9223372036854775807 := h.2.1
  have y0 : ∀ W, Grew (w.alloc (.cells #[.int .i64 n, v] 26)) W → W.cell? ⟨w.heap.size, 0, none⟩ = some (.int .i64 n) := fun W hW => (hW.cell (p := ⟨w.heap.size, 0, none⟩) (by simp)).trans (by simp)
  have y1 : ∀ W, Grew (w.alloc (.cells #[.int .i64 n, v] 26)) W → W.cell? ⟨w.heap.size, 1, none⟩ = some v := fun W hW => (hW.cell (p := ⟨w.heap.size, 1, none⟩) (by simp)).trans (by simp)
  obtain ⟨w1, hw1⟩ : ∃ w1, w1 = w.alloc (.cells #[.int .i64 n, v] 26) := ⟨_, rfl⟩
  rw [← hw1] at y0 y1 HG
  clear hal
  have r1 := Grew.refl w1
  have r1d := r1.drew
  by_cases h1 : 0 ≤ n ∧ n ≤ 5
  · obtain ⟨N, rfl⟩ : ∃ N : Nat, n = (N : Int) := ⟨n.toNat, by omega⟩
    have hN : N ≤ 5 := by omega
    rw [decide_eq_true h1] at HI
    have eA : algB (N : Int) L = (decide ((L.length : Int) = ((2 ^ N : Nat) : Int)) && (mks N L && (meetB (nats L) && decide (nt (nats L) (full N) = full N)))) := by unfold algB; rw [decide_eq_true h1, Int.toNat_natCast, Bool.true_and]
    rw [eA]
    clear h1 eA
    have HO := Lib.hid (fun W => grew_q (l01One_q N (by omega) W))
    have HF := l01Full_q N (by omega)
    rw [← full_cast] at HF
    have HF := Lib.hid (fun W => grew_q (HF W))
    have hp32 : 2 ^ N ≤ 32 := Nat.le_trans (Nat.pow_le_pow_right (by omega) hN) (by decide)
    have hp0 : 0 < 2 ^ N := Nat.two_pow_pos N
    have hfe : full N = 2 ^ N - 1 := rfl
    by_cases h2 : (L.length : Int) = ((2 ^ N : Nat) : Int)
    · rw [decide_eq_true h2, Bool.true_and]
      have HM := Lib.hid (fun W (hW : Grew w W) => l01Masks_c N v L W (h.grew hW) (by omega))
      have hq : ((L.length : Int) != ((2 ^ N : Nat) : Int)) = false := by simpa using h2
      cases h3 : mks N L with
      | false =>
        rw [h3] at HM
        obtain ⟨A, c, rfl⟩ := ints_slice h
        clear h h3 h2 hfe hp32 hp0
        generalize L.length = l at *
        generalize full N = F at *
        generalize (2 : Nat) ^ N = P at *
        go_enter Tryz.func19, Tryz.ntmps19
        go_wp2_with fail
        simp only [← hw1]
        clear hw1
        refine wp_region_held_drew (S := fun w' => Grew w1 w') (by kernel_rfl) r1d (fun hHeld => ?_)
        refine wpAnyH_take (i := 0) (oi := ?on1) (v := ?vn1) ?hin1 ?an1 ?bn1 ?cn1 ?qn1 (Or.inl ⟨?dn1, ?hyn1⟩) hHeld ?restn1
        case hin1 => (simp only [List.getElem?_toArray, List.getElem?_cons_zero]; exact rfl)
        case an1 => kernel_rfl
        case bn1 => kernel_rfl
        case cn1 => kernel_rfl
        case qn1 => exact fun _ _ _ h => h
        case dn1 => rfl
        case hyn1 => (intro z hSw; (try dsimp only at hSw); go_simp; (try with_reducible rfl))
        try simp only [Act.put, List.setIfInBounds_toArray, List.set_cons_zero, List.set_cons_succ]
        refine wpAnyH_take (i := 1) (oi := ?on2) (v := ?vn2) ?hin2 ?an2 ?bn2 ?cn2 ?qn2 (Or.inl ⟨?dn2, ?hyn2⟩) hHeld ?restn2
        case hin2 => (simp only [List.getElem?_toArray, List.getElem?_cons_succ, List.getElem?_cons_zero]; exact rfl)
        case an2 => kernel_rfl
        case bn2 => kernel_rfl
        case cn2 => kernel_rfl
        case qn2 => exact fun _ _ _ h => h
        case dn2 => rfl
        case hyn2 => (intro z hSw; (try dsimp only at hSw); go_simp; (try with_reducible rfl))
        try simp only [Act.put, List.setIfInBounds_toArray, List.set_cons_zero, List.set_cons_succ]
        refine wpAnyH_ready (rs := [2]) (by kernel_rfl) (by simp) ?_
        refine AllReadyH.cons (o := ?on3) ?hin3 ?restn3 AllReadyH.nil
        case hin3 => (simp only [List.getElem?_toArray, List.getElem?_cons_succ, List.getElem?_cons_zero]; exact rfl)
        intro K hK
        go_simp
        go_at_call 51
        refine (HI.out _).mono ?_
        rintro e w2 ⟨rfl, hgw2⟩
        have h2 : Grew w1 w2 := r1d.trans hgw2
        refine hK.out _ _ ?_ (fun hHeld => ?_)
        · (try dsimp only); first | with_reducible assumption | exact Grew.alloc ‹_› _
        clear hK K
        try simp only [Act.put, List.setIfInBounds_toArray, List.set_cons_zero, List.set_cons_succ]
        refine wpAnyH_take (i := 3) (oi := ?on4) (v := ?vn4) ?hin4 ?an4 ?bn4 ?cn4 ?qn4 (Or.inl ⟨?dn4, ?hyn4⟩) hHeld ?restn4
        case hin4 => (simp only [List.getElem?_toArray, List.getElem?_cons_succ, List.getElem?_cons_zero]; exact rfl)
        case an4 => kernel_rfl
        case bn4 => kernel_rfl
        case cn4 => kernel_rfl
        case qn4 => exact fun _ _ _ h => h
        case dn4 => rfl
        case hyn4 => (intro z hSw; (try dsimp only at hSw); go_simp; (try with_reducible rfl))
        try simp only [Act.put, List.setIfInBounds_toArray, List.set_cons_zero, List.set_cons_succ]
        refine wpAnyH_take (i := 4) (oi := ?on5) (v := ?vn5) ?hin5 ?an5 ?bn5 ?cn5 ?qn5 (Or.inl ⟨?dn5, ?hyn5⟩) hHeld ?restn5
        case hin5 => (simp only [List.getElem?_toArray, List.getElem?_cons_succ, List.getElem?_cons_zero]; exact rfl)
        case an5 => kernel_rfl
        case bn5 => kernel_rfl
        case cn5 => kernel_rfl
        case qn5 => exact fun _ _ _ h => h
        case dn5 => rfl
        case hyn5 => (intro z hSw; (try dsimp only at hSw); go_simp; (try with_reducible rfl))
        try simp only [Act.put, List.setIfInBounds_toArray, List.set_cons_zero, List.set_cons_succ]
        refine wpAnyH_take (i := 5) (oi := ?on6) (v := ?vn6) ?hin6 ?an6 ?bn6 ?cn6 ?qn6 (Or.inl ⟨?dn6, ?hyn6⟩) hHeld ?restn6
        case hin6 => (simp only [List.getElem?_toArray, List.getElem?_cons_succ, List.getElem?_cons_zero]; exact rfl)
        case an6 => kernel_rfl
        case bn6 => kernel_rfl
        case cn6 => kernel_rfl
        case qn6 => exact fun _ _ _ h => h
        case dn6 => rfl
        case hyn6 => (intro z hSw; (try dsimp only at hSw); go_simp; (try with_reducible rfl))
        try simp only [Act.put, List.setIfInBounds_toArray, List.set_cons_zero, List.set_cons_succ]
        refine wpAnyH_take (i := 6) (oi := ?on7) (v := ?vn7) ?hin7 ?an7 ?bn7 ?cn7 ?qn7 (Or.inl ⟨?dn7, ?hyn7⟩) hHeld ?restn7
        case hin7 => (simp only [List.getElem?_toArray, List.getElem?_cons_succ, List.getElem?_cons_zero]; exact rfl)
        case an7 => kernel_rfl
        case bn7 => kernel_rfl
        case cn7 => kernel_rfl
        case qn7 => exact fun _ _ _ h => h
        case dn7 => rfl
        case hyn7 => (intro z hSw; (try dsimp only at hSw); go_simp; (try with_reducible rfl))
        try simp only [Act.put, List.setIfInBounds_toArray, List.set_cons_zero, List.set_cons_succ]
        refine wpAnyH_take (i := 7) (oi := ?on8) (v := ?vn8) ?hin8 ?an8 ?bn8 ?cn8 ?qn8 (Or.inl ⟨?dn8, ?hyn8⟩) hHeld ?restn8
        case hin8 => (simp only [List.getElem?_toArray, List.getElem?_cons_succ, List.getElem?_cons_zero]; exact rfl)
        case an8 => kernel_rfl
        case bn8 => kernel_rfl
        case cn8 => kernel_rfl
        case qn8 => exact fun _ _ _ h => h
        case dn8 => rfl
        case hyn8 => (intro z hSw; (try dsimp only at hSw); go_simp; (try with_reducible rfl))
        try simp only [Act.put, List.setIfInBounds_toArray, List.set_cons_zero, List.set_cons_succ]
        refine wpAnyH_take (i := 8) (oi := ?on9) (v := ?vn9) ?hin9 ?an9 ?bn9 ?cn9 ?qn9 (Or.inl ⟨?dn9, ?hyn9⟩) hHeld ?restn9
        case hin9 => (simp only [List.getElem?_toArray, List.getElem?_cons_succ, List.getElem?_cons_zero]; exact rfl)
        case an9 => kernel_rfl
        case bn9 => kernel_rfl
        case cn9 => kernel_rfl
        case qn9 => exact fun _ _ _ h => h
        case dn9 => rfl
        case hyn9 => (intro z hSw; (try dsimp only at hSw); go_simp; (try with_reducible rfl))
        try simp only [Act.put, List.setIfInBounds_toArray, List.set_cons_zero, List.set_cons_succ]
        refine wpAnyH_take (i := 9) (oi := ?on10) (v := ?vn10) ?hin10 ?an10 ?bn10 ?cn10 ?qn10 (Or.inl ⟨?dn10, ?hyn10⟩) hHeld ?restn10
        case hin10 => (simp only [List.getElem?_toArray, List.getElem?_cons_succ, List.getElem?_cons_zero]; exact rfl)
        case an10 => kernel_rfl
        case bn10 => kernel_rfl
        case cn10 => kernel_rfl
        case qn10 => exact fun _ _ _ h => h
        case dn10 => rfl
        case hyn10 => (intro z hSw; (try dsimp only at hSw); go_simp; (try with_reducible rfl))
        try simp only [Act.put, List.setIfInBounds_toArray, List.set_cons_zero, List.set_cons_succ]
        refine wpAnyH_ready (rs := [10]) (by kernel_rfl) (by simp) ?_
        refine AllReadyH.cons (o := ?on11) ?hin11 ?restn11 AllReadyH.nil
        case hin11 => (simp only [List.getElem?_toArray, List.getElem?_cons_succ, List.getElem?_cons_zero]; exact rfl)
        intro K hK
        go_simp
        go_at_call 43
        refine (HO.out _).mono ?_
        rintro e w3 ⟨rfl, hgw3⟩
        have h3 : Grew w1 w3 := h2.trans hgw3
        refine hK.out _ _ ?_ (fun hHeld => ?_)
        · (try dsimp only); first | with_reducible assumption | exact Grew.alloc ‹_› _
        clear hK K
        try simp only [Act.put, List.setIfInBounds_toArray, List.set_cons_zero, List.set_cons_succ]
        refine wpAnyH_take (i := 11) (oi := ?on12) (v := ?vn12) ?hin12 ?an12 ?bn12 ?cn12 ?qn12 (Or.inl ⟨?dn12, ?hyn12⟩) hHeld ?restn12
        case hin12 => (simp only [List.getElem?_toArray, List.getElem?_cons_succ, List.getElem?_cons_zero]; exact rfl)
        case an12 => kernel_rfl
        case bn12 => kernel_rfl
        case cn12 => kernel_rfl
        case qn12 => exact fun _ _ _ h => h
        case dn12 => rfl
        case hyn12 => (intro z hSw; (try dsimp only at hSw); go_simp; (try with_reducible rfl))
        try simp only [Act.put, List.setIfInBounds_toArray, List.set_cons_zero, List.set_cons_succ]
        refine wpAnyH_take (i := 12) (oi := ?on13) (v := ?vn13) ?hin13 ?an13 ?bn13 ?cn13 ?qn13 (Or.inl ⟨?dn13, ?hyn13⟩) hHeld ?restn13
        case hin13 => (simp only [List.getElem?_toArray, List.getElem?_cons_succ, List.getElem?_cons_zero]; exact rfl)
        case an13 => kernel_rfl
        case bn13 => kernel_rfl
        case cn13 => kernel_rfl
        case qn13 => exact fun _ _ _ h => h
        case dn13 => rfl
        case hyn13 => (intro z hSw; (try dsimp only at hSw); go_simp; (try with_reducible rfl))
        try simp only [Act.put, List.setIfInBounds_toArray, List.set_cons_zero, List.set_cons_succ]
        refine wpAnyH_take (i := 13) (oi := ?on14) (v := ?vn14) ?hin14 ?an14 ?bn14 ?cn14 ?qn14 (Or.inl ⟨?dn14, ?hyn14⟩) hHeld ?restn14
        case hin14 => (simp only [List.getElem?_toArray, List.getElem?_cons_succ, List.getElem?_cons_zero]; exact rfl)
        case an14 => kernel_rfl
        case bn14 => kernel_rfl
        case cn14 => kernel_rfl
        case qn14 => exact fun _ _ _ h => h
        case dn14 => rfl
        case hyn14 => (intro z hSw; (try dsimp only at hSw); go_simp; (try with_reducible rfl))
        try simp only [Act.put, List.setIfInBounds_toArray, List.set_cons_zero, List.set_cons_succ]
        refine wpAnyH_take (i := 14) (oi := ?on15) (v := ?vn15) ?hin15 ?an15 ?bn15 ?cn15 ?qn15 (Or.inl ⟨?dn15, ?hyn15⟩) hHeld ?restn15
        case hin15 => (simp only [List.getElem?_toArray, List.getElem?_cons_succ, List.getElem?_cons_zero]; exact rfl)
        case an15 => kernel_rfl
        case bn15 => kernel_rfl
        case cn15 => kernel_rfl
        case qn15 => exact fun _ _ _ h => h
        case dn15 => rfl
        case hyn15 => (intro z hSw; (try dsimp only at hSw); go_simp; (try with_reducible rfl))
        try simp only [Act.put, List.setIfInBounds_toArray, List.set_cons_zero, List.set_cons_succ]
        refine wpAnyH_take (i := 15) (oi := ?on16) (v := ?vn16) ?hin16 ?an16 ?bn16 ?cn16 ?qn16 (Or.inl ⟨?dn16, ?hyn16⟩) hHeld ?restn16
        case hin16 => (simp only [List.getElem?_toArray, List.getElem?_cons_succ, List.getElem?_cons_zero]; exact rfl)
        case an16 => kernel_rfl
        case bn16 => kernel_rfl
        case cn16 => kernel_rfl
        case qn16 => exact fun _ _ _ h => h
        case dn16 => rfl
        case hyn16 => (intro z hSw; (try dsimp only at hSw); go_simp; (try with_reducible rfl))
        try simp only [Act.put, List.setIfInBounds_toArray, List.set_cons_zero, List.set_cons_succ]
        refine wpAnyH_take (i := 16) (oi := ?on17) (v := ?vn17) ?hin17 ?an17 ?bn17 ?cn17 ?qn17 (Or.inl ⟨?dn17, ?hyn17⟩) hHeld ?restn17
        case hin17 => (simp only [List.getElem?_toArray, List.getElem?_cons_succ, List.getElem?_cons_zero]; exact rfl)
        case an17 => kernel_rfl
        case bn17 => kernel_rfl
        case cn17 => kernel_rfl
        case qn17 => exact fun _ _ _ h => h
        case dn17 => rfl
        case hyn17 => (intro z hSw; (try dsimp only at hSw); go_simp; (try with_reducible rfl))
        try simp only [Act.put, List.setIfInBounds_toArray, List.set_cons_zero, List.set_cons_succ]
        refine wpAnyH_take (i := 17) (oi := ?on18) (v := ?vn18) ?hin18 ?an18 ?bn18 ?cn18 ?qn18 (Or.inl ⟨?dn18, ?hyn18⟩) hHeld ?restn18
        case hin18 => (simp only [List.getElem?_toArray, List.getElem?_cons_succ, List.getElem?_cons_zero]; exact rfl)
        case an18 => kernel_rfl
        case bn18 => kernel_rfl
        case cn18 => kernel_rfl
        case qn18 => exact fun _ _ _ h => h
        case dn18 => rfl
        case hyn18 => (intro z hSw; (try dsimp only at hSw); go_simp; (try with_reducible rfl))
        try simp only [Act.put, List.setIfInBounds_toArray, List.set_cons_zero, List.set_cons_succ]
        refine wpAnyH_ready (rs := [18]) (by kernel_rfl) (by simp) ?_
        refine AllReadyH.cons (o := ?on19) ?hin19 ?restn19 AllReadyH.nil
        case hin19 => (simp only [List.getElem?_toArray, List.getElem?_cons_succ, List.getElem?_cons_zero]; exact rfl)
        intro K hK
        go_simp
        go_at_call 20
        refine (HM.out _ (HG.out.trans h3)).mono ?_
        rintro e w4 ⟨rfl, hgw4⟩
        have h4 : Grew w1 w4 := h3.trans hgw4
        refine hK.out _ _ ?_ (fun hHeld => ?_)
        · (try dsimp only); first | with_reducible assumption | exact Grew.alloc ‹_› _
        clear hK K
        try simp only [Act.put, List.setIfInBounds_toArray, List.set_cons_zero, List.set_cons_succ]
        refine wpAnyH_take (i := 19) (oi := ?on20) (v := ?vn20) ?hin20 ?an20 ?bn20 ?cn20 ?qn20 (Or.inl ⟨?dn20, ?hyn20⟩) hHeld ?restn20
        case hin20 => (simp only [List.getElem?_toArray, List.getElem?_cons_succ, List.getElem?_cons_zero]; exact rfl)
        case an20 => kernel_rfl
        case bn20 => kernel_rfl
        case cn20 => kernel_rfl
        case qn20 => exact fun _ _ _ h => h
        case dn20 => rfl
        case hyn20 => (intro z hSw; (try dsimp only at hSw); go_simp; (try with_reducible rfl))
        try simp only [Act.put, List.setIfInBounds_toArray, List.set_cons_zero, List.set_cons_succ]
        refine wpAnyH_take (i := 20) (oi := ?on21) (v := ?vn21) ?hin21 ?an21 ?bn21 ?cn21 ?qn21 (Or.inl ⟨?dn21, ?hyn21⟩) hHeld ?restn21
        case hin21 => (simp only [List.getElem?_toArray, List.getElem?_cons_succ, List.getElem?_cons_zero]; exact rfl)
        case an21 => kernel_rfl
        case bn21 => kernel_rfl
        case cn21 => kernel_rfl
        case qn21 => exact fun _ _ _ h => h
        case dn21 => rfl
        case hyn21 => (intro z hSw; (try dsimp only at hSw); go_simp; (try with_reducible rfl))
        try simp only [Act.put, List.setIfInBounds_toArray, List.set_cons_zero, List.set_cons_succ]
        refine wpAnyH_done (by kernel_rfl) ?_ _
        go_wp2_with fail
        go_ret
        exact ⟨rfl, HG.out.trans h4⟩
      | true =>
        rw [h3] at HM
        rw [Bool.true_and]
        obtain ⟨hz, hlt⟩ := nats_ok h3
        have hln : L.length = 2 ^ N := by omega
        have hit : ∀ i, it L i = ((nt (nats L) i : Nat) : Int) := fun i => by rw [← hz, nats_zs9, it_zs9]
        have hnl : (nats L).length = L.length := nats_len L
        rcases h.open_ with ⟨_, h0⟩ | ⟨b, o, c, rfl, hc, hm, hb, hf⟩
        · rw [h0] at hln; simp at hln; omega
        have hcell : ∀ i, i < 2 ^ N → ∀ W, Grew w1 W → W.cell? ⟨b, o + i, none⟩ = some (.int .i64 ((nt (nats L) i : Nat) : Int)) := fun i hi W hW => by rw [← hit]; exact hf i (by omega) W (HG.out.trans hW)
        have hsm : ∀ i, nt (nats L) i < 32 := fun i => by
          by_cases hi : i < (nats L).length
          · exact Nat.lt_of_lt_of_le (hlt _ (nt_mem hi)) hp32
          · unfold nt
            rw [List.getD_eq_getElem?_getD, List.getElem?_eq_none (by omega)]
            decide
        have HME : Hid ((∀ x y, y < x → x < 2 ^ N → nt (nats L) (x &&& y) = nt (nats L) x &&& nt (nats L) y) → meetB (nats L) = true) := Lib.hid (fun h => allB_iff.2 fun x hx => allB_iff.2 fun y hy => decide_eq_true (h x y hy (by omega)))
        have HMF : Hid (∀ x y, y < x → x < 2 ^ N → nt (nats L) (x &&& y) ≠ nt (nats L) x &&& nt (nats L) y → meetB (nats L) = false) := Lib.hid (fun x y hy hx hne => by
          cases hmb : meetB (nats L) with
          | false => rfl
          | true => exact absurd (of_decide_eq_true (allB_iff.1 (allB_iff.1 hmb x (by omega)) y hy)) hne)
        have HAL := Lib.hid (fun x y (hx : x < 2 ^ N) => (and_lt (y := y) hx : x &&& y < 2 ^ N))
        have HC := Lib.hid hcell
        have hfl : full N < 2 ^ N := full_lt N
        have hfp : full N + 1 = 2 ^ N := by omega
        rw [hln] at hc hw1 y1 HM ⊢
        clear h hf hit hcell hz hlt h3 hln hnl h2 hfe
        generalize meetB (nats L) = MB at *
        generalize nats L = B at *
        generalize full N = F at *
        generalize hP : (2 : Nat) ^ N = P at *
        clear hP
        obtain ⟨DD, hDD⟩ : ∃ DD, decide (nt B F = F) = DD := ⟨_, rfl⟩
        rw [hDD]
        go_enter Tryz.func19, Tryz.ntmps19
        go_wp2_with fail
        simp only [← hw1]
        clear hw1
        refine wp_region_held_drew (S := fun w' => Grew w1 w') (by kernel_rfl) r1d (fun hHeld => ?_)
        refine wpAnyH_take (i := 0) (oi := ?on22) (v := ?vn22) ?hin22 ?an22 ?bn22 ?cn22 ?qn22 (Or.inl ⟨?dn22, ?hyn22⟩) hHeld ?restn22
        case hin22 => (simp only [List.getElem?_toArray, List.getElem?_cons_zero]; exact rfl)
        case an22 => kernel_rfl
        case bn22 => kernel_rfl
        case cn22 => kernel_rfl
        case qn22 => exact fun _ _ _ h => h
        case dn22 => rfl
        case hyn22 => (intro z hSw; (try dsimp only at hSw); go_simp; (try with_reducible rfl))
        try simp only [Act.put, List.setIfInBounds_toArray, List.set_cons_zero, List.set_cons_succ]
        refine wpAnyH_take (i := 1) (oi := ?on23) (v := ?vn23) ?hin23 ?an23 ?bn23 ?cn23 ?qn23 (Or.inl ⟨?dn23, ?hyn23⟩) hHeld ?restn23
        case hin23 => (simp only [List.getElem?_toArray, List.getElem?_cons_succ, List.getElem?_cons_zero]; exact rfl)
        case an23 => kernel_rfl
        case bn23 => kernel_rfl
        case cn23 => kernel_rfl
        case qn23 => exact fun _ _ _ h => h
        case dn23 => rfl
        case hyn23 => (intro z hSw; (try dsimp only at hSw); go_simp; (try with_reducible rfl))
        try simp only [Act.put, List.setIfInBounds_toArray, List.set_cons_zero, List.set_cons_succ]
        refine wpAnyH_ready (rs := [2]) (by kernel_rfl) (by simp) ?_
        refine AllReadyH.cons (o := ?on24) ?hin24 ?restn24 AllReadyH.nil
        case hin24 => (simp only [List.getElem?_toArray, List.getElem?_cons_succ, List.getElem?_cons_zero]; exact rfl)
        intro K hK
        go_simp
        go_at_call 51
        refine (HI.out _).mono ?_
        rintro e w2 ⟨rfl, hgw2⟩
        have h2 : Grew w1 w2 := r1d.trans hgw2
        refine hK.out _ _ ?_ (fun hHeld => ?_)
        · (try dsimp only); first | with_reducible assumption | exact Grew.alloc ‹_› _
        clear hK K
        try simp only [Act.put, List.setIfInBounds_toArray, List.set_cons_zero, List.set_cons_succ]
        refine wpAnyH_take (i := 3) (oi := ?on25) (v := ?vn25) ?hin25 ?an25 ?bn25 ?cn25 ?qn25 (Or.inl ⟨?dn25, ?hyn25⟩) hHeld ?restn25
        case hin25 => (simp only [List.getElem?_toArray, List.getElem?_cons_succ, List.getElem?_cons_zero]; exact rfl)
        case an25 => kernel_rfl
        case bn25 => kernel_rfl
        case cn25 => kernel_rfl
        case qn25 => exact fun _ _ _ h => h
        case dn25 => rfl
        case hyn25 => (intro z hSw; (try dsimp only at hSw); go_simp; (try with_reducible rfl))
        try simp only [Act.put, List.setIfInBounds_toArray, List.set_cons_zero, List.set_cons_succ]
        refine wpAnyH_take (i := 4) (oi := ?on26) (v := ?vn26) ?hin26 ?an26 ?bn26 ?cn26 ?qn26 (Or.inl ⟨?dn26, ?hyn26⟩) hHeld ?restn26
        case hin26 => (simp only [List.getElem?_toArray, List.getElem?_cons_succ, List.getElem?_cons_zero]; exact rfl)
        case an26 => kernel_rfl
        case bn26 => kernel_rfl
        case cn26 => kernel_rfl
        case qn26 => exact fun _ _ _ h => h
        case dn26 => rfl
        case hyn26 => (intro z hSw; (try dsimp only at hSw); go_simp; (try with_reducible rfl))
        try simp only [Act.put, List.setIfInBounds_toArray, List.set_cons_zero, List.set_cons_succ]
        refine wpAnyH_take (i := 5) (oi := ?on27) (v := ?vn27) ?hin27 ?an27 ?bn27 ?cn27 ?qn27 (Or.inl ⟨?dn27, ?hyn27⟩) hHeld ?restn27
        case hin27 => (simp only [List.getElem?_toArray, List.getElem?_cons_succ, List.getElem?_cons_zero]; exact rfl)
        case an27 => kernel_rfl
        case bn27 => kernel_rfl
        case cn27 => kernel_rfl
        case qn27 => exact fun _ _ _ h => h
        case dn27 => rfl
        case hyn27 => (intro z hSw; (try dsimp only at hSw); go_simp; (try with_reducible rfl))
        try simp only [Act.put, List.setIfInBounds_toArray, List.set_cons_zero, List.set_cons_succ]
        refine wpAnyH_take (i := 6) (oi := ?on28) (v := ?vn28) ?hin28 ?an28 ?bn28 ?cn28 ?qn28 (Or.inl ⟨?dn28, ?hyn28⟩) hHeld ?restn28
        case hin28 => (simp only [List.getElem?_toArray, List.getElem?_cons_succ, List.getElem?_cons_zero]; exact rfl)
        case an28 => kernel_rfl
        case bn28 => kernel_rfl
        case cn28 => kernel_rfl
        case qn28 => exact fun _ _ _ h => h
        case dn28 => rfl
        case hyn28 => (intro z hSw; (try dsimp only at hSw); go_simp; (try with_reducible rfl))
        try simp only [Act.put, List.setIfInBounds_toArray, List.set_cons_zero, List.set_cons_succ]
        refine wpAnyH_take (i := 7) (oi := ?on29) (v := ?vn29) ?hin29 ?an29 ?bn29 ?cn29 ?qn29 (Or.inl ⟨?dn29, ?hyn29⟩) hHeld ?restn29
        case hin29 => (simp only [List.getElem?_toArray, List.getElem?_cons_succ, List.getElem?_cons_zero]; exact rfl)
        case an29 => kernel_rfl
        case bn29 => kernel_rfl
        case cn29 => kernel_rfl
        case qn29 => exact fun _ _ _ h => h
        case dn29 => rfl
        case hyn29 => (intro z hSw; (try dsimp only at hSw); go_simp; (try with_reducible rfl))
        try simp only [Act.put, List.setIfInBounds_toArray, List.set_cons_zero, List.set_cons_succ]
        refine wpAnyH_take (i := 8) (oi := ?on30) (v := ?vn30) ?hin30 ?an30 ?bn30 ?cn30 ?qn30 (Or.inl ⟨?dn30, ?hyn30⟩) hHeld ?restn30
        case hin30 => (simp only [List.getElem?_toArray, List.getElem?_cons_succ, List.getElem?_cons_zero]; exact rfl)
        case an30 => kernel_rfl
        case bn30 => kernel_rfl
        case cn30 => kernel_rfl
        case qn30 => exact fun _ _ _ h => h
        case dn30 => rfl
        case hyn30 => (intro z hSw; (try dsimp only at hSw); go_simp; (try with_reducible rfl))
        try simp only [Act.put, List.setIfInBounds_toArray, List.set_cons_zero, List.set_cons_succ]
        refine wpAnyH_take (i := 9) (oi := ?on31) (v := ?vn31) ?hin31 ?an31 ?bn31 ?cn31 ?qn31 (Or.inl ⟨?dn31, ?hyn31⟩) hHeld ?restn31
        case hin31 => (simp only [List.getElem?_toArray, List.getElem?_cons_succ, List.getElem?_cons_zero]; exact rfl)
        case an31 => kernel_rfl
        case bn31 => kernel_rfl
        case cn31 => kernel_rfl
        case qn31 => exact fun _ _ _ h => h
        case dn31 => rfl
        case hyn31 => (intro z hSw; (try dsimp only at hSw); go_simp; (try with_reducible rfl))
        try simp only [Act.put, List.setIfInBounds_toArray, List.set_cons_zero, List.set_cons_succ]
        refine wpAnyH_ready (rs := [10]) (by kernel_rfl) (by simp) ?_
        refine AllReadyH.cons (o := ?on32) ?hin32 ?restn32 AllReadyH.nil
        case hin32 => (simp only [List.getElem?_toArray, List.getElem?_cons_succ, List.getElem?_cons_zero]; exact rfl)
        intro K hK
        go_simp
        go_at_call 43
        refine (HO.out _).mono ?_
        rintro e w3 ⟨rfl, hgw3⟩
        have h3 : Grew w1 w3 := h2.trans hgw3
        refine hK.out _ _ ?_ (fun hHeld => ?_)
        · (try dsimp only); first | with_reducible assumption | exact Grew.alloc ‹_› _
        clear hK K
        try simp only [Act.put, List.setIfInBounds_toArray, List.set_cons_zero, List.set_cons_succ]
        refine wpAnyH_take (i := 11) (oi := ?on33) (v := ?vn33) ?hin33 ?an33 ?bn33 ?cn33 ?qn33 (Or.inl ⟨?dn33, ?hyn33⟩) hHeld ?restn33
        case hin33 => (simp only [List.getElem?_toArray, List.getElem?_cons_succ, List.getElem?_cons_zero]; exact rfl)
        case an33 => kernel_rfl
        case bn33 => kernel_rfl
        case cn33 => kernel_rfl
        case qn33 => exact fun _ _ _ h => h
        case dn33 => rfl
        case hyn33 => (intro z hSw; (try dsimp only at hSw); go_simp; (try with_reducible rfl))
        try simp only [Act.put, List.setIfInBounds_toArray, List.set_cons_zero, List.set_cons_succ]
        refine wpAnyH_take (i := 12) (oi := ?on34) (v := ?vn34) ?hin34 ?an34 ?bn34 ?cn34 ?qn34 (Or.inl ⟨?dn34, ?hyn34⟩) hHeld ?restn34
        case hin34 => (simp only [List.getElem?_toArray, List.getElem?_cons_succ, List.getElem?_cons_zero]; exact rfl)
        case an34 => kernel_rfl
        case bn34 => kernel_rfl
        case cn34 => kernel_rfl
        case qn34 => exact fun _ _ _ h => h
        case dn34 => rfl
        case hyn34 => (intro z hSw; (try dsimp only at hSw); go_simp; (try with_reducible rfl))
        try simp only [Act.put, List.setIfInBounds_toArray, List.set_cons_zero, List.set_cons_succ]
        refine wpAnyH_take (i := 13) (oi := ?on35) (v := ?vn35) ?hin35 ?an35 ?bn35 ?cn35 ?qn35 (Or.inl ⟨?dn35, ?hyn35⟩) hHeld ?restn35
        case hin35 => (simp only [List.getElem?_toArray, List.getElem?_cons_succ, List.getElem?_cons_zero]; exact rfl)
        case an35 => kernel_rfl
        case bn35 => kernel_rfl
        case cn35 => kernel_rfl
        case qn35 => exact fun _ _ _ h => h
        case dn35 => rfl
        case hyn35 => (intro z hSw; (try dsimp only at hSw); go_simp; (try with_reducible rfl))
        try simp only [Act.put, List.setIfInBounds_toArray, List.set_cons_zero, List.set_cons_succ]
        refine wpAnyH_take (i := 14) (oi := ?on36) (v := ?vn36) ?hin36 ?an36 ?bn36 ?cn36 ?qn36 (Or.inl ⟨?dn36, ?hyn36⟩) hHeld ?restn36
        case hin36 => (simp only [List.getElem?_toArray, List.getElem?_cons_succ, List.getElem?_cons_zero]; exact rfl)
        case an36 => kernel_rfl
        case bn36 => kernel_rfl
        case cn36 => kernel_rfl
        case qn36 => exact fun _ _ _ h => h
        case dn36 => rfl
        case hyn36 => (intro z hSw; (try dsimp only at hSw); go_simp; (try with_reducible rfl))
        try simp only [Act.put, List.setIfInBounds_toArray, List.set_cons_zero, List.set_cons_succ]
        refine wpAnyH_take (i := 15) (oi := ?on37) (v := ?vn37) ?hin37 ?an37 ?bn37 ?cn37 ?qn37 (Or.inl ⟨?dn37, ?hyn37⟩) hHeld ?restn37
        case hin37 => (simp only [List.getElem?_toArray, List.getElem?_cons_succ, List.getElem?_cons_zero]; exact rfl)
        case an37 => kernel_rfl
        case bn37 => kernel_rfl
        case cn37 => kernel_rfl
        case qn37 => exact fun _ _ _ h => h
        case dn37 => rfl
        case hyn37 => (intro z hSw; (try dsimp only at hSw); go_simp; (try with_reducible rfl))
        try simp only [Act.put, List.setIfInBounds_toArray, List.set_cons_zero, List.set_cons_succ]
        refine wpAnyH_take (i := 16) (oi := ?on38) (v := ?vn38) ?hin38 ?an38 ?bn38 ?cn38 ?qn38 (Or.inl ⟨?dn38, ?hyn38⟩) hHeld ?restn38
        case hin38 => (simp only [List.getElem?_toArray, List.getElem?_cons_succ, List.getElem?_cons_zero]; exact rfl)
        case an38 => kernel_rfl
        case bn38 => kernel_rfl
        case cn38 => kernel_rfl
        case qn38 => exact fun _ _ _ h => h
        case dn38 => rfl
        case hyn38 => (intro z hSw; (try dsimp only at hSw); go_simp; (try with_reducible rfl))
        try simp only [Act.put, List.setIfInBounds_toArray, List.set_cons_zero, List.set_cons_succ]
        refine wpAnyH_take (i := 17) (oi := ?on39) (v := ?vn39) ?hin39 ?an39 ?bn39 ?cn39 ?qn39 (Or.inl ⟨?dn39, ?hyn39⟩) hHeld ?restn39
        case hin39 => (simp only [List.getElem?_toArray, List.getElem?_cons_succ, List.getElem?_cons_zero]; exact rfl)
        case an39 => kernel_rfl
        case bn39 => kernel_rfl
        case cn39 => kernel_rfl
        case qn39 => exact fun _ _ _ h => h
        case dn39 => rfl
        case hyn39 => (intro z hSw; (try dsimp only at hSw); go_simp; (try with_reducible rfl))
        try simp only [Act.put, List.setIfInBounds_toArray, List.set_cons_zero, List.set_cons_succ]
        refine wpAnyH_ready (rs := [18]) (by kernel_rfl) (by simp) ?_
        refine AllReadyH.cons (o := ?on40) ?hin40 ?restn40 AllReadyH.nil
        case hin40 => (simp only [List.getElem?_toArray, List.getElem?_cons_succ, List.getElem?_cons_zero]; exact rfl)
        intro K hK
        go_simp
        go_at_call 20
        refine (HM.out _ (HG.out.trans h3)).mono ?_
        rintro e w4 ⟨rfl, hgw4⟩
        have h4 : Grew w1 w4 := h3.trans hgw4
        refine hK.out _ _ ?_ (fun hHeld => ?_)
        · (try dsimp only); first | with_reducible assumption | exact Grew.alloc ‹_› _
        clear hK K
        try simp only [Act.put, List.setIfInBounds_toArray, List.set_cons_zero, List.set_cons_succ]
        refine wpAnyH_take (i := 19) (oi := ?on41) (v := ?vn41) ?hin41 ?an41 ?bn41 ?cn41 ?qn41 (Or.inl ⟨?dn41, ?hyn41⟩) hHeld ?restn41
        case hin41 => (simp only [List.getElem?_toArray, List.getElem?_cons_succ, List.getElem?_cons_zero]; exact rfl)
        case an41 => kernel_rfl
        case bn41 => kernel_rfl
        case cn41 => kernel_rfl
        case qn41 => exact fun _ _ _ h => h
        case dn41 => rfl
        case hyn41 => (intro z hSw; (try dsimp only at hSw); go_simp; (try with_reducible rfl))
        try simp only [Act.put, List.setIfInBounds_toArray, List.set_cons_zero, List.set_cons_succ]
        refine wpAnyH_take (i := 20) (oi := ?on42) (v := ?vn42) ?hin42 ?an42 ?bn42 ?cn42 ?qn42 (Or.inl ⟨?dn42, ?hyn42⟩) hHeld ?restn42
        case hin42 => (simp only [List.getElem?_toArray, List.getElem?_cons_succ, List.getElem?_cons_zero]; exact rfl)
        case an42 => kernel_rfl
        case bn42 => kernel_rfl
        case cn42 => kernel_rfl
        case qn42 => exact fun _ _ _ h => h
        case dn42 => rfl
        case hyn42 => (intro z hSw; (try dsimp only at hSw); go_simp; (try with_reducible rfl))
        try simp only [Act.put, List.setIfInBounds_toArray, List.set_cons_zero, List.set_cons_succ]
        refine wpAnyH_done (by kernel_rfl) ?_ _
        go_wp2_with fail
        refine (HF.out _).mono ?_
        rintro e w5 ⟨rfl, hg5⟩
        have h5 := h4.trans hg5
        have cF := HC.out F hfl _ h5
        have zF0 : (0 : Int) ≤ (F : Int) := Int.natCast_nonneg _
        have zF1 : (F : Int) < (P : Int) := Int.ofNat_lt.2 hfl
        have q1 := y1 _ h5
        by_cases hFF : nt B F = F
        · have HD := Lib.hid (hDD.symm.trans (decide_eq_true hFF))
          rw [hFF] at cF
          have hq9 : ((F : Int) != (F : Int)) = false := by simp
          clear hDD hFF
          go_wp2_with fail
          go_loopw [4] (fun i wr => ∃ x : Nat, x ≤ P ∧ i = .int .i64 (x : Int) ∧ Grew w1 wr ∧ Hid (∀ a b, b < a → a < x → nt B (a &&& b) = nt B a &&& nt B b)) (fun i _ => P - (intOf i).toNat)
          case atStart => exact ⟨0, by omega, rfl, h5, Lib.hid (fun a b _ ha => absurd ha (by omega))⟩
          case round =>
            obtain ⟨x, hx, rfl, hB, HI2⟩ := hrel
            by_cases hxl : x < P
            · have hle : (x : Int) ≤ (F : Int) := by omega
              have HLE := Lib.hid hle
              go_wp2_with fail
              go_loopw [5] (fun i wr => ∃ y : Nat, y ≤ x ∧ i = .int .i64 (y : Int) ∧ Grew w1 wr ∧ Hid (∀ b, b < y → nt B (x &&& b) = nt B x &&& nt B b)) (fun i _ => x - (intOf i).toNat)
              case atStart => exact ⟨0, by omega, rfl, hB, Lib.hid (fun b hb => absurd hb (by omega))⟩
              case round =>
                obtain ⟨y, hy, rfl, hB2, HI3⟩ := hrel
                by_cases hyl : y < x
                · have ha := and_i64 x y (by omega) (by omega)
                  have hal := HAL.out x y hxl
                  have c1 := HC.out (x &&& y) hal
                  have c2 := HC.out x hxl
                  have c3 := HC.out y (by omega)
                  have hb := and_i64 (nt B x) (nt B y) (by have := hsm x; omega) (by have := hsm y; omega)
                  have z1 : (0 : Int) ≤ ((x &&& y : Nat) : Int) := Int.natCast_nonneg _
                  have z2 : ((x &&& y : Nat) : Int) < (P : Int) := Int.ofNat_lt.2 hal
                  have HMX := Lib.hid (HMF.out x y hyl hxl)
                  by_cases he : nt B (x &&& y) = nt B x &&& nt B y
                  · have HI4 : Hid (∀ b, b < y + 1 → nt B (x &&& b) = nt B x &&& nt B b) := Lib.hid (fun b hb => by
                      by_cases hby : b = y
                      · subst hby; exact he
                      · exact HI3.out b (by omega))
                    rw [he] at c1
                    clear he HMX
                    generalize nt B x &&& nt B y = m at *
                    generalize nt B x = bx1 at *
                    generalize nt B y = by1 at *
                    generalize x &&& y = z at *
                    have hq3 : ((m : Int) != (m : Int)) = false := by simp
                    go_wp2_with fail
                    go_quiet (fail)
                    go_wp2_with fail
                    go_roundw
                    case rel => exact ⟨y + 1, by omega, by go_num, hB2.drewN _, HI4⟩
                    case measure => simp [intOf]; omega
                  · have hmf := Lib.hid (HMX.out he)
                    have hq3 : (((nt B (x &&& y) : Nat) : Int) != ((nt B x &&& nt B y : Nat) : Int)) = true := by rw [bne_iff_ne]; omega
                    clear he HMX
                    generalize nt B x &&& nt B y = m at *
                    generalize nt B (x &&& y) = m2 at *
                    generalize nt B x = bx1 at *
                    generalize nt B y = by1 at *
                    generalize x &&& y = z at *
                    go_wp2_with fail
                    go_quiet (fail)
                    go_wp2_with fail
                    go_ret
                    rw [hmf.out]
                    exact ⟨rfl, HG.out.trans (hB2.drewN _)⟩
                · obtain rfl : y = x := by omega
                  have HI4 : Hid (∀ a b, b < a → a < y + 1 → nt B (a &&& b) = nt B a &&& nt B b) := Lib.hid (fun a b hb ha => by
                    by_cases hay : a = y
                    · subst hay; exact HI3.out b hb
                    · exact HI2.out a b hb (by omega))
                  go_wp2_with fail
                  go_roundw
                  case rel => exact ⟨y + 1, by omega, by go_num, hB2, HI4⟩
                  case measure => simp [intOf]; omega
            · obtain rfl : x = P := by omega
              have hmt := Lib.hid (HME.out (fun a b hb ha => HI2.out a b hb ha))
              have hle : ((x : Int) ≤ (F : Int)) = False := eq_false (by omega)
              go_wp2_with fail
              go_ret
              rw [hmt.out, HD.out]
              exact ⟨rfl, HG.out.trans hB⟩
        · have HD := Lib.hid (hDD.symm.trans (decide_eq_false hFF))
          have hq9 : (((nt B F : Nat) : Int) != (F : Int)) = true := by rw [bne_iff_ne]; omega
          clear hDD hFF
          generalize nt B F = bF at *
          go_wp2_with fail
          go_ret
          rw [HD.out, Bool.and_false]
          exact ⟨rfl, HG.out.trans h5⟩
    · rw [decide_eq_false h2, Bool.false_and]
      have hq : ((L.length : Int) != ((2 ^ N : Nat) : Int)) = true := by simpa using h2
      obtain ⟨A, c, rfl⟩ := ints_slice h
      clear h h2 hfe hp32 hp0
      generalize L.length = l at *
      generalize full N = F at *
      generalize (2 : Nat) ^ N = P at *
      go_enter Tryz.func19, Tryz.ntmps19
      go_wp2_with fail
      simp only [← hw1]
      clear hw1
      refine wp_region_held_drew (S := fun w' => Grew w1 w') (by kernel_rfl) r1d (fun hHeld => ?_)
      refine wpAnyH_take (i := 0) (oi := ?on43) (v := ?vn43) ?hin43 ?an43 ?bn43 ?cn43 ?qn43 (Or.inl ⟨?dn43, ?hyn43⟩) hHeld ?restn43
      case hin43 => (simp only [List.getElem?_toArray, List.getElem?_cons_zero]; exact rfl)
      case an43 => kernel_rfl
      case bn43 => kernel_rfl
      case cn43 => kernel_rfl
      case qn43 => exact fun _ _ _ h => h
      case dn43 => rfl
      case hyn43 => (intro z hSw; (try dsimp only at hSw); go_simp; (try with_reducible rfl))
      try simp only [Act.put, List.setIfInBounds_toArray, List.set_cons_zero, List.set_cons_succ]
      refine wpAnyH_take (i := 1) (oi := ?on44) (v := ?vn44) ?hin44 ?an44 ?bn44 ?cn44 ?qn44 (Or.inl ⟨?dn44, ?hyn44⟩) hHeld ?restn44
      case hin44 => (simp only [List.getElem?_toArray, List.getElem?_cons_succ, List.getElem?_cons_zero]; exact rfl)
      case an44 => kernel_rfl
      case bn44 => kernel_rfl
      case cn44 => kernel_rfl
      case qn44 => exact fun _ _ _ h => h
      case dn44 => rfl
      case hyn44 => (intro z hSw; (try dsimp only at hSw); go_simp; (try with_reducible rfl))
      try simp only [Act.put, List.setIfInBounds_toArray, List.set_cons_zero, List.set_cons_succ]
      refine wpAnyH_ready (rs := [2]) (by kernel_rfl) (by simp) ?_
      refine AllReadyH.cons (o := ?on45) ?hin45 ?restn45 AllReadyH.nil
      case hin45 => (simp only [List.getElem?_toArray, List.getElem?_cons_succ, List.getElem?_cons_zero]; exact rfl)
      intro K hK
      go_simp
      go_at_call 51
      refine (HI.out _).mono ?_
      rintro e w2 ⟨rfl, hgw2⟩
      have h2 : Grew w1 w2 := r1d.trans hgw2
      refine hK.out _ _ ?_ (fun hHeld => ?_)
      · (try dsimp only); first | with_reducible assumption | exact Grew.alloc ‹_› _
      clear hK K
      try simp only [Act.put, List.setIfInBounds_toArray, List.set_cons_zero, List.set_cons_succ]
      refine wpAnyH_take (i := 3) (oi := ?on46) (v := ?vn46) ?hin46 ?an46 ?bn46 ?cn46 ?qn46 (Or.inl ⟨?dn46, ?hyn46⟩) hHeld ?restn46
      case hin46 => (simp only [List.getElem?_toArray, List.getElem?_cons_succ, List.getElem?_cons_zero]; exact rfl)
      case an46 => kernel_rfl
      case bn46 => kernel_rfl
      case cn46 => kernel_rfl
      case qn46 => exact fun _ _ _ h => h
      case dn46 => rfl
      case hyn46 => (intro z hSw; (try dsimp only at hSw); go_simp; (try with_reducible rfl))
      try simp only [Act.put, List.setIfInBounds_toArray, List.set_cons_zero, List.set_cons_succ]
      refine wpAnyH_take (i := 4) (oi := ?on47) (v := ?vn47) ?hin47 ?an47 ?bn47 ?cn47 ?qn47 (Or.inl ⟨?dn47, ?hyn47⟩) hHeld ?restn47
      case hin47 => (simp only [List.getElem?_toArray, List.getElem?_cons_succ, List.getElem?_cons_zero]; exact rfl)
      case an47 => kernel_rfl
      case bn47 => kernel_rfl
      case cn47 => kernel_rfl
      case qn47 => exact fun _ _ _ h => h
      case dn47 => rfl
      case hyn47 => (intro z hSw; (try dsimp only at hSw); go_simp; (try with_reducible rfl))
      try simp only [Act.put, List.setIfInBounds_toArray, List.set_cons_zero, List.set_cons_succ]
      refine wpAnyH_take (i := 5) (oi := ?on48) (v := ?vn48) ?hin48 ?an48 ?bn48 ?cn48 ?qn48 (Or.inl ⟨?dn48, ?hyn48⟩) hHeld ?restn48
      case hin48 => (simp only [List.getElem?_toArray, List.getElem?_cons_succ, List.getElem?_cons_zero]; exact rfl)
      case an48 => kernel_rfl
      case bn48 => kernel_rfl
      case cn48 => kernel_rfl
      case qn48 => exact fun _ _ _ h => h
      case dn48 => rfl
      case hyn48 => (intro z hSw; (try dsimp only at hSw); go_simp; (try with_reducible rfl))
      try simp only [Act.put, List.setIfInBounds_toArray, List.set_cons_zero, List.set_cons_succ]
      refine wpAnyH_take (i := 6) (oi := ?on49) (v := ?vn49) ?hin49 ?an49 ?bn49 ?cn49 ?qn49 (Or.inl ⟨?dn49, ?hyn49⟩) hHeld ?restn49
      case hin49 => (simp only [List.getElem?_toArray, List.getElem?_cons_succ, List.getElem?_cons_zero]; exact rfl)
      case an49 => kernel_rfl
      case bn49 => kernel_rfl
      case cn49 => kernel_rfl
      case qn49 => exact fun _ _ _ h => h
      case dn49 => rfl
      case hyn49 => (intro z hSw; (try dsimp only at hSw); go_simp; (try with_reducible rfl))
      try simp only [Act.put, List.setIfInBounds_toArray, List.set_cons_zero, List.set_cons_succ]
      refine wpAnyH_take (i := 7) (oi := ?on50) (v := ?vn50) ?hin50 ?an50 ?bn50 ?cn50 ?qn50 (Or.inl ⟨?dn50, ?hyn50⟩) hHeld ?restn50
      case hin50 => (simp only [List.getElem?_toArray, List.getElem?_cons_succ, List.getElem?_cons_zero]; exact rfl)
      case an50 => kernel_rfl
      case bn50 => kernel_rfl
      case cn50 => kernel_rfl
      case qn50 => exact fun _ _ _ h => h
      case dn50 => rfl
      case hyn50 => (intro z hSw; (try dsimp only at hSw); go_simp; (try with_reducible rfl))
      try simp only [Act.put, List.setIfInBounds_toArray, List.set_cons_zero, List.set_cons_succ]
      refine wpAnyH_take (i := 8) (oi := ?on51) (v := ?vn51) ?hin51 ?an51 ?bn51 ?cn51 ?qn51 (Or.inl ⟨?dn51, ?hyn51⟩) hHeld ?restn51
      case hin51 => (simp only [List.getElem?_toArray, List.getElem?_cons_succ, List.getElem?_cons_zero]; exact rfl)
      case an51 => kernel_rfl
      case bn51 => kernel_rfl
      case cn51 => kernel_rfl
      case qn51 => exact fun _ _ _ h => h
      case dn51 => rfl
      case hyn51 => (intro z hSw; (try dsimp only at hSw); go_simp; (try with_reducible rfl))
      try simp only [Act.put, List.setIfInBounds_toArray, List.set_cons_zero, List.set_cons_succ]
      refine wpAnyH_take (i := 9) (oi := ?on52) (v := ?vn52) ?hin52 ?an52 ?bn52 ?cn52 ?qn52 (Or.inl ⟨?dn52, ?hyn52⟩) hHeld ?restn52
      case hin52 => (simp only [List.getElem?_toArray, List.getElem?_cons_succ, List.getElem?_cons_zero]; exact rfl)
      case an52 => kernel_rfl
      case bn52 => kernel_rfl
      case cn52 => kernel_rfl
      case qn52 => exact fun _ _ _ h => h
      case dn52 => rfl
      case hyn52 => (intro z hSw; (try dsimp only at hSw); go_simp; (try with_reducible rfl))
      try simp only [Act.put, List.setIfInBounds_toArray, List.set_cons_zero, List.set_cons_succ]
      refine wpAnyH_ready (rs := [10]) (by kernel_rfl) (by simp) ?_
      refine AllReadyH.cons (o := ?on53) ?hin53 ?restn53 AllReadyH.nil
      case hin53 => (simp only [List.getElem?_toArray, List.getElem?_cons_succ, List.getElem?_cons_zero]; exact rfl)
      intro K hK
      go_simp
      go_at_call 43
      refine (HO.out _).mono ?_
      rintro e w3 ⟨rfl, hgw3⟩
      have h3 : Grew w1 w3 := h2.trans hgw3
      refine hK.out _ _ ?_ (fun hHeld => ?_)
      · (try dsimp only); first | with_reducible assumption | exact Grew.alloc ‹_› _
      clear hK K
      try simp only [Act.put, List.setIfInBounds_toArray, List.set_cons_zero, List.set_cons_succ]
      refine wpAnyH_take (i := 11) (oi := ?on54) (v := ?vn54) ?hin54 ?an54 ?bn54 ?cn54 ?qn54 (Or.inl ⟨?dn54, ?hyn54⟩) hHeld ?restn54
      case hin54 => (simp only [List.getElem?_toArray, List.getElem?_cons_succ, List.getElem?_cons_zero]; exact rfl)
      case an54 => kernel_rfl
      case bn54 => kernel_rfl
      case cn54 => kernel_rfl
      case qn54 => exact fun _ _ _ h => h
      case dn54 => rfl
      case hyn54 => (intro z hSw; (try dsimp only at hSw); go_simp; (try with_reducible rfl))
      try simp only [Act.put, List.setIfInBounds_toArray, List.set_cons_zero, List.set_cons_succ]
      refine wpAnyH_take (i := 12) (oi := ?on55) (v := ?vn55) ?hin55 ?an55 ?bn55 ?cn55 ?qn55 (Or.inl ⟨?dn55, ?hyn55⟩) hHeld ?restn55
      case hin55 => (simp only [List.getElem?_toArray, List.getElem?_cons_succ, List.getElem?_cons_zero]; exact rfl)
      case an55 => kernel_rfl
      case bn55 => kernel_rfl
      case cn55 => kernel_rfl
      case qn55 => exact fun _ _ _ h => h
      case dn55 => rfl
      case hyn55 => (intro z hSw; (try dsimp only at hSw); go_simp; (try with_reducible rfl))
      try simp only [Act.put, List.setIfInBounds_toArray, List.set_cons_zero, List.set_cons_succ]
      refine wpAnyH_take (i := 13) (oi := ?on56) (v := ?vn56) ?hin56 ?an56 ?bn56 ?cn56 ?qn56 (Or.inl ⟨?dn56, ?hyn56⟩) hHeld ?restn56
      case hin56 => (simp only [List.getElem?_toArray, List.getElem?_cons_succ, List.getElem?_cons_zero]; exact rfl)
      case an56 => kernel_rfl
      case bn56 => kernel_rfl
      case cn56 => kernel_rfl
      case qn56 => exact fun _ _ _ h => h
      case dn56 => rfl
      case hyn56 => (intro z hSw; (try dsimp only at hSw); go_simp; (try with_reducible rfl))
      try simp only [Act.put, List.setIfInBounds_toArray, List.set_cons_zero, List.set_cons_succ]
      refine wpAnyH_take (i := 14) (oi := ?on57) ?hin57 ?an57 ?bn57 ?cn57 ?qn57 (Or.inr ⟨?dn57, rfl⟩) hHeld ?restn57
      case hin57 => (simp only [List.getElem?_toArray, List.getElem?_cons_succ, List.getElem?_cons_zero]; exact rfl)
      case an57 => kernel_rfl
      case bn57 => kernel_rfl
      case cn57 => kernel_rfl
      case qn57 => exact fun _ _ _ h => h
      case dn57 => rfl
      try simp only [Act.put, List.setIfInBounds_toArray, List.set_cons_zero, List.set_cons_succ]
      refine wpAnyH_take (i := 15) (oi := ?on58) ?hin58 ?an58 ?bn58 ?cn58 ?qn58 (Or.inr ⟨?dn58, rfl⟩) hHeld ?restn58
      case hin58 => (simp only [List.getElem?_toArray, List.getElem?_cons_succ, List.getElem?_cons_zero]; exact rfl)
      case an58 => kernel_rfl
      case bn58 => kernel_rfl
      case cn58 => kernel_rfl
      case qn58 => exact fun _ _ _ h => h
      case dn58 => rfl
      try simp only [Act.put, List.setIfInBounds_toArray, List.set_cons_zero, List.set_cons_succ]
      refine wpAnyH_take (i := 16) (oi := ?on59) ?hin59 ?an59 ?bn59 ?cn59 ?qn59 (Or.inr ⟨?dn59, rfl⟩) hHeld ?restn59
      case hin59 => (simp only [List.getElem?_toArray, List.getElem?_cons_succ, List.getElem?_cons_zero]; exact rfl)
      case an59 => kernel_rfl
      case bn59 => kernel_rfl
      case cn59 => kernel_rfl
      case qn59 => exact fun _ _ _ h => h
      case dn59 => rfl
      try simp only [Act.put, List.setIfInBounds_toArray, List.set_cons_zero, List.set_cons_succ]
      refine wpAnyH_take (i := 17) (oi := ?on60) ?hin60 ?an60 ?bn60 ?cn60 ?qn60 (Or.inr ⟨?dn60, rfl⟩) hHeld ?restn60
      case hin60 => (simp only [List.getElem?_toArray, List.getElem?_cons_succ, List.getElem?_cons_zero]; exact rfl)
      case an60 => kernel_rfl
      case bn60 => kernel_rfl
      case cn60 => kernel_rfl
      case qn60 => exact fun _ _ _ h => h
      case dn60 => rfl
      try simp only [Act.put, List.setIfInBounds_toArray, List.set_cons_zero, List.set_cons_succ]
      refine wpAnyH_take (i := 18) (oi := ?on61) ?hin61 ?an61 ?bn61 ?cn61 ?qn61 (Or.inr ⟨?dn61, rfl⟩) hHeld ?restn61
      case hin61 => (simp only [List.getElem?_toArray, List.getElem?_cons_succ, List.getElem?_cons_zero]; exact rfl)
      case an61 => kernel_rfl
      case bn61 => kernel_rfl
      case cn61 => kernel_rfl
      case qn61 => exact fun _ _ _ h => h
      case dn61 => rfl
      try simp only [Act.put, List.setIfInBounds_toArray, List.set_cons_zero, List.set_cons_succ]
      refine wpAnyH_take (i := 19) (oi := ?on62) ?hin62 ?an62 ?bn62 ?cn62 ?qn62 (Or.inr ⟨?dn62, rfl⟩) hHeld ?restn62
      case hin62 => (simp only [List.getElem?_toArray, List.getElem?_cons_succ, List.getElem?_cons_zero]; exact rfl)
      case an62 => kernel_rfl
      case bn62 => kernel_rfl
      case cn62 => kernel_rfl
      case qn62 => exact fun _ _ _ h => h
      case dn62 => rfl
      try simp only [Act.put, List.setIfInBounds_toArray, List.set_cons_zero, List.set_cons_succ]
      refine wpAnyH_take (i := 20) (oi := ?on63) (v := ?vn63) ?hin63 ?an63 ?bn63 ?cn63 ?qn63 (Or.inl ⟨?dn63, ?hyn63⟩) hHeld ?restn63
      case hin63 => (simp only [List.getElem?_toArray, List.getElem?_cons_succ, List.getElem?_cons_zero]; exact rfl)
      case an63 => kernel_rfl
      case bn63 => kernel_rfl
      case cn63 => kernel_rfl
      case qn63 => exact fun _ _ _ h => h
      case dn63 => rfl
      case hyn63 => (intro z hSw; (try dsimp only at hSw); go_simp; (try with_reducible rfl))
      try simp only [Act.put, List.setIfInBounds_toArray, List.set_cons_zero, List.set_cons_succ]
      refine wpAnyH_done (by kernel_rfl) ?_ _
      go_wp2_with fail
      go_ret
      exact ⟨rfl, HG.out.trans h3⟩
  · rw [decide_eq_false h1] at HI
    have eA : algB n L = false := by unfold algB; rw [decide_eq_false h1, Bool.false_and]
    rw [eA]
    obtain ⟨A, c, rfl⟩ := ints_slice h
    clear h h1 eA
    generalize L.length = l at *
    go_enter Tryz.func19, Tryz.ntmps19
    go_wp2_with fail
    simp only [← hw1]
    clear hw1
    refine wp_region_held_drew (S := fun w' => Grew w1 w') (by kernel_rfl) r1d (fun hHeld => ?_)
    refine wpAnyH_take (i := 0) (oi := ?on64) (v := ?vn64) ?hin64 ?an64 ?bn64 ?cn64 ?qn64 (Or.inl ⟨?dn64, ?hyn64⟩) hHeld ?restn64
    case hin64 => (simp only [List.getElem?_toArray, List.getElem?_cons_zero]; exact rfl)
    case an64 => kernel_rfl
    case bn64 => kernel_rfl
    case cn64 => kernel_rfl
    case qn64 => exact fun _ _ _ h => h
    case dn64 => rfl
    case hyn64 => (intro z hSw; (try dsimp only at hSw); go_simp; (try with_reducible rfl))
    try simp only [Act.put, List.setIfInBounds_toArray, List.set_cons_zero, List.set_cons_succ]
    refine wpAnyH_take (i := 1) (oi := ?on65) (v := ?vn65) ?hin65 ?an65 ?bn65 ?cn65 ?qn65 (Or.inl ⟨?dn65, ?hyn65⟩) hHeld ?restn65
    case hin65 => (simp only [List.getElem?_toArray, List.getElem?_cons_succ, List.getElem?_cons_zero]; exact rfl)
    case an65 => kernel_rfl
    case bn65 => kernel_rfl
    case cn65 => kernel_rfl
    case qn65 => exact fun _ _ _ h => h
    case dn65 => rfl
    case hyn65 => (intro z hSw; (try dsimp only at hSw); go_simp; (try with_reducible rfl))
    try simp only [Act.put, List.setIfInBounds_toArray, List.set_cons_zero, List.set_cons_succ]
    refine wpAnyH_ready (rs := [2]) (by kernel_rfl) (by simp) ?_
    refine AllReadyH.cons (o := ?on66) ?hin66 ?restn66 AllReadyH.nil
    case hin66 => (simp only [List.getElem?_toArray, List.getElem?_cons_succ, List.getElem?_cons_zero]; exact rfl)
    intro K hK
    go_simp
    go_at_call 51
    refine (HI.out _).mono ?_
    rintro e w2 ⟨rfl, hgw2⟩
    have h2 : Grew w1 w2 := r1d.trans hgw2
    refine hK.out _ _ ?_ (fun hHeld => ?_)
    · (try dsimp only); first | with_reducible assumption | exact Grew.alloc ‹_› _
    clear hK K
    try simp only [Act.put, List.setIfInBounds_toArray, List.set_cons_zero, List.set_cons_succ]
    refine wpAnyH_take (i := 3) (oi := ?on67) (v := ?vn67) ?hin67 ?an67 ?bn67 ?cn67 ?qn67 (Or.inl ⟨?dn67, ?hyn67⟩) hHeld ?restn67
    case hin67 => (simp only [List.getElem?_toArray, List.getElem?_cons_succ, List.getElem?_cons_zero]; exact rfl)
    case an67 => kernel_rfl
    case bn67 => kernel_rfl
    case cn67 => kernel_rfl
    case qn67 => exact fun _ _ _ h => h
    case dn67 => rfl
    case hyn67 => (intro z hSw; (try dsimp only at hSw); go_simp; (try with_reducible rfl))
    try simp only [Act.put, List.setIfInBounds_toArray, List.set_cons_zero, List.set_cons_succ]
    refine wpAnyH_take (i := 4) (oi := ?on68) (v := ?vn68) ?hin68 ?an68 ?bn68 ?cn68 ?qn68 (Or.inl ⟨?dn68, ?hyn68⟩) hHeld ?restn68
    case hin68 => (simp only [List.getElem?_toArray, List.getElem?_cons_succ, List.getElem?_cons_zero]; exact rfl)
    case an68 => kernel_rfl
    case bn68 => kernel_rfl
    case cn68 => kernel_rfl
    case qn68 => exact fun _ _ _ h => h
    case dn68 => rfl
    case hyn68 => (intro z hSw; (try dsimp only at hSw); go_simp; (try with_reducible rfl))
    try simp only [Act.put, List.setIfInBounds_toArray, List.set_cons_zero, List.set_cons_succ]
    refine wpAnyH_take (i := 5) (oi := ?on69) ?hin69 ?an69 ?bn69 ?cn69 ?qn69 (Or.inr ⟨?dn69, rfl⟩) hHeld ?restn69
    case hin69 => (simp only [List.getElem?_toArray, List.getElem?_cons_succ, List.getElem?_cons_zero]; exact rfl)
    case an69 => kernel_rfl
    case bn69 => kernel_rfl
    case cn69 => kernel_rfl
    case qn69 => exact fun _ _ _ h => h
    case dn69 => rfl
    try simp only [Act.put, List.setIfInBounds_toArray, List.set_cons_zero, List.set_cons_succ]
    refine wpAnyH_take (i := 6) (oi := ?on70) ?hin70 ?an70 ?bn70 ?cn70 ?qn70 (Or.inr ⟨?dn70, rfl⟩) hHeld ?restn70
    case hin70 => (simp only [List.getElem?_toArray, List.getElem?_cons_succ, List.getElem?_cons_zero]; exact rfl)
    case an70 => kernel_rfl
    case bn70 => kernel_rfl
    case cn70 => kernel_rfl
    case qn70 => exact fun _ _ _ h => h
    case dn70 => rfl
    try simp only [Act.put, List.setIfInBounds_toArray, List.set_cons_zero, List.set_cons_succ]
    refine wpAnyH_take (i := 7) (oi := ?on71) ?hin71 ?an71 ?bn71 ?cn71 ?qn71 (Or.inr ⟨?dn71, rfl⟩) hHeld ?restn71
    case hin71 => (simp only [List.getElem?_toArray, List.getElem?_cons_succ, List.getElem?_cons_zero]; exact rfl)
    case an71 => kernel_rfl
    case bn71 => kernel_rfl
    case cn71 => kernel_rfl
    case qn71 => exact fun _ _ _ h => h
    case dn71 => rfl
    try simp only [Act.put, List.setIfInBounds_toArray, List.set_cons_zero, List.set_cons_succ]
    refine wpAnyH_take (i := 8) (oi := ?on72) ?hin72 ?an72 ?bn72 ?cn72 ?qn72 (Or.inr ⟨?dn72, rfl⟩) hHeld ?restn72
    case hin72 => (simp only [List.getElem?_toArray, List.getElem?_cons_succ, List.getElem?_cons_zero]; exact rfl)
    case an72 => kernel_rfl
    case bn72 => kernel_rfl
    case cn72 => kernel_rfl
    case qn72 => exact fun _ _ _ h => h
    case dn72 => rfl
    try simp only [Act.put, List.setIfInBounds_toArray, List.set_cons_zero, List.set_cons_succ]
    refine wpAnyH_take (i := 9) (oi := ?on73) ?hin73 ?an73 ?bn73 ?cn73 ?qn73 (Or.inr ⟨?dn73, rfl⟩) hHeld ?restn73
    case hin73 => (simp only [List.getElem?_toArray, List.getElem?_cons_succ, List.getElem?_cons_zero]; exact rfl)
    case an73 => kernel_rfl
    case bn73 => kernel_rfl
    case cn73 => kernel_rfl
    case qn73 => exact fun _ _ _ h => h
    case dn73 => rfl
    try simp only [Act.put, List.setIfInBounds_toArray, List.set_cons_zero, List.set_cons_succ]
    refine wpAnyH_take (i := 10) (oi := ?on74) ?hin74 ?an74 ?bn74 ?cn74 ?qn74 (Or.inr ⟨?dn74, rfl⟩) hHeld ?restn74
    case hin74 => (simp only [List.getElem?_toArray, List.getElem?_cons_succ, List.getElem?_cons_zero]; exact rfl)
    case an74 => kernel_rfl
    case bn74 => kernel_rfl
    case cn74 => kernel_rfl
    case qn74 => exact fun _ _ _ h => h
    case dn74 => rfl
    try simp only [Act.put, List.setIfInBounds_toArray, List.set_cons_zero, List.set_cons_succ]
    refine wpAnyH_take (i := 11) (oi := ?on75) ?hin75 ?an75 ?bn75 ?cn75 ?qn75 (Or.inr ⟨?dn75, rfl⟩) hHeld ?restn75
    case hin75 => (simp only [List.getElem?_toArray, List.getElem?_cons_succ, List.getElem?_cons_zero]; exact rfl)
    case an75 => kernel_rfl
    case bn75 => kernel_rfl
    case cn75 => kernel_rfl
    case qn75 => exact fun _ _ _ h => h
    case dn75 => rfl
    try simp only [Act.put, List.setIfInBounds_toArray, List.set_cons_zero, List.set_cons_succ]
    refine wpAnyH_take (i := 12) (oi := ?on76) (v := ?vn76) ?hin76 ?an76 ?bn76 ?cn76 ?qn76 (Or.inl ⟨?dn76, ?hyn76⟩) hHeld ?restn76
    case hin76 => (simp only [List.getElem?_toArray, List.getElem?_cons_succ, List.getElem?_cons_zero]; exact rfl)
    case an76 => kernel_rfl
    case bn76 => kernel_rfl
    case cn76 => kernel_rfl
    case qn76 => exact fun _ _ _ h => h
    case dn76 => rfl
    case hyn76 => (intro z hSw; (try dsimp only at hSw); go_simp; (try with_reducible rfl))
    try simp only [Act.put, List.setIfInBounds_toArray, List.set_cons_zero, List.set_cons_succ]
    refine wpAnyH_take (i := 13) (oi := ?on77) (v := ?vn77) ?hin77 ?an77 ?bn77 ?cn77 ?qn77 (Or.inl ⟨?dn77, ?hyn77⟩) hHeld ?restn77
    case hin77 => (simp only [List.getElem?_toArray, List.getElem?_cons_succ, List.getElem?_cons_zero]; exact rfl)
    case an77 => kernel_rfl
    case bn77 => kernel_rfl
    case cn77 => kernel_rfl
    case qn77 => exact fun _ _ _ h => h
    case dn77 => rfl
    case hyn77 => (intro z hSw; (try dsimp only at hSw); go_simp; (try with_reducible rfl))
    try simp only [Act.put, List.setIfInBounds_toArray, List.set_cons_zero, List.set_cons_succ]
    refine wpAnyH_take (i := 14) (oi := ?on78) ?hin78 ?an78 ?bn78 ?cn78 ?qn78 (Or.inr ⟨?dn78, rfl⟩) hHeld ?restn78
    case hin78 => (simp only [List.getElem?_toArray, List.getElem?_cons_succ, List.getElem?_cons_zero]; exact rfl)
    case an78 => kernel_rfl
    case bn78 => kernel_rfl
    case cn78 => kernel_rfl
    case qn78 => exact fun _ _ _ h => h
    case dn78 => rfl
    try simp only [Act.put, List.setIfInBounds_toArray, List.set_cons_zero, List.set_cons_succ]
    refine wpAnyH_take (i := 15) (oi := ?on79) ?hin79 ?an79 ?bn79 ?cn79 ?qn79 (Or.inr ⟨?dn79, rfl⟩) hHeld ?restn79
    case hin79 => (simp only [List.getElem?_toArray, List.getElem?_cons_succ, List.getElem?_cons_zero]; exact rfl)
    case an79 => kernel_rfl
    case bn79 => kernel_rfl
    case cn79 => kernel_rfl
    case qn79 => exact fun _ _ _ h => h
    case dn79 => rfl
    try simp only [Act.put, List.setIfInBounds_toArray, List.set_cons_zero, List.set_cons_succ]
    refine wpAnyH_take (i := 16) (oi := ?on80) ?hin80 ?an80 ?bn80 ?cn80 ?qn80 (Or.inr ⟨?dn80, rfl⟩) hHeld ?restn80
    case hin80 => (simp only [List.getElem?_toArray, List.getElem?_cons_succ, List.getElem?_cons_zero]; exact rfl)
    case an80 => kernel_rfl
    case bn80 => kernel_rfl
    case cn80 => kernel_rfl
    case qn80 => exact fun _ _ _ h => h
    case dn80 => rfl
    try simp only [Act.put, List.setIfInBounds_toArray, List.set_cons_zero, List.set_cons_succ]
    refine wpAnyH_take (i := 17) (oi := ?on81) ?hin81 ?an81 ?bn81 ?cn81 ?qn81 (Or.inr ⟨?dn81, rfl⟩) hHeld ?restn81
    case hin81 => (simp only [List.getElem?_toArray, List.getElem?_cons_succ, List.getElem?_cons_zero]; exact rfl)
    case an81 => kernel_rfl
    case bn81 => kernel_rfl
    case cn81 => kernel_rfl
    case qn81 => exact fun _ _ _ h => h
    case dn81 => rfl
    try simp only [Act.put, List.setIfInBounds_toArray, List.set_cons_zero, List.set_cons_succ]
    refine wpAnyH_take (i := 18) (oi := ?on82) ?hin82 ?an82 ?bn82 ?cn82 ?qn82 (Or.inr ⟨?dn82, rfl⟩) hHeld ?restn82
    case hin82 => (simp only [List.getElem?_toArray, List.getElem?_cons_succ, List.getElem?_cons_zero]; exact rfl)
    case an82 => kernel_rfl
    case bn82 => kernel_rfl
    case cn82 => kernel_rfl
    case qn82 => exact fun _ _ _ h => h
    case dn82 => rfl
    try simp only [Act.put, List.setIfInBounds_toArray, List.set_cons_zero, List.set_cons_succ]
    refine wpAnyH_take (i := 19) (oi := ?on83) ?hin83 ?an83 ?bn83 ?cn83 ?qn83 (Or.inr ⟨?dn83, rfl⟩) hHeld ?restn83
    case hin83 => (simp only [List.getElem?_toArray, List.getElem?_cons_succ, List.getElem?_cons_zero]; exact rfl)
    case an83 => kernel_rfl
    case bn83 => kernel_rfl
    case cn83 => kernel_rfl
    case qn83 => exact fun _ _ _ h => h
    case dn83 => rfl
    try simp only [Act.put, List.setIfInBounds_toArray, List.set_cons_zero, List.set_cons_succ]
    refine wpAnyH_take (i := 20) (oi := ?on84) (v := ?vn84) ?hin84 ?an84 ?bn84 ?cn84 ?qn84 (Or.inl ⟨?dn84, ?hyn84⟩) hHeld ?restn84
    case hin84 => (simp only [List.getElem?_toArray, List.getElem?_cons_succ, List.getElem?_cons_zero]; exact rfl)
    case an84 => kernel_rfl
    case bn84 => kernel_rfl
    case cn84 => kernel_rfl
    case qn84 => exact fun _ _ _ h => h
    case dn84 => rfl
    case hyn84 => (intro z hSw; (try dsimp only at hSw); go_simp; (try with_reducible rfl))
    try simp only [Act.put, List.setIfInBounds_toArray, List.set_cons_zero, List.set_cons_succ]
    refine wpAnyH_done (by kernel_rfl) ?_ _
    go_wp2_with fail
    go_ret
    exact ⟨rfl, HG.out.trans h2⟩
end Go.Proofs.YtopjgcbhjhhlfaaGreat


/- l15Generate of the reference. -/
namespace Go.Proofs.YtopjgcbhjhhlfaaGreat
open Go.RowKit

theorem made_b9 {n i : Nat} (hi : i < n) : (madeCells #[Value.bool false] n)[i]? = some (.bool false) := by
  have e := toList_madeCells_one (.bool false) n
  rw [← Array.getElem?_toList, e]
  simp [hi]
theorem infoB9 : (Tryz.prog.info? 4).map (fun i => (i.zero, i.size, i.bytes)) = some (some (.bool false), 1, 1) := by kernel_rfl
def GivesMk (w : World) (P : Nat) (GL : List Nat) (e : Ending) (w' : World) : Prop := ∃ g m, e = .returned (.slice (some ⟨g, 0, none⟩) P P) ∧ MRow w' g P m ∧ (List.range P).filter m = GL ∧ w.heap.size ≤ g ∧ Grew w w'
def msr (P : Nat) (m : Bool) (u : Nat → Bool) : Nat := if m then P - cnt u P + 1 else 0
set_option maxHeartbeats 8000000 in
set_option maxRecDepth 20000 in
theorem l15Generate_c (n : Nat) (v u : Value) (B E : List Nat) (w : World) (h : Ints w v (zs B)) (hu : Ints w u (zs E)) (hA : Alg n B) (hE : ∀ e ∈ E, e < 2 ^ n) :
    Calls Tryz.prog 23 #[.agg #[.int .i64 (n : Int), v], u] w (GivesMk w (2 ^ n) (genL n B E)) := by
  have hn5 := hA.le
  have hP32 : 2 ^ n ≤ 32 := Nat.le_trans (Nat.pow_le_pow_right (by omega) hn5) (by decide)
  have hP0 : 0 < 2 ^ n := Nat.two_pow_pos n
  have hFP : full n + 1 = 2 ^ n := by have : full n = 2 ^ n - 1 := rfl; omega
  have HFU := l01Full_q n (by omega)
  rw [← full_cast] at HFU
  have HFU := Lib.hid HFU
  have hmk : ∀ W : World, (Instr.makeSlice 49 (.int .i64 ((2 ^ n : Nat) : Int)) (.int .i64 ((2 ^ n : Nat) : Int))).run Tryz.prog W = .ok (.slice (some ⟨W.heap.size, 0, none⟩) (2 ^ n) (2 ^ n)) (W.alloc (.cells (madeCells #[Value.bool false] (2 ^ n)) 4)) := fun W => by have := run_make_rows (P := Tryz.prog) 49 4 (.bool false) 1 1 #[.bool false] Tryz.underlying49 infoB9 rfl .i64 .i64 (2 ^ n) (by omega) (by omega) W; rwa [Nat.mul_one] at this
  have HST := Lib.hid (fun (u : Nat → Bool) (h : ∀ k, u k = true → gen n B E k) => Ps.start (P := 2 ^ n) (F := full n) (B := B) (G := gen n B E) h)
  have HDN := Lib.hid (fun (u0 u : Nat → Bool) (h : Ps (2 ^ n) (full n) B (gen n B E) u0 false (2 ^ n) 0 u) h0 he => h.done hA hE h0 he)
  have HG0 := Lib.hid (gen_cl n B E).zero
  have HGE := Lib.hid (fun k (hk : k < E.length) => gen_el (n := n) (B := B) (nt_mem (L := E) hk))
  have HGC := Lib.hid (fun x (hx : x < 2 ^ n) (hg : gen n B E x) => (show gen n B E (full n - x) ∧ gen n B E (nt B x) ∧ ∀ y, gen n B E y → gen n B E (x &&& y) from by rw [cpl_sub hx]; exact (gen_cl n B E).step x hx hg))
  have HEL := Lib.hid (fun k (hk : k < E.length) => hE _ (nt_mem (L := E) hk))
  have HBL := Lib.hid (fun x (hx : x < 2 ^ n) => hA.nt_lt hx)
  have HEM := Lib.hid (fun (u : Nat → Bool) (h : ∀ k, k < E.length → u (nt E k) = true) => show ∀ e ∈ E, u e = true from fun e he => by
    obtain ⟨k, hk, rfl⟩ := List.getElem_of_mem he
    have := h k hk
    rwa [show nt E k = E[k] by simp [nt, List.getD, hk]] at this)
  have hlB := hA.len
  obtain ⟨A2, c2, rfl⟩ := ints_slice hu
  have HUX := Lib.hid (fun k (hk : k < E.length) => show ∃ bu ou, A2 = some ⟨bu, ou, none⟩ ∧ ∀ W, Grew w W → W.cell? ⟨bu, ou + k, none⟩ = some (.int .i64 ((nt E k : Nat) : Int)) from by
    rcases hu.open_ with ⟨_, hnil⟩ | ⟨bu, ou, cu, hu2, hcu, hmu, hbu, hfu⟩
    · rw [← List.length_eq_zero_iff, zs_len] at hnil; omega
    rw [zs_len] at hfu
    simp only [Value.slice.injEq] at hu2
    exact ⟨bu, ou, hu2.1, fun W hW => by rw [hfu k hk W hW, zs_it hk]⟩)
  have hum : E.length ≤ 9223372036854775807 := by have := hu.2.1; rw [zs_len] at this; simpa [maxLen] using this
  rcases h.open_ with ⟨_, hnil⟩ | ⟨bv, ov, cv, rfl, hcv, hmv, hbv, hfv⟩
  · rw [← List.length_eq_zero_iff, zs_len, hlB] at hnil; omega
  have HFV := Lib.hid (fun k (hk : k < 2 ^ n) W (hW : Grew w W) => show W.cell? ⟨bv, ov + k, none⟩ = some (.int .i64 ((nt B k : Nat) : Int)) from by rw [hfv k (by rw [zs_len, hlB]; exact hk) W hW, zs_it (by rw [hlB]; exact hk)])
  rw [zs_len E] at *
  rw [zs_len B] at *
  rw [hlB] at *
  obtain ⟨w1, hw1⟩ : ∃ w1, w1 = w.alloc (.cells #[.int .i64 (n : Int), .slice (some ⟨bv, ov, none⟩) (2 ^ n) cv] 26) := ⟨_, rfl⟩
  have hal : Grew w w1 := by rw [hw1]; exact (Grew.refl w).alloc _
  have hb0 : w1.heap[w.heap.size]? = some (.cells #[.int .i64 (n : Int), .slice (some ⟨bv, ov, none⟩) (2 ^ n) cv] 26 (0, 0)) := by rw [hw1]; exact blk_new w _
  have hs1 : w1.heap.size = w.heap.size + 1 := by rw [hw1]; simp
  have c0 : ∀ W, Grew w1 W → W.cell? ⟨w.heap.size, 0, none⟩ = some (.int .i64 (n : Int)) := fun W hW => by rw [blk_cell ((hW.block (blk_lt hb0)).trans hb0)]; rfl
  have c1 : ∀ W, Grew w1 W → W.cell? ⟨w.heap.size, 1, none⟩ = some (.slice (some ⟨bv, ov, none⟩) (2 ^ n) cv) := fun W hW => by rw [blk_cell ((hW.block (blk_lt hb0)).trans hb0)]; rfl
  have HG := Lib.hid hal
  have HSZ := Lib.hid (Nat.le_of_eq hs1)
  have hM0 : MRow (w1.alloc (.cells (madeCells #[Value.bool false] (2 ^ n)) 4)) (w.heap.size + 1) (2 ^ n) (fun _ => false) := by rw [← hs1]; exact ⟨_, blk_new w1 _, size_madeCells _ _, fun i hi => made_b9 hi⟩
  have hgm := (Grew.refl w1).alloc (.cells (madeCells #[Value.bool false] (2 ^ n)) 4)
  clear hal hb0 h hu hA hE hlB hcv hmv hbv hfv
  generalize hFe : full n = F at *
  generalize genL n B E = GL at *
  generalize gen n B E = G at *
  generalize hPe : (2 : Nat) ^ n = P at *
  clear hFe hPe
  have hwF : IntKind.i64.wrap ((F : Int) + 1) = (P : Int) := by rw [IntKind.wrap_i64]; omega
  have hwF2 : wrap64 ((F : Int) + 1) = (P : Int) := by unfold wrap64; omega
  generalize hm : E.length = m at *
  have d0 := c0 _ (Grew.refl w1)
  go_enter Tryz.func23, Tryz.ntmps23
  go_wp2_with fail
  simp only [← hw1]
  clear hw1
  go_wp2_with fail
  refine (HFU.out _).mono ?_
  rintro e w2 ⟨rfl, hw2⟩
  rw [hw2]
  clear hw2
  have k0 := hM0.cell hP0
  have f0 := hM0.free 0
  generalize hwm : w1.alloc (.cells (madeCells #[Value.bool false] P) 4) = wm at *
  have HM0 := Lib.hid hM0
  have HGW := Lib.hid hgm
  clear hM0 HFU d0
  go_upto_region 3 with fail
  (try rw [hwm])
  go_upto_region 4 with fail
  have b0 := Lib.hid (HM0.out.set hP0)
  have g0 : Grew w1 (wm.setCell ⟨w.heap.size + 1, 0, none⟩ (.bool true)) := HGW.out.setCell HSZ.out _
  clear k0 f0 hgm
  generalize wm.setCell ⟨w.heap.size + 1, 0, none⟩ (.bool true) = wz at *
  go_wp2_with fail
  go_loopw [7] (fun i wr => ∃ (j : Nat) (u : Nat → Bool), j ≤ m ∧ i = .int .i64 (j : Int) ∧ Grew w1 wr ∧ Hid (MRow wr (w.heap.size + 1) P u) ∧ Hid (u 0 = true ∧ (∀ k, k < j → u (nt E k) = true) ∧ ∀ k, u k = true → G k)) (fun i _ => m - (intOf i).toNat)
  case atStart => exact ⟨0, _, by omega, rfl, g0, b0, Lib.hid ⟨mk1_self _ _, fun k hk => absurd hk (by omega), fun k hk => by
    rcases mk1_or hk with h | rfl
    · cases h
    · exact HG0.out⟩⟩
  case round =>
    obtain ⟨j, u, hj, rfl, hB, hM, hI⟩ := hrel
    by_cases hlt : j < m
    · obtain ⟨bu, ou, rfl, hcu⟩ := HUX.out j hlt
      have k1 := hcu _ (HG.out.trans hB)
      have hej := HEL.out j hlt
      have hgj := Lib.hid (HGE.out j hlt)
      have e1 := hM.out.cell hej
      have e2 := hM.out.free (nt E j)
      have hM2 := Lib.hid (hM.out.set hej)
      generalize hx : nt E j = x at *
      clear hcu HUX
      go_wp2_with fail
      go_roundw
      case rel =>
        obtain ⟨i1, i2, i3⟩ := hI.out
        refine ⟨j + 1, _, by omega, by go_num, hB.setCell HSZ.out _, hM2, Lib.hid ⟨mk1_mono i1, fun k hk => ?_, fun k hk => ?_⟩⟩
        · rcases Nat.lt_or_ge k j with h | h
          · exact mk1_mono (i2 k h)
          · obtain rfl : k = j := by omega
            rw [hx]; exact mk1_self _ _
        · rcases mk1_or hk with h | rfl
          · exact i3 k h
          · exact hgj.out
      case measure => simp [intOf]; omega
    · obtain rfl : j = m := by omega
      clear HUX HEL HGE
      go_wp2_with fail
      go_loopg [8] (P + 1) (fun k more wr => ∃ (mo : Bool) (u : Nat → Bool), more = .bool mo ∧ msr P mo u ≤ k ∧ Grew w1 wr ∧ Hid (MRow wr (w.heap.size + 1) P u) ∧ Hid ((u 0 = true ∧ (∀ k, k < j → u (nt E k) = true) ∧ ∀ k, u k = true → G k) ∧ (mo = false → (List.range P).filter u = GL)))
      case atStart => exact ⟨true, u, rfl, by show P - cnt u P + 1 ≤ P + 1; omega, hB, hM, Lib.hid ⟨hI.out, fun h => by cases h⟩⟩
      case round =>
        clear hM hI hB
        obtain ⟨mo, u0, rfl, hk, hB, hM, hI⟩ := hrel
        cases mo with
        | false =>
          go_wp2_with fail
          go_ret
          exact ⟨_, u0, rfl, hM.out, hI.out.2 (by first | trivial | rfl), by omega, HG.out.trans hB⟩
        | true =>
          have hPs := Lib.hid (HST.out u0 hI.out.1.2.2)
          go_wp2_with fail
          go_loopw [8, 9] (fun mo x wr => ∃ (m' : Bool) (xx : Nat) (u : Nat → Bool), mo = .bool m' ∧ x = .int .i64 (xx : Int) ∧ xx ≤ P ∧ Grew w1 wr ∧ Hid (MRow wr (w.heap.size + 1) P u) ∧ Hid (Ps P F B G u0 m' xx 0 u)) (fun _ x _ => P - (intOf x).toNat)
          case atStart => exact ⟨false, 0, u0, rfl, rfl, by omega, hB, hM, hPs⟩
          case round =>
            clear hPs hM hB
            obtain ⟨m', x, u1, rfl, rfl, hx, hB, hM, hPs⟩ := hrel
            by_cases hxl : x < P
            · have hle : (x : Int) ≤ (F : Int) := by omega
              have hbx := HBL.out x hxl
              have hgc := Lib.hid (HGC.out x hxl)
              have hpb := fun W (hW : Grew w1 W) => HFV.out x hxl W (HG.out.trans hW)
              go_wp2_with fail
              go_loopw [8, 10] (fun mo y wr => ∃ (m' : Bool) (yy : Nat) (u : Nat → Bool), mo = .bool m' ∧ y = .int .i64 (yy : Int) ∧ yy ≤ x + 1 ∧ Grew w1 wr ∧ Hid (MRow wr (w.heap.size + 1) P u) ∧ Hid (Ps P F B G u0 m' x yy u)) (fun _ y _ => x + 1 - (intOf y).toNat)
              case atStart => exact ⟨m', 0, u1, rfl, rfl, by omega, hB, hM, hPs⟩
              case round =>
                clear hPs hM hB
                obtain ⟨m', y, u, rfl, rfl, hy, hB, hM, hPs⟩ := hrel
                by_cases hyl : y ≤ x
                · have hyle : (y : Int) ≤ (x : Int) := by omega
                  have cx := hM.out.cell hxl
                  cases hux : u x with
                  | false =>
                    rw [hux] at cx
                    go_wp2_with fail
                    go_roundw
                    case rel => exact ⟨m', x + 1, u, rfl, by go_num, by omega, hB, hM, Lib.hid (hPs.out.rowNo hxl hux)⟩
                    case measure => simp [intOf]; omega
                  | true =>
                    rw [hux] at cx
                    have hyP : y < P := by omega
                    have cy := hM.out.cell hyP
                    cases huy : u y with
                    | false =>
                      rw [huy] at cy
                      go_wp2_with fail
                      go_roundw
                      case rel => exact ⟨m', y + 1, u, rfl, by go_num, by omega, hB, hM, Lib.hid (hPs.out.skip hyP huy)⟩
                      case measure => simp [intOf]; omega
                    | true =>
                      rw [huy] at cy
                      have hxy : x &&& y < P := Nat.lt_of_le_of_lt Nat.and_le_left hxl
                      have hfx : F - x < P := by omega
                      have hand := and_i64 x y (by omega) (by omega)
                      have hsub : (F : Int) - (x : Int) = ((F - x : Nat) : Int) := by omega
                      have hsw : IntKind.i64.wrap ((F : Int) - (x : Int)) = ((F - x : Nat) : Int) := by rw [IntKind.wrap_i64]; omega
                      have hsw2 : wrap64 ((F : Int) - (x : Int)) = ((F - x : Nat) : Int) := by unfold wrap64; omega
                      have hst := Lib.hid (hPs.out.step hxl hyP hux huy hgc.out hxy hfx hbx)
                      have ca := hM.out.cell hxy
                      have cf := hM.out.cell hfx
                      have cb := hM.out.cell hbx
                      have fa := hM.out.free (x &&& y)
                      have pb := hpb wr hB
                      generalize hxye : x &&& y = xy at *
                      generalize hfxe : F - x = fx at *
                      generalize nt B x = bx at *
                      have z1 : (0 : Int) ≤ (xy : Int) := Int.natCast_nonneg _
                      have z2 : (0 : Int) ≤ (fx : Int) := Int.natCast_nonneg _
                      have z3 : (0 : Int) ≤ (bx : Int) := Int.natCast_nonneg _
                      have z4 : (xy : Int) < (P : Int) := by omega
                      have z5 : (fx : Int) < (P : Int) := by omega
                      have z6 : (bx : Int) < (P : Int) := by omega
                      have hm1 := Lib.hid (hM.out.set hxy)
                      have e1 : Grew w1 (wr.setCell ⟨w.heap.size + 1, xy, none⟩ (.bool true)) := hB.setCell HSZ.out _
                      clear hPs
                      generalize ha : u xy = ua at *
                      generalize hf : u fx = uf at *
                      generalize hb : u bx = ub at *
                      cases m' with
                      | true =>
                        go_upto_region 20 with fail
                        have cf2 := hm1.out.cell hfx
                        have ff2 := hm1.out.free fx
                        have hm2 := Lib.hid (hm1.out.set hfx)
                        clear ca cf cb fa cx cy pb
                        generalize wr.setCell ⟨w.heap.size + 1, xy, none⟩ (.bool true) = wa at *
                        have e2 : Grew w1 (wa.setCell ⟨w.heap.size + 1, fx, none⟩ (.bool true)) := e1.setCell HSZ.out _
                        go_upto_region 21 with fail
                        have cb3 := hm2.out.cell hbx
                        have fb3 := hm2.out.free bx
                        have hm3 := Lib.hid (hm2.out.set hbx)
                        clear cf2 ff2
                        generalize wa.setCell ⟨w.heap.size + 1, fx, none⟩ (.bool true) = wb at *
                        have pb3 := hpb wb e2
                        have e3 : Grew w1 (wb.setCell ⟨w.heap.size + 1, bx, none⟩ (.bool true)) := e2.setCell HSZ.out _
                        go_wp2_with fail
                        go_roundw
                        case rel => exact ⟨_, y + 1, _, rfl, by go_num, by omega, e3, hm3, hst⟩
                        case measure => simp [intOf] <;> omega
                      | false =>
                        cases ua with
                        | false =>
                          go_upto_region 20 with fail
                          have cf2 := hm1.out.cell hfx
                          have ff2 := hm1.out.free fx
                          have hm2 := Lib.hid (hm1.out.set hfx)
                          clear ca cf cb fa cx cy pb
                          generalize wr.setCell ⟨w.heap.size + 1, xy, none⟩ (.bool true) = wa at *
                          have e2 : Grew w1 (wa.setCell ⟨w.heap.size + 1, fx, none⟩ (.bool true)) := e1.setCell HSZ.out _
                          go_upto_region 21 with fail
                          have cb3 := hm2.out.cell hbx
                          have fb3 := hm2.out.free bx
                          have hm3 := Lib.hid (hm2.out.set hbx)
                          clear cf2 ff2
                          generalize wa.setCell ⟨w.heap.size + 1, fx, none⟩ (.bool true) = wb at *
                          have pb3 := hpb wb e2
                          have e3 : Grew w1 (wb.setCell ⟨w.heap.size + 1, bx, none⟩ (.bool true)) := e2.setCell HSZ.out _
                          go_wp2_with fail
                          go_roundw
                          case rel => exact ⟨_, y + 1, _, rfl, by go_num, by omega, e3, hm3, hst⟩
                          case measure => simp [intOf] <;> omega
                        | true =>
                          cases uf with
                          | false =>
                            go_upto_region 20 with fail
                            have cf2 := hm1.out.cell hfx
                            have ff2 := hm1.out.free fx
                            have hm2 := Lib.hid (hm1.out.set hfx)
                            clear ca cf cb fa cx cy pb
                            generalize wr.setCell ⟨w.heap.size + 1, xy, none⟩ (.bool true) = wa at *
                            have e2 : Grew w1 (wa.setCell ⟨w.heap.size + 1, fx, none⟩ (.bool true)) := e1.setCell HSZ.out _
                            go_upto_region 21 with fail
                            have cb3 := hm2.out.cell hbx
                            have fb3 := hm2.out.free bx
                            have hm3 := Lib.hid (hm2.out.set hbx)
                            clear cf2 ff2
                            generalize wa.setCell ⟨w.heap.size + 1, fx, none⟩ (.bool true) = wb at *
                            have pb3 := hpb wb e2
                            have e3 : Grew w1 (wb.setCell ⟨w.heap.size + 1, bx, none⟩ (.bool true)) := e2.setCell HSZ.out _
                            go_wp2_with fail
                            go_roundw
                            case rel => exact ⟨_, y + 1, _, rfl, by go_num, by omega, e3, hm3, hst⟩
                            case measure => simp [intOf] <;> omega
                          | true =>
                            cases ub with
                            | false =>
                              go_upto_region 20 with fail
                              have cf2 := hm1.out.cell hfx
                              have ff2 := hm1.out.free fx
                              have hm2 := Lib.hid (hm1.out.set hfx)
                              clear ca cf cb fa cx cy pb
                              generalize wr.setCell ⟨w.heap.size + 1, xy, none⟩ (.bool true) = wa at *
                              have e2 : Grew w1 (wa.setCell ⟨w.heap.size + 1, fx, none⟩ (.bool true)) := e1.setCell HSZ.out _
                              go_upto_region 21 with fail
                              have cb3 := hm2.out.cell hbx
                              have fb3 := hm2.out.free bx
                              have hm3 := Lib.hid (hm2.out.set hbx)
                              clear cf2 ff2
                              generalize wa.setCell ⟨w.heap.size + 1, fx, none⟩ (.bool true) = wb at *
                              have pb3 := hpb wb e2
                              have e3 : Grew w1 (wb.setCell ⟨w.heap.size + 1, bx, none⟩ (.bool true)) := e2.setCell HSZ.out _
                              go_wp2_with fail
                              go_roundw
                              case rel => exact ⟨_, y + 1, _, rfl, by go_num, by omega, e3, hm3, hst⟩
                              case measure => simp [intOf] <;> omega
                            | true =>
                              go_upto_region 20 with fail
                              have cf2 := hm1.out.cell hfx
                              have ff2 := hm1.out.free fx
                              have hm2 := Lib.hid (hm1.out.set hfx)
                              clear ca cf cb fa cx cy pb
                              generalize wr.setCell ⟨w.heap.size + 1, xy, none⟩ (.bool true) = wa at *
                              have e2 : Grew w1 (wa.setCell ⟨w.heap.size + 1, fx, none⟩ (.bool true)) := e1.setCell HSZ.out _
                              go_upto_region 21 with fail
                              have cb3 := hm2.out.cell hbx
                              have fb3 := hm2.out.free bx
                              have hm3 := Lib.hid (hm2.out.set hbx)
                              clear cf2 ff2
                              generalize wa.setCell ⟨w.heap.size + 1, fx, none⟩ (.bool true) = wb at *
                              have pb3 := hpb wb e2
                              have e3 : Grew w1 (wb.setCell ⟨w.heap.size + 1, bx, none⟩ (.bool true)) := e2.setCell HSZ.out _
                              go_wp2_with fail
                              go_roundw
                              case rel => exact ⟨_, y + 1, _, rfl, by go_num, by omega, e3, hm3, hst⟩
                              case measure => simp [intOf] <;> omega
                · obtain rfl : y = x + 1 := by omega
                  have hyle : (((x + 1 : Nat) : Int) ≤ (x : Int)) = False := eq_false (by omega)
                  go_wp2_with fail
                  go_roundw
                  case rel => exact ⟨m', x + 1, u, rfl, by go_num, by omega, hB, hM, Lib.hid hPs.out.row⟩
                  case measure => simp [intOf]; omega
            · obtain rfl : x = P := by omega
              have hle : ((x : Int) ≤ (F : Int)) = False := eq_false (by omega)
              have hcl := cnt_le u1 x
              go_wp2_with fail
              go_roundg (msr x m' u1)
              case rel =>
                obtain ⟨⟨i1, i2, i3⟩, -⟩ := hI.out
                have j1 := hPs.out.mono 0 i1
                have j2 := fun k hk => hPs.out.mono _ (i2 k hk)
                refine ⟨m', u1, rfl, Nat.le_refl _, hB, hM, Lib.hid ⟨⟨j1, j2, hPs.out.snd⟩, fun hm' => ?_⟩⟩
                subst hm'
                exact HDN.out u0 u1 hPs.out j1 (HEM.out u1 (fun k hk => j2 k (by omega)))
              case measure =>
                have h0 : msr x true u0 = x - cnt u0 x + 1 := rfl
                cases hm' : m' with
                | false => show 0 < _; omega
                | true =>
                  have := (hm' ▸ hPs.out).cnt
                  show x - cnt u1 x + 1 < _
                  omega
end Go.Proofs.YtopjgcbhjhhlfaaGreat


/- l15List of the reference: the marked numbers, in ascending order; l01Index. -/
namespace Go.Proofs.YtopjgcbhjhhlfaaGreat
open Go.RowKit

theorem rf_yes {m : Nat → Bool} {j : Nat} (h : m j = true) : (List.range (j + 1)).filter m = (List.range j).filter m ++ [j] := by
  rw [List.range_succ, List.filter_append]
  simp [h]
theorem rf_no {m : Nat → Bool} {j : Nat} (h : m j = false) : (List.range (j + 1)).filter m = (List.range j).filter m := by
  rw [List.range_succ, List.filter_append]
  simp [h]
set_option maxHeartbeats 1000000 in
theorem l15List_c (g P : Nat) (m : Nat → Bool) (w : World) (h : MRow w g P m) (hP : P ≤ 1000) :
    Calls Tryz.prog 22 #[.slice (some ⟨g, 0, none⟩) P P] w (GivesI w (zs ((List.range P).filter m))) := by
  have HC := Lib.hid (fun i (hi : i < P) W (hW : Grew w W) => (h.grew hW).cell hi)
  have HL := Lib.hid (fun j => show ((List.range j).filter m).length ≤ j from Nat.le_trans (List.length_filter_le _ _) (by simp))
  have HY := Lib.hid (fun j h => rf_yes (m := m) (j := j) h)
  have HN := Lib.hid (fun j h => rf_no (m := m) (j := j) h)
  have HE := Lib.hid (own_emptyI w)
  clear h
  go_enter Tryz.func22, Tryz.ntmps22
  go_wp2_with fail
  go_loopw [3, 4] (fun s i wr => ∃ j : Nat, j ≤ P ∧ i = .int .i64 (j : Int) ∧ Grew w wr ∧ Hid (OwnI wr w.heap.size s (zs ((List.range j).filter m)))) (fun _ i _ => P - (intOf i).toNat)
  case atStart => exact ⟨0, by omega, rfl, (Grew.refl w).alloc _, Lib.hid HE.out⟩
  case round =>
    obtain ⟨j, hj, rfl, hB, hO⟩ := hrel
    by_cases hlt : j < P
    · have k1 := HC.out j hlt _ hB
      have hl := HL.out j
      have hY := HY.out j
      have hN := HN.out j
      generalize hK : (List.range (j + 1)).filter m = K1 at *
      generalize (List.range j).filter m = K0 at *
      cases hm : m j with
      | true =>
        rw [hm] at k1
        have hy := Lib.hid (hY hm)
        clear hY hN
        go_wp2_with (first | (at_builtin; refine wpList_appI (w0 := w) _ _ rfl rfl _ (zs K0) rfl (hO.out.grew (Grew.alloc (Grew.refl _) _)) (hB.alloc _) _ (j : Int) rfl (rd_litI _ _ _) (by rw [zs_len]; omega) ?_; intro v4 w4 hO4 hg4 _))
        go_roundw
        case rel => exact ⟨j + 1, by omega, by go_num, hg4, Lib.hid (by rw [hK, hy.out, zs_snoc]; exact hO4)⟩
        case measure => simp [intOf]; omega
      | false =>
        rw [hm] at k1
        have hn := Lib.hid (hN hm)
        clear hY hN
        go_wp2_with fail
        go_roundw
        case rel => exact ⟨j + 1, by omega, by go_num, hB, Lib.hid (by rw [hK, hn.out]; exact hO.out)⟩
        case measure => simp [intOf]; omega
    · obtain rfl : j = P := by omega
      go_wp2_with fail
      go_ret
      exact ⟨_, rfl, hO.out, hB⟩
end Go.Proofs.YtopjgcbhjhhlfaaGreat


/- l01Index of the reference: the first place of a number. -/
namespace Go.Proofs.YtopjgcbhjhhlfaaGreat
open Go.RowKit

theorem l01IndexX_c (v : Value) (L : List Int) (x : Int) (k : Nat) (w : World) (h : Ints w v L) (hk : k < L.length) (hx : it L k = x) (hne : ∀ j, j < k → it L j ≠ x) :
    Calls Tryz.prog 36 #[v, .int .i64 x] w fun e w' => e = .returned (.int .i64 (k : Int)) ∧ Grew w w' := by
  rcases h.open_ with ⟨rfl, rfl⟩ | ⟨b, o, c, rfl, hc, hm, hb, hcell⟩
  · simp at hk
  · have HY := Lib.hid (fun i (hi : i ≤ k) (he : it L i = x) => show i = k from by
      rcases Nat.lt_or_ge i k with h1 | h1
      · exact absurd he (hne i h1)
      · omega)
    have HZ := Lib.hid (show it L k = x from hx)
    have HC := Lib.hid hcell
    clear h hcell hx hne
    generalize hN : L.length = n at *
    clear hN
    go_enter Tryz.func36, Tryz.ntmps36
    go_wp2_with fail
    go_loopw [5] (fun i wr => ∃ j : Nat, j ≤ k ∧ i = .int .i64 j ∧ Grew w wr) (fun i _ => n - (intOf i).toNat)
    case atStart => exact ⟨0, Nat.zero_le _, rfl, Grew.refl _⟩
    case round =>
      obtain ⟨j, hj, rfl, hB⟩ := hrel
      have k1 := HC.out j (by omega) _ hB
      have hlt : j < n := by omega
      have hY := Lib.hid (HY.out j hj)
      have hZ := Lib.hid (fun (e : j = k) => show it L j = x from e ▸ HZ.out)
      generalize it L j = y at *
      by_cases hy : y = x
      · have hv := hY.out hy
        subst hy
        subst hv
        go_wp2_with fail
        go_ret
        exact ⟨rfl, hB⟩
      · have hq : (y == x) = false := by simpa using hy
        have hjk : j ≠ k := fun e => hy (hZ.out e)
        clear hy
        go_wp2_with fail
        go_roundw
        case rel => exact ⟨j + 1, by omega, by go_num, hB⟩
        case measure => simp [intOf]; omega
end Go.Proofs.YtopjgcbhjhhlfaaGreat


/- l15Of of the reference: the algebra of a frame. -/
namespace Go.Proofs.YtopjgcbhjhhlfaaGreat
open Go.RowKit

theorem step_appIL {ops : Array Oper} {o : Oper} {a : Act} {K : Act → World → Prop} {Q : Exit → Act → World → Prop} {E : Prop} {w : World} (B : Nat) (hgd : o.guard = none) (s x : Operand)
    (ho : o.op = .call { callee := .builtin .append, args := #[s, x], argTypes := #[24, 24] })
    (v : Value) (L : List Int) (hs : a.eval s = v) (hown : OwnI w B v L) (hB : B ≤ w.heap.size) (vx : Value) (k : Int) (hx : a.eval x = vx) (hr : Rd w 1 vx 1 [.int .i64 k]) (hn : L.length ≤ 1048576)
    (h : ∀ v' w', OwnI w' B v' (L ++ [k]) → w.grownBy w' v.ownBlock → (v'.ownBlock = v.ownBlock ∨ v'.ownBlock = some w.heap.size) → K (a.put o.dst v') w') : if Region.wanted o (yielded ops a.tmps) = true then Oper.wp Tryz.prog o a w K Q else E := by
  have hw : Region.wanted o (yielded ops a.tmps) = true := by simp [Region.wanted, hgd]
  rw [if_pos hw]
  obtain ⟨i0, hi0, hz0, hz1, hz2⟩ := info_parts Tryz.infoI
  obtain ⟨hl, _, hr⟩ := hr
  rcases hr with ⟨_, h0⟩ | ⟨b, of, c, rfl, _, _, _, hc⟩
  · exact absurd h0 (by simp)
  obtain ⟨v', w', hrun, h2, h3, _, h5⟩ := run_append_own_at (P := Tryz.prog) w B 24 o.type 2 i0 _ 1 8 Tryz.underlying24 hi0 hz0 hz1 hz2 rfl (by omega) v L.length (icells L) hown ⟨b, of, none⟩ 1 c [.int .i64 k] hl (fun j u hu => by rw [Addr.add_lit]; exact hc j u hu) (by simp [Value.oneCell']) (by unfold maxLen; omega) (by omega) hB
  unfold Oper.wp execOp
  simp only [ho, resolve, invoke, builtin, Sem.run_bind, Sem.run_pure, Result.andThen_ok, List.map_toArray, List.map_cons, List.map_nil, hs, hx, hrun]
  refine h v' w' ?_ h3 h5
  unfold OwnI
  rw [List.length_append, icells_append]
  exact h2
def OfF (w : World) (n : Nat) (v : Value) (W : World) : Prop := Grew w W ∧ W.heap[w.heap.size]? = some (.cells #[.int .i64 (n : Int), v] 76 (0, 0))
theorem OfF.c0 {w W : World} {n : Nat} {v : Value} (h : OfF w n v W) : W.cell? ⟨w.heap.size, 0, none⟩ = some (.int .i64 (n : Int)) := by rw [blk_cell h.2]; rfl
theorem OfF.c1 {w W : World} {n : Nat} {v : Value} (h : OfF w n v W) : W.cell? ⟨w.heap.size, 1, none⟩ = some v := by rw [blk_cell h.2]; rfl
theorem OfF.step {w W W' : World} {n : Nat} {v : Value} (h : OfF w n v W) (hg : Grew W W') : OfF w n v W' := ⟨h.1.trans hg, (hg.block (blk_lt h.2)).trans h.2⟩
theorem OfF.set {w W : World} {n b o : Nat} {v x : Value} (h : OfF w n v W) (hb : w.heap.size < b) : OfF w n v (W.setCell ⟨b, o, none⟩ x) :=
  ⟨h.1.setCell (Nat.le_of_lt hb) _, (((Only.refl b W).setCell (o := o) x).block (blk_lt h.2) (by omega)).trans h.2⟩
def OfS (w : World) (n : Nat) (v : Value) (A : List Nat) (x : Nat) (wr : World) : Prop :=
  ∃ AB cB, OfF w n v wr ∧ wr.heap[w.heap.size + 1]? = some (.cells #[.int .i64 0, .slice none 0 0] 26 (0, 0)) ∧ wr.heap[w.heap.size + 1 + 1 + 1]? = some (.cells #[.int .i64 (n : Int), .slice AB x cB] 26 (0, 0)) ∧ OwnI wr (w.heap.size + 1 + 1) (.slice AB x cB) (zs ((List.range x).map (bx A))) ∧ (Value.slice AB x cB).ownBlock ≠ some (w.heap.size + 1 + 1 + 1)
theorem OfS.next {w W : World} {n x ix n5 c5 cB : Nat} {v : Value} {A : List Nat} {AB A5 : Option Addr} {KB : List Nat} (hf : OfF w n v W) (hr : W.heap[w.heap.size + 1]? = some (.cells #[.int .i64 0, .slice none 0 0] 26 (0, 0)))
    (hb : W.heap[w.heap.size + 1 + 1 + 1]? = some (.cells #[.int .i64 (n : Int), .slice AB x cB] 26 (0, 0))) (ho : OwnI W (w.heap.size + 1 + 1) (.slice A5 n5 c5) (zs KB ++ [(ix : Int)])) (hne : (Value.slice A5 n5 c5).ownBlock ≠ some (w.heap.size + 1 + 1 + 1))
    (hk : (List.range (x + 1)).map (bx A) = KB ++ [ix]) (hl : KB.length = x) : OfS w n v A (x + 1) (W.setCell ⟨w.heap.size + 1 + 1 + 1, 1, none⟩ (.slice A5 n5 c5)) := by
  have hO := (Only.refl (w.heap.size + 1 + 1 + 1) W).setCell (o := 1) (.slice A5 n5 c5)
  have hn : n5 = x + 1 := by
    obtain ⟨A', c', he⟩ := ints_slice ho.ints
    simp only [Value.slice.injEq] at he
    rw [he.2.1, List.length_append, zs_len, hl]; rfl
  subst hn
  refine ⟨A5, c5, hf.set (by omega), (hO.block (blk_lt hr) (by omega)).trans hr, blk_set hb 1 _, ?_, hne⟩
  rw [hk, zs_snoc]
  exact own_only ho hO hne
set_option maxHeartbeats 4000000 in
set_option maxRecDepth 20000 in
theorem l15Of_c (n : Nat) (v : Value) (A : List Nat) (w : World) (h : Ints w v (zs A)) (hl : A.length = n) (hA : Sm A) (hn : n ≤ 5) :
    Calls Tryz.prog 87 #[.agg #[.int .i64 (n : Int), v]] w fun e w' => ∃ u, e = .returned (.agg #[.int .i64 (n : Int), u]) ∧ OwnI w' w.heap.size u (zs ((List.range (2 ^ n)).map (bx A))) ∧ Grew w w' := by
  have hinfo : (Tryz.prog.info? 26).map (·.size) = some 2 := by kernel_rfl
  have hP32 : 2 ^ n ≤ 32 := Nat.le_trans (Nat.pow_le_pow_right (by omega) hn) (by decide)
  have hP0 : 0 < 2 ^ n := Nat.two_pow_pos n
  have hFP : full n + 1 = 2 ^ n := by have : full n = 2 ^ n - 1 := rfl; omega
  have HFU := l01Full_q n (by omega)
  rw [← full_cast] at HFU
  have HFU := Lib.hid HFU
  have HBX := Lib.hid (fun (x : Nat) W (hx : x < 2 ^ n) (hW : Grew w W) => show Calls Tryz.prog 109 #[v, .int .i64 (x : Int)] W fun e w' => e = .returned (.int .i64 ((bx A x : Nat) : Int)) ∧ Grew W w' from
    (l01Box_q v A x W (h.grew hW) hA (by omega) (by omega)).mono fun _ _ hh => ⟨hh.1, by obtain ⟨d, hd⟩ := hh.2; rw [hd]; exact (Grew.refl W).drewN d⟩)
  have HNX := Lib.hid (fun x => (show (List.range (x + 1)).map (bx A) = (List.range x).map (bx A) ++ [bx A x] by rw [List.range_succ, List.map_append]; rfl))
  obtain ⟨A1, c1, rfl⟩ := ints_slice h
  clear h hl hA
  generalize (zs A).length = l1 at *
  generalize hF : full n = Fu at *
  generalize hPe : (2 : Nat) ^ n = P at *
  clear hF hPe
  obtain ⟨w0, hw0⟩ : ∃ w0, w0 = (((w.alloc (.cells #[.int .i64 (n : Int), .slice A1 l1 c1] 76)).alloc (.cells #[.int .i64 0, .slice none 0 0] 26)).alloc (.cells #[] 2)).alloc (.cells #[.int .i64 (n : Int), .slice (some ⟨w.heap.size + 1 + 1, 0, none⟩) 0 0] 26) := ⟨_, rfl⟩
  have H0 : OfS w n (.slice A1 l1 c1) A 0 w0 := by
    have s1 : (w.alloc (.cells #[.int .i64 (n : Int), .slice A1 l1 c1] 76)).heap.size = w.heap.size + 1 := by simp
    have b1 := blk_new w (.cells #[.int .i64 (n : Int), .slice A1 l1 c1] 76)
    have g1 := (Grew.refl w).alloc (.cells #[.int .i64 (n : Int), .slice A1 l1 c1] 76)
    generalize w.alloc (.cells #[.int .i64 (n : Int), .slice A1 l1 c1] 76) = wa at *
    have s2 : (wa.alloc (.cells #[.int .i64 0, .slice none 0 0] 26)).heap.size = w.heap.size + 1 + 1 := by simp [s1]
    have b2 := blk_new wa (.cells #[.int .i64 0, .slice none 0 0] 26)
    rw [s1] at b2
    have g2 := (Grew.refl wa).alloc (.cells #[.int .i64 0, .slice none 0 0] 26)
    generalize wa.alloc (.cells #[.int .i64 0, .slice none 0 0] 26) = wb at *
    have s3 : (wb.alloc (.cells #[] 2)).heap.size = w.heap.size + 1 + 1 + 1 := by simp [s2]
    have o3 := own_emptyI wb
    rw [s2] at o3
    have g3 := (Grew.refl wb).alloc (.cells #[] 2)
    generalize wb.alloc (.cells #[] 2) = wc at *
    have b4 := blk_new wc (.cells #[.int .i64 (n : Int), .slice (some ⟨w.heap.size + 1 + 1, 0, none⟩) 0 0] 26)
    rw [s3] at b4
    have g4 := (Grew.refl wc).alloc (.cells #[.int .i64 (n : Int), .slice (some ⟨w.heap.size + 1 + 1, 0, none⟩) 0 0] 26)
    rw [← hw0] at b4 g4
    exact ⟨_, _, ⟨((g1.trans g2).trans g3).trans g4, (((g2.trans g3).trans g4).block (blk_lt b1)).trans b1⟩, ((g3.trans g4).block (blk_lt b2)).trans b2, b4, o3.grew g4, fun he => by simp [Value.ownBlock] at he⟩
  have HS0 := Lib.hid H0
  obtain ⟨AB, cB, hof, -, -, -, -⟩ := H0
  have d0 := hof.c0
  clear hof
  go_enter Tryz.func87, Tryz.ntmps87
  go_wp2_with fail
  simp only [← hw0]
  clear hw0 d0
  go_loopw [4] (fun i wr => ∃ x : Nat, x ≤ P ∧ i = .int .i64 (x : Int) ∧ Hid (OfS w n (.slice A1 l1 c1) A x wr)) (fun i _ => P - (intOf i).toNat)
  case atStart => exact ⟨0, by omega, rfl, HS0⟩
  case round =>
    obtain ⟨x, hx, rfl, hS⟩ := hrel
    obtain ⟨AB, cB, hof, hres, hblk, hOB, hne⟩ := hS.out
    have e0 := hof.c0
    by_cases hlt : x < P
    · have hle : (x : Int) ≤ (Fu : Int) := by omega
      go_wp2_with fail
      refine (HFU.out _).mono ?_
      rintro e w2 ⟨rfl, hw2⟩
      rw [hw2]
      clear hw2
      have hnx := HNX.out x
      have hbx := Lib.hid (fun W hW => HBX.out x W hlt hW)
      have hkl : ((List.range x).map (bx A)).length = x := by simp
      generalize (List.range x).map (bx A) = KB at *
      generalize bx A x = ix at *
      have HFIN := Lib.hid (fun W (A5 : Option Addr) (n5 c5 : Nat) (hf : OfF w n (.slice A1 l1 c1) W) hr hb ho hne => OfS.next (w := w) (W := W) (n := n) (x := x) (ix := ix) (n5 := n5) (c5 := c5) (cB := cB) (AB := AB) (A5 := A5) (KB := KB) hf hr hb ho hne hnx hkl)
      have C1 := fun W (hW : OfF w n (.slice A1 l1 c1) W) => hW.c1
      clear hnx e0
      go_upto_region 5 with fail
      have gd := (Grew.refl wr).drew
      have hdd : OfF w n (.slice A1 l1 c1) wr.drew := hof.step gd
      replace hblk := (gd.block (blk_lt hblk)).trans hblk
      replace hres := (gd.block (blk_lt hres)).trans hres
      replace hOB := hOB.grew gd
      have kc0 : wr.drew.cell? ⟨w.heap.size + 1 + 1 + 1, 1, none⟩ = some (.slice AB x cB) := by rw [blk_cell hblk]; rfl
      clear hof hS
      refine wp_region_held_drew (S := fun w' => OfF w n (.slice A1 l1 c1) w') (by kernel_rfl) hdd (fun hHeld => ?_)
      refine wpAnyH_take (i := 0) (oi := ?on1) (v := ?vn1) ?hin1 ?an1 ?bn1 ?cn1 ?qn1 (Or.inl ⟨?dn1, ?hyn1⟩) hHeld ?restn1
      case hin1 => (simp only [List.getElem?_toArray, List.getElem?_cons_zero]; exact rfl)
      case an1 => kernel_rfl
      case bn1 => kernel_rfl
      case cn1 => kernel_rfl
      case qn1 => exact fun _ _ _ h => h
      case dn1 => rfl
      case hyn1 => (intro z hSw; (try dsimp only at hSw); go_simp; (try with_reducible rfl))
      try simp only [Act.put, List.setIfInBounds_toArray, List.set_cons_zero, List.set_cons_succ]
      refine wpAnyH_take (i := 2) (oi := ?on2) (v := ?vn2) ?hin2 ?an2 ?bn2 ?cn2 ?qn2 (Or.inl ⟨?dn2, ?hyn2⟩) hHeld ?restn2
      case hin2 => (simp only [List.getElem?_toArray, List.getElem?_cons_succ, List.getElem?_cons_zero]; exact rfl)
      case an2 => kernel_rfl
      case bn2 => kernel_rfl
      case cn2 => kernel_rfl
      case qn2 => exact fun _ _ _ h => h
      case dn2 => rfl
      case hyn2 => (intro z hSw; (try dsimp only at hSw); go_simp; (try with_reducible rfl))
      try simp only [Act.put, List.setIfInBounds_toArray, List.set_cons_zero, List.set_cons_succ]
      refine wpAnyH_take (i := 3) (oi := ?on3) (v := ?vn3) ?hin3 ?an3 ?bn3 ?cn3 ?qn3 (Or.inl ⟨?dn3, ?hyn3⟩) hHeld ?restn3
      case hin3 => (simp only [List.getElem?_toArray, List.getElem?_cons_succ, List.getElem?_cons_zero]; exact rfl)
      case an3 => kernel_rfl
      case bn3 => kernel_rfl
      case cn3 => kernel_rfl
      case qn3 => exact fun _ _ _ h => h
      case dn3 => rfl
      case hyn3 => (intro z hSw; (try dsimp only at hSw); go_simp; (try with_reducible rfl))
      try simp only [Act.put, List.setIfInBounds_toArray, List.set_cons_zero, List.set_cons_succ]
      refine wpAnyH_take (i := 4) (oi := ?on4) (v := ?vn4) ?hin4 ?an4 ?bn4 ?cn4 ?qn4 (Or.inl ⟨?dn4, ?hyn4⟩) hHeld ?restn4
      case hin4 => (simp only [List.getElem?_toArray, List.getElem?_cons_succ, List.getElem?_cons_zero]; exact rfl)
      case an4 => kernel_rfl
      case bn4 => kernel_rfl
      case cn4 => kernel_rfl
      case qn4 => exact fun _ _ _ h => h
      case dn4 => rfl
      case hyn4 => (intro z hSw; (try dsimp only at hSw); go_simp; (try with_reducible rfl))
      try simp only [Act.put, List.setIfInBounds_toArray, List.set_cons_zero, List.set_cons_succ]
      refine wpAnyH_ready (rs := [1, 5]) (by kernel_rfl) (by simp) ?_
      refine AllReadyH.cons (o := ?on5) ?hin5 ?restn5 (AllReadyH.cons (o := ?on6) ?hin6 ?restn6 AllReadyH.nil)
      case hin5 => (simp only [List.getElem?_toArray, List.getElem?_cons_succ, List.getElem?_cons_zero]; exact rfl)
      case hin6 => (simp only [List.getElem?_toArray, List.getElem?_cons_succ, List.getElem?_cons_zero]; exact rfl)
      case restn5 =>
        intro K hK
        go_simp
        refine hK.out _ _ ?_ (fun hHeld => ?_)
        · (try dsimp only); first | with_reducible assumption | exact hdd
        clear hK K
        try simp only [Act.put, List.setIfInBounds_toArray, List.set_cons_zero, List.set_cons_succ]
        refine wpAnyH_ready (rs := [5]) (by kernel_rfl) (by simp) ?_
        refine AllReadyH.cons (o := ?on7) ?hin7 ?restn7 AllReadyH.nil
        case hin7 => (simp only [List.getElem?_toArray, List.getElem?_cons_succ, List.getElem?_cons_zero]; exact rfl)
        intro K hK
        go_simp
        go_at_call 109
        refine (hbx.out _ hdd.1).mono ?_
        rintro e x2 ⟨rfl, hgx2⟩
        have hx2 : OfF w n (.slice A1 l1 c1) x2 := hdd.step hgx2
        replace hblk := (hgx2.block (blk_lt hblk)).trans hblk
        replace hres := (hgx2.block (blk_lt hres)).trans hres
        replace hOB := hOB.grew hgx2
        refine hK.out _ _ ?_ (fun hHeld => ?_)
        · (try dsimp only); first | with_reducible assumption | exact hx2
        clear hK K
        try simp only [Act.put, List.setIfInBounds_toArray, List.set_cons_zero, List.set_cons_succ]
        refine wpAnyH_ready (rs := [6]) (by kernel_rfl) (by simp) ?_
        refine AllReadyH.cons (o := ?on8) ?hin8 ?restn8 AllReadyH.nil
        case hin8 => (simp only [List.getElem?_toArray, List.getElem?_cons_succ, List.getElem?_cons_zero]; exact rfl)
        intro K hK
        go_simp
        have hlit := rd_litI x2 (ix : Int) 2
        obtain ⟨x3, hwx3⟩ : ∃ W, W = x2.alloc (.cells #[.int .i64 (ix : Int)] 2) := ⟨_, rfl⟩
        have hgx3 : Grew x2 x3 := by rw [hwx3]; exact (Grew.refl _).alloc _
        have hx3 : OfF w n (.slice A1 l1 c1) x3 := hx2.step hgx3
        rw [← hwx3] at hlit
        try simp only [← hwx3]
        clear hwx3
        replace hblk := (hgx3.block (blk_lt hblk)).trans hblk
        replace hres := (hgx3.block (blk_lt hres)).trans hres
        replace hOB := hOB.grew hgx3
        refine hK.out _ _ ?_ (fun hHeld => ?_)
        · (try dsimp only); first | with_reducible assumption | exact hx3
        clear hK K
        try simp only [Act.put, List.setIfInBounds_toArray, List.set_cons_zero, List.set_cons_succ]
        refine wpAnyH_ready (rs := [7]) (by kernel_rfl) (by simp) ?_
        refine AllReadyH.cons (o := ?on9) ?hin9 ?restn9 AllReadyH.nil
        case hin9 => (simp only [List.getElem?_toArray, List.getElem?_cons_succ, List.getElem?_cons_zero]; exact rfl)
        intro K hK
        refine step_appIL (w.heap.size + 1 + 1) rfl (.tmp 17) (.tmp 22) rfl (.slice AB x cB) (zs KB) rfl hOB (by have := blk_lt hblk; omega) (.slice (some ⟨x2.heap.size, 0, none⟩) 1 1) _ rfl hlit (by rw [zs_len]; omega) ?_
        intro v5 x4 hown5 hg5 hat5
        obtain ⟨A5, n5, c5, rfl⟩ := own_shape hown5
        have hne5 : (Value.slice A5 n5 c5).ownBlock ≠ some (w.heap.size + 1 + 1 + 1) := by
          rcases hat5 with e | e
          · rw [e]; exact hne
          · rw [e]
            intro he
            have h9 := blk_lt hblk
            simp only [Option.some.injEq] at he
            omega
        have hx4 : OfF w n (.slice A1 l1 c1) x4 := ⟨hx3.1.grown hg5 (fun g hg => by have := ownI_of_ge hOB hg; omega), (World.grownBy.block hg5 _ (blk_lt hx3.2) (fun he => by have := ownI_of_ge hOB he.symm; omega)).trans hx3.2⟩
        replace hres := (World.grownBy.block hg5 _ (blk_lt hres) (fun he => by have := ownI_of_ge hOB he.symm; omega)).trans hres
        replace hblk := (World.grownBy.block hg5 _ (blk_lt hblk) (fun he => hne he.symm)).trans hblk
        have kzx4 : x4.cell? ⟨w.heap.size + 1 + 1 + 1, 1, none⟩ = some (.slice AB x cB) := by rw [blk_cell hblk]; rfl
        have fzx4 := blk_frozen hblk 1
        refine hK.out _ _ ?_ (fun hHeld => ?_)
        · (try dsimp only); first | with_reducible assumption | exact hx4
        clear hK K
        try simp only [Act.put, List.setIfInBounds_toArray, List.set_cons_zero, List.set_cons_succ]
        refine wpAnyH_take (i := 8) (oi := ?on10) (v := ?vn10) ?hin10 ?an10 ?bn10 ?cn10 ?qn10 (Or.inl ⟨?dn10, ?hyn10⟩) hHeld ?restn10
        case hin10 => (simp only [List.getElem?_toArray, List.getElem?_cons_succ, List.getElem?_cons_zero]; exact rfl)
        case an10 => kernel_rfl
        case bn10 => kernel_rfl
        case cn10 => kernel_rfl
        case qn10 => exact fun _ _ _ h => h
        case dn10 => rfl
        case hyn10 => (intro z hSw; (try dsimp only at hSw); go_simp; (try with_reducible rfl))
        try simp only [Act.put, List.setIfInBounds_toArray, List.set_cons_zero, List.set_cons_succ]
        refine wpAnyH_ready (rs := [9]) (by kernel_rfl) (by simp) ?_
        refine AllReadyH.cons (o := ?on11) ?hin11 ?restn11 AllReadyH.nil
        case hin11 => (simp only [List.getElem?_toArray, List.getElem?_cons_succ, List.getElem?_cons_zero]; exact rfl)
        intro K hK
        go_simp
        refine hK.out _ _ ?_ (fun hHeld => ?_)
        · (try dsimp only); first | with_reducible assumption | exact OfF.set hx4 (by omega)
        clear hK K
        try simp only [Act.put, List.setIfInBounds_toArray, List.set_cons_zero, List.set_cons_succ]
        refine wpAnyH_done (by kernel_rfl) ?_ _
        have hF := Lib.hid (HFIN.out x4 _ _ _ hx4 hres hblk hown5 hne5)
        clear hOB hlit hblk hres hown5 hg5 hne5
        go_wp2_with fail
        go_roundw
        case rel => exact ⟨x + 1, by omega, by go_num, hF⟩
        case measure => simp [intOf] <;> omega
      case restn6 =>
        intro K hK
        go_simp
        go_at_call 109
        refine (hbx.out _ hdd.1).mono ?_
        rintro e x1 ⟨rfl, hgx1⟩
        have hx1 : OfF w n (.slice A1 l1 c1) x1 := hdd.step hgx1
        replace hblk := (hgx1.block (blk_lt hblk)).trans hblk
        replace hres := (hgx1.block (blk_lt hres)).trans hres
        replace hOB := hOB.grew hgx1
        have kcx1 : x1.cell? ⟨w.heap.size + 1 + 1 + 1, 1, none⟩ = some (.slice AB x cB) := by rw [blk_cell hblk]; rfl
        refine hK.out _ _ ?_ (fun hHeld => ?_)
        · (try dsimp only); first | with_reducible assumption | exact hx1
        clear hK K
        try simp only [Act.put, List.setIfInBounds_toArray, List.set_cons_zero, List.set_cons_succ]
        refine wpAnyH_ready (rs := [1, 6]) (by kernel_rfl) (by simp) ?_
        refine AllReadyH.cons (o := ?on12) ?hin12 ?restn12 (AllReadyH.cons (o := ?on13) ?hin13 ?restn13 AllReadyH.nil)
        case hin12 => (simp only [List.getElem?_toArray, List.getElem?_cons_succ, List.getElem?_cons_zero]; exact rfl)
        case hin13 => (simp only [List.getElem?_toArray, List.getElem?_cons_succ, List.getElem?_cons_zero]; exact rfl)
        case restn12 =>
          intro K hK
          go_simp
          refine hK.out _ _ ?_ (fun hHeld => ?_)
          · (try dsimp only); first | with_reducible assumption | exact hx1
          clear hK K
          try simp only [Act.put, List.setIfInBounds_toArray, List.set_cons_zero, List.set_cons_succ]
          refine wpAnyH_ready (rs := [6]) (by kernel_rfl) (by simp) ?_
          refine AllReadyH.cons (o := ?on14) ?hin14 ?restn14 AllReadyH.nil
          case hin14 => (simp only [List.getElem?_toArray, List.getElem?_cons_succ, List.getElem?_cons_zero]; exact rfl)
          intro K hK
          go_simp
          have hlit := rd_litI x1 (ix : Int) 2
          obtain ⟨x3, hwx3⟩ : ∃ W, W = x1.alloc (.cells #[.int .i64 (ix : Int)] 2) := ⟨_, rfl⟩
          have hgx3 : Grew x1 x3 := by rw [hwx3]; exact (Grew.refl _).alloc _
          have hx3 : OfF w n (.slice A1 l1 c1) x3 := hx1.step hgx3
          rw [← hwx3] at hlit
          try simp only [← hwx3]
          clear hwx3
          replace hblk := (hgx3.block (blk_lt hblk)).trans hblk
          replace hres := (hgx3.block (blk_lt hres)).trans hres
          replace hOB := hOB.grew hgx3
          refine hK.out _ _ ?_ (fun hHeld => ?_)
          · (try dsimp only); first | with_reducible assumption | exact hx3
          clear hK K
          try simp only [Act.put, List.setIfInBounds_toArray, List.set_cons_zero, List.set_cons_succ]
          refine wpAnyH_ready (rs := [7]) (by kernel_rfl) (by simp) ?_
          refine AllReadyH.cons (o := ?on15) ?hin15 ?restn15 AllReadyH.nil
          case hin15 => (simp only [List.getElem?_toArray, List.getElem?_cons_succ, List.getElem?_cons_zero]; exact rfl)
          intro K hK
          refine step_appIL (w.heap.size + 1 + 1) rfl (.tmp 17) (.tmp 22) rfl (.slice AB x cB) (zs KB) rfl hOB (by have := blk_lt hblk; omega) (.slice (some ⟨x1.heap.size, 0, none⟩) 1 1) _ rfl hlit (by rw [zs_len]; omega) ?_
          intro v5 x4 hown5 hg5 hat5
          obtain ⟨A5, n5, c5, rfl⟩ := own_shape hown5
          have hne5 : (Value.slice A5 n5 c5).ownBlock ≠ some (w.heap.size + 1 + 1 + 1) := by
            rcases hat5 with e | e
            · rw [e]; exact hne
            · rw [e]
              intro he
              have h9 := blk_lt hblk
              simp only [Option.some.injEq] at he
              omega
          have hx4 : OfF w n (.slice A1 l1 c1) x4 := ⟨hx3.1.grown hg5 (fun g hg => by have := ownI_of_ge hOB hg; omega), (World.grownBy.block hg5 _ (blk_lt hx3.2) (fun he => by have := ownI_of_ge hOB he.symm; omega)).trans hx3.2⟩
          replace hres := (World.grownBy.block hg5 _ (blk_lt hres) (fun he => by have := ownI_of_ge hOB he.symm; omega)).trans hres
          replace hblk := (World.grownBy.block hg5 _ (blk_lt hblk) (fun he => hne he.symm)).trans hblk
          have kzx4 : x4.cell? ⟨w.heap.size + 1 + 1 + 1, 1, none⟩ = some (.slice AB x cB) := by rw [blk_cell hblk]; rfl
          have fzx4 := blk_frozen hblk 1
          refine hK.out _ _ ?_ (fun hHeld => ?_)
          · (try dsimp only); first | with_reducible assumption | exact hx4
          clear hK K
          try simp only [Act.put, List.setIfInBounds_toArray, List.set_cons_zero, List.set_cons_succ]
          refine wpAnyH_take (i := 8) (oi := ?on16) (v := ?vn16) ?hin16 ?an16 ?bn16 ?cn16 ?qn16 (Or.inl ⟨?dn16, ?hyn16⟩) hHeld ?restn16
          case hin16 => (simp only [List.getElem?_toArray, List.getElem?_cons_succ, List.getElem?_cons_zero]; exact rfl)
          case an16 => kernel_rfl
          case bn16 => kernel_rfl
          case cn16 => kernel_rfl
          case qn16 => exact fun _ _ _ h => h
          case dn16 => rfl
          case hyn16 => (intro z hSw; (try dsimp only at hSw); go_simp; (try with_reducible rfl))
          try simp only [Act.put, List.setIfInBounds_toArray, List.set_cons_zero, List.set_cons_succ]
          refine wpAnyH_ready (rs := [9]) (by kernel_rfl) (by simp) ?_
          refine AllReadyH.cons (o := ?on17) ?hin17 ?restn17 AllReadyH.nil
          case hin17 => (simp only [List.getElem?_toArray, List.getElem?_cons_succ, List.getElem?_cons_zero]; exact rfl)
          intro K hK
          go_simp
          refine hK.out _ _ ?_ (fun hHeld => ?_)
          · (try dsimp only); first | with_reducible assumption | exact OfF.set hx4 (by omega)
          clear hK K
          try simp only [Act.put, List.setIfInBounds_toArray, List.set_cons_zero, List.set_cons_succ]
          refine wpAnyH_done (by kernel_rfl) ?_ _
          have hF := Lib.hid (HFIN.out x4 _ _ _ hx4 hres hblk hown5 hne5)
          clear hOB hlit hblk hres hown5 hg5 hne5
          go_wp2_with fail
          go_roundw
          case rel => exact ⟨x + 1, by omega, by go_num, hF⟩
          case measure => simp [intOf] <;> omega
        case restn13 =>
          intro K hK
          go_simp
          have hlit := rd_litI x1 (ix : Int) 2
          obtain ⟨x2, hwx2⟩ : ∃ W, W = x1.alloc (.cells #[.int .i64 (ix : Int)] 2) := ⟨_, rfl⟩
          have hgx2 : Grew x1 x2 := by rw [hwx2]; exact (Grew.refl _).alloc _
          have hx2 : OfF w n (.slice A1 l1 c1) x2 := hx1.step hgx2
          rw [← hwx2] at hlit
          try simp only [← hwx2]
          clear hwx2
          replace hblk := (hgx2.block (blk_lt hblk)).trans hblk
          replace hres := (hgx2.block (blk_lt hres)).trans hres
          replace hOB := hOB.grew hgx2
          have kcx2 : x2.cell? ⟨w.heap.size + 1 + 1 + 1, 1, none⟩ = some (.slice AB x cB) := by rw [blk_cell hblk]; rfl
          refine hK.out _ _ ?_ (fun hHeld => ?_)
          · (try dsimp only); first | with_reducible assumption | exact hx2
          clear hK K
          try simp only [Act.put, List.setIfInBounds_toArray, List.set_cons_zero, List.set_cons_succ]
          refine wpAnyH_ready (rs := [1]) (by kernel_rfl) (by simp) ?_
          refine AllReadyH.cons (o := ?on18) ?hin18 ?restn18 AllReadyH.nil
          case hin18 => (simp only [List.getElem?_toArray, List.getElem?_cons_succ, List.getElem?_cons_zero]; exact rfl)
          intro K hK
          go_simp
          refine hK.out _ _ ?_ (fun hHeld => ?_)
          · (try dsimp only); first | with_reducible assumption | exact hx2
          clear hK K
          try simp only [Act.put, List.setIfInBounds_toArray, List.set_cons_zero, List.set_cons_succ]
          refine wpAnyH_ready (rs := [7]) (by kernel_rfl) (by simp) ?_
          refine AllReadyH.cons (o := ?on19) ?hin19 ?restn19 AllReadyH.nil
          case hin19 => (simp only [List.getElem?_toArray, List.getElem?_cons_succ, List.getElem?_cons_zero]; exact rfl)
          intro K hK
          refine step_appIL (w.heap.size + 1 + 1) rfl (.tmp 17) (.tmp 22) rfl (.slice AB x cB) (zs KB) rfl hOB (by have := blk_lt hblk; omega) (.slice (some ⟨x1.heap.size, 0, none⟩) 1 1) _ rfl hlit (by rw [zs_len]; omega) ?_
          intro v5 x4 hown5 hg5 hat5
          obtain ⟨A5, n5, c5, rfl⟩ := own_shape hown5
          have hne5 : (Value.slice A5 n5 c5).ownBlock ≠ some (w.heap.size + 1 + 1 + 1) := by
            rcases hat5 with e | e
            · rw [e]; exact hne
            · rw [e]
              intro he
              have h9 := blk_lt hblk
              simp only [Option.some.injEq] at he
              omega
          have hx4 : OfF w n (.slice A1 l1 c1) x4 := ⟨hx2.1.grown hg5 (fun g hg => by have := ownI_of_ge hOB hg; omega), (World.grownBy.block hg5 _ (blk_lt hx2.2) (fun he => by have := ownI_of_ge hOB he.symm; omega)).trans hx2.2⟩
          replace hres := (World.grownBy.block hg5 _ (blk_lt hres) (fun he => by have := ownI_of_ge hOB he.symm; omega)).trans hres
          replace hblk := (World.grownBy.block hg5 _ (blk_lt hblk) (fun he => hne he.symm)).trans hblk
          have kzx4 : x4.cell? ⟨w.heap.size + 1 + 1 + 1, 1, none⟩ = some (.slice AB x cB) := by rw [blk_cell hblk]; rfl
          have fzx4 := blk_frozen hblk 1
          refine hK.out _ _ ?_ (fun hHeld => ?_)
          · (try dsimp only); first | with_reducible assumption | exact hx4
          clear hK K
          try simp only [Act.put, List.setIfInBounds_toArray, List.set_cons_zero, List.set_cons_succ]
          refine wpAnyH_take (i := 8) (oi := ?on20) (v := ?vn20) ?hin20 ?an20 ?bn20 ?cn20 ?qn20 (Or.inl ⟨?dn20, ?hyn20⟩) hHeld ?restn20
          case hin20 => (simp only [List.getElem?_toArray, List.getElem?_cons_succ, List.getElem?_cons_zero]; exact rfl)
          case an20 => kernel_rfl
          case bn20 => kernel_rfl
          case cn20 => kernel_rfl
          case qn20 => exact fun _ _ _ h => h
          case dn20 => rfl
          case hyn20 => (intro z hSw; (try dsimp only at hSw); go_simp; (try with_reducible rfl))
          try simp only [Act.put, List.setIfInBounds_toArray, List.set_cons_zero, List.set_cons_succ]
          refine wpAnyH_ready (rs := [9]) (by kernel_rfl) (by simp) ?_
          refine AllReadyH.cons (o := ?on21) ?hin21 ?restn21 AllReadyH.nil
          case hin21 => (simp only [List.getElem?_toArray, List.getElem?_cons_succ, List.getElem?_cons_zero]; exact rfl)
          intro K hK
          go_simp
          refine hK.out _ _ ?_ (fun hHeld => ?_)
          · (try dsimp only); first | with_reducible assumption | exact OfF.set hx4 (by omega)
          clear hK K
          try simp only [Act.put, List.setIfInBounds_toArray, List.set_cons_zero, List.set_cons_succ]
          refine wpAnyH_done (by kernel_rfl) ?_ _
          have hF := Lib.hid (HFIN.out x4 _ _ _ hx4 hres hblk hown5 hne5)
          clear hOB hlit hblk hres hown5 hg5 hne5
          go_wp2_with fail
          go_roundw
          case rel => exact ⟨x + 1, by omega, by go_num, hF⟩
          case measure => simp [intOf] <;> omega
    · obtain rfl : x = P := by omega
      have hle : ((x : Int) ≤ (Fu : Int)) = False := eq_false (by omega)
      go_wp2_with fail
      refine (HFU.out _).mono ?_
      rintro e w2 ⟨rfl, hw2⟩
      rw [hw2]
      clear hw2
      have f0 := blk_frozen hres 0
      have f1 := blk_frozen hres 1
      have k0 : wr.cell? ⟨w.heap.size + 1, 0, none⟩ = some (.int .i64 0) := by rw [blk_cell hres]; rfl
      have k1 : wr.cell? ⟨w.heap.size + 1, 1, none⟩ = some (.slice none 0 0) := by rw [blk_cell hres]; rfl
      have q0 : wr.cell? ⟨w.heap.size + 1 + 1 + 1, 0, none⟩ = some (.int .i64 (n : Int)) := by rw [blk_cell hblk]; rfl
      have q1 : wr.cell? ⟨w.heap.size + 1 + 1 + 1, 1, none⟩ = some (.slice AB x cB) := by rw [blk_cell hblk]; rfl
      have HY := Lib.hid hres
      have HO := Lib.hid hOB
      have HH := Lib.hid hof.1
      clear hres hblk hOB hof hS
      go_wp2_with fail
      (try simp only [Exit.inBlock, Exit.then])
      refine bodyPost_ret (results_cell_row rfl _ _ (w.heap.size + 1) _ _ _ _ rfl (blk_set (blk_set HY.out 0 _) 1 _) Tryz.underlying26 rfl hinfo) rfl ?_
      refine ⟨_, rfl, ?_, (HH.out.setCell (Nat.le_succ _) _).setCell (Nat.le_succ _) _⟩
      exact OwnI.base (own_only HO.out (((Only.refl (w.heap.size + 1) wr).setCell _).setCell _) (fun hh => by have := (World.ownsRow.lt HO.out _ hh).1; omega)) (by omega)
end Go.Proofs.YtopjgcbhjhhlfaaGreat


/- Masks: rows of members of the reference (l01List). -/
namespace Go.Proofs.YtopjgcbhjhhlfaaGreat
open Go.RowKit
theorem half_bit (m j : Nat) : decide (m / 2 ^ j % 2 = 1) = m.testBit j := (Nat.testBit_eq_decide_div_mod_eq ..).symm
theorem half_next (m j : Nat) : m / 2 ^ j / 2 = m / 2 ^ (j + 1) := by rw [Nat.div_div_eq_div_mul, Nat.pow_succ]
theorem l01List_c (m : Nat) (hm : m < 1073741824) (w : World) :
    Calls Tryz.prog 73 #[.int .i64 (m : Int)] w (GivesI w (zs (mbs m))) := by
  obtain ⟨M, hM⟩ : ∃ M, M = zs (mbs m) := ⟨_, rfl⟩
  rw [← hM]
  have HZ := Lib.hid (fun n hn h => (congrArg zs (mbs_of (n := n) hm h hn)).trans hM.symm)
  have HY := Lib.hid (fun n h => (congrArg zs (@mb_yes m n h)).trans (zs_append _ _))
  have HN := Lib.hid (fun n h => congrArg zs (@mb_no m n h))
  have HL := Lib.hid (fun n => Nat.le_trans (Nat.le_of_eq (zs_len (mb m n))) (mb_len m n))
  have HB := Lib.hid (half_bit m)
  have HX := Lib.hid (half_next m)
  have HT30 := Lib.hid (show m / 2 ^ 30 = 0 from Nat.div_eq_of_lt hm)
  have HS := Lib.hid (fun n => Nat.div_le_self m (2 ^ n))
  have hs0 : ((m : Nat) : Int) = ((m / 2 ^ 0 : Nat) : Int) := by rw [Nat.pow_zero, Nat.div_one]
  have HS0 := Lib.hid hs0
  clear hM hs0
  go_enter Tryz.func73, Tryz.ntmps73
  go_wp2_with fail
  go_loopw [0, 3, 4] (fun q s i wr => ∃ j : Nat, j ≤ 30 ∧ q = .int .i64 ((m / 2 ^ j : Nat) : Int) ∧ i = .int .i64 j ∧ Grew w wr ∧ OwnI wr w.heap.size s (zs (mb m j))) (fun _ _ i _ => 30 - (intOf i).toNat)
  case atStart => exact ⟨0, by omega, congrArg (Value.int .i64) HS0.out, rfl, (Grew.refl _).alloc _, own_emptyI w⟩
  case round =>
    obtain ⟨j, hj, rfl, rfl, hB, hO⟩ := hrel
    have hb := HB.out j
    have hx := HX.out j
    have hs := HS.out j
    have hz := Lib.hid (HZ.out j hj)
    have hj' : m / 2 ^ j ≠ 0 → j < 30 := by
      intro hz
      rcases Nat.lt_or_ge j 30 with h | h
      · exact h
      · obtain rfl : j = 30 := by omega
        exact absurd HT30.out hz
    have hY := Lib.hid (HY.out j)
    have hN := Lib.hid (HN.out j)
    have hl := HL.out j
    obtain ⟨d', hdd⟩ : ∃ d', m / 2 ^ (j + 1) = d' := ⟨_, rfl⟩
    rw [hdd] at hx
    have hdd := Lib.hid hdd
    generalize m / 2 ^ j = d at *
    have hd' : (d : Int) / 2 = (d' : Int) := by rw [← hx]; rfl
    by_cases h0 : d = 0
    · subst h0
      have hr := hz.out rfl
      clear hd' hx
      go_wp2_with fail
      go_ret
      rw [hr] at hO
      exact ⟨_, rfl, hO, hB⟩
    · have hj2 := hj' h0
      clear hj' hz hx
      generalize m.testBit j = b at *
      cases b with
      | true =>
        have hy := hY.out rfl
        have he : (d : Int) % 2 = 1 := by have := of_decide_eq_true hb; omega
        go_wp2_with (first | (at_builtin; refine wpList_appI (w0 := w) _ _ rfl rfl _ (zs (mb m j)) rfl (hO.grew (Grew.alloc (Grew.refl _) _)) (hB.alloc _) _ (j : Int) rfl (rd_litI _ _ _) (by omega) ?_; intro v2 w2 hO2 hg2 _))
        go_roundw
        case rel => exact ⟨j + 1, by omega, by rw [hdd.out], by go_num, hg2, by rw [hy]; exact hO2⟩
        case measure => simp [intOf]; omega
      | false =>
        have hn := hN.out rfl
        have he : (d : Int) % 2 = 0 := by have := of_decide_eq_false hb; omega
        go_wp2_with fail
        go_roundw
        case rel => exact ⟨j + 1, by omega, by rw [hdd.out], by go_num, hB, by rw [hn]; exact hO⟩
        case measure => simp [intOf]; omega
end Go.Proofs.YtopjgcbhjhhlfaaGreat


/- Parts of posets of the reference: l16Make, l16Part. -/
namespace Go.Proofs.YtopjgcbhjhhlfaaGreat
open Go.RowKit

theorem step_appI {ops : Array Oper} {o : Oper} {a : Act} {K : Act → World → Prop} {Q : Exit → Act → World → Prop} {E : Prop} {w : World} (B : Nat) (hgd : o.guard = none) (s x : Operand)
    (ho : o.op = .call { callee := .builtin .append, args := #[s, x], argTypes := #[24, 24] })
    (v : Value) (L : List Int) (hs : a.eval s = v) (hown : OwnI w B v L) (hB : B ≤ w.heap.size) (vx : Value) (k : Int) (hx : a.eval x = vx) (hr : Rd w 1 vx 1 [.int .i64 k]) (hn : L.length ≤ 1048576)
    (h : ∀ v' w', OwnI w' B v' (L ++ [k]) → w.grownBy w' v.ownBlock → K (a.put o.dst v') w') : if Region.wanted o (yielded ops a.tmps) = true then Oper.wp Tryz.prog o a w K Q else E := by
  obtain ⟨i0, hi0, hz0, hz1, hz2⟩ := info_parts Tryz.infoI
  have hw : Region.wanted o (yielded ops a.tmps) = true := by simp [Region.wanted, hgd]
  rw [if_pos hw]
  obtain ⟨hl, _, hr⟩ := hr
  rcases hr with ⟨rfl, h0⟩ | ⟨b, of, c, rfl, _, _, _, hc⟩
  · exact absurd h0 (by omega)
  · obtain ⟨v', w', hrun, h2, h3, _, _⟩ := run_append_own_at (P := Tryz.prog) w B _ o.type 2 i0 _ 1 8 Tryz.underlying24 hi0 hz0 hz1 hz2 rfl (by omega) v L.length (icells L) hown ⟨b, of, none⟩ 1 c [.int .i64 k] hl (fun j u hu => by rw [Addr.add_lit]; exact hc j u hu) (by simp [Value.oneCell']) (by unfold maxLen; omega) (by omega) hB
    unfold Oper.wp execOp
    simp only [ho, resolve, invoke, builtin, Sem.run_bind, Sem.run_pure, Result.andThen_ok, List.map_toArray, List.map_cons, List.map_nil, hs, hx, hrun]
    refine h v' w' ?_ h3
    unfold OwnI
    rw [List.length_append, icells_append]
    exact h2
end Go.Proofs.YtopjgcbhjhhlfaaGreat


/- FnMonotone: what draws of posets reckon with: reflexive and transitive closure, numbering anew; only their shape is told. -/
namespace Go.Proofs.YtopjgcbhjhhlfaaGreat
open Go.RowKit

def GivesMR (w : World) (n : Nat) (e : Ending) (w' : World) : Prop := ∃ v L, e = .returned v ∧ OwnI w' w.heap.size v (zs L) ∧ L.length = n ∧ Sm L ∧ Grew w w'

theorem l01Reflexive_c (v : Value) (A : List Nat) (w : World) (h : Ints w v (zs A)) (hA : Sm A) (hn30 : A.length ≤ 30) :
    Calls Tryz.prog 106 #[v] w (GivesMR w A.length) := by
  have HT := Lib.hid (fun i (hi : i < A.length) => hA.at_ hi)
  have HP := Lib.hid (fun k (h : k ≤ 30) => l01One_c k h)
  have HO := Lib.hid (fun a k (ha : a < 1073741824) (h : k < 30) => or_i64 a (2 ^ k) (by omega) (Nat.lt_trans (pow30 h) (by omega)))
  obtain ⟨A', c, rfl⟩ := ints_sliceN h
  have HC := Lib.hid (fun h0 => cellsN h h0)
  clear h hA
  generalize hN : A.length = n at *
  clear hN
  go_enter Tryz.func106, Tryz.ntmps106
  go_wp2_with fail
  go_loopw [3, 4] (fun s i wr => ∃ (j : Nat) (K : List Nat), j ≤ n ∧ i = .int .i64 j ∧ Hid (K.length = j) ∧ Hid (Sm K) ∧ Grew w wr ∧ OwnI wr w.heap.size s (zs K)) (fun _ i _ => n - (intOf i).toNat)
  case atStart => exact ⟨0, [], by omega, rfl, Lib.hid rfl, Lib.hid Sm.nil_, (Grew.refl _).alloc _, own_emptyI w⟩
  case round =>
    obtain ⟨j, K, hj, rfl, hK, hS, hB, hO⟩ := hrel
    by_cases hlt : j < n
    · obtain ⟨b, o, rfl, hcell⟩ := HC.out (by omega)
      have k1 : ∀ W, Grew wr W → W.cell? ⟨b, o + j, none⟩ = some (.int .i64 (nt A j)) := fun W hW => hcell j hlt _ (hB.trans hW)
      have hs := HP.out j (by omega)
      have hy := HT.out j hlt
      have ho := HO.out (nt A j) j hy (by omega)
      have hz : nt A j ||| 2 ^ j < 1073741824 := or_sm hy (pow30 (by omega))
      generalize nt A j = y at *
      obtain ⟨p, hpj⟩ : ∃ p, p = 2 ^ j := ⟨_, rfl⟩
      rw [← hpj] at hs ho hz
      replace hs := Lib.hid hs
      generalize hq : y ||| p = q at *
      have hl : (zs K).length ≤ 1048576 := by rw [zs_len, hK.out]; omega
      obtain ⟨P, hP⟩ : ∃ P, P = zs K := ⟨_, rfl⟩
      rw [← hP] at hO hl
      have HPK := Lib.hid hP
      have hZ := Lib.hid hz
      clear hP hpj hcell HC hq hz hy
      have hr0 := Grew.refl wr
      have hrd := hr0.drew
      go_wp2_with fail
      go_region_law (first
        | (go_simp; go_at_call 43; refine (hs.out _).mono ?_; rintro e w4 ⟨rfl, hg4⟩; have hg5 := hrd.trans hg4; have hk5 := hg5.alloc (.cells #[.int .i64 (q : Int)] 2); have hO5 := hO.grew hk5; have hrd5 := rd_litI w4 (q : Int) 2; have hs5 := Nat.le_trans hB.size hk5.size)
        | (refine step_appI w.heap.size rfl (.tmp 12) (.tmp 20) rfl u3 P rfl hO5 hs5 (.slice (some ⟨w4.heap.size, 0, none⟩) 1 1) (q : Int) rfl hrd5 hl ?_; intro v6 w6 hown6 hg6))
      all_goals
        have hB6 : Grew w w6 := (hB.trans hk5).grown hg6 (fun g hg => own_of_ge hO5 hg)
        go_wp2_with fail
        go_roundw
        case rel => exact ⟨j + 1, K ++ [q], by omega, by go_num, Lib.hid (by rw [List.length_append, hK.out]; rfl), Lib.hid (hS.out.app hZ.out), hB6, by rw [zs_append, zs_one, ← HPK.out]; exact hown6⟩
        case measure => simp [intOf]; omega
    · obtain rfl : j = n := by omega
      go_wp2_with fail
      go_ret
      exact ⟨_, K, rfl, hO, hK.out, hS.out, hB⟩

theorem NRow.own {w : World} {g n c B : Nat} {f : Nat → Nat} (h : NRow w g n c f) (hB : B ≤ g) : OwnI w B (.slice (some ⟨g, 0, none⟩) n c) (zs ((List.range n).map f)) := by
  obtain ⟨cur, h1, h2, hn, hm, h3⟩ := h
  have hl : (zs ((List.range n).map f)).length = n := by simp [zs]
  have hk := OwnI.mk_ (L := zs ((List.range n).map f)) hB h1 (by rw [hl]; exact hn) hm h2 (fun i hi => by
    rw [hl] at hi
    rw [h3 i hi]
    simp [it, zs, hi])
  rwa [hl] at hk
theorem own_nrow {w : World} {B c n : Nat} {A : Option Addr} {L : List Nat} (h : OwnI w B (.slice A n c) (zs L)) (hn : L.length = n) (h0 : 0 < n) :
    ∃ g, A = some ⟨g, 0, none⟩ ∧ B ≤ g ∧ NRow w g n c (nt L) := by
  rcases h.2 with ⟨he, _⟩ | ⟨g, c', cur, he, hB, hh, hnc, hcm, hcs, htk⟩
  · injection he with _ e2 _
    omega
  · injection he with e1 _ e3
    subst e1 e3
    refine ⟨g, rfl, hB, cur, hh, by omega, by rw [zs_len] at hnc; omega, hcm, fun i hi => ?_⟩
    have hc := h.ints.open_
    rcases hc with ⟨he, _⟩ | ⟨b, o, c3, he, _, _, _, hcell⟩
    · cases he
    · injection he with e1 _ _
      injection e1 with e1
      injection e1 with e1 e2
      subst e1 e2
      have := hcell i (by rw [zs_len]; omega) w (Grew.refl _)
      rw [Nat.zero_add, blk_cell hh, zs_it (by omega)] at this
      exact this

theorem l01Closure_c (v : Value) (A : List Nat) (w : World) (h : Ints w v (zs A)) (hA : Sm A) (hn30 : A.length ≤ 30) :
    Calls Tryz.prog 107 #[v] w (GivesMR w A.length) := by
  have HCL := Lib.hid (ownR_c v (zs A) w h (by rw [zs_len]; omega))
  have HZ := Lib.hid (fun i (hi : i < A.length) => hA.at_ hi)
  have HH := Lib.hid (fun m i (hm : m < 1073741824) (hi : i < 64) => l01Bit_q m i (by omega) hi)
  have HO := Lib.hid (fun a b (ha : a < 1073741824) (hb : b < 1073741824) => or_i64 a b (by omega) (by omega))
  have HOS := Lib.hid (fun a b (ha : a < 1073741824) (hb : b < 1073741824) => or_sm ha hb)
  obtain ⟨A', c, rfl⟩ := ints_sliceN h
  clear h hA
  generalize hN : A.length = n at *
  have hNL := Lib.hid hN
  clear hN
  by_cases h00 : n = 0
  · have h0 : n ≤ 0 := by omega
    have HA0 : Hid (A = []) := Lib.hid (List.eq_nil_of_length_eq_zero (by have := hNL.out; omega))
    clear h00
    go_enter Tryz.func107, Tryz.ntmps107
    go_wp2_with fail
    refine HCL.out.mono ?_
    rintro e w1 ⟨v1, rfl, hO1, hg1⟩
    obtain ⟨A2, c2, rfl⟩ := ints_sliceN hO1.ints
    have HO1 := Lib.hid hO1
    clear hO1
    rw [hNL.out]
    go_wp2_with fail
    refine wp_loop_rounds 1 ?_; rw [rounds_succ]
    go_wp2_with fail
    go_ret
    have hO2 := HO1.out
    rw [hNL.out] at hO2
    exact ⟨_, A, rfl, hO2, hNL.out, by rw [HA0.out]; exact Sm.nil_, hg1⟩
  have h0 : 0 < n := by omega
  clear h00
  go_enter Tryz.func107, Tryz.ntmps107
  go_wp2_with fail
  refine HCL.out.mono ?_
  rintro e w1 ⟨v1, rfl, hO1, hg1⟩
  obtain ⟨A2, c2, rfl⟩ := ints_sliceN hO1.ints
  rw [hNL.out] at hO1 ⊢
  obtain ⟨g, rfl, hgw, hR0⟩ := own_nrow hO1 hNL.out h0
  have HR0 := Lib.hid hR0
  clear hR0 hO1 HCL
  go_wp2_with fail
  go_loopw [4, 5] (fun i _ wr => ∃ (j : Nat) (f : Nat → Nat), j ≤ n ∧ i = .int .i64 j ∧ Hid (NRow wr g n c2 f) ∧ Hid (∀ x, x < n → f x < 1073741824) ∧ Grew w wr) (fun i _ _ => n - (intOf i).toNat)
  case atStart => exact ⟨0, _, Nat.zero_le _, rfl, HR0, HZ, hg1⟩
  clear HZ HR0
  case round =>
    obtain ⟨j, f, hj, rfl, hR, hK, hB⟩ := hrel
    by_cases hlt : j < n
    · go_wp2_with fail
      go_loopw [5] (fun i wr => ∃ (k : Nat) (f : Nat → Nat), k ≤ n ∧ i = .int .i64 k ∧ Hid (NRow wr g n c2 f) ∧ Hid (∀ x, x < n → f x < 1073741824) ∧ Grew w wr) (fun i _ => n - (intOf i).toNat)
      case atStart => exact ⟨0, f, Nat.zero_le _, rfl, hR, hK, hB⟩
      case round =>
        obtain ⟨k, f2, hk, rfl, hR2, hK2, hB2⟩ := hrel
        by_cases hlk : k < n
        · have c2' : ∀ W, Grew wr W → W.cell? ⟨g, k, none⟩ = some (.int .i64 ((f2 k : Nat) : Int)) := fun W hW => (hR2.out.grew hW).cell hlk
          have c3' : ∀ W, Grew wr W → W.cell? ⟨g, j, none⟩ = some (.int .i64 ((f2 j : Nat) : Int)) := fun W hW => (hR2.out.grew hW).cell hlt
          have c4' : ∀ W, Grew wr W → W.frozen? ⟨g, k, none⟩ = false := fun W hW => (hR2.out.grew hW).free k
          have ho := HO.out _ _ (hK2.out k hlk) (hK2.out j hlt)
          have hos := Lib.hid (HOS.out _ _ (hK2.out k hlk) (hK2.out j hlt))
          have hH := Lib.hid (HH.out (f2 k) j (hK2.out k hlk) (by omega))
          have hr1 := Grew.refl wr
          have hd1 := (Grew.refl wr).drew
          generalize f2 k = y at *
          generalize f2 j = z at *
          generalize y.testBit j = t at *
          have hi0 : (0 : Int) ≤ (k : Int) := by omega
          have hi6 : (k : Int) < (n : Int) := by omega
          have hj0 : (0 : Int) ≤ (j : Int) := by omega
          have hj6 : (j : Int) < (n : Int) := by omega
          go_wp2_with fail
          refine (hH.out _).mono ?_
          rintro e w2 ⟨rfl, rfl⟩
          cases t with
          | true =>
            go_wp2_with fail
            go_region
            go_wp2_with fail
            go_roundw
            case rel =>
              have e1 : (fun q => if q = k then y ||| z else f2 q) k = y ||| z := if_pos rfl
              have e2 : ∀ q, q < n → q ≠ k → (fun q => if q = k then y ||| z else f2 q) q = f2 q := fun q _ hq => if_neg hq
              refine ⟨k + 1, fun q => if q = k then y ||| z else f2 q, by omega, by go_num, Lib.hid ((hR2.out.set hlk e1 e2).grew ((Grew.refl _).drew)), Lib.hid (fun x hx => ?_), (hB2.setCell hgw _).drew⟩
              by_cases hxk : x = k
              · rw [hxk, e1]; exact hos.out
              · rw [e2 x hx hxk]; exact hK2.out x hx
            case measure => simp [intOf]; omega
          | false =>
            go_wp2_with fail
            go_roundw
            case rel => exact ⟨k + 1, f2, by omega, by go_num, hR2, hK2, hB2⟩
            case measure => simp [intOf]; omega
        · obtain rfl : k = n := by omega
          go_wp2_with fail
          go_roundw
          case rel => exact ⟨j + 1, f2, by omega, by go_num, hR2, hK2, hB2⟩
          case measure => simp [intOf]; omega
    · obtain rfl : j = n := by omega
      go_wp2_with fail
      go_ret
      refine ⟨_, _, rfl, hR.out.own hgw, by simp, fun m hm => ?_, hB⟩
      rw [List.mem_map] at hm
      obtain ⟨i, hi, rfl⟩ := hm
      exact hK.out i (List.mem_range.1 hi)

end Go.Proofs.YtopjgcbhjhhlfaaGreat


/- The source of the drawn inputs: l01Next. -/
namespace Go.Proofs.YtopjgcbhjhhlfaaGreat
open Go.RowKit

def Code (w : World) (g : Nat) (v : Value) (N : Nat) : Prop :=
  N ≤ 4096 ∧ (∃ A c, v = .slice A N c) ∧ (0 < N → ∃ b o c, v = .slice (some ⟨b, o, none⟩) N c ∧ b < g ∧ N ≤ c ∧ c ≤ 9223372036854775807 ∧ ∀ j, j < N → ∃ x : Int, 0 ≤ x ∧ x ≤ 255 ∧ w.cell? ⟨b, o + j, none⟩ = some (.int .u8 x))
theorem Code.only {w w' : World} {g : Nat} {v : Value} {N : Nat} (h : Code w g v N) (hg : g < w.heap.size) (ho : Only g w w') : Code w' g v N := by
  obtain ⟨h1, h2, h3⟩ := h
  refine ⟨h1, h2, fun hp => ?_⟩
  obtain ⟨b, o, c, e, hb, hc, hm, hx⟩ := h3 hp
  refine ⟨b, o, c, e, hb, hc, hm, fun j hj => ?_⟩
  obtain ⟨x, x0, x1, hcell⟩ := hx j hj
  exact ⟨x, x0, x1, (ho.cell (p := ⟨b, o + j, none⟩) (by show b < _; omega) (by show b ≠ g; omega)).trans hcell⟩

def Src (w : World) (g : Nat) (v : Value) (N : Nat) : Prop :=
  Code w g v N ∧ ∃ (i : Nat) (h : Int), i ≤ N ∧ 0 ≤ h ∧ h ≤ 18446744073709551615 ∧ w.heap[g]? = some (.cells #[v, .int .i64 i, .int .u64 h] 79 (0, 0))
theorem Src.lt {w : World} {g : Nat} {v : Value} {N : Nat} (h : Src w g v N) : g < w.heap.size := by
  obtain ⟨_, _, _, _, _, _, h⟩ := h
  exact blk_lt h
theorem Src.grew {w w' : World} {g : Nat} {v : Value} {N : Nat} (h : Src w g v N) (hg : Grew w w') : Src w' g v N := by
  have hl := h.lt
  obtain ⟨h1, i, x, h2, h3, h4, h5⟩ := h
  exact ⟨h1.only hl hg.only, i, x, h2, h3, h4, (hg.block hl).trans h5⟩

theorem small_hash (X : Int) (h0 : 0 ≤ X) (h1 : X ≤ 18446744073709551615) : 0 ≤ wrap64 (bits .and .u64 (X / 8589934592) 16777215) ∧ wrap64 (bits .and .u64 (X / 8589934592) 16777215) ≤ 16777215 := by
  have h := bits_mask .u64 63 (by decide) Go.ConcN.wraps_u64_63 24 (by decide) (X / 8589934592) (by omega) (by omega)
  have e : ((2 : Int) ^ 24 - 1) = 16777215 := by decide
  have e2 : ((2 : Int) ^ 24) = 16777216 := by decide
  rw [e, e2] at h
  rw [h]
  unfold wrap64
  omega

theorem l01Next_c (g : Nat) (v : Value) (N : Nat) (n : Int) (w : World) (h : Src w g v N) (hn : n ≤ 9223372036854775807) :
    Calls Tryz.prog 21 #[.pointer (some ⟨g, 0, none⟩), .int .i64 n] w fun e w' => ∃ r : Int, e = .returned (.int .i64 r) ∧ 0 ≤ r ∧ (1 ≤ n → r < n) ∧ (n < 1 → r = 0) ∧ Src w' g v N ∧ Only g w w' := by
  by_cases h1 : n < 1
  · have HS := Lib.hid h
    clear h
    go_enter Tryz.func21, Tryz.ntmps21
    go_wp2_with fail
    go_ret
    exact ⟨_, rfl, by omega, fun h => absurd h (by omega), fun _ => rfl, HS.out, Only.refl _ _⟩
  obtain ⟨hC, i, hh, hi, hh0, hh1, hb⟩ := h
  have c0 : w.cell? ⟨g, 0, none⟩ = some v := by rw [blk_cell hb]; rfl
  have c1 : w.cell? ⟨g, 1, none⟩ = some (.int .i64 i) := by rw [blk_cell hb]; rfl
  have c2 : w.cell? ⟨g, 2, none⟩ = some (.int .u64 hh) := by rw [blk_cell hb]; rfl
  have f1 := blk_frozen hb 1
  have f2 := blk_frozen hb 2
  obtain ⟨A, c, rfl⟩ := hC.2.1
  have hN := hC.1
  have HB := Lib.hid hb
  have HC := Lib.hid hC
  clear hb hC
  go_enter Tryz.func21, Tryz.ntmps21
  go_wp2_with fail
  have hX0 : 0 ≤ IntKind.u64.wrap (IntKind.u64.wrap (hh * 6364136223846793005) + 1442695040888963407) := by rw [IntKind.wrap_u64]; omega
  have hX1 : IntKind.u64.wrap (IntKind.u64.wrap (hh * 6364136223846793005) + 1442695040888963407) ≤ 18446744073709551615 := by rw [IntKind.wrap_u64]; omega
  generalize IntKind.u64.wrap (IntKind.u64.wrap (hh * 6364136223846793005) + 1442695040888963407) = X at *
  obtain ⟨hY0, hY1⟩ := small_hash X hX0 hX1
  generalize wrap64 (bits .and .u64 (X / 8589934592) 16777215) = Y at *
  have hb1 := blk_set HB.out 2 (.int .u64 X)
  have ho1 := (Only.refl g w).setCell (o := 2) (.int .u64 X)
  have hC1 := HC.out.only (blk_lt HB.out) ho1
  clear c0 c1 c2 f1 f2 HB HC
  generalize w.setCell ⟨g, 2, none⟩ (.int .u64 X) = w1 at *
  have c0 : w1.cell? ⟨g, 0, none⟩ = some (.slice A N c) := by rw [blk_cell hb1]; rfl
  have c1 : w1.cell? ⟨g, 1, none⟩ = some (.int .i64 i) := by rw [blk_cell hb1]; rfl
  have f1 := blk_frozen hb1 1
  have HB := Lib.hid hb1
  clear hb1
  by_cases hlt : i < N
  · obtain ⟨b, o, c', e, hbg, hc, hm, hx⟩ := hC1.2.2 (by omega)
    obtain ⟨x, hx0, hx1, k1⟩ := hx i hlt
    obtain ⟨rfl, rfl⟩ : A = some ⟨b, o, none⟩ ∧ c = c' := by simpa using e
    have HC := Lib.hid hC1
    clear hC1 e hx
    go_quiet (fail)
    go_wp2_with fail
    go_quiet (fail)
    go_wp2_with fail
    go_ret
    exact ⟨_, rfl, Int.emod_nonneg _ (by omega), fun _ => Int.emod_lt_of_pos _ (by omega), fun h => absurd h (by omega), ⟨HC.out.only (blk_lt HB.out) (Only.setCell ((Only.refl g w1).drewN _) _), i + 1, X, by omega, hX0, hX1, blk_set (w := w1.drewN _) HB.out 1 _⟩, ho1.trans (Only.setCell ((Only.refl g w1).drewN _) _)⟩
  · have HC := Lib.hid hC1
    clear hC1
    go_quiet (fail)
    go_wp2_with fail
    go_ret
    exact ⟨_, rfl, Int.emod_nonneg _ (by omega), fun _ => Int.emod_lt_of_pos _ (by omega), fun h => absurd h (by omega), ⟨HC.out.only (blk_lt HB.out) ((Only.refl g w1).drewN _), i, X, by omega, hX0, hX1, HB.out⟩, ho1.drewN _⟩
end Go.Proofs.YtopjgcbhjhhlfaaGreat


/- The drawn formula: l02Draw gives a tree of at most as many nodes as told. -/
namespace Go.Proofs.YtopjgcbhjhhlfaaGreat
open Go.RowKit
open Fm (Nd)

theorem isEnc_vari {r : Int} (h0 : 0 ≤ r) (h1 : r < 6) : Fm.IsEnc (Fm.vari r) :=
  ⟨.var ⟨r.toNat, by omega⟩, by simp [Fm.vari, Fm.enc, Int.toNat_of_nonneg h0]⟩

def Drawn (w : World) (g : Nat) (cv : Value) (N : Nat) (size : Int) (e : Ending) (w' : World) : Prop :=
  ∃ v xs, e = .returned v ∧ Own w' w.heap.size v xs ∧ Fm.IsEnc xs ∧ (xs.length : Int) ≤ size ∧ Src w' g cv N ∧ Only g w w'

theorem own_src {w w' : World} {B g : Nat} {v : Value} {xs : List Nd} (h : Own w B v xs) (hg : g < B) (ho : Only g w w') : Own w' B v xs :=
  own_only h ho (fun he => by have := own_of_ge h he; omega)

theorem l02Draw_g (g : Nat) (cv : Value) (N : Nat) (vs : Int) (hv0 : 1 ≤ vs) (hv1 : vs ≤ 6) : ∀ (m : Nat) (size : Int) (w : World), 1 ≤ size → size ≤ m → m ≤ 1000 → Src w g cv N →
    Calls Tryz.prog 62 #[.pointer (some ⟨g, 0, none⟩), .int .i64 size, .int .i64 vs, .bool true] w (Drawn w g cv N size) := by
  intro m
  induction m with
  | zero => intro size w h1 h2; omega
  | succ m ih =>
    intro size w h1 h2 hm hS
    have IH := Lib.hid (fun size w a b c => ih size w a b (by omega) c)
    clear ih
    have hgs := hS.lt
    by_cases hsz : size ≤ 2
    · have HSa := Lib.hid hS
      have hoa := Only.refl g w
      clear hS
      go_enter Tryz.func62, Tryz.ntmps62
      go_wp2_with fail
      refine (l01Next_c g cv N 8 _ HSa.out (by omega)).mono ?_
      rintro e wb ⟨r2, rfl, _, _, _, hSb, hob⟩
      have HSb := Lib.hid hSb
      have hab := hoa.trans hob
      clear hSb hob
      cases hr2 : (r2 == 0) with
      | true =>
        go_wp2_with fail
        refine (l02False_c _).mono ?_
        rintro e wc ⟨v, rfl, ho, hg⟩
        go_wp2_with fail
        go_ret
        exact ⟨_, _, rfl, ho.base hab.size, Fm.isEnc_falsum, by simp [Fm.falsum]; omega, HSb.out.grew hg, hab.grew hg⟩
      | false =>
        go_wp2_with fail
        refine (l01Next_c g cv N vs _ HSb.out (by omega)).mono ?_
        rintro e wc ⟨r3, rfl, hr30, hr31, _, hSc, hoc⟩
        have HSc := Lib.hid hSc
        have hac := hab.trans hoc
        clear hSc hoc
        go_wp2_with fail
        refine (l02Var_c r3 _).mono ?_
        rintro e wd ⟨v, rfl, ho, hg⟩
        go_wp2_with fail
        go_ret
        exact ⟨_, _, rfl, ho.base hac.size, isEnc_vari hr30 (by have := hr31 hv0; omega), by simp [Fm.vari]; omega, HSc.out.grew hg, hac.grew hg⟩
    have HS := Lib.hid hS
    clear hS
    go_enter Tryz.func62, Tryz.ntmps62
    go_wp2_with fail
    refine (l01Next_c g cv N 9 _ HS.out (by omega)).mono ?_
    rintro e wa ⟨r1, rfl, _, _, _, hSa, hoa⟩
    have HSa := Lib.hid hSa
    clear hSa HS
    cases hr1 : (r1 == 0) with
    | true =>
      go_wp2_with fail
      refine (l01Next_c g cv N 8 _ HSa.out (by omega)).mono ?_
      rintro e wb ⟨r2, rfl, _, _, _, hSb, hob⟩
      have HSb := Lib.hid hSb
      have hab := hoa.trans hob
      clear hSb hob
      cases hr2 : (r2 == 0) with
      | true =>
        go_wp2_with fail
        refine (l02False_c _).mono ?_
        rintro e wc ⟨v, rfl, ho, hg⟩
        go_wp2_with fail
        go_ret
        exact ⟨_, _, rfl, ho.base hab.size, Fm.isEnc_falsum, by simp [Fm.falsum]; omega, HSb.out.grew hg, hab.grew hg⟩
      | false =>
        go_wp2_with fail
        refine (l01Next_c g cv N vs _ HSb.out (by omega)).mono ?_
        rintro e wc ⟨r3, rfl, hr30, hr31, _, hSc, hoc⟩
        have HSc := Lib.hid hSc
        have hac := hab.trans hoc
        clear hSc hoc
        go_wp2_with fail
        refine (l02Var_c r3 _).mono ?_
        rintro e wd ⟨v, rfl, ho, hg⟩
        go_wp2_with fail
        go_ret
        exact ⟨_, _, rfl, ho.base hac.size, isEnc_vari hr30 (by have := hr31 hv0; omega), by simp [Fm.vari]; omega, HSc.out.grew hg, hac.grew hg⟩
    | false =>
    go_wp2_with fail
    refine (l01Next_c g cv N 3 _ HSa.out (by omega)).mono ?_
    rintro e wb ⟨r2, rfl, _, _, _, hSb, hob⟩
    have HSb := Lib.hid hSb
    have hab := hoa.trans hob
    clear hSb hob hoa HSa
    cases hr2 : (r2 == 0) with
    | true =>
      go_wp2_with fail
      refine (l01Next_c g cv N 2 _ HSb.out (by omega)).mono ?_
      rintro e wc ⟨r3, rfl, hr30, hr31, _, hSc, hoc⟩
      have HSc := Lib.hid hSc
      have hac := hab.trans hoc
      have hr32 := hr31 (by omega)
      clear hSc hoc hr31
      go_wp2_with fail
      refine (IH.out (size - 1) _ (by omega) (by omega) HSc.out).mono ?_
      rintro e wd ⟨v, xs, rfl, ho, he, hl, hSd, hod⟩
      have HSd := Lib.hid hSd
      clear hSd
      have HE := Lib.hid he
      clear he
      go_wp2_with fail
      refine (l02Pre_c _ v xs _ ho.nodes (by omega)).mono ?_
      rintro e we ⟨v2, rfl, ho2, hg2⟩
      go_wp2_with fail
      go_ret
      exact ⟨_, _, rfl, ho2.base (hac.trans hod).size, Fm.isEnc_pre (by omega) HE.out, by simp [Fm.pre]; omega, HSd.out.grew hg2, (hac.trans hod).grew hg2⟩
    | false =>
    go_wp2_with fail
    refine (l01Next_c g cv N 6 _ HSb.out (by omega)).mono ?_
    rintro e wc ⟨r3, rfl, _, _, _, hSc, hoc⟩
    have HSc := Lib.hid hSc
    have hac := hab.trans hoc
    clear hSc hoc hab HSb
    cases hr3 : (r3 == 0) with
    | true =>
      go_wp2_with fail
      refine (IH.out (size - 2) _ (by omega) (by omega) HSc.out).mono ?_
      rintro e wd ⟨v, xs, rfl, ho, he, hl, hSd, hod⟩
      have HSd := Lib.hid hSd
      clear hSd
      have HE := Lib.hid he
      clear he
      go_wp2_with fail
      refine (l02Not_c v xs _ ho.nodes (by omega)).mono ?_
      rintro e we ⟨v2, rfl, ho2, hg2⟩
      go_wp2_with fail
      go_ret
      exact ⟨_, _, rfl, ho2.base (hac.trans hod).size, Fm.isEnc_join (.inr (.inr rfl)) HE.out Fm.isEnc_falsum, by simp [Fm.neg, Fm.join, Fm.falsum]; omega, HSd.out.grew hg2, (hac.trans hod).grew hg2⟩
    | false =>
    go_wp2_with fail
    refine (l01Next_c g cv N (size - 2) _ HSc.out (by omega)).mono ?_
    rintro e wd ⟨r4, rfl, hr40, hr41, _, hSd, hod⟩
    have HSd := Lib.hid hSd
    have had := hac.trans hod
    have hr42 := hr41 (by omega)
    clear hSd hod hac HSc hr41
    go_wp2_with fail
    refine (IH.out (1 + r4) _ (by omega) (by omega) HSd.out).mono ?_
    rintro e we ⟨v1, xs, rfl, ho1, he1, hl1, hSe, hoe⟩
    have HSe := Lib.hid hSe
    have HE1 := Lib.hid he1
    have hsize := had.size
    have hae := had.trans hoe
    have HO1 := Lib.hid ho1
    clear hSe he1 hoe ho1
    go_wp2_with fail
    refine (l01Next_c g cv N 3 _ HSe.out (by omega)).mono ?_
    rintro e wf ⟨r5, rfl, hr50, hr51, _, hSf, hof⟩
    have HSf := Lib.hid hSf
    have HO2 := Lib.hid (own_src HO1.out (by omega) hof)
    have haf := hae.trans hof
    have hr52 := hr51 (by omega)
    clear hSf hof HO1 HSe hr51
    go_wp2_with fail
    refine (IH.out (size - 1 - (1 + r4)) _ (by omega) (by omega) HSf.out).mono ?_
    rintro e wg ⟨v2, ys, rfl, ho2, he2, hl2, hSg, hog⟩
    have HSg := Lib.hid hSg
    have HE2 := Lib.hid he2
    have hO3 := own_src HO2.out (by omega) hog
    have hag := haf.trans hog
    clear hSg he2 hog HSf HO2
    go_wp2_with fail
    refine (l02Pair_c _ v1 v2 xs ys _ hO3.nodes ho2.nodes (by omega)).mono ?_
    rintro e wh ⟨v3, rfl, ho3, hg3⟩
    go_wp2_with fail
    go_ret
    exact ⟨_, _, rfl, ho3.base hag.size, Fm.isEnc_join (by omega) HE1.out HE2.out, by simp [Fm.join]; omega, HSg.out.grew hg3, hag.grew hg3⟩
end Go.Proofs.YtopjgcbhjhhlfaaGreat


/- The tail of a list of nodes. -/
namespace Go.Proofs.YtopjgcbhjhhlfaaGreat
open Go.RowKit
open Fm (Nd)

theorem nodes_tail {w : World} {b o n c : Nat} {xs : List Nd} (h : Nodes w (.slice (some ⟨b, o, none⟩) n c) xs) (i : Nat) (hi : i ≤ n) (hn : n ≤ c) (hx : xs.length = n) : Nodes w (.slice (if c = i then some ⟨b, o, none⟩ else some ⟨b, o + i * 2, none⟩) (n - i) (c - i)) (xs.drop i) := by
  obtain ⟨h1, h2, h3⟩ := h
  have hl : (xs.drop i).length = n - i := by rw [List.length_drop]; omega
  unfold Nodes
  rw [hl]
  refine ⟨by rw [cells_length, hl], by omega, ?_⟩
  rcases h3 with ⟨h4, _⟩ | ⟨b', o', c', h4, h5, h6, h7, h8⟩
  · cases h4
  · obtain ⟨⟨rfl, rfl⟩, _, rfl⟩ : (b = b' ∧ o = o') ∧ n = xs.length ∧ c = c' := by simpa using h4
    refine .inr ⟨b, if c = i then o else o + i * 2, c - i, by split <;> rfl, by omega, by omega, h7, fun j u hu => ?_⟩
    have hj : j < (cells (xs.drop i)).length := (List.getElem?_eq_some_iff.1 hu).1
    rw [cells_length, hl] at hj
    rw [if_neg (by omega)]
    have e : cells xs = cells (xs.take i) ++ cells (xs.drop i) := by rw [← cells_append, List.take_append_drop]
    have hk : (cells (xs.take i)).length = i * 2 := by rw [cells_length, List.length_take]; congr 1; omega
    have := h8 (i * 2 + j) u (by rw [e, List.getElem?_append_right (by omega), hk]; simpa using hu)
    rw [Nat.add_assoc]
    exact this

end Go.Proofs.YtopjgcbhjhhlfaaGreat


/- A copy: l02Own of the reference. -/
namespace Go.Proofs.YtopjgcbhjhhlfaaGreat
open Go.RowKit
open Fm (Nd)

theorem l02Own_c (v : Value) (xs : List Nd) (w : World) (h : Nodes w v xs) (hn : xs.length ≤ 1099511627775) :
    Calls Tryz.prog 97 #[v] w (Gives w xs) := by
  have he : Own (w.alloc (.cells #[] 99)) w.heap.size (.slice (some ⟨w.heap.size, 0, none⟩) 0 0) [] :=
    World.ownsRow_lit (e := 99) (size := 2) w #[] 0 (Nat.le_refl _) (by omega) rfl
  go_enter Tryz.func97, Tryz.ntmps97
  go_wp2_with (first
    | (at_builtin; refine wpList_app (w0 := w) _ _ rfl rfl _ [] rfl he ((Grew.refl w).alloc _) v xs rfl (h.grew ((Grew.refl w).alloc _)) (by simp; omega) ?_; intro v1 w1 hown1 hg1 _))
  go_ret
  exact ⟨_, rfl, by simpa using hown1, hg1⟩
end Go.Proofs.YtopjgcbhjhhlfaaGreat

