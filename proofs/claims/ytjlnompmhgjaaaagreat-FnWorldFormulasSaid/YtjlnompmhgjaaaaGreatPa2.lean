/- Texts in one file: MbM MbS MbF MbE Make MbW MbR MbX MbH Range MbP FaF Fv PartP Text Parsed IsText Cont Plain Gp Fo KrT KrB KrI KrF MvT MvF IsF FmTree NdTl TwoF TwoT MvS WfM WfB WfC WfD FormT ShelfCmp OwnV CmpF CmpB WfU WfV WfX. -/
import Derived.Deep.QuietTactic
import Derived.BigQuiet
import Derived.Deep.LoopGhost
import Derived.Lib.SliceRun
import Derived.Lib.SlicesS
import Derived.Outline
import Derived.Deep.OwnRows
import Derived.Deep.RegionHeld3
import Derived.Shelf.Abstract
import Derived.Test.YtjlnompmhgjaaaaGreatProg
import Derived.WalkSpells
import Derived.WalkLawsBesides
import Derived.Shelf.Small.Bits
import Derived.Shelf.Small.Strs
import Derived.Lib.Bytealg
import Derived.Sort.Walk0
import Derived.Test.YtjlnompmhgjaaaaGreatPa1
set_option linter.all false

/- Masks: rows of members (membersOf, l01List). -/
namespace Go.Proofs.YtjlnompmhgjaaaaGreat
open Go.RowKit
theorem membersOf_c (m : Nat) (hm : m < 1073741824) (w : World) :
    Calls Tryz.prog 73 #[.int .i64 (m : Int)] w (GivesI w (zs (mbs m))) := by
  obtain ⟨M, hM⟩ : ∃ M, M = zs (mbs m) := ⟨_, rfl⟩
  rw [← hM]
  have HZ := Lib.hid (fun n hn h => (congrArg zs (mbs_of (n := n) hm h hn)).trans hM.symm)
  have HH := Lib.hid (fun i (hi : i < 64) => has_c m i (by omega) hi)
  have HY := Lib.hid (fun n h => (congrArg zs (@mb_yes m n h)).trans (zs_append _ _))
  have HN := Lib.hid (fun n h => congrArg zs (@mb_no m n h))
  have HL := Lib.hid (fun n => Nat.le_trans (Nat.le_of_eq (zs_len (mb m n))) (mb_len m n))
  have HD := Lib.hid (div_e m)
  have HT := Lib.hid (fun n => @div_zero_lt m n)
  have HT30 := Lib.hid (show m / 2 ^ 30 = 0 from Nat.div_eq_of_lt hm)
  clear hM hm
  go_enter Tryz.func73, Tryz.ntmps73
  go_wp2_with fail
  go_loopw [3, 4] (fun s i wr => ∃ j : Nat, j ≤ 30 ∧ i = .int .i64 j ∧ Grew w wr ∧ OwnI wr w.heap.size s (zs (mb m j))) (fun _ i _ => 30 - (intOf i).toNat)
  case atStart => exact ⟨0, by omega, rfl, Grew.refl _, OwnI.nil_ _ _⟩
  case round =>
    obtain ⟨j, hj, rfl, hB, hO⟩ := hrel
    have hd := HD.out j
    by_cases hz : m / 2 ^ j = 0
    · have hr := Lib.hid (HZ.out j hj hz)
      rw [hz] at hd
      go_wp2_with fail
      go_ret
      rw [hr.out] at hO
      exact ⟨_, rfl, hO, hB⟩
    · have hj' : j < 30 := by
        rcases Nat.lt_or_ge j 30 with h | h
        · exact h
        · obtain rfl : j = 30 := by omega
          exact absurd HT30.out hz
      have hq : (0 : Int) < ((m / 2 ^ j : Nat) : Int) := Int.natCast_pos.2 (Nat.pos_of_ne_zero hz)
      generalize ((m / 2 ^ j : Nat) : Int) = q at *
      clear hz
      have hC := Lib.hid (HH.out j (by omega))
      have hY := Lib.hid (HY.out j)
      have hN := Lib.hid (HN.out j)
      have hl := HL.out j
      generalize m.testBit j = b at *
      go_wp2_with fail
      refine (hC.out _).mono ?_
      rintro e w1 ⟨rfl, hg1⟩
      have hB1 := hB.trans hg1
      have hO1 := hO.grew hg1
      cases b with
      | true =>
        have hy := hY.out rfl
        go_wp2_with (first | (at_builtin; refine wpList_appI (w0 := w) _ _ rfl rfl _ (zs (mb m j)) rfl (hO1.grew (Grew.alloc (Grew.refl _) _)) (hB1.alloc _) _ (j : Int) rfl (rd_litI _ _ _) (by omega) ?_; intro v2 w2 hO2 hg2 _))
        go_roundw
        case rel => exact ⟨j + 1, by omega, by go_num, hg2, by rw [hy]; exact hO2⟩
        case measure => simp [intOf]; omega
      | false =>
        have hn := hN.out rfl
        go_wp2_with fail
        go_roundw
        case rel => exact ⟨j + 1, by omega, by go_num, hB1, by rw [hn]; exact hO1⟩
        case measure => simp [intOf]; omega

end Go.Proofs.YtjlnompmhgjaaaaGreat


/- Masks: images (image, l01Image). -/
namespace Go.Proofs.YtjlnompmhgjaaaaGreat
open Go.RowKit
theorem ints_sliceN {w : World} {v : Value} {L : List Nat} (h : Ints w v (zs L)) : ∃ A c, v = .slice A L.length c := by
  obtain ⟨A, c, e⟩ := ints_slice h
  exact ⟨A, c, by rw [e, zs_len]⟩
theorem cellsN {w : World} {A : _} {c : Nat} {L : List Nat} (h : Ints w (.slice A L.length c) (zs L)) (h0 : 0 < L.length) :
    ∃ b o, A = some ⟨b, o, none⟩ ∧ ∀ i, i < L.length → ∀ W, Grew w W → W.cell? ⟨b, o + i, none⟩ = some (.int .i64 ((nt L i : Nat) : Int)) := by
  rcases h.open_ with ⟨_, h1⟩ | ⟨b, o, c', e, _, _, _, hc⟩
  · have := congrArg List.length h1
    rw [zs_len, List.length_nil] at this
    omega
  · injection e with e1 e2 e3
    subst e1
    exact ⟨b, o, rfl, fun i hi W hW => by rw [hc i (by rw [zs_len]; exact hi) W hW, zs_it hi]⟩

theorem orK_next (A is : List Nat) (k : Nat) : orK A is (k + 1) = orK A is k ||| nt A (nt is k) := rfl
theorem image_c (v : Value) (A : List Nat) (m : Nat) (w : World) (h : Ints w v (zs A)) (hA : Sm A) (hn30 : A.length ≤ 30) (hm : m < 2 ^ A.length) :
    Calls Tryz.prog 92 #[v, .int .i64 (m : Int)] w fun e w' => e = .returned (.int .i64 ((img A m : Nat) : Int)) ∧ Grew w w' := by
  have hm' : m < 1073741824 := Nat.lt_of_lt_of_le hm (pow30' hn30)
  have HM := Lib.hid (membersOf_c m hm')
  have HI := Lib.hid (fun i (hi : i < (mbs m).length) => mbs_lt hm (nt_mem hi))
  have HR := Lib.hid (show orK A (mbs m) (mbs m).length = img A m from rfl)
  have HX := Lib.hid (fun k => orK_next A (mbs m) k)
  have HS := Lib.hid (fun k => orK_sm (is := mbs m) hA k)
  have HT := Lib.hid (fun i (hi : i < A.length) => hA.at_ hi)
  have HO := Lib.hid (fun a b (ha : a < 1073741824) (hb : b < 1073741824) => or_i64 a b (by omega) (by omega))
  have hn30' := mbs_len m
  obtain ⟨A', c, rfl⟩ := ints_sliceN h
  have HC := Lib.hid (fun h0 => cellsN h h0)
  clear hm hm' h hA
  generalize img A m = R at *
  generalize mbs m = L at *
  generalize hNA : A.length = na at *
  clear hNA
  go_enter Tryz.func92, Tryz.ntmps92
  go_wp2_with fail
  refine (HM.out _).mono ?_
  rintro e w1 ⟨v, rfl, hO, hg1⟩
  obtain ⟨A2, c2, rfl⟩ := ints_sliceN hO.ints
  have HD := Lib.hid (fun h0 => cellsN hO.ints h0)
  clear hO
  generalize hNL : L.length = n at *
  clear hNL
  go_wp2_with fail
  go_loopw [5, 7, 11] (fun q _ i wr => ∃ j : Nat, j ≤ n ∧ i = .int .i64 j ∧ q = .int .i64 ((orK A L j : Nat) : Int) ∧ Grew w1 wr) (fun _ _ i _ => n - (intOf i).toNat)
  case atStart => exact ⟨0, by omega, rfl, rfl, Grew.refl _⟩
  case round =>
    obtain ⟨j, hj, rfl, rfl, hB⟩ := hrel
    by_cases hlt : j < n
    · have hi := HI.out j hlt
      obtain ⟨b, o, rfl, hcell⟩ := HD.out (by omega)
      obtain ⟨b2, o2, rfl, hcell2⟩ := HC.out (by omega)
      have k1 := hcell j hlt _ hB
      have k2 := hcell2 _ hi _ (hg1.trans hB)
      have ho := HO.out _ _ (HS.out j) (HT.out _ hi)
      have hx := Lib.hid (HX.out j)
      clear hcell hcell2
      generalize nt L j = x at *
      generalize nt A x = y at *
      generalize hsj : orK A L j = sj at *
      clear hsj
      go_wp2_with fail
      go_roundw
      case rel => exact ⟨j + 1, by omega, by go_num, by rw [hx.out], hB⟩
      case measure => simp [intOf]; omega
    · obtain rfl : j = n := by omega
      have hr := Lib.hid HR.out
      go_wp2_with fail
      go_ret
      exact ⟨by rw [hr.out]; rfl, hg1.trans hB⟩
theorem imK_yes {A : List Nat} {m k : Nat} (h : m.testBit k = true) : imK A m (k + 1) = imK A m k ||| nt A k := by
  show (if _ then _ else _) = _
  rw [if_pos h]
theorem imK_no {A : List Nat} {m k : Nat} (h : m.testBit k = false) : imK A m (k + 1) = imK A m k := by
  show (if _ then _ else _) = _
  rw [if_neg (by rw [h]; simp)]
end Go.Proofs.YtjlnompmhgjaaaaGreat


/- slices.ContainsFunc over numbers: predicates with captured values. -/
namespace Go.Proofs.YtjlnompmhgjaaaaGreat
open Go.RowKit

theorem it_memI {L : List Int} {i : Nat} (h : i < L.length) : it L i ∈ L := by rw [← it_get h]; exact List.getElem_mem h
theorem mem_itI {L : List Int} {x : Int} (h : x ∈ L) : ∃ i, i < L.length ∧ it L i = x := by
  obtain ⟨i, hi, rfl⟩ := List.getElem_of_mem h
  exact ⟨i, hi, (it_get hi).symm⟩
def NoneI (p : Int → Bool) (L : List Int) (k : Nat) : Prop := ∀ i, i < k → p (it L i) = false
theorem NoneI.zero (p : Int → Bool) (L : List Int) : NoneI p L 0 := fun i hi => absurd hi (by omega)
theorem NoneI.succ {p : Int → Bool} {L : List Int} {k : Nat} (h : NoneI p L k) (h1 : p (it L k) = false) : NoneI p L (k + 1) := by
  intro i hi
  by_cases he : i = k
  · rw [he]; exact h1
  · exact h i (by omega)
theorem noneI_any {p : Int → Bool} {L : List Int} (h : NoneI p L L.length) : L.any p = false := by
  rw [List.any_eq_false]
  intro x hx
  obtain ⟨i, hi, rfl⟩ := mem_itI hx
  rw [h i hi]; simp
theorem anyI_at {p : Int → Bool} {L : List Int} (k : Nat) (hk : k < L.length) (h : p (it L k) = true) : L.any p = true := by
  rw [List.any_eq_true]
  exact ⟨_, it_memI hk, h⟩
theorem cellsI {w : World} {A : _} {c : Nat} {L : List Int} (h : Ints w (.slice A L.length c) L) (h0 : 0 < L.length) :
    ∃ b o, A = some ⟨b, o, none⟩ ∧ ∀ i, i < L.length → ∀ W, Grew w W → W.cell? ⟨b, o + i, none⟩ = some (.int .i64 (it L i)) := by
  rcases h.open_ with ⟨_, h1⟩ | ⟨b, o, c', e, _, _, _, hc⟩
  · have := congrArg List.length h1
    rw [List.length_nil] at this
    omega
  · injection e with e1 e2 e3
    subst e1
    exact ⟨b, o, rfl, hc⟩

def PredI (w : World) (f : Nat) (caps : Array Value) (L : List Int) (p : Int → Bool) : Prop := ∀ s W, s ∈ L → Grew w W → Calls Tryz.prog f (#[.int .i64 s] ++ caps) W fun e W' => e = .returned (.bool (p s)) ∧ Grew W W'

theorem indexFuncI_c (v : Value) (L : List Int) (f : Nat) (caps : Array Value) (p : Int → Bool) (w : World) (h : Ints w v L) (hf : PredI w f caps L p) (eg : ∀ args w, (callFunc f args).run Tryz.prog w = .ok (.enter f args) w) :
    Calls Tryz.prog 68 #[v, .func (.func f) #[] caps] w fun e w' => ∃ r : Int, e = .returned (.int .i64 r) ∧ Grew w w' ∧ decide (0 ≤ r) = L.any p := by
  obtain ⟨A, c, rfl⟩ := ints_slice h
  obtain ⟨R, hR⟩ : ∃ R, R = L.any p := ⟨_, rfl⟩
  rw [← hR]
  have HA := Lib.hid (fun k hk h => hR.trans (@anyI_at p L k hk h))
  have HZ := Lib.hid (fun h => hR.trans (@noneI_any p L h))
  have hmx : L.length ≤ 9223372036854775807 := h.2.1
  have HC := Lib.hid (fun h0 => cellsI h h0)
  have HF := Lib.hid hf
  have HM := Lib.hid (fun k (hk : k < L.length) => it_memI hk)
  clear h hf hR
  unfold PredI at HF
  generalize hN : L.length = n at *
  clear hN
  go_enter Tryz.func68, Tryz.ntmps68
  go_wp2_with fail
  go_loopw [5, 8] (fun _ i wr => ∃ j : Nat, j ≤ n ∧ i = .int .i64 j ∧ Grew w wr ∧ Hid (NoneI p L j)) (fun _ i _ => n - (intOf i).toNat)
  case atStart => exact ⟨0, Nat.zero_le _, rfl, Grew.refl _, NoneI.zero _ _⟩
  case round =>
    obtain ⟨j, hj, rfl, hB, HJ⟩ := hrel
    by_cases hlt : j < n
    · obtain ⟨b, o, rfl, hcell⟩ := HC.out (by omega)
      have k1 := hcell j hlt _ hB
      clear hcell
      have hA := Lib.hid (HA.out j hlt)
      have hS := Lib.hid (fun h => HJ.out.succ (k := j) h)
      have hF := Lib.hid (HF.out _ _ (HM.out j hlt) hB)
      generalize it L j = x at *
      go_wp2_with fail
      refine (hF.out).mono ?_
      rintro e w1 ⟨rfl, hg1⟩
      have hB1 := hB.trans hg1
      cases hp : p x with
      | true =>
        have hv := hA.out hp
        go_wp2_with fail
        go_ret
        exact ⟨_, rfl, hB1, by rw [hv]; simp⟩
      | false =>
        have hs := Lib.hid (hS.out hp)
        go_wp2_with fail
        go_roundw
        case rel => exact ⟨j + 1, by omega, by go_num, hB1, hs⟩
        case measure => simp [intOf]; omega
    · obtain rfl : j = n := by omega
      have hv := Lib.hid (HZ.out HJ.out)
      go_wp2_with fail
      go_ret
      exact ⟨_, rfl, hB, by rw [hv.out]; rfl⟩
theorem containsFuncI_c (v : Value) (L : List Int) (f : Nat) (caps : Array Value) (p : Int → Bool) (w : World) (h : Ints w v L) (hf : PredI w f caps L p) (eg : ∀ args w, (callFunc f args).run Tryz.prog w = .ok (.enter f args) w) :
    Calls Tryz.prog 34 #[v, .func (.func f) #[] caps] w fun e w' => e = .returned (.bool (L.any p)) ∧ Grew w w' := by
  have HI := Lib.hid (indexFuncI_c v L f caps p w h hf eg)
  obtain ⟨A, c, rfl⟩ := ints_slice h
  clear h hf eg
  generalize L.any p = R at *
  go_enter Tryz.func34, Tryz.ntmps34
  go_wp2_with fail
  refine HI.out.mono ?_
  rintro e w1 ⟨r, rfl, hg1, hr⟩
  go_wp2_with fail
  go_ret
  exact ⟨by rw [← hr]; rfl, hg1⟩
end Go.Proofs.YtjlnompmhgjaaaaGreat


/- Rows of numbers: slices.Equal, slices.Clone; l01Own. -/
namespace Go.Proofs.YtjlnompmhgjaaaaGreat
open Go.RowKit

theorem wpList_appR {ops : Array Oper} {rest : List Oper} {o : Oper} {a : Act} {Q : Exit → Act → World → Prop} {w w0 : World} (s x : Operand) (hgd : o.guard = none)
    (ho : o.op = .call { callee := .builtin .append, args := #[s, x], argTypes := #[24, 24] })
    (v : Value) (L : List Int) (hs : a.eval s = v) (hown : OwnI w w0.heap.size v L) (hg : Grew w0 w) (vx : Value) (K : List Int) (hx : a.eval x = vx) (hr : Ints w vx K) (hn : L.length + K.length ≤ 1099511627776)
    (h : ∀ v' w', OwnI w' w0.heap.size v' (L ++ K) → Grew w0 w' → w.grownBy w' v.ownBlock → wpList Tryz.prog ops Q rest (a.put o.dst v') w') : wpList Tryz.prog ops Q (o :: rest) a w := by
  obtain ⟨i0, hi0, hz0, hz1, hz2⟩ := info_parts Tryz.infoI
  refine wpList_append_rd w hgd s x _ ho w0.heap.size 2 i0 _ 1 8 Tryz.underlying24 hi0 hz0 hz1 hz2 rfl (by omega) v L.length (icells L) hs hown vx K.length (icells K) hx hr (icells_one K) (by unfold maxLen; omega) (by omega) hg.size ?_
  intro v' w' h1 h2 h3
  refine h v' w' ?_ (hg.grown h2 fun k hk => (hown.lt k hk).1) h2
  unfold OwnI
  rw [List.length_append, icells_append]
  exact h1
theorem ownR_c (v : Value) (L : List Int) (w : World) (h : Ints w v L) (hn : L.length ≤ 1099511627776) :
    Calls Tryz.prog 65 #[v] w (GivesI w L) := by
  have he := own_emptyI w
  obtain ⟨A, c, rfl⟩ := ints_slice h
  go_enter Tryz.func65, Tryz.ntmps65
  go_wp2_with (first
    | (at_builtin; refine wpList_appR (w0 := w) _ _ rfl rfl _ [] rfl he ((Grew.refl w).alloc _) _ L rfl (h.grew ((Grew.refl w).alloc _)) (by simp; omega) ?_; intro v1 w1 hown1 hg1 _))
  go_ret
  exact ⟨_, rfl, by simpa using hown1, hg1⟩

def AgreeR (xs ys : List Int) (k : Nat) : Prop := ∀ i, i < k → it xs i = it ys i
theorem AgreeR.zero (xs ys : List Int) : AgreeR xs ys 0 := fun i hi => absurd hi (by omega)
theorem AgreeR.succ {xs ys : List Int} {k : Nat} (h : AgreeR xs ys k) (h1 : it xs k = it ys k) : AgreeR xs ys (k + 1) := by
  intro i hi
  rcases Nat.lt_or_ge i k with hk | hk
  · exact h i hk
  · obtain rfl : i = k := by omega
    exact h1
end Go.Proofs.YtjlnompmhgjaaaaGreat


/- make of rows of elements of several cells; the blocks of three allocations. -/
namespace Go.Proofs.YtjlnompmhgjaaaaGreat
open Go.RowKit

theorem run_make_rows {P : Program} (t e : TypeId) (z : Value) (size bytes : Nat) (zs : Array Value) (ht : P.underlying t = some (.slice e)) (hinfo : (P.info? e).map (fun i => (i.zero, i.size, i.bytes)) = some (some z, size, bytes)) (hzs : z.cells = zs)
    (kl kc : IntKind) (n : Nat) (hbytes : bytes * n ≤ 281474976710656) (h63 : n ≤ 9223372036854775807) (w : World) :
    (Instr.makeSlice t (.int kl (n : Int)) (.int kc (n : Int))).run P w = .ok (.slice (some ⟨w.heap.size, 0, none⟩) n n) (w.alloc (.cells (madeCells zs (n * size)) e)) := by
  obtain ⟨i, hi, hz, hs, hb⟩ := info_parts hinfo
  have hb' : (i.bytes : Int) * (n : Int) ≤ 281474976710656 := by
    rw [hb]
    have h : ((bytes * n : Nat) : Int) ≤ 281474976710656 := by omega
    rwa [Int.natCast_mul] at h
  have hr := run_make (P := P) w t e i z ht hi hz kl kc n n (by omega) (Int.le_refl _) hb' (by omega)
  simp only [Int.toNat_natCast, hs, hzs] at hr
  exact hr

end Go.Proofs.YtjlnompmhgjaaaaGreat


/- Relations: inverse, transitive of the program. -/
namespace Go.Proofs.YtjlnompmhgjaaaaGreat
open Go.RowKit

def NRow (w : World) (g n c : Nat) (f : Nat → Nat) : Prop := ∃ cur, w.heap[g]? = some (.cells cur 2 (0, 0)) ∧ cur.size = c ∧ n ≤ c ∧ c ≤ 9223372036854775807 ∧ ∀ i, i < n → cur[i]? = some (.int .i64 ((f i : Nat) : Int))
theorem NRow.lt {w : World} {g n c : Nat} {f : Nat → Nat} (h : NRow w g n c f) : g < w.heap.size := by
  obtain ⟨cur, h1, _⟩ := h
  exact blk_lt h1
theorem NRow.grew {w w' : World} {g n c : Nat} {f : Nat → Nat} (h : NRow w g n c f) (hg : Grew w w') : NRow w' g n c f := by
  have hl := h.lt
  obtain ⟨cur, h1, h2⟩ := h
  exact ⟨cur, (hg.block hl).trans h1, h2⟩
theorem NRow.cell {w : World} {g n c : Nat} {f : Nat → Nat} (h : NRow w g n c f) {p : Nat} (hp : p < n) : w.cell? ⟨g, p, none⟩ = some (.int .i64 ((f p : Nat) : Int)) := by
  obtain ⟨cur, h1, _, _, _, h3⟩ := h
  rw [blk_cell h1]
  exact h3 p hp
theorem NRow.free {w : World} {g n c : Nat} {f : Nat → Nat} (h : NRow w g n c f) (p : Nat) : w.frozen? ⟨g, p, none⟩ = false := by
  obtain ⟨cur, h1, _⟩ := h
  exact blk_frozen h1 p
theorem NRow.set {w : World} {g n c : Nat} {f f' : Nat → Nat} (h : NRow w g n c f) {p : Nat} (hp : p < n) {z : Nat} (hz : f' p = z) (hf : ∀ i, i < n → i ≠ p → f' i = f i) : NRow (w.setCell ⟨g, p, none⟩ (.int .i64 (z : Int))) g n c f' := by
  obtain ⟨cur, h1, h2, hn, hm, h3⟩ := h
  refine ⟨_, blk_set h1 p _, by simp [h2], hn, hm, fun i hi => ?_⟩
  rw [Array.getElem?_setIfInBounds]
  by_cases hip : p = i
  · subst hip
    rw [if_pos rfl, if_pos (by omega), hz]
  · rw [if_neg hip, h3 i hi, hf i hi (fun h => hip h.symm)]
theorem NRow.ints {w : World} {g n c : Nat} {f : Nat → Nat} (h : NRow w g n c f) : Ints w (.slice (some ⟨g, 0, none⟩) n c) (zs ((List.range n).map f)) := by
  obtain ⟨cur, h1, h2, hn, hm, h3⟩ := h
  have hl : (zs ((List.range n).map f)).length = n := by simp [zs]
  unfold Ints
  rw [hl]
  refine ⟨by simp [icells, zs], by omega, .inr ⟨g, 0, c, rfl, hn, hm, blk_lt h1, fun i u hu => ?_⟩⟩
  have hi : i < n := by
    have := (List.getElem?_eq_some_iff.1 hu).1
    simpa [icells, zs] using this
  rw [Nat.zero_add, blk_cell h1, h3 i hi, ← hu]
  simp [icells, zs, hi]
theorem made_z {n i : Nat} (hi : i < n) : (madeCells #[Value.int .i64 0] n)[i]? = some (.int .i64 0) := by
  have e := toList_madeCells_one (.int .i64 0) n
  rw [← Array.getElem?_toList, e]
  simp [hi]

end Go.Proofs.YtjlnompmhgjaaaaGreat


/- Masks of n elements: isMask, isRelation; l01Masks. -/
namespace Go.Proofs.YtjlnompmhgjaaaaGreat
open Go.RowKit

theorem isMask_q (n : Nat) (x : Int) (hn : n ≤ 30) (w : World) :
    Calls Tryz.prog 36 #[.int .i64 (n : Int), .int .i64 x] w fun e w' => e = .returned (.bool (mk n x)) ∧ w' = w := by
  have hp := wrap_pow hn
  have hle := pow30' hn
  have HI := Lib.hid (inRange_q n 0 30)
  have hd : decide ((0 : Int) ≤ (n : Int) ∧ (n : Int) ≤ 30) = true := decide_eq_true (by omega)
  rw [hd] at HI
  have HJ := Lib.hid (inRange_q x 0 (((2 ^ n : Nat) : Int) - 1))
  unfold mk
  clear hd
  generalize decide ((0 : Int) ≤ x ∧ x ≤ ((2 ^ n : Nat) : Int) - 1) = R at *
  generalize (2 ^ n : Nat) = p at *
  go_enter Tryz.func36, Tryz.ntmps36
  go_wp2_with fail
  refine (HI.out _).mono ?_
  rintro e w1 ⟨rfl, rfl⟩
  go_wp2_with fail
  refine (HJ.out _).mono ?_
  rintro e w2 ⟨rfl, rfl⟩
  go_wp2_with fail
  go_ret
  exact ⟨rfl, rfl⟩
theorem isMask_c (n : Nat) (x : Int) (hn : n ≤ 30) (w : World) :
    Calls Tryz.prog 36 #[.int .i64 (n : Int), .int .i64 x] w fun e w' => e = .returned (.bool (mk n x)) ∧ Grew w w' :=
  (isMask_q n x hn w).mono fun _ _ h => ⟨h.1, h.2 ▸ Grew.refl _⟩
theorem size_q (v : Value) (L : List Int) (w : World) (h : Ints w v L) :
    Calls Tryz.prog 66 #[v] w fun e w' => e = .returned (.int .i64 (L.length : Int)) ∧ w' = w := by
  obtain ⟨A, c, rfl⟩ := ints_slice h
  have hmx : L.length ≤ 9223372036854775807 := h.2.1
  clear h
  generalize L.length = n at *
  go_enter Tryz.func66, Tryz.ntmps66
  go_wp2_with fail
  go_ret
  exact ⟨rfl, rfl⟩
theorem size_c (v : Value) (L : List Int) (w : World) (h : Ints w v L) :
    Calls Tryz.prog 66 #[v] w fun e w' => e = .returned (.int .i64 (L.length : Int)) ∧ Grew w w' :=
  (size_q v L w h).mono fun _ _ h => ⟨h.1, h.2 ▸ Grew.refl _⟩
def mks (n : Nat) (L : List Int) : Bool := L.all (mk n)
theorem not_any {α : Type} (p : α → Bool) : ∀ L : List α, (!L.any fun x => !p x) = L.all p
  | [] => rfl
  | x :: L => by
    have ih := not_any p L
    rw [List.any_cons, List.all_cons, ← ih]
    cases p x <;> simp
theorem rel1_k (v : Value) (L K : List Int) (bl : Nat) (w : World) (h : Ints w v L) (hn : L.length ≤ 30) (hb : ∀ W, Grew w W → W.cell? ⟨bl, 0, none⟩ = some v) :
    PredI w 100 #[.pointer (some ⟨bl, 0, none⟩)] K (fun x => !mk L.length x) := by
  intro x W _ hW
  have k1 := hb W hW
  have KS := Lib.hid (size_c v L W (h.grew hW))
  have KM := Lib.hid (isMask_c L.length x hn)
  show Calls Tryz.prog 100 #[.int .i64 x, .pointer (some ⟨bl, 0, none⟩)] W fun e W' => e = .returned (.bool (!mk L.length x)) ∧ Grew W W'
  obtain ⟨A, c, rfl⟩ := ints_slice h
  clear h hb
  generalize mk L.length x = R at *
  generalize L.length = n at *
  go_enter Tryz.func100, Tryz.ntmps100
  go_wp2_with fail
  refine (KS.out).mono ?_
  rintro e w1 ⟨rfl, hg1⟩
  go_wp2_with fail
  refine (KM.out _).mono ?_
  rintro e w2 ⟨rfl, hg2⟩
  go_wp2_with fail
  go_ret
  exact ⟨rfl, hg1.trans hg2⟩
theorem isRelation_c (v : Value) (L : List Int) (w : World) (h : Ints w v L) (hn : L.length ≤ 30) :
    Calls Tryz.prog 67 #[v] w fun e w' => e = .returned (.bool (mks L.length L)) ∧ Grew w w' := by
  have hal : Grew w (w.alloc (.cells #[v] 24)) := (Grew.refl w).alloc _
  have hbx : ∀ W, Grew (w.alloc (.cells #[v] 24)) W → W.cell? ⟨w.heap.size, 0, none⟩ = some v := by
    intro W hW
    exact (hW.cell (p := ⟨w.heap.size, 0, none⟩) (by simp)).trans (by simp)
  have KC := Lib.hid (containsFuncI_c v L 100 #[.pointer (some ⟨w.heap.size, 0, none⟩)] _ _ (h.grew hal) (rel1_k v L L w.heap.size _ (h.grew hal) hn hbx) (enters_of Tryz.func100 (by kernel_rfl) rfl))
  have hR := not_any (mk L.length) L
  unfold mks
  rw [← hR]
  have HG := Lib.hid hal
  obtain ⟨A, c, rfl⟩ := ints_slice h
  clear h hbx hal hR
  generalize (L.any fun x => !mk L.length x) = R at *
  generalize L.length = n at *
  go_enter Tryz.func67, Tryz.ntmps67
  go_wp2_with fail
  refine (KC.out).mono ?_
  rintro e w1 ⟨rfl, hg1⟩
  go_wp2_with fail
  go_ret
  exact ⟨rfl, HG.out.trans hg1⟩
theorem l01Masks_c (m : Nat) (v : Value) (L : List Int) (w : World) (h : Ints w v L) (hm : m ≤ 30) :
    Calls Tryz.prog 43 #[.int .i64 (m : Int), v] w fun e w' => e = .returned (.bool (mks m L)) ∧ Grew w w' := by
  obtain ⟨A, c, rfl⟩ := ints_slice h
  obtain ⟨R, hR⟩ : ∃ R, R = mks m L := ⟨_, rfl⟩
  rw [← hR]
  have hR2 : R = !L.any fun x => !mk m x := hR.trans (not_any (mk m) L).symm
  have HA := Lib.hid (fun k hk h => hR2.trans (congrArg (!·) (@anyI_at (fun x => !mk m x) L k hk h)))
  have HZ := Lib.hid (fun h => hR2.trans (congrArg (!·) (@noneI_any (fun x => !mk m x) L h)))
  have HC := Lib.hid (fun h0 => cellsI h h0)
  have HF := Lib.hid (l01Full_q m hm)
  have HI := Lib.hid (fun x => l01In_q x 0 (((2 ^ m : Nat) : Int) - 1))
  have hmx : L.length ≤ 9223372036854775807 := h.2.1
  clear h hR hR2
  generalize hN : L.length = n at *
  clear hN
  go_enter Tryz.func43, Tryz.ntmps43
  go_wp2_with fail
  go_loopw [5] (fun i wr => ∃ j : Nat, j ≤ n ∧ i = .int .i64 j ∧ Grew w wr ∧ Hid (NoneI (fun x => !mk m x) L j)) (fun i _ => n - (intOf i).toNat)
  case atStart => exact ⟨0, Nat.zero_le _, rfl, Grew.refl _, NoneI.zero _ _⟩
  case round =>
    obtain ⟨j, hj, rfl, hB, HJ⟩ := hrel
    by_cases hlt : j < n
    · obtain ⟨b, o, rfl, hcell⟩ := HC.out (by omega)
      have k1 := hcell j hlt
      clear hcell
      have hA := Lib.hid (HA.out j hlt)
      have hS := Lib.hid (fun h => HJ.out.succ (k := j) h)
      have hI := Lib.hid (HI.out (it L j))
      have hmk : mk m (it L j) = decide (0 ≤ it L j ∧ it L j ≤ ((2 ^ m : Nat) : Int) - 1) := rfl
      rw [← hmk] at hI
      clear hmk
      generalize it L j = x at *
      generalize (2 ^ m : Nat) = p at *
      have kc := k1 _ hB
      clear HI
      cases ht : mk m x with
      | true =>
        rw [ht] at hI hS
        have hs := Lib.hid (hS.out rfl)
        clear hA hS ht
        go_wp2_with fail
        go_quiet (first | (go_at_call 63; exact Calls.quiet_of_same (HF.out _)) | (go_at_call 23; exact Calls.quiet_of_same (hI.out _)))
        go_wp2_with fail
        go_roundw
        case rel => exact ⟨j + 1, by omega, by go_num, hB.drewN _, hs⟩
        case measure => simp [intOf]; omega
      | false =>
        rw [ht] at hI hA
        have hv := hA.out rfl
        clear hA hS ht
        go_wp2_with fail
        go_quiet (first | (go_at_call 63; exact Calls.quiet_of_same (HF.out _)) | (go_at_call 23; exact Calls.quiet_of_same (hI.out _)))
        go_wp2_with fail
        go_ret
        exact ⟨by rw [hv]; rfl, hB.drewN _⟩
    · obtain rfl : j = n := by omega
      have hv := Lib.hid (HZ.out HJ.out)
      go_wp2_with fail
      go_ret
      exact ⟨by rw [hv.out]; rfl, hB⟩
end Go.Proofs.YtjlnompmhgjaaaaGreat


/- Relations: transitive of the program for all relations; everyWorld, sees. -/
namespace Go.Proofs.YtjlnompmhgjaaaaGreat
open Go.RowKit

end Go.Proofs.YtjlnompmhgjaaaaGreat


/- Relations: hasFlag of the program. -/
namespace Go.Proofs.YtjlnompmhgjaaaaGreat
open Go.RowKit

end Go.Proofs.YtjlnompmhgjaaaaGreat


/- A number between two bounds. -/
namespace Go.Proofs.YtjlnompmhgjaaaaGreat
open Go.RowKit

theorem l01In_c (k lo hi : Int) (w : World) : Calls Tryz.prog 23 #[.int .i64 k, .int .i64 lo, .int .i64 hi] w fun e w' => e = .returned (.bool (decide (lo ≤ k ∧ k ≤ hi))) ∧ Grew w w' := by
  by_cases h : lo ≤ k
  · have hd : decide (lo ≤ k ∧ k ≤ hi) = decide (k ≤ hi) := by simp [h]
    rw [hd]
    go_enter Tryz.func23, Tryz.ntmps23
    go_wp2_with fail
    go_ret
    exact ⟨rfl, Grew.refl _⟩
  · have hd : decide (lo ≤ k ∧ k ≤ hi) = false := by simp [h]
    rw [hd]
    go_enter Tryz.func23, Tryz.ntmps23
    go_wp2_with fail
    go_ret
    exact ⟨rfl, Grew.refl _⟩

theorem inRange_c (k lo hi : Int) (w : World) : Calls Tryz.prog 19 #[.int .i64 k, .int .i64 lo, .int .i64 hi] w fun e w' => e = .returned (.bool (decide (lo ≤ k ∧ k ≤ hi))) ∧ Grew w w' := by
  by_cases h : lo ≤ k
  · have hd : decide (lo ≤ k ∧ k ≤ hi) = decide (k ≤ hi) := by simp [h]
    rw [hd]
    go_enter Tryz.func19, Tryz.ntmps19
    go_wp2_with fail
    go_ret
    exact ⟨rfl, Grew.refl _⟩
  · have hd : decide (lo ≤ k ∧ k ≤ hi) = false := by simp [h]
    rw [hd]
    go_enter Tryz.func19, Tryz.ntmps19
    go_wp2_with fail
    go_ret
    exact ⟨rfl, Grew.refl _⟩
end Go.Proofs.YtjlnompmhgjaaaaGreat


/- Posets of the program: isPoset, isValuation. -/
namespace Go.Proofs.YtjlnompmhgjaaaaGreat
open Go.RowKit

def nats (L : List Int) : List Nat := L.map Int.toNat
theorem nats_len (L : List Int) : (nats L).length = L.length := by simp [nats]
theorem nats_ok {n : Nat} {L : List Int} (h : mks n L = true) : zs (nats L) = L ∧ ∀ m ∈ nats L, m < 2 ^ n := by
  unfold mks at h
  rw [List.all_eq_true] at h
  obtain ⟨M, h1, _, h3⟩ := nats_of h
  have : nats L = M := by
    rw [h1]
    simp [nats, zs, Function.comp_def]
  rw [this]
  exact ⟨h1.symm, h3⟩
theorem pos_rl {L : List Int} (hn : L.length ≤ 30) (h : mks L.length L = true) : Rl (nats L) := by
  have := nats_ok h
  refine ⟨by rw [nats_len]; exact hn, ?_⟩
  rw [nats_len]
  exact this.2
theorem info2F : (Tryz.prog.info? 26).map (·.size) = some 2 := by kernel_rfl
end Go.Proofs.YtjlnompmhgjaaaaGreat


/- Frames: isFrame of the program, l05Is of the reference. -/
namespace Go.Proofs.YtjlnompmhgjaaaaGreat
open Go.RowKit

def frB (sz : Int) (L : List Int) : Bool := decide (0 ≤ sz ∧ sz ≤ 8) && (decide ((L.length : Int) = sz) && mks L.length L)
theorem frB_ok {sz : Int} {L : List Int} (h : frB sz L = true) : sz = (L.length : Int) ∧ L.length ≤ 8 ∧ zs (nats L) = L ∧ Rl (nats L) := by
  unfold frB at h
  rw [Bool.and_eq_true, Bool.and_eq_true, decide_eq_true_eq, decide_eq_true_eq] at h
  obtain ⟨h1, h2, h3⟩ := h
  exact ⟨h2.symm, by omega, (nats_ok h3).1, pos_rl (by omega) h3⟩
set_option maxHeartbeats 2000000 in
theorem isFrame_c (sz : Int) (v : Value) (L : List Int) (w : World) (h : Ints w v L) :
    Calls Tryz.prog 33 #[.agg #[.int .i64 sz, v]] w fun e w' => e = .returned (.bool (frB sz L)) ∧ Grew w w' := by
  have HI := Lib.hid (inRange_c sz 0 8)
  have hal := (Grew.refl w).alloc (.cells #[.int .i64 sz, v] 26)
  have HG := Lib.hid hal
  have HS := Lib.hid (fun W hW => size_c v L W (h.grew hW))
  have HM := Lib.hid (fun W hW hn => isRelation_c v L W (h.grew hW) hn)
  have hmx : L.length ≤ 9223372036854775807 := h.2.1
  have y0 : ∀ W, Grew (w.alloc (.cells #[.int .i64 sz, v] 26)) W → W.cell? ⟨w.heap.size, 0, none⟩ = some (.int .i64 sz) := fun W hW => (hW.cell (p := ⟨w.heap.size, 0, none⟩) (by simp)).trans (by simp)
  have y1 : ∀ W, Grew (w.alloc (.cells #[.int .i64 sz, v] 26)) W → W.cell? ⟨w.heap.size, 1, none⟩ = some v := fun W hW => (hW.cell (p := ⟨w.heap.size, 1, none⟩) (by simp)).trans (by simp)
  obtain ⟨w1, hw1⟩ : ∃ w1, w1 = w.alloc (.cells #[.int .i64 sz, v] 26) := ⟨_, rfl⟩
  rw [← hw1] at y0 y1 HG
  clear hal
  have r1 := Grew.refl w1
  have r1d := r1.drew
  unfold frB
  by_cases h1 : 0 ≤ sz ∧ sz ≤ 8
  · rw [decide_eq_true h1] at HI ⊢
    rw [Bool.true_and]
    by_cases h2 : (L.length : Int) = sz
    · rw [decide_eq_true h2, Bool.true_and]
      obtain rfl := h2
      have hn : L.length ≤ 30 := by omega
      have HM := Lib.hid (fun W hW => HM.out W hW hn)
      have hq : ((L.length : Int) == (L.length : Int)) = true := by simp
      cases h3 : mks L.length L with
      | true =>
        rw [h3] at HM
        obtain ⟨A, c, rfl⟩ := ints_slice h
        clear h h3 hn h1
        generalize L.length = n at *
        go_enter Tryz.func33, Tryz.ntmps33
        go_wp2_with fail
        simp only [← hw1]
        clear hw1
        refine wp_region_held_drew (S := fun w' => Grew w1 w') (by kernel_rfl) r1d (fun hHeld => ?_)
        refine wpAnyH_take (i := 0) (oi := ?on1) (v := ?vn1) ?hin1 ?an1 ?bn1 ?cn1 ?qn1 (Or.inl ⟨?dn1, ?hyn1⟩) hHeld ?restn1
        case hin1 => (simp only [List.getElem?_toArray, List.getElem?_cons_zero]; exact rfl)
        case an1 => kernel_rfl
        case bn1 => kernel_rfl
        case cn1 => kernel_rfl
        case qn1 => exact fun _ _ _ h => h
        case dn1 => rfl
        case hyn1 => (intro z hSw; (try dsimp only at hSw); go_simp; (try with_reducible rfl))
        try simp only [Act.put, List.setIfInBounds_toArray, List.set_cons_zero, List.set_cons_succ]
        refine wpAnyH_take (i := 1) (oi := ?on2) (v := ?vn2) ?hin2 ?an2 ?bn2 ?cn2 ?qn2 (Or.inl ⟨?dn2, ?hyn2⟩) hHeld ?restn2
        case hin2 => (simp only [List.getElem?_toArray, List.getElem?_cons_succ, List.getElem?_cons_zero]; exact rfl)
        case an2 => kernel_rfl
        case bn2 => kernel_rfl
        case cn2 => kernel_rfl
        case qn2 => exact fun _ _ _ h => h
        case dn2 => rfl
        case hyn2 => (intro z hSw; (try dsimp only at hSw); go_simp; (try with_reducible rfl))
        try simp only [Act.put, List.setIfInBounds_toArray, List.set_cons_zero, List.set_cons_succ]
        refine wpAnyH_ready (rs := [2]) (by kernel_rfl) (by simp) ?_
        refine AllReadyH.cons (o := ?on3) ?hin3 ?restn3 AllReadyH.nil
        case hin3 => (simp only [List.getElem?_toArray, List.getElem?_cons_succ, List.getElem?_cons_zero]; exact rfl)
        intro K hK
        go_simp
        go_at_call 19
        refine (HI.out _).mono ?_
        rintro e w2 ⟨rfl, hgw2⟩
        have h2 : Grew w1 w2 := Grew.trans (by repeat (first | with_reducible assumption | with_reducible refine Grew.alloc ?_ _ | with_reducible refine Grew.drew ?_ | with_reducible refine Grew.drewN ?_ _)) hgw2
        refine hK.out _ _ ?_ (fun hHeld => ?_)
        · (try dsimp only); first | with_reducible assumption | exact Grew.alloc ‹_› _
        clear hK K
        try simp only [Act.put, List.setIfInBounds_toArray, List.set_cons_zero, List.set_cons_succ]
        refine wpAnyH_take (i := 3) (oi := ?on4) (v := ?vn4) ?hin4 ?an4 ?bn4 ?cn4 ?qn4 (Or.inl ⟨?dn4, ?hyn4⟩) hHeld ?restn4
        case hin4 => (simp only [List.getElem?_toArray, List.getElem?_cons_succ, List.getElem?_cons_zero]; exact rfl)
        case an4 => kernel_rfl
        case bn4 => kernel_rfl
        case cn4 => kernel_rfl
        case qn4 => exact fun _ _ _ h => h
        case dn4 => rfl
        case hyn4 => (intro z hSw; (try dsimp only at hSw); go_simp; (try with_reducible rfl))
        try simp only [Act.put, List.setIfInBounds_toArray, List.set_cons_zero, List.set_cons_succ]
        refine wpAnyH_take (i := 4) (oi := ?on5) (v := ?vn5) ?hin5 ?an5 ?bn5 ?cn5 ?qn5 (Or.inl ⟨?dn5, ?hyn5⟩) hHeld ?restn5
        case hin5 => (simp only [List.getElem?_toArray, List.getElem?_cons_succ, List.getElem?_cons_zero]; exact rfl)
        case an5 => kernel_rfl
        case bn5 => kernel_rfl
        case cn5 => kernel_rfl
        case qn5 => exact fun _ _ _ h => h
        case dn5 => rfl
        case hyn5 => (intro z hSw; (try dsimp only at hSw); go_simp; (try with_reducible rfl))
        try simp only [Act.put, List.setIfInBounds_toArray, List.set_cons_zero, List.set_cons_succ]
        refine wpAnyH_take (i := 5) (oi := ?on6) (v := ?vn6) ?hin6 ?an6 ?bn6 ?cn6 ?qn6 (Or.inl ⟨?dn6, ?hyn6⟩) hHeld ?restn6
        case hin6 => (simp only [List.getElem?_toArray, List.getElem?_cons_succ, List.getElem?_cons_zero]; exact rfl)
        case an6 => kernel_rfl
        case bn6 => kernel_rfl
        case cn6 => kernel_rfl
        case qn6 => exact fun _ _ _ h => h
        case dn6 => rfl
        case hyn6 => (intro z hSw; (try dsimp only at hSw); go_simp; (try with_reducible rfl))
        try simp only [Act.put, List.setIfInBounds_toArray, List.set_cons_zero, List.set_cons_succ]
        refine wpAnyH_take (i := 7) (oi := ?on7) (v := ?vn7) ?hin7 ?an7 ?bn7 ?cn7 ?qn7 (Or.inl ⟨?dn7, ?hyn7⟩) hHeld ?restn7
        case hin7 => (simp only [List.getElem?_toArray, List.getElem?_cons_succ, List.getElem?_cons_zero]; exact rfl)
        case an7 => kernel_rfl
        case bn7 => kernel_rfl
        case cn7 => kernel_rfl
        case qn7 => exact fun _ _ _ h => h
        case dn7 => rfl
        case hyn7 => (intro z hSw; (try dsimp only at hSw); go_simp; (try with_reducible rfl))
        try simp only [Act.put, List.setIfInBounds_toArray, List.set_cons_zero, List.set_cons_succ]
        refine wpAnyH_take (i := 8) (oi := ?on8) (v := ?vn8) ?hin8 ?an8 ?bn8 ?cn8 ?qn8 (Or.inl ⟨?dn8, ?hyn8⟩) hHeld ?restn8
        case hin8 => (simp only [List.getElem?_toArray, List.getElem?_cons_succ, List.getElem?_cons_zero]; exact rfl)
        case an8 => kernel_rfl
        case bn8 => kernel_rfl
        case cn8 => kernel_rfl
        case qn8 => exact fun _ _ _ h => h
        case dn8 => rfl
        case hyn8 => (intro z hSw; (try dsimp only at hSw); go_simp; (try with_reducible rfl))
        try simp only [Act.put, List.setIfInBounds_toArray, List.set_cons_zero, List.set_cons_succ]
        refine wpAnyH_ready (rs := [6]) (by kernel_rfl) (by simp) ?_
        refine AllReadyH.cons (o := ?on9) ?hin9 ?restn9 AllReadyH.nil
        case hin9 => (simp only [List.getElem?_toArray, List.getElem?_cons_succ, List.getElem?_cons_zero]; exact rfl)
        intro K hK
        go_simp
        go_at_call 66
        refine (HS.out _ (HG.out.trans (h2.trans (Grew.refl _)))).mono ?_
        rintro e w3 ⟨rfl, hgw3⟩
        have h3 : Grew w1 w3 := h2.trans hgw3
        refine hK.out _ _ ?_ (fun hHeld => ?_)
        · (try dsimp only); first | with_reducible assumption | exact Grew.alloc ‹_› _
        clear hK K
        try simp only [Act.put, List.setIfInBounds_toArray, List.set_cons_zero, List.set_cons_succ]
        refine wpAnyH_take (i := 9) (oi := ?on10) (v := ?vn10) ?hin10 ?an10 ?bn10 ?cn10 ?qn10 (Or.inl ⟨?dn10, ?hyn10⟩) hHeld ?restn10
        case hin10 => (simp only [List.getElem?_toArray, List.getElem?_cons_succ, List.getElem?_cons_zero]; exact rfl)
        case an10 => kernel_rfl
        case bn10 => kernel_rfl
        case cn10 => kernel_rfl
        case qn10 => exact fun _ _ _ h => h
        case dn10 => rfl
        case hyn10 => (intro z hSw; (try dsimp only at hSw); go_simp; (try with_reducible rfl))
        try simp only [Act.put, List.setIfInBounds_toArray, List.set_cons_zero, List.set_cons_succ]
        refine wpAnyH_take (i := 10) (oi := ?on11) (v := ?vn11) ?hin11 ?an11 ?bn11 ?cn11 ?qn11 (Or.inl ⟨?dn11, ?hyn11⟩) hHeld ?restn11
        case hin11 => (simp only [List.getElem?_toArray, List.getElem?_cons_succ, List.getElem?_cons_zero]; exact rfl)
        case an11 => kernel_rfl
        case bn11 => kernel_rfl
        case cn11 => kernel_rfl
        case qn11 => exact fun _ _ _ h => h
        case dn11 => rfl
        case hyn11 => (intro z hSw; (try dsimp only at hSw); go_simp; (try with_reducible rfl))
        try simp only [Act.put, List.setIfInBounds_toArray, List.set_cons_zero, List.set_cons_succ]
        refine wpAnyH_take (i := 11) (oi := ?on12) (v := ?vn12) ?hin12 ?an12 ?bn12 ?cn12 ?qn12 (Or.inl ⟨?dn12, ?hyn12⟩) hHeld ?restn12
        case hin12 => (simp only [List.getElem?_toArray, List.getElem?_cons_succ, List.getElem?_cons_zero]; exact rfl)
        case an12 => kernel_rfl
        case bn12 => kernel_rfl
        case cn12 => kernel_rfl
        case qn12 => exact fun _ _ _ h => h
        case dn12 => rfl
        case hyn12 => (intro z hSw; (try dsimp only at hSw); go_simp; (try with_reducible rfl))
        try simp only [Act.put, List.setIfInBounds_toArray, List.set_cons_zero, List.set_cons_succ]
        refine wpAnyH_take (i := 12) (oi := ?on13) (v := ?vn13) ?hin13 ?an13 ?bn13 ?cn13 ?qn13 (Or.inl ⟨?dn13, ?hyn13⟩) hHeld ?restn13
        case hin13 => (simp only [List.getElem?_toArray, List.getElem?_cons_succ, List.getElem?_cons_zero]; exact rfl)
        case an13 => kernel_rfl
        case bn13 => kernel_rfl
        case cn13 => kernel_rfl
        case qn13 => exact fun _ _ _ h => h
        case dn13 => rfl
        case hyn13 => (intro z hSw; (try dsimp only at hSw); go_simp; (try with_reducible rfl))
        try simp only [Act.put, List.setIfInBounds_toArray, List.set_cons_zero, List.set_cons_succ]
        refine wpAnyH_take (i := 13) (oi := ?on14) (v := ?vn14) ?hin14 ?an14 ?bn14 ?cn14 ?qn14 (Or.inl ⟨?dn14, ?hyn14⟩) hHeld ?restn14
        case hin14 => (simp only [List.getElem?_toArray, List.getElem?_cons_succ, List.getElem?_cons_zero]; exact rfl)
        case an14 => kernel_rfl
        case bn14 => kernel_rfl
        case cn14 => kernel_rfl
        case qn14 => exact fun _ _ _ h => h
        case dn14 => rfl
        case hyn14 => (intro z hSw; (try dsimp only at hSw); go_simp; (try with_reducible rfl))
        try simp only [Act.put, List.setIfInBounds_toArray, List.set_cons_zero, List.set_cons_succ]
        refine wpAnyH_ready (rs := [14]) (by kernel_rfl) (by simp) ?_
        refine AllReadyH.cons (o := ?on15) ?hin15 ?restn15 AllReadyH.nil
        case hin15 => (simp only [List.getElem?_toArray, List.getElem?_cons_succ, List.getElem?_cons_zero]; exact rfl)
        intro K hK
        go_simp
        go_at_call 67
        refine (HM.out _ (HG.out.trans h3)).mono ?_
        rintro e w4 ⟨rfl, hgw4⟩
        have h4 : Grew w1 w4 := h3.trans hgw4
        refine hK.out _ _ ?_ (fun hHeld => ?_)
        · (try dsimp only); first | with_reducible assumption | exact Grew.alloc ‹_› _
        clear hK K
        try simp only [Act.put, List.setIfInBounds_toArray, List.set_cons_zero, List.set_cons_succ]
        refine wpAnyH_take (i := 15) (oi := ?on16) (v := ?vn16) ?hin16 ?an16 ?bn16 ?cn16 ?qn16 (Or.inl ⟨?dn16, ?hyn16⟩) hHeld ?restn16
        case hin16 => (simp only [List.getElem?_toArray, List.getElem?_cons_succ, List.getElem?_cons_zero]; exact rfl)
        case an16 => kernel_rfl
        case bn16 => kernel_rfl
        case cn16 => kernel_rfl
        case qn16 => exact fun _ _ _ h => h
        case dn16 => rfl
        case hyn16 => (intro z hSw; (try dsimp only at hSw); go_simp; (try with_reducible rfl))
        try simp only [Act.put, List.setIfInBounds_toArray, List.set_cons_zero, List.set_cons_succ]
        refine wpAnyH_take (i := 16) (oi := ?on17) (v := ?vn17) ?hin17 ?an17 ?bn17 ?cn17 ?qn17 (Or.inl ⟨?dn17, ?hyn17⟩) hHeld ?restn17
        case hin17 => (simp only [List.getElem?_toArray, List.getElem?_cons_succ, List.getElem?_cons_zero]; exact rfl)
        case an17 => kernel_rfl
        case bn17 => kernel_rfl
        case cn17 => kernel_rfl
        case qn17 => exact fun _ _ _ h => h
        case dn17 => rfl
        case hyn17 => (intro z hSw; (try dsimp only at hSw); go_simp; (try with_reducible rfl))
        try simp only [Act.put, List.setIfInBounds_toArray, List.set_cons_zero, List.set_cons_succ]
        refine wpAnyH_done (by kernel_rfl) ?_ _
        go_wp2_with fail
        go_ret
        exact ⟨rfl, HG.out.trans h4⟩
      | false =>
        rw [h3] at HM
        obtain ⟨A, c, rfl⟩ := ints_slice h
        clear h h3 hn h1
        generalize L.length = n at *
        go_enter Tryz.func33, Tryz.ntmps33
        go_wp2_with fail
        simp only [← hw1]
        clear hw1
        refine wp_region_held_drew (S := fun w' => Grew w1 w') (by kernel_rfl) r1d (fun hHeld => ?_)
        refine wpAnyH_take (i := 0) (oi := ?on18) (v := ?vn18) ?hin18 ?an18 ?bn18 ?cn18 ?qn18 (Or.inl ⟨?dn18, ?hyn18⟩) hHeld ?restn18
        case hin18 => (simp only [List.getElem?_toArray, List.getElem?_cons_zero]; exact rfl)
        case an18 => kernel_rfl
        case bn18 => kernel_rfl
        case cn18 => kernel_rfl
        case qn18 => exact fun _ _ _ h => h
        case dn18 => rfl
        case hyn18 => (intro z hSw; (try dsimp only at hSw); go_simp; (try with_reducible rfl))
        try simp only [Act.put, List.setIfInBounds_toArray, List.set_cons_zero, List.set_cons_succ]
        refine wpAnyH_take (i := 1) (oi := ?on19) (v := ?vn19) ?hin19 ?an19 ?bn19 ?cn19 ?qn19 (Or.inl ⟨?dn19, ?hyn19⟩) hHeld ?restn19
        case hin19 => (simp only [List.getElem?_toArray, List.getElem?_cons_succ, List.getElem?_cons_zero]; exact rfl)
        case an19 => kernel_rfl
        case bn19 => kernel_rfl
        case cn19 => kernel_rfl
        case qn19 => exact fun _ _ _ h => h
        case dn19 => rfl
        case hyn19 => (intro z hSw; (try dsimp only at hSw); go_simp; (try with_reducible rfl))
        try simp only [Act.put, List.setIfInBounds_toArray, List.set_cons_zero, List.set_cons_succ]
        refine wpAnyH_ready (rs := [2]) (by kernel_rfl) (by simp) ?_
        refine AllReadyH.cons (o := ?on20) ?hin20 ?restn20 AllReadyH.nil
        case hin20 => (simp only [List.getElem?_toArray, List.getElem?_cons_succ, List.getElem?_cons_zero]; exact rfl)
        intro K hK
        go_simp
        go_at_call 19
        refine (HI.out _).mono ?_
        rintro e w2 ⟨rfl, hgw2⟩
        have h2 : Grew w1 w2 := Grew.trans (by repeat (first | with_reducible assumption | with_reducible refine Grew.alloc ?_ _ | with_reducible refine Grew.drew ?_ | with_reducible refine Grew.drewN ?_ _)) hgw2
        refine hK.out _ _ ?_ (fun hHeld => ?_)
        · (try dsimp only); first | with_reducible assumption | exact Grew.alloc ‹_› _
        clear hK K
        try simp only [Act.put, List.setIfInBounds_toArray, List.set_cons_zero, List.set_cons_succ]
        refine wpAnyH_take (i := 3) (oi := ?on21) (v := ?vn21) ?hin21 ?an21 ?bn21 ?cn21 ?qn21 (Or.inl ⟨?dn21, ?hyn21⟩) hHeld ?restn21
        case hin21 => (simp only [List.getElem?_toArray, List.getElem?_cons_succ, List.getElem?_cons_zero]; exact rfl)
        case an21 => kernel_rfl
        case bn21 => kernel_rfl
        case cn21 => kernel_rfl
        case qn21 => exact fun _ _ _ h => h
        case dn21 => rfl
        case hyn21 => (intro z hSw; (try dsimp only at hSw); go_simp; (try with_reducible rfl))
        try simp only [Act.put, List.setIfInBounds_toArray, List.set_cons_zero, List.set_cons_succ]
        refine wpAnyH_take (i := 4) (oi := ?on22) (v := ?vn22) ?hin22 ?an22 ?bn22 ?cn22 ?qn22 (Or.inl ⟨?dn22, ?hyn22⟩) hHeld ?restn22
        case hin22 => (simp only [List.getElem?_toArray, List.getElem?_cons_succ, List.getElem?_cons_zero]; exact rfl)
        case an22 => kernel_rfl
        case bn22 => kernel_rfl
        case cn22 => kernel_rfl
        case qn22 => exact fun _ _ _ h => h
        case dn22 => rfl
        case hyn22 => (intro z hSw; (try dsimp only at hSw); go_simp; (try with_reducible rfl))
        try simp only [Act.put, List.setIfInBounds_toArray, List.set_cons_zero, List.set_cons_succ]
        refine wpAnyH_take (i := 5) (oi := ?on23) (v := ?vn23) ?hin23 ?an23 ?bn23 ?cn23 ?qn23 (Or.inl ⟨?dn23, ?hyn23⟩) hHeld ?restn23
        case hin23 => (simp only [List.getElem?_toArray, List.getElem?_cons_succ, List.getElem?_cons_zero]; exact rfl)
        case an23 => kernel_rfl
        case bn23 => kernel_rfl
        case cn23 => kernel_rfl
        case qn23 => exact fun _ _ _ h => h
        case dn23 => rfl
        case hyn23 => (intro z hSw; (try dsimp only at hSw); go_simp; (try with_reducible rfl))
        try simp only [Act.put, List.setIfInBounds_toArray, List.set_cons_zero, List.set_cons_succ]
        refine wpAnyH_take (i := 7) (oi := ?on24) (v := ?vn24) ?hin24 ?an24 ?bn24 ?cn24 ?qn24 (Or.inl ⟨?dn24, ?hyn24⟩) hHeld ?restn24
        case hin24 => (simp only [List.getElem?_toArray, List.getElem?_cons_succ, List.getElem?_cons_zero]; exact rfl)
        case an24 => kernel_rfl
        case bn24 => kernel_rfl
        case cn24 => kernel_rfl
        case qn24 => exact fun _ _ _ h => h
        case dn24 => rfl
        case hyn24 => (intro z hSw; (try dsimp only at hSw); go_simp; (try with_reducible rfl))
        try simp only [Act.put, List.setIfInBounds_toArray, List.set_cons_zero, List.set_cons_succ]
        refine wpAnyH_take (i := 8) (oi := ?on25) (v := ?vn25) ?hin25 ?an25 ?bn25 ?cn25 ?qn25 (Or.inl ⟨?dn25, ?hyn25⟩) hHeld ?restn25
        case hin25 => (simp only [List.getElem?_toArray, List.getElem?_cons_succ, List.getElem?_cons_zero]; exact rfl)
        case an25 => kernel_rfl
        case bn25 => kernel_rfl
        case cn25 => kernel_rfl
        case qn25 => exact fun _ _ _ h => h
        case dn25 => rfl
        case hyn25 => (intro z hSw; (try dsimp only at hSw); go_simp; (try with_reducible rfl))
        try simp only [Act.put, List.setIfInBounds_toArray, List.set_cons_zero, List.set_cons_succ]
        refine wpAnyH_ready (rs := [6]) (by kernel_rfl) (by simp) ?_
        refine AllReadyH.cons (o := ?on26) ?hin26 ?restn26 AllReadyH.nil
        case hin26 => (simp only [List.getElem?_toArray, List.getElem?_cons_succ, List.getElem?_cons_zero]; exact rfl)
        intro K hK
        go_simp
        go_at_call 66
        refine (HS.out _ (HG.out.trans (h2.trans (Grew.refl _)))).mono ?_
        rintro e w3 ⟨rfl, hgw3⟩
        have h3 : Grew w1 w3 := h2.trans hgw3
        refine hK.out _ _ ?_ (fun hHeld => ?_)
        · (try dsimp only); first | with_reducible assumption | exact Grew.alloc ‹_› _
        clear hK K
        try simp only [Act.put, List.setIfInBounds_toArray, List.set_cons_zero, List.set_cons_succ]
        refine wpAnyH_take (i := 9) (oi := ?on27) (v := ?vn27) ?hin27 ?an27 ?bn27 ?cn27 ?qn27 (Or.inl ⟨?dn27, ?hyn27⟩) hHeld ?restn27
        case hin27 => (simp only [List.getElem?_toArray, List.getElem?_cons_succ, List.getElem?_cons_zero]; exact rfl)
        case an27 => kernel_rfl
        case bn27 => kernel_rfl
        case cn27 => kernel_rfl
        case qn27 => exact fun _ _ _ h => h
        case dn27 => rfl
        case hyn27 => (intro z hSw; (try dsimp only at hSw); go_simp; (try with_reducible rfl))
        try simp only [Act.put, List.setIfInBounds_toArray, List.set_cons_zero, List.set_cons_succ]
        refine wpAnyH_take (i := 10) (oi := ?on28) (v := ?vn28) ?hin28 ?an28 ?bn28 ?cn28 ?qn28 (Or.inl ⟨?dn28, ?hyn28⟩) hHeld ?restn28
        case hin28 => (simp only [List.getElem?_toArray, List.getElem?_cons_succ, List.getElem?_cons_zero]; exact rfl)
        case an28 => kernel_rfl
        case bn28 => kernel_rfl
        case cn28 => kernel_rfl
        case qn28 => exact fun _ _ _ h => h
        case dn28 => rfl
        case hyn28 => (intro z hSw; (try dsimp only at hSw); go_simp; (try with_reducible rfl))
        try simp only [Act.put, List.setIfInBounds_toArray, List.set_cons_zero, List.set_cons_succ]
        refine wpAnyH_take (i := 11) (oi := ?on29) (v := ?vn29) ?hin29 ?an29 ?bn29 ?cn29 ?qn29 (Or.inl ⟨?dn29, ?hyn29⟩) hHeld ?restn29
        case hin29 => (simp only [List.getElem?_toArray, List.getElem?_cons_succ, List.getElem?_cons_zero]; exact rfl)
        case an29 => kernel_rfl
        case bn29 => kernel_rfl
        case cn29 => kernel_rfl
        case qn29 => exact fun _ _ _ h => h
        case dn29 => rfl
        case hyn29 => (intro z hSw; (try dsimp only at hSw); go_simp; (try with_reducible rfl))
        try simp only [Act.put, List.setIfInBounds_toArray, List.set_cons_zero, List.set_cons_succ]
        refine wpAnyH_take (i := 12) (oi := ?on30) (v := ?vn30) ?hin30 ?an30 ?bn30 ?cn30 ?qn30 (Or.inl ⟨?dn30, ?hyn30⟩) hHeld ?restn30
        case hin30 => (simp only [List.getElem?_toArray, List.getElem?_cons_succ, List.getElem?_cons_zero]; exact rfl)
        case an30 => kernel_rfl
        case bn30 => kernel_rfl
        case cn30 => kernel_rfl
        case qn30 => exact fun _ _ _ h => h
        case dn30 => rfl
        case hyn30 => (intro z hSw; (try dsimp only at hSw); go_simp; (try with_reducible rfl))
        try simp only [Act.put, List.setIfInBounds_toArray, List.set_cons_zero, List.set_cons_succ]
        refine wpAnyH_take (i := 13) (oi := ?on31) (v := ?vn31) ?hin31 ?an31 ?bn31 ?cn31 ?qn31 (Or.inl ⟨?dn31, ?hyn31⟩) hHeld ?restn31
        case hin31 => (simp only [List.getElem?_toArray, List.getElem?_cons_succ, List.getElem?_cons_zero]; exact rfl)
        case an31 => kernel_rfl
        case bn31 => kernel_rfl
        case cn31 => kernel_rfl
        case qn31 => exact fun _ _ _ h => h
        case dn31 => rfl
        case hyn31 => (intro z hSw; (try dsimp only at hSw); go_simp; (try with_reducible rfl))
        try simp only [Act.put, List.setIfInBounds_toArray, List.set_cons_zero, List.set_cons_succ]
        refine wpAnyH_ready (rs := [14]) (by kernel_rfl) (by simp) ?_
        refine AllReadyH.cons (o := ?on32) ?hin32 ?restn32 AllReadyH.nil
        case hin32 => (simp only [List.getElem?_toArray, List.getElem?_cons_succ, List.getElem?_cons_zero]; exact rfl)
        intro K hK
        go_simp
        go_at_call 67
        refine (HM.out _ (HG.out.trans h3)).mono ?_
        rintro e w4 ⟨rfl, hgw4⟩
        have h4 : Grew w1 w4 := h3.trans hgw4
        refine hK.out _ _ ?_ (fun hHeld => ?_)
        · (try dsimp only); first | with_reducible assumption | exact Grew.alloc ‹_› _
        clear hK K
        try simp only [Act.put, List.setIfInBounds_toArray, List.set_cons_zero, List.set_cons_succ]
        refine wpAnyH_take (i := 15) (oi := ?on33) (v := ?vn33) ?hin33 ?an33 ?bn33 ?cn33 ?qn33 (Or.inl ⟨?dn33, ?hyn33⟩) hHeld ?restn33
        case hin33 => (simp only [List.getElem?_toArray, List.getElem?_cons_succ, List.getElem?_cons_zero]; exact rfl)
        case an33 => kernel_rfl
        case bn33 => kernel_rfl
        case cn33 => kernel_rfl
        case qn33 => exact fun _ _ _ h => h
        case dn33 => rfl
        case hyn33 => (intro z hSw; (try dsimp only at hSw); go_simp; (try with_reducible rfl))
        try simp only [Act.put, List.setIfInBounds_toArray, List.set_cons_zero, List.set_cons_succ]
        refine wpAnyH_take (i := 16) (oi := ?on34) (v := ?vn34) ?hin34 ?an34 ?bn34 ?cn34 ?qn34 (Or.inl ⟨?dn34, ?hyn34⟩) hHeld ?restn34
        case hin34 => (simp only [List.getElem?_toArray, List.getElem?_cons_succ, List.getElem?_cons_zero]; exact rfl)
        case an34 => kernel_rfl
        case bn34 => kernel_rfl
        case cn34 => kernel_rfl
        case qn34 => exact fun _ _ _ h => h
        case dn34 => rfl
        case hyn34 => (intro z hSw; (try dsimp only at hSw); go_simp; (try with_reducible rfl))
        try simp only [Act.put, List.setIfInBounds_toArray, List.set_cons_zero, List.set_cons_succ]
        refine wpAnyH_done (by kernel_rfl) ?_ _
        go_wp2_with fail
        go_ret
        exact ⟨rfl, HG.out.trans h4⟩
    · rw [decide_eq_false h2, Bool.false_and]
      have hq : ((L.length : Int) == sz) = false := by simpa using h2
      obtain ⟨A, c, rfl⟩ := ints_slice h
      clear h h2 HM
      generalize L.length = n at *
      go_enter Tryz.func33, Tryz.ntmps33
      go_wp2_with fail
      simp only [← hw1]
      clear hw1
      refine wp_region_held_drew (S := fun w' => Grew w1 w') (by kernel_rfl) r1d (fun hHeld => ?_)
      refine wpAnyH_take (i := 0) (oi := ?on35) (v := ?vn35) ?hin35 ?an35 ?bn35 ?cn35 ?qn35 (Or.inl ⟨?dn35, ?hyn35⟩) hHeld ?restn35
      case hin35 => (simp only [List.getElem?_toArray, List.getElem?_cons_zero]; exact rfl)
      case an35 => kernel_rfl
      case bn35 => kernel_rfl
      case cn35 => kernel_rfl
      case qn35 => exact fun _ _ _ h => h
      case dn35 => rfl
      case hyn35 => (intro z hSw; (try dsimp only at hSw); go_simp; (try with_reducible rfl))
      try simp only [Act.put, List.setIfInBounds_toArray, List.set_cons_zero, List.set_cons_succ]
      refine wpAnyH_take (i := 1) (oi := ?on36) (v := ?vn36) ?hin36 ?an36 ?bn36 ?cn36 ?qn36 (Or.inl ⟨?dn36, ?hyn36⟩) hHeld ?restn36
      case hin36 => (simp only [List.getElem?_toArray, List.getElem?_cons_succ, List.getElem?_cons_zero]; exact rfl)
      case an36 => kernel_rfl
      case bn36 => kernel_rfl
      case cn36 => kernel_rfl
      case qn36 => exact fun _ _ _ h => h
      case dn36 => rfl
      case hyn36 => (intro z hSw; (try dsimp only at hSw); go_simp; (try with_reducible rfl))
      try simp only [Act.put, List.setIfInBounds_toArray, List.set_cons_zero, List.set_cons_succ]
      refine wpAnyH_ready (rs := [2]) (by kernel_rfl) (by simp) ?_
      refine AllReadyH.cons (o := ?on37) ?hin37 ?restn37 AllReadyH.nil
      case hin37 => (simp only [List.getElem?_toArray, List.getElem?_cons_succ, List.getElem?_cons_zero]; exact rfl)
      intro K hK
      go_simp
      go_at_call 19
      refine (HI.out _).mono ?_
      rintro e w2 ⟨rfl, hgw2⟩
      have h2 : Grew w1 w2 := Grew.trans (by repeat (first | with_reducible assumption | with_reducible refine Grew.alloc ?_ _ | with_reducible refine Grew.drew ?_ | with_reducible refine Grew.drewN ?_ _)) hgw2
      refine hK.out _ _ ?_ (fun hHeld => ?_)
      · (try dsimp only); first | with_reducible assumption | exact Grew.alloc ‹_› _
      clear hK K
      try simp only [Act.put, List.setIfInBounds_toArray, List.set_cons_zero, List.set_cons_succ]
      refine wpAnyH_take (i := 3) (oi := ?on38) (v := ?vn38) ?hin38 ?an38 ?bn38 ?cn38 ?qn38 (Or.inl ⟨?dn38, ?hyn38⟩) hHeld ?restn38
      case hin38 => (simp only [List.getElem?_toArray, List.getElem?_cons_succ, List.getElem?_cons_zero]; exact rfl)
      case an38 => kernel_rfl
      case bn38 => kernel_rfl
      case cn38 => kernel_rfl
      case qn38 => exact fun _ _ _ h => h
      case dn38 => rfl
      case hyn38 => (intro z hSw; (try dsimp only at hSw); go_simp; (try with_reducible rfl))
      try simp only [Act.put, List.setIfInBounds_toArray, List.set_cons_zero, List.set_cons_succ]
      refine wpAnyH_take (i := 4) (oi := ?on39) (v := ?vn39) ?hin39 ?an39 ?bn39 ?cn39 ?qn39 (Or.inl ⟨?dn39, ?hyn39⟩) hHeld ?restn39
      case hin39 => (simp only [List.getElem?_toArray, List.getElem?_cons_succ, List.getElem?_cons_zero]; exact rfl)
      case an39 => kernel_rfl
      case bn39 => kernel_rfl
      case cn39 => kernel_rfl
      case qn39 => exact fun _ _ _ h => h
      case dn39 => rfl
      case hyn39 => (intro z hSw; (try dsimp only at hSw); go_simp; (try with_reducible rfl))
      try simp only [Act.put, List.setIfInBounds_toArray, List.set_cons_zero, List.set_cons_succ]
      refine wpAnyH_take (i := 5) (oi := ?on40) (v := ?vn40) ?hin40 ?an40 ?bn40 ?cn40 ?qn40 (Or.inl ⟨?dn40, ?hyn40⟩) hHeld ?restn40
      case hin40 => (simp only [List.getElem?_toArray, List.getElem?_cons_succ, List.getElem?_cons_zero]; exact rfl)
      case an40 => kernel_rfl
      case bn40 => kernel_rfl
      case cn40 => kernel_rfl
      case qn40 => exact fun _ _ _ h => h
      case dn40 => rfl
      case hyn40 => (intro z hSw; (try dsimp only at hSw); go_simp; (try with_reducible rfl))
      try simp only [Act.put, List.setIfInBounds_toArray, List.set_cons_zero, List.set_cons_succ]
      refine wpAnyH_take (i := 7) (oi := ?on41) (v := ?vn41) ?hin41 ?an41 ?bn41 ?cn41 ?qn41 (Or.inl ⟨?dn41, ?hyn41⟩) hHeld ?restn41
      case hin41 => (simp only [List.getElem?_toArray, List.getElem?_cons_succ, List.getElem?_cons_zero]; exact rfl)
      case an41 => kernel_rfl
      case bn41 => kernel_rfl
      case cn41 => kernel_rfl
      case qn41 => exact fun _ _ _ h => h
      case dn41 => rfl
      case hyn41 => (intro z hSw; (try dsimp only at hSw); go_simp; (try with_reducible rfl))
      try simp only [Act.put, List.setIfInBounds_toArray, List.set_cons_zero, List.set_cons_succ]
      refine wpAnyH_take (i := 8) (oi := ?on42) (v := ?vn42) ?hin42 ?an42 ?bn42 ?cn42 ?qn42 (Or.inl ⟨?dn42, ?hyn42⟩) hHeld ?restn42
      case hin42 => (simp only [List.getElem?_toArray, List.getElem?_cons_succ, List.getElem?_cons_zero]; exact rfl)
      case an42 => kernel_rfl
      case bn42 => kernel_rfl
      case cn42 => kernel_rfl
      case qn42 => exact fun _ _ _ h => h
      case dn42 => rfl
      case hyn42 => (intro z hSw; (try dsimp only at hSw); go_simp; (try with_reducible rfl))
      try simp only [Act.put, List.setIfInBounds_toArray, List.set_cons_zero, List.set_cons_succ]
      refine wpAnyH_ready (rs := [6]) (by kernel_rfl) (by simp) ?_
      refine AllReadyH.cons (o := ?on43) ?hin43 ?restn43 AllReadyH.nil
      case hin43 => (simp only [List.getElem?_toArray, List.getElem?_cons_succ, List.getElem?_cons_zero]; exact rfl)
      intro K hK
      go_simp
      go_at_call 66
      refine (HS.out _ (HG.out.trans (h2.trans (Grew.refl _)))).mono ?_
      rintro e w3 ⟨rfl, hgw3⟩
      have h3 : Grew w1 w3 := h2.trans hgw3
      refine hK.out _ _ ?_ (fun hHeld => ?_)
      · (try dsimp only); first | with_reducible assumption | exact Grew.alloc ‹_› _
      clear hK K
      try simp only [Act.put, List.setIfInBounds_toArray, List.set_cons_zero, List.set_cons_succ]
      refine wpAnyH_take (i := 9) (oi := ?on44) (v := ?vn44) ?hin44 ?an44 ?bn44 ?cn44 ?qn44 (Or.inl ⟨?dn44, ?hyn44⟩) hHeld ?restn44
      case hin44 => (simp only [List.getElem?_toArray, List.getElem?_cons_succ, List.getElem?_cons_zero]; exact rfl)
      case an44 => kernel_rfl
      case bn44 => kernel_rfl
      case cn44 => kernel_rfl
      case qn44 => exact fun _ _ _ h => h
      case dn44 => rfl
      case hyn44 => (intro z hSw; (try dsimp only at hSw); go_simp; (try with_reducible rfl))
      try simp only [Act.put, List.setIfInBounds_toArray, List.set_cons_zero, List.set_cons_succ]
      refine wpAnyH_take (i := 10) (oi := ?on45) (v := ?vn45) ?hin45 ?an45 ?bn45 ?cn45 ?qn45 (Or.inl ⟨?dn45, ?hyn45⟩) hHeld ?restn45
      case hin45 => (simp only [List.getElem?_toArray, List.getElem?_cons_succ, List.getElem?_cons_zero]; exact rfl)
      case an45 => kernel_rfl
      case bn45 => kernel_rfl
      case cn45 => kernel_rfl
      case qn45 => exact fun _ _ _ h => h
      case dn45 => rfl
      case hyn45 => (intro z hSw; (try dsimp only at hSw); go_simp; (try with_reducible rfl))
      try simp only [Act.put, List.setIfInBounds_toArray, List.set_cons_zero, List.set_cons_succ]
      refine wpAnyH_take (i := 11) (oi := ?on46) (v := ?vn46) ?hin46 ?an46 ?bn46 ?cn46 ?qn46 (Or.inl ⟨?dn46, ?hyn46⟩) hHeld ?restn46
      case hin46 => (simp only [List.getElem?_toArray, List.getElem?_cons_succ, List.getElem?_cons_zero]; exact rfl)
      case an46 => kernel_rfl
      case bn46 => kernel_rfl
      case cn46 => kernel_rfl
      case qn46 => exact fun _ _ _ h => h
      case dn46 => rfl
      case hyn46 => (intro z hSw; (try dsimp only at hSw); go_simp; (try with_reducible rfl))
      try simp only [Act.put, List.setIfInBounds_toArray, List.set_cons_zero, List.set_cons_succ]
      refine wpAnyH_take (i := 12) (oi := ?on47) ?hin47 ?an47 ?bn47 ?cn47 ?qn47 (Or.inr ⟨?dn47, rfl⟩) hHeld ?restn47
      case hin47 => (simp only [List.getElem?_toArray, List.getElem?_cons_succ, List.getElem?_cons_zero]; exact rfl)
      case an47 => kernel_rfl
      case bn47 => kernel_rfl
      case cn47 => kernel_rfl
      case qn47 => exact fun _ _ _ h => h
      case dn47 => rfl
      try simp only [Act.put, List.setIfInBounds_toArray, List.set_cons_zero, List.set_cons_succ]
      refine wpAnyH_take (i := 13) (oi := ?on48) ?hin48 ?an48 ?bn48 ?cn48 ?qn48 (Or.inr ⟨?dn48, rfl⟩) hHeld ?restn48
      case hin48 => (simp only [List.getElem?_toArray, List.getElem?_cons_succ, List.getElem?_cons_zero]; exact rfl)
      case an48 => kernel_rfl
      case bn48 => kernel_rfl
      case cn48 => kernel_rfl
      case qn48 => exact fun _ _ _ h => h
      case dn48 => rfl
      try simp only [Act.put, List.setIfInBounds_toArray, List.set_cons_zero, List.set_cons_succ]
      refine wpAnyH_take (i := 14) (oi := ?on49) ?hin49 ?an49 ?bn49 ?cn49 ?qn49 (Or.inr ⟨?dn49, rfl⟩) hHeld ?restn49
      case hin49 => (simp only [List.getElem?_toArray, List.getElem?_cons_succ, List.getElem?_cons_zero]; exact rfl)
      case an49 => kernel_rfl
      case bn49 => kernel_rfl
      case cn49 => kernel_rfl
      case qn49 => exact fun _ _ _ h => h
      case dn49 => rfl
      try simp only [Act.put, List.setIfInBounds_toArray, List.set_cons_zero, List.set_cons_succ]
      refine wpAnyH_take (i := 15) (oi := ?on50) (v := ?vn50) ?hin50 ?an50 ?bn50 ?cn50 ?qn50 (Or.inl ⟨?dn50, ?hyn50⟩) hHeld ?restn50
      case hin50 => (simp only [List.getElem?_toArray, List.getElem?_cons_succ, List.getElem?_cons_zero]; exact rfl)
      case an50 => kernel_rfl
      case bn50 => kernel_rfl
      case cn50 => kernel_rfl
      case qn50 => exact fun _ _ _ h => h
      case dn50 => rfl
      case hyn50 => (intro z hSw; (try dsimp only at hSw); go_simp; (try with_reducible rfl))
      try simp only [Act.put, List.setIfInBounds_toArray, List.set_cons_zero, List.set_cons_succ]
      refine wpAnyH_take (i := 16) (oi := ?on51) (v := ?vn51) ?hin51 ?an51 ?bn51 ?cn51 ?qn51 (Or.inl ⟨?dn51, ?hyn51⟩) hHeld ?restn51
      case hin51 => (simp only [List.getElem?_toArray, List.getElem?_cons_succ, List.getElem?_cons_zero]; exact rfl)
      case an51 => kernel_rfl
      case bn51 => kernel_rfl
      case cn51 => kernel_rfl
      case qn51 => exact fun _ _ _ h => h
      case dn51 => rfl
      case hyn51 => (intro z hSw; (try dsimp only at hSw); go_simp; (try with_reducible rfl))
      try simp only [Act.put, List.setIfInBounds_toArray, List.set_cons_zero, List.set_cons_succ]
      refine wpAnyH_done (by kernel_rfl) ?_ _
      go_wp2_with fail
      go_ret
      exact ⟨rfl, HG.out.trans h3⟩
  · rw [decide_eq_false h1] at HI ⊢
    rw [Bool.false_and]
    obtain ⟨A, c, rfl⟩ := ints_slice h
    clear h HM
    generalize L.length = n at *
    go_enter Tryz.func33, Tryz.ntmps33
    go_wp2_with fail
    simp only [← hw1]
    clear hw1
    refine wp_region_held_drew (S := fun w' => Grew w1 w') (by kernel_rfl) r1d (fun hHeld => ?_)
    refine wpAnyH_take (i := 0) (oi := ?on52) (v := ?vn52) ?hin52 ?an52 ?bn52 ?cn52 ?qn52 (Or.inl ⟨?dn52, ?hyn52⟩) hHeld ?restn52
    case hin52 => (simp only [List.getElem?_toArray, List.getElem?_cons_zero]; exact rfl)
    case an52 => kernel_rfl
    case bn52 => kernel_rfl
    case cn52 => kernel_rfl
    case qn52 => exact fun _ _ _ h => h
    case dn52 => rfl
    case hyn52 => (intro z hSw; (try dsimp only at hSw); go_simp; (try with_reducible rfl))
    try simp only [Act.put, List.setIfInBounds_toArray, List.set_cons_zero, List.set_cons_succ]
    refine wpAnyH_take (i := 1) (oi := ?on53) (v := ?vn53) ?hin53 ?an53 ?bn53 ?cn53 ?qn53 (Or.inl ⟨?dn53, ?hyn53⟩) hHeld ?restn53
    case hin53 => (simp only [List.getElem?_toArray, List.getElem?_cons_succ, List.getElem?_cons_zero]; exact rfl)
    case an53 => kernel_rfl
    case bn53 => kernel_rfl
    case cn53 => kernel_rfl
    case qn53 => exact fun _ _ _ h => h
    case dn53 => rfl
    case hyn53 => (intro z hSw; (try dsimp only at hSw); go_simp; (try with_reducible rfl))
    try simp only [Act.put, List.setIfInBounds_toArray, List.set_cons_zero, List.set_cons_succ]
    refine wpAnyH_ready (rs := [2]) (by kernel_rfl) (by simp) ?_
    refine AllReadyH.cons (o := ?on54) ?hin54 ?restn54 AllReadyH.nil
    case hin54 => (simp only [List.getElem?_toArray, List.getElem?_cons_succ, List.getElem?_cons_zero]; exact rfl)
    intro K hK
    go_simp
    go_at_call 19
    refine (HI.out _).mono ?_
    rintro e w2 ⟨rfl, hgw2⟩
    have h2 : Grew w1 w2 := Grew.trans (by repeat (first | with_reducible assumption | with_reducible refine Grew.alloc ?_ _ | with_reducible refine Grew.drew ?_ | with_reducible refine Grew.drewN ?_ _)) hgw2
    refine hK.out _ _ ?_ (fun hHeld => ?_)
    · (try dsimp only); first | with_reducible assumption | exact Grew.alloc ‹_› _
    clear hK K
    try simp only [Act.put, List.setIfInBounds_toArray, List.set_cons_zero, List.set_cons_succ]
    refine wpAnyH_take (i := 3) (oi := ?on55) (v := ?vn55) ?hin55 ?an55 ?bn55 ?cn55 ?qn55 (Or.inl ⟨?dn55, ?hyn55⟩) hHeld ?restn55
    case hin55 => (simp only [List.getElem?_toArray, List.getElem?_cons_succ, List.getElem?_cons_zero]; exact rfl)
    case an55 => kernel_rfl
    case bn55 => kernel_rfl
    case cn55 => kernel_rfl
    case qn55 => exact fun _ _ _ h => h
    case dn55 => rfl
    case hyn55 => (intro z hSw; (try dsimp only at hSw); go_simp; (try with_reducible rfl))
    try simp only [Act.put, List.setIfInBounds_toArray, List.set_cons_zero, List.set_cons_succ]
    refine wpAnyH_take (i := 4) (oi := ?on56) ?hin56 ?an56 ?bn56 ?cn56 ?qn56 (Or.inr ⟨?dn56, rfl⟩) hHeld ?restn56
    case hin56 => (simp only [List.getElem?_toArray, List.getElem?_cons_succ, List.getElem?_cons_zero]; exact rfl)
    case an56 => kernel_rfl
    case bn56 => kernel_rfl
    case cn56 => kernel_rfl
    case qn56 => exact fun _ _ _ h => h
    case dn56 => rfl
    try simp only [Act.put, List.setIfInBounds_toArray, List.set_cons_zero, List.set_cons_succ]
    refine wpAnyH_take (i := 5) (oi := ?on57) ?hin57 ?an57 ?bn57 ?cn57 ?qn57 (Or.inr ⟨?dn57, rfl⟩) hHeld ?restn57
    case hin57 => (simp only [List.getElem?_toArray, List.getElem?_cons_succ, List.getElem?_cons_zero]; exact rfl)
    case an57 => kernel_rfl
    case bn57 => kernel_rfl
    case cn57 => kernel_rfl
    case qn57 => exact fun _ _ _ h => h
    case dn57 => rfl
    try simp only [Act.put, List.setIfInBounds_toArray, List.set_cons_zero, List.set_cons_succ]
    refine wpAnyH_take (i := 6) (oi := ?on58) ?hin58 ?an58 ?bn58 ?cn58 ?qn58 (Or.inr ⟨?dn58, rfl⟩) hHeld ?restn58
    case hin58 => (simp only [List.getElem?_toArray, List.getElem?_cons_succ, List.getElem?_cons_zero]; exact rfl)
    case an58 => kernel_rfl
    case bn58 => kernel_rfl
    case cn58 => kernel_rfl
    case qn58 => exact fun _ _ _ h => h
    case dn58 => rfl
    try simp only [Act.put, List.setIfInBounds_toArray, List.set_cons_zero, List.set_cons_succ]
    refine wpAnyH_take (i := 7) (oi := ?on59) ?hin59 ?an59 ?bn59 ?cn59 ?qn59 (Or.inr ⟨?dn59, rfl⟩) hHeld ?restn59
    case hin59 => (simp only [List.getElem?_toArray, List.getElem?_cons_succ, List.getElem?_cons_zero]; exact rfl)
    case an59 => kernel_rfl
    case bn59 => kernel_rfl
    case cn59 => kernel_rfl
    case qn59 => exact fun _ _ _ h => h
    case dn59 => rfl
    try simp only [Act.put, List.setIfInBounds_toArray, List.set_cons_zero, List.set_cons_succ]
    refine wpAnyH_take (i := 8) (oi := ?on60) ?hin60 ?an60 ?bn60 ?cn60 ?qn60 (Or.inr ⟨?dn60, rfl⟩) hHeld ?restn60
    case hin60 => (simp only [List.getElem?_toArray, List.getElem?_cons_succ, List.getElem?_cons_zero]; exact rfl)
    case an60 => kernel_rfl
    case bn60 => kernel_rfl
    case cn60 => kernel_rfl
    case qn60 => exact fun _ _ _ h => h
    case dn60 => rfl
    try simp only [Act.put, List.setIfInBounds_toArray, List.set_cons_zero, List.set_cons_succ]
    refine wpAnyH_take (i := 9) (oi := ?on61) ?hin61 ?an61 ?bn61 ?cn61 ?qn61 (Or.inr ⟨?dn61, rfl⟩) hHeld ?restn61
    case hin61 => (simp only [List.getElem?_toArray, List.getElem?_cons_succ, List.getElem?_cons_zero]; exact rfl)
    case an61 => kernel_rfl
    case bn61 => kernel_rfl
    case cn61 => kernel_rfl
    case qn61 => exact fun _ _ _ h => h
    case dn61 => rfl
    try simp only [Act.put, List.setIfInBounds_toArray, List.set_cons_zero, List.set_cons_succ]
    refine wpAnyH_take (i := 10) (oi := ?on62) (v := ?vn62) ?hin62 ?an62 ?bn62 ?cn62 ?qn62 (Or.inl ⟨?dn62, ?hyn62⟩) hHeld ?restn62
    case hin62 => (simp only [List.getElem?_toArray, List.getElem?_cons_succ, List.getElem?_cons_zero]; exact rfl)
    case an62 => kernel_rfl
    case bn62 => kernel_rfl
    case cn62 => kernel_rfl
    case qn62 => exact fun _ _ _ h => h
    case dn62 => rfl
    case hyn62 => (intro z hSw; (try dsimp only at hSw); go_simp; (try with_reducible rfl))
    try simp only [Act.put, List.setIfInBounds_toArray, List.set_cons_zero, List.set_cons_succ]
    refine wpAnyH_take (i := 11) (oi := ?on63) (v := ?vn63) ?hin63 ?an63 ?bn63 ?cn63 ?qn63 (Or.inl ⟨?dn63, ?hyn63⟩) hHeld ?restn63
    case hin63 => (simp only [List.getElem?_toArray, List.getElem?_cons_succ, List.getElem?_cons_zero]; exact rfl)
    case an63 => kernel_rfl
    case bn63 => kernel_rfl
    case cn63 => kernel_rfl
    case qn63 => exact fun _ _ _ h => h
    case dn63 => rfl
    case hyn63 => (intro z hSw; (try dsimp only at hSw); go_simp; (try with_reducible rfl))
    try simp only [Act.put, List.setIfInBounds_toArray, List.set_cons_zero, List.set_cons_succ]
    refine wpAnyH_take (i := 12) (oi := ?on64) ?hin64 ?an64 ?bn64 ?cn64 ?qn64 (Or.inr ⟨?dn64, rfl⟩) hHeld ?restn64
    case hin64 => (simp only [List.getElem?_toArray, List.getElem?_cons_succ, List.getElem?_cons_zero]; exact rfl)
    case an64 => kernel_rfl
    case bn64 => kernel_rfl
    case cn64 => kernel_rfl
    case qn64 => exact fun _ _ _ h => h
    case dn64 => rfl
    try simp only [Act.put, List.setIfInBounds_toArray, List.set_cons_zero, List.set_cons_succ]
    refine wpAnyH_take (i := 13) (oi := ?on65) ?hin65 ?an65 ?bn65 ?cn65 ?qn65 (Or.inr ⟨?dn65, rfl⟩) hHeld ?restn65
    case hin65 => (simp only [List.getElem?_toArray, List.getElem?_cons_succ, List.getElem?_cons_zero]; exact rfl)
    case an65 => kernel_rfl
    case bn65 => kernel_rfl
    case cn65 => kernel_rfl
    case qn65 => exact fun _ _ _ h => h
    case dn65 => rfl
    try simp only [Act.put, List.setIfInBounds_toArray, List.set_cons_zero, List.set_cons_succ]
    refine wpAnyH_take (i := 14) (oi := ?on66) ?hin66 ?an66 ?bn66 ?cn66 ?qn66 (Or.inr ⟨?dn66, rfl⟩) hHeld ?restn66
    case hin66 => (simp only [List.getElem?_toArray, List.getElem?_cons_succ, List.getElem?_cons_zero]; exact rfl)
    case an66 => kernel_rfl
    case bn66 => kernel_rfl
    case cn66 => kernel_rfl
    case qn66 => exact fun _ _ _ h => h
    case dn66 => rfl
    try simp only [Act.put, List.setIfInBounds_toArray, List.set_cons_zero, List.set_cons_succ]
    refine wpAnyH_take (i := 15) (oi := ?on67) (v := ?vn67) ?hin67 ?an67 ?bn67 ?cn67 ?qn67 (Or.inl ⟨?dn67, ?hyn67⟩) hHeld ?restn67
    case hin67 => (simp only [List.getElem?_toArray, List.getElem?_cons_succ, List.getElem?_cons_zero]; exact rfl)
    case an67 => kernel_rfl
    case bn67 => kernel_rfl
    case cn67 => kernel_rfl
    case qn67 => exact fun _ _ _ h => h
    case dn67 => rfl
    case hyn67 => (intro z hSw; (try dsimp only at hSw); go_simp; (try with_reducible rfl))
    try simp only [Act.put, List.setIfInBounds_toArray, List.set_cons_zero, List.set_cons_succ]
    refine wpAnyH_take (i := 16) (oi := ?on68) (v := ?vn68) ?hin68 ?an68 ?bn68 ?cn68 ?qn68 (Or.inl ⟨?dn68, ?hyn68⟩) hHeld ?restn68
    case hin68 => (simp only [List.getElem?_toArray, List.getElem?_cons_succ, List.getElem?_cons_zero]; exact rfl)
    case an68 => kernel_rfl
    case bn68 => kernel_rfl
    case cn68 => kernel_rfl
    case qn68 => exact fun _ _ _ h => h
    case dn68 => rfl
    case hyn68 => (intro z hSw; (try dsimp only at hSw); go_simp; (try with_reducible rfl))
    try simp only [Act.put, List.setIfInBounds_toArray, List.set_cons_zero, List.set_cons_succ]
    refine wpAnyH_done (by kernel_rfl) ?_ _
    go_wp2_with fail
    go_ret
    exact ⟨rfl, HG.out.trans h2⟩
set_option maxHeartbeats 2000000 in
theorem l05Is_c (sz : Int) (v : Value) (L : List Int) (w : World) (h : Ints w v L) :
    Calls Tryz.prog 42 #[.agg #[.int .i64 sz, v]] w fun e w' => e = .returned (.bool (frB sz L)) ∧ Grew w w' := by
  have HI := Lib.hid (l01In_c sz 0 8)
  have hal := (Grew.refl w).alloc (.cells #[.int .i64 sz, v] 26)
  have HG := Lib.hid hal
  have HM := Lib.hid (fun W hW hn => l01Masks_c L.length v L W (h.grew hW) hn)
  have hmx : L.length ≤ 9223372036854775807 := h.2.1
  have y0 : ∀ W, Grew (w.alloc (.cells #[.int .i64 sz, v] 26)) W → W.cell? ⟨w.heap.size, 0, none⟩ = some (.int .i64 sz) := fun W hW => (hW.cell (p := ⟨w.heap.size, 0, none⟩) (by simp)).trans (by simp)
  have y1 : ∀ W, Grew (w.alloc (.cells #[.int .i64 sz, v] 26)) W → W.cell? ⟨w.heap.size, 1, none⟩ = some v := fun W hW => (hW.cell (p := ⟨w.heap.size, 1, none⟩) (by simp)).trans (by simp)
  obtain ⟨w1, hw1⟩ : ∃ w1, w1 = w.alloc (.cells #[.int .i64 sz, v] 26) := ⟨_, rfl⟩
  rw [← hw1] at y0 y1 HG
  clear hal
  have r1 := Grew.refl w1
  have r1d := r1.drew
  unfold frB
  by_cases h1 : 0 ≤ sz ∧ sz ≤ 8
  · rw [decide_eq_true h1] at HI ⊢
    rw [Bool.true_and]
    by_cases h2 : (L.length : Int) = sz
    · rw [decide_eq_true h2, Bool.true_and]
      obtain rfl := h2
      have hn : L.length ≤ 30 := by omega
      have HM := Lib.hid (fun W hW => HM.out W hW hn)
      have hq : ((L.length : Int) == (L.length : Int)) = true := by simp
      cases h3 : mks L.length L with
      | true =>
        rw [h3] at HM
        obtain ⟨A, c, rfl⟩ := ints_slice h
        clear h h3 hn h1
        generalize L.length = n at *
        go_enter Tryz.func42, Tryz.ntmps42
        go_wp2_with fail
        simp only [← hw1]
        refine (HI.out _).mono ?_
        rintro e w2 ⟨rfl, h2⟩
        clear hw1
        go_wp2_with fail
        refine (HM.out _ (HG.out.trans h2)).mono ?_
        rintro e w4 ⟨rfl, hgm⟩
        have h4 := h2.trans hgm
        go_wp2_with fail
        go_ret
        exact ⟨rfl, HG.out.trans h4⟩
      | false =>
        rw [h3] at HM
        obtain ⟨A, c, rfl⟩ := ints_slice h
        clear h h3 hn h1
        generalize L.length = n at *
        go_enter Tryz.func42, Tryz.ntmps42
        go_wp2_with fail
        simp only [← hw1]
        refine (HI.out _).mono ?_
        rintro e w2 ⟨rfl, h2⟩
        clear hw1
        go_wp2_with fail
        refine (HM.out _ (HG.out.trans h2)).mono ?_
        rintro e w4 ⟨rfl, hgm⟩
        have h4 := h2.trans hgm
        go_wp2_with fail
        go_ret
        exact ⟨rfl, HG.out.trans h4⟩
    · rw [decide_eq_false h2, Bool.false_and]
      have hq : ((L.length : Int) == sz) = false := by simpa using h2
      obtain ⟨A, c, rfl⟩ := ints_slice h
      clear h h2 HM
      generalize L.length = n at *
      go_enter Tryz.func42, Tryz.ntmps42
      go_wp2_with fail
      simp only [← hw1]
      refine (HI.out _).mono ?_
      rintro e w2 ⟨rfl, h2⟩
      clear hw1
      go_wp2_with fail
      go_ret
      exact ⟨rfl, HG.out.trans h2⟩
  · rw [decide_eq_false h1] at HI ⊢
    rw [Bool.false_and]
    obtain ⟨A, c, rfl⟩ := ints_slice h
    clear h HM
    generalize L.length = n at *
    go_enter Tryz.func42, Tryz.ntmps42
    go_wp2_with fail
    simp only [← hw1]
    refine (HI.out _).mono ?_
    rintro e w2 ⟨rfl, h2⟩
    clear hw1
    go_wp2_with fail
    go_ret
    exact ⟨rfl, HG.out.trans h2⟩
end Go.Proofs.YtjlnompmhgjaaaaGreat


/- The value of a plain formula on a poset. No program is in sight. -/
namespace Go.Proofs.YtjlnompmhgjaaaaGreat
open Go.RowKit
open Fm (Nd Tree)

end Go.Proofs.YtjlnompmhgjaaaaGreat


/- The parts of a formula, as the program's text needs them. -/
namespace Go.Proofs.YtjlnompmhgjaaaaGreat
open Go.RowKit
open Fm (Nd Tree)

theorem first_c (v : Value) (xs : List Nd) (t : Tree) (w : World) (h : Nodes w v xs) (hn : xs.length ≤ 1099511627776) (ht : At xs 1 t) :
    Calls Tryz.prog 144 #[v] w (Cuts w (Fm.enc t)) := by
  have HT := Lib.hid ht
  clear ht
  go_enter Tryz.func144, Tryz.ntmps144
  go_wp2_with fail
  refine (part_c _ xs 1 t _ h hn HT.out).mono ?_
  rintro e w1 ⟨v1, rfl, hN1, hg1⟩
  go_wp2_with fail
  go_ret
  exact ⟨_, rfl, hN1, hg1⟩

theorem second_c (v : Value) (xs : List Nd) (a t : Tree) (w : World) (h : Nodes w v xs) (hn : xs.length ≤ 1099511627776) (ha : At xs 1 a) (ht : At xs (1 + (Fm.enc a).length) t) :
    Calls Tryz.prog 145 #[v] w (Cuts w (Fm.enc t)) := by
  have HA := Lib.hid ha
  have HT := Lib.hid ht
  clear ha ht
  go_enter Tryz.func145, Tryz.ntmps145
  go_wp2_with fail
  refine (partEnd_at _ xs 1 a _ h hn HA.out).mono ?_
  rintro e w1 ⟨rfl, hg1⟩
  go_wp2_with fail
  refine (part_c _ xs (1 + (Fm.enc a).length) t _ (h.grew hg1) hn HT.out).mono ?_
  rintro e w2 ⟨v2, rfl, hN2, hg2⟩
  go_wp2_with fail
  go_ret
  exact ⟨_, rfl, hN2, hg1.trans hg2⟩

theorem isFalsum_c (v : Value) (t : Tree) (w : World) (h : Nodes w v (Fm.enc t)) :
    Calls Tryz.prog 147 #[v] w fun e w' => e = .returned (.bool (Fm.isF t)) ∧ Grew w w' := by
  have hpos := Fm.enc_pos t
  rcases h.open_ with ⟨rfl, h0⟩ | ⟨b, o, c, rfl, hc, hm, hb, hf⟩
  · rw [h0] at hpos; simp at hpos
  · have k1 := (hf 0 (by omega) w (Grew.refl _)).1
    rw [kd_enc] at k1
    rw [isF_kind]
    simp only [Nat.zero_mul, Nat.add_zero] at k1
    clear hf h
    go_enter Tryz.func147, Tryz.ntmps147
    go_wp2_with fail
    go_ret
    exact ⟨rfl, Grew.refl _⟩

theorem isNegation_c (v : Value) (t : Tree) (w : World) (h : Nodes w v (Fm.enc t)) (hn : (Fm.enc t).length ≤ 1099511627776) :
    Calls Tryz.prog 146 #[v] w fun e w' => e = .returned (.bool (isNeg t)) ∧ Grew w w' := by
  have hpos := Fm.enc_pos t
  rcases h.open_ with ⟨rfl, h0⟩ | ⟨b, o, c, rfl, hc, hm, hb, hf⟩
  · rw [h0] at hpos; simp at hpos
  · have k1 := (hf 0 (by omega) w (Grew.refl _)).1
    rw [kd_enc] at k1
    simp only [Nat.zero_mul, Nat.add_zero] at k1
    clear hf
    by_cases hk : kindOf t = 4
    · obtain ⟨x, y, rfl⟩ : ∃ x y, t = .imp x y := by cases t <;> simp_all [kindOf]
      have ha := at_first (xs := Fm.enc (.imp x y)) (k := (4, 0)) (a := x) (rest := Fm.enc y) rfl
      have hb2 := at_second (xs := Fm.enc (.imp x y)) (k := (4, 0)) (a := x) (b := y) rfl
      have HA := Lib.hid ha
      have HB := Lib.hid hb2
      have HH := Lib.hid h
      have hE : isNeg (.imp x y) = Fm.isF y := rfl
      rw [hE]
      rw [hk] at k1
      clear ha hb2 h hE hk
      generalize Fm.enc (.imp x y) = T at *
      go_enter Tryz.func146, Tryz.ntmps146
      go_wp2_with fail
      refine (second_c _ T x y _ HH.out hn HA.out HB.out).mono ?_
      rintro e w1 ⟨v1, rfl, hN1, hg1⟩
      go_wp2_with fail
      refine (isFalsum_c _ y _ hN1).mono ?_
      rintro e w2 ⟨rfl, hg2⟩
      go_wp2_with fail
      go_ret
      exact ⟨by simp, hg1.trans hg2⟩
    · have hE : isNeg t = false := by cases t <;> simp_all [isNeg, kindOf]
      rw [hE]
      have hk' : (kindOf t == 4) = false := by simpa using hk
      clear hE hk h
      generalize kindOf t = K at *
      go_enter Tryz.func146, Tryz.ntmps146
      go_wp2_with fail
      go_ret
      exact ⟨rfl, Grew.refl _⟩

theorem levelOf_c (v : Value) (t : Tree) (w : World) (h : Nodes w v (Fm.enc t)) (hn : (Fm.enc t).length ≤ 1099511627776) :
    Calls Tryz.prog 143 #[v] w fun e w' => e = .returned (.int .i64 (Fm.own t)) ∧ Grew w w' := by
  have hpos := Fm.enc_pos t
  rcases h.open_ with ⟨rfl, h0⟩ | ⟨b, o, c, rfl, hc, hm, hb, hf⟩
  · rw [h0] at hpos; simp at hpos
  · have k1 := fun W hW => (hf 0 (by omega) W hW).1
    rw [kd_enc] at k1
    simp only [Nat.zero_mul, Nat.add_zero] at k1
    have HN := Lib.hid (fun w h => isNegation_c (.slice (some ⟨b, o, none⟩) (Fm.enc t).length c) t w h hn)
    have HH := Lib.hid h
    have hg0 := Grew.refl w
    clear hf h
    by_cases hk : kindOf t = 4
    · rw [hk] at k1
      cases hng : isNeg t with
      | true =>
        have hE : Fm.own t = 3 := by cases t <;> simp_all [isNeg, kindOf, Fm.own]
        rw [hE]
        rw [hng] at HN
        clear hE hk hng
        go_enter Tryz.func143, Tryz.ntmps143
        go_wp2_with fail
        refine (HN.out _ HH.out).mono ?_
        rintro e w1 ⟨rfl, hg1⟩
        go_wp2_with fail
        go_ret
        exact ⟨rfl, hg1⟩
      | false =>
        have hE : Fm.own t = 0 := by cases t <;> simp_all [isNeg, kindOf, Fm.own]
        rw [hE]
        rw [hng] at HN
        clear hE hk hng
        go_enter Tryz.func143, Tryz.ntmps143
        go_wp2_with fail
        refine (HN.out _ HH.out).mono ?_
        rintro e w1 ⟨rfl, hg1⟩
        go_wp2_with fail
        go_ret
        exact ⟨rfl, hg1⟩
    · have hk4 : (kindOf t == 4) = false := by simpa using hk
      by_cases hk3 : kindOf t = 3
      · have hE : Fm.own t = 1 := by cases t <;> simp_all [kindOf, Fm.own]
        rw [hE]
        rw [hk3] at k1
        clear hE hk hk4 hk3
        go_enter Tryz.func143, Tryz.ntmps143
        go_wp2_with fail
        go_ret
        exact ⟨rfl, Grew.refl _⟩
      by_cases hk2 : kindOf t = 2
      · have hE : Fm.own t = 2 := by cases t <;> simp_all [kindOf, Fm.own]
        rw [hE]
        rw [hk2] at k1
        clear hE hk hk4 hk3 hk2
        go_enter Tryz.func143, Tryz.ntmps143
        go_wp2_with fail
        go_ret
        exact ⟨rfl, Grew.refl _⟩
      · have hE : Fm.own t = 3 := by cases t <;> simp_all [kindOf, Fm.own]
        rw [hE]
        have hk3' : (kindOf t == 3) = false := by simpa using hk3
        have hk2' : (kindOf t == 2) = false := by simpa using hk2
        clear hE hk hk3 hk2 HN HH
        generalize kindOf t = K at *
        go_enter Tryz.func143, Tryz.ntmps143
        go_wp2_with fail
        go_ret
        exact ⟨rfl, Grew.refl _⟩
end Go.Proofs.YtjlnompmhgjaaaaGreat


/- The text of a formula: the program's textAt. -/
namespace Go.Proofs.YtjlnompmhgjaaaaGreat
open Go.RowKit
open Fm (Nd Tree)

def TextOk (t : Tree) : Prop := ∀ (l : Nat) (v : Value) (w : World), l ≤ 3 → Nodes w v (Fm.enc t) → (Fm.enc t).length ≤ 1048576 →
  Calls Tryz.prog 133 #[v, .int .i64 l] w (Says w (Fm.txt t l))
def BodyOk (t : Tree) : Prop := ∀ (l : Nat) (v : Value) (w : World), l ≤ Fm.own t → Nodes w v (Fm.enc t) → (Fm.enc t).length ≤ 1048576 →
  Calls Tryz.prog 133 #[v, .int .i64 l] w (Says w (Fm.txt t l))

theorem body_and (x y : Tree) (hx : TextOk x) (hy : TextOk y) : BodyOk (.and x y) := by
  intro l v w hl h hn
  have hown : Fm.own (.and x y) = 2 := by rfl
  have hE : Fm.txt (.and x y) l = Fm.txt x 2 ++ [38] ++ Fm.txt y 3 := by
    rw [Fm.txt, Fm.wrap, if_neg (by omega)]
  rw [hE]
  rw [hown] at hl
  obtain ⟨b, o, c, rfl, hc, hm, k1⟩ := nodes_head h
  have hpos := Fm.enc_pos (.and x y)
  have HL := Lib.hid (levelOf_c _ _ w h (by omega))
  have HH := Lib.hid h
  have hg0 := Grew.refl w
  rw [hown] at HL
  rw [show kindOf (.and x y) = 2 from rfl] at k1
  have HA := Lib.hid (at_first (xs := Fm.enc (.and x y)) (k := (2, 0)) (a := x) (rest := Fm.enc y) rfl)
  have HB := Lib.hid (at_second (xs := Fm.enc (.and x y)) (k := (2, 0)) (a := x) (b := y) rfl)
  have hlen : (Fm.enc (.and x y)).length = 1 + ((Fm.enc x).length + (Fm.enc y).length) := by simp [Fm.enc]; omega
  have h1 := Fm.txt_len x 2
  have h2 := Fm.txt_len y 3
  have HX := Lib.hid hx
  have HY := Lib.hid hy
  have hn1 : (Fm.enc x).length ≤ 1048576 := by omega
  have hn2 : (Fm.enc y).length ≤ 1048576 := by omega
  clear hE h hx hy hlen hown
  generalize Fm.enc (.and x y) = T at *
  have s1 := bs_size (Fm.txt x 2)
  have s2 := bs_size (Fm.txt y 3)
  have z1 : (bs (Fm.txt x 2)).size ≤ 4194304 := by omega
  have z2 : (bs (Fm.txt y 3)).size ≤ 4194304 := by omega
  have HE : Hid (bs (Fm.txt x 2) ++ bs [38] ++ bs (Fm.txt y 3) = bs (Fm.txt x 2 ++ [38] ++ Fm.txt y 3)) := by unfold Hid; rw [bs_append, bs_append]
  clear s1 s2 h1 h2
  generalize Fm.txt x 2 ++ [38] ++ Fm.txt y 3 = Z at *
  go_enter Tryz.func133, Tryz.ntmps133
  go_wp2_with fail
  refine HL.out.mono ?_
  rintro e w1 ⟨rfl, hg1⟩
  go_wp2_with fail
  refine (first_c _ T x _ (HH.out.grew hg1) (by omega) HA.out).mono ?_
  rintro e w2 ⟨v2, rfl, hN2, hg2⟩
  go_wp2_with fail
  refine (HX.out 2 _ _ (by omega) hN2 hn1).mono ?_
  rintro e w3 ⟨rfl, hg3⟩
  go_wp2_with fail
  refine (second_c _ T x y _ (HH.out.grew ((hg1.trans hg2).trans hg3)) (by omega) HA.out HB.out).mono ?_
  rintro e w4 ⟨v4, rfl, hN4, hg4⟩
  go_wp2_with fail
  refine (HY.out 3 _ _ (by omega) hN4 hn2).mono ?_
  rintro e w5 ⟨rfl, hg5⟩
  go_wp2_with fail
  go_ret
  exact ⟨congrArg (fun z => Ending.returned (.string z)) HE.out, (((hg1.trans hg2).trans hg3).trans hg4).trans hg5⟩

theorem body_or (x y : Tree) (hx : TextOk x) (hy : TextOk y) : BodyOk (.or x y) := by
  intro l v w hl h hn
  have hown : Fm.own (.or x y) = 1 := by rfl
  have hE : Fm.txt (.or x y) l = Fm.txt x 1 ++ [124] ++ Fm.txt y 2 := by
    rw [Fm.txt, Fm.wrap, if_neg (by omega)]
  rw [hE]
  rw [hown] at hl
  obtain ⟨b, o, c, rfl, hc, hm, k1⟩ := nodes_head h
  have hpos := Fm.enc_pos (.or x y)
  have HL := Lib.hid (levelOf_c _ _ w h (by omega))
  have HH := Lib.hid h
  have hg0 := Grew.refl w
  rw [hown] at HL
  rw [show kindOf (.or x y) = 3 from rfl] at k1
  have HA := Lib.hid (at_first (xs := Fm.enc (.or x y)) (k := (3, 0)) (a := x) (rest := Fm.enc y) rfl)
  have HB := Lib.hid (at_second (xs := Fm.enc (.or x y)) (k := (3, 0)) (a := x) (b := y) rfl)
  have hlen : (Fm.enc (.or x y)).length = 1 + ((Fm.enc x).length + (Fm.enc y).length) := by simp [Fm.enc]; omega
  have h1 := Fm.txt_len x 1
  have h2 := Fm.txt_len y 2
  have HX := Lib.hid hx
  have HY := Lib.hid hy
  have hn1 : (Fm.enc x).length ≤ 1048576 := by omega
  have hn2 : (Fm.enc y).length ≤ 1048576 := by omega
  clear hE h hx hy hlen hown
  generalize Fm.enc (.or x y) = T at *
  have s1 := bs_size (Fm.txt x 1)
  have s2 := bs_size (Fm.txt y 2)
  have z1 : (bs (Fm.txt x 1)).size ≤ 4194304 := by omega
  have z2 : (bs (Fm.txt y 2)).size ≤ 4194304 := by omega
  have HE : Hid (bs (Fm.txt x 1) ++ bs [124] ++ bs (Fm.txt y 2) = bs (Fm.txt x 1 ++ [124] ++ Fm.txt y 2)) := by unfold Hid; rw [bs_append, bs_append]
  clear s1 s2 h1 h2
  generalize Fm.txt x 1 ++ [124] ++ Fm.txt y 2 = Z at *
  go_enter Tryz.func133, Tryz.ntmps133
  go_wp2_with fail
  refine HL.out.mono ?_
  rintro e w1 ⟨rfl, hg1⟩
  go_wp2_with fail
  refine (first_c _ T x _ (HH.out.grew hg1) (by omega) HA.out).mono ?_
  rintro e w2 ⟨v2, rfl, hN2, hg2⟩
  go_wp2_with fail
  refine (HX.out 1 _ _ (by omega) hN2 hn1).mono ?_
  rintro e w3 ⟨rfl, hg3⟩
  go_wp2_with fail
  refine (second_c _ T x y _ (HH.out.grew ((hg1.trans hg2).trans hg3)) (by omega) HA.out HB.out).mono ?_
  rintro e w4 ⟨v4, rfl, hN4, hg4⟩
  go_wp2_with fail
  refine (HY.out 2 _ _ (by omega) hN4 hn2).mono ?_
  rintro e w5 ⟨rfl, hg5⟩
  go_wp2_with fail
  go_ret
  exact ⟨congrArg (fun z => Ending.returned (.string z)) HE.out, (((hg1.trans hg2).trans hg3).trans hg4).trans hg5⟩

theorem body_imp (x y : Tree) (hf : Fm.isF y = false) (hx : TextOk x) (hy : TextOk y) : BodyOk (.imp x y) := by
  intro l v w hl h hn
  have hown : Fm.own (.imp x y) = 0 := by simp [Fm.own, hf]
  have hE : Fm.txt (.imp x y) l = Fm.txt x 1 ++ [62] ++ Fm.txt y 0 := by
    rw [Fm.txt, if_neg (by simp [hf]), Fm.wrap, if_neg (by omega)]
  rw [hE]
  rw [hown] at hl
  obtain ⟨b, o, c, rfl, hc, hm, k1⟩ := nodes_head h
  have hpos := Fm.enc_pos (.imp x y)
  have HL := Lib.hid (levelOf_c _ _ w h (by omega))
  have HH := Lib.hid h
  have hg0 := Grew.refl w
  have hng : isNeg (.imp x y) = false := hf
  have HG := Lib.hid (fun w h => isNegation_c (.slice (some ⟨b, o, none⟩) (Fm.enc (.imp x y)).length c) (.imp x y) w h (by omega))
  rw [hng] at HG
  rw [hown] at HL
  rw [show kindOf (.imp x y) = 4 from rfl] at k1
  have HA := Lib.hid (at_first (xs := Fm.enc (.imp x y)) (k := (4, 0)) (a := x) (rest := Fm.enc y) rfl)
  have HB := Lib.hid (at_second (xs := Fm.enc (.imp x y)) (k := (4, 0)) (a := x) (b := y) rfl)
  have hlen : (Fm.enc (.imp x y)).length = 1 + ((Fm.enc x).length + (Fm.enc y).length) := by simp [Fm.enc]; omega
  have h1 := Fm.txt_len x 1
  have h2 := Fm.txt_len y 0
  have HX := Lib.hid hx
  have HY := Lib.hid hy
  have hn1 : (Fm.enc x).length ≤ 1048576 := by omega
  have hn2 : (Fm.enc y).length ≤ 1048576 := by omega
  clear hE h hx hy hlen hown hng hf
  generalize Fm.enc (.imp x y) = T at *
  have s1 := bs_size (Fm.txt x 1)
  have s2 := bs_size (Fm.txt y 0)
  have z1 : (bs (Fm.txt x 1)).size ≤ 4194304 := by omega
  have z2 : (bs (Fm.txt y 0)).size ≤ 4194304 := by omega
  have HE : Hid (bs (Fm.txt x 1) ++ bs [62] ++ bs (Fm.txt y 0) = bs (Fm.txt x 1 ++ [62] ++ Fm.txt y 0)) := by unfold Hid; rw [bs_append, bs_append]
  clear s1 s2 h1 h2
  generalize Fm.txt x 1 ++ [62] ++ Fm.txt y 0 = Z at *
  go_enter Tryz.func133, Tryz.ntmps133
  go_wp2_with fail
  refine HL.out.mono ?_
  rintro e w1 ⟨rfl, hg1⟩
  go_wp2_with fail
  refine (HG.out _ (HH.out.grew hg1)).mono ?_
  rintro e w11 ⟨rfl, hg11⟩
  have hg1 := hg1.trans hg11
  go_wp2_with fail
  refine (first_c _ T x _ (HH.out.grew hg1) (by omega) HA.out).mono ?_
  rintro e w2 ⟨v2, rfl, hN2, hg2⟩
  go_wp2_with fail
  refine (HX.out 1 _ _ (by omega) hN2 hn1).mono ?_
  rintro e w3 ⟨rfl, hg3⟩
  go_wp2_with fail
  refine (second_c _ T x y _ (HH.out.grew ((hg1.trans hg2).trans hg3)) (by omega) HA.out HB.out).mono ?_
  rintro e w4 ⟨v4, rfl, hN4, hg4⟩
  go_wp2_with fail
  refine (HY.out 0 _ _ (by omega) hN4 hn2).mono ?_
  rintro e w5 ⟨rfl, hg5⟩
  go_wp2_with fail
  go_ret
  exact ⟨congrArg (fun z => Ending.returned (.string z)) HE.out, (((hg1.trans hg2).trans hg3).trans hg4).trans hg5⟩

theorem body_box (x : Tree) (hx : TextOk x) : BodyOk (.box x) := by
  intro l v w hl h hn
  have hown : Fm.own (.box x) = 3 := rfl
  have hE : Fm.txt (.box x) l = [91, 93] ++ Fm.txt x 3 := rfl
  rw [hE]
  rw [hown] at hl
  obtain ⟨b, o, c, rfl, hc, hm, k1⟩ := nodes_head h
  have hpos := Fm.enc_pos (.box x)
  have HL := Lib.hid (levelOf_c _ _ w h (by omega))
  have HH := Lib.hid h
  have hg0 := Grew.refl w
  rw [hown] at HL
  rw [show kindOf (.box x) = 5 from rfl] at k1
  have HA := Lib.hid (at_first (xs := Fm.enc (.box x)) (k := (5, 0)) (a := x) (rest := []) (by simp [Fm.enc]))
  have hlen : (Fm.enc (.box x)).length = 1 + (Fm.enc x).length := by simp [Fm.enc]; omega
  have h1 := Fm.txt_len x 3
  have HX := Lib.hid hx
  have hn1 : (Fm.enc x).length ≤ 1048576 := by omega
  clear hE h hx hlen hown
  generalize Fm.enc (.box x) = T at *
  have s1 := bs_size (Fm.txt x 3)
  have z1 : (bs (Fm.txt x 3)).size ≤ 4194304 := by omega
  have HE : Hid (bs [91, 93] ++ bs (Fm.txt x 3) = bs ([91, 93] ++ Fm.txt x 3)) := by unfold Hid; rw [bs_append]
  clear s1 h1
  generalize [91, 93] ++ Fm.txt x 3 = Z at *
  go_enter Tryz.func133, Tryz.ntmps133
  go_wp2_with fail
  refine HL.out.mono ?_
  rintro e w1 ⟨rfl, hg1⟩
  go_wp2_with fail
  refine (first_c _ T x _ (HH.out.grew hg1) (by omega) HA.out).mono ?_
  rintro e w2 ⟨v2, rfl, hN2, hg2⟩
  go_wp2_with fail
  refine (HX.out 3 _ _ (by omega) hN2 hn1).mono ?_
  rintro e w3 ⟨rfl, hg3⟩
  go_wp2_with fail
  go_ret
  exact ⟨congrArg (fun z => Ending.returned (.string z)) HE.out, (hg1.trans hg2).trans hg3⟩

theorem body_dia (x : Tree) (hx : TextOk x) : BodyOk (.dia x) := by
  intro l v w hl h hn
  have hown : Fm.own (.dia x) = 3 := rfl
  have hE : Fm.txt (.dia x) l = [60, 62] ++ Fm.txt x 3 := rfl
  rw [hE]
  rw [hown] at hl
  obtain ⟨b, o, c, rfl, hc, hm, k1⟩ := nodes_head h
  have hpos := Fm.enc_pos (.dia x)
  have HL := Lib.hid (levelOf_c _ _ w h (by omega))
  have HH := Lib.hid h
  have hg0 := Grew.refl w
  rw [hown] at HL
  rw [show kindOf (.dia x) = 6 from rfl] at k1
  have HA := Lib.hid (at_first (xs := Fm.enc (.dia x)) (k := (6, 0)) (a := x) (rest := []) (by simp [Fm.enc]))
  have hlen : (Fm.enc (.dia x)).length = 1 + (Fm.enc x).length := by simp [Fm.enc]; omega
  have h1 := Fm.txt_len x 3
  have HX := Lib.hid hx
  have hn1 : (Fm.enc x).length ≤ 1048576 := by omega
  clear hE h hx hlen hown
  generalize Fm.enc (.dia x) = T at *
  have s1 := bs_size (Fm.txt x 3)
  have z1 : (bs (Fm.txt x 3)).size ≤ 4194304 := by omega
  have HE : Hid (bs [60, 62] ++ bs (Fm.txt x 3) = bs ([60, 62] ++ Fm.txt x 3)) := by unfold Hid; rw [bs_append]
  clear s1 h1
  generalize [60, 62] ++ Fm.txt x 3 = Z at *
  go_enter Tryz.func133, Tryz.ntmps133
  go_wp2_with fail
  refine HL.out.mono ?_
  rintro e w1 ⟨rfl, hg1⟩
  go_wp2_with fail
  refine (first_c _ T x _ (HH.out.grew hg1) (by omega) HA.out).mono ?_
  rintro e w2 ⟨v2, rfl, hN2, hg2⟩
  go_wp2_with fail
  refine (HX.out 3 _ _ (by omega) hN2 hn1).mono ?_
  rintro e w3 ⟨rfl, hg3⟩
  go_wp2_with fail
  go_ret
  exact ⟨congrArg (fun z => Ending.returned (.string z)) HE.out, (hg1.trans hg2).trans hg3⟩

theorem body_tru (x : Tree) (hf : Fm.isF x = true) : BodyOk (.imp x .fls) := by
  intro l v w hl h hn
  have hown : Fm.own (.imp x .fls) = 3 := rfl
  have hE : Fm.txt (.imp x .fls) l = [84] := by
    rw [Fm.txt, if_pos (show Fm.isF .fls = true from rfl), if_pos hf]
  rw [hE]
  rw [hown] at hl
  obtain ⟨b, o, c, rfl, hc, hm, k1⟩ := nodes_head h
  have hpos := Fm.enc_pos (.imp x .fls)
  have HL := Lib.hid (levelOf_c _ _ w h (by omega))
  have HH := Lib.hid h
  have hg0 := Grew.refl w
  have HG := Lib.hid (fun w h => isNegation_c (.slice (some ⟨b, o, none⟩) (Fm.enc (.imp x .fls)).length c) (.imp x .fls) w h (by omega))
  rw [show isNeg (.imp x .fls) = true from rfl] at HG
  rw [hown] at HL
  rw [show kindOf (.imp x .fls) = 4 from rfl] at k1
  have HA := Lib.hid (at_first (xs := Fm.enc (.imp x .fls)) (k := (4, 0)) (a := x) (rest := Fm.enc .fls) rfl)
  have hlen : (Fm.enc (.imp x .fls)).length = 2 + (Fm.enc x).length := by simp [Fm.enc]; omega
  have hn1 : (Fm.enc x).length ≤ 1048576 := by omega
  have HI := Lib.hid (fun v w h => isFalsum_c v x w h)
  rw [hf] at HI
  clear hE h hlen hown hf
  generalize Fm.enc (.imp x .fls) = T at *
  go_enter Tryz.func133, Tryz.ntmps133
  go_wp2_with fail
  refine HL.out.mono ?_
  rintro e w1 ⟨rfl, hg1⟩
  go_wp2_with fail
  refine (HG.out _ (HH.out.grew hg1)).mono ?_
  rintro e w11 ⟨rfl, hg11⟩
  have hg1 := hg1.trans hg11
  go_wp2_with fail
  refine (first_c _ T x _ (HH.out.grew hg1) (by omega) HA.out).mono ?_
  rintro e w2 ⟨v2, rfl, hN2, hg2⟩
  go_wp2_with fail
  refine (HI.out _ _ hN2).mono ?_
  rintro e w3 ⟨rfl, hg3⟩
  go_wp2_with fail
  go_ret
  exact ⟨rfl, (hg1.trans hg2).trans hg3⟩

theorem body_not (x : Tree) (hf : Fm.isF x = false) (hx : TextOk x) : BodyOk (.imp x .fls) := by
  intro l v w hl h hn
  have hown : Fm.own (.imp x .fls) = 3 := rfl
  have hE : Fm.txt (.imp x .fls) l = [126] ++ Fm.txt x 3 := by
    rw [Fm.txt, if_pos (show Fm.isF .fls = true from rfl), if_neg (by simp [hf])]
  rw [hE]
  rw [hown] at hl
  obtain ⟨b, o, c, rfl, hc, hm, k1⟩ := nodes_head h
  have hpos := Fm.enc_pos (.imp x .fls)
  have HL := Lib.hid (levelOf_c _ _ w h (by omega))
  have HH := Lib.hid h
  have hg0 := Grew.refl w
  have HG := Lib.hid (fun w h => isNegation_c (.slice (some ⟨b, o, none⟩) (Fm.enc (.imp x .fls)).length c) (.imp x .fls) w h (by omega))
  rw [show isNeg (.imp x .fls) = true from rfl] at HG
  rw [hown] at HL
  rw [show kindOf (.imp x .fls) = 4 from rfl] at k1
  have HA := Lib.hid (at_first (xs := Fm.enc (.imp x .fls)) (k := (4, 0)) (a := x) (rest := Fm.enc .fls) rfl)
  have hlen : (Fm.enc (.imp x .fls)).length = 2 + (Fm.enc x).length := by simp [Fm.enc]; omega
  have hn1 : (Fm.enc x).length ≤ 1048576 := by omega
  have HI := Lib.hid (fun v w h => isFalsum_c v x w h)
  rw [hf] at HI
  have h1 := Fm.txt_len x 3
  have HX := Lib.hid hx
  have s1 := bs_size (Fm.txt x 3)
  have z1 : (bs (Fm.txt x 3)).size ≤ 4194304 := by omega
  have HE : Hid (bs [126] ++ bs (Fm.txt x 3) = bs ([126] ++ Fm.txt x 3)) := by unfold Hid; rw [bs_append]
  clear s1 h1 hx
  generalize [126] ++ Fm.txt x 3 = Z at *
  clear hE h hlen hown hf
  generalize Fm.enc (.imp x .fls) = T at *
  go_enter Tryz.func133, Tryz.ntmps133
  go_wp2_with fail
  refine HL.out.mono ?_
  rintro e w1 ⟨rfl, hg1⟩
  go_wp2_with fail
  refine (HG.out _ (HH.out.grew hg1)).mono ?_
  rintro e w11 ⟨rfl, hg11⟩
  have hg1 := hg1.trans hg11
  go_wp2_with fail
  refine (first_c _ T x _ (HH.out.grew hg1) (by omega) HA.out).mono ?_
  rintro e w2 ⟨v2, rfl, hN2, hg2⟩
  go_wp2_with fail
  refine (HI.out _ _ hN2).mono ?_
  rintro e w3 ⟨rfl, hg3⟩
  go_wp2_with fail
  refine (first_c _ T x _ (HH.out.grew ((hg1.trans hg2).trans hg3)) (by omega) HA.out).mono ?_
  rintro e w4 ⟨v4, rfl, hN4, hg4⟩
  go_wp2_with fail
  refine (HX.out 3 _ _ (by omega) hN4 hn1).mono ?_
  rintro e w5 ⟨rfl, hg5⟩
  go_wp2_with fail
  go_ret
  exact ⟨congrArg (fun z => Ending.returned (.string z)) HE.out, (((hg1.trans hg2).trans hg3).trans hg4).trans hg5⟩

theorem body_fls : BodyOk .fls := by
  intro l v w hl h hn
  have hE : Fm.txt .fls l = [70] := rfl
  rw [hE]
  rw [show Fm.own .fls = 3 from rfl] at hl
  obtain ⟨b, o, c, rfl, hc, hm, k1⟩ := nodes_head h
  have hpos := Fm.enc_pos (.fls)
  have HL := Lib.hid (levelOf_c _ _ w h (by omega))
  have HH := Lib.hid h
  have hg0 := Grew.refl w
  rw [show Fm.own .fls = 3 from rfl] at HL
  rw [show kindOf .fls = 1 from rfl] at k1
  clear hE h
  generalize Fm.enc .fls = T at *
  go_enter Tryz.func133, Tryz.ntmps133
  go_wp2_with fail
  refine HL.out.mono ?_
  rintro e w1 ⟨rfl, hg1⟩
  go_wp2_with fail
  go_ret
  exact ⟨rfl, hg1⟩

theorem body_var (n : Fin 6) : BodyOk (.var n) := by
  intro l v w hl h hn
  have hE : Fm.txt (.var n) l = [UInt8.ofNat (112 + n.val)] := rfl
  rw [hE]
  rw [show Fm.own (.var n) = 3 from rfl] at hl
  have k2 : ∃ b o c, v = .slice (some ⟨b, o, none⟩) (Fm.enc (.var n)).length c ∧ ∀ W, Grew w W → W.cell? ⟨b, o + 1, none⟩ = some (.int .i64 (n.val : Int)) := by
    rcases h.open_ with ⟨_, h0⟩ | ⟨b, o, c, hv, _, _, _, hf⟩
    · simp [Fm.enc] at h0
    · refine ⟨b, o, c, hv, fun W hW => ?_⟩
      have := (hf 0 (by simp [Fm.enc]) W hW).2
      rw [show sy (Fm.enc (.var n)) 0 = (n.val : Int) from rfl] at this
      simpa using this
  obtain ⟨b, o, c, rfl, hc, hm, k1⟩ := nodes_head h
  have hpos := Fm.enc_pos (.var n)
  have HL := Lib.hid (levelOf_c _ _ w h (by omega))
  have HH := Lib.hid h
  have hg0 := Grew.refl w
  obtain ⟨b', o', c', hv', k2⟩ := k2
  simp only [Value.slice.injEq, Option.some.injEq, Addr.mk.injEq, and_true, true_and] at hv'
  obtain ⟨⟨rfl, rfl⟩, rfl⟩ := hv'
  rw [show Fm.own (.var n) = 3 from rfl] at HL
  rw [show kindOf (.var n) = 0 from rfl] at k1
  have hn6 := n.isLt
  clear hE h
  generalize Fm.enc (.var n) = T at *
  generalize n.val = q at *
  go_enter Tryz.func133, Tryz.ntmps133
  go_wp2_with fail
  refine HL.out.mono ?_
  rintro e w1 ⟨rfl, hg1⟩
  go_wp2_with fail
  go_quiet (fail)
  go_wp2_with fail
  go_ret
  exact ⟨congrArg (fun z => Ending.returned (.string z)) (letter_cut hn6), hg1.drewN _⟩

theorem textOk_of (t : Tree) (hb : BodyOk t) : TextOk t := by
  intro l v w hl h hn
  by_cases hw : Fm.own t < l
  · have hE : Fm.txt t l = [40] ++ Fm.txt t 0 ++ [41] := by
      cases t with
      | var n => simp [Fm.own] at hw; omega
      | fls => simp [Fm.own] at hw; omega
      | and x y => simp only [Fm.own] at hw; simp [Fm.txt, Fm.wrap, hw]
      | or x y => simp only [Fm.own] at hw; simp [Fm.txt, Fm.wrap, hw]
      | imp x y =>
        cases hf : Fm.isF y with
        | true => simp [Fm.own, hf] at hw; omega
        | false => simp [Fm.own, hf] at hw; simp [Fm.txt, Fm.wrap, hf, hw]
      | box x => simp [Fm.own] at hw; omega
      | dia x => simp [Fm.own] at hw; omega
    rw [hE]
    have h1 := Fm.txt_len t 0
    have s1 := bs_size (Fm.txt t 0)
    have z1 : (bs (Fm.txt t 0)).size ≤ 4194304 := by omega
    have HL := Lib.hid (levelOf_c _ _ w h (by omega))
    have HB := Lib.hid (fun w h => hb 0 v w (Nat.zero_le _) h hn)
    have HH := Lib.hid h
    have HE : Hid (bs [40] ++ bs (Fm.txt t 0) ++ bs [41] = bs ([40] ++ Fm.txt t 0 ++ [41])) := by unfold Hid; rw [bs_append, bs_append]
    clear hE h1 s1 hb h
    generalize Fm.own t = q at *
    generalize [40] ++ Fm.txt t 0 ++ [41] = Z at *
    go_enter Tryz.func133, Tryz.ntmps133
    go_wp2_with fail
    refine HL.out.mono ?_
    rintro e w1 ⟨rfl, hg1⟩
    go_wp2_with fail
    refine (HB.out _ (HH.out.grew hg1)).mono ?_
    rintro e w2 ⟨rfl, hg2⟩
    go_wp2_with fail
    go_ret
    exact ⟨congrArg (fun z => Ending.returned (.string z)) HE.out, hg1.trans hg2⟩
  · exact hb l v w (by omega) h hn

theorem text_ok (t : Tree) : TextOk t := by
  induction t with
  | var n => exact textOk_of _ (body_var n)
  | fls => exact textOk_of _ body_fls
  | and x y hx hy => exact textOk_of _ (body_and x y hx hy)
  | or x y hx hy => exact textOk_of _ (body_or x y hx hy)
  | imp x y hx hy =>
    cases hf : Fm.isF y with
    | true =>
      obtain rfl := Fm.isF_eq hf
      cases hg : Fm.isF x with
      | true => exact textOk_of _ (body_tru x hg)
      | false => exact textOk_of _ (body_not x hg hx)
    | false => exact textOk_of _ (body_imp x y hf hx hy)
  | box x hx => exact textOk_of _ (body_box x hx)
  | dia x hx => exact textOk_of _ (body_dia x hx)

theorem text_c (t : Tree) (v : Value) (w : World) (h : Nodes w v (Fm.enc t)) (hn : (Fm.enc t).length ≤ 1048576) :
    Calls Tryz.prog 117 #[v] w (Says w (Fm.txt t 0)) := by
  have HT := Lib.hid (text_ok t 0 v w (by omega) h hn)
  go_enter Tryz.func117, Tryz.ntmps117
  go_wp2_with fail
  refine HT.out.mono ?_
  rintro e w1 ⟨rfl, hg1⟩
  go_wp2_with fail
  go_ret
  exact ⟨rfl, hg1⟩
end Go.Proofs.YtjlnompmhgjaaaaGreat


/- The program's 'parsed'. -/
namespace Go.Proofs.YtjlnompmhgjaaaaGreat
open Go.RowKit
open Fm (Nd)

end Go.Proofs.YtjlnompmhgjaaaaGreat


/- isText of the program. -/
namespace Go.Proofs.YtjlnompmhgjaaaaGreat
open Go.RowKit
open Fm (Nd)

end Go.Proofs.YtjlnompmhgjaaaaGreat


/- A predicate on nodes: IndexFunc, ContainsFunc. -/
namespace Go.Proofs.YtjlnompmhgjaaaaGreat
open Go.RowKit
open Fm (Nd)

def NoneP (p : Int → Int → Bool) (xs : List Nd) (k : Nat) : Prop := ∀ i, i < k → p (kd xs i) (sy xs i) = false
theorem NoneP.zero (p : Int → Int → Bool) (xs : List Nd) : NoneP p xs 0 := fun i hi => absurd hi (by omega)
theorem NoneP.succ {p : Int → Int → Bool} {xs : List Nd} {k : Nat} (h : NoneP p xs k) (h1 : p (kd xs k) (sy xs k) = false) : NoneP p xs (k + 1) := by
  intro i hi
  rcases Nat.lt_or_ge i k with hk | hk
  · exact h i hk
  · obtain rfl : i = k := by omega
    exact h1
noncomputable def anyP (p : Int → Int → Bool) (xs : List Nd) : Bool := !@decide (NoneP p xs xs.length) (Classical.propDecidable _)
theorem anyP_no {p : Int → Int → Bool} {xs : List Nd} (h : NoneP p xs xs.length) : anyP p xs = false := by
  unfold anyP
  rw [@decide_eq_true _ (Classical.propDecidable _) h]
  rfl
theorem anyP_at {p : Int → Int → Bool} {xs : List Nd} {k : Nat} (hk : k < xs.length) (h : p (kd xs k) (sy xs k) = true) : anyP p xs = true := by
  unfold anyP
  rw [@decide_eq_false _ (Classical.propDecidable _) fun H => by rw [H k hk] at h; cases h]
  rfl

def PredOk (f : Nat) (p : Int → Int → Bool) : Prop := ∀ a b W, Calls Tryz.prog f #[.agg #[.int .i64 a, .int .i64 b]] W fun e w' => e = .returned (.bool (p a b)) ∧ Grew W w'

theorem indexFunc_c (v : Value) (xs : List Nd) (f : Nat) (p : Int → Int → Bool) (w : World) (h : Nodes w v xs) (hn : xs.length ≤ 1099511627776) (hf : PredOk f p) (eg : ∀ args w, (callFunc f args).run Tryz.prog w = .ok (.enter f args) w) :
    Calls Tryz.prog 111 #[v, .func (.func f) #[] #[]] w fun e w' => ∃ r : Int, e = .returned (.int .i64 r) ∧ Grew w w' ∧ decide (0 ≤ r) = anyP p xs := by
  rcases h.open_ with ⟨rfl, rfl⟩ | ⟨b, o, c, rfl, hc, hm, hb, hcell⟩
  · rw [anyP_no (NoneP.zero _ _)]
    clear h hf
    go_enter Tryz.func111, Tryz.ntmps111
    go_wp2_with fail
    refine wp_loop_rounds 1 ?_; rw [rounds_succ]
    go_wp2_with fail
    go_ret
    exact ⟨_, rfl, Grew.refl _, rfl⟩
  obtain ⟨R, hR⟩ : ∃ R, R = anyP p xs := ⟨_, rfl⟩
  rw [← hR]
  have HA := Lib.hid (fun k hk h => hR.trans (@anyP_at p xs k hk h))
  have HZ := Lib.hid (fun h => hR.trans (@anyP_no p xs h))
  have HC := Lib.hid hcell
  have HF := Lib.hid hf
  clear hcell h hf hR
  generalize hN : xs.length = n at *
  clear hN
  go_enter Tryz.func111, Tryz.ntmps111
  go_wp2_with fail
  go_loopw [5, 8] (fun _ i wr => ∃ j : Nat, j ≤ n ∧ i = .int .i64 j ∧ Grew w wr ∧ Hid (NoneP p xs j)) (fun _ i _ => n - (intOf i).toNat)
  case atStart => exact ⟨0, Nat.zero_le _, rfl, Grew.refl _, NoneP.zero _ _⟩
  case round =>
    obtain ⟨j, hj, rfl, hB, HJ⟩ := hrel
    by_cases hlt : j < n
    · have k1 := (HC.out j hlt _ hB).1
      have k2 := (HC.out j hlt _ hB).2
      have hA := Lib.hid (HA.out j hlt)
      have hS := Lib.hid (fun h => HJ.out.succ (k := j) h)
      generalize kd xs j = x at *
      generalize sy xs j = y at *
      go_wp2_with fail
      go_at_fn f
      refine (HF.out x y _).mono ?_
      rintro e w1 ⟨rfl, hg1⟩
      have hB1 := hB.trans hg1
      cases hp : p x y with
      | true =>
        have hv := hA.out hp
        go_wp2_with fail
        go_ret
        exact ⟨_, rfl, hB1, by rw [hv]; simp⟩
      | false =>
        have hs := Lib.hid (hS.out hp)
        go_wp2_with fail
        go_roundw
        case rel => exact ⟨j + 1, by omega, by go_num, hB1, hs⟩
        case measure => simp [intOf]; omega
    · obtain rfl : j = n := by omega
      have hv := Lib.hid (HZ.out HJ.out)
      go_wp2_with fail
      go_ret
      exact ⟨_, rfl, hB, by rw [hv.out]; rfl⟩

theorem containsFunc_c (v : Value) (xs : List Nd) (f : Nat) (p : Int → Int → Bool) (w : World) (h : Nodes w v xs) (hn : xs.length ≤ 1099511627776) (hf : PredOk f p) (eg : ∀ args w, (callFunc f args).run Tryz.prog w = .ok (.enter f args) w) :
    Calls Tryz.prog 84 #[v, .func (.func f) #[] #[]] w fun e w' => e = .returned (.bool (anyP p xs)) ∧ Grew w w' := by
  have HI := Lib.hid (indexFunc_c v xs f p w h hn hf eg)
  clear h hf eg
  generalize anyP p xs = R at *
  go_enter Tryz.func84, Tryz.ntmps84
  go_wp2_with fail
  refine HI.out.mono ?_
  rintro e w1 ⟨r, rfl, hg1, hr⟩
  go_wp2_with fail
  go_ret
  exact ⟨by rw [← hr]; rfl, hg1⟩

end Go.Proofs.YtjlnompmhgjaaaaGreat


/- isPlain of the program, l02Plain of the reference. -/
namespace Go.Proofs.YtjlnompmhgjaaaaGreat
open Go.RowKit
open Fm (Nd)

def isBD (a _b : Int) : Bool := a == 5 || a == 6
end Go.Proofs.YtjlnompmhgjaaaaGreat


/- Is a text that of a plain formula? -/
namespace Go.Proofs.YtjlnompmhgjaaaaGreat
open Go.RowKit
open Fm (Nd)

end Go.Proofs.YtjlnompmhgjaaaaGreat


/- Plain formulas of the size of a text, and their texts. No program is in sight. -/
namespace Go.Proofs.YtjlnompmhgjaaaaGreat
open Go.RowKit

def FmOk (A : Fm.Tree) : Prop := (Fm.enc A).length ≤ 40 ∧ anyP isBD (Fm.enc A) = false
theorem anyP_mem {p : Int → Int → Bool} {xs : List Fm.Nd} : anyP p xs = false ↔ ∀ x ∈ xs, p x.1 x.2 = false := by
  constructor
  · intro h x hx
    obtain ⟨i, hi, rfl⟩ := List.getElem_of_mem hx
    cases hq : p xs[i].1 xs[i].2 with
    | false => rfl
    | true =>
      have := anyP_at (p := p) hi (by simpa [kd, sy, List.getD, hi] using hq)
      rw [this] at h; cases h
  · intro h
    apply anyP_no
    intro i hi
    have := h xs[i] (List.getElem_mem hi)
    simpa [kd, sy, List.getD, hi] using this
theorem FmOk.bin {k : Int} {A B : Fm.Tree} {C : Fm.Tree} (he : Fm.enc C = (k, 0) :: (Fm.enc A ++ Fm.enc B)) (h : FmOk C) : FmOk A ∧ FmOk B := by
  obtain ⟨h1, h2⟩ := h
  rw [he] at h1 h2
  rw [anyP_mem] at h2
  simp only [List.length_cons, List.length_append] at h1
  exact ⟨⟨by omega, anyP_mem.2 fun x hx => h2 x (by simp [hx])⟩, ⟨by omega, anyP_mem.2 fun x hx => h2 x (by simp [hx])⟩⟩
theorem FmOk.join {k : Int} {A B : Fm.Tree} {C : Fm.Tree} (he : Fm.enc C = (k, 0) :: (Fm.enc A ++ Fm.enc B)) (hk : k ≠ 5 ∧ k ≠ 6) (hA : FmOk A) (hB : FmOk B) (hl : (Fm.enc C).length ≤ 40) : FmOk C := by
  refine ⟨hl, anyP_mem.2 ?_⟩
  rw [he]
  intro x hx
  simp only [List.mem_cons, List.mem_append] at hx
  rcases hx with rfl | hx | hx
  · unfold isBD
    have h5 : (k == 5) = false := by simpa using hk.1
    have h6 : (k == 6) = false := by simpa using hk.2
    show (k == 5 || k == 6) = false
    rw [h5, h6]; rfl
  · exact anyP_mem.1 hA.2 x hx
  · exact anyP_mem.1 hB.2 x hx
end Go.Proofs.YtjlnompmhgjaaaaGreat


/- Forcing, plain: boxes, implications, the values of plain formulas; the values reckoned over a list of nodes from its end. No program is in sight. -/
namespace Go.Proofs.YtjlnompmhgjaaaaGreat
open Go.RowKit
open Fm (Nd Tree)

def evs (A V : List Nat) (k s : Int) (st : List Nat) : List Nat :=
  if k = 0 then nt V s.toNat :: st
  else if k = 2 then (st.getD 0 0 &&& st.getD 1 0) :: st.drop 2
  else if k = 3 then (st.getD 0 0 ||| st.getD 1 0) :: st.drop 2
  else if k = 4 then ar A (st.getD 0 0) (st.getD 1 0) :: st.drop 2
  else 0 :: st
def ev (A V : List Nat) : List Nd → List Nat
  | [] => []
  | x :: xs => evs A V x.1 x.2 (ev A V xs)
def Fed (A V : List Nat) (xs : List Nd) : Prop := ∀ i, i < xs.length → (kd xs i = 2 ∨ kd xs i = 3 ∨ kd xs i = 4) → 2 ≤ (ev A V (xs.drop (i + 1))).length
theorem Fed.nil_ (A V : List Nat) : Fed A V [] := fun i hi => absurd hi (by simp)
theorem Fed.cons {A V : List Nat} {x : Nd} {xs : List Nd} (h : Fed A V xs) (h1 : (x.1 = 2 ∨ x.1 = 3 ∨ x.1 = 4) → 2 ≤ (ev A V xs).length) : Fed A V (x :: xs) := by
  intro i hi hk
  cases i with
  | zero => exact h1 hk
  | succ i => exact h i (by simpa using hi) hk
theorem enc_nd : ∀ (t : Tree), ∀ x ∈ Fm.enc t, (x.1 = 0 ∧ ∃ v : Nat, x.2 = (v : Int) ∧ v < 6) ∨ x.1 = 1 ∨ x.1 = 2 ∨ x.1 = 3 ∨ x.1 = 4 ∨ x.1 = 5 ∨ x.1 = 6 := by
  intro t
  induction t with
  | var v => intro x hx; simp [Fm.enc] at hx; subst hx; exact .inl ⟨rfl, v.val, rfl, v.isLt⟩
  | fls => intro x hx; simp [Fm.enc] at hx; subst hx; exact .inr (.inl rfl)
  | and a b iha ihb =>
    intro x hx; simp [Fm.enc] at hx; rcases hx with rfl | hx | hx
    · exact .inr (.inr (.inl rfl))
    · exact iha x hx
    · exact ihb x hx
  | or a b iha ihb =>
    intro x hx; simp [Fm.enc] at hx; rcases hx with rfl | hx | hx
    · exact .inr (.inr (.inr (.inl rfl)))
    · exact iha x hx
    · exact ihb x hx
  | imp a b iha ihb =>
    intro x hx; simp [Fm.enc] at hx; rcases hx with rfl | hx | hx
    · exact .inr (.inr (.inr (.inr (.inl rfl))))
    · exact iha x hx
    · exact ihb x hx
  | box a iha =>
    intro x hx; simp [Fm.enc] at hx; rcases hx with rfl | hx
    · exact .inr (.inr (.inr (.inr (.inr (.inl rfl)))))
    · exact iha x hx
  | dia a iha =>
    intro x hx; simp [Fm.enc] at hx; rcases hx with rfl | hx
    · exact .inr (.inr (.inr (.inr (.inr (.inr rfl)))))
    · exact iha x hx
end Go.Proofs.YtjlnompmhgjaaaaGreat


/- Boxes: box of the program, l01Box of the reference. -/
namespace Go.Proofs.YtjlnompmhgjaaaaGreat
open Go.RowKit

theorem box_q (v : Value) (A : List Nat) (m : Nat) (w : World) (h : Ints w v (zs A)) (hA : Sm A) (hn30 : A.length ≤ 30) (hm : m < 9223372036854775808) :
    Calls Tryz.prog 90 #[v, .int .i64 (m : Int)] w fun e w' => e = .returned (.int .i64 ((bx A m : Nat) : Int)) ∧ w' = w := by
  have HW := Lib.hid (fun a (ha : a < 1073741824) W => within_q a m (by omega) hm W)
  have HR := Lib.hid (show bxK A m A.length = bx A m from rfl)
  have HY := Lib.hid (fun k => @bxK_yes A m k)
  have HN := Lib.hid (fun k => @bxK_no A m k)
  have HS := Lib.hid (fun k (hk : k ≤ 30) => bxK_sm (A := A) (m := m) hk)
  have HT := Lib.hid (fun i (hi : i < A.length) => hA.at_ hi)
  have HO := Lib.hid (fun a b (ha : a < 1073741824) (hb : b < 1073741824) => or_i64 a b (by omega) (by omega))
  have HP := Lib.hid (fun k (hk : k ≤ 30) => wrap_pow hk)
  have HP2 := Lib.hid (fun k (hk : k < 30) => pow30 hk)
  obtain ⟨A', c, rfl⟩ := ints_sliceN h
  have HC := Lib.hid (fun h0 => cellsN h h0)
  clear hm h hA
  generalize bx A m = R at *
  generalize hNA : A.length = n at *
  clear hNA
  go_enter Tryz.func90, Tryz.ntmps90
  go_wp2_with fail
  go_loopw [5, 6, 7, 10] (fun q _ _ i wr => ∃ j : Nat, j ≤ n ∧ i = .int .i64 j ∧ q = .int .i64 ((bxK A m j : Nat) : Int) ∧ wr = w) (fun _ _ _ i _ => n - (intOf i).toNat)
  case atStart => exact ⟨0, by omega, rfl, rfl, rfl⟩
  case round =>
    obtain ⟨j, hj, rfl, rfl, rfl⟩ := hrel
    by_cases hlt : j < n
    · obtain ⟨b2, o2, rfl, hcell2⟩ := HC.out (by omega)
      have hH := Lib.hid (HW.out _ (HT.out j hlt))
      have ho := HO.out _ _ (HS.out j (by omega)) (HP2.out j (by omega))
      have hp := HP.out j (by omega)
      have hY := Lib.hid (HY.out j)
      have hN := Lib.hid (HN.out j)
      have k1 := hcell2 j hlt _ (Grew.refl _)
      clear hcell2
      generalize nt A j = y at *
      generalize decide (dif y m = 0) = t at *
      generalize hsj : bxK A m j = sj at *
      clear hsj
      generalize hpj : (2 ^ j : Nat) = pj at *
      clear hpj
      go_wp2_with fail
      refine (hH.out _).mono ?_
      rintro e w2 ⟨rfl, rfl⟩
      cases t with
      | true =>
        have hy := Lib.hid (hY.out rfl)
        go_wp2_with fail
        go_roundw
        case rel => exact ⟨j + 1, by omega, by go_num, by rw [hy.out], by trivial⟩
        case measure => simp [intOf]; omega
      | false =>
        have hn := Lib.hid (hN.out rfl)
        go_wp2_with fail
        go_roundw
        case rel => exact ⟨j + 1, by omega, by go_num, by rw [hn.out], by trivial⟩
        case measure => simp [intOf]; omega
    · obtain rfl : j = n := by omega
      have hr := Lib.hid HR.out
      go_wp2_with fail
      go_ret
      exact ⟨by rw [hr.out]; rfl, rfl⟩
end Go.Proofs.YtjlnompmhgjaaaaGreat


/- Implications of sets: all, imply of the program, l17Arrow of the reference. -/
namespace Go.Proofs.YtjlnompmhgjaaaaGreat
open Go.RowKit

end Go.Proofs.YtjlnompmhgjaaaaGreat


/- forced of the program: a stack of values. -/
namespace Go.Proofs.YtjlnompmhgjaaaaGreat
open Go.RowKit
open Fm (Nd Tree)

def sk (st : List Nat) : List Int := zs st.reverse
theorem sk_len (st : List Nat) : (sk st).length = st.length := by unfold sk; rw [zs_len, List.length_reverse]
theorem sk_cons (x : Nat) (st : List Nat) : sk (x :: st) = sk st ++ [(x : Int)] := by unfold sk; rw [List.reverse_cons, zs_append]; rfl
theorem OwnI.pop {w : World} {B : Nat} {A : Option Addr} {n c : Nat} {L : List Int} {x : Int} (h : OwnI w B (.slice A n c) (L ++ [x])) : n = L.length + 1 ∧ ∃ g, A = some ⟨g, 0, none⟩ ∧ n ≤ c ∧ c ≤ 9223372036854775807 ∧ B ≤ g ∧ g < w.heap.size ∧ w.cell? ⟨g, L.length, none⟩ = some (.int .i64 x) ∧ OwnI w B (.slice (some ⟨g, 0, none⟩) L.length c) L := by
  obtain ⟨h1, h2⟩ := h
  rcases h2 with ⟨h3, h4⟩ | ⟨g, cap, cur, h3, h4, h5, h6, h7, h8, h9⟩
  · rw [List.length_append] at h4; simp at h4
  · rw [List.length_append, List.length_singleton] at h3 h6 h9
    simp only [Value.slice.injEq] at h3
    obtain ⟨rfl, rfl, rfl⟩ := h3
    have hsz : cur.size = c := by omega
    have hcell : ∀ j, j < L.length + 1 → cur[j]? = (icells (L ++ [x]))[j]? := fun j hj => by
      have := congrArg (fun l => l[j]?) h9
      simp only [List.getElem?_take] at this
      rw [if_pos (by omega)] at this
      simpa using this
    refine ⟨rfl, g, rfl, h6, h7, h4, (Array.getElem?_eq_some_iff.1 h5).1, ?_, ?_⟩
    · rw [cell_of_row w g _ cur _ (0, 0) h5, hcell _ (by omega)]
      have := icells_at (L := L ++ [x]) (i := L.length) (by simp)
      rw [this]
      simp [it, List.getD]
    · refine OwnI.mk_ h4 h5 (by omega) h7 hsz fun i hi => ?_
      rw [hcell i (by omega), icells_at (by simp; omega)]
      congr 1
      simp [it, List.getD, List.getElem?_append_left hi]
def Stk (w : World) (b B : Nat) (st : List Nat) : Prop := ∃ A n c, w.heap[b]? = some (.cells #[.slice A n c] 24 (0, 0)) ∧ OwnI w B (.slice A n c) (sk st)
theorem wpList_appB {ops : Array Oper} {rest : List Oper} {o : Oper} {a : Act} {Q : Exit → Act → World → Prop} {w : World} (B : Nat) (s x : Operand) (hgd : o.guard = none)
    (ho : o.op = .call { callee := .builtin .append, args := #[s, x], argTypes := #[24, 24] })
    (v : Value) (L : List Int) (hs : a.eval s = v) (hown : OwnI w B v L) (hB : B ≤ w.heap.size) (vx : Value) (k : Int) (hx : a.eval x = vx) (hr : Rd w 1 vx 1 [.int .i64 k]) (hn : L.length ≤ 1048576)
    (h : ∀ v' w', OwnI w' B v' (L ++ [k]) → w.grownBy w' v.ownBlock → wpList Tryz.prog ops Q rest (a.put o.dst v') w') : wpList Tryz.prog ops Q (o :: rest) a w := by
  obtain ⟨i0, hi0, hz0, hz1, hz2⟩ := info_parts Tryz.infoI
  refine wpList_append_rd w hgd s x _ ho B 2 i0 _ 1 8 Tryz.underlying24 hi0 hz0 hz1 hz2 rfl (by omega) v L.length (icells L) hs hown vx 1 [.int .i64 k] hx hr (by simp [Value.oneCell']) (by unfold maxLen; omega) (by omega) hB ?_
  intro v' w' h1 h2 h3
  refine h v' w' ?_ h2
  unfold OwnI
  rw [List.length_append, icells_append]
  exact h1
theorem two_at {st : List Nat} (h : 2 ≤ st.length) : ∃ x y r, st = x :: y :: r := by
  match st, h with
  | x :: y :: r, _ => exact ⟨x, y, r, rfl⟩
theorem Stk.grew {w w' : World} {b B : Nat} {st : List Nat} (h : Stk w b B st) (hg : Grew w w') : Stk w' b B st := by
  obtain ⟨A, n, c, h1, h2⟩ := h
  exact ⟨A, n, c, (hg.block (blk_lt h1)).trans h1, h2.grew hg⟩

end Go.Proofs.YtjlnompmhgjaaaaGreat


/- Modal truth, plain: the sets of worlds reckoned over a list of nodes from its end. No program is in sight. -/
namespace Go.Proofs.YtjlnompmhgjaaaaGreat
open Go.RowKit
open Fm (Nd Tree)

def mvs (A V : List Nat) (k s : Int) (st : List Nat) : List Nat :=
  if k = 0 then nt V s.toNat :: st
  else if k = 2 then (st.getD 0 0 &&& st.getD 1 0) :: st.drop 2
  else if k = 3 then (st.getD 0 0 ||| st.getD 1 0) :: st.drop 2
  else if k = 4 then (dif (full A.length) (st.getD 0 0) ||| st.getD 1 0) :: st.drop 2
  else if k = 5 then bx A (st.getD 0 0) :: st.drop 1
  else if k = 6 then dif (full A.length) (bx A (dif (full A.length) (st.getD 0 0))) :: st.drop 1
  else 0 :: st
def mve (A V : List Nat) : List Nd → List Nat
  | [] => []
  | x :: xs => mvs A V x.1 x.2 (mve A V xs)
theorem mvs_var {A V : List Nat} {k s : Int} {v : Nat} {st : List Nat} (h : k = 0) (hs : s = (v : Int)) : mvs A V k s st = nt V v :: st := by unfold mvs; rw [if_pos h, hs]; rfl
theorem mvs_fls {A V : List Nat} {k s : Int} {st : List Nat} (h : k = 1) : mvs A V k s st = 0 :: st := by subst h; rfl
theorem mvs_and {A V : List Nat} {k s : Int} {x y : Nat} {st : List Nat} (h : k = 2) : mvs A V k s (x :: y :: st) = (x &&& y) :: st := by subst h; rfl
theorem mvs_or {A V : List Nat} {k s : Int} {x y : Nat} {st : List Nat} (h : k = 3) : mvs A V k s (x :: y :: st) = (x ||| y) :: st := by subst h; rfl
theorem mvs_imp {A V : List Nat} {k s : Int} {x y : Nat} {st : List Nat} (h : k = 4) : mvs A V k s (x :: y :: st) = (dif (full A.length) x ||| y) :: st := by subst h; rfl
theorem mvs_box {A V : List Nat} {k s : Int} {x : Nat} {st : List Nat} (h : k = 5) : mvs A V k s (x :: st) = bx A x :: st := by subst h; rfl
theorem mvs_dia {A V : List Nat} {k s : Int} {x : Nat} {st : List Nat} (h : k = 6) : mvs A V k s (x :: st) = dif (full A.length) (bx A (dif (full A.length) x)) :: st := by subst h; rfl
theorem mve_enc (A V : List Nat) : ∀ (t : Tree) (r : List Nd), mve A V (Fm.enc t ++ r) = mv A V t :: mve A V r := by
  intro t
  have bin : ∀ {k : Int} {a b : Tree} {r : List Nd} {f : Nat → Nat → Nat}, (∀ r : List Nd, mve A V (Fm.enc a ++ r) = mv A V a :: mve A V r) → (∀ r : List Nd, mve A V (Fm.enc b ++ r) = mv A V b :: mve A V r) →
      (∀ x y st, mvs A V k 0 (x :: y :: st) = f x y :: st) → mve A V ((k, 0) :: (Fm.enc a ++ Fm.enc b) ++ r) = f (mv A V a) (mv A V b) :: mve A V r := by
    intro k a b r f ha hb hf
    show mvs A V k 0 (mve A V (Fm.enc a ++ Fm.enc b ++ r)) = _
    rw [List.append_assoc, ha, hb, hf]
  have one : ∀ {k : Int} {a : Tree} {r : List Nd} {f : Nat → Nat}, (∀ r : List Nd, mve A V (Fm.enc a ++ r) = mv A V a :: mve A V r) →
      (∀ x st, mvs A V k 0 (x :: st) = f x :: st) → mve A V ((k, 0) :: Fm.enc a ++ r) = f (mv A V a) :: mve A V r := by
    intro k a r f ha hf
    show mvs A V k 0 (mve A V (Fm.enc a ++ r)) = _
    rw [ha, hf]
  induction t with
  | var v => intro r; exact mvs_var rfl rfl
  | fls => intro r; rfl
  | and a b iha ihb => intro r; exact bin (f := fun x y => x &&& y) iha ihb (fun _ _ _ => rfl)
  | or a b iha ihb => intro r; exact bin (f := fun x y => x ||| y) iha ihb (fun _ _ _ => rfl)
  | imp a b iha ihb => intro r; exact bin (f := fun x y => dif (full A.length) x ||| y) iha ihb (fun _ _ _ => rfl)
  | box a iha => intro r; exact one (f := fun x => bx A x) iha (fun _ _ => rfl)
  | dia a iha => intro r; exact one (f := fun x => dif (full A.length) (bx A (dif (full A.length) x))) iha (fun _ _ => rfl)
def Mfed (A V : List Nat) (xs : List Nd) : Prop := ∀ i, i < xs.length → ((kd xs i = 2 ∨ kd xs i = 3 ∨ kd xs i = 4) → 2 ≤ (mve A V (xs.drop (i + 1))).length) ∧ ((kd xs i = 5 ∨ kd xs i = 6) → 1 ≤ (mve A V (xs.drop (i + 1))).length)
theorem Mfed.nil_ (A V : List Nat) : Mfed A V [] := fun i hi => absurd hi (by simp)
theorem Mfed.cons {A V : List Nat} {x : Nd} {xs : List Nd} (h : Mfed A V xs) (h1 : (x.1 = 2 ∨ x.1 = 3 ∨ x.1 = 4) → 2 ≤ (mve A V xs).length) (h2 : (x.1 = 5 ∨ x.1 = 6) → 1 ≤ (mve A V xs).length) : Mfed A V (x :: xs) := by
  intro i hi
  cases i with
  | zero => exact ⟨h1, h2⟩
  | succ i => exact h i (by simpa using hi)
theorem mfed_enc (A V : List Nat) : ∀ (t : Tree) (r : List Nd), Mfed A V r → Mfed A V (Fm.enc t ++ r) := by
  intro t
  have bin : ∀ {k : Int} {a b : Tree} {r : List Nd}, (∀ r : List Nd, Mfed A V r → Mfed A V (Fm.enc a ++ r)) → (∀ r : List Nd, Mfed A V r → Mfed A V (Fm.enc b ++ r)) → Mfed A V r → Mfed A V ((k, 0) :: (Fm.enc a ++ Fm.enc b) ++ r) := by
    intro k a b r ha hb hr
    rw [List.cons_append, List.append_assoc]
    refine (ha _ (hb _ hr)).cons (fun _ => ?_) (fun _ => ?_) <;> rw [mve_enc A V a, mve_enc A V b] <;> simp
  have one : ∀ {k : Int} {a : Tree} {r : List Nd}, ¬ (k = 2 ∨ k = 3 ∨ k = 4) → (∀ r : List Nd, Mfed A V r → Mfed A V (Fm.enc a ++ r)) → Mfed A V r → Mfed A V ((k, 0) :: Fm.enc a ++ r) := by
    intro k a r hk ha hr
    rw [List.cons_append]
    refine (ha _ hr).cons (fun h => absurd h hk) (fun _ => ?_)
    rw [mve_enc A V a]; simp
  have zero : ∀ {x : Nd} {r : List Nd}, ¬ (x.1 = 2 ∨ x.1 = 3 ∨ x.1 = 4) → ¬ (x.1 = 5 ∨ x.1 = 6) → Mfed A V r → Mfed A V ([x] ++ r) := fun hx hy hr => hr.cons (fun h => absurd h hx) (fun h => absurd h hy)
  induction t with
  | var v => intro r hr; exact zero (by show ¬ ((0 : Int) = 2 ∨ (0 : Int) = 3 ∨ (0 : Int) = 4); decide) (by show ¬ ((0 : Int) = 5 ∨ (0 : Int) = 6); decide) hr
  | fls => intro r hr; exact zero (by decide) (by decide) hr
  | and a b iha ihb => intro r hr; exact bin iha ihb hr
  | or a b iha ihb => intro r hr; exact bin iha ihb hr
  | imp a b iha ihb => intro r hr; exact bin iha ihb hr
  | box a iha => intro r hr; exact one (by decide) iha hr
  | dia a iha => intro r hr; exact one (by decide) iha hr
theorem mfed_of {A V : List Nat} {t : Tree} : Mfed A V (Fm.enc t) := by
  have := mfed_enc A V t [] (Mfed.nil_ A V)
  rwa [List.append_nil] at this
theorem mve_of {A V : List Nat} {t : Tree} : mve A V (Fm.enc t) = [mv A V t] := by
  have := mve_enc A V t []
  rwa [List.append_nil] at this
theorem mve_drop {A V : List Nat} {xs : List Nd} {i : Nat} (h : i < xs.length) : mve A V (xs.drop i) = mvs A V (kd xs i) (sy xs i) (mve A V (xs.drop (i + 1))) := by
  rw [List.drop_eq_getElem_cons h]
  show mvs A V (xs[i]).1 (xs[i]).2 _ = _
  simp [kd, sy, List.getD, h]
theorem mve_sm {A V : List Nat} (hV : ∀ m ∈ V, m < 2 ^ A.length) : ∀ xs : List Nd, ∀ m ∈ mve A V xs, m < 2 ^ A.length
  | [] => fun m h => absurd h (by simp [mve])
  | x :: xs => by
    have ih := mve_sm hV xs
    have hp : 0 < 2 ^ A.length := Nat.pow_pos (by omega)
    have hg : ∀ i, (mve A V xs).getD i 0 < 2 ^ A.length := by
      intro i
      by_cases h : i < (mve A V xs).length
      · simp only [List.getD_eq_getElem?_getD, List.getElem?_eq_getElem h, Option.getD_some]; exact ih _ (List.getElem_mem h)
      · rw [List.getD_eq_getElem?_getD, List.getElem?_eq_none (by omega)]; exact hp
    intro m hm
    have hm : m ∈ mvs A V x.1 x.2 (mve A V xs) := hm
    unfold mvs at hm
    repeat' split at hm
    all_goals rcases List.mem_cons.1 hm with rfl | hm
    · exact nt_lt hV
    · exact ih _ hm
    · exact Nat.and_lt_two_pow _ (hg 1)
    · exact ih _ (List.mem_of_mem_drop hm)
    · exact Nat.or_lt_two_pow (hg 0) (hg 1)
    · exact ih _ (List.mem_of_mem_drop hm)
    · exact Nat.or_lt_two_pow (dif_lt (full_lt _)) (hg 1)
    · exact ih _ (List.mem_of_mem_drop hm)
    · exact bx_lt _ _
    · exact ih _ (List.mem_of_mem_drop hm)
    · exact dif_lt (full_lt _)
    · exact ih _ (List.mem_of_mem_drop hm)
    · exact hp
    · exact ih _ hm
theorem enc_kinds_m (t : Tree) {i : Nat} (hi : i < (Fm.enc t).length) :
    (kd (Fm.enc t) i = 0 ∧ ∃ v : Nat, sy (Fm.enc t) i = (v : Int) ∧ v < 6) ∨ kd (Fm.enc t) i = 1 ∨ kd (Fm.enc t) i = 2 ∨ kd (Fm.enc t) i = 3 ∨ kd (Fm.enc t) i = 4 ∨ kd (Fm.enc t) i = 5 ∨ kd (Fm.enc t) i = 6 := by
  have h1 : kd (Fm.enc t) i = ((Fm.enc t)[i]).1 := by simp [kd, List.getD, hi]
  have h2 : sy (Fm.enc t) i = ((Fm.enc t)[i]).2 := by simp [sy, List.getD, hi]
  rw [h1, h2]
  exact enc_nd t _ (List.getElem_mem hi)
end Go.Proofs.YtjlnompmhgjaaaaGreat


/- truthSet of the program: a stack of sets of worlds. -/
namespace Go.Proofs.YtjlnompmhgjaaaaGreat
open Go.RowKit
open Fm (Nd Tree)

theorem frameAll_c (n : Nat) (v : Value) (w : World) (hv : ∃ A m c, v = .slice A m c) (hn : n ≤ 30) :
    Calls Tryz.prog 88 #[.agg #[.int .i64 (n : Int), v]] w fun e w' => e = .returned (.int .i64 ((full n : Nat) : Int)) ∧ Grew w w' := by
  have h1 := wrap_pow hn
  have h2 := pow30' hn
  have h3 : 0 < 2 ^ n := Nat.pow_pos (by omega)
  have hf := Lib.hid (full_cast n)
  have hg := (Grew.refl w).alloc (.cells #[.int .i64 (n : Int), v] 26)
  obtain ⟨A, m, c, rfl⟩ := hv
  generalize full n = F at *
  generalize (2 ^ n : Nat) = p at *
  go_enter Tryz.func88, Tryz.ntmps88
  go_wp2_with fail
  go_ret
  refine ⟨?_, hg⟩
  have hf := hf.out
  rw [hf]
  rfl
theorem popM_c (b : Nat) (x : Nat) (st : List Nat) (B : Nat) (w : World) (h : Stk w b B (x :: st)) (hb : b < B) :
    Calls Tryz.prog 89 #[.pointer (some ⟨b, 0, none⟩)] w fun e w' => e = .returned (.int .i64 (x : Int)) ∧ Stk w' b B st ∧ Only b w w' := by
  obtain ⟨A, n, c, h1, h2⟩ := h
  rw [sk_cons] at h2
  obtain ⟨rfl, g, rfl, h3, h4, h5, h6, h7, h8⟩ := h2.pop
  have HE := Lib.hid (show ∀ v, w.heap[b]? = some (.cells #[v] 24 (0, 0)) → (Only b w (w.setCell ⟨b, 0, none⟩ (.slice (some ⟨g, 0, none⟩) (sk st).length c)) ∧ Stk (w.setCell ⟨b, 0, none⟩ (.slice (some ⟨g, 0, none⟩) (sk st).length c)) b B st) from fun v hv =>
    ⟨(Only.refl b w).setCell _, _, _, _, blk_set hv 0 _, own_only h8 ((Only.refl b w).setCell _) (fun he => by have := own_of_ge h8 he; omega)⟩)
  have HE := HE.out _ h1
  have HE := Lib.hid HE
  have k0 : w.cell? ⟨b, 0, none⟩ = some (.slice (some ⟨g, 0, none⟩) ((sk st).length + 1) c) := by rw [blk_cell h1]; rfl
  have f0 := blk_frozen h1 0
  clear h1 h2 h8
  generalize (sk st).length = m at *
  go_enter Tryz.func89, Tryz.ntmps89
  go_wp2_with fail
  go_ret
  exact ⟨rfl, HE.out.2, HE.out.1⟩
theorem one_at {st : List Nat} (h : 1 ≤ st.length) : ∃ x r, st = x :: r := by
  match st, h with
  | x :: r, _ => exact ⟨x, r, rfl⟩
set_option maxHeartbeats 4000000 in
set_option maxRecDepth 4096 in
theorem truthSet_c (v u va : Value) (A V : List Nat) (t : Tree) (w : World) (h : Ints w v (zs A)) (hu : Ints w u (zs V)) (ha : Nodes w va (Fm.enc t)) (hA : Rl A) (hV : ∀ m ∈ V, m < 2 ^ A.length) (hl : V.length = 6) (ht : (Fm.enc t).length ≤ 1048576) :
    Calls Tryz.prog 53 #[.agg #[.int .i64 (A.length : Int), v], u, va] w fun e w' => e = .returned (.int .i64 ((mv A V t : Nat) : Int)) ∧ Grew w w' := by
  have hsm : ∀ m, m < 2 ^ A.length → m < 1073741824 := fun m hm => Nat.lt_of_lt_of_le hm (pow30' hA.1)
  have HSM := Lib.hid (fun i m (hm : m ∈ mve A V ((Fm.enc t).drop i)) => hsm m (mve_sm hV _ m hm))
  have HFED := Lib.hid (mfed_of (A := A) (V := V) (t := t))
  have HEND := Lib.hid (mve_of (A := A) (V := V) (t := t))
  have HDR := Lib.hid (fun i (hi : i < (Fm.enc t).length) => mve_drop (A := A) (V := V) hi)
  have HK := Lib.hid (fun i (hi : i < (Fm.enc t).length) => enc_kinds_m t hi)
  have HLEN := Lib.hid (fun i => show (mve A V ((Fm.enc t).drop i)).length ≤ 1048576 from by
    have hle : ∀ xs : List Nd, (mve A V xs).length ≤ xs.length := by
      intro xs
      induction xs with
      | nil => simp [mve]
      | cons x xs ih =>
        show (mvs A V x.1 x.2 (mve A V xs)).length ≤ _
        unfold mvs
        repeat' split
        all_goals simp only [List.length_cons, List.length_drop]; omega
    have := hle ((Fm.enc t).drop i)
    rw [List.length_drop] at this
    omega)
  have hend0 : mve A V ((Fm.enc t).drop (Fm.enc t).length) = [] := by rw [List.drop_length]; rfl
  have HFU := Lib.hid (show full A.length < 1073741824 from hsm _ (full_lt _))
  have KBX := Lib.hid (fun m W (hW : Grew w W) hm => box_q v A m W (h.grew hW) hA.sm hA.1 hm)
  have KAL := Lib.hid (fun W hv => frameAll_c A.length v W hv hA.1)
  have HBL := Lib.hid (fun m => hsm _ (bx_lt A m))
  have hpos := Fm.enc_pos t
  obtain ⟨A', c, rfl⟩ := ints_sliceN h
  obtain ⟨AU, cu, rfl⟩ := ints_sliceN hu
  have KAL := Lib.hid (fun W => KAL.out W ⟨_, _, _, rfl⟩)
  have HCU := Lib.hid (cellsN hu (by omega))
  rw [hl] at HCU
  clear h hu hA hV hsm
  rcases ha.open_ with ⟨rfl, h0⟩ | ⟨ba, oa, ca, rfl, hca, hcm, hbl, hcell⟩
  · rw [h0] at hpos; simp at hpos
  have HNC := Lib.hid hcell
  clear hcell ha
  have HEND0 := Lib.hid hend0
  clear hend0
  rw [hl]
  clear hl
  generalize mv A V t = R at *
  generalize Fm.enc t = xs at *
  have HMI := Lib.hid (fun k s x y st (h : k = 4) => @mvs_imp A V k s x y st h)
  have HMD := Lib.hid (fun k s x st (h : k = 6) => @mvs_dia A V k s x st h)
  generalize full A.length = FU at *
  generalize A.length = NA at *
  generalize hnx : xs.length = n at *
  replace hnx := Lib.hid hnx
  obtain ⟨bu, ou, rfl, hcu⟩ := HCU.out
  have HCU := Lib.hid hcu
  clear hcu
  obtain ⟨w1, hw1⟩ : ∃ w1, w1 = w.alloc (.cells #[.int .i64 (NA : Int), .slice A' NA c] 26) := ⟨_, rfl⟩
  have hg1 : Grew w w1 := by rw [hw1]; exact (Grew.refl w).alloc _
  have hs1 : w1.heap.size = w.heap.size + 1 := by rw [hw1]; simp
  have hb0 : w1.heap[w.heap.size]? = some (.cells #[.int .i64 (NA : Int), .slice A' NA c] 26 (0, 0)) := by rw [hw1]; exact blk_new w _
  have e0 : w1.cell? ⟨w.heap.size, 0, none⟩ = some (.int .i64 (NA : Int)) := by rw [blk_cell hb0]; rfl
  have e1 : w1.cell? ⟨w.heap.size, 1, none⟩ = some (.slice A' NA c) := by rw [blk_cell hb0]; rfl
  have npos : (1 : Int) ≤ n := by omega
  go_enter Tryz.func53, Tryz.ntmps53
  go_wp2_with fail
  simp only [← hw1]
  clear hw1
  refine (KAL.out _).mono ?_
  rintro e w2 ⟨rfl, hg2⟩
  have hbs : w.heap.size < w2.heap.size := by have := hg2.size; omega
  obtain ⟨w3, hw3⟩ : ∃ w3, w3 = w2.alloc (.cells #[.slice none 0 0] 24) := ⟨_, rfl⟩
  have hg3 : Grew w2 w3 := by rw [hw3]; exact (Grew.refl w2).alloc _
  have hs3 : w3.heap.size = w2.heap.size + 1 := by rw [hw3]; simp
  have hb3 : w3.heap[w2.heap.size]? = some (.cells #[.slice none 0 0] 24 (0, 0)) := by rw [hw3]; exact blk_new w2 _
  have hb4 := ((hg2.trans hg3).block (blk_lt hb0)).trans hb0
  have hstk : Stk w3 (w2.heap.size) (w2.heap.size + 1) (mve A V (xs.drop n)) := by rw [HEND0.out]; exact ⟨_, _, _, hb3, OwnI.nil_ _ _⟩
  have HST := Lib.hid hstk
  have HB0 := Lib.hid hb4
  have HG1 := Lib.hid (hg1.trans (hg2.trans hg3))
  have HS1 := Lib.hid hs3
  clear hb0 hb3 hb4 hg1 hg2 hg3 hstk hs1 hs3 e0 e1
  go_wp2_with fail
  simp only [← hw3]
  clear hw3
  go_loopw [10, 11] (fun i _ wr => ∃ k : Nat, k ≤ n ∧ i = .int .i64 ((k : Int) - 1) ∧ Hid (wr.heap[w.heap.size]? = some (.cells #[.int .i64 (NA : Int), .slice A' NA c] 26 (0, 0))) ∧ Hid (Stk wr (w2.heap.size) (w2.heap.size + 1) (mve A V (xs.drop k))) ∧ Hid (Grew w wr) ∧ Hid (w2.heap.size + 1 ≤ wr.heap.size)) (fun i _ _ => ((intOf i) + 1).toNat)
  case atStart => exact ⟨n, Nat.le_refl _, rfl, HB0, HST, HG1, Lib.hid (by rw [HS1.out]; omega)⟩
  case round =>
    obtain ⟨k, hk, rfl, HP, HK0, HG, HZ⟩ := hrel
    cases k with
    | zero =>
      obtain ⟨AS, nS, cS, hb, hO⟩ := HK0.out
      have hO2 : OwnI wr (w2.heap.size + 1) (.slice AS nS cS) ([] ++ [((R : Nat) : Int)]) := by
        have e : sk (mve A V (xs.drop 0)) = [] ++ [((R : Nat) : Int)] := by rw [List.drop_zero, HEND.out]; rfl
        rw [e] at hO; exact hO
      obtain ⟨rfl, g, rfl, q1, q2, q3, q4, q5, q6⟩ := hO2.pop
      have k0 : wr.cell? ⟨w2.heap.size, 0, none⟩ = some (.slice (some ⟨g, 0, none⟩) 1 cS) := by rw [blk_cell hb]; rfl
      have q5 : wr.cell? ⟨g, 0, none⟩ = some (.int .i64 ((R : Nat) : Int)) := q5
      clear hb hO hO2 q6 q3
      go_wp2_with fail
      go_ret
      exact ⟨rfl, HG.out⟩
    | succ k =>
      have ei : (((k + 1 : Nat) : Int) - 1) = (k : Int) := by omega
      rw [ei]
      have hkx : k < xs.length := by rw [hnx.out]; omega
      have hlt : (k : Int) < (n : Int) := by omega
      obtain ⟨c0, c1⟩ := HNC.out k (by omega) _ HG.out
      have hdr := HDR.out k (by omega)
      have hbS := HK0.out
      have hL1 := HLEN.out (k + 1)
      have hF := HFED.out k hkx
      have hSM := fun m hm => HSM.out (k + 1) m hm
      clear hkx
      generalize mve A V (xs.drop (k + 1)) = st at *
      have HDRK := Lib.hid hdr
      have HL1 := Lib.hid hL1
      have HF := Lib.hid hF
      have HSMK := Lib.hid hSM
      have HBS := Lib.hid hbS
      clear hdr hL1 hF hSM hbS
      rcases HK.out k (by omega) with ⟨hkd, s, hsy, hs6⟩ | hkd | hkd | hkd | hkd | hkd | hkd
      · have he : mve A V (xs.drop k) = nt V s :: st := HDRK.out.trans (mvs_var hkd hsy)
        have hu1 := HCU.out s (by omega) _ HG.out
        rw [hkd] at c0
        rw [hsy] at c1
        clear hkd hsy
        have HEK := Lib.hid he
        clear he
        generalize nt V s = y at *
        obtain ⟨AS, nS, cS, hb, hO⟩ := HBS.out
        have k7 : wr.cell? ⟨w2.heap.size, 0, none⟩ = some (.slice AS nS cS) := by rw [blk_cell hb]; rfl
        have k7' : ∀ o, (wr.alloc o).cell? ⟨w2.heap.size, 0, none⟩ = some (.slice AS nS cS) := fun o => by rw [blk_cell ((((Grew.refl wr).alloc o).block (blk_lt hb)).trans hb)]; rfl
        have HBT := Lib.hid hb
        have HOT := Lib.hid hO
        have HZA := Lib.hid (fun o : Obj => (Nat.le_trans HZ.out (((Grew.refl wr).alloc o).size) : w2.heap.size + 1 ≤ (wr.alloc o).heap.size))
        have HOA := Lib.hid (fun o : Obj => (hO.grew ((Grew.refl wr).alloc o) : OwnI (wr.alloc o) (w2.heap.size + 1) (.slice AS nS cS) (sk st)))
        clear hb hO
        go_wp2_with (first
          | (at_builtin
             refine wpList_appB (w2.heap.size + 1) _ _ rfl rfl (.slice AS nS cS) (sk st) rfl (HOA.out _) (HZA.out _) (.slice (some ⟨wr.heap.size, 0, none⟩) 1 1) ((y : Nat) : Int) rfl (rd_litI wr _ _) (by rw [sk_len]; exact HL1.out) ?_
             intro v8 w8 hown8 hg8
             obtain ⟨A8, c8, rfl⟩ := ints_slice hown8.ints
             rw [List.length_append, List.length_singleton] at hown8
             have hne8 : some (w2.heap.size) ≠ (Value.slice AS nS cS).ownBlock := fun he => by have := own_of_ge HOT.out he.symm; omega
             have hne9 : some w.heap.size ≠ (Value.slice AS nS cS).ownBlock := fun he => by have := own_of_ge HOT.out he.symm; omega
             have hb8 := (hg8.block _ (Nat.lt_of_lt_of_le (show w2.heap.size < w2.heap.size + 1 by omega) (HZA.out _)) hne8).trans ((((Grew.refl wr).alloc _).block (blk_lt HBT.out)).trans HBT.out)
             have hp8 := (hg8.block _ (Nat.lt_of_lt_of_le (show w.heap.size < w2.heap.size + 1 by omega) (HZA.out _)) hne9).trans ((((Grew.refl wr).alloc _).block (blk_lt HP.out)).trans HP.out)
             have k8 : w8.cell? ⟨w2.heap.size, 0, none⟩ = some (.slice AS nS cS) := by rw [blk_cell hb8]; rfl
             have f8 := blk_frozen hb8 0
             have hG8 : Grew w w8 := (HG.out.alloc _).grown hg8 (fun g hg => by have := own_of_ge HOT.out hg; omega)
             have hz8 : w2.heap.size + 1 ≤ w8.heap.size := Nat.le_trans (HZA.out _) hg8.size
             have HFIN := Lib.hid (show Hid ((w8.setCell ⟨w2.heap.size, 0, none⟩ (.slice A8 ((sk st).length + 1) c8)).heap[w.heap.size]? = some (.cells #[.int .i64 (NA : Int), .slice A' NA c] 26 (0, 0))) ∧ Hid (Stk (w8.setCell ⟨w2.heap.size, 0, none⟩ (.slice A8 ((sk st).length + 1) c8)) (w2.heap.size) (w2.heap.size + 1) (mve A V (xs.drop k))) ∧ Hid (Grew w (w8.setCell ⟨w2.heap.size, 0, none⟩ (.slice A8 ((sk st).length + 1) c8))) ∧ Hid (w2.heap.size + 1 ≤ (w8.setCell ⟨w2.heap.size, 0, none⟩ (.slice A8 ((sk st).length + 1) c8)).heap.size) from by
               have hon : Only (w2.heap.size) w8 (w8.setCell ⟨w2.heap.size, 0, none⟩ (.slice A8 ((sk st).length + 1) c8)) := (Only.refl _ _).setCell _
               refine ⟨Lib.hid ((hon.block (by omega) (by omega)).trans hp8), Lib.hid ⟨_, _, _, blk_set hb8 0 _, ?_⟩, Lib.hid (hG8.setCell (show w.heap.size ≤ w2.heap.size by omega) _), Lib.hid (Nat.le_trans hz8 hon.size)⟩
               rw [HEK.out, sk_cons]
               exact own_only hown8 hon (fun he => by have := own_of_ge hown8 he; omega))
             clear hb8 hp8 hG8 hz8 hown8 hg8 hne8 hne9 k7 k7'))
        go_roundw
        case rel => exact ⟨k, by omega, rfl, HFIN.out⟩
        case measure => simp [intOf] <;> omega
      · have he : mve A V (xs.drop k) = 0 :: st := HDRK.out.trans (mvs_fls hkd)
        rw [hkd] at c0
        clear hkd c1
        have HEK := Lib.hid he
        clear he
        obtain ⟨AS, nS, cS, hb, hO⟩ := HBS.out
        have k7 : wr.cell? ⟨w2.heap.size, 0, none⟩ = some (.slice AS nS cS) := by rw [blk_cell hb]; rfl
        have k7' : ∀ o, (wr.alloc o).cell? ⟨w2.heap.size, 0, none⟩ = some (.slice AS nS cS) := fun o => by rw [blk_cell ((((Grew.refl wr).alloc o).block (blk_lt hb)).trans hb)]; rfl
        have HBT := Lib.hid hb
        have HOT := Lib.hid hO
        have HZA := Lib.hid (fun o : Obj => (Nat.le_trans HZ.out (((Grew.refl wr).alloc o).size) : w2.heap.size + 1 ≤ (wr.alloc o).heap.size))
        have HOA := Lib.hid (fun o : Obj => (hO.grew ((Grew.refl wr).alloc o) : OwnI (wr.alloc o) (w2.heap.size + 1) (.slice AS nS cS) (sk st)))
        clear hb hO
        go_wp2_with (first
          | (at_builtin
             refine wpList_appB (w2.heap.size + 1) _ _ rfl rfl (.slice AS nS cS) (sk st) rfl (HOA.out _) (HZA.out _) (.slice (some ⟨wr.heap.size, 0, none⟩) 1 1) ((0 : Nat) : Int) rfl (rd_litI wr _ _) (by rw [sk_len]; exact HL1.out) ?_
             intro v8 w8 hown8 hg8
             obtain ⟨A8, c8, rfl⟩ := ints_slice hown8.ints
             rw [List.length_append, List.length_singleton] at hown8
             have hne8 : some (w2.heap.size) ≠ (Value.slice AS nS cS).ownBlock := fun he => by have := own_of_ge HOT.out he.symm; omega
             have hne9 : some w.heap.size ≠ (Value.slice AS nS cS).ownBlock := fun he => by have := own_of_ge HOT.out he.symm; omega
             have hb8 := (hg8.block _ (Nat.lt_of_lt_of_le (show w2.heap.size < w2.heap.size + 1 by omega) (HZA.out _)) hne8).trans ((((Grew.refl wr).alloc _).block (blk_lt HBT.out)).trans HBT.out)
             have hp8 := (hg8.block _ (Nat.lt_of_lt_of_le (show w.heap.size < w2.heap.size + 1 by omega) (HZA.out _)) hne9).trans ((((Grew.refl wr).alloc _).block (blk_lt HP.out)).trans HP.out)
             have k8 : w8.cell? ⟨w2.heap.size, 0, none⟩ = some (.slice AS nS cS) := by rw [blk_cell hb8]; rfl
             have f8 := blk_frozen hb8 0
             have hG8 : Grew w w8 := (HG.out.alloc _).grown hg8 (fun g hg => by have := own_of_ge HOT.out hg; omega)
             have hz8 : w2.heap.size + 1 ≤ w8.heap.size := Nat.le_trans (HZA.out _) hg8.size
             have HFIN := Lib.hid (show Hid ((w8.setCell ⟨w2.heap.size, 0, none⟩ (.slice A8 ((sk st).length + 1) c8)).heap[w.heap.size]? = some (.cells #[.int .i64 (NA : Int), .slice A' NA c] 26 (0, 0))) ∧ Hid (Stk (w8.setCell ⟨w2.heap.size, 0, none⟩ (.slice A8 ((sk st).length + 1) c8)) (w2.heap.size) (w2.heap.size + 1) (mve A V (xs.drop k))) ∧ Hid (Grew w (w8.setCell ⟨w2.heap.size, 0, none⟩ (.slice A8 ((sk st).length + 1) c8))) ∧ Hid (w2.heap.size + 1 ≤ (w8.setCell ⟨w2.heap.size, 0, none⟩ (.slice A8 ((sk st).length + 1) c8)).heap.size) from by
               have hon : Only (w2.heap.size) w8 (w8.setCell ⟨w2.heap.size, 0, none⟩ (.slice A8 ((sk st).length + 1) c8)) := (Only.refl _ _).setCell _
               refine ⟨Lib.hid ((hon.block (by omega) (by omega)).trans hp8), Lib.hid ⟨_, _, _, blk_set hb8 0 _, ?_⟩, Lib.hid (hG8.setCell (show w.heap.size ≤ w2.heap.size by omega) _), Lib.hid (Nat.le_trans hz8 hon.size)⟩
               rw [HEK.out, sk_cons]
               exact own_only hown8 hon (fun he => by have := own_of_ge hown8 he; omega))
             clear hb8 hp8 hG8 hz8 hown8 hg8 hne8 hne9 k7 k7'))
        go_roundw
        case rel => exact ⟨k, by omega, rfl, HFIN.out⟩
        case measure => simp [intOf] <;> omega
      · obtain ⟨x, y, r, rfl⟩ := two_at (HF.out.1 (.inl hkd))
        have he : mve A V (xs.drop k) = (x &&& y) :: r := HDRK.out.trans (mvs_and hkd)
        have hx := HSMK.out x (by simp)
        have hy := HSMK.out y (by simp)
        have hxy := and_i64 x y (by omega) (by omega)
        have hlr : r.length ≤ 1048576 := by have := HL1.out; simp only [List.length_cons] at this; omega
        rw [hkd] at c0
        clear hkd c1 hx hy
        have HEK := Lib.hid he
        clear he
        generalize (x &&& y : Nat) = z at *
        have HP1 := Lib.hid (popM_c (w2.heap.size) x (y :: r) (w2.heap.size + 1) wr HBS.out (by omega))
        have HP2 := Lib.hid (fun W hW => popM_c (w2.heap.size) y r (w2.heap.size + 1) W hW (by omega))
        go_wp2_with fail
        refine HP1.out.mono ?_
        rintro e wa ⟨rfl, hS2, hO2⟩
        have hp2 := (hO2.block (blk_lt HP.out) (by omega)).trans HP.out
        have hG2 := hO2.grew_of HG.out (by omega)
        have hz2 := hO2.size
        clear hO2
        go_wp2_with fail
        refine (HP2.out _ hS2).mono ?_
        rintro e wb ⟨rfl, hS3, hO3⟩
        have hp3 := (hO3.block (blk_lt hp2) (by omega)).trans hp2
        have hG3 := hO3.grew_of hG2 (by omega)
        have hz3 := hO3.size
        have HG3 := Lib.hid hG3
        have HP3 := Lib.hid hp3
        have HZ3 := Lib.hid (Nat.le_trans HZ.out (Nat.le_trans hz2 hz3))
        have HS3 := Lib.hid hS3
        clear hO3 hS2 hS3 hp2 hp3 hG2 hG3 hz2 hz3 HBS HP HG HZ
        obtain ⟨AS, nS, cS, hb, hO⟩ := HS3.out
        have k7 : wb.cell? ⟨w2.heap.size, 0, none⟩ = some (.slice AS nS cS) := by rw [blk_cell hb]; rfl
        have k7' : ∀ o, (wb.alloc o).cell? ⟨w2.heap.size, 0, none⟩ = some (.slice AS nS cS) := fun o => by rw [blk_cell ((((Grew.refl wb).alloc o).block (blk_lt hb)).trans hb)]; rfl
        have HBT := Lib.hid hb
        have HOT := Lib.hid hO
        have HZA := Lib.hid (fun o : Obj => (Nat.le_trans HZ3.out (((Grew.refl wb).alloc o).size) : w2.heap.size + 1 ≤ (wb.alloc o).heap.size))
        have HOA := Lib.hid (fun o : Obj => (hO.grew ((Grew.refl wb).alloc o) : OwnI (wb.alloc o) (w2.heap.size + 1) (.slice AS nS cS) (sk r)))
        clear hb hO
        go_wp2_with (first
          | (at_builtin
             refine wpList_appB (w2.heap.size + 1) _ _ rfl rfl (.slice AS nS cS) (sk r) rfl (HOA.out _) (HZA.out _) (.slice (some ⟨wb.heap.size, 0, none⟩) 1 1) ((z : Nat) : Int) rfl (rd_litI wb _ _) (by rw [sk_len]; exact hlr) ?_
             intro v8 w8 hown8 hg8
             obtain ⟨A8, c8, rfl⟩ := ints_slice hown8.ints
             rw [List.length_append, List.length_singleton] at hown8
             have hne8 : some (w2.heap.size) ≠ (Value.slice AS nS cS).ownBlock := fun he => by have := own_of_ge HOT.out he.symm; omega
             have hne9 : some w.heap.size ≠ (Value.slice AS nS cS).ownBlock := fun he => by have := own_of_ge HOT.out he.symm; omega
             have hb8 := (hg8.block _ (Nat.lt_of_lt_of_le (show w2.heap.size < w2.heap.size + 1 by omega) (HZA.out _)) hne8).trans ((((Grew.refl wb).alloc _).block (blk_lt HBT.out)).trans HBT.out)
             have hp8 := (hg8.block _ (Nat.lt_of_lt_of_le (show w.heap.size < w2.heap.size + 1 by omega) (HZA.out _)) hne9).trans ((((Grew.refl wb).alloc _).block (blk_lt HP3.out)).trans HP3.out)
             have k8 : w8.cell? ⟨w2.heap.size, 0, none⟩ = some (.slice AS nS cS) := by rw [blk_cell hb8]; rfl
             have f8 := blk_frozen hb8 0
             have hG8 : Grew w w8 := (HG3.out.alloc _).grown hg8 (fun g hg => by have := own_of_ge HOT.out hg; omega)
             have hz8 : w2.heap.size + 1 ≤ w8.heap.size := Nat.le_trans (HZA.out _) hg8.size
             have HFIN := Lib.hid (show Hid ((w8.setCell ⟨w2.heap.size, 0, none⟩ (.slice A8 ((sk r).length + 1) c8)).heap[w.heap.size]? = some (.cells #[.int .i64 (NA : Int), .slice A' NA c] 26 (0, 0))) ∧ Hid (Stk (w8.setCell ⟨w2.heap.size, 0, none⟩ (.slice A8 ((sk r).length + 1) c8)) (w2.heap.size) (w2.heap.size + 1) (mve A V (xs.drop k))) ∧ Hid (Grew w (w8.setCell ⟨w2.heap.size, 0, none⟩ (.slice A8 ((sk r).length + 1) c8))) ∧ Hid (w2.heap.size + 1 ≤ (w8.setCell ⟨w2.heap.size, 0, none⟩ (.slice A8 ((sk r).length + 1) c8)).heap.size) from by
               have hon : Only (w2.heap.size) w8 (w8.setCell ⟨w2.heap.size, 0, none⟩ (.slice A8 ((sk r).length + 1) c8)) := (Only.refl _ _).setCell _
               refine ⟨Lib.hid ((hon.block (by omega) (by omega)).trans hp8), Lib.hid ⟨_, _, _, blk_set hb8 0 _, ?_⟩, Lib.hid (hG8.setCell (show w.heap.size ≤ w2.heap.size by omega) _), Lib.hid (Nat.le_trans hz8 hon.size)⟩
               rw [HEK.out, sk_cons]
               exact own_only hown8 hon (fun he => by have := own_of_ge hown8 he; omega))
             clear hb8 hp8 hG8 hz8 hown8 hg8 hne8 hne9 k7 k7'))
        go_roundw
        case rel => exact ⟨k, by omega, rfl, HFIN.out⟩
        case measure => simp [intOf] <;> omega
      · obtain ⟨x, y, r, rfl⟩ := two_at (HF.out.1 (.inr (.inl hkd)))
        have he : mve A V (xs.drop k) = (x ||| y) :: r := HDRK.out.trans (mvs_or hkd)
        have hx := HSMK.out x (by simp)
        have hy := HSMK.out y (by simp)
        have hxy := or_i64 x y (by omega) (by omega)
        have hlr : r.length ≤ 1048576 := by have := HL1.out; simp only [List.length_cons] at this; omega
        rw [hkd] at c0
        clear hkd c1 hx hy
        have HEK := Lib.hid he
        clear he
        generalize (x ||| y : Nat) = z at *
        have HP1 := Lib.hid (popM_c (w2.heap.size) x (y :: r) (w2.heap.size + 1) wr HBS.out (by omega))
        have HP2 := Lib.hid (fun W hW => popM_c (w2.heap.size) y r (w2.heap.size + 1) W hW (by omega))
        go_wp2_with fail
        refine HP1.out.mono ?_
        rintro e wa ⟨rfl, hS2, hO2⟩
        have hp2 := (hO2.block (blk_lt HP.out) (by omega)).trans HP.out
        have hG2 := hO2.grew_of HG.out (by omega)
        have hz2 := hO2.size
        clear hO2
        go_wp2_with fail
        refine (HP2.out _ hS2).mono ?_
        rintro e wb ⟨rfl, hS3, hO3⟩
        have hp3 := (hO3.block (blk_lt hp2) (by omega)).trans hp2
        have hG3 := hO3.grew_of hG2 (by omega)
        have hz3 := hO3.size
        have HG3 := Lib.hid hG3
        have HP3 := Lib.hid hp3
        have HZ3 := Lib.hid (Nat.le_trans HZ.out (Nat.le_trans hz2 hz3))
        have HS3 := Lib.hid hS3
        clear hO3 hS2 hS3 hp2 hp3 hG2 hG3 hz2 hz3 HBS HP HG HZ
        obtain ⟨AS, nS, cS, hb, hO⟩ := HS3.out
        have k7 : wb.cell? ⟨w2.heap.size, 0, none⟩ = some (.slice AS nS cS) := by rw [blk_cell hb]; rfl
        have k7' : ∀ o, (wb.alloc o).cell? ⟨w2.heap.size, 0, none⟩ = some (.slice AS nS cS) := fun o => by rw [blk_cell ((((Grew.refl wb).alloc o).block (blk_lt hb)).trans hb)]; rfl
        have HBT := Lib.hid hb
        have HOT := Lib.hid hO
        have HZA := Lib.hid (fun o : Obj => (Nat.le_trans HZ3.out (((Grew.refl wb).alloc o).size) : w2.heap.size + 1 ≤ (wb.alloc o).heap.size))
        have HOA := Lib.hid (fun o : Obj => (hO.grew ((Grew.refl wb).alloc o) : OwnI (wb.alloc o) (w2.heap.size + 1) (.slice AS nS cS) (sk r)))
        clear hb hO
        go_wp2_with (first
          | (at_builtin
             refine wpList_appB (w2.heap.size + 1) _ _ rfl rfl (.slice AS nS cS) (sk r) rfl (HOA.out _) (HZA.out _) (.slice (some ⟨wb.heap.size, 0, none⟩) 1 1) ((z : Nat) : Int) rfl (rd_litI wb _ _) (by rw [sk_len]; exact hlr) ?_
             intro v8 w8 hown8 hg8
             obtain ⟨A8, c8, rfl⟩ := ints_slice hown8.ints
             rw [List.length_append, List.length_singleton] at hown8
             have hne8 : some (w2.heap.size) ≠ (Value.slice AS nS cS).ownBlock := fun he => by have := own_of_ge HOT.out he.symm; omega
             have hne9 : some w.heap.size ≠ (Value.slice AS nS cS).ownBlock := fun he => by have := own_of_ge HOT.out he.symm; omega
             have hb8 := (hg8.block _ (Nat.lt_of_lt_of_le (show w2.heap.size < w2.heap.size + 1 by omega) (HZA.out _)) hne8).trans ((((Grew.refl wb).alloc _).block (blk_lt HBT.out)).trans HBT.out)
             have hp8 := (hg8.block _ (Nat.lt_of_lt_of_le (show w.heap.size < w2.heap.size + 1 by omega) (HZA.out _)) hne9).trans ((((Grew.refl wb).alloc _).block (blk_lt HP3.out)).trans HP3.out)
             have k8 : w8.cell? ⟨w2.heap.size, 0, none⟩ = some (.slice AS nS cS) := by rw [blk_cell hb8]; rfl
             have f8 := blk_frozen hb8 0
             have hG8 : Grew w w8 := (HG3.out.alloc _).grown hg8 (fun g hg => by have := own_of_ge HOT.out hg; omega)
             have hz8 : w2.heap.size + 1 ≤ w8.heap.size := Nat.le_trans (HZA.out _) hg8.size
             have HFIN := Lib.hid (show Hid ((w8.setCell ⟨w2.heap.size, 0, none⟩ (.slice A8 ((sk r).length + 1) c8)).heap[w.heap.size]? = some (.cells #[.int .i64 (NA : Int), .slice A' NA c] 26 (0, 0))) ∧ Hid (Stk (w8.setCell ⟨w2.heap.size, 0, none⟩ (.slice A8 ((sk r).length + 1) c8)) (w2.heap.size) (w2.heap.size + 1) (mve A V (xs.drop k))) ∧ Hid (Grew w (w8.setCell ⟨w2.heap.size, 0, none⟩ (.slice A8 ((sk r).length + 1) c8))) ∧ Hid (w2.heap.size + 1 ≤ (w8.setCell ⟨w2.heap.size, 0, none⟩ (.slice A8 ((sk r).length + 1) c8)).heap.size) from by
               have hon : Only (w2.heap.size) w8 (w8.setCell ⟨w2.heap.size, 0, none⟩ (.slice A8 ((sk r).length + 1) c8)) := (Only.refl _ _).setCell _
               refine ⟨Lib.hid ((hon.block (by omega) (by omega)).trans hp8), Lib.hid ⟨_, _, _, blk_set hb8 0 _, ?_⟩, Lib.hid (hG8.setCell (show w.heap.size ≤ w2.heap.size by omega) _), Lib.hid (Nat.le_trans hz8 hon.size)⟩
               rw [HEK.out, sk_cons]
               exact own_only hown8 hon (fun he => by have := own_of_ge hown8 he; omega))
             clear hb8 hp8 hG8 hz8 hown8 hg8 hne8 hne9 k7 k7'))
        go_roundw
        case rel => exact ⟨k, by omega, rfl, HFIN.out⟩
        case measure => simp [intOf] <;> omega
      · obtain ⟨x, y, r, rfl⟩ := two_at (HF.out.1 (.inr (.inr hkd)))
        have he : mve A V (xs.drop k) = (dif FU x ||| y) :: r := HDRK.out.trans (HMI.out _ _ _ _ _ hkd)
        have hx := HSMK.out x (by simp)
        have hy := HSMK.out y (by simp)
        have hfu := HFU.out
        have hdl := dif_le (a := FU) (b := x)
        have hxz := andNot_i64 FU x (by omega) (by omega)
        have hxy := or_i64 (dif FU x) y (by omega) (by omega)
        have hlr : r.length ≤ 1048576 := by have := HL1.out; simp only [List.length_cons] at this; omega
        rw [hkd] at c0
        clear hkd c1 hx hy hfu hdl
        have HEK := Lib.hid he
        clear he
        generalize (dif FU x ||| y : Nat) = z at *
        generalize dif FU x = d at *
        have HP1 := Lib.hid (popM_c (w2.heap.size) x (y :: r) (w2.heap.size + 1) wr HBS.out (by omega))
        have HP2 := Lib.hid (fun W hW => popM_c (w2.heap.size) y r (w2.heap.size + 1) W hW (by omega))
        go_wp2_with fail
        refine HP1.out.mono ?_
        rintro e wa ⟨rfl, hS2, hO2⟩
        have hp2 := (hO2.block (blk_lt HP.out) (by omega)).trans HP.out
        have hG2 := hO2.grew_of HG.out (by omega)
        have hz2 := hO2.size
        clear hO2
        go_wp2_with fail
        refine (HP2.out _ hS2).mono ?_
        rintro e wb ⟨rfl, hS3, hO3⟩
        have hp3 := (hO3.block (blk_lt hp2) (by omega)).trans hp2
        have hG3 := hO3.grew_of hG2 (by omega)
        have hz3 := hO3.size
        have HG3 := Lib.hid hG3
        have HP3 := Lib.hid hp3
        have HZ3 := Lib.hid (Nat.le_trans HZ.out (Nat.le_trans hz2 hz3))
        have HS3 := Lib.hid hS3
        clear hO3 hS2 hS3 hp2 hp3 hG2 hG3 hz2 hz3 HBS HP HG HZ
        obtain ⟨AS, nS, cS, hb, hO⟩ := HS3.out
        have k7 : wb.cell? ⟨w2.heap.size, 0, none⟩ = some (.slice AS nS cS) := by rw [blk_cell hb]; rfl
        have k7' : ∀ o, (wb.alloc o).cell? ⟨w2.heap.size, 0, none⟩ = some (.slice AS nS cS) := fun o => by rw [blk_cell ((((Grew.refl wb).alloc o).block (blk_lt hb)).trans hb)]; rfl
        have HBT := Lib.hid hb
        have HOT := Lib.hid hO
        have HZA := Lib.hid (fun o : Obj => (Nat.le_trans HZ3.out (((Grew.refl wb).alloc o).size) : w2.heap.size + 1 ≤ (wb.alloc o).heap.size))
        have HOA := Lib.hid (fun o : Obj => (hO.grew ((Grew.refl wb).alloc o) : OwnI (wb.alloc o) (w2.heap.size + 1) (.slice AS nS cS) (sk r)))
        clear hb hO
        go_wp2_with (first
          | (at_builtin
             refine wpList_appB (w2.heap.size + 1) _ _ rfl rfl (.slice AS nS cS) (sk r) rfl (HOA.out _) (HZA.out _) (.slice (some ⟨wb.heap.size, 0, none⟩) 1 1) ((z : Nat) : Int) rfl (rd_litI wb _ _) (by rw [sk_len]; exact hlr) ?_
             intro v8 w8 hown8 hg8
             obtain ⟨A8, c8, rfl⟩ := ints_slice hown8.ints
             rw [List.length_append, List.length_singleton] at hown8
             have hne8 : some (w2.heap.size) ≠ (Value.slice AS nS cS).ownBlock := fun he => by have := own_of_ge HOT.out he.symm; omega
             have hne9 : some w.heap.size ≠ (Value.slice AS nS cS).ownBlock := fun he => by have := own_of_ge HOT.out he.symm; omega
             have hb8 := (hg8.block _ (Nat.lt_of_lt_of_le (show w2.heap.size < w2.heap.size + 1 by omega) (HZA.out _)) hne8).trans ((((Grew.refl wb).alloc _).block (blk_lt HBT.out)).trans HBT.out)
             have hp8 := (hg8.block _ (Nat.lt_of_lt_of_le (show w.heap.size < w2.heap.size + 1 by omega) (HZA.out _)) hne9).trans ((((Grew.refl wb).alloc _).block (blk_lt HP3.out)).trans HP3.out)
             have k8 : w8.cell? ⟨w2.heap.size, 0, none⟩ = some (.slice AS nS cS) := by rw [blk_cell hb8]; rfl
             have f8 := blk_frozen hb8 0
             have hG8 : Grew w w8 := (HG3.out.alloc _).grown hg8 (fun g hg => by have := own_of_ge HOT.out hg; omega)
             have hz8 : w2.heap.size + 1 ≤ w8.heap.size := Nat.le_trans (HZA.out _) hg8.size
             have HFIN := Lib.hid (show Hid ((w8.setCell ⟨w2.heap.size, 0, none⟩ (.slice A8 ((sk r).length + 1) c8)).heap[w.heap.size]? = some (.cells #[.int .i64 (NA : Int), .slice A' NA c] 26 (0, 0))) ∧ Hid (Stk (w8.setCell ⟨w2.heap.size, 0, none⟩ (.slice A8 ((sk r).length + 1) c8)) (w2.heap.size) (w2.heap.size + 1) (mve A V (xs.drop k))) ∧ Hid (Grew w (w8.setCell ⟨w2.heap.size, 0, none⟩ (.slice A8 ((sk r).length + 1) c8))) ∧ Hid (w2.heap.size + 1 ≤ (w8.setCell ⟨w2.heap.size, 0, none⟩ (.slice A8 ((sk r).length + 1) c8)).heap.size) from by
               have hon : Only (w2.heap.size) w8 (w8.setCell ⟨w2.heap.size, 0, none⟩ (.slice A8 ((sk r).length + 1) c8)) := (Only.refl _ _).setCell _
               refine ⟨Lib.hid ((hon.block (by omega) (by omega)).trans hp8), Lib.hid ⟨_, _, _, blk_set hb8 0 _, ?_⟩, Lib.hid (hG8.setCell (show w.heap.size ≤ w2.heap.size by omega) _), Lib.hid (Nat.le_trans hz8 hon.size)⟩
               rw [HEK.out, sk_cons]
               exact own_only hown8 hon (fun he => by have := own_of_ge hown8 he; omega))
             clear hb8 hp8 hG8 hz8 hown8 hg8 hne8 hne9 k7 k7'))
        go_roundw
        case rel => exact ⟨k, by omega, rfl, HFIN.out⟩
        case measure => simp [intOf] <;> omega
      · obtain ⟨x, r, rfl⟩ := one_at (HF.out.2 (.inl hkd))
        have he : mve A V (xs.drop k) = (bx A x) :: r := HDRK.out.trans (mvs_box hkd)
        have hx := HSMK.out x (by simp)
        have KBm := Lib.hid (fun W hW => KBX.out x W hW (by omega))
        have hlr : r.length ≤ 1048576 := by have := HL1.out; simp only [List.length_cons] at this; omega
        rw [hkd] at c0
        clear hkd c1 hx
        have HEK := Lib.hid he
        clear he
        generalize (bx A x : Nat) = z at *
        have HP1 := Lib.hid (fun W hW => popM_c (w2.heap.size) x r (w2.heap.size + 1) W hW (by omega))
        have HPw := Lib.hid HP.out
        have d0 : ∀ W, Only (w2.heap.size) wr W → W.cell? ⟨w.heap.size, 0, none⟩ = some (.int .i64 (NA : Int)) := fun W hW => by rw [blk_cell ((hW.block (blk_lt HPw.out) (by omega)).trans HPw.out)]; rfl
        have d1 : ∀ W, Only (w2.heap.size) wr W → W.cell? ⟨w.heap.size, 1, none⟩ = some (.slice A' NA c) := fun W hW => by rw [blk_cell ((hW.block (blk_lt HPw.out) (by omega)).trans HPw.out)]; rfl
        have ho2 : Only (w2.heap.size) wr wr := Only.refl _ _
        have ho2d : Only (w2.heap.size) wr wr.drew := ho2.drew
        have HSD : Hid (Stk wr.drew (w2.heap.size) (w2.heap.size + 1) (x :: r)) := Lib.hid (HBS.out.grew (Grew.refl _).drew)
        go_wp2_with fail
        refine wp_region_held_drew (S := fun w' => Only (w2.heap.size) wr w') (by kernel_rfl) ho2d (fun hHeld => ?_)
        refine wpAnyH_take (i := 0) (oi := ?on1) (v := ?vn1) ?hin1 ?an1 ?bn1 ?cn1 ?qn1 (Or.inl ⟨?dn1, ?hyn1⟩) hHeld ?restn1
        case hin1 => (simp only [List.getElem?_toArray, List.getElem?_cons_zero]; exact rfl)
        case an1 => kernel_rfl
        case bn1 => kernel_rfl
        case cn1 => kernel_rfl
        case qn1 => exact fun _ _ _ h => h
        case dn1 => rfl
        case hyn1 => (intro z hSw; (try dsimp only at hSw); go_simp; (try with_reducible rfl))
        try simp only [Act.put, List.setIfInBounds_toArray, List.set_cons_zero, List.set_cons_succ]
        refine wpAnyH_take (i := 1) (oi := ?on2) (v := ?vn2) ?hin2 ?an2 ?bn2 ?cn2 ?qn2 (Or.inl ⟨?dn2, ?hyn2⟩) hHeld ?restn2
        case hin2 => (simp only [List.getElem?_toArray, List.getElem?_cons_succ, List.getElem?_cons_zero]; exact rfl)
        case an2 => kernel_rfl
        case bn2 => kernel_rfl
        case cn2 => kernel_rfl
        case qn2 => exact fun _ _ _ h => h
        case dn2 => rfl
        case hyn2 => (intro z hSw; (try dsimp only at hSw); go_simp; (try with_reducible rfl))
        try simp only [Act.put, List.setIfInBounds_toArray, List.set_cons_zero, List.set_cons_succ]
        refine wpAnyH_take (i := 2) (oi := ?on3) (v := ?vn3) ?hin3 ?an3 ?bn3 ?cn3 ?qn3 (Or.inl ⟨?dn3, ?hyn3⟩) hHeld ?restn3
        case hin3 => (simp only [List.getElem?_toArray, List.getElem?_cons_succ, List.getElem?_cons_zero]; exact rfl)
        case an3 => kernel_rfl
        case bn3 => kernel_rfl
        case cn3 => kernel_rfl
        case qn3 => exact fun _ _ _ h => h
        case dn3 => rfl
        case hyn3 => (intro z hSw; (try dsimp only at hSw); go_simp; (try with_reducible rfl))
        try simp only [Act.put, List.setIfInBounds_toArray, List.set_cons_zero, List.set_cons_succ]
        refine wpAnyH_ready (rs := [3]) (by kernel_rfl) (by simp) ?_
        refine AllReadyH.cons (o := ?on4) ?hin4 ?restn4 AllReadyH.nil
        case hin4 => (simp only [List.getElem?_toArray, List.getElem?_cons_succ, List.getElem?_cons_zero]; exact rfl)
        intro K hK
        go_simp
        go_at_call 89
        refine (HP1.out _ HSD.out).mono ?_
        rintro e wb ⟨rfl, hS3, hO3⟩
        have ho3 : Only (w2.heap.size) wr wb := ho2d.trans hO3
        refine hK.out _ _ ?_ (fun hHeld => ?_)
        · (try dsimp only); first | with_reducible assumption | exact Grew.alloc ‹_› _
        clear hK K
        try simp only [Act.put, List.setIfInBounds_toArray, List.set_cons_zero, List.set_cons_succ]
        refine wpAnyH_ready (rs := [4]) (by kernel_rfl) (by simp) ?_
        refine AllReadyH.cons (o := ?on5) ?hin5 ?restn5 AllReadyH.nil
        case hin5 => (simp only [List.getElem?_toArray, List.getElem?_cons_succ, List.getElem?_cons_zero]; exact rfl)
        intro K hK
        go_simp
        go_at_call 90
        refine (KBm.out _ (ho3.grew_of HG.out (by omega))).mono ?_
        rintro e wc ⟨rfl, hwc⟩
        subst hwc
        refine hK.out _ _ ?_ (fun hHeld => ?_)
        · (try dsimp only); first | with_reducible assumption | exact Grew.alloc ‹_› _
        clear hK K
        try simp only [Act.put, List.setIfInBounds_toArray, List.set_cons_zero, List.set_cons_succ]
        refine wpAnyH_take (i := 5) (oi := ?on6) (v := ?vn6) ?hin6 ?an6 ?bn6 ?cn6 ?qn6 (Or.inl ⟨?dn6, ?hyn6⟩) hHeld ?restn6
        case hin6 => (simp only [List.getElem?_toArray, List.getElem?_cons_succ, List.getElem?_cons_zero]; exact rfl)
        case an6 => kernel_rfl
        case bn6 => kernel_rfl
        case cn6 => kernel_rfl
        case qn6 => exact fun _ _ _ h => h
        case dn6 => rfl
        case hyn6 => (intro z hSw; (try dsimp only at hSw); go_simp; (try with_reducible rfl))
        try simp only [Act.put, List.setIfInBounds_toArray, List.set_cons_zero, List.set_cons_succ]
        refine wpAnyH_done (by kernel_rfl) ?_ _
        have hp3 := (ho3.block (blk_lt HPw.out) (by omega)).trans HPw.out
        have HG3 := Lib.hid (ho3.grew_of HG.out (by omega))
        have HP3 := Lib.hid hp3
        have HZ3 := Lib.hid (Nat.le_trans HZ.out ho3.size)
        have HS3 := Lib.hid hS3
        clear hO3 hS3 hp3 HBS HP HG HZ HSD ho3 ho2 ho2d d0 d1 HPw
        obtain ⟨AS, nS, cS, hb, hO⟩ := HS3.out
        have k7 : wc.cell? ⟨w2.heap.size, 0, none⟩ = some (.slice AS nS cS) := by rw [blk_cell hb]; rfl
        have k7' : ∀ o, (wc.alloc o).cell? ⟨w2.heap.size, 0, none⟩ = some (.slice AS nS cS) := fun o => by rw [blk_cell ((((Grew.refl wc).alloc o).block (blk_lt hb)).trans hb)]; rfl
        have HBT := Lib.hid hb
        have HOT := Lib.hid hO
        have HZA := Lib.hid (fun o : Obj => (Nat.le_trans HZ3.out (((Grew.refl wc).alloc o).size) : w2.heap.size + 1 ≤ (wc.alloc o).heap.size))
        have HOA := Lib.hid (fun o : Obj => (hO.grew ((Grew.refl wc).alloc o) : OwnI (wc.alloc o) (w2.heap.size + 1) (.slice AS nS cS) (sk r)))
        clear hb hO
        go_wp2_with (first
          | (at_builtin
             refine wpList_appB (w2.heap.size + 1) _ _ rfl rfl (.slice AS nS cS) (sk r) rfl (HOA.out _) (HZA.out _) (.slice (some ⟨wc.heap.size, 0, none⟩) 1 1) ((z : Nat) : Int) rfl (rd_litI wc _ _) (by rw [sk_len]; exact hlr) ?_
             intro v8 w8 hown8 hg8
             obtain ⟨A8, c8, rfl⟩ := ints_slice hown8.ints
             rw [List.length_append, List.length_singleton] at hown8
             have hne8 : some (w2.heap.size) ≠ (Value.slice AS nS cS).ownBlock := fun he => by have := own_of_ge HOT.out he.symm; omega
             have hne9 : some w.heap.size ≠ (Value.slice AS nS cS).ownBlock := fun he => by have := own_of_ge HOT.out he.symm; omega
             have hb8 := (hg8.block _ (Nat.lt_of_lt_of_le (show w2.heap.size < w2.heap.size + 1 by omega) (HZA.out _)) hne8).trans ((((Grew.refl wc).alloc _).block (blk_lt HBT.out)).trans HBT.out)
             have hp8 := (hg8.block _ (Nat.lt_of_lt_of_le (show w.heap.size < w2.heap.size + 1 by omega) (HZA.out _)) hne9).trans ((((Grew.refl wc).alloc _).block (blk_lt HP3.out)).trans HP3.out)
             have k8 : w8.cell? ⟨w2.heap.size, 0, none⟩ = some (.slice AS nS cS) := by rw [blk_cell hb8]; rfl
             have f8 := blk_frozen hb8 0
             have hG8 : Grew w w8 := (HG3.out.alloc _).grown hg8 (fun g hg => by have := own_of_ge HOT.out hg; omega)
             have hz8 : w2.heap.size + 1 ≤ w8.heap.size := Nat.le_trans (HZA.out _) hg8.size
             have HFIN := Lib.hid (show Hid ((w8.setCell ⟨w2.heap.size, 0, none⟩ (.slice A8 ((sk r).length + 1) c8)).heap[w.heap.size]? = some (.cells #[.int .i64 (NA : Int), .slice A' NA c] 26 (0, 0))) ∧ Hid (Stk (w8.setCell ⟨w2.heap.size, 0, none⟩ (.slice A8 ((sk r).length + 1) c8)) (w2.heap.size) (w2.heap.size + 1) (mve A V (xs.drop k))) ∧ Hid (Grew w (w8.setCell ⟨w2.heap.size, 0, none⟩ (.slice A8 ((sk r).length + 1) c8))) ∧ Hid (w2.heap.size + 1 ≤ (w8.setCell ⟨w2.heap.size, 0, none⟩ (.slice A8 ((sk r).length + 1) c8)).heap.size) from by
               have hon : Only (w2.heap.size) w8 (w8.setCell ⟨w2.heap.size, 0, none⟩ (.slice A8 ((sk r).length + 1) c8)) := (Only.refl _ _).setCell _
               refine ⟨Lib.hid ((hon.block (by omega) (by omega)).trans hp8), Lib.hid ⟨_, _, _, blk_set hb8 0 _, ?_⟩, Lib.hid (hG8.setCell (show w.heap.size ≤ w2.heap.size by omega) _), Lib.hid (Nat.le_trans hz8 hon.size)⟩
               rw [HEK.out, sk_cons]
               exact own_only hown8 hon (fun he => by have := own_of_ge hown8 he; omega))
             clear hb8 hp8 hG8 hz8 hown8 hg8 hne8 hne9 k7 k7'))
        go_roundw
        case rel => exact ⟨k, by omega, rfl, HFIN.out⟩
        case measure => simp [intOf] <;> omega
      · obtain ⟨x, r, rfl⟩ := one_at (HF.out.2 (.inr hkd))
        have he : mve A V (xs.drop k) = (dif FU (bx A (dif FU x))) :: r := HDRK.out.trans (HMD.out _ _ _ _ hkd)
        have hx := HSMK.out x (by simp)
        have hfu := HFU.out
        have hdl := dif_le (a := FU) (b := x)
        have hdb := HBL.out (dif FU x)
        have hxz := andNot_i64 FU x (by omega) (by omega)
        have hxy := andNot_i64 FU (bx A (dif FU x)) (by omega) (by omega)
        have KBm := Lib.hid (fun W hW => KBX.out (dif FU x) W hW (by omega))
        have hlr : r.length ≤ 1048576 := by have := HL1.out; simp only [List.length_cons] at this; omega
        rw [hkd] at c0
        clear hkd c1 hx hfu hdl hdb
        have HEK := Lib.hid he
        clear he
        generalize (dif FU (bx A (dif FU x)) : Nat) = z at *
        generalize bx A (dif FU x) = b1 at *
        generalize dif FU x = d at *
        have HP1 := Lib.hid (fun W hW => popM_c (w2.heap.size) x r (w2.heap.size + 1) W hW (by omega))
        have HPw := Lib.hid HP.out
        have d0 : ∀ W, Only (w2.heap.size) wr W → W.cell? ⟨w.heap.size, 0, none⟩ = some (.int .i64 (NA : Int)) := fun W hW => by rw [blk_cell ((hW.block (blk_lt HPw.out) (by omega)).trans HPw.out)]; rfl
        have d1 : ∀ W, Only (w2.heap.size) wr W → W.cell? ⟨w.heap.size, 1, none⟩ = some (.slice A' NA c) := fun W hW => by rw [blk_cell ((hW.block (blk_lt HPw.out) (by omega)).trans HPw.out)]; rfl
        have ho2 : Only (w2.heap.size) wr wr := Only.refl _ _
        have ho2d : Only (w2.heap.size) wr wr.drew := ho2.drew
        have HSD : Hid (Stk wr.drew (w2.heap.size) (w2.heap.size + 1) (x :: r)) := Lib.hid (HBS.out.grew (Grew.refl _).drew)
        go_wp2_with fail
        refine wp_region_held_drew (S := fun w' => Only (w2.heap.size) wr w') (by kernel_rfl) ho2d (fun hHeld => ?_)
        refine wpAnyH_take (i := 0) (oi := ?on7) (v := ?vn7) ?hin7 ?an7 ?bn7 ?cn7 ?qn7 (Or.inl ⟨?dn7, ?hyn7⟩) hHeld ?restn7
        case hin7 => (simp only [List.getElem?_toArray, List.getElem?_cons_zero]; exact rfl)
        case an7 => kernel_rfl
        case bn7 => kernel_rfl
        case cn7 => kernel_rfl
        case qn7 => exact fun _ _ _ h => h
        case dn7 => rfl
        case hyn7 => (intro z hSw; (try dsimp only at hSw); go_simp; (try with_reducible rfl))
        try simp only [Act.put, List.setIfInBounds_toArray, List.set_cons_zero, List.set_cons_succ]
        refine wpAnyH_take (i := 1) (oi := ?on8) (v := ?vn8) ?hin8 ?an8 ?bn8 ?cn8 ?qn8 (Or.inl ⟨?dn8, ?hyn8⟩) hHeld ?restn8
        case hin8 => (simp only [List.getElem?_toArray, List.getElem?_cons_succ, List.getElem?_cons_zero]; exact rfl)
        case an8 => kernel_rfl
        case bn8 => kernel_rfl
        case cn8 => kernel_rfl
        case qn8 => exact fun _ _ _ h => h
        case dn8 => rfl
        case hyn8 => (intro z hSw; (try dsimp only at hSw); go_simp; (try with_reducible rfl))
        try simp only [Act.put, List.setIfInBounds_toArray, List.set_cons_zero, List.set_cons_succ]
        refine wpAnyH_take (i := 2) (oi := ?on9) (v := ?vn9) ?hin9 ?an9 ?bn9 ?cn9 ?qn9 (Or.inl ⟨?dn9, ?hyn9⟩) hHeld ?restn9
        case hin9 => (simp only [List.getElem?_toArray, List.getElem?_cons_succ, List.getElem?_cons_zero]; exact rfl)
        case an9 => kernel_rfl
        case bn9 => kernel_rfl
        case cn9 => kernel_rfl
        case qn9 => exact fun _ _ _ h => h
        case dn9 => rfl
        case hyn9 => (intro z hSw; (try dsimp only at hSw); go_simp; (try with_reducible rfl))
        try simp only [Act.put, List.setIfInBounds_toArray, List.set_cons_zero, List.set_cons_succ]
        refine wpAnyH_take (i := 3) (oi := ?on10) (v := ?vn10) ?hin10 ?an10 ?bn10 ?cn10 ?qn10 (Or.inl ⟨?dn10, ?hyn10⟩) hHeld ?restn10
        case hin10 => (simp only [List.getElem?_toArray, List.getElem?_cons_succ, List.getElem?_cons_zero]; exact rfl)
        case an10 => kernel_rfl
        case bn10 => kernel_rfl
        case cn10 => kernel_rfl
        case qn10 => exact fun _ _ _ h => h
        case dn10 => rfl
        case hyn10 => (intro z hSw; (try dsimp only at hSw); go_simp; (try with_reducible rfl))
        try simp only [Act.put, List.setIfInBounds_toArray, List.set_cons_zero, List.set_cons_succ]
        refine wpAnyH_take (i := 4) (oi := ?on11) (v := ?vn11) ?hin11 ?an11 ?bn11 ?cn11 ?qn11 (Or.inl ⟨?dn11, ?hyn11⟩) hHeld ?restn11
        case hin11 => (simp only [List.getElem?_toArray, List.getElem?_cons_succ, List.getElem?_cons_zero]; exact rfl)
        case an11 => kernel_rfl
        case bn11 => kernel_rfl
        case cn11 => kernel_rfl
        case qn11 => exact fun _ _ _ h => h
        case dn11 => rfl
        case hyn11 => (intro z hSw; (try dsimp only at hSw); go_simp; (try with_reducible rfl))
        try simp only [Act.put, List.setIfInBounds_toArray, List.set_cons_zero, List.set_cons_succ]
        refine wpAnyH_ready (rs := [5]) (by kernel_rfl) (by simp) ?_
        refine AllReadyH.cons (o := ?on12) ?hin12 ?restn12 AllReadyH.nil
        case hin12 => (simp only [List.getElem?_toArray, List.getElem?_cons_succ, List.getElem?_cons_zero]; exact rfl)
        intro K hK
        go_simp
        go_at_call 89
        refine (HP1.out _ HSD.out).mono ?_
        rintro e wb ⟨rfl, hS3, hO3⟩
        have ho3 : Only (w2.heap.size) wr wb := ho2d.trans hO3
        refine hK.out _ _ ?_ (fun hHeld => ?_)
        · (try dsimp only); first | with_reducible assumption | exact Grew.alloc ‹_› _
        clear hK K
        try simp only [Act.put, List.setIfInBounds_toArray, List.set_cons_zero, List.set_cons_succ]
        refine wpAnyH_take (i := 6) (oi := ?on13) (v := ?vn13) ?hin13 ?an13 ?bn13 ?cn13 ?qn13 (Or.inl ⟨?dn13, ?hyn13⟩) hHeld ?restn13
        case hin13 => (simp only [List.getElem?_toArray, List.getElem?_cons_succ, List.getElem?_cons_zero]; exact rfl)
        case an13 => kernel_rfl
        case bn13 => kernel_rfl
        case cn13 => kernel_rfl
        case qn13 => exact fun _ _ _ h => h
        case dn13 => rfl
        case hyn13 => (intro z hSw; (try dsimp only at hSw); go_simp; (try with_reducible rfl))
        try simp only [Act.put, List.setIfInBounds_toArray, List.set_cons_zero, List.set_cons_succ]
        refine wpAnyH_ready (rs := [7]) (by kernel_rfl) (by simp) ?_
        refine AllReadyH.cons (o := ?on14) ?hin14 ?restn14 AllReadyH.nil
        case hin14 => (simp only [List.getElem?_toArray, List.getElem?_cons_succ, List.getElem?_cons_zero]; exact rfl)
        intro K hK
        go_simp
        go_at_call 90
        refine (KBm.out _ (ho3.grew_of HG.out (by omega))).mono ?_
        rintro e wc ⟨rfl, hwc⟩
        subst hwc
        refine hK.out _ _ ?_ (fun hHeld => ?_)
        · (try dsimp only); first | with_reducible assumption | exact Grew.alloc ‹_› _
        clear hK K
        try simp only [Act.put, List.setIfInBounds_toArray, List.set_cons_zero, List.set_cons_succ]
        refine wpAnyH_take (i := 8) (oi := ?on15) (v := ?vn15) ?hin15 ?an15 ?bn15 ?cn15 ?qn15 (Or.inl ⟨?dn15, ?hyn15⟩) hHeld ?restn15
        case hin15 => (simp only [List.getElem?_toArray, List.getElem?_cons_succ, List.getElem?_cons_zero]; exact rfl)
        case an15 => kernel_rfl
        case bn15 => kernel_rfl
        case cn15 => kernel_rfl
        case qn15 => exact fun _ _ _ h => h
        case dn15 => rfl
        case hyn15 => (intro z hSw; (try dsimp only at hSw); go_simp; (try with_reducible rfl))
        try simp only [Act.put, List.setIfInBounds_toArray, List.set_cons_zero, List.set_cons_succ]
        refine wpAnyH_take (i := 9) (oi := ?on16) (v := ?vn16) ?hin16 ?an16 ?bn16 ?cn16 ?qn16 (Or.inl ⟨?dn16, ?hyn16⟩) hHeld ?restn16
        case hin16 => (simp only [List.getElem?_toArray, List.getElem?_cons_succ, List.getElem?_cons_zero]; exact rfl)
        case an16 => kernel_rfl
        case bn16 => kernel_rfl
        case cn16 => kernel_rfl
        case qn16 => exact fun _ _ _ h => h
        case dn16 => rfl
        case hyn16 => (intro z hSw; (try dsimp only at hSw); go_simp; (try with_reducible rfl))
        try simp only [Act.put, List.setIfInBounds_toArray, List.set_cons_zero, List.set_cons_succ]
        refine wpAnyH_done (by kernel_rfl) ?_ _
        have hp3 := (ho3.block (blk_lt HPw.out) (by omega)).trans HPw.out
        have HG3 := Lib.hid (ho3.grew_of HG.out (by omega))
        have HP3 := Lib.hid hp3
        have HZ3 := Lib.hid (Nat.le_trans HZ.out ho3.size)
        have HS3 := Lib.hid hS3
        clear hO3 hS3 hp3 HBS HP HG HZ HSD ho3 ho2 ho2d d0 d1 HPw
        obtain ⟨AS, nS, cS, hb, hO⟩ := HS3.out
        have k7 : wc.cell? ⟨w2.heap.size, 0, none⟩ = some (.slice AS nS cS) := by rw [blk_cell hb]; rfl
        have k7' : ∀ o, (wc.alloc o).cell? ⟨w2.heap.size, 0, none⟩ = some (.slice AS nS cS) := fun o => by rw [blk_cell ((((Grew.refl wc).alloc o).block (blk_lt hb)).trans hb)]; rfl
        have HBT := Lib.hid hb
        have HOT := Lib.hid hO
        have HZA := Lib.hid (fun o : Obj => (Nat.le_trans HZ3.out (((Grew.refl wc).alloc o).size) : w2.heap.size + 1 ≤ (wc.alloc o).heap.size))
        have HOA := Lib.hid (fun o : Obj => (hO.grew ((Grew.refl wc).alloc o) : OwnI (wc.alloc o) (w2.heap.size + 1) (.slice AS nS cS) (sk r)))
        clear hb hO
        go_wp2_with (first
          | (at_builtin
             refine wpList_appB (w2.heap.size + 1) _ _ rfl rfl (.slice AS nS cS) (sk r) rfl (HOA.out _) (HZA.out _) (.slice (some ⟨wc.heap.size, 0, none⟩) 1 1) ((z : Nat) : Int) rfl (rd_litI wc _ _) (by rw [sk_len]; exact hlr) ?_
             intro v8 w8 hown8 hg8
             obtain ⟨A8, c8, rfl⟩ := ints_slice hown8.ints
             rw [List.length_append, List.length_singleton] at hown8
             have hne8 : some (w2.heap.size) ≠ (Value.slice AS nS cS).ownBlock := fun he => by have := own_of_ge HOT.out he.symm; omega
             have hne9 : some w.heap.size ≠ (Value.slice AS nS cS).ownBlock := fun he => by have := own_of_ge HOT.out he.symm; omega
             have hb8 := (hg8.block _ (Nat.lt_of_lt_of_le (show w2.heap.size < w2.heap.size + 1 by omega) (HZA.out _)) hne8).trans ((((Grew.refl wc).alloc _).block (blk_lt HBT.out)).trans HBT.out)
             have hp8 := (hg8.block _ (Nat.lt_of_lt_of_le (show w.heap.size < w2.heap.size + 1 by omega) (HZA.out _)) hne9).trans ((((Grew.refl wc).alloc _).block (blk_lt HP3.out)).trans HP3.out)
             have k8 : w8.cell? ⟨w2.heap.size, 0, none⟩ = some (.slice AS nS cS) := by rw [blk_cell hb8]; rfl
             have f8 := blk_frozen hb8 0
             have hG8 : Grew w w8 := (HG3.out.alloc _).grown hg8 (fun g hg => by have := own_of_ge HOT.out hg; omega)
             have hz8 : w2.heap.size + 1 ≤ w8.heap.size := Nat.le_trans (HZA.out _) hg8.size
             have HFIN := Lib.hid (show Hid ((w8.setCell ⟨w2.heap.size, 0, none⟩ (.slice A8 ((sk r).length + 1) c8)).heap[w.heap.size]? = some (.cells #[.int .i64 (NA : Int), .slice A' NA c] 26 (0, 0))) ∧ Hid (Stk (w8.setCell ⟨w2.heap.size, 0, none⟩ (.slice A8 ((sk r).length + 1) c8)) (w2.heap.size) (w2.heap.size + 1) (mve A V (xs.drop k))) ∧ Hid (Grew w (w8.setCell ⟨w2.heap.size, 0, none⟩ (.slice A8 ((sk r).length + 1) c8))) ∧ Hid (w2.heap.size + 1 ≤ (w8.setCell ⟨w2.heap.size, 0, none⟩ (.slice A8 ((sk r).length + 1) c8)).heap.size) from by
               have hon : Only (w2.heap.size) w8 (w8.setCell ⟨w2.heap.size, 0, none⟩ (.slice A8 ((sk r).length + 1) c8)) := (Only.refl _ _).setCell _
               refine ⟨Lib.hid ((hon.block (by omega) (by omega)).trans hp8), Lib.hid ⟨_, _, _, blk_set hb8 0 _, ?_⟩, Lib.hid (hG8.setCell (show w.heap.size ≤ w2.heap.size by omega) _), Lib.hid (Nat.le_trans hz8 hon.size)⟩
               rw [HEK.out, sk_cons]
               exact own_only hown8 hon (fun he => by have := own_of_ge hown8 he; omega))
             clear hb8 hp8 hG8 hz8 hown8 hg8 hne8 hne9 k7 k7'))
        go_roundw
        case rel => exact ⟨k, by omega, rfl, HFIN.out⟩
        case measure => simp [intOf] <;> omega
end Go.Proofs.YtjlnompmhgjaaaaGreat


/- isFormula of the program, at any list. -/
namespace Go.Proofs.YtjlnompmhgjaaaaGreat
open Go.RowKit
open Fm (Nd Tree)

theorem isVariable_c (k : Int) (w : World) : Calls Tryz.prog 112 #[.int .i64 k] w fun e w' => e = .returned (.bool (decide (0 ≤ k ∧ k ≤ 5))) ∧ Grew w w' := by
  have HR := Lib.hid (inRange_c k 0 5 w)
  generalize decide (0 ≤ k ∧ k ≤ 5) = R at *
  go_enter Tryz.func112, Tryz.ntmps112
  go_wp2_with fail
  refine HR.out.mono ?_
  rintro e w1 ⟨rfl, hg1⟩
  go_wp2_with fail
  go_ret
  exact ⟨rfl, hg1⟩

def nodeB (a b : Int) : Bool := if a == 0 then decide (0 ≤ b ∧ b ≤ 5) else decide (1 ≤ a ∧ a ≤ 6) && b == 0

theorem isNode_c (a b : Int) (w : World) : Calls Tryz.prog 86 #[.agg #[.int .i64 a, .int .i64 b]] w fun e w' => e = .returned (.bool (nodeB a b)) ∧ Grew w w' := by
  unfold nodeB
  cases h0 : (a == 0) with
  | true =>
    rw [if_pos rfl]
    go_enter Tryz.func86, Tryz.ntmps86
    go_wp2_with fail
    refine (isVariable_c _ _).mono ?_
    rintro e w1 ⟨rfl, hg1⟩
    go_wp2_with fail
    go_ret
    exact ⟨by simp, Grew.of_alloc hg1⟩
  | false =>
    rw [if_neg (by simp)]
    have HR := fun w => inRange_c a 1 6 w
    generalize decide (1 ≤ a ∧ a ≤ 6) = R at *
    cases R with
    | true =>
      replace HR := Lib.hid HR
      go_enter Tryz.func86, Tryz.ntmps86
      go_wp2_with fail
      refine (HR.out _).mono ?_
      rintro e w1 ⟨rfl, hg1⟩
      have k1 : w1.cell? ⟨w.heap.size, 1, none⟩ = some (.int .i64 b) := (hg1.cell (by simp)).trans (by simp)
      go_wp2_with fail
      go_ret
      exact ⟨by simp, Grew.of_alloc hg1⟩
    | false =>
      replace HR := Lib.hid HR
      go_enter Tryz.func86, Tryz.ntmps86
      go_wp2_with fail
      refine (HR.out _).mono ?_
      rintro e w1 ⟨rfl, hg1⟩
      go_wp2_with fail
      go_ret
      exact ⟨by simp, Grew.of_alloc hg1⟩

def noNode (a b : Int) : Bool := !nodeB a b
theorem isFormula1_ok : PredOk 85 noNode := by
  intro a b w
  unfold noNode
  have HR := Lib.hid (fun w => isNode_c a b w)
  generalize nodeB a b = R at *
  go_enter Tryz.func85, Tryz.ntmps85
  go_wp2_with fail
  refine (HR.out _).mono ?_
  rintro e w1 ⟨rfl, hg1⟩
  go_wp2_with fail
  go_ret
  exact ⟨rfl, Grew.of_alloc hg1⟩

theorem enc_nodes (t : Tree) : ∀ n ∈ Fm.enc t, nodeB n.1 n.2 = true := by
  induction t with
  | var v =>
    intro n hn
    simp only [Fm.enc, List.mem_singleton] at hn
    subst hn
    have := v.isLt
    simp [nodeB]
    omega
  | fls =>
    intro n hn
    simp only [Fm.enc, List.mem_singleton] at hn
    subst hn
    rfl
  | and x y hx hy =>
    intro n hn
    simp only [Fm.enc, List.mem_cons, List.mem_append] at hn
    rcases hn with rfl | hn | hn
    · rfl
    · exact hx n hn
    · exact hy n hn
  | or x y hx hy =>
    intro n hn
    simp only [Fm.enc, List.mem_cons, List.mem_append] at hn
    rcases hn with rfl | hn | hn
    · rfl
    · exact hx n hn
    · exact hy n hn
  | imp x y hx hy =>
    intro n hn
    simp only [Fm.enc, List.mem_cons, List.mem_append] at hn
    rcases hn with rfl | hn | hn
    · rfl
    · exact hx n hn
    · exact hy n hn
  | box x hx =>
    intro n hn
    simp only [Fm.enc, List.mem_cons] at hn
    rcases hn with rfl | hn
    · rfl
    · exact hx n hn
  | dia x hx =>
    intro n hn
    simp only [Fm.enc, List.mem_cons] at hn
    rcases hn with rfl | hn
    · rfl
    · exact hx n hn
theorem enc_noNode (t : Tree) : anyP noNode (Fm.enc t) = false := by
  apply anyP_no
  intro i hi
  have h := enc_nodes t (Fm.enc t)[i] (List.getElem_mem hi)
  have h1 : kd (Fm.enc t) i = (Fm.enc t)[i].1 := by simp [kd, List.getD, hi]
  have h2 : sy (Fm.enc t) i = (Fm.enc t)[i].2 := by simp [sy, List.getD, hi]
  rw [noNode, h1, h2, h]
  rfl
theorem at_all (t : Tree) : At (Fm.enc t) 0 t := ⟨[], by simp⟩


end Go.Proofs.YtjlnompmhgjaaaaGreat


/- A list of good nodes that a scan reads whole is the list of a formula's tree. No program is in sight. -/
namespace Go.Proofs.YtjlnompmhgjaaaaGreat
open Go.RowKit
open Fm (Nd Tree)

end Go.Proofs.YtjlnompmhgjaaaaGreat


/- The tail of a list of nodes. -/
namespace Go.Proofs.YtjlnompmhgjaaaaGreat
open Go.RowKit
open Fm (Nd)

end Go.Proofs.YtjlnompmhgjaaaaGreat


/- Formulas of two parts. -/
namespace Go.Proofs.YtjlnompmhgjaaaaGreat
open Go.RowKit

def TwoF (A p q : Fm.Tree) : Prop := Fm.enc A = (kindOf A, 0) :: (Fm.enc p ++ Fm.enc q)
theorem TwoF.len {A p q : Fm.Tree} (h : TwoF A p q) : (Fm.enc A).length = 1 + (Fm.enc p).length + (Fm.enc q).length := by rw [h]; simp; omega
end Go.Proofs.YtjlnompmhgjaaaaGreat


/- The parts of a formula in the reference. -/
namespace Go.Proofs.YtjlnompmhgjaaaaGreat
open Go.RowKit
open Fm (Nd Tree)

end Go.Proofs.YtjlnompmhgjaaaaGreat


/- l06Truth of the reference. -/
namespace Go.Proofs.YtjlnompmhgjaaaaGreat
open Go.RowKit
open Fm (Nd Tree)

end Go.Proofs.YtjlnompmhgjaaaaGreat


/- Models: isModel, l06Is, the places of worlds, the truth of a formula in a model by the program. -/
namespace Go.Proofs.YtjlnompmhgjaaaaGreat
open Go.RowKit
open Fm (Nd Tree)

def mdB (n : Int) (L V : List Int) : Bool := frB n L && (decide (V.length = 6) && mks n.toNat V)
theorem mdB_ok {n : Int} {L V : List Int} (h : mdB n L V = true) : n = ((nats L).length : Int) ∧ (nats L).length ≤ 8 ∧ zs (nats L) = L ∧ Rl (nats L) ∧ zs (nats V) = V ∧ (nats V).length = 6 ∧ ∀ m ∈ nats V, m < 2 ^ (nats L).length := by
  unfold mdB at h
  rw [Bool.and_eq_true, Bool.and_eq_true, decide_eq_true_eq] at h
  obtain ⟨h1, h2, h3⟩ := h
  obtain ⟨e1, e2, e3, e4⟩ := frB_ok h1
  have el : (nats L).length = L.length := by rw [← zs_len, e3]
  have hn : n.toNat = (nats L).length := by rw [el]; omega
  rw [hn] at h3
  obtain ⟨f1, f2⟩ := nats_ok h3
  exact ⟨by rw [el]; exact e1, by rw [el]; exact e2, e3, e4, f1, by rw [← zs_len, f1]; exact h2, f2⟩
theorem mdl_box (w : World) (a b c : Value) : Grew w (w.alloc (.cells #[a, b, c] 28)) ∧ (∀ W, Grew (w.alloc (.cells #[a, b, c] 28)) W → W.cell? ⟨w.heap.size, 0, none⟩ = some a) ∧ (∀ W, Grew (w.alloc (.cells #[a, b, c] 28)) W → W.cell? ⟨w.heap.size, 1, none⟩ = some b) ∧ ∀ W, Grew (w.alloc (.cells #[a, b, c] 28)) W → W.cell? ⟨w.heap.size, 2, none⟩ = some c :=
  ⟨(Grew.refl w).alloc _, fun W hW => (hW.cell (p := ⟨w.heap.size, 0, none⟩) (by simp)).trans (by simp), fun W hW => (hW.cell (p := ⟨w.heap.size, 1, none⟩) (by simp)).trans (by simp), fun W hW => (hW.cell (p := ⟨w.heap.size, 2, none⟩) (by simp)).trans (by simp)⟩
theorem isModel1_c (n : Nat) (x : Int) (b : Nat) (w : World) (hn : n ≤ 30) (k : w.cell? ⟨b, 0, none⟩ = some (.int .i64 (n : Int))) :
    Calls Tryz.prog 35 #[.int .i64 x, .pointer (some ⟨b, 0, none⟩)] w fun e w' => e = .returned (.bool (!mk n x)) ∧ Grew w w' := by
  have KM := Lib.hid (isMask_c n x hn w)
  generalize mk n x = R at *
  go_enter Tryz.func35, Tryz.ntmps35
  go_wp2_with fail
  refine KM.out.mono ?_
  rintro e w1 ⟨rfl, hg1⟩
  go_wp2_with fail
  go_ret
  exact ⟨rfl, hg1⟩
set_option maxHeartbeats 1000000 in
theorem isModel_c (n : Int) (v u : Value) (L V : List Int) (w : World) (h : Ints w v L) (hu : Ints w u V) :
    Calls Tryz.prog 17 #[.agg #[.int .i64 n, v, u]] w fun e w' => e = .returned (.bool (mdB n L V)) ∧ Grew w w' := by
  obtain ⟨hal, y0, y1, y2⟩ := mdl_box w (.int .i64 n) v u
  obtain ⟨w1, hw1⟩ : ∃ w1, w1 = w.alloc (.cells #[.int .i64 n, v, u] 28) := ⟨_, rfl⟩
  rw [← hw1] at hal y0 y1 y2
  have KF := Lib.hid (isFrame_c n v L w1 (h.grew hal))
  have KC : frB n L = true → Hid (∀ W, Grew w1 W → Calls Tryz.prog 34 #[u, .func (.func 35) #[] #[.pointer (some ⟨w.heap.size, 0, none⟩)]] W fun e w' => e = .returned (.bool (!mks n.toNat V)) ∧ Grew W w') := fun hf => Lib.hid (fun W hW => by
    obtain ⟨e1, e2, _, _⟩ := frB_ok hf
    obtain ⟨N, rfl⟩ : ∃ N : Nat, n = (N : Int) := ⟨n.toNat, by omega⟩
    have hR := not_any (mk N) V
    have := containsFuncI_c u V 35 #[.pointer (some ⟨w.heap.size, 0, none⟩)] (fun x => !mk N x) W (hu.grew (hal.trans hW)) (fun x W2 _ hW2 => isModel1_c N x w.heap.size W2 (by omega) (y0 W2 (hW.trans hW2))) (enters_of Tryz.func35 (by kernel_rfl) rfl)
    have e : (V.any fun x => !mk N x) = !mks N V := by unfold mks; rw [← hR, Bool.not_not]
    rw [e] at this
    exact this)
  have HG := Lib.hid hal
  obtain ⟨A, c, rfl⟩ := ints_slice h
  obtain ⟨A2, c2, rfl⟩ := ints_slice hu
  unfold mdB
  clear h hu hal
  generalize frB n L = F at *
  generalize mks n.toNat V = Q at *
  generalize L.length = l at *
  generalize V.length = l2 at *
  have r1 := Grew.refl w1
  go_enter Tryz.func17, Tryz.ntmps17
  go_wp2_with fail
  simp only [← hw1]
  clear hw1
  refine KF.out.mono ?_
  rintro e w2 ⟨rfl, hg2⟩
  cases F with
  | false =>
    clear KC
    go_wp2_with fail
    go_ret
    exact ⟨rfl, HG.out.trans hg2⟩
  | true =>
    by_cases h6 : l2 = 6
    · subst h6
      have KC2 := (KC rfl).out w2 hg2
      have KC3 := Lib.hid KC2
      clear KC KC2
      go_wp2_with fail
      refine KC3.out.mono ?_
      rintro e w3 ⟨rfl, hg3⟩
      go_wp2_with fail
      go_ret
      exact ⟨by simp, HG.out.trans (hg2.trans hg3)⟩
    · have hd : decide (l2 = 6) = false := decide_eq_false h6
      have hi : ((l2 : Int) = 6) = False := eq_false (by omega)
      clear KC
      go_wp2_with fail
      go_ret
      exact ⟨by simp [h6], HG.out.trans hg2⟩
set_option maxHeartbeats 1000000 in
theorem l06Is_c (n : Int) (v u : Value) (L V : List Int) (w : World) (h : Ints w v L) (hu : Ints w u V) :
    Calls Tryz.prog 21 #[.agg #[.int .i64 n, v, u]] w fun e w' => e = .returned (.bool (mdB n L V)) ∧ Grew w w' := by
  obtain ⟨hal, y0, y1, y2⟩ := mdl_box w (.int .i64 n) v u
  obtain ⟨w1, hw1⟩ : ∃ w1, w1 = w.alloc (.cells #[.int .i64 n, v, u] 28) := ⟨_, rfl⟩
  rw [← hw1] at hal y0 y1 y2
  have KF := Lib.hid (l05Is_c n v L w1 (h.grew hal))
  have KC : frB n L = true → Hid (∀ W, Grew w1 W → Calls Tryz.prog 43 #[.int .i64 n, u] W fun e w' => e = .returned (.bool (mks n.toNat V)) ∧ Grew W w') := fun hf => Lib.hid (fun W hW => by
    obtain ⟨e1, e2, _, _⟩ := frB_ok hf
    obtain ⟨N, rfl⟩ : ∃ N : Nat, n = (N : Int) := ⟨n.toNat, by omega⟩
    exact l01Masks_c N u V W (hu.grew (hal.trans hW)) (by omega))
  have HG := Lib.hid hal
  obtain ⟨A, c, rfl⟩ := ints_slice h
  obtain ⟨A2, c2, rfl⟩ := ints_slice hu
  unfold mdB
  clear h hu hal
  generalize frB n L = F at *
  generalize mks n.toNat V = Q at *
  generalize L.length = l at *
  generalize V.length = l2 at *
  have r1 := Grew.refl w1
  go_enter Tryz.func21, Tryz.ntmps21
  go_wp2_with fail
  simp only [← hw1]
  clear hw1
  refine KF.out.mono ?_
  rintro e w2 ⟨rfl, hg2⟩
  cases F with
  | false =>
    clear KC
    go_wp2_with fail
    go_ret
    exact ⟨rfl, HG.out.trans hg2⟩
  | true =>
    by_cases h6 : l2 = 6
    · subst h6
      have KC2 := (KC rfl).out w2 hg2
      have KC3 := Lib.hid KC2
      clear KC KC2
      go_wp2_with fail
      refine KC3.out.mono ?_
      rintro e w3 ⟨rfl, hg3⟩
      go_wp2_with fail
      go_ret
      exact ⟨by simp, HG.out.trans (hg2.trans hg3)⟩
    · have hd : decide (l2 = 6) = false := decide_eq_false h6
      have hi : ((l2 : Int) = 6) = False := eq_false (by omega)
      clear KC
      go_wp2_with fail
      go_ret
      exact ⟨by simp [h6], HG.out.trans hg2⟩
theorem hasWorld_c (n : Nat) (v : Value) (x : Int) (w : World) (hv : ∃ A m c, v = .slice A m c) (hn : n ≤ 8) :
    Calls Tryz.prog 18 #[.agg #[.int .i64 (n : Int), v], .int .i64 x] w fun e w' => e = .returned (.bool (decide (0 ≤ x ∧ x ≤ (n : Int) - 1))) ∧ Grew w w' := by
  obtain ⟨A, m, c, rfl⟩ := hv
  have hw : IntKind.i64.wrap ((n : Int) - 1) = (n : Int) - 1 := by rw [IntKind.wrap_i64]; omega
  have KI := Lib.hid (fun W => inRange_c x 0 ((n : Int) - 1) W)
  generalize decide (0 ≤ x ∧ x ≤ (n : Int) - 1) = R at *
  go_enter Tryz.func18, Tryz.ntmps18
  go_wp2_with fail
  refine (KI.out _).mono ?_
  rintro e w1 ⟨rfl, hg1⟩
  go_wp2_with fail
  go_ret
  exact ⟨rfl, ((Grew.refl w).alloc _).trans hg1⟩
theorem l05World_c (n : Nat) (v : Value) (x : Int) (w : World) (hv : ∃ A m c, v = .slice A m c) (hn : n ≤ 8) :
    Calls Tryz.prog 22 #[.agg #[.int .i64 (n : Int), v], .int .i64 x] w fun e w' => e = .returned (.bool (decide (0 ≤ x ∧ x ≤ (n : Int) - 1))) ∧ Grew w w' := by
  obtain ⟨A, m, c, rfl⟩ := hv
  have hw : IntKind.i64.wrap ((n : Int) - 1) = (n : Int) - 1 := by rw [IntKind.wrap_i64]; omega
  have KI := Lib.hid (fun W => l01In_c x 0 ((n : Int) - 1) W)
  generalize decide (0 ≤ x ∧ x ≤ (n : Int) - 1) = R at *
  go_enter Tryz.func22, Tryz.ntmps22
  go_wp2_with fail
  refine (KI.out _).mono ?_
  rintro e w1 ⟨rfl, hg1⟩
  go_wp2_with fail
  go_ret
  exact ⟨rfl, ((Grew.refl w).alloc _).trans hg1⟩
end Go.Proofs.YtjlnompmhgjaaaaGreat


/- Bisimulations of the program: truths, forth, back. -/
namespace Go.Proofs.YtjlnompmhgjaaaaGreat
open Go.RowKit
open Fm (Nd Tree)

def trM (V : List Nat) (x : Nat) : Nat := pmk (fun v => (nt V v).testBit x) 6
theorem trM_eq (V : List Nat) (x y : Nat) : ((trM V x : Int) == (trM V y : Int)) = atB V x y := by
  rw [Bool.eq_iff_iff, beq_iff_eq, atB_iff]
  constructor
  · intro h v hv
    have h1 : trM V x = trM V y := by omega
    have := congrArg (fun m => m.testBit v) h1
    simpa [trM, pmk_bit, hv] using this
  · intro h
    have : trM V x = trM V y := Nat.eq_of_testBit_eq fun v => by
      unfold trM
      rw [pmk_bit, pmk_bit]
      by_cases hv : v < 6
      · simp [hv, h v hv]
      · simp [hv]
    omega
set_option maxHeartbeats 1000000 in
theorem truths_c (n : Int) (v u : Value) (V : List Nat) (x : Nat) (w : World) (hv : ∃ A m c, v = .slice A m c) (hu : Ints w u (zs V)) (hl : V.length = 6) (hV : Sm V) (hx : x ≤ 30) :
    Calls Tryz.prog 56 #[.agg #[.int .i64 n, v, u], .int .i64 (x : Int)] w fun e w' => e = .returned (.int .i64 ((trM V x : Nat) : Int)) ∧ Grew w w' := by
  obtain ⟨hal, y0, y1, y2⟩ := mdl_box w (.int .i64 n) v u
  obtain ⟨w1, hw1⟩ : ∃ w1, w1 = w.alloc (.cells #[.int .i64 n, v, u] 28) := ⟨_, rfl⟩
  rw [← hw1] at hal y0 y1 y2
  have HB := Lib.hid (fun j W (hj : j < 6) => has_c (nt V j) x (by have := hV.at_ (i := j) (by omega); omega) (by omega) W)
  have HY := Lib.hid (fun j h => pmk_yes (p := fun v => (nt V v).testBit x) (k := j) h)
  have HN := Lib.hid (fun j h => pmk_no (p := fun v => (nt V v).testBit x) (k := j) h)
  have HL := Lib.hid (fun j (hj : j ≤ 6) => Nat.lt_of_lt_of_le (pmk_lt (fun v => (nt V v).testBit x) j) (Nat.pow_le_pow_right (n := 2) (by omega) hj))
  obtain ⟨Am, mm, cm, rfl⟩ := hv
  obtain ⟨A, c, rfl⟩ := ints_sliceN hu
  obtain ⟨b, o, rfl, hcell⟩ := cellsN hu (by omega)
  have HC := Lib.hid (fun j (hj : j < 6) W (hW : Grew w1 W) => hcell j (by omega) W (hal.trans hW))
  have HG := Lib.hid hal
  rw [hl]
  unfold trM
  rw [hl] at y2 hw1
  clear hu hcell hal hl hV hx
  have r1 := Grew.refl w1
  go_enter Tryz.func56, Tryz.ntmps56
  go_wp2_with fail
  simp only [← hw1]
  clear hw1
  go_loopw [5, 11] (fun s i wr => ∃ j : Nat, j ≤ 6 ∧ i = .int .i64 (j : Int) ∧ s = .int .i64 ((pmk (fun v => (nt V v).testBit x) j : Nat) : Int) ∧ Grew w1 wr) (fun _ i _ => 6 - (intOf i).toNat)
  case atStart => exact ⟨0, by omega, rfl, rfl, r1⟩
  case round =>
    obtain ⟨j, hj, rfl, rfl, hB⟩ := hrel
    by_cases hlt : j < 6
    · have q1 := HC.out j hlt _ hB
      have hb := Lib.hid (fun W => HB.out j W hlt)
      have hY := HY.out j
      have hN := HN.out j
      have hL := HL.out j hj
      generalize hK1 : pmk (fun v => (nt V v).testBit x) (j + 1) = K1 at *
      have HK1 := Lib.hid hK1
      clear hK1
      generalize pmk (fun v => (nt V v).testBit x) j = K0 at *
      generalize nt V j = y at *
      have hp : 2 ^ j ≤ 32 := Nat.le_trans (Nat.pow_le_pow_right (n := 2) (by omega) (show j ≤ 5 by omega)) (by decide)
      have hsh := wrap_pow (k := j) (by omega)
      have hor := or_i64 K0 (2 ^ j) (by omega) (by omega)
      have hj64 : (j : Int) < 64 := by omega
      have hj64n : j < 64 := by omega
      go_wp2_with fail
      refine (hb.out _).mono ?_
      rintro e w2 ⟨rfl, hg2⟩
      cases ht : y.testBit x with
      | true =>
        have hv := Lib.hid (hY ht)
        clear hY hN
        generalize (2 : Nat) ^ j = pj at *
        go_wp2_with fail
        go_roundw
        case rel => exact ⟨j + 1, by omega, by go_num, by rw [HK1.out, hv.out], hB.trans hg2⟩
        case measure => simp [intOf]; omega
      | false =>
        have hv := Lib.hid (hN ht)
        clear hY hN
        go_wp2_with fail
        go_roundw
        case rel => exact ⟨j + 1, by omega, by go_num, by rw [HK1.out, hv.out], hB.trans hg2⟩
        case measure => simp [intOf]; omega
    · obtain rfl : j = 6 := by omega
      go_wp2_with fail
      go_ret
      exact ⟨rfl, HG.out.trans hB⟩
end Go.Proofs.YtjlnompmhgjaaaaGreat


/- Bisimulations of the program: forth, back. -/
namespace Go.Proofs.YtjlnompmhgjaaaaGreat
open Go.RowKit
open Fm (Nd Tree)

theorem mdl_box2 (w : World) (a b c a2 b2 c2 : Value) : ∃ w2, w2 = (w.alloc (.cells #[a, b, c] 28)).alloc (.cells #[a2, b2, c2] 28) ∧ Grew w w2 ∧
    (∀ W, Grew w2 W → W.cell? ⟨w.heap.size, 0, none⟩ = some a) ∧ (∀ W, Grew w2 W → W.cell? ⟨w.heap.size, 1, none⟩ = some b) ∧ (∀ W, Grew w2 W → W.cell? ⟨w.heap.size, 2, none⟩ = some c) ∧
    (∀ W, Grew w2 W → W.cell? ⟨w.heap.size + 1, 0, none⟩ = some a2) ∧ (∀ W, Grew w2 W → W.cell? ⟨w.heap.size + 1, 1, none⟩ = some b2) ∧ ∀ W, Grew w2 W → W.cell? ⟨w.heap.size + 1, 2, none⟩ = some c2 := by
  obtain ⟨h1, y0, y1, y2⟩ := mdl_box w a b c
  have hs : (w.alloc (.cells #[a, b, c] 28)).heap.size = w.heap.size + 1 := by simp
  generalize w.alloc (.cells #[a, b, c] 28) = w1 at *
  obtain ⟨h2, z0, z1, z2⟩ := mdl_box w1 a2 b2 c2
  rw [hs] at z0 z1 z2
  exact ⟨_, rfl, h1.trans h2, fun W hW => y0 W (h2.trans hW), fun W hW => y1 W (h2.trans hW), fun W hW => y2 W (h2.trans hW), z0, z1, z2⟩
theorem fth_no {A L : List Nat} {x y j : Nat} (hj : j < (mbs (nt A x)).length) (h : nt L (nt (mbs (nt A x)) j) &&& nt A y = 0) : fthB A L x y = false := by
  cases hq : fthB A L x y with
  | false => rfl
  | true =>
    have := List.all_eq_true.1 hq _ (nt_mem hj)
    rw [h] at this
    cases this
theorem fth_yes {A L : List Nat} {x y : Nat} (h : ∀ j, j < (mbs (nt A x)).length → ¬ nt L (nt (mbs (nt A x)) j) &&& nt A y = 0) : fthB A L x y = true := by
  refine List.all_eq_true.2 fun s hs => ?_
  obtain ⟨j, hj, rfl⟩ := mem_nt hs
  simpa using h j hj
set_option maxHeartbeats 2000000 in
set_option maxRecDepth 8192 in
theorem forth_c (v u vl : Value) (A L : List Nat) (x y : Nat) (w : World) (h : Ints w v (zs A)) (hu : ∃ A m c, u = .slice A m c) (hL : Ints w vl (zs L)) (hA : Rl A) (h8 : A.length ≤ 8) (hLl : L.length = A.length) (hLs : Sm L) (hx : x < A.length) (hy : y < A.length) :
    Calls Tryz.prog 58 #[.agg #[.int .i64 (A.length : Int), v, u], .agg #[.int .i64 (A.length : Int), v, u], vl, .int .i64 (x : Int), .int .i64 (y : Int)] w fun e w' => e = .returned (.bool (fthB A L x y)) ∧ Grew w w' := by
  obtain ⟨w2, hw2, hal, y0, y1, y2, z0, z1, z2⟩ := mdl_box2 w (.int .i64 (A.length : Int)) v u (.int .i64 (A.length : Int)) v u
  have hax := hA.sm.at_ hx
  have hay := hA.sm.at_ hy
  have HM := Lib.hid (fun W => membersOf_c (nt A x) hax W)
  have HML := Lib.hid (fun j (hj : j < (mbs (nt A x)).length) => mbs_lt (hA.lt hx) (nt_mem hj))
  have HNO := Lib.hid (fun j hj h => @fth_no A L x y j hj h)
  have HYE := Lib.hid (fun h => @fth_yes A L x y h)
  have hm30 := mbs_len (nt A x)
  obtain ⟨Au, mu, cu, rfl⟩ := hu
  obtain ⟨A1, c1, rfl⟩ := ints_sliceN h
  obtain ⟨A2, c2, rfl⟩ := ints_sliceN hL
  obtain ⟨b, o, rfl, hcell⟩ := cellsN h (by omega)
  obtain ⟨bl, ol, rfl, hlcell⟩ := cellsN hL (by omega)
  rw [hLl] at hlcell ⊢
  have q0 := fun W (hW : Grew w2 W) => hcell x hx W (hal.trans hW)
  have q1 := fun W (hW : Grew w2 W) => hcell y hy W (hal.trans hW)
  have HLC := Lib.hid (fun j (hj : j < A.length) W (hW : Grew w2 W) => hlcell j hj W (hal.trans hW))
  have HLS := Lib.hid (fun j (hj : j < A.length) => hLs.at_ (i := j) (by omega))
  have HG := Lib.hid hal
  clear h hL hcell hlcell hal hLs hA hLl
  generalize fthB A L x y = R at *
  generalize A.length = n at *
  generalize nt A x = ax at *
  generalize nt A y = ay at *
  have r2 := Grew.refl w2
  have k00 := q0 w2 r2
  rw [hw2] at k00
  go_enter Tryz.func58, Tryz.ntmps58
  go_wp2_with fail
  simp only [← hw2]
  clear hw2 k00
  refine (HM.out _).mono ?_
  rintro e w3 ⟨r, rfl, hr, hg3⟩
  obtain ⟨A3, c3, rfl⟩ := ints_sliceN hr.ints
  have HRC := Lib.hid (fun h0 => cellsN hr.ints h0)
  clear hr
  generalize mbs ax = M at *
  generalize hml : M.length = ml at *
  clear hml
  go_wp2_with fail
  go_loopw [21] (fun i wr => ∃ j : Nat, j ≤ ml ∧ i = .int .i64 (j : Int) ∧ Grew w3 wr ∧ Hid (∀ k, k < j → ¬ nt L (nt M k) &&& ay = 0)) (fun i _ => ml - (intOf i).toNat)
  case atStart => exact ⟨0, by omega, rfl, Grew.refl _, Lib.hid (fun k hk => absurd hk (by omega))⟩
  case round =>
    obtain ⟨j, hj, rfl, hB, hall⟩ := hrel
    by_cases hlt : j < ml
    · obtain ⟨br, orr, rfl, hrc⟩ := HRC.out (by omega)
      have k0 := hrc j hlt wr hB
      have hmj := HML.out j hlt
      have hB2 := hg3.trans hB
      have k1 := HLC.out _ hmj wr hB2
      have k2 := q1 wr hB2
      have hls := HLS.out _ hmj
      have hno := Lib.hid (HNO.out j hlt)
      have z1w := z1 wr hB2
      have hyes := Lib.hid (fun (he : ¬ nt L (nt M j) &&& ay = 0) => show ∀ k, k < j + 1 → ¬ nt L (nt M k) &&& ay = 0 from fun k hk => by
        by_cases hkj : k = j
        · rw [hkj]; exact he
        · exact hall.out k (by omega))
      clear hrc
      generalize nt M j = s at *
      generalize nt L s = ls at *
      have hand := and_i64 ls ay (by omega) (by omega)
      have hs0 : (0 : Int) ≤ (s : Int) := by omega
      have hs1 : (s : Int) < (n : Int) := by omega
      by_cases he : ls &&& ay = 0
      · have hR := Lib.hid (hno.out he)
        rw [he] at hand
        clear he hyes hno
        go_wp2_with fail
        go_quiet (fail)
        go_wp2_with fail
        go_ret
        exact ⟨by rw [hR.out]; rfl, HG.out.trans (hB2.drewN _)⟩
      · have hY := Lib.hid (hyes.out he)
        clear hyes hno
        generalize ls &&& ay = q at *
        have hq : ((q : Int) == 0) = false := by simpa using he
        have hqf : ((q : Int) = 0) = False := eq_false (by omega)
        go_wp2_with fail
        go_quiet (fail)
        go_wp2_with fail
        go_roundw
        case rel => exact ⟨j + 1, by omega, by go_num, hB.drewN _, hY⟩
        case measure => simp [intOf]; omega
    · obtain rfl : j = ml := by omega
      have hR := Lib.hid (HYE.out hall.out)
      go_wp2_with fail
      go_ret
      exact ⟨by rw [hR.out]; rfl, HG.out.trans (hg3.trans hB)⟩
set_option maxHeartbeats 2000000 in
set_option maxRecDepth 8192 in
theorem back_c (v u vl : Value) (A L : List Nat) (x y : Nat) (w : World) (h : Ints w v (zs A)) (hu : ∃ A m c, u = .slice A m c) (hL : Ints w vl (zs L)) (hA : Rl A) (h8 : A.length ≤ 8) (hLl : L.length = A.length) (hLs : Sm L) (hx : x < A.length) (hy : y < A.length) :
    Calls Tryz.prog 59 #[.agg #[.int .i64 (A.length : Int), v, u], .agg #[.int .i64 (A.length : Int), v, u], vl, .int .i64 (x : Int), .int .i64 (y : Int)] w fun e w' => e = .returned (.bool (bakB A L x y)) ∧ Grew w w' := by
  obtain ⟨w2, hw2, hal, y0, y1, y2, z0, z1, z2⟩ := mdl_box2 w (.int .i64 (A.length : Int)) v u (.int .i64 (A.length : Int)) v u
  have hax := hA.lt hx
  have hay := hA.sm.at_ hy
  have hims : img L (nt A x) < 1073741824 := orK_sm hLs _
  have KI := Lib.hid (fun W (hW : Grew w2 W) => image_c vl L (nt A x) W (hL.grew (hal.trans hW)) hLs (by omega) (by rw [hLl]; exact hax))
  have KW := Lib.hid (fun W => within_c (nt A y) (img L (nt A x)) (by omega) (by omega) W)
  have hR : bakB A L x y = decide (dif (nt A y) (img L (nt A x)) = 0) := by
    unfold bakB
    rw [Bool.eq_iff_iff, beq_iff_eq, decide_eq_true_eq]
  obtain ⟨Au, mu, cu, rfl⟩ := hu
  obtain ⟨A1, c1, rfl⟩ := ints_sliceN h
  obtain ⟨A2, c2, rfl⟩ := ints_sliceN hL
  obtain ⟨b, o, rfl, hcell⟩ := cellsN h (by omega)
  have q0 := fun W (hW : Grew w2 W) => hcell x hx W (hal.trans hW)
  have q1 := fun W (hW : Grew w2 W) => hcell y hy W (hal.trans hW)
  have HG := Lib.hid hal
  rw [hR]
  clear h hL hcell hal hLs hA hLl hR hims hax hay
  generalize decide (dif (nt A y) (img L (nt A x)) = 0) = R at *
  generalize img L (nt A x) = ig at *
  generalize A.length = n at *
  generalize L.length = l at *
  generalize nt A x = ax at *
  generalize nt A y = ay at *
  have r2 := Grew.refl w2
  have r3 := r2.drew
  go_enter Tryz.func59, Tryz.ntmps59
  go_upto_region 1 with fail
  simp only [← hw2]
  clear hw2
  go_region_held3 (fun w' => Grew w2 w') (first | assumption | exact Grew.trans ‹_› ‹_›) (first
    | (go_at_call 92; refine (KI.out _ (by assumption)).mono ?_; rintro e w9 ⟨rfl, hg9⟩; have h9 : Grew w2 w9 := Grew.trans (by assumption) hg9)
    | (go_at_call 91; refine (KW.out _).mono ?_; rintro e w8 ⟨rfl, hg8⟩; have h8' : Grew w2 w8 := Grew.trans (by assumption) hg8))
  go_wp2_with fail
  go_ret
  exact ⟨rfl, HG.out.trans h8'⟩
end Go.Proofs.YtjlnompmhgjaaaaGreat


/- linkOf of the program: the pairs of worlds for which a condition holds. -/
namespace Go.Proofs.YtjlnompmhgjaaaaGreat
open Go.RowKit
open Fm (Nd Tree)

def lkF (p : Nat → Nat → Bool) (n x y i : Nat) : Nat := if i < x then pmk (p i) n else if i = x then pmk (p x) y else 0
theorem lkF_start (p : Nat → Nat → Bool) (n i : Nat) : lkF p n 0 0 i = 0 := by
  unfold lkF
  rw [if_neg (by omega)]
  split
  · rfl
  · rfl
theorem lkF_row {p : Nat → Nat → Bool} {n x i : Nat} : lkF p n x n i = lkF p n (x + 1) 0 i := by
  unfold lkF
  by_cases h : i < x
  · rw [if_pos h, if_pos (by omega)]
  · rw [if_neg h]
    by_cases hx : i = x
    · subst hx; rw [if_pos rfl, if_pos (by omega)]
    · rw [if_neg hx, if_neg (by omega)]
      split
      · rfl
      · rfl
theorem lkF_at (p : Nat → Nat → Bool) (n x y : Nat) : lkF p n x y x = pmk (p x) y := by unfold lkF; rw [if_neg (by omega), if_pos rfl]
theorem lkF_ne {p : Nat → Nat → Bool} {n x y y' i : Nat} (h : i ≠ x) : lkF p n x y i = lkF p n x y' i := by unfold lkF; rw [if_neg h, if_neg h]
theorem lkF_no {p : Nat → Nat → Bool} {n x y i : Nat} (h : p x y = false) : lkF p n x (y + 1) i = lkF p n x y i := by
  by_cases hi : i = x
  · subst hi; rw [lkF_at, lkF_at, pmk_no h]
  · exact lkF_ne hi
theorem lkF_end {p : Nat → Nat → Bool} {n : Nat} : (List.range n).map (lkF p n n 0) = (List.range n).map fun x => pmk (p x) n :=
  List.map_congr_left fun i hi => by unfold lkF; rw [if_pos (List.mem_range.1 hi)]
theorem NRow.congrW {w : World} {g n c : Nat} {f f' : Nat → Nat} (h : NRow w g n c f) (hf : ∀ i, i < n → f i = f' i) : NRow w g n c f' := by
  obtain ⟨cur, h1, h2, h3, h4, h5⟩ := h
  exact ⟨cur, h1, h2, h3, h4, fun i hi => by rw [← hf i hi]; exact h5 i hi⟩
theorem NRow.ownW {w : World} {g n c B : Nat} {f : Nat → Nat} (h : NRow w g n c f) (hB : B ≤ g) : OwnI w B (.slice (some ⟨g, 0, none⟩) n c) (zs ((List.range n).map f)) := by
  obtain ⟨cur, h1, h2, hn, hm, h3⟩ := h
  have hl : (zs ((List.range n).map f)).length = n := by simp [zs]
  have hk := OwnI.mk_ (L := zs ((List.range n).map f)) hB h1 (by rw [hl]; exact hn) hm h2 (fun i hi => by
    rw [hl] at hi
    rw [h3 i hi]
    simp [it, zs, List.getD, hi])
  rwa [hl] at hk
set_option maxHeartbeats 4000000 in
set_option maxRecDepth 8192 in
theorem linkOf_c (n : Nat) (v u : Value) (f : Nat) (caps : Array Value) (p : Nat → Nat → Bool) (w : World) (hv : ∃ A m c, v = .slice A m c) (hu : ∃ A m c, u = .slice A m c) (hn : n ≤ 8)
    (hf : ∀ (x y : Nat) W, x < n → y < n → Grew w W → Calls Tryz.prog f (#[.int .i64 (x : Int), .int .i64 (y : Int)] ++ caps) W fun e W' => e = .returned (.bool (p x y)) ∧ Grew W W') (eg : ∀ args w, (callFunc f args).run Tryz.prog w = .ok (.enter f args) w) :
    Calls Tryz.prog 54 #[.agg #[.int .i64 (n : Int), v, u], .agg #[.int .i64 (n : Int), v, u], .func (.func f) #[] caps] w (GivesI w (zs ((List.range n).map fun x => pmk (p x) n))) := by
  obtain ⟨w2, hw2, hal, y0, y1, y2, z0, z1, z2⟩ := mdl_box2 w (.int .i64 (n : Int)) v u (.int .i64 (n : Int)) v u
  have hmk : ∀ W : World, (Instr.makeSlice 24 (.int .i64 (n : Int)) (.int .i64 (n : Int))).run Tryz.prog W = .ok (.slice (some ⟨W.heap.size, 0, none⟩) n n) (W.alloc (.cells (madeCells #[Value.int .i64 0] n) 2)) := fun W => by have := run_make_rows (P := Tryz.prog) 24 2 (.int .i64 0) 1 8 #[.int .i64 0] Tryz.underlying24 Tryz.infoI rfl .i64 .i64 n (by omega) (by omega) W; rwa [Nat.mul_one] at this
  obtain ⟨Av, mv, cv, rfl⟩ := hv
  obtain ⟨Au, mu, cu, rfl⟩ := hu
  have hs2 : w2.heap.size = w.heap.size + 1 + 1 := by rw [hw2]; simp
  obtain ⟨wa, hwa⟩ : ∃ wa, wa = w2.alloc (.cells (madeCells #[Value.int .i64 0] n) 2) := ⟨_, rfl⟩
  have hga : Grew w2 wa := by rw [hwa]; exact (Grew.refl w2).alloc _
  have hR0 : NRow wa (w.heap.size + 1 + 1) n n (lkF p n 0 0) := ⟨_, by rw [hwa, ← hs2]; exact blk_new w2 _, size_madeCells _ _, Nat.le_refl _, by omega, fun i hi => by rw [made_z hi, lkF_start]; rfl⟩
  have HF := Lib.hid (fun (x y : Nat) W (hx : x < n) (hy : y < n) (hW : Only (w.heap.size + 1 + 1) wa W) => hf x y W hx hy (hal.trans (hW.grew_of hga (by omega))))
  have HG := Lib.hid (fun W (hW : Only (w.heap.size + 1 + 1) wa W) => show Grew w W ∧ Grew w2 W from ⟨hal.trans (hW.grew_of hga (by omega)), hW.grew_of hga (by omega)⟩)
  have HR0 := Lib.hid hR0
  have HO0 := Lib.hid (Only.refl (w.heap.size + 1 + 1) wa)
  have HSZ := Lib.hid (show w.heap.size ≤ w.heap.size + 1 + 1 by omega)
  have hPL := Lib.hid (fun x y (hy : y < n) => show pmk (p x) y < 256 from Nat.lt_of_lt_of_le (pmk_lt (p x) y) (Nat.le_trans (Nat.pow_le_pow_right (n := 2) (by omega) (show y ≤ 8 by omega)) (by decide)))
  have r2 := Grew.refl w2
  have k00 := y0 w2 r2
  rw [hw2] at k00
  clear hf hR0 hga hal hs2
  go_enter Tryz.func54, Tryz.ntmps54
  go_wp2_with fail
  simp only [← hw2]
  simp only [← hwa]
  clear hw2 hwa k00
  go_loopw [17] (fun i wr => ∃ x : Nat, x ≤ n ∧ i = .int .i64 (x : Int) ∧ Hid (Only (w.heap.size + 1 + 1) wa wr) ∧ Hid (NRow wr (w.heap.size + 1 + 1) n n (lkF p n x 0))) (fun i _ => n - (intOf i).toNat)
  case atStart => exact ⟨0, by omega, rfl, HO0, HR0⟩
  case round =>
    obtain ⟨x, hx, rfl, hO, hR⟩ := hrel
    by_cases hlt : x < n
    · have za := z0 wr ((HG.out wr hO.out).2)
      go_wp2_with fail
      go_loopw [23] (fun i wr => ∃ y : Nat, y ≤ n ∧ i = .int .i64 (y : Int) ∧ Hid (Only (w.heap.size + 1 + 1) wa wr) ∧ Hid (NRow wr (w.heap.size + 1 + 1) n n (lkF p n x y))) (fun i _ => n - (intOf i).toNat)
      case atStart => exact ⟨0, by omega, rfl, hO, hR⟩
      case round =>
        clear hO hR za
        obtain ⟨y, hy, rfl, hO, hR⟩ := hrel
        by_cases hly : y < n
        · have KF := Lib.hid (HF.out x y wr hlt hly hO.out)
          go_wp2_with fail
          go_at_fn f
          refine KF.out.mono ?_
          rintro e w5 ⟨rfl, hg5⟩
          have hO5 := Lib.hid (hO.out.grew hg5)
          have hR5 := Lib.hid (hR.out.grew hg5)
          clear hO hR KF
          cases hp : p x y with
          | false =>
            have hR6 := Lib.hid (hR5.out.congrW (fun i _ => (lkF_no (n := n) hp).symm))
            go_wp2_with fail
            go_roundw
            case rel => exact ⟨y + 1, by omega, by go_num, hO5, hR6⟩
            case measure => simp [intOf] <;> omega
          | true =>
            have hpl := hPL.out x y hly
            have hkn := Lib.hid (pmk_yes (p := p x) (k := y) hp)
            have q1 := fun W (hW : Grew w5 W) => (hR5.out.grew hW).cell hlt
            have q2 := fun W (hW : Grew w5 W) => (hR5.out.grew hW).free x
            have hat : lkF p n x y x = pmk (p x) y := lkF_at p n x y
            rw [hat] at q1
            have hR6 := Lib.hid (hR5.out.set (f' := lkF p n x (y + 1)) hlt (z := pmk (p x) (y + 1)) (lkF_at p n x (y + 1)) (fun i _ hne => lkF_ne hne))
            rw [hkn.out] at hR6
            have hp2 : 2 ^ y ≤ 128 := Nat.le_trans (Nat.pow_le_pow_right (n := 2) (by omega) (show y ≤ 7 by omega)) (by decide)
            have hsh := pow63 (k := y) (by omega)
            have hwp := wrap_pow (k := y) (by omega)
            generalize pmk (p x) y = K0 at *
            have hor := or_i64 K0 (2 ^ y) (by omega) (by omega)
            have hy64 : (y : Int) < 64 := by omega
            have hy64n : y < 64 := by omega
            generalize (2 : Nat) ^ y = py at *
            have hO6 := Lib.hid (hO5.out.setCell (o := x) (.int .i64 ((K0 ||| py : Nat) : Int)))
            generalize K0 ||| py = K1 at *
            have g5 := Grew.refl w5
            have g5d := g5.drew
            clear hpl hkn hat
            have o5 := Only.refl (w.heap.size + 1 + 1) w5
            have o5d := o5.drew
            have hx0 : (0 : Int) ≤ (x : Int) := by omega
            have hx1 : (x : Int) < (n : Int) := by omega
            go_wp2_with fail
            go_region
            clear q1 q2 g5 g5d o5 o5d
            go_wp2_with fail
            go_roundw
            case rel =>
              try rw [hwp, hor]
              exact ⟨y + 1, by omega, by go_num, Lib.hid hO6.out.drew, Lib.hid (hR6.out.grew (Grew.refl _).drew)⟩
            case measure => simp [intOf] <;> omega
        · obtain rfl : y = n := by omega
          have hR6 := Lib.hid (hR.out.congrW (fun i _ => lkF_row))
          go_wp2_with fail
          go_roundw
          case rel => exact ⟨x + 1, by omega, by go_num, hO, hR6⟩
          case measure => simp [intOf] <;> omega
    · obtain rfl : x = n := by omega
      have hOW := Lib.hid (hR.out.ownW (Nat.le_refl _))
      rw [lkF_end] at hOW
      have HGG := Lib.hid ((HG.out wr hO.out).1)
      go_wp2_with fail
      go_ret
      exact ⟨_, rfl, OwnI.base hOW.out HSZ.out, HGG.out⟩
end Go.Proofs.YtjlnompmhgjaaaaGreat


/- isFormula, FormulaText and PartEnd of the program at a tree. -/
namespace Go.Proofs.YtjlnompmhgjaaaaGreat
open Go.RowKit
open Fm (Nd Tree)

theorem isFormula_c (v : Value) (t : Tree) (w : World) (h : Nodes w v (Fm.enc t)) (hn : (Fm.enc t).length ≤ 40) :
    Calls Tryz.prog 52 #[v] w fun e w' => e = .returned (.bool true) ∧ Grew w w' := by
  have hpos := Fm.enc_pos t
  have HC := fun w h => containsFunc_c v (Fm.enc t) _ _ w h (by omega) isFormula1_ok (enters_of Tryz.func85 (by kernel_rfl) rfl)
  rw [enc_noNode] at HC
  replace HC := Lib.hid HC
  have HP := Lib.hid (fun w h => partEnd_at v (Fm.enc t) 0 t w h (by omega) (at_all t))
  obtain ⟨A, c, rfl⟩ := nodes_slice h
  have HN := Lib.hid h
  clear h
  generalize Fm.enc t = xs at *
  generalize hL : xs.length = n at *
  clear hL
  go_enter Tryz.func52, Tryz.ntmps52
  go_wp2_with fail
  refine (HC.out _ HN.out).mono ?_
  rintro e w1 ⟨rfl, hg1⟩
  go_wp2_with fail
  refine (HP.out _ (HN.out.grew hg1)).mono ?_
  rintro e w2 ⟨rfl, hg2⟩
  go_wp2_with fail
  go_ret
  exact ⟨by simp, hg1.trans hg2⟩

end Go.Proofs.YtjlnompmhgjaaaaGreat


/- Contracts of the library (comparing strings), laid at this program. -/
namespace Go.Proofs
open Go.Shelf
def Tryz.lays106_ren : Go.Shelf.Ren := ⟨fun | 106 => 116 | 213 => 132 | 265 => 142 | n => n, fun | 9 => 9 | 3 => 3 | n => n, fun | n => n⟩
theorem Tryz.lays106 : Go.Proofs.Lays.n106 Tryz.prog Tryz.lays106_ren := {
  mixed := by kernel_rfl
  f106 := Tryz.func116.trans (congrArg some (by kernel_rfl))
  f213 := Tryz.func132.trans (congrArg some (by kernel_rfl))
  f265 := Tryz.func142.trans (congrArg some (by kernel_rfl))
  t3 := Tryz.underlying3
  a3 := Tryz.isAgg3
  z3 := Tryz.sizeOf3
  v3 := Tryz.zeroValue3
  t9 := Tryz.underlying9
  a9 := Tryz.isAgg9
  z9 := Tryz.sizeOf9
  v9 := Tryz.zeroValue9 }
open Go.RowKit in
theorem Tryz.strings_Compare (a b : ByteArray) (w : World) :
    Calls Tryz.prog 116 #[.string a, .string b] w fun e w' => e = .returned (.int .i64 (Lib.compareBytes a.data.toList b.data.toList)) ∧ w' = w := Any.strings_Compare Tryz.lays106 a b w
end Go.Proofs


/- Rows of slices of nodes of the call's own: an append of one slice. -/
namespace Go.Proofs.YtjlnompmhgjaaaaGreat
open Go.RowKit
open Fm (Nd)

def OwnV (w : World) (B : Nat) (v : Value) (us : List Value) : Prop := w.ownsRow B 31 1 v us.length us

theorem own_app {w w' : World} {B B' : Nat} {u v : Value} {xs : List Nd} {us : List Value} (h : Own w B u xs) (hv : OwnV w B' v us) (hg : w.grownBy w' v.ownBlock) : Own w' B u xs := by
  rcases hv.2 with ⟨rfl, _⟩ | ⟨g, cap, cur, rfl, _, hh, _⟩
  · exact own_grew h (by
      have hg' : w.grownBy w' none := hg
      exact ⟨hg'.os, hg'.tape, hg'.output, hg'.size, fun i hi => hg'.block i hi (by simp)⟩)
  · exact own_only h (show Only g w w' from hg) (own_ne h hh (by decide))

theorem infoSl : (Tryz.prog.info? 31).map (fun i => (i.zero, i.size, i.bytes)) = some (some (.slice none 0 0), 1, 24) := by kernel_rfl

theorem wpList_appV {ops : Array Oper} {rest : List Oper} {o : Oper} {a : Act} {Q : Exit → Act → World → Prop} {w w0 : World} (s x : Operand) (hgd : o.guard = none)
    (ho : o.op = .call { callee := .builtin .append, args := #[s, x], argTypes := #[48, 48] })
    (v : Value) (us : List Value) (hs : a.eval s = v) (hown : OwnV w w0.heap.size v us) (hg : Grew w0 w) (vx u : Value) (hx : a.eval x = vx) (hr : Rd w 1 vx 1 [u]) (h1 : u.oneCell' = true) (hn : us.length ≤ 1048576)
    (h : ∀ v' w', OwnV w' w0.heap.size v' (us ++ [u]) → Grew w0 w' → w.grownBy w' v.ownBlock → wpList Tryz.prog ops Q rest (a.put o.dst v') w') : wpList Tryz.prog ops Q (o :: rest) a w := by
  obtain ⟨i0, hi0, hz0, hz1, hz2⟩ := info_parts infoSl
  refine wpList_append_rd w hgd s x _ ho w0.heap.size 31 i0 _ 1 24 Tryz.underlying48 hi0 hz0 hz1 hz2 rfl (by omega) v us.length us hs hown vx 1 [u] hx hr (by simpa using h1) (by unfold maxLen; omega) (by omega) hg.size ?_
  intro v' w' h1 h2 h3
  refine h v' w' ?_ (hg.grown h2 fun k hk => (hown.lt k hk).1) h2
  unfold OwnV
  rw [List.length_append]
  exact h1

theorem own_one {w : World} {B : Nat} {u : Value} {xs : List Nd} (h : Own w B u xs) : u.oneCell' = true := by
  obtain ⟨A, c, rfl⟩ := nodes_slice h.nodes
  rfl
theorem rd_lit (w : World) (u : Value) (t : TypeId) : Rd (w.alloc (.cells #[u] t)) 1 (.slice (some ⟨w.heap.size, 0, none⟩) 1 1) 1 [u] := by
  refine ⟨rfl, by omega, .inr ⟨w.heap.size, 0, 1, rfl, by omega, by omega, by simp, fun j x hx => ?_⟩⟩
  have hj : j = 0 := by
    have := (List.getElem?_eq_some_iff.1 hx).1
    simp at this
    omega
  subst hj
  simp at hx
  subst hx
  simp

theorem own_empty (w : World) : OwnV (w.alloc (.cells #[] 31)) w.heap.size (.slice (some ⟨w.heap.size, 0, none⟩) 0 0) [] :=
  World.ownsRow_lit (e := 31) (size := 1) w #[] 0 (Nat.le_refl _) (by omega) rfl
end Go.Proofs.YtjlnompmhgjaaaaGreat


/- CompareFormulas of the program at two formulas. -/
namespace Go.Proofs.YtjlnompmhgjaaaaGreat
open Go.RowKit

theorem compare_c (v1 v2 : Value) (s t : Fm.Tree) (w : World) (h1 : Nodes w v1 (Fm.enc s)) (h2 : Nodes w v2 (Fm.enc t)) (n1 : (Fm.enc s).length ≤ 40) (n2 : (Fm.enc t).length ≤ 40) :
    Calls Tryz.prog 103 #[v1, v2] w fun e w' => e = .returned (.int .i64 (Lib.compareBytes (Fm.txt s 0) (Fm.txt t 0))) ∧ Grew w w' := by
  have K1 := Lib.hid (text_c s v1 w h1 (by omega))
  have K2 := Lib.hid (fun W (hW : Grew w W) => text_c t v2 W (h2.grew hW) (by omega))
  have K3 := Lib.hid (fun W => Tryz.strings_Compare (bs (Fm.txt s 0)) (bs (Fm.txt t 0)) W)
  rw [bs_list, bs_list] at K3
  unfold Says at K1 K2
  obtain ⟨A1, c1, rfl⟩ := nodes_slice h1
  obtain ⟨A2, c2, rfl⟩ := nodes_slice h2
  clear h1 h2 n1 n2
  generalize Lib.compareBytes (Fm.txt s 0) (Fm.txt t 0) = R at *
  generalize (Fm.enc s).length = l1 at *
  generalize (Fm.enc t).length = l2 at *
  go_enter Tryz.func103, Tryz.ntmps103
  go_wp2_with fail
  refine (K1.out).mono ?_
  rintro e w1 ⟨rfl, hg1⟩
  go_wp2_with fail
  refine (K2.out _ hg1).mono ?_
  rintro e w2 ⟨rfl, hg2⟩
  go_wp2_with fail
  refine (K3.out _).mono ?_
  rintro e w3 ⟨rfl, rfl⟩
  go_wp2_with fail
  go_ret
  exact ⟨rfl, hg1.trans hg2⟩
end Go.Proofs.YtjlnompmhgjaaaaGreat


/- How texts are compared: 0 where they are the same, less than 0 where the first is ahead. No program is in sight. -/
namespace Go.Proofs.YtjlnompmhgjaaaaGreat
open Go.Sort

theorem cmpB_less : ∀ (a b : List UInt8), decide (Lib.compareBytes a b < 0) = Op.bytesLess a b
  | [], [] => by rw [bytesLess_eq]; simp [Lib.compareBytes]
  | [], _ :: _ => by rw [bytesLess_eq]; simp [Lib.compareBytes]
  | _ :: _, [] => by rw [bytesLess_eq]; simp [Lib.compareBytes]
  | a :: xs, b :: ys => by
    have ih := cmpB_less xs ys
    rw [bytesLess_eq] at ih ⊢
    unfold Lib.compareBytes
    by_cases h1 : a < b
    · rw [if_pos h1]
      have : a :: xs < b :: ys := List.cons_lt_cons_iff.2 (.inl h1)
      simp [this]
    · rw [if_neg h1]
      by_cases h2 : b < a
      · rw [if_pos h2]
        have : ¬ a :: xs < b :: ys := fun h => by
          rcases List.cons_lt_cons_iff.1 h with h | ⟨h, _⟩
          · exact h1 h
          · subst h; exact absurd h2 (UInt8.lt_irrefl _)
        simp [this]
      · rw [if_neg h2, ih]
        have : a = b := UInt8.le_antisymm (UInt8.not_lt.1 h2) (UInt8.not_lt.1 h1)
        subst this
        have hiff : a :: xs < a :: ys ↔ xs < ys := ⟨fun h => by
          rcases List.cons_lt_cons_iff.1 h with h | ⟨_, h⟩
          · exact absurd h (UInt8.lt_irrefl _)
          · exact h, fun h => List.cons_lt_cons_iff.2 (.inr ⟨rfl, h⟩)⟩
        simp only [hiff]
end Go.Proofs.YtjlnompmhgjaaaaGreat


/- Sorting formulas by their texts: the library's insertion sort, walked. -/
namespace Go.Proofs.YtjlnompmhgjaaaaGreat
open Go.RowKit
open Fm (Nd Tree)

def VRow (w : World) (g n c : Nat) (f : Nat → Value) : Prop := ∃ cur, w.heap[g]? = some (.cells cur 31 (0, 0)) ∧ cur.size = c ∧ n ≤ c ∧ c ≤ 9223372036854775807 ∧ ∀ i, i < n → cur[i]? = some (f i)
theorem VRow.lt {w : World} {g n c : Nat} {f : Nat → Value} (h : VRow w g n c f) : g < w.heap.size := by
  obtain ⟨cur, h1, _⟩ := h
  exact blk_lt h1
theorem VRow.grew {w w' : World} {g n c : Nat} {f : Nat → Value} (h : VRow w g n c f) (hg : Grew w w') : VRow w' g n c f := by
  have hl := h.lt
  obtain ⟨cur, h1, h2⟩ := h
  exact ⟨cur, (hg.block hl).trans h1, h2⟩
theorem VRow.cell {w : World} {g n c : Nat} {f : Nat → Value} (h : VRow w g n c f) {p : Nat} (hp : p < n) : w.cell? ⟨g, p, none⟩ = some (f p) := by
  obtain ⟨cur, h1, _, _, _, h3⟩ := h
  rw [blk_cell h1]
  exact h3 p hp
theorem VRow.free {w : World} {g n c : Nat} {f : Nat → Value} (h : VRow w g n c f) (p : Nat) : w.frozen? ⟨g, p, none⟩ = false := by
  obtain ⟨cur, h1, _⟩ := h
  exact blk_frozen h1 p
theorem VRow.set {w : World} {g n c : Nat} {f : Nat → Value} (h : VRow w g n c f) {p : Nat} (hp : p < n) (z : Value) : VRow (w.setCell ⟨g, p, none⟩ z) g n c (fun i => if i = p then z else f i) := by
  obtain ⟨cur, h1, h2, hn, hm, h3⟩ := h
  refine ⟨_, blk_set h1 p _, by simp [h2], hn, hm, fun i hi => ?_⟩
  rw [Array.getElem?_setIfInBounds]
  by_cases hip : p = i
  · subst hip
    rw [if_pos rfl, if_pos (by omega)]
    show some z = some (if p = p then z else f p)
    rw [if_pos rfl]
  · rw [if_neg hip, h3 i hi]
    show some (f i) = some (if i = p then z else f i)
    rw [if_neg (fun h : i = p => hip h.symm)]
theorem VRow.congr {w : World} {g n c : Nat} {f f' : Nat → Value} (h : VRow w g n c f) (hf : ∀ i, i < n → f i = f' i) : VRow w g n c f' := by
  obtain ⟨cur, h1, h2, h3, h4, h5⟩ := h
  exact ⟨cur, h1, h2, h3, h4, fun i hi => by rw [← hf i hi]; exact h5 i hi⟩
structure VS (W : World) (g n c : Nat) (F : Nat → Value) (T : Nat → Tree) : Prop where
  r : VRow W g n c F
  o : ∀ i, i < n → Own W 0 (F i) (Fm.enc (T i)) ∧ (Fm.enc (T i)).length ≤ 40
theorem VS.grew {W W' : World} {g n c : Nat} {F : Nat → Value} {T : Nat → Tree} (h : VS W g n c F T) (hg : Grew W W') : VS W' g n c F T := ⟨h.r.grew hg, fun i hi => ⟨(h.o i hi).1.grew hg, (h.o i hi).2⟩⟩
theorem VS.own_set {W : World} {g n c : Nat} {F : Nat → Value} {T : Nat → Tree} (h : VS W g n c F T) {W' : World} (hW : Only g W W') {i : Nat} (hi : i < n) : Own W' 0 (F i) (Fm.enc (T i)) := by
  obtain ⟨cur, h1, _⟩ := h.r
  exact own_only (h.o i hi).1 hW (own_ne (h.o i hi).1 h1 (by decide))
theorem VS.swap1 {W : World} {g n c : Nat} {F : Nat → Value} {T : Nat → Tree} (h : VS W g n c F T) {j : Nat} (hj : 0 < j) (hn : j < n) : VS ((W.setCell ⟨g, j, none⟩ (F (j - 1))).setCell ⟨g, j - 1, none⟩ (F j)) g n c (swF F j) (swF T j) := by
  have hO : Only g W ((W.setCell ⟨g, j, none⟩ (F (j - 1))).setCell ⟨g, j - 1, none⟩ (F j)) := ((Only.refl g W).setCell _).setCell _
  refine ⟨((h.r.set hn (F (j - 1))).set (by omega) (F j)).congr fun i hi => ?_, fun i hi => ?_⟩
  · unfold swF
    by_cases h1 : i = j - 1
    · rw [if_pos h1, if_neg (by omega), if_pos h1]
    · rw [if_neg h1]
      by_cases h2 : i = j
      · rw [if_pos h2, if_pos h2]
      · rw [if_neg h2, if_neg h2, if_neg h1]
  · unfold swF
    by_cases h2 : i = j
    · rw [if_pos h2, if_pos h2]; exact ⟨h.own_set hO (by omega), (h.o _ (by omega)).2⟩
    · rw [if_neg h2, if_neg h2]
      by_cases h1 : i = j - 1
      · rw [if_pos h1, if_pos h1]; exact ⟨h.own_set hO (by omega), (h.o _ (by omega)).2⟩
      · rw [if_neg h1, if_neg h1]; exact ⟨h.own_set hO hi, (h.o _ hi).2⟩
theorem cmpT_lt (a b : Tree) : (Lib.compareBytes (Fm.txt a 0) (Fm.txt b 0) < 0) ↔ ltT a b := by
  have h := cmpB_less (Fm.txt a 0) (Fm.txt b 0)
  rw [bytesLess_eq] at h
  exact decide_eq_decide.1 h
end Go.Proofs.YtjlnompmhgjaaaaGreat


/- The library's insertion sort at formulas, walked. -/
namespace Go.Proofs.YtjlnompmhgjaaaaGreat
open Go.RowKit
open Fm (Nd Tree)

set_option maxHeartbeats 4000000 in
set_option maxRecDepth 100000 in
theorem insertion_c (g n c : Nat) (F0 : Nat → Value) (T0 : Nat → Tree) (w : World) (h : VS w g n c F0 T0) (h1 : 1 ≤ n) (h8 : n ≤ 8) :
    Calls Tryz.prog 122 #[.slice (some ⟨g, 0, none⟩) n c, .int .i64 0, .int .i64 (n : Int), .func (.func 103) #[] #[]] w fun e w' => e = .returned (.tuple #[]) ∧ Only g w w' ∧ ∃ F T, VS w' g n c F T ∧ SrtK T n ∧ MemK T T0 n := by
  have HK0 := Lib.hid (show SrtK T0 1 from fun p q hpq hq => absurd hpq (by omega))
  have HM0 := Lib.hid (MemK.refl T0 n)
  have HV0 := Lib.hid h
  have HO0 := Lib.hid (Only.refl g w)
  clear h
  go_enter Tryz.func122, Tryz.ntmps122
  go_wp2_with fail
  go_loopw [8] (fun iv wr => ∃ (i : Nat) (F : Nat → Value) (T : Nat → Tree), 1 ≤ i ∧ i ≤ n ∧ iv = .int .i64 (i : Int) ∧ Hid (VS wr g n c F T) ∧ Hid (SrtK T i) ∧ Hid (MemK T T0 n) ∧ Hid (Only g w wr)) (fun iv _ => n - (intOf iv).toNat)
  case atStart => exact ⟨1, F0, T0, by omega, by omega, rfl, HV0, HK0, HM0, HO0⟩
  case round =>
    obtain ⟨i, F, T, hi1, hi, rfl, hV, hS, hM, hO⟩ := hrel
    by_cases hlt : i < n
    · have HST := Lib.hid hS.out.start
      clear hS
      go_wp2_with fail
      go_loopw [9] (fun jv wx => ∃ (j : Nat) (F : Nat → Value) (T : Nat → Tree), j ≤ i ∧ jv = .int .i64 (j : Int) ∧ Hid (VS wx g n c F T) ∧ Hid (SrtM T i j) ∧ Hid (MemK T T0 n) ∧ Hid (Only g w wx)) (fun jv _ => (intOf jv).toNat)
      case atStart => exact ⟨i, F, T, by omega, rfl, hV, HST, hM, hO⟩
      case round =>
        clear hV hM hO HST
        obtain ⟨j, F, T, hj, rfl, hV, hS, hM, hO⟩ := hrel
        cases j with
        | zero =>
          have HD := Lib.hid (hS.out.done (Or.inl rfl))
          clear hS
          go_wp2_with fail
          go_quiet (fail)
          go_wp2_with fail
          go_roundw
          case rel => exact ⟨i + 1, F, T, by omega, by omega, by go_num, Lib.hid (hV.out.grew ((Grew.refl _).drewN _)), HD, hM, Lib.hid (hO.out.drewN _)⟩
          case measure => simp [intOf]; omega
        | succ j =>
          have hwj : IntKind.i64.wrap ((j : Int) + 1 - 1) = (j : Int) := by rw [IntKind.wrap_i64]; omega
          have hj0 : (0 : Int) < (j : Int) + 1 := by omega
          obtain ⟨ha1, ha2⟩ := hV.out.o (j + 1) (by omega)
          obtain ⟨hb1, hb2⟩ := hV.out.o j (by omega)
          have KC := Lib.hid (fun W (hW : Grew wr W) => compare_c (F (j + 1)) (F j) (T (j + 1)) (T j) W (ha1.nodes.grew hW) (hb1.nodes.grew hW) ha2 hb2)
          have hcl := cmpT_lt (T (j + 1)) (T j)
          generalize Lib.compareBytes (Fm.txt (T (j + 1)) 0) (Fm.txt (T j) 0) = cb at *
          obtain ⟨Aa, ca, ea⟩ := nodes_slice ha1.nodes
          obtain ⟨Ab, cc, eb⟩ := nodes_slice hb1.nodes
          have q1 := fun W (hW : Grew wr W) => (hV.out.r.grew hW).cell (p := j + 1) (by omega)
          have q2 := fun W (hW : Grew wr W) => (hV.out.r.grew hW).cell (p := j) (by omega)
          rw [ea] at q1 KC
          rw [eb] at q2 KC
          generalize (Fm.enc (T (j + 1))).length = la at *
          generalize (Fm.enc (T j)).length = lb at *
          clear ha1 hb1
          have hji : (j : Int) + 1 < (n : Int) := by omega
          have hjn : (j : Int) < (n : Int) := by omega
          have hjp : (0 : Int) ≤ (j : Int) := by omega
          have hjp1 : (0 : Int) ≤ (j : Int) + 1 := by omega
          have hjt : ((j : Int) + 1).toNat = j + 1 := by omega
          have hwj2 : IntKind.i64.wrap (((j + 1 : Nat) : Int) - 1) = (j : Int) := by rw [IntKind.wrap_i64]; omega
          have hwj3 : wrap64 ((j : Int) + 1 - 1) = (j : Int) := by unfold wrap64; omega
          have hwj4 : wrap64 (j : Int) = (j : Int) := by unfold wrap64; omega
          have hwj5 : IntKind.i64.wrap (j : Int) = (j : Int) := by rw [IntKind.wrap_i64]; omega
          have r0 := Grew.refl wr
          have r0d := r0.drew
          have HSW1 := Lib.hid (fun W (hW : Grew wr W) => show VS ((W.setCell ⟨g, j + 1, none⟩ (.slice Ab lb cc)).setCell ⟨g, j, none⟩ (.slice Aa la ca)) g n c (swF F (j + 1)) (swF T (j + 1)) from by
            have := (hV.out.grew hW).swap1 (j := j + 1) (by omega) (by omega)
            rwa [Nat.add_sub_cancel, ea, eb] at this)
          have HFR := Lib.hid (fun W (hW : Grew wr W) => show (∀ p, W.frozen? ⟨g, p, none⟩ = false) from fun p => (hV.out.r.grew hW).free p)
          by_cases hl : ltT (T (j + 1)) (T j)
          · have hcb : (cb < 0) = True := eq_true (hcl.2 hl)
            have hcd : decide (cb < 0) = true := decide_eq_true (hcl.2 hl)
            go_upto_region 4 with fail
            go_region_held3 (fun w' => Grew wr w') (first | assumption | exact Grew.trans ‹_› ‹_›) (first
              | (go_at_call 103; refine (KC.out _ (by assumption)).mono ?_; rintro e w9 ⟨rfl, hg9⟩; have h9 : Grew wr w9 := Grew.trans (by assumption) hg9))
            have h9 := r0d.trans hg9
            have hM2 := Lib.hid (hM.out.sw (j := j + 1) (by omega) (by omega))
            have hS2 := Lib.hid (hS.out.step (by omega) hl)
            have f2 := HFR.out _ h9
            have HV1 := Lib.hid ((HSW1.out _ h9).grew (Grew.refl _).drew)
            have HO2 := Lib.hid ((((hO.out.grew h9).setCell (o := j + 1) (.slice Ab lb cc)).setCell (o := j) (.slice Aa la ca)).drew)
            clear KC hcl hl hcb hcd HSW1 HFR hV hM hS hO hg9 ea eb
            go_wp2_with fail
            go_region
            go_wp2_with fail
            go_roundw
            case rel => exact ⟨j, swF F (j + 1), swF T (j + 1), by omega, by go_num, HV1, hS2, hM2, HO2⟩
            case measure => simp [intOf] <;> omega
          · have hcb : (cb < 0) = False := eq_false (fun hh => hl (hcl.1 hh))
            have hcd : decide (cb < 0) = false := decide_eq_false (fun hh => hl (hcl.1 hh))
            go_upto_region 4 with fail
            go_region_held3 (fun w' => Grew wr w') (first | assumption | exact Grew.trans ‹_› ‹_›) (first
              | (go_at_call 103; refine (KC.out _ (by assumption)).mono ?_; rintro e w9 ⟨rfl, hg9⟩; have h9 : Grew wr w9 := Grew.trans (by assumption) hg9))
            have h9 := r0d.trans hg9
            have HD := Lib.hid (hS.out.done (Or.inr hl))
            have HV1 := Lib.hid (hV.out.grew h9)
            have HO2 := Lib.hid (hO.out.grew h9)
            clear KC hcl hl hcb hcd HSW1 HFR hV hS hO hg9 ea eb
            go_wp2_with fail
            go_roundw
            case rel => exact ⟨i + 1, F, T, by omega, by omega, by go_num, HV1, HD, hM, HO2⟩
            case measure => simp [intOf] <;> omega
    · obtain rfl : i = n := by omega
      go_wp2_with fail
      (try simp only [Exit.inBlock, Exit.then])
      first | refine bodyPost_end (results_none rfl _ _ _) rfl ?_ | refine bodyPost_ret (results_none rfl _ _ _) rfl ?_
      exact ⟨rfl, hO.out, F, T, hV.out, hS.out, hM.out⟩
end Go.Proofs.YtjlnompmhgjaaaaGreat


/- The library's sort at a short row of formulas: bits.Len, pdqsort, SortFunc. -/
namespace Go.Proofs.YtjlnompmhgjaaaaGreat
open Go.RowKit
open Fm (Nd Tree)

set_option maxHeartbeats 1000000 in
theorem len64_c (n : Nat) (hn : n ≤ 8) (w : World) : Calls Tryz.prog 131 #[.int .u64 (n : Int)] w fun e w' => (∃ k : Int, e = .returned (.int .i64 k)) ∧ w' = w := by
  have hc : n = 0 ∨ n = 1 ∨ n = 2 ∨ n = 3 ∨ n = 4 ∨ n = 5 ∨ n = 6 ∨ n = 7 ∨ n = 8 := by omega
  rcases hc with rfl | rfl | rfl | rfl | rfl | rfl | rfl | rfl | rfl <;>
  · go_enter Tryz.func131, Tryz.ntmps131
    go_wp2_with fail
    go_ret
    exact ⟨⟨_, rfl⟩, rfl⟩
set_option maxHeartbeats 1000000 in
theorem len_c (n : Nat) (hn : n ≤ 8) (w : World) : Calls Tryz.prog 115 #[.int .u64 (n : Int)] w fun e w' => (∃ k : Int, e = .returned (.int .i64 k)) ∧ w' = w := by
  have K := Lib.hid (fun W => len64_c n hn W)
  have h0 : (0 : Int) ≤ (n : Int) := by omega
  have h1 : (n : Int) ≤ 8 := by omega
  go_enter Tryz.func115, Tryz.ntmps115
  go_wp2_with fail
  refine (K.out _).mono ?_
  rintro e w1 ⟨⟨k, rfl⟩, hw⟩
  rw [hw]
  go_wp2_with fail
  go_ret
  exact ⟨⟨_, rfl⟩, rfl⟩
set_option maxHeartbeats 4000000 in
set_option maxRecDepth 100000 in
theorem pdq_c (g n c : Nat) (F0 : Nat → Value) (T0 : Nat → Tree) (k : Int) (w : World) (h : VS w g n c F0 T0) (h1 : 1 ≤ n) (h8 : n ≤ 8) :
    Calls Tryz.prog 114 #[.slice (some ⟨g, 0, none⟩) n c, .int .i64 0, .int .i64 (n : Int), .int .i64 k, .func (.func 103) #[] #[]] w fun e w' => e = .returned (.tuple #[]) ∧ Only g w w' ∧ ∃ F T, VS w' g n c F T ∧ SrtK T n ∧ MemK T T0 n := by
  have KI := Lib.hid (insertion_c g n c F0 T0 w h h1 h8)
  have hn12 : (n : Int) ≤ 12 := by omega
  have hn12d : decide ((n : Int) ≤ 12) = true := decide_eq_true hn12
  clear h
  go_enter Tryz.func114, Tryz.ntmps114
  go_wp2_with fail
  refine wp_loop_rounds 1 ?_; rw [rounds_succ]
  go_wp2_with fail
  refine KI.out.mono ?_
  rintro e w1 ⟨rfl, ho, F, T, hV, hS, hM⟩
  have HR := Lib.hid (show Only g w w1 ∧ ∃ F T, VS w1 g n c F T ∧ SrtK T n ∧ MemK T T0 n from ⟨ho, F, T, hV, hS, hM⟩)
  clear ho hV hS hM KI
  go_wp2_with fail
  (try simp only [Exit.inBlock, Exit.then])
  first | refine bodyPost_end (results_none rfl _ _ _) rfl ?_ | refine bodyPost_ret (results_none rfl _ _ _) rfl ?_
  exact ⟨rfl, HR.out.1, HR.out.2⟩
set_option maxHeartbeats 4000000 in
set_option maxRecDepth 100000 in
theorem sortFunc_c (g n c : Nat) (F0 : Nat → Value) (T0 : Nat → Tree) (w : World) (h : VS w g n c F0 T0) (h1 : 1 ≤ n) (h8 : n ≤ 8) :
    Calls Tryz.prog 102 #[.slice (some ⟨g, 0, none⟩) n c, .func (.func 103) #[] #[]] w fun e w' => e = .returned (.tuple #[]) ∧ Only g w w' ∧ ∃ F T, VS w' g n c F T ∧ SrtK T n ∧ MemK T T0 n := by
  have KP := Lib.hid (fun k => pdq_c g n c F0 T0 k w h h1 h8)
  have KL := Lib.hid (len_c n h8 w)
  have h0 : (0 : Int) ≤ (n : Int) := by omega
  have h9 : (n : Int) ≤ 8 := by omega
  clear h
  go_enter Tryz.func102, Tryz.ntmps102
  go_wp2_with fail
  refine KL.out.mono ?_
  rintro e w1 ⟨⟨k, rfl⟩, hw⟩
  rw [hw]
  clear hw KL
  go_wp2_with fail
  refine (KP.out k).mono ?_
  rintro e w1 ⟨rfl, ho, F, T, hV, hS, hM⟩
  have HR := Lib.hid (show Only g w w1 ∧ ∃ F T, VS w1 g n c F T ∧ SrtK T n ∧ MemK T T0 n from ⟨ho, F, T, hV, hS, hM⟩)
  clear ho hV hS hM KP
  go_wp2_with fail
  (try simp only [Exit.inBlock, Exit.then])
  first | refine bodyPost_end (results_none rfl _ _ _) rfl ?_ | refine bodyPost_ret (results_none rfl _ _ _) rfl ?_
  exact ⟨rfl, HR.out.1, HR.out.2⟩
end Go.Proofs.YtjlnompmhgjaaaaGreat

