/- Texts in one file: Say Ml MlS MarkText MarkS RowLem MarkSW MkS LawMl Args StCf Co Del CoI CoS LawCo. -/
import Derived.Deep.RegionHeld3
import Derived.Deep.LoopGhost
import Derived.WalkLawsBesides
import Derived.Laws.BytesArg
import Derived.Deep.Strs
import Derived.Lib.SmallJoins
import Derived.Carry
import Derived.ProofKit
import Derived.Deep.QuietTactic
import Derived.BigQuiet
import Derived.Outline
import Derived.Shelf.Abstract
import Derived.Test.YtmdbhcoioimlmaaGreatProg
import Derived.Test.YtmdbhcoioimlmaaGreatPb1
import Derived.Test.YtmdbhcoioimlmaaGreatPb2
import Derived.Test.YtmdbhcoioimlmaaGreatPb3
set_option linter.all false

/- l01Says, l02Insert, l22With of the reference. -/
namespace Go.Proofs.YtmdbhcoioimlmaaGreat
open Go.RowKit

theorem l01Says_c (v : Value) (L : List ByteArray) (s : ByteArray) (w : World) (h : Strs w v L) (hn : L.length ≤ 1099511627776) :
    Calls Tryz.prog 69 #[v, .string s] w fun e w' => e = .returned (.bool (dc (s ∈ L))) ∧ Grew w w' := by
  obtain ⟨R, hR⟩ : ∃ R, R = dc (s ∈ L) := ⟨_, rfl⟩
  rw [← hR]
  rcases h.open_ with ⟨rfl, rfl⟩ | ⟨b, o, c, rfl, hc, hm, hb, hcell⟩
  · have hv := Lib.hid (hR.trans (dc_false (by simp)))
    clear h hR
    go_enter Tryz.func69, Tryz.ntmps69
    go_wp2_with fail
    refine wp_loop_rounds 1 ?_; rw [rounds_succ]
    go_wp2_with fail
    go_ret
    exact ⟨by rw [hv.out]; rfl, Grew.refl _⟩
  have HA := Lib.hid (fun k (hk : k < L.length) (he : st L k = s) => hR.trans (dc_true (by rw [← he]; exact st_mem hk)))
  have HZ := Lib.hid (fun h => hR.trans (dc_false (@notS_all L s h)))
  have HC := Lib.hid hcell
  clear h hcell hR
  generalize hN : L.length = n at *
  clear hN
  go_enter Tryz.func69, Tryz.ntmps69
  go_wp2_with fail
  go_loopw [5] (fun i wr => ∃ j : Nat, j ≤ n ∧ i = .int .i64 j ∧ Grew w wr ∧ Hid (NotS L s j)) (fun i _ => n - (intOf i).toNat)
  case atStart => exact ⟨0, Nat.zero_le _, rfl, Grew.refl _, NotS.zero _ _⟩
  case round =>
    obtain ⟨j, hj, rfl, hB, HJ⟩ := hrel
    by_cases hlt : j < n
    · have k1 := HC.out j hlt _ hB
      have hA := Lib.hid (HA.out j hlt)
      have hS := Lib.hid (fun h => HJ.out.succ (k := j) h)
      generalize st L j = x at *
      by_cases hx : x = s
      · have hv := Lib.hid (hA.out hx)
        subst hx
        have q1 := bytes_eq' x
        clear hA hS
        go_wp2_with fail
        go_ret
        exact ⟨by rw [hv.out]; rfl, hB⟩
      · have hs := Lib.hid (hS.out hx)
        have q1 := bytes_ne' (fun e : s = x => hx e.symm)
        have q2 := bytes_ne' hx
        clear hA hS hx
        go_wp2_with fail
        go_roundw
        case rel => exact ⟨j + 1, by omega, by go_num, hB, hs⟩
        case measure => simp [intOf]; omega
    · obtain rfl : j = n := by omega
      have hv := Lib.hid (HZ.out HJ.out)
      go_wp2_with fail
      go_ret
      exact ⟨by rw [hv.out]; rfl, hB⟩

/-- A list with a text put in. -/
def InsB (L : List ByteArray) (s : ByteArray) (K : List ByteArray) : Prop := (K = L ∧ s ∈ L) ∨ ∃ j, j ≤ L.length ∧ K = L.take j ++ [s] ++ L.drop j
def GivesIn (w : World) (L : List ByteArray) (s : ByteArray) (e : Ending) (w' : World) : Prop := ∃ u K, e = .returned u ∧ Strs w' u K ∧ InsB L s K ∧ Grew w w'
theorem insB_nil (s : ByteArray) : InsB [] s [s] := .inr ⟨0, Nat.le_refl _, rfl⟩
theorem rdS_take {w : World} {A : Option Addr} {n c : Nat} {L : List ByteArray} (h : Rd w 1 (.slice A n c) n (scells L)) (hl : L.length = n) (i : Nat) (hi : i ≤ n) : Strs w (.slice A i c) (L.take i) := by
  have := rd_take h i hi
  unfold Strs scells at *
  rw [List.length_take, hl, Nat.min_eq_left hi, List.map_take]
  exact this
theorem rdS_tail {w : World} {b o n c : Nat} {L : List ByteArray} (h : Rd w 1 (.slice (some ⟨b, o, none⟩) n c) n (scells L)) (hl : L.length = n) (i : Nat) (hi : i ≤ n) (hn : n ≤ c) : Strs w (.slice (if c = i then some ⟨b, o, none⟩ else some ⟨b, o + i, none⟩) (n - i) (c - i)) (L.drop i) := by
  have := rd_tail h i hi hn
  unfold Strs scells at *
  rw [List.length_drop, hl, List.map_drop]
  exact this
set_option maxHeartbeats 2000000 in
theorem l02Insert_c (v : Value) (L : List ByteArray) (s : ByteArray) (w : World) (h : Strs w v L) (hn : L.length ≤ 1048576) :
    Calls Tryz.prog 63 #[v, .string s] w (GivesIn w L s) := by
  have h0 := Lib.hid h
  rcases h.open_ with ⟨rfl, rfl⟩ | ⟨b, o, c, rfl, hc, hm, hb, hcell⟩
  · clear h
    have he := own_emptyS' w
    go_enter Tryz.func63, Tryz.ntmps63
    go_wp2_with fail
    refine wp_loop_rounds 1 ?_; rw [rounds_succ]
    go_wp2_with (first
      | (at_builtin; have hz := hown2; refine wpList_appSs (w0 := w) _ _ rfl rfl _ _ rfl hown2 hg2 _ [] rfl (Strs.nil_ _) (by simp) ?_; intro v3 w3 hown3 hg3 _)
      | (at_builtin; have hz := hown1; refine wpList_appStr (w0 := w) _ _ rfl rfl _ _ rfl (own_grew hown1 ((Grew.refl w1).alloc _)) (hg1.alloc _) _ s rfl (rd_lit _ _ _) (by simp) ?_; intro v2 w2 hown2 hg2 _; have hs2 := strs_slice hown2.strs; obtain ⟨A2, c2, rfl⟩ := hs2)
      | (at_builtin; refine wpList_appSs (w0 := w) _ _ rfl rfl _ [] rfl he ((Grew.refl w).alloc _) _ [] rfl (Strs.nil_ _) (by simp) ?_; intro v1 w1 hown1 hg1 _; have hs1 := strs_slice hown1.strs; obtain ⟨A1, c1, rfl⟩ := hs1))
    go_ret
    exact ⟨_, _, rfl, hown3.strs, by simpa using insB_nil s, hg3⟩
  have HC := Lib.hid hcell
  have HR := Lib.hid (show Rd w 1 (.slice (some ⟨b, o, none⟩) L.length c) L.length (scells L) from h)
  have HT := Lib.hid (fun i hi => rdS_take HR.out rfl i hi)
  have HD := Lib.hid (fun i hi => rdS_tail HR.out rfl i hi hc)
  have HM := Lib.hid (fun j hj (he : st L j = s) => (by rw [← he]; exact st_mem hj : s ∈ L))
  have HJ := Lib.hid (fun j (hj : j ≤ L.length) => (show InsB L s (L.take j ++ [s] ++ L.drop j) from .inr ⟨j, hj, rfl⟩))
  have HLt := Lib.hid (fun j => (by rw [List.length_take]; omega : (L.take j).length ≤ L.length))
  have HLd := Lib.hid (fun j => (by rw [List.length_drop]; omega : (L.drop j).length ≤ L.length))
  clear h hcell HR
  generalize hN : L.length = n at *
  clear hN
  go_enter Tryz.func63, Tryz.ntmps63
  go_wp2_with fail
  go_loopw [5] (fun i wr => ∃ j : Nat, j ≤ n ∧ i = .int .i64 j ∧ Grew w wr) (fun i _ => n - (intOf i).toNat)
  case atStart => exact ⟨0, Nat.zero_le _, rfl, Grew.refl _⟩
  case round =>
    obtain ⟨j, hj, rfl, hB⟩ := hrel
    have he := own_emptyS' wr
    have hT := Lib.hid (HT.out j hj)
    have hD := Lib.hid (HD.out j hj)
    have hJ := Lib.hid (HJ.out j hj)
    have hlt1 := HLt.out j
    have hld1 := HLd.out j
    have hb1 := hB.size
    by_cases hlt : j < n
    · have k1 := HC.out j hlt _ hB
      have hM := Lib.hid (HM.out j hlt)
      have hcj : ¬ c = j := by omega
      rw [if_neg hcj] at hD
      generalize st L j = x at *
      generalize L.take j = T at *
      generalize L.drop j = U at *
      cases hl : Op.bytesLess x.toList s.toList with
      | true =>
        go_wp2_with fail
        go_roundw
        case rel => exact ⟨j + 1, by omega, by go_num, hB⟩
        case measure => simp [intOf]; omega
      | false =>
        by_cases hx : x = s
        · have hv := Lib.hid (hM.out hx)
          subst hx
          have q1 := bytes_eq' x
          go_wp2_with fail
          go_ret
          exact ⟨_, _, rfl, Strs.grew h0.out hB, .inl ⟨rfl, hv.out⟩, hB⟩
        · have q1 := bytes_ne' (fun e : s = x => hx e.symm)
          have q2 := bytes_ne' hx
          have he1 : OwnS (wr.alloc (.cells #[] 9)) w.heap.size (.slice (some ⟨wr.heap.size, 0, none⟩) 0 0) [] := World.ownsRow_lit (e := 9) (size := 1) wr #[] 0 hb1 (by omega) rfl
          go_wp2_with (first
            | (at_builtin; have hz := hown2; refine wpList_appSs (w0 := w) _ _ rfl rfl _ _ rfl hown2 hg2 _ U rfl (Strs.grew hD.out hg2) (by first | omega | (simp; omega)) ?_; intro v3 w3 hown3 hg3 _)
            | (at_builtin; have hz := hown1; refine wpList_appStr (w0 := w) _ _ rfl rfl _ _ rfl (own_grew hown1 ((Grew.refl w1).alloc _)) (hg1.alloc _) _ s rfl (rd_lit _ _ _) (by first | omega | (simp; omega)) ?_; intro v2 w2 hown2 hg2 _; have hs2 := strs_slice hown2.strs; rw [List.length_append, List.length_singleton] at hs2; obtain ⟨A2, c2, rfl⟩ := hs2)
            | (at_builtin; refine wpList_appSs (w0 := w) _ _ rfl rfl _ [] rfl he1 (hB.alloc _) _ T rfl (Strs.grew hT.out (hB.alloc _)) (by first | omega | (simp; omega)) ?_; intro v1 w1 hown1 hg1 _; rw [List.nil_append] at hown1; have hs1 := strs_slice hown1.strs; obtain ⟨A1, c1, rfl⟩ := hs1))
          go_ret
          exact ⟨_, _, rfl, hown3.strs, by simpa using hJ.out, hg3⟩
    · obtain rfl : j = n := by omega
      generalize L.take j = T at *
      generalize L.drop j = U at *
      have he1 : OwnS (wr.alloc (.cells #[] 9)) w.heap.size (.slice (some ⟨wr.heap.size, 0, none⟩) 0 0) [] := World.ownsRow_lit (e := 9) (size := 1) wr #[] 0 hb1 (by omega) rfl
      by_cases hcj : c = j
      · subst hcj
        rw [if_pos rfl, Nat.sub_self] at hD
        go_wp2_with (first
          | (at_builtin; have hz := hown2; refine wpList_appSs (w0 := w) _ _ rfl rfl _ _ rfl hown2 hg2 _ U rfl (Strs.grew hD.out hg2) (by first | omega | (simp; omega)) ?_; intro v3 w3 hown3 hg3 _)
          | (at_builtin; have hz := hown1; refine wpList_appStr (w0 := w) _ _ rfl rfl _ _ rfl (own_grew hown1 ((Grew.refl w1).alloc _)) (hg1.alloc _) _ s rfl (rd_lit _ _ _) (by first | omega | (simp; omega)) ?_; intro v2 w2 hown2 hg2 _; have hs2 := strs_slice hown2.strs; rw [List.length_append, List.length_singleton] at hs2; obtain ⟨A2, c2, rfl⟩ := hs2)
          | (at_builtin; refine wpList_appSs (w0 := w) _ _ rfl rfl _ [] rfl he1 (hB.alloc _) _ T rfl (Strs.grew hT.out (hB.alloc _)) (by first | omega | (simp; omega)) ?_; intro v1 w1 hown1 hg1 _; rw [List.nil_append] at hown1; have hs1 := strs_slice hown1.strs; obtain ⟨A1, c1, rfl⟩ := hs1))
        go_ret
        exact ⟨_, _, rfl, hown3.strs, by simpa using hJ.out, hg3⟩
      · rw [if_neg hcj, Nat.sub_self] at hD
        go_wp2_with (first
          | (at_builtin; have hz := hown2; refine wpList_appSs (w0 := w) _ _ rfl rfl _ _ rfl hown2 hg2 _ U rfl (Strs.grew hD.out hg2) (by first | omega | (simp; omega)) ?_; intro v3 w3 hown3 hg3 _)
          | (at_builtin; have hz := hown1; refine wpList_appStr (w0 := w) _ _ rfl rfl _ _ rfl (own_grew hown1 ((Grew.refl w1).alloc _)) (hg1.alloc _) _ s rfl (rd_lit _ _ _) (by first | omega | (simp; omega)) ?_; intro v2 w2 hown2 hg2 _; have hs2 := strs_slice hown2.strs; rw [List.length_append, List.length_singleton] at hs2; obtain ⟨A2, c2, rfl⟩ := hs2)
          | (at_builtin; refine wpList_appSs (w0 := w) _ _ rfl rfl _ [] rfl he1 (hB.alloc _) _ T rfl (Strs.grew hT.out (hB.alloc _)) (by first | omega | (simp; omega)) ?_; intro v1 w1 hown1 hg1 _; rw [List.nil_append] at hown1; have hs1 := strs_slice hown1.strs; obtain ⟨A1, c1, rfl⟩ := hs1))
        go_ret
        exact ⟨_, _, rfl, hown3.strs, by simpa using hJ.out, hg3⟩
/-- l22With of one text. -/
theorem l22With_c (v vt : Value) (L : List ByteArray) (s : ByteArray) (w : World) (h : Strs w v L) (hk : Strs w vt [s]) (hn : L.length ≤ 1048576) :
    Calls Tryz.prog 72 #[v, vt] w (GivesIn w L s) := by
  have he := own_emptyS' w
  have KI := Lib.hid (fun u W (hu : Strs W u L) => l02Insert_c u L s W hu hn)
  obtain ⟨b, o, c, rfl, hc, hm, hb, hcell⟩ := strs_one hk
  have HK := Lib.hid hcell
  have HL := Lib.hid h
  obtain ⟨A, cA, rfl⟩ := strs_slice h
  clear h hk hcell
  go_enter Tryz.func72, Tryz.ntmps72
  go_wp2_with (first
    | (at_builtin; refine wpList_appSs (w0 := w) _ _ rfl rfl _ [] rfl he ((Grew.refl w).alloc _) _ L rfl (Strs.grew HL.out ((Grew.refl w).alloc _)) (by first | omega | (simp; omega)) ?_; intro v1 w1 hown1 hg1 _; have hs1 := Lib.hid hown1.strs; obtain ⟨A1, c1, rfl⟩ := strs_slice hown1.strs; clear hown1))
  go_wp2_with fail
  have k1 := HK.out _ hg1
  refine wp_loop_rounds 2 ?_
  rw [rounds_succ]
  go_wp2_with fail
  refine (KI.out _ _ (by simpa using hs1.out)).mono ?_
  rintro e w2 ⟨u, K, rfl, hu, hK, hg2⟩
  obtain ⟨A2, c2, rfl⟩ := strs_slice hu
  have HU := Lib.hid hu
  clear hu
  go_wp2_with fail
  rw [rounds_succ]
  go_wp2_with fail
  go_ret
  exact ⟨_, K, rfl, HU.out, hK, hg1.trans hg2⟩
end Go.Proofs.YtmdbhcoioimlmaaGreat

/- MinimalLeft of both sides. -/
namespace Go.Proofs.YtmdbhcoioimlmaaGreat
open Go.RowKit
open Fm (Tree)

/-- 'out = append(out, xs...)' over texts in a region that draws its order. -/
theorem step_appSs {ops : Array Oper} {o : Oper} {a : Act} {K : Act → World → Prop} {Q : Exit → Act → World → Prop} {E : Prop} {w w0 : World} (hgd : o.guard = none) (s x : Operand)
    (ho : o.op = .call { callee := .builtin .append, args := #[s, x], argTypes := #[22, 22] })
    (v : Value) (L : List ByteArray) (hs : a.eval s = v) (hown : OwnS w w0.heap.size v L) (hg : Grew w0 w) (vx : Value) (M : List ByteArray) (hx : a.eval x = vx) (hr : Strs w vx M) (hn : L.length + M.length ≤ 1099511627776)
    (h : ∀ v' w', OwnS w' w0.heap.size v' (L ++ M) → Grew w0 w' → K (a.put o.dst v') w') : if Region.wanted o (yielded ops a.tmps) = true then Oper.wp Tryz.prog o a w K Q else E := by
  obtain ⟨i0, hi0, hz0, hz1, hz2⟩ := info_parts Tryz.infoStr
  refine step_append_rd w hgd s x _ ho w0.heap.size 9 i0 _ 1 16 Tryz.underlying22 hi0 hz0 hz1 hz2 rfl (by omega) v L.length (scells L) hs hown vx M.length (scells M) hx hr (scells_one M) (by unfold maxLen; omega) (by omega) hg.size ?_
  intro v' w' h2 h3
  refine h v' w' ?_ (hg.grown h3 fun k hk => (hown.lt k hk).1)
  unfold OwnS
  rw [List.length_append, scells_append]
  exact h2

theorem Strs.openA {w : World} {A : Option Addr} {n c : Nat} {L : List ByteArray} (h : Strs w (.slice A n c) L) (hn : L.length = n) : ∀ j, j < n → ∃ b o, A = some ⟨b, o, none⟩ ∧ n ≤ c ∧ c ≤ 9223372036854775807 ∧ b < w.heap.size ∧
    ∀ i, i < n → ∀ W, Grew w W → W.cell? ⟨b, o + i, none⟩ = some (.string (st L i)) := by
  intro j hj
  rcases h.open_ with ⟨_, h0⟩ | ⟨b, o, c', hv, h2, h3, h4, h5⟩
  · rw [h0] at hn; simp at hn; omega
  · obtain ⟨rfl, _, rfl⟩ : A = some ⟨b, o, none⟩ ∧ n = L.length ∧ c = c' := by simpa using hv
    exact ⟨b, o, rfl, by omega, h3, h4, fun i hi => h5 i (by omega)⟩

set_option maxHeartbeats 4000000 in
theorem implMl_c (v : Value) (L : List ByteArray) (s : ByteArray) (w : World) (h : Strs w v L) (hs : Fits L) (hn : L.length ≤ 1048576) (hsz : s.size ≤ 1048576) :
    Calls Tryz.prog 24 #[v, .string s] w (GivesS2 w (mlF L s)) := by
  unfold GivesS2
  have K1 := Lib.hid (goalCode_c v L s w h hs hn hsz)
  by_cases hz : qcode L s = 0
  case neg =>
    rw [mlF_bad hz]
    obtain ⟨A, k, rfl⟩ := strs_slice h
    clear h hs
    generalize qcode L s = q at *
    have hk : (q != 0) = true := by simpa using hz
    go_enter Tryz.func24, Tryz.ntmps24
    go_wp2_with fail
    refine (K1.out).mono ?_
    rintro e w1 ⟨rfl, hg1⟩
    go_wp2_with fail
    go_ret2
    exact ⟨_, rfl, OwnS.nil_ _ _, hg1⟩
  obtain ⟨Ts, c, hq⟩ := qOk_of hz
  have hT : TL w v Ts := by have := hq.left; subst this; exact h
  have K2 := Lib.hid (fun W (hW : Grew w W) => provable_c Ts c v W hq.okS (hT.grew hW))
  rw [← hq.right] at K2
  rw [hz] at K1
  cases he : dc (EntL Ts c) with
  | false =>
    rw [mlF_no hz hq he]
    rw [he] at K2
    obtain ⟨A, k, rfl⟩ := strs_slice h
    clear h hs hz hq hT he
    go_enter Tryz.func24, Tryz.ntmps24
    go_wp2_with fail
    refine (K1.out).mono ?_
    rintro e w1 ⟨rfl, hg1⟩
    go_wp2_with fail
    refine (K2.out _ hg1).mono ?_
    rintro e w2 ⟨rfl, hg2⟩
    go_wp2_with fail
    go_ret2
    exact ⟨_, rfl, OwnS.nil_ _ _, hg1.trans hg2⟩
  | true =>
  rw [mlF_yes hz hq he]
  rw [he] at K2
  have hS := hq.okS
  have hnd := hq.nodup
  have hM0 : Hid (MI Ts c (mn c [] Ts) [] Ts) := Lib.hid (MI.start Ts c)
  obtain ⟨A, k, rfl⟩ := strs_slice h
  have KP := Lib.hid (fun u K W (hK : OkS K c) (hu : TL W u K) => provable_c K c u W hK hu)
  rw [← hq.right] at KP
  have KC := Lib.hid (fun W (hW : Grew w W) => cloneS_c _ L W (h.grew hW) (by omega))
  have HH := Lib.hid h
  have HS := Lib.hid hS
  have HD := Lib.hid hnd
  have HLe := Lib.hid hq.left
  have HRe := Lib.hid hq.right
  have HN := Lib.hid (show Ts.length = L.length by rw [hq.left]; simp)
  have HX := Lib.hid (fun j (hj : j < L.length) => (by rw [← HN.out] at hj; exact ⟨Ts[j], List.drop_eq_getElem_cons hj, by simp [hq.left, st, List.getD, hj]⟩ : ∃ t, Ts.drop j = t :: Ts.drop (j + 1) ∧ st L j = tx t))
  have HZ := Lib.hid (show Ts.drop L.length = [] by rw [← HN.out]; simp)
  have HCL := Lib.hid (HH.out.openA rfl)
  clear h hs hz hq hT he hS hnd
  generalize mn c [] Ts = R at *

  go_enter Tryz.func24, Tryz.ntmps24
  go_wp2_with fail
  refine (K1.out).mono ?_
  rintro e w1 ⟨rfl, hg1⟩
  go_wp2_with fail
  refine (K2.out _ hg1).mono ?_
  rintro e w2 ⟨rfl, hg2⟩
  have g2 := hg1.trans hg2
  go_wp2_with fail
  refine (KC.out _ g2).mono ?_
  rintro e w3 ⟨v3, rfl, ho3, hg3⟩
  have g3 := g2.trans hg3
  have ho3 := ho3.base g2.size
  rw [HLe.out] at ho3
  have HO3 := Lib.hid ho3
  clear ho3
  generalize hN : L.length = n at *
  clear hN
  go_wp2_with fail
  go_loopw [7, 27] (fun out i wr => ∃ (j : Nat) (K D : List Tree), j ≤ n ∧ i = .int .i64 j ∧ OwnS wr w.heap.size out ((K ++ D).map tx) ∧ Grew w wr ∧ Hid (D = Ts.drop j) ∧ Hid (MI Ts c R K D)) (fun _ i _ => n - (intOf i).toNat)
  case atStart => exact ⟨0, [], Ts, Nat.zero_le _, rfl, HO3.out, g3, rfl, hM0⟩
  case round =>
    obtain ⟨j, K, D, hj, rfl, hO, hB, hDr, hMI⟩ := hrel
    have hl1 := hMI.out.len
    rw [HN.out] at hl1
    by_cases hlt : j < n
    · obtain ⟨t, ht1, ht2⟩ := HX.out j hlt
      obtain ⟨D', hD'⟩ : ∃ D', D' = Ts.drop (j + 1) := ⟨_, rfl⟩
      have hDD : D = t :: D' := by rw [hDr.out, ht1, hD']
      subst hDD
      have hst := Lib.hid ht2
      obtain ⟨b, o, rfl, hc, hm, hb, hcell⟩ := HCL.out j hlt
      have k1 := hcell j hlt _ hB
      rw [hst.out] at k1
      clear hcell ht1 ht2
      have hKD := Lib.hid (hMI.out.ok HS.out)
      have KD := Lib.hid (dropO_c _ _ (tx t) wr hO.strs (by rw [List.length_map, List.length_append]; omega))
      rw [hMI.out.drop HS.out HD.out] at KD
      obtain ⟨A9, c9, rfl⟩ := strs_slice hO.strs
      have HO := Lib.hid hO
      clear hO
      have HD2 := Lib.hid hD'
      clear hD'
      generalize ((K ++ t :: D').map tx).length = m9 at *
      have HTT := Lib.hid (rfl : tx t = tx t)
      have hyes := Lib.hid (fun h => hMI.out.yes h)
      have hno := Lib.hid (fun h => hMI.out.no h)
      generalize tx t = tt9 at *
      go_wp2_with fail
      refine (KD.out).mono ?_
      rintro e w4 ⟨u, rfl, hu, hg4⟩
      have HU := Lib.hid (hu.base hB.size)
      have KP1 := Lib.hid (KP.out u _ w4 hKD.out hu.strs)
      obtain ⟨A8, c8, rfl⟩ := strs_slice hu.strs
      clear hu
      have g4 := hB.trans hg4
      generalize ((K ++ D').map tx).length = m8 at *
      cases he : dc (EntL (K ++ D') c) with
      | true =>
        rw [he] at KP1
        have hMI2 := Lib.hid (hyes.out he)
        clear he hyes hno
        go_wp2_with fail
        refine (KP1.out).mono ?_
        rintro e w5 ⟨rfl, hg5⟩
        go_wp2_with fail
        go_roundw
        case rel => exact ⟨j + 1, K, D', by omega, by go_num, HU.out.grew hg5, g4.trans hg5, HD2, hMI2⟩
        case measure => simp [intOf]; omega
      | false =>
        rw [he] at KP1
        have hMI2 := Lib.hid (hno.out he)
        clear he hyes hno
        go_wp2_with fail
        refine (KP1.out).mono ?_
        rintro e w5 ⟨rfl, hg5⟩
        have HO2 : OwnS w5 w.heap.size (.slice A9 m9 c9) ((K ++ [t] ++ D').map tx) := by
          have := HO.out.grew (hg4.trans hg5)
          simpa using this
        have HO2 := Lib.hid HO2
        go_wp2_with fail
        go_roundw
        case rel => exact ⟨j + 1, K ++ [t], D', by omega, by go_num, HO2.out, g4.trans hg5, HD2, hMI2⟩
        case measure => simp [intOf]; omega
    · obtain rfl : j = n := by omega
      have hD0 : D = [] := by rw [hDr.out, HZ.out]
      subst hD0
      have hKR := hMI.out.fin_
      subst hKR
      rw [List.append_nil] at hO
      have HO := Lib.hid hO
      obtain ⟨A9, c9, rfl⟩ := strs_slice hO.strs
      clear hO
      go_wp2_with fail
      go_ret2
      exact ⟨_, rfl, HO.out, hB⟩
end Go.Proofs.YtmdbhcoioimlmaaGreat

/- MinimalLeft of the reference. -/
namespace Go.Proofs.YtmdbhcoioimlmaaGreat
open Go.RowKit
open Fm (Tree)

def lenV : Value → Nat
  | .slice _ n _ => n
  | _ => 0
theorem take_mid {K D : List Tree} {t : Tree} : ((K ++ t :: D).map tx).take K.length = K.map tx := by
  rw [List.map_append, List.take_append_of_le_length (by simp), List.take_of_length_le (by simp)]
theorem drop_mid {K D : List Tree} {t : Tree} : ((K ++ t :: D).map tx).drop (K.length + 1) = D.map tx := by
  rw [List.map_append, List.drop_append, List.drop_of_length_le (by simp)]
  simp

set_option maxHeartbeats 4000000 in
theorem specMl_c (v : Value) (L : List ByteArray) (s : ByteArray) (w : World) (h : Strs w v L) (hs : Fits L) (hn : L.length ≤ 1048576) (hsz : s.size ≤ 1048576) :
    Calls Tryz.prog 23 #[v, .string s] w (GivesS2 w (mlF L s)) := by
  unfold GivesS2
  have K1 := Lib.hid (l23Code_c v L s w h hs hn hsz)
  by_cases hz : qcode L s = 0
  case neg =>
    rw [mlF_bad hz]
    obtain ⟨A, k, rfl⟩ := strs_slice h
    clear h hs
    generalize qcode L s = q at *
    have hk : (q != 0) = true := by simpa using hz
    go_enter Tryz.func23, Tryz.ntmps23
    go_wp2_with fail
    refine (K1.out).mono ?_
    rintro e w1 ⟨rfl, hg1⟩
    go_wp2_with fail
    go_ret2
    exact ⟨_, rfl, OwnS.nil_ _ _, hg1⟩
  obtain ⟨Ts, c, hq⟩ := qOk_of hz
  have hT : TL w v Ts := by have := hq.left; subst this; exact h
  have K2 := Lib.hid (fun W (hW : Grew w W) => l23Ok_c v Ts c W hq.okS (hT.grew hW))
  rw [← hq.right] at K2
  rw [hz] at K1
  cases he : dc (EntL Ts c) with
  | false =>
    rw [mlF_no hz hq he]
    rw [he] at K2
    obtain ⟨A, k, rfl⟩ := strs_slice h
    clear h hs hz hq hT he
    go_enter Tryz.func23, Tryz.ntmps23
    go_wp2_with fail
    refine (K1.out).mono ?_
    rintro e w1 ⟨rfl, hg1⟩
    go_wp2_with fail
    refine (K2.out _ hg1).mono ?_
    rintro e w2 ⟨rfl, hg2⟩
    go_wp2_with fail
    go_ret2
    exact ⟨_, rfl, OwnS.nil_ _ _, hg1.trans hg2⟩
  | true =>
  rw [mlF_yes hz hq he]
  rw [he] at K2
  have hS := hq.okS
  have hM0 : Hid (MI Ts c (mn c [] Ts) [] Ts) := Lib.hid (MI.start Ts c)
  obtain ⟨A, k, rfl⟩ := strs_slice h
  have KP := Lib.hid (fun u K W (hK : OkS K c) (hu : TL W u K) => l23Ok_c u K c W hK hu)
  rw [← hq.right] at KP
  have HH := Lib.hid h
  have HS := Lib.hid hS
  have HLe := Lib.hid hq.left
  have HN := Lib.hid (show Ts.length = L.length by rw [hq.left]; simp)
  have HL0 := Lib.hid hn
  clear h hs hz hq hT he hS
  generalize mn c [] Ts = R at *
  go_enter Tryz.func23, Tryz.ntmps23
  go_wp2_with fail
  refine (K1.out).mono ?_
  rintro e w1 ⟨rfl, hg1⟩
  go_wp2_with fail
  refine (K2.out _ hg1).mono ?_
  rintro e w2 ⟨rfl, hg2⟩
  have g2 := hg1.trans hg2
  have he2 : OwnS (w2.alloc (.cells #[] 9)) w.heap.size (.slice (some ⟨w2.heap.size, 0, none⟩) 0 0) [] := World.ownsRow_lit (e := 9) (size := 1) w2 #[] 0 g2.size (by omega) rfl
  go_wp2_with (first
    | (at_builtin; refine wpList_appSs (w0 := w) _ _ rfl rfl _ [] rfl he2 (g2.alloc _) _ L rfl (HH.out.grew (g2.alloc _)) (by simp; omega) ?_; intro v3 w3 ho3 g3 _))
  rw [List.nil_append, HLe.out] at ho3
  have HO3 := Lib.hid ho3
  clear ho3 he2
  generalize hN : L.length = n at *
  clear hN
  go_wp2_with fail
  go_loopw [7, 8] (fun out i wr => ∃ (K D : List Tree), i = .int .i64 K.length ∧ OwnS wr w.heap.size out ((K ++ D).map tx) ∧ Grew w wr ∧ Hid (MI Ts c R K D)) (fun out i _ => lenV out - (intOf i).toNat)
  case atStart => exact ⟨[], Ts, rfl, HO3.out, g3, hM0⟩
  case round =>
    obtain ⟨K, D, rfl, hO, hB, hMI⟩ := hrel
    have hl1 := hMI.out.len
    rw [HN.out] at hl1
    cases D with
    | nil =>
      have hKR := hMI.out.fin_
      subst hKR
      rw [List.append_nil] at hO
      have HO := Lib.hid hO
      obtain ⟨A9, c9, rfl⟩ := strs_slice hO.strs
      rw [List.length_map] at *
      clear hO hl1
      generalize K.length = j at *
      go_wp2_with fail
      go_ret2
      exact ⟨_, rfl, HO.out, hB⟩
    | cons t D' =>
      rw [List.length_cons] at hl1
      have hKD := Lib.hid (hMI.out.ok HS.out)
      have hyes := Lib.hid (fun h => hMI.out.yes h)
      have hno := Lib.hid (fun h => hMI.out.no h)
      have hlm : ((K ++ t :: D').map tx).length = K.length + 1 + D'.length := by simp; omega
      rcases hO.strs.open_ with ⟨_, h0⟩ | ⟨b, o, c9, rfl, hc, hm, hb, hcell⟩
      · rw [h0] at hlm; simp at hlm; omega
      rw [hlm] at hO hc ⊢
      have HR : Rd wr 1 (.slice (some ⟨b, o, none⟩) (K.length + 1 + D'.length) c9) (K.length + 1 + D'.length) (scells ((K ++ t :: D').map tx)) := by
        have := hO.strs
        unfold Strs at this
        rwa [hlm] at this
      have R1 := Lib.hid (fun W (hW : Grew wr W) => (by have := rdS_take (HR.grew hW) hlm K.length (by omega); rwa [take_mid] at this : Strs W (.slice (some ⟨b, o, none⟩) K.length c9) (K.map tx)))
      have R2 := Lib.hid (fun W (hW : Grew wr W) => (by have := rdS_tail (HR.grew hW) hlm (K.length + 1) (by omega) hc; rwa [drop_mid] at this : Strs W (.slice (if c9 = K.length + 1 then some ⟨b, o, none⟩ else some ⟨b, o + (K.length + 1), none⟩) (K.length + 1 + D'.length - (K.length + 1)) (c9 - (K.length + 1))) (D'.map tx)))
      have HO := Lib.hid hO
      have L1 := Lib.hid (show (K.map tx).length = K.length by simp)
      have L2 := Lib.hid (show (D'.map tx).length = D'.length by simp)
      have L3 := Lib.hid (show (K ++ [t]).length = K.length + 1 by simp)
      clear hO hcell HR hlm hb
      generalize hKL : K.length = j at *
      have HKL := Lib.hid hKL
      clear hKL
      generalize hDL : D'.length = d at *
      have HDL := Lib.hid hDL
      clear hDL
      have i0 : (0 : Int) ≤ (j : Int) := by omega
      have i1 : (j : Int) ≤ (c9 : Int) := by omega
      generalize hn9 : j + 1 + d = n9 at *
      have i2 : (j : Int) + 1 ≤ (n9 : Int) := by omega
      have i3 : (0 : Int) ≤ (j : Int) + 1 := by omega
      have i4 : IntKind.i64.wrap ((j : Int) + 1) = (j : Int) + 1 := by rw [IntKind.wrap_i64]; omega
      have HN9 := Lib.hid hn9
      clear hn9
      have hown0 : OwnS (wr.alloc (.cells #[] 9)).drew wr.heap.size (.slice (some ⟨wr.heap.size, 0, none⟩) 0 0) [] := own_emptyS' wr
      have hal := (Grew.refl wr).alloc (.cells #[] 9)
      have hg0 : Grew wr (wr.alloc (.cells #[] 9)).drew := hal.drew
      have hr0 := Grew.refl wr
      have hd0 := hr0.drew
      clear g2 hg1 hg2 g3 HO3 hM0 K1 K2 HH HLe HL0
      go_wp2_with fail
      go_region_held3 (fun w' => Grew wr w') (first | with_reducible assumption | exact Grew.alloc ‹_› _)
        (first
         | (have hz := hown1; refine step_appSs (w0 := wr) rfl _ _ rfl _ _ rfl hown1 hgq _ (D'.map tx) rfl (R2.out _ hgq) (by have := L1.out; have := L2.out; simp only [List.nil_append]; omega) ?_; intro v7 w7 hown2 hg7)
         | (refine step_appSs (w0 := wr) rfl _ _ rfl _ [] rfl hown0 hg0 _ (K.map tx) rfl (R1.out _ hg0) (by have := L1.out; simp only [List.length_nil, Nat.zero_add]; omega) ?_; intro v6 w6 hown1 hgq))
      clear R2
      generalize (if c9 = j + 1 then some (⟨b, o, none⟩ : Addr) else some ⟨b, o + (j + 1), none⟩) = tl
      rw [List.nil_append, ← List.map_append] at hown2
      have HU := Lib.hid (hown2.base hB.size)
      have KP1 := Lib.hid (KP.out v7 _ w7 hKD.out hown2.strs)
      obtain ⟨A8, c8, rfl⟩ := strs_slice hown2.strs
      have hl8 : ((K ++ D').map tx).length = j + d := by rw [List.map_append, List.length_append, L1.out, L2.out]
      rw [hl8] at HU KP1 ⊢
      have g7 := hB.trans hg7
      have HG := Lib.hid hg7
      clear hown2 hl8 hown0 hal hg0 hr0 hd0 R1 hown1 hz hgq
      cases he : dc (EntL (K ++ D') c) with
      | true =>
        rw [he] at KP1
        have hMI2 := Lib.hid (hyes.out he)
        clear he hyes hno
        go_wp2_with fail
        refine (KP1.out).mono ?_
        rintro e w8 ⟨rfl, hg8⟩
        have HKL' := Lib.hid (show Value.int .i64 (j : Int) = .int .i64 (K.length : Nat) by rw [HKL.out])
        go_wp2_with fail
        go_roundw
        case rel => exact ⟨K, D', HKL'.out, HU.out.grew hg8, g7.trans hg8, hMI2⟩
        case measure => have := HN9.out; simp [intOf, lenV]; omega
      | false =>
        rw [he] at KP1
        have hMI2 := Lib.hid (hno.out he)
        clear he hyes hno
        go_wp2_with fail
        refine (KP1.out).mono ?_
        rintro e w8 ⟨rfl, hg8⟩
        have HO2 : OwnS w8 w.heap.size (.slice (some ⟨b, o, none⟩) n9 c9) ((K ++ [t] ++ D').map tx) := by
          have := HO.out.grew (HG.out.trans hg8)
          simpa using this
        have HO2 := Lib.hid HO2
        have HKL' := Lib.hid (show Value.int .i64 ((j : Int) + 1) = .int .i64 ((K ++ [t]).length : Nat) by rw [L3.out]; go_num)
        go_wp2_with fail
        go_roundw
        case rel => exact ⟨K ++ [t], D', HKL'.out, HO2.out, g7.trans hg8, hMI2⟩
        case measure => have := HN9.out; simp [intOf, lenV]; omega
end Go.Proofs.YtmdbhcoioimlmaaGreat

/- The laws' text of a mark: one text for each number. -/
namespace Go.Proofs.YtmdbhcoioimlmaaGreat
open Go.RowKit

theorem conv_one (Y : Int) (w : World) (t : TypeId) : (convert 35 9 (.slice (some ⟨w.heap.size, 0, none⟩) 1 1)).run Tryz.prog (w.alloc (.cells #[.int .u8 Y] t)) = .ok (.string (strOfNums [Y])) (w.alloc (.cells #[.int .u8 Y] t)) :=
  run_convert_bytes_arg (P := Tryz.prog) (w := w.alloc (.cells #[.int .u8 Y] t)) 35 5 Tryz.underlying35 Tryz.underlying5 w.heap.size 0 1 1 [Y] rfl (fun i hi => by
    obtain rfl : i = 0 := by omega
    simp) 9 Tryz.underlying9

/-- The digits of m ahead of z. -/
def digs : Nat → Nat → ByteArray → ByteArray
  | 0, _, z => z
  | f + 1, m, z => if m = 0 then z else digs f (m / 10) (strOfNums [((48 + m % 10 : Nat) : Int)] ++ z)
theorem digs_zero (f : Nat) (z : ByteArray) : digs f 0 z = z := by cases f <;> simp [digs]
theorem digs_step {f m : Nat} (h : 0 < m) (z : ByteArray) : digs (f + 1) m z = digs f (m / 10) (strOfNums [((48 + m % 10 : Nat) : Int)] ++ z) := by rw [digs, if_neg (by omega)]
/-- The text of a mark. -/
def mtx (k : Int) : ByteArray := if k ≤ 0 then ⟨#[109, 48]⟩ else ⟨#[109]⟩ ++ digs k.toNat k.toNat ⟨#[]⟩

theorem markTextD_c (k : Int) (w : World) (h0 : 0 ≤ k) (h1 : k ≤ 4611686018427387904) :
    Calls Tryz.prog 57 #[.int .i64 k] w fun e w' => e = .returned (.string (mtx k)) ∧ Grew w w' := by
  unfold mtx
  by_cases hk : k ≤ 0
  · rw [if_pos hk]
    go_enter Tryz.func57, Tryz.ntmps57
    go_wp2_with fail
    go_ret
    exact ⟨rfl, Grew.refl _⟩
  · rw [if_neg hk]
    obtain ⟨M, hM⟩ : ∃ M, M = (⟨#[109]⟩ : ByteArray) ++ digs k.toNat k.toNat ⟨#[]⟩ := ⟨_, rfl⟩
    rw [← hM]
    obtain ⟨n, rfl⟩ : ∃ n : Nat, k = (n : Int) := ⟨k.toNat, by omega⟩
    rw [Int.toNat_natCast] at hM
    have HM := Lib.hid hM
    have HST := Lib.hid (fun f m (h : 0 < m) z => @digs_step f m h z)
    have HZ := Lib.hid (fun f z => digs_zero f z)
    clear hM
    go_enter Tryz.func57, Tryz.ntmps57
    go_wp2_with fail
    go_loopw [0, 3] (fun kk s wr => ∃ (m f : Nat) (z : ByteArray), m ≤ f ∧ (z.size : Int) + m ≤ 4611686018427387904 ∧ kk = .int .i64 m ∧ s = .string z ∧ Grew w wr ∧ Hid (M = (⟨#[109]⟩ : ByteArray) ++ digs f m z)) (fun kk _ _ => (intOf kk).toNat)
    case atStart => exact ⟨n, n, ⟨#[]⟩, Nat.le_refl _, by show ((0 : Nat) : Int) + n ≤ _; omega, rfl, rfl, Grew.refl _, HM.out⟩
    case round =>
      obtain ⟨m, f, z, hm0, hm1, rfl, rfl, hB, HJ⟩ := hrel
      by_cases hp : 0 < m
      · obtain ⟨g, rfl⟩ : ∃ g, f = g + 1 := ⟨f - 1, by omega⟩
        have hcv := conv_one
        have hs1 : ∀ Y, (strOfNums [Y]).size = 1 := fun Y => by rw [strOfNums_size]; rfl
        have hne : ∀ o, Grew w (wr.alloc o) := fun o => hB.alloc o
        have hv : Hid (M = (⟨#[109]⟩ : ByteArray) ++ digs g (m / 10) (strOfNums [((48 + m % 10 : Nat) : Int)] ++ z)) := Lib.hid (by rw [HJ.out, HST.out g m hp])
        clear HM HJ
        go_wp2_with fail
        go_roundw
        case rel => exact ⟨m / 10, g, _, by omega, by rw [ByteArray.size_append, hs1]; omega, by go_num, rfl, hne _, hv.out⟩
        case measure => simp [intOf]; omega
      · obtain rfl : m = 0 := by omega
        have hv : Hid (M = (⟨#[109]⟩ : ByteArray) ++ z) := Lib.hid (by rw [HJ.out, HZ.out])
        go_wp2_with fail
        go_ret
        exact ⟨by rw [hv.out]; rfl, hB⟩
end Go.Proofs.YtmdbhcoioimlmaaGreat

/- The laws' marks on lists of strings. -/
namespace Go.Proofs.YtmdbhcoioimlmaaGreat
open Go.RowKit

theorem markText_c (k : Int) (w : World) (h0 : 0 ≤ k) (h1 : k ≤ 4611686018427387904) :
    Calls Tryz.prog 57 #[.int .i64 k] w fun e w' => ∃ s, e = .returned (.string s) ∧ Grew w w' :=
  (markTextD_c k w h0 h1).mono fun _ _ ⟨h, hg⟩ => ⟨_, h, hg⟩
/-- markStringS writes into a row of the call's own. -/
theorem markStringS_c (v : Value) (L : List ByteArray) (B : Nat) (k : Int) (w : World) (h : OwnS w B v L) (hk0 : 0 ≤ k) (hk : k ≤ 1099511627776) (hn : L.length ≤ 1048576) :
    Calls Tryz.prog 21 #[v, .int .i64 k] w fun e w' => e = .returned (.int .i64 (k + L.length)) ∧ (∀ g, v.ownBlock = some g → Only g w w') ∧ (v.ownBlock = none → Grew w w') := by
  rcases h.2 with ⟨rfl, h0⟩ | ⟨g, c, cur0, rfl, hB, hh0, hnc, hcm, hcs0, _⟩
  · have hL : L.length = 0 := by simpa using h0
    rw [hL]
    clear h h0
    go_enter Tryz.func21, Tryz.ntmps21
    go_wp2_with fail
    refine wp_loop_rounds 1 ?_; rw [rounds_succ]
    go_wp2_with fail
    go_ret
    exact ⟨by simp, fun _ _ => Only.refl _ _, fun _ => Grew.refl _⟩
  · clear h
    generalize hN : L.length = n at *
    clear hN
    go_enter Tryz.func21, Tryz.ntmps21
    go_wp2_with fail
    go_loopw [1, 5] (fun kk i wr => ∃ (j : Nat) (cur : Array Value), j ≤ n ∧ i = .int .i64 j ∧ kk = .int .i64 (k + (j : Int)) ∧ wr.heap[g]? = some (.cells cur 9 (0, 0)) ∧ cur.size = c * 1 ∧ Only g w wr) (fun _ i _ => n - (intOf i).toNat)
    case atStart => exact ⟨0, cur0, Nat.zero_le _, rfl, by simp, hh0, hcs0, Only.refl _ _⟩
    case round =>
      obtain ⟨j, cur, hj, rfl, rfl, hh, hcs, ho⟩ := hrel
      by_cases hlt : j < n
      · have HH := Lib.hid hh
        clear hh
        go_wp2_with fail
        refine (markText_c _ _ (by omega) (by omega)).mono ?_
        rintro e w1 ⟨s, rfl, hg1⟩
        have hh1 := (hg1.block (blk_lt HH.out)).trans HH.out
        have f1 : w1.frozen? ⟨g, j, none⟩ = false := blk_frozen hh1 j
        obtain ⟨u1, hu1⟩ : ∃ u, w1.cell? ⟨g, j, none⟩ = some u := by
          rw [blk_cell hh1]
          exact ⟨_, Array.getElem?_eq_getElem (by omega)⟩
        have HH1 := Lib.hid hh1
        clear hh1
        go_wp2_with fail
        go_roundw
        case rel => exact ⟨j + 1, _, by omega, by go_num, by go_num, blk_set HH1.out _ _, by simp [hcs], (ho.grew hg1).setCell _⟩
        case measure => simp [intOf]; omega
      · obtain rfl : j = n := by omega
        have HH := Lib.hid hh
        clear hh
        go_wp2_with fail
        go_ret
        exact ⟨rfl, fun g' hg' => by simp [Value.ownBlock] at hg'; subst hg'; exact ho, fun hg' => by simp [Value.ownBlock] at hg'⟩
end Go.Proofs.YtmdbhcoioimlmaaGreat

/- A row that is written: other rows stay, older worlds have not changed. -/
namespace Go.Proofs.YtmdbhcoioimlmaaGreat
open Go.RowKit

theorem own_row {w w' : World} {B : Nat} {e : TypeId} {k n : Nat} {v : Value} {xs : List Value} {row : Option Nat} (h : w.ownsRow B e k v n xs) (hg : w.grownBy w' row) (hne : ∀ g, row = some g → v.ownBlock ≠ some g) : w'.ownsRow B e k v n xs := by
  cases row with
  | none => exact own_grew h ⟨hg.os, hg.tape, hg.output, hg.size, fun i hi => hg.block i hi (by simp)⟩
  | some g => exact own_only h (show Only g w w' from hg) (hne g rfl)
theorem grew_row {W w w' : World} {row : Option Nat} (h : Grew W w) (hg : w.grownBy w' row) (hne : ∀ g, row = some g → W.heap.size ≤ g) : Grew W w' := h.grown hg hne
theorem row_of {w w' : World} {v : Value} (h1 : ∀ g, v.ownBlock = some g → Only g w w') (h2 : v.ownBlock = none → Grew w w') : w.grownBy w' v.ownBlock := by
  cases hv : v.ownBlock with
  | none => exact (h2 hv).by_ _
  | some g => exact h1 g hv
end Go.Proofs.YtmdbhcoioimlmaaGreat

/- The laws' marks on lists of strings, in the form that the laws' walks use. -/
namespace Go.Proofs.YtmdbhcoioimlmaaGreat
open Go.RowKit

theorem markStringS_w (v : Value) (L : List ByteArray) (B : Nat) (k : Int) (w : World) (h : OwnS w B v L) (hk0 : 0 ≤ k) (hk : k ≤ 1099511627776) (hn : L.length ≤ 1048576) :
    Calls Tryz.prog 21 #[v, .int .i64 k] w fun e w' => e = .returned (.int .i64 (k + L.length)) ∧ w.grownBy w' v.ownBlock :=
  (markStringS_c v L B k w h hk0 hk hn).mono fun _ _ ⟨h1, h2, h3⟩ => ⟨h1, row_of h2 h3⟩
end Go.Proofs.YtmdbhcoioimlmaaGreat

/- The laws' marks on a list of strings that is read again: what markStringS leaves, heldStringS. -/
namespace Go.Proofs.YtmdbhcoioimlmaaGreat
open Go.RowKit

def smarks (k : Int) (n : Nat) : List ByteArray := (List.range n).map fun i : Nat => mtx (k + (i : Int))
theorem smarks_length (k : Int) (n : Nat) : (smarks k n).length = n := by simp [smarks]
theorem smarks_st {k : Int} {n i : Nat} (h : i < n) : st (smarks k n) i = mtx (k + (i : Int)) := by simp [smarks, st, List.getD, h]

theorem markStringS_m (v : Value) (xs : List ByteArray) (B : Nat) (k : Int) (w : World) (h : OwnS w B v xs) (hk0 : 0 ≤ k) (hk : k ≤ 1099511627776) (hn : xs.length ≤ 1048576) :
    Calls Tryz.prog 21 #[v, .int .i64 k] w fun e w' => e = .returned (.int .i64 (k + xs.length)) ∧ OwnS w' B v (smarks k xs.length) ∧ w.grownBy w' v.ownBlock := by
  rcases h.2 with ⟨rfl, h0⟩ | ⟨g, c, cur0, rfl, hB, hh0, hnc, hcm, hcs0, _⟩
  · have hL : xs.length = 0 := by simpa using h0
    rw [hL]
    clear h h0
    go_enter Tryz.func21, Tryz.ntmps21
    go_wp2_with fail
    refine wp_loop_rounds 1 ?_; rw [rounds_succ]
    go_wp2_with fail
    go_ret
    exact ⟨by simp, by simpa [smarks] using OwnS.nil_ _ _, World.grownBy.refl _ _⟩
  · have hend : ∀ cur w', w'.heap[g]? = some (.cells cur 9 (0, 0)) → cur.size = c * 1 → (∀ i, i < xs.length → cur[i]? = some (.string (mtx (k + (i : Int))))) → OwnS w' B (.slice (some ⟨g, 0, none⟩) xs.length c) (smarks k xs.length) := by
      intro cur w' h1 h2 h3
      have := OwnS.mk_ (w := w') (B := B) (L := smarks k xs.length) (g := g) (c := c) (cur := cur) hB h1 (by rw [smarks_length]; exact hnc) hcm (by omega) (fun i hi => by
        rw [smarks_length] at hi
        rw [smarks_st hi]
        exact h3 i hi)
      rw [smarks_length] at this
      exact this
    generalize hN : xs.length = n at *
    clear hN h
    have HE := Lib.hid hend
    clear hend
    go_enter Tryz.func21, Tryz.ntmps21
    go_wp2_with fail
    go_loopw [1, 5] (fun kk i wr => ∃ (j : Nat) (cur : Array Value), j ≤ n ∧ i = .int .i64 j ∧ kk = .int .i64 (k + (j : Int)) ∧ wr.heap[g]? = some (.cells cur 9 (0, 0)) ∧ cur.size = c * 1 ∧ Only g w wr ∧ Hid (∀ i, i < j → cur[i]? = some (.string (mtx (k + (i : Int)))))) (fun _ i _ => n - (intOf i).toNat)
    case atStart => exact ⟨0, cur0, Nat.zero_le _, rfl, by simp, hh0, hcs0, Only.refl _ _, fun i hi => absurd hi (by omega)⟩
    case round =>
      obtain ⟨j, cur, hj, rfl, rfl, hh, hcs, ho, HC⟩ := hrel
      by_cases hlt : j < n
      · have HS := Lib.hid (one_step (F := fun i => .string (mtx (k + (i : Int)))) (j := j) (by omega) HC.out)
        have HH := Lib.hid hh
        clear hh
        go_wp2_with fail
        refine (markTextD_c (k + (j : Int)) _ (by omega) (by omega)).mono ?_
        rintro e w1 ⟨rfl, hg1⟩
        have hh1 := (hg1.block (blk_lt HH.out)).trans HH.out
        have f1 : w1.frozen? ⟨g, j, none⟩ = false := blk_frozen hh1 j
        obtain ⟨u1, hu1⟩ : ∃ u, w1.cell? ⟨g, j, none⟩ = some u := by
          rw [blk_cell hh1]
          exact ⟨_, Array.getElem?_eq_getElem (by omega)⟩
        have HH1 := Lib.hid hh1
        clear hh1
        go_wp2_with fail
        go_roundw
        case rel => exact ⟨j + 1, _, by omega, by go_num, by go_num, blk_set HH1.out _ _, by simp [hcs], (ho.grew hg1).setCell _, HS.out⟩
        case measure => simp [intOf]; omega
      · obtain rfl : j = n := by omega
        have HH := Lib.hid hh
        clear hh
        go_wp2_with fail
        go_ret
        exact ⟨rfl, HE.out _ _ HH.out hcs HC.out, ho⟩

/-- heldStringS finds the marks that stand there. -/
theorem heldStringS_c (v : Value) (n : Nat) (k : Int) (w : World) (h : Strs w v (smarks k n)) (hk0 : 0 ≤ k) (hk : k ≤ 1099511627776) (hn : n ≤ 1048576) :
    Calls Tryz.prog 22 #[v, .int .i64 k] w fun e w' => e = .returned (.int .i64 (k + n)) ∧ Grew w w' := by
  have hl := smarks_length k n
  rcases h.open_ with ⟨rfl, h0⟩ | ⟨b, o, c, rfl, hc, hm, hb, hf⟩
  · obtain rfl : n = 0 := by rw [h0] at hl; simpa using hl.symm
    go_enter Tryz.func22, Tryz.ntmps22
    go_wp2_with fail
    refine wp_loop_rounds 1 ?_; rw [rounds_succ]
    go_wp2_with fail
    go_ret
    exact ⟨by simp, Grew.refl _⟩
  · rw [hl] at hc hf ⊢
    clear hl h
    have HF : Hid (∀ i, i < n → ∀ W, Grew w W → W.cell? ⟨b, o + i, none⟩ = some (.string (mtx (k + (i : Int))))) := Lib.hid fun i hi W hW => by
      have := hf i hi W hW
      rwa [smarks_st hi] at this
    clear hf
    go_enter Tryz.func22, Tryz.ntmps22
    go_wp2_with fail
    go_loopw [1, 5] (fun kk i wr => ∃ (j : Nat), j ≤ n ∧ i = .int .i64 j ∧ kk = .int .i64 (k + (j : Int)) ∧ Grew w wr) (fun _ i _ => n - (intOf i).toNat)
    case atStart => exact ⟨0, Nat.zero_le _, rfl, by simp, Grew.refl _⟩
    case round =>
      obtain ⟨j, hj, rfl, rfl, hB⟩ := hrel
      by_cases hlt : j < n
      · have k1 : ∀ W, Grew w W → W.cell? ⟨b, o + j, none⟩ = some (.string (mtx (k + (j : Int)))) := fun W hW => HF.out j hlt W hW
        have HMT := Lib.hid (fun W => markTextD_c (k + (j : Int)) W (by omega) (by omega))
        generalize mtx (k + (j : Int)) = z at *
        have hz : (z.toList != z.toList) = false := by simp
        have hrr := hB
        have hdr := hB.drew
        go_wp2_with fail
        go_region_held3 (fun w' => Grew w w') (with_reducible assumption)
          (first | (go_at_call 57; refine (HMT.out _).mono ?_; rintro e w1 ⟨rfl, hg1⟩; have hk1 : Grew w w1 := hdr.trans hg1))
        go_wp2_with fail
        go_roundw
        case rel => exact ⟨j + 1, by omega, by go_num, by go_num, hk1⟩
        case measure => simp [intOf]; omega
      · obtain rfl : j = n := by omega
        go_wp2_with fail
        go_ret
        exact ⟨rfl, by assumption⟩
end Go.Proofs.YtmdbhcoioimlmaaGreat

/- The law FnExactMinimalLeft, walked. -/
namespace Go.Proofs.YtmdbhcoioimlmaaGreat
open Go.RowKit

theorem lawMl_c (v0 : Value) (L0 : List ByteArray) (s1 : ByteArray) (w : World) (h0 : ArgS w v0 L0) :
    Calls Tryz.prog 7 #[v0, .string s1] w fun e w' => e = .returned (.bool true) ∧ Grew w w' := by
  by_cases hbig1 : 1048576 < s1.size
  · clear h0
    go_enter Tryz.func7, Tryz.ntmps7
    go_wp2_with fail
    go_ret
    exact ⟨rfl, Grew.refl _⟩
  have Z0 := Lib.hid (fun W l (hW : Grew w W) (a0 : 0 ≤ l) (a1 : l ≤ 1048576) => szStringS_c v0 L0 l W (h0.grew hW) a0 a1)
  have T0 := Lib.hid (fun W (hW : Grew w W) => toStringS_c v0 L0 W (h0.grew hW))
  clear h0
  go_enter Tryz.func7, Tryz.ntmps7
  go_wp2_with fail
  refine (Z0.out _ _ (Grew.refl w) (by omega) (by omega)).mono ?_
  rintro e w1 ⟨r0, rfl, ⟨hm0, hs0⟩, hg1⟩
  have z1 := Lib.hid hg1.size
  have g1 : Grew w w1 := (Grew.refl w).trans hg1
  clear hg1
  by_cases hr0 : r0 < 0
  · clear hs0
    go_wp2_with fail
    go_ret
    exact ⟨rfl, g1⟩
  obtain ⟨hn0, hf0⟩ := hs0 (by omega)
  have F0 : Hid (Fits L0) := Lib.hid hf0
  clear hs0 hf0
  have KS := Lib.hid (fun u0 W x0 => specMl_c u0 L0 s1 W x0 F0.out (by omega) (by omega))
  have KI := Lib.hid (fun u0 W x0 => implMl_c u0 L0 s1 W x0 F0.out (by omega) (by omega))
  have hlen := mlF_len L0 s1
  generalize mlF L0 s1 = rr at *
  obtain ⟨xs, c⟩ := rr
  simp only at hlen
  unfold GivesS2 at KS KI
  simp only at KS KI
  have hcc : (c != c) = false := by simp
  go_wp2_with fail
  refine (T0.out _ g1 hn0).mono ?_
  rintro e w2 ⟨a0, rfl, oa0, hg2⟩
  have z2 := Lib.hid hg2.size
  have g2 : Grew w w2 := g1.trans hg2
  clear hg2
  go_wp2_with fail
  refine (KS.out _ _ oa0.strs).mono ?_
  rintro e w3 ⟨q0, rfl, hq, hg3⟩
  have HQB := Lib.hid (fun g (hg : q0.ownBlock = some g) => (hq.lt g hg).2)
  have z3 := Lib.hid hg3.size
  have g3 : Grew w w3 := g2.trans hg3
  clear hg3 oa0
  go_wp2_with fail
  refine (T0.out _ g3 hn0).mono ?_
  rintro e w4 ⟨x0, rfl, ox0, hg4⟩
  have HB0 := Lib.hid (fun g (hg : x0.ownBlock = some g) => ox0.lt g hg)
  have z4 := Lib.hid hg4.size
  have g4 : Grew w w4 := g3.trans hg4
  replace hq := hq.grew hg4
  clear hg4
  go_wp2_with fail
  refine (KI.out _ _ ox0.strs).mono ?_
  rintro e w5 ⟨g0, rfl, hog, hg5⟩
  have HGB := Lib.hid (fun g (hg : g0.ownBlock = some g) => (hog.lt g hg).1)
  have z5 := Lib.hid hg5.size
  have g5 : Grew w w5 := g4.trans hg5
  replace hq := hq.grew hg5
  replace ox0 := ox0.grew hg5
  clear hg5
  go_wp2_with fail
  refine (eqStringS_yes _ _ xs _ hog.strs hq.strs (by omega)).mono ?_
  rintro e w6 ⟨rfl, hg6⟩
  have z6 := Lib.hid hg6.size
  have g6 : Grew w w6 := g5.trans hg6
  replace hq := hq.grew hg6
  replace ox0 := ox0.grew hg6
  replace hog := hog.grew hg6
  clear hg6
  go_wp2_with fail
  refine (T0.out _ g6 hn0).mono ?_
  rintro e w7 ⟨y0, rfl, oy0, hg7⟩
  have z7 := Lib.hid hg7.size
  have g7 : Grew w w7 := g6.trans hg7
  replace hq := hq.grew hg7
  replace ox0 := ox0.grew hg7
  replace hog := hog.grew hg7
  clear hg7
  go_wp2_with fail
  refine (eqStringS_yes _ _ L0 _ ox0.strs oy0.strs (by omega)).mono ?_
  rintro e w8 ⟨rfl, hg8⟩
  have z8 := Lib.hid hg8.size
  have g8 : Grew w w8 := g7.trans hg8
  replace hq := hq.grew hg8
  replace ox0 := ox0.grew hg8
  replace hog := hog.grew hg8
  clear hg8 oy0
  go_wp2_with fail
  refine (markStringS_w _ L0 _ (1) _ ox0 (by omega) (by omega) (by omega)).mono ?_
  rintro e w9 ⟨rfl, hrow⟩
  replace hq : OwnS w9 _ q0 xs := own_row hq hrow (fun g hg hg2 => by have h1 := HQB.out g hg2; have h2 := (HB0.out g hg).1; have y1 := z1.out; have y2 := z2.out; have y3 := z3.out; have y4 := z4.out; omega)
  replace hog : OwnS w9 _ g0 xs := own_row hog hrow (fun g hg hg2 => by have h1 := HGB.out g hg2; have h2 := (HB0.out g hg).2; have y1 := z1.out; have y2 := z2.out; have y3 := z3.out; have y4 := z4.out; omega)
  have g9 : Grew w w9 := grew_row g8 hrow (fun g hg => by have h2 := (HB0.out g hg).1; have y1 := z1.out; have y2 := z2.out; have y3 := z3.out; have y4 := z4.out; omega)
  clear hrow ox0
  go_wp2_with fail
  refine (eqStringS_yes _ _ xs _ hog.strs hq.strs (by omega)).mono ?_
  rintro e w10 ⟨rfl, hg10⟩
  have z10 := Lib.hid hg10.size
  have g10 : Grew w w10 := g9.trans hg10
  replace hq := hq.grew hg10
  replace hog := hog.grew hg10
  clear hg10
  go_wp2_with fail
  refine (markStringS_m _ xs _ 1 _ hog (by omega) (by omega) (by omega)).mono ?_
  rintro e w11 ⟨rfl, hog, hrow⟩
  replace hq : OwnS w11 _ q0 xs := own_row hq hrow (fun g hg hg2 => by have h1 := HQB.out g hg2; have h2 := HGB.out g hg; have y1 := z1.out; have y2 := z2.out; have y3 := z3.out; have y4 := z4.out; omega)
  have g11 : Grew w w11 := grew_row g10 hrow (fun g hg => by have h2 := HGB.out g hg; have y1 := z1.out; have y2 := z2.out; have y3 := z3.out; have y4 := z4.out; omega)
  clear hrow
  go_wp2_with fail
  refine (heldStringS_c _ xs.length 1 _ hog.strs (by omega) (by omega) (by omega)).mono ?_
  rintro e w12 ⟨rfl, hg12⟩
  have z12 := Lib.hid hg12.size
  have g12 : Grew w w12 := g11.trans hg12
  replace hq := hq.grew hg12
  replace hog := hog.grew hg12
  clear hg12
  go_wp2_with fail
  refine (T0.out _ g12 hn0).mono ?_
  rintro e w13 ⟨b0, rfl, ob0, hg13⟩
  have z13 := Lib.hid hg13.size
  have g13 : Grew w w13 := g12.trans hg13
  replace hq := hq.grew hg13
  replace hog := hog.grew hg13
  clear hg13
  go_wp2_with fail
  refine (KI.out _ _ ob0.strs).mono ?_
  rintro e w14 ⟨h0, rfl, hoh, hg14⟩
  have z14 := Lib.hid hg14.size
  have g14 : Grew w w14 := g13.trans hg14
  replace hq := hq.grew hg14
  replace hog := hog.grew hg14
  clear hg14
  go_wp2_with fail
  refine (eqStringS_yes _ _ xs _ hoh.strs hq.strs (by omega)).mono ?_
  rintro e w15 ⟨rfl, hg15⟩
  have z15 := Lib.hid hg15.size
  have g15 : Grew w w15 := g14.trans hg15
  replace hq := hq.grew hg15
  replace hog := hog.grew hg15
  replace hoh := hoh.grew hg15
  clear hg15
  go_wp2_with fail
  refine (heldStringS_c _ xs.length 1 _ hog.strs (by omega) (by omega) (by omega)).mono ?_
  rintro e w16 ⟨rfl, hg16⟩
  go_wp2_with fail
  go_ret
  exact ⟨rfl, g15.trans hg16⟩
end Go.Proofs.YtmdbhcoioimlmaaGreat

/- An argument that is a list of strings, or a struct of two such lists. -/
namespace Go.Proofs.YtmdbhcoioimlmaaGreat
open Go.RowKit

theorem cell_lt {w : World} {a : Addr} {u : Value} (h : w.cell? a = some u) : a.block < w.heap.size := by
  unfold World.cell? at h
  split at h
  · rename_i hh
    exact (Array.getElem?_eq_some_iff.1 hh).1
  · cases h

theorem argS_of_trod {H : Type} {enc : TypeId × Value → H} {P : Program} {W : World} {sp : Nat → Bool} {held : Bool} {n : Nat} {t e : TypeId} {v : Value} {y : DataW H × List MemPlace}
    (ht : P.underlying t = some (.slice e)) (he : P.underlying e = some .string) (hc : P.cellsOf e = 1) (h : DataW.trod enc P W 0 sp held n t [v] = some y) : ∃ L, ArgS W v L := by
  rcases Go.Deep.open_strs ht he hc h with ⟨hv, _⟩ | ⟨a, len, cap, m, Sx, hv, _, hl, hm, hmm, _, hcell⟩
  · obtain rfl : v = .slice none 0 0 := by simpa using hv
    exact ⟨[], ⟨none, 0, rfl, by simp⟩, fun h => absurd h (by simp), fun i hi => absurd hi (by simp)⟩
  · obtain rfl : v = .slice (some a) len cap := by simpa using hv
    have hlm : len ≤ m := by rw [hmm]; split <;> omega
    have hmax : maxLen = 9223372036854775807 := by decide
    rw [hmax] at hm
    have hlen : ((List.range len).map Sx).length = len := by simp
    have hst : ∀ i, i < len → st ((List.range len).map Sx) i = Sx i := fun i hi => by simp [st, List.getD, hi]
    refine ⟨(List.range len).map Sx, ⟨some a, cap, by rw [hlen], by rw [hlen]; omega⟩, fun hp => ?_, fun i hi => ?_⟩
    · rw [hlen] at hp
      obtain ⟨b, off, spot⟩ := a
      have h0 := (hcell 0 (by omega)).1
      have hspot : spot = none := by simpa [Addr.add] using World.cell?_spot h0
      subst hspot
      have hb := cell_lt h0
      have hadd : ∀ i, (⟨b, off, none⟩ : Addr).add i = ⟨b, off + i, none⟩ := fun i => by
        unfold Addr.add
        split
        · subst_vars; rfl
        · rfl
      rw [hadd] at hb
      unfold Strs Rd
      rw [hlen]
      refine ⟨by rw [scells_length, hlen], by omega, .inr ⟨b, off, cap, rfl, hl, hm, hb, fun j u hu => ?_⟩⟩
      have hj : j < len := by
        have := (List.getElem?_eq_some_iff.1 hu).1
        rw [scells_length, hlen] at this
        omega
      rw [scells_at (by rw [hlen]; exact hj), hst j hj] at hu
      rw [← hadd, (hcell j (by omega)).1]
      exact hu
    · rw [hlen] at hi
      rw [hst i hi, ← hmax]
      exact (hcell i (by omega)).2
end Go.Proofs.YtmdbhcoioimlmaaGreat

/- A predicate on strings: IndexFunc, ContainsFunc. -/
namespace Go.Proofs.YtmdbhcoioimlmaaGreat
open Go.RowKit

/-- None of the first k strings meets the predicate. -/
def NoneS (p : ByteArray → Bool) (L : List ByteArray) (k : Nat) : Prop := ∀ i, i < k → p (st L i) = false
theorem NoneS.zero (p : ByteArray → Bool) (L : List ByteArray) : NoneS p L 0 := fun i hi => absurd hi (by omega)
theorem NoneS.succ {p : ByteArray → Bool} {L : List ByteArray} {k : Nat} (h : NoneS p L k) (h1 : p (st L k) = false) : NoneS p L (k + 1) := by
  intro i hi
  rcases Nat.lt_or_ge i k with hk | hk
  · exact h i hk
  · obtain rfl : i = k := by omega
    exact h1
theorem noneS_any {p : ByteArray → Bool} {L : List ByteArray} (h : NoneS p L L.length) : L.any p = false := by
  rw [List.any_eq_false]
  intro x hx
  obtain ⟨i, hi, rfl⟩ := List.getElem_of_mem hx
  rw [st_get hi, h i hi]
  simp
theorem anyS_at {p : ByteArray → Bool} {L : List ByteArray} {k : Nat} (hk : k < L.length) (h : p (st L k) = true) : L.any p = true := by
  rw [List.any_eq_true]
  exact ⟨L[k], List.getElem_mem hk, by rw [st_get hk]; exact h⟩

/-- What the function value gives at a string. -/
def PredS (f : Nat) (p : ByteArray → Bool) : Prop := ∀ s W, s.size ≤ 140737488355328 → Calls Tryz.prog f #[.string s] W fun e W' => e = .returned (.bool (p s)) ∧ Grew W W'

theorem indexFuncS_c (v : Value) (L : List ByteArray) (f : Nat) (p : ByteArray → Bool) (w : World) (h : Strs w v L) (hfit : Fits L) (hf : PredS f p) (eg : ∀ args w, (callFunc f args).run Tryz.prog w = .ok (.enter f args) w) :
    Calls Tryz.prog 87 #[v, .func (.func f) #[] #[]] w fun e w' => ∃ r : Int, e = .returned (.int .i64 r) ∧ Grew w w' ∧ decide (0 ≤ r) = L.any p := by
  rcases h.open_ with ⟨rfl, rfl⟩ | ⟨b, o, c, rfl, hc, hm, hb, hcell⟩
  · rw [noneS_any (NoneS.zero _ _)]
    clear h hf hfit
    go_enter Tryz.func87, Tryz.ntmps87
    go_wp2_with fail
    refine wp_loop_rounds 1 ?_; rw [rounds_succ]
    go_wp2_with fail
    go_ret
    exact ⟨_, rfl, Grew.refl _, rfl⟩
  obtain ⟨R, hR⟩ : ∃ R, R = L.any p := ⟨_, rfl⟩
  rw [← hR]
  have HA := Lib.hid (fun k hk h => hR.trans (@anyS_at p L k hk h))
  have HZ := Lib.hid (fun h => hR.trans (@noneS_any p L h))
  have HC := Lib.hid hcell
  have HF := Lib.hid hf
  unfold Fits at hfit
  have HT := Lib.hid hfit
  clear hcell h hf hR hfit
  generalize hN : L.length = n at *
  clear hN
  go_enter Tryz.func87, Tryz.ntmps87
  go_wp2_with fail
  go_loopw [5, 8] (fun _ i wr => ∃ j : Nat, j ≤ n ∧ i = .int .i64 j ∧ Grew w wr ∧ Hid (NoneS p L j)) (fun _ i _ => n - (intOf i).toNat)
  case atStart => exact ⟨0, Nat.zero_le _, rfl, Grew.refl _, NoneS.zero _ _⟩
  case round =>
    obtain ⟨j, hj, rfl, hB, HJ⟩ := hrel
    by_cases hlt : j < n
    · have k1 := HC.out j hlt _ hB
      have hz := HT.out j hlt
      have hA := Lib.hid (HA.out j hlt)
      have hS := Lib.hid (fun h => HJ.out.succ (k := j) h)
      generalize st L j = x at *
      go_wp2_with fail
      go_at_fn f
      refine (HF.out x _ (by omega)).mono ?_
      rintro e w1 ⟨rfl, hg1⟩
      have hB1 := hB.trans hg1
      cases hp : p x with
      | true =>
        have hv := hA.out hp
        go_wp2_with fail
        go_ret
        exact ⟨_, rfl, hB1, by rw [hv]; simp⟩
      | false =>
        have hs := Lib.hid (hS.out hp)
        go_wp2_with fail
        go_roundw
        case rel => exact ⟨j + 1, by omega, by go_num, hB1, hs⟩
        case measure => simp [intOf]; omega
    · obtain rfl : j = n := by omega
      have hv := Lib.hid (HZ.out HJ.out)
      go_wp2_with fail
      go_ret
      exact ⟨_, rfl, hB, by rw [hv.out]; rfl⟩

theorem containsFuncS_c (v : Value) (L : List ByteArray) (f : Nat) (p : ByteArray → Bool) (w : World) (h : Strs w v L) (hfit : Fits L) (hf : PredS f p) (eg : ∀ args w, (callFunc f args).run Tryz.prog w = .ok (.enter f args) w) :
    Calls Tryz.prog 49 #[v, .func (.func f) #[] #[]] w fun e w' => e = .returned (.bool (L.any p)) ∧ Grew w w' := by
  have HI := Lib.hid (indexFuncS_c v L f p w h hfit hf eg)
  clear h hf eg hfit
  generalize L.any p = R at *
  go_enter Tryz.func49, Tryz.ntmps49
  go_wp2_with fail
  refine HI.out.mono ?_
  rintro e w1 ⟨r, rfl, hg1, hr⟩
  go_wp2_with fail
  go_ret
  exact ⟨by rw [← hr]; rfl, hg1⟩
end Go.Proofs.YtmdbhcoioimlmaaGreat

/- ConsequencesOf of both sides. -/
namespace Go.Proofs.YtmdbhcoioimlmaaGreat
open Go.RowKit
open Fm (Tree)

/-! The plain law. -/
noncomputable def lfB (L : List ByteArray) : Bool := ascP L && decide (L.length ≤ 12)
noncomputable def coF (L C : List ByteArray) : List ByteArray × Int :=
  if (lfB L && !C.any fun s => !gp s) = true then
    (if (C.any fun s => !decide (szL L + szL [s] ≤ 20)) = true then ([], 3) else (C.filter fun s => dc (EntL (L.map fo) (fo s)), 0))
  else ([], 1)
theorem coF_len (L C : List ByteArray) : (coF L C).1.length ≤ C.length := by
  unfold coF
  split
  · split
    · simp
    · exact List.length_filter_le _ _
  · simp

/-! Predicates with captured values, which only make memory. -/
/-- What the function value gives at the texts of a list. -/
def PredK (w : World) (f : Nat) (caps : Array Value) (L : List ByteArray) (p : ByteArray → Bool) : Prop := ∀ s W, s ∈ L → Grew w W → Calls Tryz.prog f (#[.string s] ++ caps) W fun e W' => e = .returned (.bool (p s)) ∧ Grew W W'

theorem indexFuncK_c (v : Value) (L : List ByteArray) (f : Nat) (caps : Array Value) (p : ByteArray → Bool) (w : World) (h : Strs w v L) (hf : PredK w f caps L p) (eg : ∀ args w, (callFunc f args).run Tryz.prog w = .ok (.enter f args) w) :
    Calls Tryz.prog 87 #[v, .func (.func f) #[] caps] w fun e w' => ∃ r : Int, e = .returned (.int .i64 r) ∧ Grew w w' ∧ decide (0 ≤ r) = L.any p := by
  rcases h.open_ with ⟨rfl, rfl⟩ | ⟨b, o, c, rfl, hc, hm, hb, hcell⟩
  · rw [noneS_any (NoneS.zero _ _)]
    clear h hf
    go_enter Tryz.func87, Tryz.ntmps87
    go_wp2_with fail
    refine wp_loop_rounds 1 ?_; rw [rounds_succ]
    go_wp2_with fail
    go_ret
    exact ⟨_, rfl, Grew.refl _, rfl⟩
  obtain ⟨R, hR⟩ : ∃ R, R = L.any p := ⟨_, rfl⟩
  rw [← hR]
  have HA := Lib.hid (fun k hk h => hR.trans (@anyS_at p L k hk h))
  have HZ := Lib.hid (fun h => hR.trans (@noneS_any p L h))
  have HC := Lib.hid hcell
  have HF := Lib.hid hf
  have HM := Lib.hid (fun k (hk : k < L.length) => (by rw [← st_get hk]; exact List.getElem_mem hk : st L k ∈ L))
  clear hcell h hf hR
  unfold PredK at HF
  generalize hN : L.length = n at *
  clear hN
  go_enter Tryz.func87, Tryz.ntmps87
  go_wp2_with fail
  go_loopw [5, 8] (fun _ i wr => ∃ j : Nat, j ≤ n ∧ i = .int .i64 j ∧ Grew w wr ∧ Hid (NoneS p L j)) (fun _ i _ => n - (intOf i).toNat)
  case atStart => exact ⟨0, Nat.zero_le _, rfl, Grew.refl _, NoneS.zero _ _⟩
  case round =>
    obtain ⟨j, hj, rfl, hB, HJ⟩ := hrel
    by_cases hlt : j < n
    · have k1 := HC.out j hlt _ hB
      have hA := Lib.hid (HA.out j hlt)
      have hS := Lib.hid (fun h => HJ.out.succ (k := j) h)
      have hF := Lib.hid (HF.out _ _ (HM.out j hlt) hB)
      generalize st L j = x at *
      go_wp2_with fail
      go_at_fn f
      refine (hF.out).mono ?_
      rintro e w1 ⟨rfl, hg1⟩
      have hB1 := hB.trans hg1
      cases hp : p x with
      | true =>
        have hv := hA.out hp
        go_wp2_with fail
        go_ret
        exact ⟨_, rfl, hB1, by rw [hv]; simp⟩
      | false =>
        have hs := Lib.hid (hS.out hp)
        go_wp2_with fail
        go_roundw
        case rel => exact ⟨j + 1, by omega, by go_num, hB1, hs⟩
        case measure => simp [intOf]; omega
    · obtain rfl : j = n := by omega
      have hv := Lib.hid (HZ.out HJ.out)
      go_wp2_with fail
      go_ret
      exact ⟨_, rfl, hB, by rw [hv.out]; rfl⟩
theorem containsFuncK_c (v : Value) (L : List ByteArray) (f : Nat) (caps : Array Value) (p : ByteArray → Bool) (w : World) (h : Strs w v L) (hf : PredK w f caps L p) (eg : ∀ args w, (callFunc f args).run Tryz.prog w = .ok (.enter f args) w) :
    Calls Tryz.prog 49 #[v, .func (.func f) #[] caps] w fun e w' => e = .returned (.bool (L.any p)) ∧ Grew w w' := by
  have HI := Lib.hid (indexFuncK_c v L f caps p w h hf eg)
  obtain ⟨A, c, rfl⟩ := strs_slice h
  clear h hf eg
  generalize L.any p = R at *
  go_enter Tryz.func49, Tryz.ntmps49
  go_wp2_with fail
  refine HI.out.mono ?_
  rintro e w1 ⟨r, rfl, hg1, hr⟩
  go_wp2_with fail
  go_ret
  exact ⟨by rw [← hr]; rfl, hg1⟩
end Go.Proofs.YtmdbhcoioimlmaaGreat

/- slices.DeleteFunc over a row of texts of the call's own, with a predicate that remembers. -/
namespace Go.Proofs.YtmdbhcoioimlmaaGreat
open Go.RowKit
open Fm (Tree)

/-- Of what was there blocks g and M alone may have changed. -/
structure Twin (g M : Nat) (a b : World) : Prop where
  os : b.os = a.os
  tape : b.tape = a.tape
  output : b.output = a.output
  size : a.heap.size ≤ b.heap.size
  block : ∀ k, k < a.heap.size → k ≠ g → k ≠ M → b.heap[k]? = a.heap[k]?
theorem Twin.refl (g M : Nat) (w : World) : Twin g M w w := ⟨rfl, rfl, rfl, Nat.le_refl _, fun _ _ _ _ => rfl⟩
theorem Twin.trans {g M : Nat} {a b c : World} (h : Twin g M a b) (k : Twin g M b c) : Twin g M a c :=
  ⟨k.os.trans h.os, k.tape.trans h.tape, k.output.trans h.output, Nat.le_trans h.size k.size, fun i hi h1 h2 => (k.block i (Nat.lt_of_lt_of_le hi h.size) h1 h2).trans (h.block i hi h1 h2)⟩
theorem Twin.of_only {g M : Nat} {a b : World} (h : Only M a b) : Twin g M a b := ⟨h.os, h.tape, h.output, h.size, fun _ hi _ h2 => h.block hi h2⟩
theorem Twin.of_row {g M : Nat} {a b : World} (h : Only g a b) : Twin g M a b := ⟨h.os, h.tape, h.output, h.size, fun _ hi h1 _ => h.block hi h1⟩
theorem Twin.grew {g M : Nat} {w0 a b : World} (h : Twin g M a b) (h0 : Grew w0 a) (h1 : w0.heap.size ≤ g) (h2 : w0.heap.size ≤ M) : Grew w0 b :=
  ⟨h.os.trans h0.os, h.tape.trans h0.tape, h.output.trans h0.output, Nat.le_trans h0.size h.size, fun i hi => (h.block i (Nat.lt_of_lt_of_le hi h0.size) (by omega) (by omega)).trans (h0.block hi)⟩
theorem Twin.cell {g M : Nat} {a b : World} (h : Twin g M a b) {p : Addr} (hp : p.block < a.heap.size) (h1 : p.block ≠ g) (h2 : p.block ≠ M) : b.cell? p = a.cell? p := World.cell?_of_block (h.block _ hp h1 h2)
theorem Twin.rd {g M k n : Nat} {a b : World} {v : Value} {xs : List Value} (h : Twin g M a b) (hr : Rd a k v n xs) (hv : ∀ bb o c, v = .slice (some ⟨bb, o, none⟩) n c → bb ≠ g ∧ bb ≠ M) : Rd b k v n xs := by
  obtain ⟨h1, h2, h3⟩ := hr
  refine ⟨h1, h2, ?_⟩
  rcases h3 with h3 | ⟨bb, o, c, rfl, h4, h5, h6, h7⟩
  · exact .inl h3
  · obtain ⟨n1, n2⟩ := hv bb o c rfl
    exact .inr ⟨bb, o, c, rfl, h4, h5, Nat.lt_of_lt_of_le h6 h.size, fun j u hu => (h.cell (p := ⟨bb, o + j, none⟩) h6 n1 n2).trans (h7 j u hu)⟩

theorem blk_setCells {g : Nat} {t : TypeId} : ∀ (vs : List Value) (o : Nat) (w : World) (cur : Array Value), w.heap[g]? = some (.cells cur t (0, 0)) →
    ∃ cur', (w.setCells g o vs).heap[g]? = some (.cells cur' t (0, 0)) ∧ cur'.size = cur.size ∧ ∀ i, i < o → cur'[i]? = cur[i]?
  | [], _, _, cur, h => ⟨cur, h, rfl, fun _ _ => rfl⟩
  | v :: r, o, w, cur, h => by
    obtain ⟨c', h1, h2, h3⟩ := blk_setCells r (o + 1) (w.setCell ⟨g, o, none⟩ v) _ (blk_set h o v)
    refine ⟨c', h1, by rw [h2]; simp, fun i hi => ?_⟩
    rw [h3 i (by omega), Array.getElem?_setIfInBounds, if_neg (by omega)]
theorem only_setCells {g : Nat} {a : World} : ∀ (vs : List Value) (o : Nat) (w : World), Only g a w → Only g a (w.setCells g o vs)
  | [], _, _, h => h
  | v :: r, o, w, h => only_setCells r (o + 1) _ (h.setCell v)

/-- The row while texts are struck: i kept ones of the first j, then the rest. -/
structure DI (L : List ByteArray) (p : ByteArray → Bool) (cur : Array Value) (i j : Nat) : Prop where
  low : ∀ k, k < i → cur[k]? = some (.string (st ((L.take j).filter fun s => !p s) k))
  len : ((L.take j).filter fun s => !p s).length = i
  high : ∀ k, j ≤ k → k < L.length → cur[k]? = some (.string (st L k))
theorem DI.le {L : List ByteArray} {p : ByteArray → Bool} {cur : Array Value} {i j : Nat} (h : DI L p cur i j) : i ≤ j := by
  have := List.length_filter_le (fun s => !p s) (L.take j)
  have h2 : (L.take j).length ≤ j := by rw [List.length_take]; omega
  have := h.len
  omega
theorem take_st {L : List ByteArray} {j : Nat} (h : j < L.length) : L.take (j + 1) = L.take j ++ [st L j] := by
  rw [List.take_succ_eq_append_getElem h, st_get h]
theorem DI.skip {L : List ByteArray} {p : ByteArray → Bool} {cur : Array Value} {i j : Nat} (h : DI L p cur i j) (hj : j < L.length) (hp : p (st L j) = true) : DI L p cur i (j + 1) := by
  have e : (L.take (j + 1)).filter (fun s => !p s) = (L.take j).filter fun s => !p s := by rw [take_st hj, List.filter_append]; simp [hp]
  exact ⟨by rw [e]; exact h.low, by rw [e]; exact h.len, fun k hk => h.high k (by omega)⟩
theorem st_app_lt {L K : List ByteArray} {k : Nat} (h : k < L.length) : st (L ++ K) k = st L k := by simp [st, List.getD, List.getElem?_append, h]
theorem st_app_eq {L : List ByteArray} {x : ByteArray} : st (L ++ [x]) L.length = x := by simp [st, List.getD]
theorem DI.keep {L : List ByteArray} {p : ByteArray → Bool} {cur : Array Value} {i j : Nat} (h : DI L p cur i j) (hj : j < L.length) (hc : i < cur.size) (hp : p (st L j) = false) : DI L p (cur.setIfInBounds i (.string (st L j))) (i + 1) (j + 1) := by
  have e : (L.take (j + 1)).filter (fun s => !p s) = ((L.take j).filter fun s => !p s) ++ [st L j] := by rw [take_st hj, List.filter_append]; simp [hp]
  have hle := h.le
  refine ⟨fun k hk => ?_, by rw [e, List.length_append, h.len]; rfl, fun k hk hk2 => ?_⟩
  · rw [e, Array.getElem?_setIfInBounds]
    rcases Nat.lt_or_ge k i with h1 | h1
    · rw [if_neg (by omega), st_app_lt (by rw [h.len]; exact h1)]
      exact h.low k h1
    · obtain rfl : k = i := by omega
      rw [if_pos rfl, if_pos hc]
      have := @st_app_eq ((L.take j).filter fun s => !p s) (st L j)
      rw [h.len] at this
      rw [this]
  · rw [Array.getElem?_setIfInBounds, if_neg (by omega)]
    exact h.high k (by omega) hk2
theorem DI.start {L : List ByteArray} {p : ByteArray → Bool} {cur : Array Value} {k : Nat} (hcur : ∀ i, i < L.length → cur[i]? = some (.string (st L i))) (hk : k < L.length) (hn : NoneS p L k) (hp : p (st L k) = true) : DI L p cur k (k + 1) := by
  have e : ∀ j, j ≤ k → (L.take j).filter (fun s => !p s) = L.take j := fun j hj => by
    rw [List.filter_eq_self]
    intro s hs
    obtain ⟨i, hi, rfl⟩ := List.getElem_of_mem hs
    rw [List.length_take] at hi
    have := hn i (by omega)
    rw [List.getElem_take, st_get (by omega), this]
    rfl
  have e1 : (L.take (k + 1)).filter (fun s => !p s) = L.take k := by rw [take_st hk, List.filter_append, e k (Nat.le_refl _)]; simp [hp]
  refine ⟨fun i hi => ?_, by rw [e1, List.length_take]; omega, fun i hi h2 => hcur i h2⟩
  rw [e1, hcur i (by omega)]
  simp [st, List.getD, List.getElem?_take, hi]
theorem noneS_filter {L : List ByteArray} {p : ByteArray → Bool} (h : NoneS p L L.length) : L.filter (fun s => !p s) = L := by
  rw [List.filter_eq_self]
  intro s hs
  obtain ⟨i, hi, rfl⟩ := List.getElem_of_mem hs
  rw [st_get hi, h i hi]
  rfl

/-- The predicate, whatever the row holds meanwhile. -/
def PredM (w : World) (D M g f : Nat) (caps : Array Value) (L : List ByteArray) (p : ByteArray → Bool) : Prop := ∀ s W, s ∈ L → Twin g M w W → Dec W D M → Calls Tryz.prog f (#[.string s] ++ caps) W (Decides W D M (p s))

/-- The first text that meets the predicate. -/
def FirstAt (L : List ByteArray) (p : ByteArray → Bool) (r : Int) : Prop := (r = -1 ∧ NoneS p L L.length) ∨ ∃ k : Nat, r = (k : Int) ∧ k < L.length ∧ p (st L k) = true ∧ NoneS p L k

set_option maxHeartbeats 1000000 in
theorem indexFuncM_c (D M g cap : Nat) (cur : Array Value) (L : List ByteArray) (f : Nat) (caps : Array Value) (p : ByteArray → Bool) (w : World) (hD : Dec w D M) (hh : w.heap[g]? = some (.cells cur 9 (0, 0))) (hcur : ∀ i, i < L.length → cur[i]? = some (.string (st L i))) (hc : L.length ≤ cap) (hm : cap ≤ 9223372036854775807)
    (hf : PredM w D M g f caps L p) (eg : ∀ args w, (callFunc f args).run Tryz.prog w = .ok (.enter f args) w) :
    Calls Tryz.prog 87 #[.slice (some ⟨g, 0, none⟩) L.length cap, .func (.func f) #[] caps] w fun e w' => ∃ r : Int, e = .returned (.int .i64 r) ∧ DF w D M w' ∧ Hid (FirstAt L p r) := by
  have hgM : g ≠ M := by
    rintro rfl
    obtain ⟨es, clock, h1, _⟩ := hD.memo
    rw [hh] at h1
    cases h1
  have HC : Hid (∀ i, i < L.length → ∀ W, DF w D M W → W.cell? ⟨g, 0 + i, none⟩ = some (.string (st L i))) := Lib.hid (fun i hi W hW => by
    rw [hW.only.cell (p := ⟨g, 0 + i, none⟩) (blk_lt hh) hgM, Nat.zero_add, blk_cell hh]
    exact hcur i hi)
  have HM := Lib.hid (fun k (hk : k < L.length) => (by rw [← st_get hk]; exact List.getElem_mem hk : st L k ∈ L))
  have HF := Lib.hid (fun s (hs : s ∈ L) W (hW : DF w D M W) => hf s W hs (Twin.of_only hW.only) hW.dec)
  have HDF := Lib.hid (DF.refl hD)
  have HE1 : Hid (NoneS p L L.length → FirstAt L p (-1)) := Lib.hid (fun h => .inl ⟨rfl, h⟩)
  have HE2 : Hid (∀ k : Nat, k < L.length → p (st L k) = true → NoneS p L k → FirstAt L p (k : Int)) := Lib.hid (fun k h1 h2 h3 => .inr ⟨k, rfl, h1, h2, h3⟩)
  clear hf hD hh hcur hgM
  generalize hN : L.length = n at *
  clear hN
  go_enter Tryz.func87, Tryz.ntmps87
  go_wp2_with fail
  go_loopw [5, 8] (fun _ i wr => ∃ j : Nat, j ≤ n ∧ i = .int .i64 j ∧ Hid (DF w D M wr) ∧ Hid (NoneS p L j)) (fun _ i _ => n - (intOf i).toNat)
  case atStart => exact ⟨0, Nat.zero_le _, rfl, HDF, NoneS.zero _ _⟩
  case round =>
    obtain ⟨j, hj, rfl, hB, HJ⟩ := hrel
    by_cases hlt : j < n
    · have k1 := HC.out j hlt _ hB.out
      rw [Nat.zero_add] at k1
      have hF := Lib.hid (HF.out _ (HM.out j hlt) _ hB.out)
      have hA := Lib.hid (fun h => HE2.out j hlt h HJ.out)
      have hS := Lib.hid (fun h => HJ.out.succ (k := j) h)
      generalize st L j = x at *
      go_wp2_with fail
      go_at_fn f
      refine (hF.out).mono ?_
      rintro e w1 ⟨rfl, hF1⟩
      have hB1 := Lib.hid (hB.out.trans hF1)
      cases hp : p x with
      | true =>
        have hv := Lib.hid (hA.out hp)
        go_wp2_with fail
        go_ret
        exact ⟨_, rfl, hB1.out, hv⟩
      | false =>
        have hs := Lib.hid (hS.out hp)
        go_wp2_with fail
        go_roundw
        case rel => exact ⟨j + 1, by omega, by go_num, hB1, hs⟩
        case measure => simp [intOf]; omega
    · obtain rfl : j = n := by omega
      have hv := Lib.hid (HE1.out HJ.out)
      go_wp2_with fail
      go_ret
      exact ⟨_, rfl, hB.out, hv⟩

/-- What is left of the row. -/
def GivesDel (w : World) (D M g B : Nat) (K : List ByteArray) (e : Ending) (w' : World) : Prop := ∃ u, e = .returned u ∧ OwnS w' B u K ∧ Twin g M w w' ∧ Dec w' D M
set_option maxHeartbeats 4000000 in
theorem deleteFuncM_c (D M g cap B : Nat) (cur : Array Value) (L : List ByteArray) (f : Nat) (caps : Array Value) (p : ByteArray → Bool) (w : World) (hD : Dec w D M) (hgD : g ≠ D) (hB : B ≤ g) (hh : w.heap[g]? = some (.cells cur 9 (0, 0))) (hcs : cur.size = cap) (hcur : ∀ i, i < L.length → cur[i]? = some (.string (st L i))) (hc : L.length ≤ cap) (hm : cap ≤ 9223372036854775807)
    (hf : PredM w D M g f caps L p) (eg : ∀ args w, (callFunc f args).run Tryz.prog w = .ok (.enter f args) w) :
    Calls Tryz.prog 53 #[.slice (some ⟨g, 0, none⟩) L.length cap, .func (.func f) #[] caps] w (GivesDel w D M g B (L.filter fun s => !p s)) := by
  unfold GivesDel
  have HI := Lib.hid (indexFuncM_c D M g cap cur L f caps p w hD hh hcur hc hm hf eg)
  have hgM : g ≠ M := by
    rintro rfl
    obtain ⟨es, clock, h1, _⟩ := hD.memo
    rw [hh] at h1
    cases h1
  have HH1 : Hid (∀ W, DF w D M W → W.heap[g]? = some (.cells cur 9 (0, 0))) := Lib.hid (fun W hW => (hW.only.block (blk_lt hh) hgM).trans hh)
  have HP : Hid (∀ (W W' : World) (c9 : Array Value), W.heap[g]? = some (.cells c9 9 (0, 0)) → DF W D M W' → W'.heap[g]? = some (.cells c9 9 (0, 0))) := Lib.hid (fun W W' c9 h hF => (hF.only.block (blk_lt h) hgM).trans h)
  have HW : Hid (∀ W a u, Dec W D M → Dec (W.setCell ⟨g, a, none⟩ u) D M) := Lib.hid (fun W a u h => by
    have ho : Only g W (W.setCell ⟨g, a, none⟩ u) := (Only.refl g W).setCell u
    refine ⟨Nat.lt_of_lt_of_le h.lt ho.size, (ho.cell (p := ⟨D, 0, none⟩) h.lt (fun e => hgD e.symm)).trans h.cell, ?_⟩
    have hl := h.memo.lt
    obtain ⟨es, clock, h1, h2⟩ := h.memo
    exact ⟨es, clock, (ho.block hl (fun e => hgM e.symm)).trans h1, h2⟩)
  have HWs : Hid (∀ vs a W, Dec W D M → Dec (W.setCells g a vs) D M) := Lib.hid (fun vs => by
    induction vs with
    | nil => exact fun a W h => h
    | cons v r ih => exact fun a W h => ih (a + 1) _ (HW.out W a v h))
  have HF := Lib.hid hf
  have HX := Lib.hid hcur
  have HM := Lib.hid (fun k (hk : k < L.length) => (by rw [← st_get hk]; exact List.getElem_mem hk : st L k ∈ L))
  have HEO : Hid (∀ (K : List ByteArray) (W : World) (c9 : Array Value), W.heap[g]? = some (.cells c9 9 (0, 0)) → c9.size = cap → K.length ≤ cap → (∀ k, k < K.length → c9[k]? = some (.string (st K k))) → OwnS W B (.slice (some ⟨g, 0, none⟩) K.length cap) K) := Lib.hid (fun K W c9 h1 h2 h3 h4 => OwnS.mk_ hB h1 h3 hm h2 h4)
  have HSK := Lib.hid (fun cur i j (h : DI L p cur i j) hj hp => h.skip hj hp)
  have HKP := Lib.hid (fun cur i j (h : DI L p cur i j) hj hc hp => h.keep hj hc hp)
  have HST := Lib.hid (fun k hk hn hp => @DI.start L p cur k hcur hk hn hp)
  have HNF := Lib.hid (fun h => @noneS_filter L p h)
  have HZ : Hid (L.filter (fun s => !p s) = (L.take L.length).filter fun s => !p s) := Lib.hid (by rw [List.take_length])
  have HCS := Lib.hid hcs
  have HFA : ∀ r, FirstAt L p r → (r = -1 ∧ Hid (NoneS p L L.length)) ∨ ∃ k : Nat, r = (k : Int) ∧ k < L.length ∧ Hid (p (st L k) = true ∧ NoneS p L k) := fun r h => h.imp (fun h => ⟨h.1, h.2⟩) (fun ⟨k, h1, h2, h3, h4⟩ => ⟨k, h1, h2, h3, h4⟩)
  replace HFA := Lib.hid HFA
  clear hf hD hh hcur hgM hcs hgD hB
  generalize hN : L.length = n at *
  have HN := Lib.hid hN
  clear hN
  go_enter Tryz.func53, Tryz.ntmps53
  go_wp2_with fail
  refine (HI.out).mono ?_
  rintro e w1 ⟨r, rfl, hF1, hr⟩
  have HF1 := Lib.hid hF1
  clear hF1
  rcases HFA.out r hr.out with ⟨rfl, hn⟩ | ⟨k, rfl, hk, hpn⟩
  · clear hr
    go_wp2_with fail
    go_ret
    refine ⟨_, rfl, ?_, Twin.of_only HF1.out.only, HF1.out.dec⟩
    rw [HNF.out hn.out]
    have := HEO.out L w1 cur (HH1.out _ HF1.out) HCS.out (by rw [HN.out]; exact hc) (by rw [HN.out]; exact HX.out)
    rwa [HN.out] at this
  · have hne1 : ((k : Int) == -1) = false := beq_eq_false_iff_ne.2 (by omega)
    clear hr
    go_wp2_with fail
    go_loopw [5, 6] (fun s5 s6 wr => ∃ (i j : Nat) (c9 : Array Value), s5 = .int .i64 i ∧ s6 = .int .i64 j ∧ j ≤ n ∧ i < j ∧ Hid (wr.heap[g]? = some (.cells c9 9 (0, 0)) ∧ c9.size = cap ∧ DI L p c9 i j) ∧ Hid (Twin g M w wr ∧ Dec wr D M)) (fun _ s6 _ => n - (intOf s6).toNat)
    case atStart => exact ⟨k, k + 1, cur, rfl, by go_num, by omega, by omega, ⟨HH1.out _ HF1.out, HCS.out, HST.out k hk hpn.out.2 hpn.out.1⟩, ⟨Twin.of_only HF1.out.only, HF1.out.dec⟩⟩
    case round =>
      obtain ⟨i, j, c9, rfl, rfl, hj, hij, HI9, HT9⟩ := hrel
      by_cases hlt : j < n
      · have k1 : wr.cell? ⟨g, j, none⟩ = some (.string (st L j)) := by rw [blk_cell HI9.out.1]; exact HI9.out.2.2.high j (Nat.le_refl _) (by rw [HN.out]; exact hlt)
        have hF := Lib.hid (HF.out _ _ (HM.out j hlt) HT9.out.1 HT9.out.2)
        have hsk := Lib.hid (fun h => HSK.out c9 i j HI9.out.2.2 hlt h)
        have hkp := Lib.hid (fun h => HKP.out c9 i j HI9.out.2.2 hlt (by rw [HI9.out.2.1]; omega) h)
        generalize st L j = x at *
        cases hp : p x with
        | true =>
          have hI2 := Lib.hid (hsk.out hp)
          rw [hp] at hF
          clear hp hsk hkp
          go_wp2_with fail
          go_at_fn f
          refine (hF.out).mono ?_
          rintro e w2 ⟨rfl, hF2⟩
          have HF2 := Lib.hid hF2
          clear hF2
          go_wp2_with fail
          go_roundw
          case rel => exact ⟨i, j + 1, c9, rfl, by go_num, by omega, by omega, ⟨HP.out _ _ _ HI9.out.1 HF2.out, HI9.out.2.1, hI2.out⟩, ⟨HT9.out.1.trans (Twin.of_only HF2.out.only), HF2.out.dec⟩⟩
          case measure => simp [intOf]; omega
        | false =>
          have hI2 := Lib.hid (hkp.out hp)
          rw [hp] at hF
          clear hp hsk hkp
          go_wp2_with fail
          go_at_fn f
          refine (hF.out).mono ?_
          rintro e w2 ⟨rfl, hF2⟩
          have HF2 := Lib.hid hF2
          clear hF2
          have hh2 := HP.out _ _ _ HI9.out.1 HF2.out
          have f1 : w2.frozen? ⟨g, i, none⟩ = false := blk_frozen hh2 i
          obtain ⟨u1, hu1⟩ : ∃ u, w2.cell? ⟨g, i, none⟩ = some u := by
            rw [blk_cell hh2]
            exact ⟨_, Array.getElem?_eq_getElem (by rw [HI9.out.2.1]; omega)⟩
          have HH2 := Lib.hid hh2
          clear hh2
          go_wp2_with fail
          go_roundw
          case rel => exact ⟨i + 1, j + 1, _, by go_num, by go_num, by omega, by omega, ⟨blk_set HH2.out _ _, by simp [HI9.out.2.1], hI2.out⟩, ⟨(HT9.out.1.trans (Twin.of_only HF2.out.only)).trans (Twin.of_row ((Only.refl g _).setCell _)), HW.out _ _ _ HF2.out.dec⟩⟩
          case measure => simp [intOf]; omega
      · obtain rfl : j = n := by omega
        have hci : ¬ cap = i := by omega
        have hcl : ∀ ty, (Builtin.clear_ #[22] ty #[.slice (some ⟨g, i, none⟩) (j - i) (cap - i)]).run Tryz.prog wr = .ok (.tuple #[]) (wr.setCells g i (List.replicate (j - i) (.string ByteArray.empty))) :=
          fun ty => Lib.run_clear_slice wr _ _ ty _ Tryz.underlying22 Tryz.zeroValue9 rfl rfl g i _ _ (by omega) (fun t ht => by rw [blk_cell HI9.out.1, Array.getElem?_eq_getElem (by rw [HI9.out.2.1]; omega)]; rfl) (fun t ht => blk_frozen HI9.out.1 _)
        go_wp2_with fail
        go_ret
        obtain ⟨c8, h1, h2, h3⟩ := blk_setCells (List.replicate (j - i) (.string ByteArray.empty)) i wr c9 HI9.out.1
        refine ⟨_, rfl, ?_, HT9.out.1.trans (Twin.of_row (only_setCells _ _ _ (Only.refl g _))), HWs.out _ _ _ HT9.out.2⟩
        have hd := HI9.out.2.2
        rw [HZ.out]
        have := HEO.out ((L.take j).filter fun s => !p s) _ c8 h1 (by rw [h2]; exact HI9.out.2.1) (by rw [hd.len]; omega) (fun k hk => by rw [hd.len] at hk; rw [h3 k hk]; exact hd.low k hk)
        rwa [hd.len] at this
end Go.Proofs.YtmdbhcoioimlmaaGreat

/- ConsequencesOf of the program. -/
namespace Go.Proofs.YtmdbhcoioimlmaaGreat
open Go.RowKit
open Fm (Tree)

theorem left_of {L : List ByteArray} (h : lfB L = true) : ∃ Ts : List Tree, L = Ts.map tx ∧ ∀ a ∈ Ts, FmOk a := by
  unfold lfB at h
  rw [Bool.and_eq_true] at h
  have ha := h.1
  have hL : ∀ x ∈ L, gp x = true := by
    intro x hx
    obtain ⟨i, hi, rfl⟩ := List.getElem_of_mem hx
    have h3 : AscP L L.length := by
      unfold ascP at ha
      exact @of_decide_eq_true _ (Classical.propDecidable _) ha
    rw [st_eq hi]
    exact (h3 i hi).1
  refine ⟨L.map fo, ?_, ?_⟩
  · rw [List.map_map]
    have : ∀ x ∈ L, (tx ∘ fo) x = id x := fun x hx => (fo_ok (hL x hx)).2
    rw [List.map_congr_left this, List.map_id]
  · intro a hm
    obtain ⟨x, hx, rfl⟩ := List.mem_map.1 hm
    exact (fo_ok (hL x hx)).1
theorem fits_mem {C : List ByteArray} (h : Fits C) {s : ByteArray} (hs : s ∈ C) : s.size ≤ 1048576 := by
  obtain ⟨i, hi, rfl⟩ := List.getElem_of_mem hs
  rw [st_get hi]
  exact h i hi
theorem okS_co {Ts : List Tree} {c : Tree} (hL : ∀ a ∈ Ts, FmOk a) (hc : FmOk c) (h : szL (Ts.map tx) + szL [tx c] ≤ 20) : OkS Ts c := by
  have e2 := szL_map hL
  have e3 : szL [tx c] = nn c := by
    have := szL_map (Ts := [c]) (ok_one hc)
    rw [tot_one] at this
    exact this
  exact okS_mk hL hc (by omega)
theorem any_no {α : Type} {L : List α} {p : α → Bool} (h : L.any p = false) {x : α} (hx : x ∈ L) : p x = false := by
  rw [List.any_eq_false] at h
  simpa using h x hx

theorem co1_k (C : List ByteArray) (w : World) (hC : Fits C) : PredK w 50 #[] C (fun s => !gp s) := by
  intro s W hs hW
  have K := Lib.hid (isPlainText_c s W (by have := fits_mem hC hs; omega))
  show Calls Tryz.prog 50 #[.string s] W fun e W' => e = .returned (.bool (!gp s)) ∧ Grew W W'
  clear hs hC
  generalize gp s = g at *
  go_enter Tryz.func50, Tryz.ntmps50
  go_wp2_with fail
  refine (K.out).mono ?_
  rintro e w1 ⟨rfl, hg1⟩
  go_wp2_with fail
  go_ret
  exact ⟨rfl, hg1⟩
theorem co2_k (v : Value) (L C : List ByteArray) (bl : Nat) (w : World) (h : Strs w v L) (hs : Fits L) (hn : L.length ≤ 1048576) (hC : Fits C) (hb : ∀ W, Grew w W → W.cell? ⟨bl, 0, none⟩ = some v) :
    PredK w 51 #[.pointer (some ⟨bl, 0, none⟩)] C (fun s => !decide (szL L + szL [s] ≤ 20)) := by
  intro s W hm hW
  have K := Lib.hid (isSmallGoal_c v _ L [s] (W.alloc (.cells #[.string s] 9)) ((h.grew hW).grew ((Grew.refl W).alloc _)) (strs_litQ s W) hs (fits_one (fits_mem hC hm)) hn (by simp))
  have k1 := hb W hW
  show Calls Tryz.prog 51 #[.string s, .pointer (some ⟨bl, 0, none⟩)] W fun e W' => e = .returned (.bool (!decide (szL L + szL [s] ≤ 20))) ∧ Grew W W'
  obtain ⟨A, c, rfl⟩ := strs_slice h
  clear h hs hC hm
  generalize decide (szL L + szL [s] ≤ 20) = R at *
  go_enter Tryz.func51, Tryz.ntmps51
  go_wp2_with fail
  refine (K.out).mono ?_
  rintro e w1 ⟨rfl, hg1⟩
  go_wp2_with fail
  go_ret
  exact ⟨rfl, ((Grew.refl W).alloc _).trans hg1⟩
theorem co3_k (D M bd bl : Nat) (v : Value) (Ts : List Tree) (c : Tree) (w : World) (hD : Dec w D M) (hS : OkS Ts c) (h : TL w v Ts) (k1 : w.cell? ⟨bd, 0, none⟩ = some (.pointer (some ⟨D, 0, none⟩))) (k2 : w.cell? ⟨bl, 0, none⟩ = some v) :
    Calls Tryz.prog 55 (#[.string (tx c)] ++ #[.pointer (some ⟨bd, 0, none⟩), .pointer (some ⟨bl, 0, none⟩)]) w (Decides w D M (!dc (EntL Ts c))) := by
  show Calls Tryz.prog 55 #[.string (tx c), .pointer (some ⟨bd, 0, none⟩), .pointer (some ⟨bl, 0, none⟩)] w _
  have K := Lib.hid (dprovable_c D M Ts c v w hS hD h)
  unfold Decides at *
  obtain ⟨A, n, cc, rfl⟩ := h.slice
  clear h hS hD
  generalize dc (EntL Ts c) = R at *
  generalize tx c = tc at *
  go_enter Tryz.func55, Tryz.ntmps55
  go_wp2_with fail
  refine (K.out).mono ?_
  rintro e w1 ⟨rfl, hF1⟩
  go_wp2_with fail
  go_ret
  exact ⟨rfl, hF1⟩

theorem OwnS.openG {w : World} {B : Nat} {v : Value} {L : List ByteArray} (h : OwnS w B v L) : (v = .slice none 0 0 ∧ L = []) ∨ ∃ g c cur, v = .slice (some ⟨g, 0, none⟩) L.length c ∧ B ≤ g ∧ w.heap[g]? = some (.cells cur 9 (0, 0)) ∧ L.length ≤ c ∧ c ≤ 9223372036854775807 ∧ cur.size = c ∧ ∀ i, i < L.length → cur[i]? = some (.string (st L i)) := by
  rcases h.2 with ⟨rfl, h0⟩ | ⟨g, c, cur, rfl, hB, hh, hnc, hcm, hcs, ht⟩
  · exact .inl ⟨rfl, List.eq_nil_of_length_eq_zero h0⟩
  · refine .inr ⟨g, c, cur, rfl, hB, hh, hnc, hcm, by omega, fun i hi => ?_⟩
    have := scells_at hi
    rw [← ht, List.getElem?_take, if_pos (by omega)] at this
    simpa using this

set_option maxHeartbeats 4000000 in
theorem implCo_c (v : Value) (L : List ByteArray) (v2 : Value) (C : List ByteArray) (w : World) (h : Strs w v L) (h2 : Strs w v2 C) (hs : Fits L) (hn : L.length ≤ 1048576) (hC : Fits C) (hn2 : C.length ≤ 1048576) :
    Calls Tryz.prog 20 #[v, v2] w (GivesS2 w (coF L C)) := by
  unfold GivesS2
  have hal := Lib.hid ((Grew.refl w).alloc (.cells #[v] 22))
  have K1 := Lib.hid (isLeftSide_c v L _ (h.grew hal.out) hs hn)
  have hq : (ascP L && decide (L.length ≤ 12)) = lfB L := rfl
  rw [hq] at K1
  clear hq
  have hbx : ∀ W, Grew (w.alloc (.cells #[v] 22)) W → W.cell? ⟨w.heap.size, 0, none⟩ = some v := fun W hW => (hW.cell (p := ⟨w.heap.size, 0, none⟩) (by simp)).trans (by simp)
  have eg1 : ∀ args w, (callFunc 50 args).run Tryz.prog w = .ok (.enter 50 args) w := enters_of Tryz.func50 (by kernel_rfl) rfl
  have eg2 : ∀ args w, (callFunc 51 args).run Tryz.prog w = .ok (.enter 51 args) w := enters_of Tryz.func51 (by kernel_rfl) rfl
  have eg3 : ∀ args w, (callFunc 55 args).run Tryz.prog w = .ok (.enter 55 args) w := enters_of Tryz.func55 (by kernel_rfl) rfl
  have KA := Lib.hid (fun W (hW : Grew w W) => containsFuncK_c v2 C 50 #[] _ W (h2.grew hW) (co1_k C W hC) eg1)
  have KB := Lib.hid (fun W (hW : Grew (w.alloc (.cells #[v] 22)) W) => containsFuncK_c v2 C 51 #[.pointer (some ⟨w.heap.size, 0, none⟩)] _ W (h2.grew (hal.out.trans hW)) (co2_k v L C w.heap.size W (h.grew (hal.out.trans hW)) hs hn hC (fun V hV => hbx V (hW.trans hV))) eg2)
  unfold coF
  cases hlf : lfB L with
  | false =>
    rw [hlf] at K1
    obtain ⟨A, k, rfl⟩ := strs_slice h
    obtain ⟨A2, k2, rfl⟩ := strs_slice h2
    clear h h2 hs hC hlf KA KB
    have k0 := hbx _ (Grew.refl _)
    clear hbx
    go_enter Tryz.func20, Tryz.ntmps20
    go_wp2_with fail
    refine (K1.out).mono ?_
    rintro e w1 ⟨rfl, hg1⟩
    go_wp2_with fail
    go_ret2
    exact ⟨_, rfl, OwnS.nil_ _ _, hal.out.trans hg1⟩
  | true =>
  rw [hlf] at K1
  cases ha : C.any fun s => !gp s with
  | true =>
    rw [ha] at KA
    obtain ⟨A, k, rfl⟩ := strs_slice h
    obtain ⟨A2, k2, rfl⟩ := strs_slice h2
    clear h h2 hs hC hlf ha KB
    have k0 := hbx _ (Grew.refl _)
    clear hbx
    go_enter Tryz.func20, Tryz.ntmps20
    go_wp2_with fail
    refine (K1.out).mono ?_
    rintro e w1 ⟨rfl, hg1⟩
    have g1 := hal.out.trans hg1
    go_wp2_with fail
    refine (KA.out _ g1).mono ?_
    rintro e w2 ⟨rfl, hg2⟩
    go_wp2_with fail
    go_ret2
    exact ⟨_, rfl, OwnS.nil_ _ _, g1.trans hg2⟩
  | false =>
  rw [ha] at KA
  cases hb : C.any fun s => !decide (szL L + szL [s] ≤ 20) with
  | true =>
    rw [hb] at KB
    obtain ⟨A, k, rfl⟩ := strs_slice h
    obtain ⟨A2, k2, rfl⟩ := strs_slice h2
    clear h h2 hs hC hlf ha hb
    have k0 := hbx _ (Grew.refl _)
    clear hbx
    go_enter Tryz.func20, Tryz.ntmps20
    go_wp2_with fail
    refine (K1.out).mono ?_
    rintro e w1 ⟨rfl, hg1⟩
    have g1 := hal.out.trans hg1
    go_wp2_with fail
    refine (KA.out _ g1).mono ?_
    rintro e w2 ⟨rfl, hg2⟩
    go_wp2_with fail
    refine (KB.out _ (hg1.trans hg2)).mono ?_
    rintro e w3 ⟨rfl, hg3⟩
    go_wp2_with fail
    go_ret2
    exact ⟨_, rfl, OwnS.nil_ _ _, (g1.trans hg2).trans hg3⟩
  | false =>
  rw [hb] at KB
  rw [if_pos (by rfl), if_neg (by decide)]
  obtain ⟨Ts, hTs, hok⟩ := left_of hlf
  have hT : TL w v Ts := by subst hTs; exact h
  have hmap : L.map fo = Ts := by rw [hTs, map_fo_tx hok]
  have hall : ∀ s ∈ C, ∃ c, s = tx c ∧ OkS Ts c ∧ fo s = c := fun s hm => by
    have h1 : gp s = true := by simpa using any_no ha hm
    have h3 : szL L + szL [s] ≤ 20 := by simpa using any_no hb hm
    obtain ⟨c, hc, rfl⟩ := gp_tree h1
    rw [hTs] at h3
    exact ⟨c, rfl, okS_co hok hc h3, fo_tx hc⟩
  rw [hmap]
  have hfil : (C.filter fun s => !!dc (EntL Ts (fo s))) = C.filter fun s => dc (EntL Ts (fo s)) := by simp
  have KN := Lib.hid (fun W => newDecider_c W)
  have KC := Lib.hid (fun W (hW : Grew w W) => cloneS_c v2 C W (h2.grew hW) (by omega))
  have KP : Hid (∀ (D M bd g : Nat) W, Dec W D M → Grew w W → w.heap.size + 1 ≤ M → bd < W.heap.size → bd ≠ M → D < g → bd < g → w.heap.size < g → W.cell? ⟨bd, 0, none⟩ = some (.pointer (some ⟨D, 0, none⟩)) → W.cell? ⟨w.heap.size, 0, none⟩ = some v → PredM W D M g 55 #[.pointer (some ⟨bd, 0, none⟩), .pointer (some ⟨w.heap.size, 0, none⟩)] C (fun s => !dc (EntL Ts (fo s)))) := Lib.hid (fun D M bd g W hD hg hM hbd hbM hDg hbg hwg k1 k2 s V hm hV hDV => by
    obtain ⟨c, rfl, hS, hf⟩ := hall s hm
    show Calls _ _ _ _ (Decides V D M (!dc (EntL Ts (fo (tx c)))))
    rw [hf]
    have hTV : TL V v Ts := Twin.rd hV (hT.grew hg) (fun bb o cc e => by
      have hbb : bb < w.heap.size := by
        rcases hT.2.2 with ⟨h0, _⟩ | ⟨b', o', c', h0, _, _, hlt, _⟩
        · rw [h0] at e; cases e
        · rw [h0] at e; cases e; exact hlt
      omega)
    have hsz := hg.size
    have hws : w.heap.size < W.heap.size := by
      rcases Nat.lt_or_ge w.heap.size W.heap.size with h9 | h9
      · exact h9
      · simp [World.cell?, Array.getElem?_eq_none h9] at k2
    exact co3_k D M bd w.heap.size v Ts c V hDV hS hTV ((hV.cell (p := ⟨bd, 0, none⟩) hbd (by show bd ≠ g; omega) hbM).trans k1) ((hV.cell (p := ⟨w.heap.size, 0, none⟩) hws (by show w.heap.size ≠ g; omega) (by show w.heap.size ≠ M; omega)).trans k2))
  have KD0 := Lib.hid (fun A c fv W => deleteFunc0_c A c fv W)
  have KD := Lib.hid (fun D M g cap B cur W bd (hp : PredM W D M g 55 #[.pointer (some ⟨bd, 0, none⟩), .pointer (some ⟨w.heap.size, 0, none⟩)] C (fun s => !dc (EntL Ts (fo s)))) h1 h2 h3 h4 h5 h6 h7 h8 => deleteFuncM_c D M g cap B cur C 55 #[.pointer (some ⟨bd, 0, none⟩), .pointer (some ⟨w.heap.size, 0, none⟩)] _ W h1 h2 h3 h4 h5 h6 h7 h8 hp eg3)
  rw [hfil] at KD
  obtain ⟨A, k, rfl⟩ := strs_slice h
  obtain ⟨A2, k2, rfl⟩ := strs_slice h2
  clear h h2 hs hC hlf ha hb hTs hok hT hmap hall hfil
  have k0 := hbx _ (Grew.refl _)
  have HBX := Lib.hid hbx
  clear hbx
  go_enter Tryz.func20, Tryz.ntmps20
  go_wp2_with fail
  refine (K1.out).mono ?_
  rintro e w1 ⟨rfl, hg1⟩
  have g1 := hal.out.trans hg1
  go_wp2_with fail
  refine (KA.out _ g1).mono ?_
  rintro e w2 ⟨rfl, hg2⟩
  go_wp2_with fail
  refine (KB.out _ (hg1.trans hg2)).mono ?_
  rintro e w3 ⟨rfl, hg3⟩
  go_wp2_with fail
  refine (KN.out _).mono ?_
  rintro e w4 ⟨D, M, rfl, hD4, hM4, hg4⟩
  have hal4 := (Grew.refl w4).alloc (.cells #[.pointer (some ⟨D, 0, none⟩)] 46)
  have HD4 := Lib.hid hD4
  have HZ := Lib.hid (show w.heap.size + 1 ≤ M ∧ M < w4.heap.size ∧ D < w4.heap.size by
    have z1 := hg1.size
    have z2 := hg2.size
    have z3 := hg3.size
    have z4 := hD4.memo.lt
    have z5 := hD4.lt
    simp at z1
    omega)
  have g4 := ((g1.trans hg2).trans hg3).trans hg4
  have HG4 := Lib.hid ((hg1.trans hg2).trans (hg3.trans hg4))
  clear hD4 hM4
  go_wp2_with fail
  refine (KC.out _ (g4.trans hal4)).mono ?_
  rintro e w6 ⟨u, rfl, hu, hg6⟩
  have g6 := (g4.trans hal4).trans hg6
  have k6 : w6.cell? ⟨w4.heap.size, 0, none⟩ = some (.pointer (some ⟨D, 0, none⟩)) := (hg6.cell (p := ⟨w4.heap.size, 0, none⟩) (by simp)).trans (by simp)
  have HK6 := Lib.hid k6
  have HG6 := Lib.hid (hal4.trans hg6)
  have hz6 : w4.heap.size < w6.heap.size := by have := hg6.size; simp at this; omega
  clear k6
  rcases hu.openG with ⟨rfl, hC0⟩ | ⟨g, cap, cur, rfl, hBg, hh, hlc, hcm, hcs, hcur⟩
  · subst hC0
    clear hu
    go_wp2_with fail
    refine (KD0.out _ _ _ _).mono ?_
    rintro e w7 ⟨rfl, rfl⟩
    go_wp2_with fail
    go_ret2
    exact ⟨_, rfl, OwnS.nil_ _ _, g6⟩
  · have hsz := HZ.out
    have hBg2 : w4.heap.size + 1 ≤ g := by simpa using hBg
    have hgs := blk_lt hh
    have hD6 := HD4.out.grew HG6.out
    have hP := KP.out D M w4.heap.size g w6 hD6 g6 hsz.1 hz6 (by omega) (by omega) (by omega) (by omega) HK6.out (HBX.out _ (HG4.out.trans HG6.out))
    have hL := Lib.hid (KD.out D M g cap w.heap.size cur w6 w4.heap.size hP hD6 (by omega) (by omega) hh hcs hcur hlc hcm)
    have HM := Lib.hid (show w.heap.size ≤ g ∧ w.heap.size ≤ M by omega)
    clear hP hD6 hgs hBg2 hsz hcur hcs hh hBg hu hz6
    unfold GivesDel at hL
    go_wp2_with fail
    refine (hL.out).mono ?_
    rintro e w7 ⟨r, rfl, hr, hT7, hD7⟩
    obtain ⟨A7, c7, rfl⟩ := strs_slice hr.strs
    have HR := Lib.hid (And.intro hr (hT7.grew g6 HM.out.1 HM.out.2))
    clear hr hT7 hD7
    go_wp2_with fail
    go_ret2
    exact ⟨_, rfl, HR.out.1, HR.out.2⟩
end Go.Proofs.YtmdbhcoioimlmaaGreat

/- ConsequencesOf of the reference. -/
namespace Go.Proofs.YtmdbhcoioimlmaaGreat
open Go.RowKit
open Fm (Tree)

theorem any_at {L : List ByteArray} {p : ByteArray → Bool} {j : Nat} (hj : j < L.length) (h : p (st L j) = true) : L.any p = true := anyS_at hj h
theorem filter_take {L : List ByteArray} {p : ByteArray → Bool} {j : Nat} (hj : j < L.length) : (L.take (j + 1)).filter p = (L.take j).filter p ++ (if p (st L j) = true then [st L j] else []) := by
  rw [take_st hj, List.filter_append]
  congr 1
  cases h : p (st L j) <;> simp [h]

theorem coF_left {L C : List ByteArray} (h : lfB L = false) : coF L C = ([], 1) := by unfold coF; rw [h]; rfl
theorem coF_gp {L C : List ByteArray} (h : lfB L = true) (ha : (C.any fun s => !gp s) = true) : coF L C = ([], 1) := by unfold coF; rw [h, ha]; rfl
theorem coF_big {L C : List ByteArray} (h : lfB L = true) (ha : (C.any fun s => !gp s) = false) (hb : (C.any fun s => !decide (szL L + szL [s] ≤ 20)) = true) : coF L C = ([], 3) := by unfold coF; rw [h, ha, hb]; rfl
theorem coF_ok {L C : List ByteArray} (h : lfB L = true) (ha : (C.any fun s => !gp s) = false) (hb : (C.any fun s => !decide (szL L + szL [s] ≤ 20)) = false) : coF L C = (C.filter fun s => dc (EntL (L.map fo) (fo s)), 0) := by unfold coF; rw [h, ha, hb]; rfl

set_option maxHeartbeats 4000000 in
theorem specCo_c (v : Value) (L : List ByteArray) (v2 : Value) (C : List ByteArray) (w : World) (h : Strs w v L) (h2 : Strs w v2 C) (hs : Fits L) (hn : L.length ≤ 1048576) (hC : Fits C) (hn2 : C.length ≤ 1048576) :
    Calls Tryz.prog 19 #[v, v2] w (GivesS2 w (coF L C)) := by
  unfold GivesS2
  have K1 := Lib.hid (l22Left_c v L w h hs hn)
  have hq : (ascP L && decide (L.length ≤ 12)) = lfB L := rfl
  rw [hq] at K1
  clear hq
  cases hlf : lfB L with
  | false =>
    rw [coF_left hlf]
    rw [hlf] at K1
    obtain ⟨A, k, rfl⟩ := strs_slice h
    obtain ⟨A2, k2, rfl⟩ := strs_slice h2
    clear h h2 hs hC hlf
    go_enter Tryz.func19, Tryz.ntmps19
    go_wp2_with fail
    refine (K1.out).mono ?_
    rintro e w1 ⟨rfl, hg1⟩
    go_wp2_with fail
    go_ret2
    exact ⟨_, rfl, OwnS.nil_ _ _, hg1⟩
  | true =>
  rw [hlf] at K1
  obtain ⟨rr, hRR⟩ : ∃ rr, rr = coF L C := ⟨_, rfl⟩
  rw [← hRR]
  have HA1 := Lib.hid (fun j (hj : j < C.length) (hp : gp (st C j) = false) => hRR.trans (coF_gp hlf (any_at (p := fun s => !gp s) hj (by simp [hp]))))
  have HA0 := Lib.hid (fun (hp : NoneS (fun s => !gp s) C C.length) => noneS_any hp)
  obtain ⟨A, k, rfl⟩ := strs_slice h
  obtain ⟨A2, k2, rfl⟩ := strs_slice h2
  have HCL := Lib.hid (h2.openA rfl)
  have KF := Lib.hid (fun j (hj : j < C.length) W => l22Formula_c (st C j) W (by have := hC j hj; omega))
  have HS1 := Lib.hid (fun j (hj : NoneS (fun s => !gp s) C j) (hp : gp (st C j) = true) => hj.succ (by show (!gp (st C j)) = false; rw [hp]; rfl))
  have HH := Lib.hid h
  have HH2 := Lib.hid h2
  have HFC := Lib.hid hC
  have HFL := Lib.hid hs
  have HNC := Lib.hid (rfl : C.length = C.length)
  have HLF := Lib.hid hlf
  have HRR := Lib.hid hRR
  clear h h2 hs hC hlf hRR
  go_enter Tryz.func19, Tryz.ntmps19
  go_wp2_with fail
  refine (K1.out).mono ?_
  rintro e w1 ⟨rfl, hg1⟩
  generalize hN : C.length = n at *
  have HN := Lib.hid hN
  clear hN
  go_wp2_with fail
  go_loopw [6] (fun i wr => ∃ j : Nat, j ≤ n ∧ i = .int .i64 j ∧ Grew w wr ∧ Hid (NoneS (fun s => !gp s) C j)) (fun i _ => n - (intOf i).toNat)
  case atStart => exact ⟨0, Nat.zero_le _, rfl, hg1, NoneS.zero _ _⟩
  case round =>
    obtain ⟨j, hj, rfl, hB, HJ⟩ := hrel
    by_cases hlt : j < n
    · obtain ⟨b, o, rfl, hc, hm, hb, hcell⟩ := HCL.out j hlt
      have k1 := hcell j hlt _ hB
      have kf := Lib.hid (KF.out j hlt)
      have ha := Lib.hid (HA1.out j hlt)
      have hs1 := Lib.hid (HS1.out j HJ.out)
      clear hcell
      unfold GivesP at kf
      generalize st C j = x at *
      cases hp : gp x with
      | false =>
        have hv := Lib.hid (ha.out hp)
        rw [hp] at kf
        clear ha hs1 hp
        go_wp2_with fail
        refine (kf.out _).mono ?_
        rintro e w2 ⟨u, rfl, hu, hg2⟩
        obtain ⟨A3, n3, c3, rfl⟩ := slice3 hu.nodes
        clear hu
        go_wp2_with fail
        go_ret2
        have hv2 := hv.out
        subst hv2
        exact ⟨_, rfl, OwnS.nil_ _ _, hB.trans hg2⟩
      | true =>
        have hv := Lib.hid (hs1.out hp)
        rw [hp] at kf
        clear ha hs1 hp
        go_wp2_with fail
        refine (kf.out _).mono ?_
        rintro e w2 ⟨u, rfl, hu, hg2⟩
        obtain ⟨A3, n3, c3, rfl⟩ := slice3 hu.nodes
        clear hu
        go_wp2_with fail
        go_roundw
        case rel => exact ⟨j + 1, by omega, by go_num, hB.trans hg2, hv⟩
        case measure => simp [intOf]; omega
    · obtain rfl : j = n := by omega
      have hra := HA0.out HJ.out
      clear HA1 HA0 HS1 KF
      have hgp : Hid (∀ s ∈ C, gp s = true) := Lib.hid (fun s hm => by simpa using any_no hra hm)
      obtain ⟨Ts, hTs, hok⟩ := left_of HLF.out
      have hmap : L.map fo = Ts := by rw [hTs, map_fo_tx hok]
      have hall : ∀ i, i < j → szL L + szL [st C i] ≤ 20 → ∃ c, st C i = tx c ∧ OkS Ts c ∧ fo (st C i) = c := fun i hi h3 => by
        have hm : st C i ∈ C := st_mem (by rw [HN.out]; exact hi)
        have h1 := hgp.out _ hm
        obtain ⟨c, hc, he⟩ := gp_tree h1
        have h4 := h3
        rw [← he, hTs] at h4
        exact ⟨c, he.symm, okS_co hok hc h4, by rw [← he]; exact fo_tx hc⟩
      have HB1 := Lib.hid (fun i (hi : i < j) (hp : ¬ szL L + szL [st C i] ≤ 20) => HRR.out.trans (coF_big HLF.out hra (any_at (p := fun s => !decide (szL L + szL [s] ≤ 20)) (by rw [HN.out]; exact hi) (by simp; omega))))
      have HB0 := Lib.hid (fun (hp : NoneS (fun s => !decide (szL L + szL [s] ≤ 20)) C j) => (by have := HRR.out.trans (coF_ok HLF.out hra (noneS_any (by rw [HN.out]; exact hp))); rwa [hmap] at this : rr = (C.filter (fun s => dc (EntL Ts (fo s))), 0)))
      have HB2 := Lib.hid (fun i (hi : NoneS (fun s => !decide (szL L + szL [s] ≤ 20)) C i) (hp : szL L + szL [st C i] ≤ 20) => hi.succ (by show (!decide (szL L + szL [st C i] ≤ 20)) = false; rw [decide_eq_true hp]; rfl))
      have HTs : Hid (Strs w (.slice A L.length k) (Ts.map tx)) := Lib.hid (by rw [← hTs]; exact HH.out)
      have KO := Lib.hid (fun W (hW : Grew w W) i (hi : i < j) hz => (by obtain ⟨c, h1, h2, h3⟩ := hall i hi hz; rw [h3, h1]; exact l23Ok_c _ Ts c W h2 (show TL W _ Ts from HTs.out.grew hW) : Calls Tryz.prog 30 #[.slice A L.length k, .string (st C i)] W fun e w' => e = .returned (.bool (dc (EntL Ts (fo (st C i))))) ∧ Grew W w'))
      have KZ := Lib.hid (fun W (hW : Grew w W) => l23Size_c _ L W (HH.out.grew hW) HFL.out hn)
      have HFI := Lib.hid (fun i (hi : i < j) => @filter_take C (fun s => dc (EntL Ts (fo s))) i (by rw [HN.out]; exact hi))
      have HFE : Hid (C.filter (fun s => dc (EntL Ts (fo s))) = (C.take j).filter fun s => dc (EntL Ts (fo s))) := Lib.hid (by rw [← HN.out, List.take_length])
      have hbz := szL_le L
      have HFl := Lib.hid (fun i => (by have := List.length_filter_le (fun s => dc (EntL Ts (fo s))) (C.take i); rw [List.length_take] at this; omega : ((C.take i).filter fun s => dc (EntL Ts (fo s))).length ≤ C.length))
      clear hTs hok hmap hall HJ HRR HLF HTs HH hgp HFL hra
      have he1 : OwnS (wr.alloc (.cells #[] 9)) w.heap.size (.slice (some ⟨wr.heap.size, 0, none⟩) 0 0) [] := World.ownsRow_lit (e := 9) (size := 1) wr #[] 0 hB.size (by omega) rfl
      have g1 := hB.alloc (.cells #[] 9)
      generalize szL L = z at *
      generalize L.length = nl at *
      have HO1 := Lib.hid he1
      clear he1
      have hz0 : (List.filter (fun s => dc (EntL Ts (fo s))) (List.take 0 C)) = [] := by simp
      have HZ0 := Lib.hid hz0
      clear hz0
      go_wp2_with fail
      go_loopw [9, 10] (fun out i wr => ∃ q : Nat, q ≤ j ∧ i = .int .i64 q ∧ OwnS wr w.heap.size out ((C.take q).filter fun s => dc (EntL Ts (fo s))) ∧ Grew w wr ∧ Hid (NoneS (fun s => !decide (z + szL [s] ≤ 20)) C q)) (fun _ i _ => j - (intOf i).toNat)
      case atStart => exact ⟨0, Nat.zero_le _, rfl, by rw [HZ0.out]; exact HO1.out, g1, NoneS.zero _ _⟩
      case round =>
        obtain ⟨q, hq, rfl, hO, hB2, HJ⟩ := hrel
        by_cases hlt2 : q < j
        · obtain ⟨b, o, rfl, hc, hm, hb, hcell⟩ := HCL.out q hlt2
          have k1 := hcell q hlt2
          have HK1 := Lib.hid k1
          have hfit := HFC.out q (by rw [HN.out]; exact hlt2)
          have hby := szL_le [st C q]
          have hb1 := Lib.hid (HB1.out q hlt2)
          have hb2 := Lib.hid (HB2.out q HJ.out)
          have ko := Lib.hid (fun W hW => KO.out W hW q hlt2)
          have hfi := Lib.hid (HFI.out q hlt2)
          have hfl := HFl.out q
          rw [HN.out] at hfl
          simp only [List.length_singleton] at hby
          generalize hy : szL [st C q] = y at *
          have HY := Lib.hid hy
          clear hy hcell
          have i0 : (0 : Int) ≤ (q : Int) := by omega
          have i1 : (q : Int) ≤ (q : Int) + 1 := by omega
          have i2 : (q : Int) + 1 ≤ (k2 : Int) := by omega
          have i4 : IntKind.i64.wrap ((q : Int) + 1) = (q : Int) + 1 := by rw [IntKind.wrap_i64]; omega
          have i5 : IntKind.i64.wrap ((z : Int) + (y : Int)) = (z : Int) + (y : Int) := by rw [IntKind.wrap_i64]; omega
          have HO := Lib.hid hO
          obtain ⟨A8, c8, rfl⟩ := strs_slice hO.strs
          clear hO
          generalize hx : st C q = x at *
          have HX := Lib.hid hx
          clear hx
          have hrr := Grew.refl wr
          have hdr := hrr.drew
          have KZ2 := Lib.hid (fun W (hW : Grew wr W) => l23Size_c (.slice (some ⟨b, o + q, none⟩) 1 (k2 - q)) [x] W (show Rd W 1 _ 1 [.string x] from ⟨rfl, by omega, .inr ⟨b, o + q, k2 - q, rfl, by omega, by omega, by have := hB2.size; have := hW.size; omega, fun i u hu => by
            obtain rfl : i = 0 := by have := (List.getElem?_eq_some_iff.1 hu).1; simp at this; omega
            obtain rfl : Value.string x = u := by simpa using hu
            exact HK1.out W (hB2.trans hW)⟩⟩) (fits_one hfit) (by simp))
          rw [HY.out] at KZ2
          generalize (List.filter (fun s => dc (EntL Ts (fo s))) (List.take q C)).length = nf at *
          go_wp2_with fail
          go_region_held3 (fun w' => Grew wr w') (first | with_reducible assumption | exact Grew.alloc ‹_› _)
            (first
             | (go_at_call 40; have hz := hk5; refine (KZ2.out _ hk5).mono ?_; rintro e w6 ⟨rfl, hg6⟩; have hk6 := hk5.trans hg6)
             | (go_at_call 40; refine (KZ.out _ (hB2.trans hdr)).mono ?_; rintro e w5 ⟨rfl, hg5⟩; have hk5 : Grew wr w5 := hdr.trans hg5))
          have gk6 := hB2.trans hk6
          have HK6 := Lib.hid hk6
          have HNS := Lib.hid HJ
          clear hz hrr hdr hk5 KZ2 k1
          by_cases hzy : z + y ≤ 20
          · have kk := HK1.out w6 gk6
            have ko6 := Lib.hid (ko.out w6 gk6 hzy)
            have hns := Lib.hid (hb2.out hzy)
            clear hb1 hb2 ko
            cases hd : dc (EntL Ts (fo x)) with
            | true =>
              rw [hd] at ko6 hfi
              rw [if_pos rfl] at hfi
              clear hd
              go_wp2_with fail
              refine (ko6.out).mono ?_
              rintro e w7 ⟨rfl, hg7⟩
              have kk7 := HK1.out w7 (gk6.trans hg7)
              have g7 := gk6.trans hg7
              have HO7 := (HO.out.grew (HK6.out.trans hg7)).grew ((Grew.refl w7).alloc (.cells #[.string x] 9))
              have hfl' : (List.filter (fun s => dc (EntL Ts (fo s))) (List.take q C)).length ≤ 1048576 := by have := HFl.out q; rw [HN.out] at this; omega
              generalize List.filter (fun s => dc (EntL Ts (fo s))) (List.take q C) = F at *
              have HFL' := Lib.hid hfl'
              clear hfl'
              go_wp2_with (first
                | (at_builtin; refine wpList_appStr (w0 := w) _ _ rfl rfl _ F rfl HO7 (g7.alloc _) _ x rfl (rd_lit _ _ _) HFL'.out ?_; intro v8 w8 hown8 hg8 _))
              rw [← hfi.out] at hown8
              have HO8 := Lib.hid hown8
              go_roundw
              case rel => exact ⟨q + 1, by omega, by go_num, HO8.out, hg8, hns⟩
              case measure => simp [intOf]; omega
            | false =>
              rw [hd] at ko6 hfi
              rw [if_neg (by decide), List.append_nil] at hfi
              clear hd
              go_wp2_with fail
              refine (ko6.out).mono ?_
              rintro e w7 ⟨rfl, hg7⟩
              have g7 := gk6.trans hg7
              have HO7 := HO.out.grew (HK6.out.trans hg7)
              rw [← hfi.out] at HO7
              have HO8 := Lib.hid HO7
              clear HO7
              go_wp2_with fail
              go_roundw
              case rel => exact ⟨q + 1, by omega, by go_num, HO8.out, g7, hns⟩
              case measure => simp [intOf]; omega
          · have hv := Lib.hid (hb1.out hzy)
            clear hb1 hb2 ko
            go_wp2_with fail
            go_ret2
            have hv2 := hv.out
            subst hv2
            exact ⟨_, rfl, OwnS.nil_ _ _, gk6⟩
        · obtain rfl : q = j := by omega
          have hrb := Lib.hid (HB0.out HJ.out)
          obtain ⟨A8, c8, rfl⟩ := strs_slice hO.strs
          have HO := Lib.hid hO
          clear hO
          rw [HFE.out] at hrb
          generalize (List.filter (fun s => dc (EntL Ts (fo s))) (List.take q C)) = F at *
          go_wp2_with fail
          go_ret2
          have hrb2 := hrb.out
          subst hrb2
          exact ⟨_, rfl, HO.out, hB2⟩
end Go.Proofs.YtmdbhcoioimlmaaGreat

/- The law FnExactConsequencesOf, walked. -/
namespace Go.Proofs.YtmdbhcoioimlmaaGreat
open Go.RowKit

theorem lawCo_c (v0 : Value) (L0 : List ByteArray) (v1 : Value) (L1 : List ByteArray) (w : World) (h0 : ArgS w v0 L0) (h1 : ArgS w v1 L1) :
    Calls Tryz.prog 6 #[v0, v1] w fun e w' => e = .returned (.bool true) ∧ Grew w w' := by
  have Z0 := Lib.hid (fun W l (hW : Grew w W) (a0 : 0 ≤ l) (a1 : l ≤ 1048576) => szStringS_c v0 L0 l W (h0.grew hW) a0 a1)
  have T0 := Lib.hid (fun W (hW : Grew w W) => toStringS_c v0 L0 W (h0.grew hW))
  have Z1 := Lib.hid (fun W l (hW : Grew w W) (a0 : 0 ≤ l) (a1 : l ≤ 1048576) => szStringS_c v1 L1 l W (h1.grew hW) a0 a1)
  have T1 := Lib.hid (fun W (hW : Grew w W) => toStringS_c v1 L1 W (h1.grew hW))
  clear h0 h1
  go_enter Tryz.func6, Tryz.ntmps6
  go_wp2_with fail
  refine (Z0.out _ _ (Grew.refl w) (by omega) (by omega)).mono ?_
  rintro e w1 ⟨r0, rfl, ⟨hm0, hs0⟩, hg1⟩
  have z1 := Lib.hid hg1.size
  have g1 : Grew w w1 := (Grew.refl w).trans hg1
  clear hg1
  by_cases hr0 : r0 < 0
  · clear hs0
    go_wp2_with fail
    go_ret
    exact ⟨rfl, g1⟩
  obtain ⟨hn0, hf0⟩ := hs0 (by omega)
  have F0 : Hid (Fits L0) := Lib.hid hf0
  clear hs0 hf0
  go_wp2_with fail
  refine (Z1.out _ _ g1 (by omega) (by omega)).mono ?_
  rintro e w2 ⟨r1, rfl, ⟨hm1, hs1⟩, hg2⟩
  have z2 := Lib.hid hg2.size
  have g2 : Grew w w2 := g1.trans hg2
  clear hg2
  by_cases hr1 : r1 < 0
  · clear hs1
    go_wp2_with fail
    go_ret
    exact ⟨rfl, g2⟩
  obtain ⟨hn1, hf1⟩ := hs1 (by omega)
  have F1 : Hid (Fits L1) := Lib.hid hf1
  clear hs1 hf1
  have KS := Lib.hid (fun u0 u1 W x0 x1 => specCo_c u0 L0 u1 L1 W x0 x1 F0.out (by omega) F1.out (by omega))
  have KI := Lib.hid (fun u0 u1 W x0 x1 => implCo_c u0 L0 u1 L1 W x0 x1 F0.out (by omega) F1.out (by omega))
  have hlen := coF_len L0 L1
  generalize coF L0 L1 = rr at *
  obtain ⟨xs, c⟩ := rr
  simp only at hlen
  unfold GivesS2 at KS KI
  simp only at KS KI
  have hcc : (c != c) = false := by simp
  go_wp2_with fail
  refine (T0.out _ g2 hn0).mono ?_
  rintro e w3 ⟨a0, rfl, oa0, hg3⟩
  have z3 := Lib.hid hg3.size
  have g3 : Grew w w3 := g2.trans hg3
  clear hg3
  go_wp2_with fail
  refine (T1.out _ g3 hn1).mono ?_
  rintro e w4 ⟨a1, rfl, oa1, hg4⟩
  have z4 := Lib.hid hg4.size
  have g4 : Grew w w4 := g3.trans hg4
  replace oa0 := oa0.grew hg4
  clear hg4
  go_wp2_with fail
  refine (KS.out _ _ _ oa0.strs oa1.strs).mono ?_
  rintro e w5 ⟨q0, rfl, hq, hg5⟩
  have HQB := Lib.hid (fun g (hg : q0.ownBlock = some g) => (hq.lt g hg).2)
  have z5 := Lib.hid hg5.size
  have g5 : Grew w w5 := g4.trans hg5
  clear hg5 oa0 oa1
  go_wp2_with fail
  refine (T0.out _ g5 hn0).mono ?_
  rintro e w6 ⟨x0, rfl, ox0, hg6⟩
  have HB0 := Lib.hid (fun g (hg : x0.ownBlock = some g) => ox0.lt g hg)
  have z6 := Lib.hid hg6.size
  have g6 : Grew w w6 := g5.trans hg6
  replace hq := hq.grew hg6
  clear hg6
  go_wp2_with fail
  refine (T1.out _ g6 hn1).mono ?_
  rintro e w7 ⟨x1, rfl, ox1, hg7⟩
  have HB1 := Lib.hid (fun g (hg : x1.ownBlock = some g) => ox1.lt g hg)
  have z7 := Lib.hid hg7.size
  have g7 : Grew w w7 := g6.trans hg7
  replace ox0 := ox0.grew hg7
  replace hq := hq.grew hg7
  clear hg7
  go_wp2_with fail
  refine (KI.out _ _ _ ox0.strs ox1.strs).mono ?_
  rintro e w8 ⟨g0, rfl, hog, hg8⟩
  have HGB := Lib.hid (fun g (hg : g0.ownBlock = some g) => (hog.lt g hg).1)
  have z8 := Lib.hid hg8.size
  have g8 : Grew w w8 := g7.trans hg8
  replace hq := hq.grew hg8
  replace ox0 := ox0.grew hg8
  replace ox1 := ox1.grew hg8
  clear hg8
  go_wp2_with fail
  refine (eqStringS_yes _ _ xs _ hog.strs hq.strs (by omega)).mono ?_
  rintro e w9 ⟨rfl, hg9⟩
  have z9 := Lib.hid hg9.size
  have g9 : Grew w w9 := g8.trans hg9
  replace hq := hq.grew hg9
  replace ox0 := ox0.grew hg9
  replace ox1 := ox1.grew hg9
  replace hog := hog.grew hg9
  clear hg9
  go_wp2_with fail
  refine (T0.out _ g9 hn0).mono ?_
  rintro e w10 ⟨y0, rfl, oy0, hg10⟩
  have z10 := Lib.hid hg10.size
  have g10 : Grew w w10 := g9.trans hg10
  replace hq := hq.grew hg10
  replace ox0 := ox0.grew hg10
  replace ox1 := ox1.grew hg10
  replace hog := hog.grew hg10
  clear hg10
  go_wp2_with fail
  refine (eqStringS_yes _ _ L0 _ ox0.strs oy0.strs (by omega)).mono ?_
  rintro e w11 ⟨rfl, hg11⟩
  have z11 := Lib.hid hg11.size
  have g11 : Grew w w11 := g10.trans hg11
  replace hq := hq.grew hg11
  replace ox0 := ox0.grew hg11
  replace ox1 := ox1.grew hg11
  replace hog := hog.grew hg11
  clear hg11 oy0
  go_wp2_with fail
  refine (T1.out _ g11 hn1).mono ?_
  rintro e w12 ⟨y1, rfl, oy1, hg12⟩
  have z12 := Lib.hid hg12.size
  have g12 : Grew w w12 := g11.trans hg12
  replace hq := hq.grew hg12
  replace ox0 := ox0.grew hg12
  replace ox1 := ox1.grew hg12
  replace hog := hog.grew hg12
  clear hg12
  go_wp2_with fail
  refine (eqStringS_yes _ _ L1 _ ox1.strs oy1.strs (by omega)).mono ?_
  rintro e w13 ⟨rfl, hg13⟩
  have z13 := Lib.hid hg13.size
  have g13 : Grew w w13 := g12.trans hg13
  replace hq := hq.grew hg13
  replace ox0 := ox0.grew hg13
  replace ox1 := ox1.grew hg13
  replace hog := hog.grew hg13
  clear hg13 oy1
  go_wp2_with fail
  refine (markStringS_w _ L0 _ (1) _ ox0 (by omega) (by omega) (by omega)).mono ?_
  rintro e w14 ⟨rfl, hrow⟩
  replace hq : OwnS w14 _ q0 xs := own_row hq hrow (fun g hg hg2 => by have h1 := HQB.out g hg2; have h2 := (HB0.out g hg).1; have y1 := z1.out; have y2 := z2.out; have y3 := z3.out; have y4 := z4.out; have y5 := z5.out; have y6 := z6.out; have y7 := z7.out; omega)
  replace hog : OwnS w14 _ g0 xs := own_row hog hrow (fun g hg hg2 => by have h1 := HGB.out g hg2; have h2 := (HB0.out g hg).2; have y1 := z1.out; have y2 := z2.out; have y3 := z3.out; have y4 := z4.out; have y5 := z5.out; have y6 := z6.out; have y7 := z7.out; omega)
  replace ox1 := own_row ox1 hrow (fun g hg hg2 => by have h1 := (HB1.out g hg2).1; have h2 := (HB0.out g hg).2; have y1 := z1.out; have y2 := z2.out; have y3 := z3.out; have y4 := z4.out; have y5 := z5.out; have y6 := z6.out; have y7 := z7.out; omega)
  have g14 : Grew w w14 := grew_row g13 hrow (fun g hg => by have h2 := (HB0.out g hg).1; have y1 := z1.out; have y2 := z2.out; have y3 := z3.out; have y4 := z4.out; have y5 := z5.out; have y6 := z6.out; have y7 := z7.out; omega)
  clear hrow ox0
  go_wp2_with fail
  refine (markStringS_w _ L1 _ (1 + L0.length) _ ox1 (by omega) (by omega) (by omega)).mono ?_
  rintro e w15 ⟨rfl, hrow⟩
  replace hq : OwnS w15 _ q0 xs := own_row hq hrow (fun g hg hg2 => by have h1 := HQB.out g hg2; have h2 := (HB1.out g hg).1; have y1 := z1.out; have y2 := z2.out; have y3 := z3.out; have y4 := z4.out; have y5 := z5.out; have y6 := z6.out; have y7 := z7.out; omega)
  replace hog : OwnS w15 _ g0 xs := own_row hog hrow (fun g hg hg2 => by have h1 := HGB.out g hg2; have h2 := (HB1.out g hg).2; have y1 := z1.out; have y2 := z2.out; have y3 := z3.out; have y4 := z4.out; have y5 := z5.out; have y6 := z6.out; have y7 := z7.out; omega)
  have g15 : Grew w w15 := grew_row g14 hrow (fun g hg => by have h2 := (HB1.out g hg).1; have y1 := z1.out; have y2 := z2.out; have y3 := z3.out; have y4 := z4.out; have y5 := z5.out; have y6 := z6.out; have y7 := z7.out; omega)
  clear hrow ox1
  go_wp2_with fail
  refine (eqStringS_yes _ _ xs _ hog.strs hq.strs (by omega)).mono ?_
  rintro e w16 ⟨rfl, hg16⟩
  have z16 := Lib.hid hg16.size
  have g16 : Grew w w16 := g15.trans hg16
  replace hq := hq.grew hg16
  replace hog := hog.grew hg16
  clear hg16
  go_wp2_with fail
  refine (markStringS_m _ xs _ 1 _ hog (by omega) (by omega) (by omega)).mono ?_
  rintro e w17 ⟨rfl, hog, hrow⟩
  replace hq : OwnS w17 _ q0 xs := own_row hq hrow (fun g hg hg2 => by have h1 := HQB.out g hg2; have h2 := HGB.out g hg; have y1 := z1.out; have y2 := z2.out; have y3 := z3.out; have y4 := z4.out; have y5 := z5.out; have y6 := z6.out; have y7 := z7.out; omega)
  have g17 : Grew w w17 := grew_row g16 hrow (fun g hg => by have h2 := HGB.out g hg; have y1 := z1.out; have y2 := z2.out; have y3 := z3.out; have y4 := z4.out; have y5 := z5.out; have y6 := z6.out; have y7 := z7.out; omega)
  clear hrow
  go_wp2_with fail
  refine (heldStringS_c _ xs.length 1 _ hog.strs (by omega) (by omega) (by omega)).mono ?_
  rintro e w18 ⟨rfl, hg18⟩
  have z18 := Lib.hid hg18.size
  have g18 : Grew w w18 := g17.trans hg18
  replace hq := hq.grew hg18
  replace hog := hog.grew hg18
  clear hg18
  go_wp2_with fail
  refine (T0.out _ g18 hn0).mono ?_
  rintro e w19 ⟨b0, rfl, ob0, hg19⟩
  have z19 := Lib.hid hg19.size
  have g19 : Grew w w19 := g18.trans hg19
  replace hq := hq.grew hg19
  replace hog := hog.grew hg19
  clear hg19
  go_wp2_with fail
  refine (T1.out _ g19 hn1).mono ?_
  rintro e w20 ⟨b1, rfl, ob1, hg20⟩
  have z20 := Lib.hid hg20.size
  have g20 : Grew w w20 := g19.trans hg20
  replace ob0 := ob0.grew hg20
  replace hq := hq.grew hg20
  replace hog := hog.grew hg20
  clear hg20
  go_wp2_with fail
  refine (KI.out _ _ _ ob0.strs ob1.strs).mono ?_
  rintro e w21 ⟨h0, rfl, hoh, hg21⟩
  have z21 := Lib.hid hg21.size
  have g21 : Grew w w21 := g20.trans hg21
  replace hq := hq.grew hg21
  replace hog := hog.grew hg21
  clear hg21
  go_wp2_with fail
  refine (eqStringS_yes _ _ xs _ hoh.strs hq.strs (by omega)).mono ?_
  rintro e w22 ⟨rfl, hg22⟩
  have z22 := Lib.hid hg22.size
  have g22 : Grew w w22 := g21.trans hg22
  replace hq := hq.grew hg22
  replace hog := hog.grew hg22
  replace hoh := hoh.grew hg22
  clear hg22
  go_wp2_with fail
  refine (heldStringS_c _ xs.length 1 _ hog.strs (by omega) (by omega) (by omega)).mono ?_
  rintro e w23 ⟨rfl, hg23⟩
  go_wp2_with fail
  go_ret
  exact ⟨rfl, g22.trans hg23⟩
end Go.Proofs.YtmdbhcoioimlmaaGreat
