/- putTerm of the program. -/
import Derived.Test.YthofkdpmgjkgkaaGreatTmMap
import Derived.Test.YthofkdpmgjkgkaaGreatTmIns0
namespace Go.Proofs.YthofkdpmgjkgkaaGreat
open Go.RowKit
open Tr (Tm)

theorem putTerm1_c (x : Tn) (now n : Int) (bn bu : Nat) (u : Value) (us : List Tn) (W : World) (hx : GoodN x) (hc1 : W.cell? ⟨bn, 0, none⟩ = some (.int .i64 n)) (hc2 : W.cell? ⟨bu, 0, none⟩ = some u) (hu : Tms W u us) (hl : us.length ≤ 1048576) (hok : NumOk us)
    (hn0 : 0 ≤ n) (hn1 : n ≤ 1000000) (h0 : n + 1 ≤ now) (h1 : now ≤ 1000000) (hbn : bn < W.heap.size) (hbu : bu < W.heap.size) :
    Calls Tryz.prog 96 (#[.agg #[.int .i64 x.1, .int .i64 x.2.1, .string x.2.2], .int .i64 now] ++ #[.pointer (some ⟨bn, 0, none⟩), .pointer (some ⟨bu, 0, none⟩)]) W (GivesT W (putN n us x now)) := by
  have hx0 := tnB_num0 hx
  have HR := Lib.hid (fun W' (hW : Grew W W') => raised_c u us n (now - n - 1) W' (hu.grew hW) hl hok (by omega) (by omega))
  obtain ⟨A, c, rfl⟩ := tms_slice hu
  have k1 : ∀ W', Grew W W' → W'.cell? ⟨bn, 0, none⟩ = some (.int .i64 n) := fun W' hW => (hW.cell (p := ⟨bn, 0, none⟩) hbn).trans hc1
  have k2 : ∀ W', Grew W W' → W'.cell? ⟨bu, 0, none⟩ = some (.slice A us.length c) := fun W' hW => (hW.cell (p := ⟨bu, 0, none⟩) hbu).trans hc2
  obtain ⟨xk, xn, xs⟩ := x
  simp only at hx0 ⊢
  have hal := (Grew.refl W).alloc (.cells #[.int .i64 xk, .int .i64 xn, .string xs] 66)
  clear hx hu hok hc1 hc2
  by_cases he : xn = n
  · have hp : putN n us (xk, xn, xs) now = raiseL n (now - n - 1) us := by unfold putN; rw [if_pos he]
    rw [hp]
    clear hp
    subst he
    generalize raiseL xn (now - xn - 1) us = R at *
    generalize us.length = ul at *
    go_enter Tryz.func96, Tryz.ntmps96
    go_wp2_with fail
    refine (HR.out _ hal).mono ?_
    rintro e w1 ⟨q, rfl, hq, hg1⟩
    go_wp2_with fail
    go_ret
    exact ⟨_, rfl, hq.base hal.size, hal.trans hg1⟩
  · by_cases hgt : n < xn
    · have hp : putN n us (xk, xn, xs) now = [(xk, xn - 1, xs)] := by unfold putN; rw [if_neg he, if_pos hgt]
      rw [hp]
      have hne : (xn == n) = false := by simpa using he
      clear hp HR
      generalize us.length = ul at *
      have hone := fun w => OwnT.one w W.heap.size (xk, xn - 1, xs)
      go_enter Tryz.func96, Tryz.ntmps96
      go_wp2_with fail
      go_ret
      have hal2 := (Grew.refl W).alloc (.cells #[.int .i64 xk, .int .i64 (xn - 1), .string xs] 66)
      have h1 := hone _ hal2.size
      rw [World.size_alloc] at h1
      exact ⟨_, rfl, h1, hal2.alloc _⟩
    · have hp : putN n us (xk, xn, xs) now = [(xk, xn, xs)] := by unfold putN; rw [if_neg he, if_neg hgt]
      rw [hp]
      have hne : (xn == n) = false := by simpa using he
      clear hp HR
      generalize us.length = ul at *
      have hone := fun w => OwnT.one w W.heap.size (xk, xn, xs)
      go_enter Tryz.func96, Tryz.ntmps96
      go_wp2_with fail
      go_ret
      have h1 := hone _ hal.size
      rw [World.size_alloc] at h1
      exact ⟨_, rfl, h1, hal.alloc _⟩

theorem putTerm_c (v u : Value) (t : Tm) (us : List Tn) (n : Int) (w : World) (h : Tms w v (Tr.enc t)) (hg : Good t) (hlen : (Tr.enc t).length ≤ 1000) (hu : Tms w u us) (hl : us.length ≤ 900) (hok : NumOk us) (hn0 : 0 ≤ n) (hn1 : n ≤ 1000) :
    Calls Tryz.prog 55 #[v, .int .i64 n, u] w (GivesT w (Tr.mapN (putN n us) t (n + 1))) := by
  obtain ⟨A, c, rfl⟩ := tms_slice hu
  have hw2 : Grew w ((w.alloc (.cells #[.int .i64 n] 2)).alloc (.cells #[.slice A us.length c] 24)) := ((Grew.refl w).alloc _).alloc _
  have HM := Lib.hid (mapNumbers_c 96 #[.pointer (some ⟨w.heap.size, 0, none⟩), .pointer (some ⟨w.heap.size + 1, 0, none⟩)] ((w.alloc (.cells #[.int .i64 n] 2)).alloc (.cells #[.slice A us.length c] 24)) (n + 1) (n + 1 + 1000) (putN n us) (us.length + 1) (by omega) (by omega) (fun x m => putN_len n us x m)
    (fun x m W hW hx h0 h1 => putTerm1_c x m n w.heap.size (w.heap.size + 1) (.slice A us.length c) us W hx
      ((hW.cell (p := ⟨w.heap.size, 0, none⟩) (by simp; omega)).trans (by simp)) ((hW.cell (p := ⟨w.heap.size + 1, 0, none⟩) (by simp)).trans (by simp)) (hu.grew (hw2.trans hW)) (by omega) hok hn0 (by omega) h0 (by omega)
      (Nat.lt_of_lt_of_le (by simp; omega) hW.size) (Nat.lt_of_lt_of_le (by simp) hW.size))
    (by omega) (by omega) (enters_of Tryz.func96 (by kernel_rfl) rfl) t hg v (n + 1) _ (Grew.refl _) (h.grew hw2) hlen (by omega) (by omega))
  obtain ⟨A', c', rfl⟩ := tms_slice h
  clear h hg hu hok
  generalize Tr.mapN (putN n us) t (n + 1) = R at *
  generalize us.length = ul at *
  generalize (Tr.enc t).length = tl at *
  go_enter Tryz.func55, Tryz.ntmps55
  go_wp2_with fail
  refine HM.out.mono ?_
  rintro e w1 ⟨q, rfl, hq, hg1⟩
  go_wp2_with fail
  go_ret
  exact ⟨_, rfl, hq.base hw2.size, hw2.trans hg1⟩
end Go.Proofs.YthofkdpmgjkgkaaGreat
