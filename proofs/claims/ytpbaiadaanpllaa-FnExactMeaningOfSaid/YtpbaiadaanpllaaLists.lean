/- New lists of lists of nodes: formulasOf of the program, l11Read of the reference. -/
import Derived.Test.YtpbaiadaanpllaaSide
import Derived.Test.YtpbaiadaanpllaaLit
import Derived.Test.YtpbaiadaanpllaaJoin
namespace Go.Proofs.Ytpbaiadaanpllaa
open Go.RowKit
open Fm (Nd)

/-- A row of slices of the call's own. -/
def OwnV (w : World) (B : Nat) (v : Value) (us : List Value) : Prop := w.ownsRow B 22 1 v us.length us

theorem own_app {w w' : World} {B B' : Nat} {u v : Value} {xs : List Nd} {us : List Value} (h : Own w B u xs) (hv : OwnV w B' v us) (hg : w.grownBy w' v.ownBlock) : Own w' B u xs := by
  rcases hv.2 with ⟨rfl, _⟩ | ⟨g, cap, cur, rfl, _, hh, _⟩
  · exact own_grew h (by
      have hg' : w.grownBy w' none := hg
      exact ⟨hg'.os, hg'.tape, hg'.output, hg'.size, fun i hi => hg'.block i hi (by simp)⟩)
  · exact own_only h (show Only g w w' from hg) (own_ne h hh (by decide))

theorem infoSl : (Try.prog.info? 22).map (fun i => (i.zero, i.size, i.bytes)) = some (some (.slice none 0 0), 1, 24) := by kernel_rfl

theorem wpList_appV {ops : Array Oper} {rest : List Oper} {o : Oper} {a : Act} {Q : Exit → Act → World → Prop} {w w0 : World} (s x : Operand) (hgd : o.guard = none)
    (ho : o.op = .call { callee := .builtin .append, args := #[s, x], argTypes := #[106, 106] })
    (v : Value) (us : List Value) (hs : a.eval s = v) (hown : OwnV w w0.heap.size v us) (hg : Grew w0 w) (vx u : Value) (hx : a.eval x = vx) (hr : Rd w 1 vx 1 [u]) (h1 : u.oneCell' = true) (hn : us.length ≤ 1048576)
    (h : ∀ v' w', OwnV w' w0.heap.size v' (us ++ [u]) → Grew w0 w' → w.grownBy w' v.ownBlock → wpList Try.prog ops Q rest (a.put o.dst v') w') : wpList Try.prog ops Q (o :: rest) a w := by
  obtain ⟨i0, hi0, hz0, hz1, hz2⟩ := info_parts infoSl
  refine wpList_append_rd w hgd s x _ ho w0.heap.size 22 i0 _ 1 24 Try.underlying106 hi0 hz0 hz1 hz2 rfl (by omega) v us.length us hs hown vx 1 [u] hx hr (by simpa using h1) (by unfold maxLen; omega) (by omega) hg.size ?_
  intro v' w' h1 h2 h3
  refine h v' w' ?_ (hg.grown h2 fun k hk => (hown.lt k hk).1) h2
  unfold OwnV
  rw [List.length_append]
  exact h1

/-- The lists that texts read to. -/
def lf (L : List ByteArray) : List (List Nd) := L.map fun s => (Fm.pf s).1
theorem lf_length (L : List ByteArray) : (lf L).length = L.length := by simp [lf]
theorem lf_at {L : List ByteArray} {i : Nat} (h : i < L.length) : (lf L).getD i [] = (Fm.pf (st L i)).1 := by
  simp [lf, st, List.getD, h]

/-- The first k of the slices read as the lists. -/
def Hold (w : World) (B : Nat) (us : List Value) (L : List ByteArray) : Prop := ∀ i, i < us.length → ∃ u, us[i]? = some u ∧ Own w B u ((lf L).getD i [])
theorem Hold.app {w w' : World} {B B' : Nat} {v : Value} {us : List Value} {L : List ByteArray} (h : Hold w B us L) (hv : OwnV w B' v us) (hg : w.grownBy w' v.ownBlock) : Hold w' B us L := by
  intro i hi
  obtain ⟨u, h1, h2⟩ := h i hi
  exact ⟨u, h1, own_app h2 hv hg⟩
theorem Hold.grew {w w' : World} {B : Nat} {us : List Value} {L : List ByteArray} (h : Hold w B us L) (hg : Grew w w') : Hold w' B us L := by
  intro i hi
  obtain ⟨u, h1, h2⟩ := h i hi
  exact ⟨u, h1, h2.grew hg⟩
theorem Hold.snoc {w : World} {B : Nat} {us : List Value} {u : Value} {L : List ByteArray} (h : Hold w B us L) (hu : Own w B u ((lf L).getD us.length [])) : Hold w B (us ++ [u]) L := by
  intro i hi
  rw [List.length_append] at hi
  rcases Nat.lt_or_ge i us.length with hk | hk
  · obtain ⟨x, h1, h2⟩ := h i hk
    exact ⟨x, by rw [List.getElem?_append_left hk]; exact h1, h2⟩
  · obtain rfl : i = us.length := by simp at hi; omega
    exact ⟨u, by simp, hu⟩
theorem lists_of {w : World} {B : Nat} {v : Value} {us : List Value} {L : List ByteArray} (hv : OwnV w B v us) (h : Hold w B us L) (hl : us.length = L.length) : Lists w v (lf L) := by
  obtain ⟨_, _, h3⟩ := Rd.of_own hv
  rcases h3 with ⟨h4, h5⟩ | ⟨b, o, c, h4, h5, h6, h7, h8⟩
  · exact .inl ⟨h4, by rw [List.eq_nil_of_length_eq_zero (show L.length = 0 by omega)]; rfl⟩
  · refine .inr ⟨b, o, c, by rw [lf_length, ← hl]; exact h4, by rw [lf_length]; omega, h6, h7, fun i hi => ?_⟩
    rw [lf_length] at hi
    obtain ⟨u, h9, h10⟩ := h i (by omega)
    exact ⟨u, h8 i u h9, h10.nodes⟩

/-- What the readers of a side give. -/
def GivesL (w : World) (L : List (List Nd)) (e : Ending) (w' : World) : Prop := ∃ v, e = .returned v ∧ Lists w' v L ∧ Grew w w'

theorem own_one {w : World} {B : Nat} {u : Value} {xs : List Nd} (h : Own w B u xs) : u.oneCell' = true := by
  obtain ⟨A, c, rfl⟩ := nodes_slice h.nodes
  rfl
theorem rd_lit (w : World) (u : Value) (t : TypeId) : Rd (w.alloc (.cells #[u] t)) 1 (.slice (some ⟨w.heap.size, 0, none⟩) 1 1) 1 [u] := by
  refine ⟨rfl, by omega, .inr ⟨w.heap.size, 0, 1, rfl, by omega, by omega, by simp, fun j x hx => ?_⟩⟩
  have hj : j = 0 := by
    have := (List.getElem?_eq_some_iff.1 hx).1
    simp at this
    omega
  subst hj
  simp at hx
  subst hx
  simp

theorem formulasOf_c (v : Value) (L : List ByteArray) (w : World) (h : Strs w v L) (hs : Fits L) (hn : L.length ≤ 1048576) :
    Calls Try.prog 93 #[v] w (GivesL w (lf L)) := by
  rcases h.open_ with ⟨rfl, rfl⟩ | ⟨b, o, c, rfl, hc, hm, hb, hcell⟩
  · clear h hs
    go_enter Try.func93, Try.ntmps93
    go_wp2_with fail
    refine wp_loop_rounds 1 ?_; rw [rounds_succ]
    go_wp2_with fail
    go_ret
    exact ⟨_, rfl, .inl ⟨rfl, rfl⟩, Grew.refl _⟩
  have HE := Lib.hid (fun w' v us (h1 : OwnV w' w.heap.size v us) h2 h3 => @lists_of w' w.heap.size v us L h1 h2 h3)
  have HC := Lib.hid hcell
  have HS := Lib.hid hs
  have HA := Lib.hid (fun i h => @lf_at L i h)
  clear hcell h hs
  unfold Fits at HS
  generalize hN : L.length = n at *
  clear hN
  go_enter Try.func93, Try.ntmps93
  go_wp2_with fail
  go_loopw [3, 5, 8] (fun vv _ i wr => ∃ (j : Nat) (us : List Value), j ≤ n ∧ us.length = j ∧ i = .int .i64 j ∧ OwnV wr w.heap.size vv us ∧ Grew w wr ∧ Hid (Hold wr w.heap.size us L)) (fun _ _ i _ => n - (intOf i).toNat)
  case atStart => exact ⟨0, [], Nat.zero_le _, rfl, rfl, World.ownsRow_nil w _ _ 1, Grew.refl _, fun i hi => absurd hi (by simp)⟩
  case round =>
    obtain ⟨j, us, hj, hu, rfl, hO, hB, HH⟩ := hrel
    by_cases hlt : j < n
    · have k1 := HC.out j hlt _ hB
      have hsz := HS.out j hlt
      have hP := Lib.hid (fun w => parsed_c (st L j) w (by omega))
      have hA : (lf L).getD us.length [] = (Fm.pf (st L j)).1 := by rw [hu]; exact HA.out j hlt
      have hA := Lib.hid hA
      generalize st L j = x at *
      go_wp2_with fail
      refine (hP.out _).mono ?_
      rintro e w1 ⟨u, rfl, ho1, hg1, _⟩
      obtain ⟨A, cc, rfl⟩ := nodes_slice ho1.nodes
      have hB1 := hB.trans hg1
      have hu1 := (ho1.base hB.size).grew ((Grew.refl w1).alloc (.cells #[.slice A (Fm.pf x).1.length cc] 22))
      have hO1 : OwnV (w1.alloc (.cells #[.slice A (Fm.pf x).1.length cc] 22)) w.heap.size u3 us := own_grew hO (hg1.trans ((Grew.refl w1).alloc _))
      have HH1 := Lib.hid (HH.out.grew (hg1.trans ((Grew.refl w1).alloc (.cells #[.slice A (Fm.pf x).1.length cc] 22))))
      have hone := own_one ho1
      go_wp2_with (first | (at_builtin; refine wpList_appV (w0 := w) _ _ rfl rfl _ us rfl hO1 (hB1.alloc _) _ _ rfl (rd_lit _ _ _) hone (by omega) ?_; intro v2 w2 hown2 hg2 hgr2))
      go_roundw
      case rel => exact ⟨j + 1, _, by omega, by rw [List.length_append, hu]; rfl, by go_num, hown2, hg2, Hold.snoc (HH1.out.app hO1 hgr2) (by rw [hA.out]; exact own_app hu1 hO1 hgr2)⟩
      case measure => simp [intOf]; omega
    · obtain rfl : j = n := by omega
      go_wp2_with fail
      go_ret
      exact ⟨_, rfl, HE.out _ _ _ hO HH.out hu, hB⟩
theorem own_empty (w : World) : OwnV (w.alloc (.cells #[] 22)) w.heap.size (.slice (some ⟨w.heap.size, 0, none⟩) 0 0) [] :=
  World.ownsRow_lit (e := 22) (size := 1) w #[] 0 (Nat.le_refl _) (by omega) rfl

theorem l11Read_c (v : Value) (L : List ByteArray) (w : World) (h : Strs w v L) (hs : Fits L) (hn : L.length ≤ 1048576) :
    Calls Try.prog 89 #[v] w (GivesL w (lf L)) := by
  rcases h.open_ with ⟨rfl, rfl⟩ | ⟨b, o, c, rfl, hc, hm, hb, hcell⟩
  · clear h hs
    go_enter Try.func89, Try.ntmps89
    go_wp2_with fail
    refine wp_loop_rounds 1 ?_; rw [rounds_succ]
    go_wp2_with fail
    go_ret
    exact ⟨_, rfl, .inr ⟨w.heap.size, 0, 0, rfl, by simp [lf], by omega, by simp, fun i hi => absurd hi (by simp [lf])⟩, (Grew.refl w).alloc _⟩
  have HE := Lib.hid (fun w' v us (h1 : OwnV w' w.heap.size v us) h2 h3 => @lists_of w' w.heap.size v us L h1 h2 h3)
  have HC := Lib.hid hcell
  have HS := Lib.hid hs
  have HA := Lib.hid (fun i h => @lf_at L i h)
  clear hcell h hs
  unfold Fits at HS
  generalize hN : L.length = n at *
  clear hN
  go_enter Try.func89, Try.ntmps89
  go_wp2_with fail
  go_loopw [3, 4] (fun vv i wr => ∃ (j : Nat) (us : List Value), j ≤ n ∧ us.length = j ∧ i = .int .i64 j ∧ OwnV wr w.heap.size vv us ∧ Grew w wr ∧ Hid (Hold wr w.heap.size us L)) (fun _ i _ => n - (intOf i).toNat)
  case atStart => exact ⟨0, [], Nat.zero_le _, rfl, rfl, own_empty w, (Grew.refl w).alloc _, fun i hi => absurd hi (by simp)⟩
  case round =>
    obtain ⟨j, us, hj, hu, rfl, hO, hB, HH⟩ := hrel
    by_cases hlt : j < n
    · have k1 := HC.out j hlt _ hB
      have hsz := HS.out j hlt
      have hP := Lib.hid (fun w => l02Good_c (st L j) w (by omega))
      have hA : (lf L).getD us.length [] = (Fm.pf (st L j)).1 := by rw [hu]; exact HA.out j hlt
      have hA := Lib.hid hA
      generalize st L j = x at *
      go_wp2_with fail
      refine (hP.out _).mono ?_
      rintro e w1 ⟨u, rfl, ho1, hg1⟩
      obtain ⟨A, cc, rfl⟩ := nodes_slice ho1.nodes
      have hB1 := hB.trans hg1
      have hu1 := (ho1.base hB.size).grew ((Grew.refl w1).alloc (.cells #[.slice A (Fm.pf x).1.length cc] 22))
      have hO1 : OwnV (w1.alloc (.cells #[.slice A (Fm.pf x).1.length cc] 22)) w.heap.size u3 us := own_grew hO (hg1.trans ((Grew.refl w1).alloc _))
      have HH1 := Lib.hid (HH.out.grew (hg1.trans ((Grew.refl w1).alloc (.cells #[.slice A (Fm.pf x).1.length cc] 22))))
      have hone := own_one ho1
      go_wp2_with (first | (at_builtin; refine wpList_appV (w0 := w) _ _ rfl rfl _ us rfl hO1 (hB1.alloc _) _ _ rfl (rd_lit _ _ _) hone (by omega) ?_; intro v2 w2 hown2 hg2 hgr2))
      go_roundw
      case rel => exact ⟨j + 1, _, by omega, by rw [List.length_append, hu]; rfl, by go_num, hown2, hg2, Hold.snoc (HH1.out.app hO1 hgr2) (by rw [hA.out]; exact own_app hu1 hO1 hgr2)⟩
      case measure => simp [intOf]; omega
    · obtain rfl : j = n := by omega
      go_wp2_with fail
      go_ret
      exact ⟨_, rfl, HE.out _ _ _ hO HH.out hu, hB⟩
end Go.Proofs.Ytpbaiadaanpllaa
