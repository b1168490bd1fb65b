/- Texts in one file: AmK MarkText MarkS MarkM EqN Eq LawSF AmL AlN AlO LawMa Args0 ArgB. -/
import Derived.Deep.RegionHeld3
import Derived.Deep.LoopGhost
import Derived.WalkLawsBesides
import Derived.Laws.BytesArg
import Derived.BigQuiet
import Derived.ChangeSlices
import Derived.Deep.Strs
import Derived.Lib.SmallJoins
import Derived.Carry
import Derived.ProofKit
import Derived.Test.YtopjgcbhjhhlfaaGreatPa1
import Derived.Test.YtopjgcbhjhhlfaaGreatPa2
import Derived.Test.YtopjgcbhjhhlfaaGreatPa3
import Derived.Test.YtopjgcbhjhhlfaaGreatPa4
import Derived.Test.YtopjgcbhjhhlfaaGreatPa5
set_option linter.all false

/- l11Known of the reference: a known sequent. -/
namespace Go.Proofs.YtopjgcbhjhhlfaaGreat
open Go.RowKit
open Fm (Nd Tree)

theorem not_dst {l : List Oper} {t : Tmp} (h : (l.all fun o => !(o.dst == some t)) = true) : ∀ (i : Nat) (o : Oper), l.toArray[i]? = some o → o.dst ≠ some t := by
  intro i o hi he
  have hm : o ∈ l := List.mem_of_getElem? (by simpa using hi)
  have := List.all_eq_true.1 h o hm
  rw [he] at this
  simp at this
section
variable {g r B : Nat} {cv : Value} {N : Nat} {wE : World} {vs : List (Kd × Value)} {w : World} {ks : List Kd} {i : Nat} {o : Oper} {a : Act} {Q : Exit → Act → World → Prop} {t : Tmp}
theorem SK.drew9 (h : SK g r B cv N wE vs w) : SK g r B cv N wE vs w.drew := h.grew (Grew.refl w).drew
theorem kp_refl (r B : Nat) (w : World) : Kp r B w w := ⟨Nat.le_refl _, fun _ _ _ => rfl, rfl⟩
theorem fl_ix {n : Nat} {x y : Operand} (ho : o.op = .indexAddr 61 x y) (hS : SK g r B cv N wE vs w) (hd : o.dst = some t) (hk : ks.getD i .any = .addr) (hx : tyS g r B (.lit n) w (a.eval x)) (hy : tyS g r B (.int n) w (a.eval y)) : o.wp Tryz.prog a w (FPost g r B cv N wE vs ks i o a w) Q := by
  obtain ⟨b, cs, h1, h2, h3, h4⟩ := hx
  obtain ⟨k, h5, h6⟩ := hy
  obtain ⟨s, h7, h8⟩ := h4 k h6
  have hr : (execOp a.eval o).run Tryz.prog w = .ok (.value (.pointer (some ⟨b, k, none⟩))) w := by
    unfold execOp
    simp only [ho, h1, h5]
    have hkn : (k : Int) < (n : Int) := by omega
    go_simp
  exact fl_val hr (fpost hS (kp_refl r B w) hd hk ⟨b, k, cs, s, rfl, h2, h3, h7, h8⟩)
theorem fl_ld {x : Operand} (ho : o.op = .load 9 x) (hS : SK g r B cv N wE vs w) (hd : o.dst = some t) (hk : ks.getD i .any = .str) (hx : tyS g r B .addr w (a.eval x)) : o.wp Tryz.prog a w (FPost g r B cv N wE vs ks i o a w) Q := by
  obtain ⟨b, k, cs, s, h1, h2, h3, h7, h8⟩ := hx
  have hr : (execOp a.eval o).run Tryz.prog w = .ok (.value (.string s)) w := by
    have hc : w.cell? ⟨b, k, none⟩ = some (.string s) := (blk_cell h3 k).trans h7
    unfold execOp
    simp only [ho, h1]
    clear h1
    go_simp
  exact fl_val hr (fpost hS (kp_refl r B w) hd hk ⟨s, rfl, h8⟩)
theorem fl_lt1 {m : Nat} {x : Operand} (ho : o.op = .buildSlice 61 1 #[(0, x)]) (hS : SK g r B cv N wE vs w) (hd : o.dst = some t) (hk : ks.getD i .any = .strs m) (hm : 1 ≤ m) (hx : tyS g r B .str w (a.eval x)) : o.wp Tryz.prog a w (FPost g r B cv N wE vs ks i o a w) Q := by
  obtain ⟨s, h1, h2⟩ := hx
  have hb : (Instr.buildSlice 61 1 #[(0, .string s)]).run Tryz.prog w = .ok (.slice (some ⟨w.heap.size, 0, none⟩) 1 1) (w.alloc (.cells #[.string s] 9)) := by go_simp
  refine fl_lit1 (v := .string s) ?_ hS hd hk hm ⟨s, rfl, h2⟩
  unfold execOp
  simp only [ho]
  have hmm : (#[(0, x)] : Array (Nat × Operand)).map (fun p => (p.1, a.eval p.2)) = #[(0, a.eval x)] := by simp
  rw [h1] at hmm
  show Sem.run Tryz.prog (do pure (Next.value (← Instr.buildSlice 61 1 ((#[(0, x)] : Array (Nat × Operand)).map (fun p => (p.1, a.eval p.2)))))) w = _
  rw [hmm]
  simp [hb]
theorem fl_sq {n m : Nat} {x y : Operand} (ho : o.op = .build 63 #[(0, x), (1, y)]) (hS : SK g r B cv N wE vs w) (hd : o.dst = some t) (hk : ks.getD i .any = .sq) (hn : n ≤ 8) (hm : m ≤ 8) (hx : tyS g r B (.strs n) w (a.eval x)) (hy : tyS g r B (.strs m) w (a.eval y)) : o.wp Tryz.prog a w (FPost g r B cv N wE vs ks i o a w) Q := by
  obtain ⟨L1, h1, h2, h3⟩ := hx
  obtain ⟨L2, h4, h5, h6⟩ := hy
  obtain ⟨A1, c1, e1⟩ := strs_slice (OwnS.strs h1)
  obtain ⟨A2, c2, e2⟩ := strs_slice (OwnS.strs h4)
  have hb : (Instr.build 63 #[(0, .slice A1 L1.length c1), (1, .slice A2 L2.length c2)]).run Tryz.prog w = .ok (.agg #[.slice A1 L1.length c1, .slice A2 L2.length c2]) w := by go_simp
  have hr : (execOp a.eval o).run Tryz.prog w = .ok (.value (.agg #[a.eval x, a.eval y])) w := by
    unfold execOp
    simp only [ho]
    have hm : (#[(0, x), (1, y)] : Array (Nat × Operand)).map (fun p => (p.1, a.eval p.2)) = #[(0, a.eval x), (1, a.eval y)] := by simp
    rw [e1, e2] at hm ⊢
    show Sem.run Tryz.prog (do pure (Next.value (← Instr.build 63 ((#[(0, x), (1, y)] : Array (Nat × Operand)).map (fun p => (p.1, a.eval p.2)))))) w = _
    rw [hm]
    simp [hb]
  exact fl_val hr (fpost hS (kp_refl r B w) hd hk ⟨_, _, L1, L2, rfl, h1, h2, by omega, h4, h5, by omega⟩)
theorem own_kp2 {B : Nat} {w w' : World} {e : TypeId} {k n : Nat} {v : Value} {xs : List Value} (h : w.ownsRow B e k v n xs) (hk : ∀ b, B ≤ b → b < w.heap.size → w'.heap[b]? = w.heap[b]?) : w'.ownsRow B e k v n xs := by
  obtain ⟨h1, h2⟩ := h
  refine ⟨h1, ?_⟩
  rcases h2 with h2 | ⟨g, cap, cur, q1, q2, q3, q4⟩
  · exact .inl h2
  · exact .inr ⟨g, cap, cur, q1, q2, (hk g q2 (blk_lt q3)).trans q3, q4⟩
theorem tyS_kp2 {w w' : World} (hk : ∀ b, B ≤ b → b < w.heap.size → w'.heap[b]? = w.heap[b]?) : ∀ (k : Kd) (v : Value), k ≠ .res → tyS g r B k w v → tyS g r B k w' v
  | .any, _, _, h => h
  | .src, _, _, h => h
  | .nd _, _, _, ⟨t, h1, h2⟩ => ⟨t, own_kp2 h1 hk, h2⟩
  | .str, _, _, h => h
  | .strs _, _, _, ⟨L, h1, h2⟩ => ⟨L, own_kp2 h1 hk, h2⟩
  | .int _, _, _, h => h
  | .lit _, _, _, ⟨b, cs, h1, h2, h3, h4⟩ => ⟨b, cs, h1, h2, (hk b h2 (blk_lt h3)).trans h3, h4⟩
  | .addr, _, _, ⟨b, i, cs, s, h1, h2, h3, h4⟩ => ⟨b, i, cs, s, h1, h2, (hk b h2 (blk_lt h3)).trans h3, h4⟩
  | .sq, _, _, ⟨x, y, L1, L2, h1, h2, h3, h4, h5, h6⟩ => ⟨x, y, L1, L2, h1, own_kp2 h2 hk, h3, h4, own_kp2 h5 hk, h6⟩
  | .res, _, h, _ => absurd rfl h
theorem fl_st {p x : Operand} (ho : o.op = .store 63 p x) (hS : SK g r B cv N wE vs w) (hd : o.dst = none) (hk : ks.getD i .any = .res ∧ (∀ j, j ≠ i → ks.getD j .any ≠ .res) ∧ ∀ q ∈ vs, q.1 ≠ .res) (hp : a.eval p = .pointer (some ⟨r, 0, none⟩)) (hx : tyS g r B .sq w (a.eval x)) : o.wp Tryz.prog a w (FPost g r B cv N wE vs ks i o a w) Q := by
  obtain ⟨x1, x2, L1, L2, e1, h1, h2, h3, h4, h5, h6⟩ := hx
  obtain ⟨A1, c1, rfl⟩ := strs_slice (OwnS.strs h1)
  obtain ⟨A2, c2, rfl⟩ := strs_slice (OwnS.strs h4)
  obtain ⟨y1, y2, hR⟩ := hS.res
  have hb : (Instr.storeAt 63 (.pointer (some ⟨r, 0, none⟩)) (.agg #[.slice A1 L1.length c1, .slice A2 L2.length c2])).run Tryz.prog w = .ok () ((w.setCell ⟨r, 0, none⟩ (.slice A1 L1.length c1)).setCell ⟨r, 1, none⟩ (.slice A2 L2.length c2)) := by
    have q0 : w.cell? ⟨r, 0, none⟩ = some y1 := (blk_cell hR 0).trans rfl
    have q1 : w.cell? ⟨r, 1, none⟩ = some y2 := (blk_cell hR 1).trans rfl
    have f0 := blk_frozen hR 0
    have f1 := blk_frozen hR 1
    clear hR
    go_simp
  have hr : (execOp a.eval o).run Tryz.prog w = .ok .skip ((w.setCell ⟨r, 0, none⟩ (.slice A1 L1.length c1)).setCell ⟨r, 1, none⟩ (.slice A2 L2.length c2)) := by
    unfold execOp
    simp only [ho, hp, e1]
    simp [hb]
  have hO : Only r w ((w.setCell ⟨r, 0, none⟩ (.slice A1 L1.length c1)).setCell ⟨r, 1, none⟩ (.slice A2 L2.length c2)) := ((Only.refl _ _).setCell _).setCell _
  have hB2 := blk_set (blk_set hR 0 (.slice A1 L1.length c1)) 1 (.slice A2 L2.length c2)
  generalize (w.setCell ⟨r, 0, none⟩ (.slice A1 L1.length c1)).setCell ⟨r, 1, none⟩ (.slice A2 L2.length c2) = w' at *
  have hrb := hS.rb
  have hre := hS.re
  have hgb := hS.gb
  have hkp : ∀ b, B ≤ b → b < w.heap.size → w'.heap[b]? = w.heap[b]? := fun b hb hl => hO.block hl (by omega)
  unfold Oper.wp
  rw [hr]
  refine ⟨undef, rfl, ⟨hS.src.other hO (by omega), hS.only.newer hO hre, Nat.le_trans hS.size hO.size, hrb, hre, hgb, ⟨_, _, hB2⟩, fun q hq => tyS_kp2 hkp _ _ (hk.2.2 q hq) (hS.vals q hq)⟩, fun j u hj h => tyS_kp2 hkp _ _ (hk.2.1 j hj) h, ?_⟩
  rw [hd]
  show tyS g r B (ks.getD i .any) w' undef
  rw [hk.1]
  exact ⟨_, _, L1, L2, hB2, own_kp2 h1 hkp, h2, h3, own_kp2 h4 hkp, h5, h6⟩
theorem SK.cons {k : Kd} {v : Value} (h : SK g r B cv N wE vs w) (hv : tyS g r B k w v) : SK g r B cv N wE ((k, v) :: vs) w :=
  ⟨h.src, h.only, h.size, h.rb, h.re, h.gb, h.res, fun p hp => by
    rcases List.mem_cons.1 hp with rfl | hp
    · exact hv
    · exact h.vals p hp⟩
def Kd.isRes : Kd → Bool
  | .res => true
  | _ => false
theorem isRes_no {k : Kd} (h : k.isRes = false) : k ≠ .res := by rintro rfl; cases h
theorem isRes_yes {k : Kd} (h : k.isRes = true) : k = .res := by cases k <;> first | rfl | cases h
theorem ksnr {ks : List Kd} {i : Nat} {vs : List (Kd × Value)} (h1 : (ks.getD i .any).isRes = true) (h2 : (ks.zipIdx.all fun p => p.2 == i || !p.1.isRes) = true) (h3 : (vs.all fun q => !q.1.isRes) = true) : ks.getD i .any = .res ∧ (∀ j, j ≠ i → ks.getD j .any ≠ .res) ∧ ∀ q ∈ vs, q.1 ≠ .res := by
  refine ⟨isRes_yes h1, fun j hj => ?_, fun q hq => isRes_no (by simpa using List.all_eq_true.1 h3 q hq)⟩
  cases hjk : ks[j]? with
  | none => rw [List.getD_eq_getElem?_getD, hjk]; exact isRes_no rfl
  | some k =>
    have := List.all_eq_true.1 h2 (k, j) (List.mem_zipIdx_iff_getElem?.2 hjk)
    rw [List.getD_eq_getElem?_getD, hjk]
    have hne : (j == i) = false := by simpa using hj
    rw [hne] at this
    exact isRes_no (by simpa using this)
end
theorem results_tmp_cell_row {P : Program} {fn : Func} {p u : Tmp} {ty : TypeId} (h : fn.results = #[.tmp u, .cell p ty]) (tmps : Array Value) (w : World) (g : Nat) (t : TypeId) (cs : Array Value) (fr : Nat × Nat) (d : TypeDesc)
    (hp : tmps.getD p undef = .pointer (some ⟨g, 0, none⟩)) (hg : w.heap[g]? = some (.cells cs t fr))
    (hu : P.underlying ty = some d) (hd : (match d with | .struct _ | .array _ _ => true | _ => false) = true) (hi : (P.info? ty).map (·.size) = some cs.size) :
    (results fn tmps).run P w = .ok (.tuple #[tmps.getD u undef, .agg cs]) w := by
  have hp' : tmps[p]?.getD undef = .pointer (some ⟨g, 0, none⟩) := by simpa using hp
  simp [results, h, hp', asAddr, run_loadVar_row w g t ty cs fr d hg hu hd hi]
def GivesKn (g : Nat) (cv : Value) (N : Nat) (w : World) (e : Ending) (w' : World) : Prop := ∃ (s : ByteArray) (x y : Value) (L1 L2 : List ByteArray), e = .returned (.tuple #[.string s, .agg #[x, y]]) ∧ Strs w' x L1 ∧ Strs w' y L2 ∧ Fits L1 ∧ Fits L2 ∧ L1.length ≤ 8 ∧ L2.length ≤ 8 ∧ Src w' g cv N ∧ Only g w w'
set_option maxRecDepth 100000 in
set_option maxHeartbeats 4000000 in
theorem l11Known_c (g : Nat) (cv : Value) (N : Nat) (w : World) (h : Src w g cv N) :
    Calls Tryz.prog 38 #[.pointer (some ⟨g, 0, none⟩)] w (GivesKn g cv N w) := by
  have hinfo : (Tryz.prog.info? 63).map (·.size) = some 2 := by kernel_rfl
  have EN : Enters Tryz.prog 21 := enters_of Tryz.func21 (by kernel_rfl) rfl
  have EPre : Enters Tryz.prog 64 := enters_of Tryz.func64 (by kernel_rfl) rfl
  have EPair : Enters Tryz.prog 63 := enters_of Tryz.func63 (by kernel_rfl) rfl
  have EText : Enters Tryz.prog 66 := enters_of Tryz.func66 (by kernel_rfl) rfl
  have EIns : Enters Tryz.prog 65 := enters_of Tryz.func65 (by kernel_rfl) rfl
  have hgl := h.lt
  have hS0 := h.grew ((Grew.refl w).alloc (.cells #[.slice none 0 0, .slice none 0 0] 63))
  have hb0 := blk_new w (.cells #[.slice none 0 0, .slice none 0 0] 63)
  have hU0 := ((Grew.refl w).alloc (.cells #[.slice none 0 0, .slice none 0 0] 63)).only (g := g)
  have hsz0 : (w.alloc (.cells #[.slice none 0 0, .slice none 0 0] 63)).heap.size = w.heap.size + 1 := by simp
  obtain ⟨w0, hw0⟩ : ∃ w0, w0 = w.alloc (.cells #[.slice none 0 0, .slice none 0 0] 63) := ⟨_, rfl⟩
  rw [← hw0] at hS0 hb0 hU0 hsz0
  have H0 : Hid (SK g w.heap.size (w.heap.size + 1) cv N w [] w0) := Lib.hid ⟨hS0, hU0, by omega, by omega, Nat.le_refl _, hgl, ⟨_, _, hb0⟩, fun p hp => absurd hp (by simp)⟩
  have HSZ := Lib.hid hsz0
  clear h hS0 hb0 hU0 hsz0
  go_enter Tryz.func38, Tryz.ntmps38
  go_wp2_with fail
  simp only [← hw0]
  clear hw0
  refine (l02Draw_g g cv N 2 (by omega) (by omega) 3 3 w0 (by omega) (by omega) (by omega) H0.out.src).mono ?_
  rintro e w1 ⟨v4, x4, rfl, hO4, ⟨t4, rfl⟩, hl4, hS1, ho1⟩
  have H1 := Lib.hid ((H0.out.next (H0.out.on ho1) hS1 ho1).cons (k := .nd 3) (v := v4) ⟨t4, own_base hO4 (by have := HSZ.out; omega), by omega⟩)
  obtain ⟨A4, c4, rfl⟩ := nodes_slice hO4.nodes
  have hz1 := Nat.le_trans (Nat.le_of_eq HSZ.out.symm) ho1.size
  clear hO4 hS1 ho1 H0
  go_wp2_with fail
  refine (l02Draw_g g cv N 2 (by omega) (by omega) 3 3 w1 (by omega) (by omega) (by omega) H1.out.src).mono ?_
  rintro e w2 ⟨v5, x5, rfl, hO5, ⟨t5, rfl⟩, hl5, hS2, ho2⟩
  have H2 := Lib.hid ((H1.out.next (H1.out.on ho2) hS2 ho2).cons (k := .nd 3) (v := v5) ⟨t5, own_base hO5 hz1, by omega⟩)
  have hO4 := H2.out.vals (.nd 3, _) (List.mem_cons_of_mem _ (List.mem_cons_self ..))
  obtain ⟨A5, c5, rfl⟩ := nodes_slice hO5.nodes
  obtain ⟨u4, hN4, hn4⟩ := hO4
  obtain ⟨u5, hN5, hn5⟩ := H2.out.vals (.nd 3, _) (List.mem_cons_self ..)
  have KP := Lib.hid ((l02Pair_c 4 _ _ (Fm.enc u4) (Fm.enc u5) w2 hN4.nodes hN5.nodes (by omega)))
  clear hO5 hS2 ho2 H1 hz1 hN4 hN5
  go_wp2_with fail
  refine KP.out.mono ?_
  rintro e w3 ⟨v6, rfl, hO6, hg3⟩
  have H3 := Lib.hid ((H2.out.grew hg3).cons (k := .nd 7) (v := v6) ⟨.imp u4 u5, own_base hO6 H2.out.size, by simp only [Fm.enc, List.length_cons, List.length_append]; omega⟩)
  obtain ⟨A6, c6, rfl⟩ := nodes_slice hO6.nodes
  have hO4 := H3.out.vals (.nd 3, .slice A4 (Fm.enc t4).length c4) (by simp)
  obtain ⟨u4', hN4, hn4'⟩ := hO4
  have KR := Lib.hid ((l02Pre_c 5 _ (Fm.enc u4') w3 hN4.nodes (by omega)))
  clear hO6 hg3 H2 KP hN4
  generalize (Fm.join 4 (Fm.enc u4) (Fm.enc u5)).length = n6 at *
  go_wp2_with fail
  refine KR.out.mono ?_
  rintro e w4 ⟨v7, rfl, hO7, hg4⟩
  have H4 := Lib.hid ((H3.out.grew hg4).cons (k := .nd 4) (v := v7) ⟨.box u4', own_base hO7 H3.out.size, by simp only [Fm.enc, List.length_cons]; omega⟩)
  obtain ⟨A7, c7, rfl⟩ := nodes_slice hO7.nodes
  clear hO7 hg4 H3 KR
  generalize (Fm.pre 5 (Fm.enc u4')).length = n7 at *
  generalize (Fm.enc t4).length = n4 at *
  generalize (Fm.enc t5).length = n5 at *
  clear hn4 hn5 hn4' hl4 hl5
  go_wp2_with fail
  refine (so_next g cv N w4 7 (by omega) w4 ⟨H4.out.src, Only.refl _ _⟩).mono ?_
  rintro e w5 ⟨r, rfl, hr7, hSO5, ho5⟩
  have HSK := Lib.hid (H4.out.next (H4.out.on ho5) hSO5.1 ho5)
  clear hSO5 ho5 H4
  match r, hr7 with
  | 0, _ =>
    go_upto_region 6 with fail
    refine wp_region_flow (TT g w.heap.size (w.heap.size + 1) [.lit 7, .src, .int 7, .addr, .str, .nd 7, .nd 8, .str, .strs 1, .nd 4, .str, .strs 2, .nd 3, .nd 4, .str, .strs 1, .sq, .str, .res]) (SK g w.heap.size (w.heap.size + 1) cv N w _) (by kernel_rfl) HSK.out.drew9 (by rfl) (by kernel_rfl) (by decide) (by rfl) ?hop ?hend
    case hop =>
      refine ⟨?_, ?_, ?_, ?_, ?_, ?_, ?_, ?_, ?_, ?_, ?_, ?_, ?_, ?_, ?_, ?_, ?_, ?_, ?_, trivial⟩
      · intro a W hS hd hk
        refine fl_lit (cs := #[.string ⟨#[75]⟩, .string ⟨#[68]⟩, .string ⟨#[84]⟩, .string ⟨#[75, 52]⟩, .string ⟨#[83, 52]⟩, .string ⟨#[71, 76]⟩, .string ⟨#[83, 53]⟩]) ?_ hS rfl rfl ?_
        · unfold execOp
          go_simp
        · intro i hi
          match i, hi with
          | 0, _ => exact ⟨_, rfl, by decide⟩
          | 1, _ => exact ⟨_, rfl, by decide⟩
          | 2, _ => exact ⟨_, rfl, by decide⟩
          | 3, _ => exact ⟨_, rfl, by decide⟩
          | 4, _ => exact ⟨_, rfl, by decide⟩
          | 5, _ => exact ⟨_, rfl, by decide⟩
          | 6, _ => exact ⟨_, rfl, by decide⟩
      · intro a W hS hd hk
        have h1 : tyS g w.heap.size (w.heap.size + 1) .src W (a.tmps.getD 0 undef) := hk 0 (not_dst (by rfl))
        exact fl_mv (.inl rfl) hS rfl rfl h1
      · intro a W hS hd hk
        have h1 : tyS g w.heap.size (w.heap.size + 1) (.src) W (a.tmps.getD 22 undef) := hd ⟨1, .data⟩ (by simp) rfl _ rfl
        exact fl_next (n := 7) rfl EN hS rfl rfl (by omega) h1
      · intro a W hS hd hk
        have h1 : tyS g w.heap.size (w.heap.size + 1) (.lit 7) W (a.tmps.getD 21 undef) := hd ⟨0, .data⟩ (by simp) rfl _ rfl
        have h2 : tyS g w.heap.size (w.heap.size + 1) (.int 7) W (a.tmps.getD 23 undef) := hd ⟨2, .data⟩ (by simp) rfl _ rfl
        exact fl_ix (n := 7) rfl hS rfl rfl h1 h2
      · intro a W hS hd hk
        have h1 : tyS g w.heap.size (w.heap.size + 1) (.addr) W (a.tmps.getD 24 undef) := hd ⟨3, .data⟩ (by simp) rfl _ rfl
        exact fl_ld rfl hS rfl rfl h1
      · intro a W hS hd hk
        have h1 : tyS g w.heap.size (w.heap.size + 1) (.nd 7) W (a.tmps.getD 6 undef) := by rw [hk 6 (not_dst (by rfl))]; exact hS.vals (.nd 7, _) (by simp)
        exact fl_mv (.inl rfl) hS rfl rfl h1
      · intro a W hS hd hk
        have h1 : tyS g w.heap.size (w.heap.size + 1) (.nd 7) W (a.tmps.getD 26 undef) := hd ⟨5, .data⟩ (by simp) rfl _ rfl
        exact fl_pre (c := .box) rfl EPre hS rfl (fun _ => rfl) rfl (Nat.le_refl _) (by omega) h1
      · intro a W hS hd hk
        have h1 : tyS g w.heap.size (w.heap.size + 1) (.nd 8) W (a.tmps.getD 27 undef) := hd ⟨6, .data⟩ (by simp) rfl _ rfl
        exact fl_text rfl EText hS rfl rfl (by omega) h1
      · intro a W hS hd hk
        have h1 : tyS g w.heap.size (w.heap.size + 1) (.str) W (a.tmps.getD 28 undef) := hd ⟨7, .data⟩ (by simp) rfl _ rfl
        exact fl_lt1 rfl hS rfl rfl (Nat.le_refl _) h1
      · intro a W hS hd hk
        have h1 : tyS g w.heap.size (w.heap.size + 1) (.nd 4) W (a.tmps.getD 7 undef) := by rw [hk 7 (not_dst (by rfl))]; exact hS.vals (.nd 4, _) (by simp)
        exact fl_mv (.inl rfl) hS rfl rfl h1
      · intro a W hS hd hk
        have h1 : tyS g w.heap.size (w.heap.size + 1) (.nd 4) W (a.tmps.getD 30 undef) := hd ⟨9, .data⟩ (by simp) rfl _ rfl
        exact fl_text rfl EText hS rfl rfl (by omega) h1
      · intro a W hS hd hk
        have h1 : tyS g w.heap.size (w.heap.size + 1) (.strs 1) W (a.tmps.getD 29 undef) := hd ⟨8, .data⟩ (by simp) rfl _ rfl
        have h2 : tyS g w.heap.size (w.heap.size + 1) (.str) W (a.tmps.getD 31 undef) := hd ⟨10, .data⟩ (by simp) rfl _ rfl
        exact fl_ins (n := 1) rfl EIns hS rfl rfl (Nat.le_refl _) (by omega) h1 h2
      · intro a W hS hd hk
        have h1 : tyS g w.heap.size (w.heap.size + 1) (.nd 3) W (a.tmps.getD 5 undef) := by rw [hk 5 (not_dst (by rfl))]; exact hS.vals (.nd 3, _) (by simp)
        exact fl_mv (.inl rfl) hS rfl rfl h1
      · intro a W hS hd hk
        have h1 : tyS g w.heap.size (w.heap.size + 1) (.nd 3) W (a.tmps.getD 33 undef) := hd ⟨12, .data⟩ (by simp) rfl _ rfl
        exact fl_pre (c := .box) rfl EPre hS rfl (fun _ => rfl) rfl (Nat.le_refl _) (by omega) h1
      · intro a W hS hd hk
        have h1 : tyS g w.heap.size (w.heap.size + 1) (.nd 4) W (a.tmps.getD 34 undef) := hd ⟨13, .data⟩ (by simp) rfl _ rfl
        exact fl_text rfl EText hS rfl rfl (by omega) h1
      · intro a W hS hd hk
        have h1 : tyS g w.heap.size (w.heap.size + 1) (.str) W (a.tmps.getD 35 undef) := hd ⟨14, .data⟩ (by simp) rfl _ rfl
        exact fl_lt1 rfl hS rfl rfl (Nat.le_refl _) h1
      · intro a W hS hd hk
        have h1 : tyS g w.heap.size (w.heap.size + 1) (.strs 2) W (a.tmps.getD 32 undef) := hd ⟨11, .data⟩ (by simp) rfl _ rfl
        have h2 : tyS g w.heap.size (w.heap.size + 1) (.strs 1) W (a.tmps.getD 36 undef) := hd ⟨15, .data⟩ (by simp) rfl _ rfl
        exact fl_sq rfl hS rfl rfl (by decide) (by decide) h1 h2
      · intro a W hS hd hk
        have h1 : tyS g w.heap.size (w.heap.size + 1) (.str) W (a.tmps.getD 25 undef) := hd ⟨4, .data⟩ (by simp) rfl _ rfl
        exact fl_mv (.inr rfl) hS rfl rfl h1
      · intro a W hS hd hk
        have h1 : tyS g w.heap.size (w.heap.size + 1) (.sq) W (a.tmps.getD 37 undef) := hd ⟨16, .data⟩ (by simp) rfl _ rfl
        have h0 : a.tmps.getD 3 undef = .pointer (some ⟨w.heap.size, 0, none⟩) := hk 3 (not_dst (by rfl))
        exact fl_st rfl hS rfl (ksnr (by rfl) (by rfl) (by rfl)) h0 h1
    case hend =>
      intro a W hS hdf hk hdn
      obtain ⟨s, hs, hs2⟩ : tyS g w.heap.size (w.heap.size + 1) .str W (a.tmps.getD 2 undef) := hdn 17 _ rfl
      obtain ⟨x, y, L1, L2, hR, q1, q2, q3, q4, q5, q6⟩ : tyS g w.heap.size (w.heap.size + 1) .res W undef := hdn 18 _ rfl
      have e3 : a.tmps.getD 3 undef = .pointer (some ⟨w.heap.size, 0, none⟩) := hk 3 (not_dst (by rfl))
      go_wp2_with fail
      refine bodyPost_ret (results_tmp_cell_row rfl a.tmps W w.heap.size _ #[x, y] (0, 0) _ e3 hR Tryz.underlying63 rfl hinfo) (hdf.trans rfl) ?_
      exact ⟨s, x, y, L1, L2, by rw [hs], OwnS.strs q1, OwnS.strs q4, q2, q5, q3, q6, hS.src, hS.only⟩
  | 1, _ =>
    go_upto_region 8 with fail
    refine wp_region_flow (TT g w.heap.size (w.heap.size + 1) [.lit 3, .src, .int 3, .addr, .str, .nd 4, .str, .strs 1, .nd 3, .str, .strs 1, .sq, .str, .res]) (SK g w.heap.size (w.heap.size + 1) cv N w _) (by kernel_rfl) HSK.out.drew9 (by rfl) (by kernel_rfl) (by decide) (by rfl) ?hop ?hend
    case hop =>
      refine ⟨?_, ?_, ?_, ?_, ?_, ?_, ?_, ?_, ?_, ?_, ?_, ?_, ?_, ?_, trivial⟩
      · intro a W hS hd hk
        refine fl_lit (cs := #[.string ⟨#[84]⟩, .string ⟨#[83, 52]⟩, .string ⟨#[83, 53]⟩]) ?_ hS rfl rfl ?_
        · unfold execOp
          go_simp
        · intro i hi
          match i, hi with
          | 0, _ => exact ⟨_, rfl, by decide⟩
          | 1, _ => exact ⟨_, rfl, by decide⟩
          | 2, _ => exact ⟨_, rfl, by decide⟩
      · intro a W hS hd hk
        have h1 : tyS g w.heap.size (w.heap.size + 1) .src W (a.tmps.getD 0 undef) := hk 0 (not_dst (by rfl))
        exact fl_mv (.inl rfl) hS rfl rfl h1
      · intro a W hS hd hk
        have h1 : tyS g w.heap.size (w.heap.size + 1) (.src) W (a.tmps.getD 41 undef) := hd ⟨1, .data⟩ (by simp) rfl _ rfl
        exact fl_next (n := 3) rfl EN hS rfl rfl (by omega) h1
      · intro a W hS hd hk
        have h1 : tyS g w.heap.size (w.heap.size + 1) (.lit 3) W (a.tmps.getD 40 undef) := hd ⟨0, .data⟩ (by simp) rfl _ rfl
        have h2 : tyS g w.heap.size (w.heap.size + 1) (.int 3) W (a.tmps.getD 42 undef) := hd ⟨2, .data⟩ (by simp) rfl _ rfl
        exact fl_ix (n := 3) rfl hS rfl rfl h1 h2
      · intro a W hS hd hk
        have h1 : tyS g w.heap.size (w.heap.size + 1) (.addr) W (a.tmps.getD 43 undef) := hd ⟨3, .data⟩ (by simp) rfl _ rfl
        exact fl_ld rfl hS rfl rfl h1
      · intro a W hS hd hk
        have h1 : tyS g w.heap.size (w.heap.size + 1) (.nd 4) W (a.tmps.getD 7 undef) := by rw [hk 7 (not_dst (by rfl))]; exact hS.vals (.nd 4, _) (by simp)
        exact fl_mv (.inl rfl) hS rfl rfl h1
      · intro a W hS hd hk
        have h1 : tyS g w.heap.size (w.heap.size + 1) (.nd 4) W (a.tmps.getD 45 undef) := hd ⟨5, .data⟩ (by simp) rfl _ rfl
        exact fl_text rfl EText hS rfl rfl (by omega) h1
      · intro a W hS hd hk
        have h1 : tyS g w.heap.size (w.heap.size + 1) (.str) W (a.tmps.getD 46 undef) := hd ⟨6, .data⟩ (by simp) rfl _ rfl
        exact fl_lt1 rfl hS rfl rfl (Nat.le_refl _) h1
      · intro a W hS hd hk
        have h1 : tyS g w.heap.size (w.heap.size + 1) (.nd 3) W (a.tmps.getD 4 undef) := by rw [hk 4 (not_dst (by rfl))]; exact hS.vals (.nd 3, _) (by simp)
        exact fl_mv (.inl rfl) hS rfl rfl h1
      · intro a W hS hd hk
        have h1 : tyS g w.heap.size (w.heap.size + 1) (.nd 3) W (a.tmps.getD 48 undef) := hd ⟨8, .data⟩ (by simp) rfl _ rfl
        exact fl_text rfl EText hS rfl rfl (by omega) h1
      · intro a W hS hd hk
        have h1 : tyS g w.heap.size (w.heap.size + 1) (.str) W (a.tmps.getD 49 undef) := hd ⟨9, .data⟩ (by simp) rfl _ rfl
        exact fl_lt1 rfl hS rfl rfl (Nat.le_refl _) h1
      · intro a W hS hd hk
        have h1 : tyS g w.heap.size (w.heap.size + 1) (.strs 1) W (a.tmps.getD 47 undef) := hd ⟨7, .data⟩ (by simp) rfl _ rfl
        have h2 : tyS g w.heap.size (w.heap.size + 1) (.strs 1) W (a.tmps.getD 50 undef) := hd ⟨10, .data⟩ (by simp) rfl _ rfl
        exact fl_sq rfl hS rfl rfl (by decide) (by decide) h1 h2
      · intro a W hS hd hk
        have h1 : tyS g w.heap.size (w.heap.size + 1) (.str) W (a.tmps.getD 44 undef) := hd ⟨4, .data⟩ (by simp) rfl _ rfl
        exact fl_mv (.inr rfl) hS rfl rfl h1
      · intro a W hS hd hk
        have h1 : tyS g w.heap.size (w.heap.size + 1) (.sq) W (a.tmps.getD 51 undef) := hd ⟨11, .data⟩ (by simp) rfl _ rfl
        have h0 : a.tmps.getD 3 undef = .pointer (some ⟨w.heap.size, 0, none⟩) := hk 3 (not_dst (by rfl))
        exact fl_st rfl hS rfl (ksnr (by rfl) (by rfl) (by rfl)) h0 h1
    case hend =>
      intro a W hS hdf hk hdn
      obtain ⟨s, hs, hs2⟩ : tyS g w.heap.size (w.heap.size + 1) .str W (a.tmps.getD 2 undef) := hdn 12 _ rfl
      obtain ⟨x, y, L1, L2, hR, q1, q2, q3, q4, q5, q6⟩ : tyS g w.heap.size (w.heap.size + 1) .res W undef := hdn 13 _ rfl
      have e3 : a.tmps.getD 3 undef = .pointer (some ⟨w.heap.size, 0, none⟩) := hk 3 (not_dst (by rfl))
      go_wp2_with fail
      refine bodyPost_ret (results_tmp_cell_row rfl a.tmps W w.heap.size _ #[x, y] (0, 0) _ e3 hR Tryz.underlying63 rfl hinfo) (hdf.trans rfl) ?_
      exact ⟨s, x, y, L1, L2, by rw [hs], OwnS.strs q1, OwnS.strs q4, q2, q5, q3, q6, hS.src, hS.only⟩
  | 2, _ =>
    go_upto_region 10 with fail
    refine wp_region_flow (TT g w.heap.size (w.heap.size + 1) [.lit 4, .src, .int 4, .addr, .str, .nd 4, .str, .strs 1, .nd 4, .nd 5, .str, .strs 1, .sq, .str, .res]) (SK g w.heap.size (w.heap.size + 1) cv N w _) (by kernel_rfl) HSK.out.drew9 (by rfl) (by kernel_rfl) (by decide) (by rfl) ?hop ?hend
    case hop =>
      refine ⟨?_, ?_, ?_, ?_, ?_, ?_, ?_, ?_, ?_, ?_, ?_, ?_, ?_, ?_, ?_, trivial⟩
      · intro a W hS hd hk
        refine fl_lit (cs := #[.string ⟨#[75, 52]⟩, .string ⟨#[83, 52]⟩, .string ⟨#[71, 76]⟩, .string ⟨#[83, 53]⟩]) ?_ hS rfl rfl ?_
        · unfold execOp
          go_simp
        · intro i hi
          match i, hi with
          | 0, _ => exact ⟨_, rfl, by decide⟩
          | 1, _ => exact ⟨_, rfl, by decide⟩
          | 2, _ => exact ⟨_, rfl, by decide⟩
          | 3, _ => exact ⟨_, rfl, by decide⟩
      · intro a W hS hd hk
        have h1 : tyS g w.heap.size (w.heap.size + 1) .src W (a.tmps.getD 0 undef) := hk 0 (not_dst (by rfl))
        exact fl_mv (.inl rfl) hS rfl rfl h1
      · intro a W hS hd hk
        have h1 : tyS g w.heap.size (w.heap.size + 1) (.src) W (a.tmps.getD 55 undef) := hd ⟨1, .data⟩ (by simp) rfl _ rfl
        exact fl_next (n := 4) rfl EN hS rfl rfl (by omega) h1
      · intro a W hS hd hk
        have h1 : tyS g w.heap.size (w.heap.size + 1) (.lit 4) W (a.tmps.getD 54 undef) := hd ⟨0, .data⟩ (by simp) rfl _ rfl
        have h2 : tyS g w.heap.size (w.heap.size + 1) (.int 4) W (a.tmps.getD 56 undef) := hd ⟨2, .data⟩ (by simp) rfl _ rfl
        exact fl_ix (n := 4) rfl hS rfl rfl h1 h2
      · intro a W hS hd hk
        have h1 : tyS g w.heap.size (w.heap.size + 1) (.addr) W (a.tmps.getD 57 undef) := hd ⟨3, .data⟩ (by simp) rfl _ rfl
        exact fl_ld rfl hS rfl rfl h1
      · intro a W hS hd hk
        have h1 : tyS g w.heap.size (w.heap.size + 1) (.nd 4) W (a.tmps.getD 7 undef) := by rw [hk 7 (not_dst (by rfl))]; exact hS.vals (.nd 4, _) (by simp)
        exact fl_mv (.inl rfl) hS rfl rfl h1
      · intro a W hS hd hk
        have h1 : tyS g w.heap.size (w.heap.size + 1) (.nd 4) W (a.tmps.getD 59 undef) := hd ⟨5, .data⟩ (by simp) rfl _ rfl
        exact fl_text rfl EText hS rfl rfl (by omega) h1
      · intro a W hS hd hk
        have h1 : tyS g w.heap.size (w.heap.size + 1) (.str) W (a.tmps.getD 60 undef) := hd ⟨6, .data⟩ (by simp) rfl _ rfl
        exact fl_lt1 rfl hS rfl rfl (Nat.le_refl _) h1
      · intro a W hS hd hk
        have h1 : tyS g w.heap.size (w.heap.size + 1) (.nd 4) W (a.tmps.getD 7 undef) := by rw [hk 7 (not_dst (by rfl))]; exact hS.vals (.nd 4, _) (by simp)
        exact fl_mv (.inl rfl) hS rfl rfl h1
      · intro a W hS hd hk
        have h1 : tyS g w.heap.size (w.heap.size + 1) (.nd 4) W (a.tmps.getD 62 undef) := hd ⟨8, .data⟩ (by simp) rfl _ rfl
        exact fl_pre (c := .box) rfl EPre hS rfl (fun _ => rfl) rfl (Nat.le_refl _) (by omega) h1
      · intro a W hS hd hk
        have h1 : tyS g w.heap.size (w.heap.size + 1) (.nd 5) W (a.tmps.getD 63 undef) := hd ⟨9, .data⟩ (by simp) rfl _ rfl
        exact fl_text rfl EText hS rfl rfl (by omega) h1
      · intro a W hS hd hk
        have h1 : tyS g w.heap.size (w.heap.size + 1) (.str) W (a.tmps.getD 64 undef) := hd ⟨10, .data⟩ (by simp) rfl _ rfl
        exact fl_lt1 rfl hS rfl rfl (Nat.le_refl _) h1
      · intro a W hS hd hk
        have h1 : tyS g w.heap.size (w.heap.size + 1) (.strs 1) W (a.tmps.getD 61 undef) := hd ⟨7, .data⟩ (by simp) rfl _ rfl
        have h2 : tyS g w.heap.size (w.heap.size + 1) (.strs 1) W (a.tmps.getD 65 undef) := hd ⟨11, .data⟩ (by simp) rfl _ rfl
        exact fl_sq rfl hS rfl rfl (by decide) (by decide) h1 h2
      · intro a W hS hd hk
        have h1 : tyS g w.heap.size (w.heap.size + 1) (.str) W (a.tmps.getD 58 undef) := hd ⟨4, .data⟩ (by simp) rfl _ rfl
        exact fl_mv (.inr rfl) hS rfl rfl h1
      · intro a W hS hd hk
        have h1 : tyS g w.heap.size (w.heap.size + 1) (.sq) W (a.tmps.getD 66 undef) := hd ⟨12, .data⟩ (by simp) rfl _ rfl
        have h0 : a.tmps.getD 3 undef = .pointer (some ⟨w.heap.size, 0, none⟩) := hk 3 (not_dst (by rfl))
        exact fl_st rfl hS rfl (ksnr (by rfl) (by rfl) (by rfl)) h0 h1
    case hend =>
      intro a W hS hdf hk hdn
      obtain ⟨s, hs, hs2⟩ : tyS g w.heap.size (w.heap.size + 1) .str W (a.tmps.getD 2 undef) := hdn 13 _ rfl
      obtain ⟨x, y, L1, L2, hR, q1, q2, q3, q4, q5, q6⟩ : tyS g w.heap.size (w.heap.size + 1) .res W undef := hdn 14 _ rfl
      have e3 : a.tmps.getD 3 undef = .pointer (some ⟨w.heap.size, 0, none⟩) := hk 3 (not_dst (by rfl))
      go_wp2_with fail
      refine bodyPost_ret (results_tmp_cell_row rfl a.tmps W w.heap.size _ #[x, y] (0, 0) _ e3 hR Tryz.underlying63 rfl hinfo) (hdf.trans rfl) ?_
      exact ⟨s, x, y, L1, L2, by rw [hs], OwnS.strs q1, OwnS.strs q4, q2, q5, q3, q6, hS.src, hS.only⟩
  | 3, _ =>
    go_upto_region 12 with fail
    refine wp_region_flow_seq (TT g w.heap.size (w.heap.size + 1) [.nd 4, .nd 3, .nd 8, .nd 9, .str, .strs 1, .nd 4, .str, .strs 1, .sq, .str, .res]) (SK g w.heap.size (w.heap.size + 1) cv N w _) HSK.out (by rfl) (by kernel_rfl) (by decide) (by rfl) ?hop ?hend
    case hop =>
      refine ⟨?_, ?_, ?_, ?_, ?_, ?_, ?_, ?_, ?_, ?_, ?_, ?_, trivial⟩
      · intro a W hS hd hk
        have h1 : tyS g w.heap.size (w.heap.size + 1) (.nd 4) W (a.tmps.getD 7 undef) := by rw [hk 7 (not_dst (by rfl))]; exact hS.vals (.nd 4, _) (by simp)
        exact fl_mv (.inl rfl) hS rfl rfl h1
      · intro a W hS hd hk
        have h1 : tyS g w.heap.size (w.heap.size + 1) (.nd 3) W (a.tmps.getD 4 undef) := by rw [hk 4 (not_dst (by rfl))]; exact hS.vals (.nd 3, _) (by simp)
        exact fl_mv (.inl rfl) hS rfl rfl h1
      · intro a W hS hd hk
        have h1 : tyS g w.heap.size (w.heap.size + 1) (.nd 4) W (a.tmps.getD 69 undef) := hd ⟨0, .data⟩ (by simp) rfl _ rfl
        have h2 : tyS g w.heap.size (w.heap.size + 1) (.nd 3) W (a.tmps.getD 70 undef) := hd ⟨1, .data⟩ (by simp) rfl _ rfl
        exact fl_pair (c := .imp) rfl EPair hS rfl (fun _ _ => rfl) rfl (Nat.le_refl _) (by omega) h1 h2
      · intro a W hS hd hk
        have h1 : tyS g w.heap.size (w.heap.size + 1) (.nd 8) W (a.tmps.getD 71 undef) := hd ⟨2, .data⟩ (by simp) rfl _ rfl
        exact fl_pre (c := .box) rfl EPre hS rfl (fun _ => rfl) rfl (Nat.le_refl _) (by omega) h1
      · intro a W hS hd hk
        have h1 : tyS g w.heap.size (w.heap.size + 1) (.nd 9) W (a.tmps.getD 72 undef) := hd ⟨3, .data⟩ (by simp) rfl _ rfl
        exact fl_text rfl EText hS rfl rfl (by omega) h1
      · intro a W hS hd hk
        have h1 : tyS g w.heap.size (w.heap.size + 1) (.str) W (a.tmps.getD 73 undef) := hd ⟨4, .data⟩ (by simp) rfl _ rfl
        exact fl_lt1 rfl hS rfl rfl (Nat.le_refl _) h1
      · intro a W hS hd hk
        have h1 : tyS g w.heap.size (w.heap.size + 1) (.nd 4) W (a.tmps.getD 7 undef) := by rw [hk 7 (not_dst (by rfl))]; exact hS.vals (.nd 4, _) (by simp)
        exact fl_mv (.inl rfl) hS rfl rfl h1
      · intro a W hS hd hk
        have h1 : tyS g w.heap.size (w.heap.size + 1) (.nd 4) W (a.tmps.getD 75 undef) := hd ⟨6, .data⟩ (by simp) rfl _ rfl
        exact fl_text rfl EText hS rfl rfl (by omega) h1
      · intro a W hS hd hk
        have h1 : tyS g w.heap.size (w.heap.size + 1) (.str) W (a.tmps.getD 76 undef) := hd ⟨7, .data⟩ (by simp) rfl _ rfl
        exact fl_lt1 rfl hS rfl rfl (Nat.le_refl _) h1
      · intro a W hS hd hk
        have h1 : tyS g w.heap.size (w.heap.size + 1) (.strs 1) W (a.tmps.getD 74 undef) := hd ⟨5, .data⟩ (by simp) rfl _ rfl
        have h2 : tyS g w.heap.size (w.heap.size + 1) (.strs 1) W (a.tmps.getD 77 undef) := hd ⟨8, .data⟩ (by simp) rfl _ rfl
        exact fl_sq rfl hS rfl rfl (by decide) (by decide) h1 h2
      · intro a W hS hd hk
        exact fl_mv (k := .str) (.inr rfl) hS rfl rfl ⟨⟨#[71, 76]⟩, rfl, by decide⟩
      · intro a W hS hd hk
        have h1 : tyS g w.heap.size (w.heap.size + 1) (.sq) W (a.tmps.getD 78 undef) := hd ⟨9, .data⟩ (by simp) rfl _ rfl
        have h0 : a.tmps.getD 3 undef = .pointer (some ⟨w.heap.size, 0, none⟩) := hk 3 (not_dst (by rfl))
        exact fl_st rfl hS rfl (ksnr (by rfl) (by rfl) (by rfl)) h0 h1
    case hend =>
      intro a W hS hdf hk hdn
      obtain ⟨s, hs, hs2⟩ : tyS g w.heap.size (w.heap.size + 1) .str W (a.tmps.getD 2 undef) := hdn 10 _ rfl
      obtain ⟨x, y, L1, L2, hR, q1, q2, q3, q4, q5, q6⟩ : tyS g w.heap.size (w.heap.size + 1) .res W undef := hdn 11 _ rfl
      have e3 : a.tmps.getD 3 undef = .pointer (some ⟨w.heap.size, 0, none⟩) := hk 3 (not_dst (by rfl))
      go_wp2_with fail
      refine bodyPost_ret (results_tmp_cell_row rfl a.tmps W w.heap.size _ #[x, y] (0, 0) _ e3 hR Tryz.underlying63 rfl hinfo) (hdf.trans rfl) ?_
      exact ⟨s, x, y, L1, L2, by rw [hs], OwnS.strs q1, OwnS.strs q4, q2, q5, q3, q6, hS.src, hS.only⟩
  | 4, _ =>
    go_upto_region 14 with fail
    refine wp_region_flow_seq (TT g w.heap.size (w.heap.size + 1) [.nd 4, .str, .strs 1, .nd 3, .nd 4, .str, .strs 1, .sq, .str, .res]) (SK g w.heap.size (w.heap.size + 1) cv N w _) HSK.out (by rfl) (by kernel_rfl) (by decide) (by rfl) ?hop ?hend
    case hop =>
      refine ⟨?_, ?_, ?_, ?_, ?_, ?_, ?_, ?_, ?_, ?_, trivial⟩
      · intro a W hS hd hk
        have h1 : tyS g w.heap.size (w.heap.size + 1) (.nd 4) W (a.tmps.getD 7 undef) := by rw [hk 7 (not_dst (by rfl))]; exact hS.vals (.nd 4, _) (by simp)
        exact fl_mv (.inl rfl) hS rfl rfl h1
      · intro a W hS hd hk
        have h1 : tyS g w.heap.size (w.heap.size + 1) (.nd 4) W (a.tmps.getD 81 undef) := hd ⟨0, .data⟩ (by simp) rfl _ rfl
        exact fl_text rfl EText hS rfl rfl (by omega) h1
      · intro a W hS hd hk
        have h1 : tyS g w.heap.size (w.heap.size + 1) (.str) W (a.tmps.getD 82 undef) := hd ⟨1, .data⟩ (by simp) rfl _ rfl
        exact fl_lt1 rfl hS rfl rfl (Nat.le_refl _) h1
      · intro a W hS hd hk
        have h1 : tyS g w.heap.size (w.heap.size + 1) (.nd 3) W (a.tmps.getD 4 undef) := by rw [hk 4 (not_dst (by rfl))]; exact hS.vals (.nd 3, _) (by simp)
        exact fl_mv (.inl rfl) hS rfl rfl h1
      · intro a W hS hd hk
        have h1 : tyS g w.heap.size (w.heap.size + 1) (.nd 3) W (a.tmps.getD 84 undef) := hd ⟨3, .data⟩ (by simp) rfl _ rfl
        exact fl_pre (c := .dia) rfl EPre hS rfl (fun _ => rfl) rfl (Nat.le_refl _) (by omega) h1
      · intro a W hS hd hk
        have h1 : tyS g w.heap.size (w.heap.size + 1) (.nd 4) W (a.tmps.getD 85 undef) := hd ⟨4, .data⟩ (by simp) rfl _ rfl
        exact fl_text rfl EText hS rfl rfl (by omega) h1
      · intro a W hS hd hk
        have h1 : tyS g w.heap.size (w.heap.size + 1) (.str) W (a.tmps.getD 86 undef) := hd ⟨5, .data⟩ (by simp) rfl _ rfl
        exact fl_lt1 rfl hS rfl rfl (Nat.le_refl _) h1
      · intro a W hS hd hk
        have h1 : tyS g w.heap.size (w.heap.size + 1) (.strs 1) W (a.tmps.getD 83 undef) := hd ⟨2, .data⟩ (by simp) rfl _ rfl
        have h2 : tyS g w.heap.size (w.heap.size + 1) (.strs 1) W (a.tmps.getD 87 undef) := hd ⟨6, .data⟩ (by simp) rfl _ rfl
        exact fl_sq rfl hS rfl rfl (by decide) (by decide) h1 h2
      · intro a W hS hd hk
        exact fl_mv (k := .str) (.inr rfl) hS rfl rfl ⟨⟨#[68]⟩, rfl, by decide⟩
      · intro a W hS hd hk
        have h1 : tyS g w.heap.size (w.heap.size + 1) (.sq) W (a.tmps.getD 88 undef) := hd ⟨7, .data⟩ (by simp) rfl _ rfl
        have h0 : a.tmps.getD 3 undef = .pointer (some ⟨w.heap.size, 0, none⟩) := hk 3 (not_dst (by rfl))
        exact fl_st rfl hS rfl (ksnr (by rfl) (by rfl) (by rfl)) h0 h1
    case hend =>
      intro a W hS hdf hk hdn
      obtain ⟨s, hs, hs2⟩ : tyS g w.heap.size (w.heap.size + 1) .str W (a.tmps.getD 2 undef) := hdn 8 _ rfl
      obtain ⟨x, y, L1, L2, hR, q1, q2, q3, q4, q5, q6⟩ : tyS g w.heap.size (w.heap.size + 1) .res W undef := hdn 9 _ rfl
      have e3 : a.tmps.getD 3 undef = .pointer (some ⟨w.heap.size, 0, none⟩) := hk 3 (not_dst (by rfl))
      go_wp2_with fail
      refine bodyPost_ret (results_tmp_cell_row rfl a.tmps W w.heap.size _ #[x, y] (0, 0) _ e3 hR Tryz.underlying63 rfl hinfo) (hdf.trans rfl) ?_
      exact ⟨s, x, y, L1, L2, by rw [hs], OwnS.strs q1, OwnS.strs q4, q2, q5, q3, q6, hS.src, hS.only⟩
  | 5, _ =>
    go_upto_region 16 with fail
    refine wp_region_flow (TT g w.heap.size (w.heap.size + 1) [.lit 3, .src, .int 3, .addr, .str, .nd 3, .nd 3, .nd 7, .nd 8, .str, .strs 1, .nd 3, .nd 4, .str, .strs 1, .nd 3, .nd 4, .str, .strs 2, .sq, .str, .res]) (SK g w.heap.size (w.heap.size + 1) cv N w _) (by kernel_rfl) HSK.out.drew9 (by rfl) (by kernel_rfl) (by decide) (by rfl) ?hop ?hend
    case hop =>
      refine ⟨?_, ?_, ?_, ?_, ?_, ?_, ?_, ?_, ?_, ?_, ?_, ?_, ?_, ?_, ?_, ?_, ?_, ?_, ?_, ?_, ?_, ?_, trivial⟩
      · intro a W hS hd hk
        refine fl_lit (cs := #[.string ⟨#[75]⟩, .string ⟨#[84]⟩, .string ⟨#[83, 52]⟩]) ?_ hS rfl rfl ?_
        · unfold execOp
          go_simp
        · intro i hi
          match i, hi with
          | 0, _ => exact ⟨_, rfl, by decide⟩
          | 1, _ => exact ⟨_, rfl, by decide⟩
          | 2, _ => exact ⟨_, rfl, by decide⟩
      · intro a W hS hd hk
        have h1 : tyS g w.heap.size (w.heap.size + 1) .src W (a.tmps.getD 0 undef) := hk 0 (not_dst (by rfl))
        exact fl_mv (.inl rfl) hS rfl rfl h1
      · intro a W hS hd hk
        have h1 : tyS g w.heap.size (w.heap.size + 1) (.src) W (a.tmps.getD 92 undef) := hd ⟨1, .data⟩ (by simp) rfl _ rfl
        exact fl_next (n := 3) rfl EN hS rfl rfl (by omega) h1
      · intro a W hS hd hk
        have h1 : tyS g w.heap.size (w.heap.size + 1) (.lit 3) W (a.tmps.getD 91 undef) := hd ⟨0, .data⟩ (by simp) rfl _ rfl
        have h2 : tyS g w.heap.size (w.heap.size + 1) (.int 3) W (a.tmps.getD 93 undef) := hd ⟨2, .data⟩ (by simp) rfl _ rfl
        exact fl_ix (n := 3) rfl hS rfl rfl h1 h2
      · intro a W hS hd hk
        have h1 : tyS g w.heap.size (w.heap.size + 1) (.addr) W (a.tmps.getD 94 undef) := hd ⟨3, .data⟩ (by simp) rfl _ rfl
        exact fl_ld rfl hS rfl rfl h1
      · intro a W hS hd hk
        have h1 : tyS g w.heap.size (w.heap.size + 1) (.nd 3) W (a.tmps.getD 4 undef) := by rw [hk 4 (not_dst (by rfl))]; exact hS.vals (.nd 3, _) (by simp)
        exact fl_mv (.inl rfl) hS rfl rfl h1
      · intro a W hS hd hk
        have h1 : tyS g w.heap.size (w.heap.size + 1) (.nd 3) W (a.tmps.getD 5 undef) := by rw [hk 5 (not_dst (by rfl))]; exact hS.vals (.nd 3, _) (by simp)
        exact fl_mv (.inl rfl) hS rfl rfl h1
      · intro a W hS hd hk
        have h1 : tyS g w.heap.size (w.heap.size + 1) (.nd 3) W (a.tmps.getD 96 undef) := hd ⟨5, .data⟩ (by simp) rfl _ rfl
        have h2 : tyS g w.heap.size (w.heap.size + 1) (.nd 3) W (a.tmps.getD 97 undef) := hd ⟨6, .data⟩ (by simp) rfl _ rfl
        exact fl_pair (c := .or) rfl EPair hS rfl (fun _ _ => rfl) rfl (Nat.le_refl _) (by omega) h1 h2
      · intro a W hS hd hk
        have h1 : tyS g w.heap.size (w.heap.size + 1) (.nd 7) W (a.tmps.getD 98 undef) := hd ⟨7, .data⟩ (by simp) rfl _ rfl
        exact fl_pre (c := .dia) rfl EPre hS rfl (fun _ => rfl) rfl (Nat.le_refl _) (by omega) h1
      · intro a W hS hd hk
        have h1 : tyS g w.heap.size (w.heap.size + 1) (.nd 8) W (a.tmps.getD 99 undef) := hd ⟨8, .data⟩ (by simp) rfl _ rfl
        exact fl_text rfl EText hS rfl rfl (by omega) h1
      · intro a W hS hd hk
        have h1 : tyS g w.heap.size (w.heap.size + 1) (.str) W (a.tmps.getD 100 undef) := hd ⟨9, .data⟩ (by simp) rfl _ rfl
        exact fl_lt1 rfl hS rfl rfl (Nat.le_refl _) h1
      · intro a W hS hd hk
        have h1 : tyS g w.heap.size (w.heap.size + 1) (.nd 3) W (a.tmps.getD 4 undef) := by rw [hk 4 (not_dst (by rfl))]; exact hS.vals (.nd 3, _) (by simp)
        exact fl_mv (.inl rfl) hS rfl rfl h1
      · intro a W hS hd hk
        have h1 : tyS g w.heap.size (w.heap.size + 1) (.nd 3) W (a.tmps.getD 102 undef) := hd ⟨11, .data⟩ (by simp) rfl _ rfl
        exact fl_pre (c := .dia) rfl EPre hS rfl (fun _ => rfl) rfl (Nat.le_refl _) (by omega) h1
      · intro a W hS hd hk
        have h1 : tyS g w.heap.size (w.heap.size + 1) (.nd 4) W (a.tmps.getD 103 undef) := hd ⟨12, .data⟩ (by simp) rfl _ rfl
        exact fl_text rfl EText hS rfl rfl (by omega) h1
      · intro a W hS hd hk
        have h1 : tyS g w.heap.size (w.heap.size + 1) (.str) W (a.tmps.getD 104 undef) := hd ⟨13, .data⟩ (by simp) rfl _ rfl
        exact fl_lt1 rfl hS rfl rfl (Nat.le_refl _) h1
      · intro a W hS hd hk
        have h1 : tyS g w.heap.size (w.heap.size + 1) (.nd 3) W (a.tmps.getD 5 undef) := by rw [hk 5 (not_dst (by rfl))]; exact hS.vals (.nd 3, _) (by simp)
        exact fl_mv (.inl rfl) hS rfl rfl h1
      · intro a W hS hd hk
        have h1 : tyS g w.heap.size (w.heap.size + 1) (.nd 3) W (a.tmps.getD 106 undef) := hd ⟨15, .data⟩ (by simp) rfl _ rfl
        exact fl_pre (c := .dia) rfl EPre hS rfl (fun _ => rfl) rfl (Nat.le_refl _) (by omega) h1
      · intro a W hS hd hk
        have h1 : tyS g w.heap.size (w.heap.size + 1) (.nd 4) W (a.tmps.getD 107 undef) := hd ⟨16, .data⟩ (by simp) rfl _ rfl
        exact fl_text rfl EText hS rfl rfl (by omega) h1
      · intro a W hS hd hk
        have h1 : tyS g w.heap.size (w.heap.size + 1) (.strs 1) W (a.tmps.getD 105 undef) := hd ⟨14, .data⟩ (by simp) rfl _ rfl
        have h2 : tyS g w.heap.size (w.heap.size + 1) (.str) W (a.tmps.getD 108 undef) := hd ⟨17, .data⟩ (by simp) rfl _ rfl
        exact fl_ins (n := 1) rfl EIns hS rfl rfl (Nat.le_refl _) (by omega) h1 h2
      · intro a W hS hd hk
        have h1 : tyS g w.heap.size (w.heap.size + 1) (.strs 1) W (a.tmps.getD 101 undef) := hd ⟨10, .data⟩ (by simp) rfl _ rfl
        have h2 : tyS g w.heap.size (w.heap.size + 1) (.strs 2) W (a.tmps.getD 109 undef) := hd ⟨18, .data⟩ (by simp) rfl _ rfl
        exact fl_sq rfl hS rfl rfl (by decide) (by decide) h1 h2
      · intro a W hS hd hk
        have h1 : tyS g w.heap.size (w.heap.size + 1) (.str) W (a.tmps.getD 95 undef) := hd ⟨4, .data⟩ (by simp) rfl _ rfl
        exact fl_mv (.inr rfl) hS rfl rfl h1
      · intro a W hS hd hk
        have h1 : tyS g w.heap.size (w.heap.size + 1) (.sq) W (a.tmps.getD 110 undef) := hd ⟨19, .data⟩ (by simp) rfl _ rfl
        have h0 : a.tmps.getD 3 undef = .pointer (some ⟨w.heap.size, 0, none⟩) := hk 3 (not_dst (by rfl))
        exact fl_st rfl hS rfl (ksnr (by rfl) (by rfl) (by rfl)) h0 h1
    case hend =>
      intro a W hS hdf hk hdn
      obtain ⟨s, hs, hs2⟩ : tyS g w.heap.size (w.heap.size + 1) .str W (a.tmps.getD 2 undef) := hdn 20 _ rfl
      obtain ⟨x, y, L1, L2, hR, q1, q2, q3, q4, q5, q6⟩ : tyS g w.heap.size (w.heap.size + 1) .res W undef := hdn 21 _ rfl
      have e3 : a.tmps.getD 3 undef = .pointer (some ⟨w.heap.size, 0, none⟩) := hk 3 (not_dst (by rfl))
      go_wp2_with fail
      refine bodyPost_ret (results_tmp_cell_row rfl a.tmps W w.heap.size _ #[x, y] (0, 0) _ e3 hR Tryz.underlying63 rfl hinfo) (hdf.trans rfl) ?_
      exact ⟨s, x, y, L1, L2, by rw [hs], OwnS.strs q1, OwnS.strs q4, q2, q5, q3, q6, hS.src, hS.only⟩
  | 6, _ =>
    go_upto_region 17 with fail
    refine wp_region_flow (TT g w.heap.size (w.heap.size + 1) [.lit 3, .src, .int 3, .addr, .str, .strs 1, .nd 3, .nd 3, .nd 7, .nd 3, .nd 11, .str, .strs 1, .sq, .str, .res]) (SK g w.heap.size (w.heap.size + 1) cv N w _) (by kernel_rfl) HSK.out.drew9 (by rfl) (by kernel_rfl) (by decide) (by rfl) ?hop ?hend
    case hop =>
      refine ⟨?_, ?_, ?_, ?_, ?_, ?_, ?_, ?_, ?_, ?_, ?_, ?_, ?_, ?_, ?_, ?_, trivial⟩
      · intro a W hS hd hk
        refine fl_lit (cs := #[.string ⟨#[75]⟩, .string ⟨#[84]⟩, .string ⟨#[71, 76]⟩]) ?_ hS rfl rfl ?_
        · unfold execOp
          go_simp
        · intro i hi
          match i, hi with
          | 0, _ => exact ⟨_, rfl, by decide⟩
          | 1, _ => exact ⟨_, rfl, by decide⟩
          | 2, _ => exact ⟨_, rfl, by decide⟩
      · intro a W hS hd hk
        have h1 : tyS g w.heap.size (w.heap.size + 1) .src W (a.tmps.getD 0 undef) := hk 0 (not_dst (by rfl))
        exact fl_mv (.inl rfl) hS rfl rfl h1
      · intro a W hS hd hk
        have h1 : tyS g w.heap.size (w.heap.size + 1) (.src) W (a.tmps.getD 112 undef) := hd ⟨1, .data⟩ (by simp) rfl _ rfl
        exact fl_next (n := 3) rfl EN hS rfl rfl (by omega) h1
      · intro a W hS hd hk
        have h1 : tyS g w.heap.size (w.heap.size + 1) (.lit 3) W (a.tmps.getD 111 undef) := hd ⟨0, .data⟩ (by simp) rfl _ rfl
        have h2 : tyS g w.heap.size (w.heap.size + 1) (.int 3) W (a.tmps.getD 113 undef) := hd ⟨2, .data⟩ (by simp) rfl _ rfl
        exact fl_ix (n := 3) rfl hS rfl rfl h1 h2
      · intro a W hS hd hk
        have h1 : tyS g w.heap.size (w.heap.size + 1) (.addr) W (a.tmps.getD 114 undef) := hd ⟨3, .data⟩ (by simp) rfl _ rfl
        exact fl_ld rfl hS rfl rfl h1
      · intro a W hS hd hk
        exact fl_lit0 (by unfold execOp; go_simp) hS rfl rfl
      · intro a W hS hd hk
        have h1 : tyS g w.heap.size (w.heap.size + 1) (.nd 3) W (a.tmps.getD 4 undef) := by rw [hk 4 (not_dst (by rfl))]; exact hS.vals (.nd 3, _) (by simp)
        exact fl_mv (.inl rfl) hS rfl rfl h1
      · intro a W hS hd hk
        have h1 : tyS g w.heap.size (w.heap.size + 1) (.nd 3) W (a.tmps.getD 5 undef) := by rw [hk 5 (not_dst (by rfl))]; exact hS.vals (.nd 3, _) (by simp)
        exact fl_mv (.inl rfl) hS rfl rfl h1
      · intro a W hS hd hk
        have h1 : tyS g w.heap.size (w.heap.size + 1) (.nd 3) W (a.tmps.getD 117 undef) := hd ⟨6, .data⟩ (by simp) rfl _ rfl
        have h2 : tyS g w.heap.size (w.heap.size + 1) (.nd 3) W (a.tmps.getD 118 undef) := hd ⟨7, .data⟩ (by simp) rfl _ rfl
        exact fl_pair (c := .and) rfl EPair hS rfl (fun _ _ => rfl) rfl (Nat.le_refl _) (by omega) h1 h2
      · intro a W hS hd hk
        have h1 : tyS g w.heap.size (w.heap.size + 1) (.nd 3) W (a.tmps.getD 4 undef) := by rw [hk 4 (not_dst (by rfl))]; exact hS.vals (.nd 3, _) (by simp)
        exact fl_mv (.inl rfl) hS rfl rfl h1
      · intro a W hS hd hk
        have h1 : tyS g w.heap.size (w.heap.size + 1) (.nd 7) W (a.tmps.getD 119 undef) := hd ⟨8, .data⟩ (by simp) rfl _ rfl
        have h2 : tyS g w.heap.size (w.heap.size + 1) (.nd 3) W (a.tmps.getD 120 undef) := hd ⟨9, .data⟩ (by simp) rfl _ rfl
        exact fl_pair (c := .imp) rfl EPair hS rfl (fun _ _ => rfl) rfl (Nat.le_refl _) (by omega) h1 h2
      · intro a W hS hd hk
        have h1 : tyS g w.heap.size (w.heap.size + 1) (.nd 11) W (a.tmps.getD 121 undef) := hd ⟨10, .data⟩ (by simp) rfl _ rfl
        exact fl_text rfl EText hS rfl rfl (by omega) h1
      · intro a W hS hd hk
        have h1 : tyS g w.heap.size (w.heap.size + 1) (.str) W (a.tmps.getD 122 undef) := hd ⟨11, .data⟩ (by simp) rfl _ rfl
        exact fl_lt1 rfl hS rfl rfl (Nat.le_refl _) h1
      · intro a W hS hd hk
        have h1 : tyS g w.heap.size (w.heap.size + 1) (.strs 1) W (a.tmps.getD 116 undef) := hd ⟨5, .data⟩ (by simp) rfl _ rfl
        have h2 : tyS g w.heap.size (w.heap.size + 1) (.strs 1) W (a.tmps.getD 123 undef) := hd ⟨12, .data⟩ (by simp) rfl _ rfl
        exact fl_sq rfl hS rfl rfl (by decide) (by decide) h1 h2
      · intro a W hS hd hk
        have h1 : tyS g w.heap.size (w.heap.size + 1) (.str) W (a.tmps.getD 115 undef) := hd ⟨4, .data⟩ (by simp) rfl _ rfl
        exact fl_mv (.inr rfl) hS rfl rfl h1
      · intro a W hS hd hk
        have h1 : tyS g w.heap.size (w.heap.size + 1) (.sq) W (a.tmps.getD 124 undef) := hd ⟨13, .data⟩ (by simp) rfl _ rfl
        have h0 : a.tmps.getD 3 undef = .pointer (some ⟨w.heap.size, 0, none⟩) := hk 3 (not_dst (by rfl))
        exact fl_st rfl hS rfl (ksnr (by rfl) (by rfl) (by rfl)) h0 h1
    case hend =>
      intro a W hS hdf hk hdn
      obtain ⟨s, hs, hs2⟩ : tyS g w.heap.size (w.heap.size + 1) .str W (a.tmps.getD 2 undef) := hdn 14 _ rfl
      obtain ⟨x, y, L1, L2, hR, q1, q2, q3, q4, q5, q6⟩ : tyS g w.heap.size (w.heap.size + 1) .res W undef := hdn 15 _ rfl
      have e3 : a.tmps.getD 3 undef = .pointer (some ⟨w.heap.size, 0, none⟩) := hk 3 (not_dst (by rfl))
      go_wp2_with fail
      refine bodyPost_ret (results_tmp_cell_row rfl a.tmps W w.heap.size _ #[x, y] (0, 0) _ e3 hR Tryz.underlying63 rfl hinfo) (hdf.trans rfl) ?_
      exact ⟨s, x, y, L1, L2, by rw [hs], OwnS.strs q1, OwnS.strs q4, q2, q5, q3, q6, hS.src, hS.only⟩
end Go.Proofs.YtopjgcbhjhhlfaaGreat


/- The laws' text of a mark: one text for each number. -/
namespace Go.Proofs.YtopjgcbhjhhlfaaGreat
open Go.RowKit

end Go.Proofs.YtopjgcbhjhhlfaaGreat


/- The laws' marks on lists of strings. -/
namespace Go.Proofs.YtopjgcbhjhhlfaaGreat
open Go.RowKit

end Go.Proofs.YtopjgcbhjhhlfaaGreat


/- The laws' marks on a sequent of texts. -/
namespace Go.Proofs.YtopjgcbhjhhlfaaGreat
open Go.RowKit

end Go.Proofs.YtopjgcbhjhhlfaaGreat


/- The laws' own helpers on slices of nodes: eqNode, eqNodeS. -/
namespace Go.Proofs.YtopjgcbhjhhlfaaGreat
open Go.RowKit
open Fm (Nd)

end Go.Proofs.YtopjgcbhjhhlfaaGreat


/- The laws' own helpers on slices of nodes: markNodeS, heldNodeS. -/
namespace Go.Proofs.YtopjgcbhjhhlfaaGreat
open Go.RowKit
open Fm (Nd)

end Go.Proofs.YtopjgcbhjhhlfaaGreat


/- The law FnExactSequentFormula, walked. -/
namespace Go.Proofs.YtopjgcbhjhhlfaaGreat
open Go.RowKit
open Fm (Nd)

theorem lim_len (xs : List Nd) : (lim xs).1.length ≤ 40 := by
  unfold lim
  split
  · assumption
  · simp
theorem sfF_len (L1 L2 : List ByteArray) : (sfF L1 L2).1.length ≤ 40 := by
  unfold sfF
  split
  · exact lim_len _
  · simp

end Go.Proofs.YtopjgcbhjhhlfaaGreat


/- DrawIsValidInAlgebra of the reference. -/
namespace Go.Proofs.YtopjgcbhjhhlfaaGreat
open Go.RowKit
open Fm (Nd)

def DvDrawn (w : World) (e : Ending) (w' : World) : Prop := ∃ (sz : Int) (Av : Option Addr) (lv cw : Nat) (u : Value) (xs : List Nd), e = .returned (.tuple #[.agg #[.int .i64 sz, .slice Av lv cw], u]) ∧ Nodes w' u xs ∧ xs.length ≤ 1000 ∧ Grew w w'
def SX (g : Nat) (cv : Value) (N : Nat) (wq : World) (r : Nat) (W : World) : Prop := ∃ W0, SO g cv N wq W0 ∧ Only r W0 W
theorem sx_of {g : Nat} {cv : Value} {N : Nat} {wq : World} {r : Nat} {W : World} (h : SO g cv N wq W) : SX g cv N wq r W := ⟨W, h, Only.refl _ _⟩
theorem sx_set {g : Nat} {cv : Value} {N : Nat} {wq : World} {r : Nat} {W : World} (h : SO g cv N wq W) (x y : Value) : SX g cv N wq r ((W.setCell ⟨r, 0, none⟩ x).setCell ⟨r, 1, none⟩ y) := ⟨W, h, ((Only.refl _ _).setCell _).setCell _⟩
set_option maxRecDepth 100000 in
set_option maxHeartbeats 4000000 in
theorem drawValid_c (cv : Value) (N : Nat) (w : World) (h : ArgB w cv N) (hN : N ≤ 4096) :
    Calls Tryz.prog 13 #[cv] w (DvDrawn w) := by
  have hinfo : (Tryz.prog.info? 26).map (·.size) = some 2 := by kernel_rfl
  have HF := Lib.hid (fun W (hW : Grew w W) => l01From_c cv N W (h.grew hW) hN)
  have HB0 := Lib.hid (blk_new w (.cells #[.int .i64 0, .slice none 0 0] 26))
  have hg0 := (Grew.refl w).alloc (.cells #[.int .i64 0, .slice none 0 0] 26)
  have hsz0 : (w.alloc (.cells #[.int .i64 0, .slice none 0 0] 26)).heap.size = w.heap.size + 1 := by simp
  have HSZ := Lib.hid hsz0
  obtain ⟨w0, hw0⟩ : ∃ w0, w0 = w.alloc (.cells #[.int .i64 0, .slice none 0 0] 26) := ⟨_, rfl⟩
  rw [← hw0] at HB0 HSZ hg0
  clear h hsz0
  go_enter Tryz.func13, Tryz.ntmps13
  go_wp2_with fail
  simp only [← hw0]
  clear hw0
  refine (HF.out _ hg0).mono ?_
  rintro e w1 ⟨g, rfl, hgw, hS1, hg1⟩
  have HS1 := Lib.hid hS1
  clear hS1 HF
  go_wp2_with fail
  refine (so_next g cv N w1 4 (by omega) w1 ⟨HS1.out, Only.refl _ _⟩).mono ?_
  rintro e w2 ⟨r4, rfl, hr4, hSO2, ho2⟩
  have hm4 : IntKind.i64.wrap (1 + (r4 : Int)) = ((1 + r4 : Nat) : Int) := by rw [IntKind.wrap_i64]; omega
  have HS2 := Lib.hid hSO2.1
  have hgl := HS1.out.lt
  clear hSO2
  go_wp2_with fail
  refine (l15Draw_c g cv N (1 + r4) (by omega) w2 HS2.out).mono ?_
  rintro e w3 ⟨v3, sz, L, rfl, hL0, hl1, hlk, hS3, ho3⟩
  obtain ⟨A, c, rfl⟩ := ints_slice hL0.ints
  have hga := (Grew.refl w3).alloc (.cells #[.int .i64 sz, .slice A L.length c] 26)
  have hbx := blk_new w3 (.cells #[.int .i64 sz, .slice A L.length c] 26)
  have hsa : (w3.alloc (.cells #[.int .i64 sz, .slice A L.length c] 26)).heap.size = w3.heap.size + 1 := by simp
  have hU2 := (hg1.only.trans ho2).trans ho3
  have hR2 := (hga.block (k := w.heap.size) (by have := hU2.size; have := HSZ.out; omega)).trans ((hU2.block (k := w.heap.size) (by have := HSZ.out; omega) (by have := HSZ.out; omega)).trans HB0.out)
  obtain ⟨w3b, hw3b⟩ : ∃ w3b, w3b = w3.alloc (.cells #[.int .i64 sz, .slice A L.length c] 26) := ⟨_, rfl⟩
  rw [← hw3b] at hga hbx hsa hR2
  have hG : Grew w w3b := (hg0.trans ((hU2.grew hga).grew_of (Grew.refl w0) hgw))
  have hrb : w.heap.size < w3b.heap.size := blk_lt hR2
  have hw3g : g < w3.heap.size := Nat.lt_of_lt_of_le (Nat.lt_of_lt_of_le hgl ho2.size) ho3.size
  have hrg : g ≠ w.heap.size := by have := HSZ.out; omega
  have hgw2 : w.heap.size ≤ g := by have := HSZ.out; omega
  have HDM := Lib.hid (fun W (hW : Only g w3b W) => show Grew w W ∧ W.heap[w.heap.size]? = some (.cells #[.int .i64 0, .slice none 0 0] 26 (0, 0)) ∧ W.heap[w3.heap.size]? = some (.cells #[.int .i64 sz, .slice A L.length c] 26 (0, 0)) from
    ⟨hW.grew_of hG hgw2, (hW.block hrb hrg.symm).trans hR2, (hW.block (by omega) (by omega)).trans hbx⟩)
  have HS3 := Lib.hid (hS3.grew hga)
  have hzb : w.heap.size + 1 ≤ w3b.heap.size := hrb
  clear hga hbx hR2 hS3 hU2 hL0 hG ho2 ho3 HS2 hm4
  go_wp2_with fail
  simp only [← hw3b]
  clear hw3b
  refine (so_next g cv N w3b 2 (by omega) w3b ⟨HS3.out, Only.refl _ _⟩).mono ?_
  rintro e w5 ⟨r5, rfl, hr5, hSO5, ho5⟩
  have HW5 := Lib.hid ho5
  have HS5 := Lib.hid hSO5.1
  clear hSO5 ho5
  match r5, hr5 with
  | 0, _ =>
    go_wp2_with fail
    refine (l11Known_c g cv N w5 HS5.out).mono ?_
    rintro e w6 ⟨s, x, y, L1, L2, rfl, hx, hy, f1, f2, hn1, hn2, hS6, ho6⟩
    have hW6 := HW5.out.trans ho6
    obtain ⟨Ax, cx, rfl⟩ := strs_slice hx
    obtain ⟨Ay, cy, rfl⟩ := strs_slice hy
    have hga := (Grew.refl w6).alloc (.cells #[.slice Ax L1.length cx, .slice Ay L2.length cy] 63)
    have hbx := blk_new w6 (.cells #[.slice Ax L1.length cx, .slice Ay L2.length cy] 63)
    obtain ⟨w7, hw7⟩ : ∃ w7, w7 = w6.alloc (.cells #[.slice Ax L1.length cx, .slice Ay L2.length cy] 63) := ⟨_, rfl⟩
    rw [← hw7] at hga hbx
    have KSF := Lib.hid (specSF_c _ _ L1 L2 w7 (hx.grew hga) (hy.grew hga) f1 f2 (by omega) (by omega))
    have HS7 := Lib.hid (hS6.grew hga)
    have HW7 := Lib.hid (hW6.grew hga)
    have e0 : w7.cell? ⟨w6.heap.size, 0, none⟩ = some (.slice Ax L1.length cx) := by rw [blk_cell hbx]; rfl
    have e1 : w7.cell? ⟨w6.heap.size, 1, none⟩ = some (.slice Ay L2.length cy) := by rw [blk_cell hbx]; rfl
    have hlen := sfF_len L1 L2
    generalize sfF L1 L2 = rr at *
    obtain ⟨xs, cc⟩ := rr
    clear hx hy f1 f2 hn1 hn2 hS6 ho6 hW6 hga hbx HS5 HW5
    generalize L1.length = n1 at *
    generalize L2.length = n2 at *
    go_wp2_with fail
    simp only [← hw7]
    clear hw7
    refine KSF.out.mono ?_
    rintro e w8 ⟨u8, rfl, hO8, hg8⟩
    have HO8 := Lib.hid (own_base hO8 (show w.heap.size + 1 ≤ _ by have := HW7.out.size; omega))
    have HS8 := Lib.hid (HS7.out.grew hg8)
    have hWz := HW7.out.grew hg8
    obtain ⟨A8, c8, rfl⟩ := nodes_slice hO8.nodes
    clear hO8 HS7 HW7 hg8 KSF e0 e1
    replace hlen : xs.length ≤ 1000 := Nat.le_trans hlen (by omega)
    by_cases hcc : cc = 0
    · subst hcc
      obtain ⟨hGz, hRz, hXz⟩ := HDM.out w8 hWz
      have q0 : (w8).cell? ⟨w.heap.size, 0, none⟩ = some (.int .i64 0) := by rw [blk_cell hRz]; rfl
      have q1 : (w8).cell? ⟨w.heap.size, 1, none⟩ = some (.slice none 0 0) := by rw [blk_cell hRz]; rfl
      have qf0 := blk_frozen hRz 0
      have qf1 := blk_frozen hRz 1
      have d0 : (w8).cell? ⟨w3.heap.size, 0, none⟩ = some (.int .i64 sz) := by rw [blk_cell hXz]; rfl
      have d1 : (w8).cell? ⟨w3.heap.size, 1, none⟩ = some (.slice A L.length c) := by rw [blk_cell hXz]; rfl
      have HRZ := Lib.hid hRz
      have HGZ := Lib.hid hGz
      clear hRz hXz hGz
      go_wp2_with fail
      (try simp only [Exit.inBlock, Exit.then])
      refine bodyPost_ret (results_cell_tmp_rowA rfl _ _ w.heap.size _ _ _ _ rfl (blk_set (blk_set HRZ.out 0 (.int .i64 sz)) 1 (.slice A L.length c)) Tryz.underlying26 rfl hinfo) rfl ?_
      have hk : Only w.heap.size (w8) (((w8).setCell ⟨w.heap.size, 0, none⟩ (.int .i64 sz)).setCell ⟨w.heap.size, 1, none⟩ (.slice A L.length c)) := ((Only.refl _ _).setCell _).setCell _
      have hz := HSZ.out
      exact ⟨sz, _, _, _, _, _, rfl, Own.nodes (own_only HO8.out hk (fun hh => by have := own_of_ge HO8.out hh; omega)), hlen, hk.grew_of HGZ.out (Nat.le_refl _)⟩
    · have hcf : (cc == 0) = false := by simpa using hcc
      have hcf2 : (cc = 0) = False := eq_false hcc
      have HSq := HS8
      have hWq := hWz
      clear hcc hlen hWz HO8 HS8
      have hsod : SO g cv N w8 w8.drew := ⟨HSq.out.grew (Grew.refl w8).drew, (Only.refl g w8).drew⟩
      have hdd : SX g cv N w8 w.heap.size w8.drew := sx_of hsod
      have hpr : w3.heap.size ≠ w.heap.size := by omega
      have d0 : ∀ W, SX g cv N w8 w.heap.size W → W.cell? ⟨w3.heap.size, 0, none⟩ = some (.int .i64 sz) := fun W ⟨W0, h1, h2⟩ => by
        obtain ⟨_, _, hX⟩ := HDM.out W0 (hWq.trans h1.2)
        rw [blk_cell ((h2.block (blk_lt hX) hpr).trans hX)]; rfl
      have d1 : ∀ W, SX g cv N w8 w.heap.size W → W.cell? ⟨w3.heap.size, 1, none⟩ = some (.slice A L.length c) := fun W ⟨W0, h1, h2⟩ => by
        obtain ⟨_, _, hX⟩ := HDM.out W0 (hWq.trans h1.2)
        rw [blk_cell ((h2.block (blk_lt hX) hpr).trans hX)]; rfl
      have hzq : w.heap.size + 1 ≤ w8.heap.size := by have := hWq.size; omega
      go_upto_region 8 with fail
      refine wp_region_held_drew (S := fun w' => SX g cv N w8 w.heap.size w') (by kernel_rfl) hdd (fun hHeld => ?_)
      refine wpAnyH_take (i := 0) (oi := ?on1) (v := ?vn1) ?hin1 ?an1 ?bn1 ?cn1 ?qn1 (Or.inl ⟨?dn1, ?hyn1⟩) hHeld ?restn1
      case hin1 => (simp only [List.getElem?_toArray, List.getElem?_cons_zero]; exact rfl)
      case an1 => kernel_rfl
      case bn1 => kernel_rfl
      case cn1 => kernel_rfl
      case qn1 => exact fun _ _ _ h => h
      case dn1 => rfl
      case hyn1 => (intro z hSw; (try dsimp only at hSw); go_simp; (try with_reducible rfl))
      try simp only [Act.put, List.setIfInBounds_toArray, List.set_cons_zero, List.set_cons_succ]
      refine wpAnyH_take (i := 1) (oi := ?on2) (v := ?vn2) ?hin2 ?an2 ?bn2 ?cn2 ?qn2 (Or.inl ⟨?dn2, ?hyn2⟩) hHeld ?restn2
      case hin2 => (simp only [List.getElem?_toArray, List.getElem?_cons_succ, List.getElem?_cons_zero]; exact rfl)
      case an2 => kernel_rfl
      case bn2 => kernel_rfl
      case cn2 => kernel_rfl
      case qn2 => exact fun _ _ _ h => h
      case dn2 => rfl
      case hyn2 => (intro z hSw; (try dsimp only at hSw); go_simp; (try with_reducible rfl))
      try simp only [Act.put, List.setIfInBounds_toArray, List.set_cons_zero, List.set_cons_succ]
      refine wpAnyH_take (i := 2) (oi := ?on3) (v := ?vn3) ?hin3 ?an3 ?bn3 ?cn3 ?qn3 (Or.inl ⟨?dn3, ?hyn3⟩) hHeld ?restn3
      case hin3 => (simp only [List.getElem?_toArray, List.getElem?_cons_succ, List.getElem?_cons_zero]; exact rfl)
      case an3 => kernel_rfl
      case bn3 => kernel_rfl
      case cn3 => kernel_rfl
      case qn3 => exact fun _ _ _ h => h
      case dn3 => rfl
      case hyn3 => (intro z hSw; (try dsimp only at hSw); go_simp; (try with_reducible rfl))
      try simp only [Act.put, List.setIfInBounds_toArray, List.set_cons_zero, List.set_cons_succ]
      refine wpAnyH_take (i := 5) (oi := ?on4) (v := ?vn4) ?hin4 ?an4 ?bn4 ?cn4 ?qn4 (Or.inl ⟨?dn4, ?hyn4⟩) hHeld ?restn4
      case hin4 => (simp only [List.getElem?_toArray, List.getElem?_cons_succ, List.getElem?_cons_zero]; exact rfl)
      case an4 => kernel_rfl
      case bn4 => kernel_rfl
      case cn4 => kernel_rfl
      case qn4 => exact fun _ _ _ h => h
      case dn4 => rfl
      case hyn4 => (intro z hSw; (try dsimp only at hSw); go_simp; (try with_reducible rfl))
      try simp only [Act.put, List.setIfInBounds_toArray, List.set_cons_zero, List.set_cons_succ]
      refine wpAnyH_ready (rs := [3]) (by kernel_rfl) (by simp) ?_
      refine AllReadyH.cons (o := ?on5) ?hin5 ?restn5 AllReadyH.nil
      case hin5 => (simp only [List.getElem?_toArray, List.getElem?_cons_succ, List.getElem?_cons_zero]; exact rfl)
      intro K hK
      go_simp
      go_at_call 21
      refine (so_next g cv N w8 10 (by omega) _ hsod).mono ?_
      rintro e x1 ⟨rx1, rfl, hrx1, hx1, -⟩
      have hmx1 : IntKind.i64.wrap (2 + (rx1 : Int)) = 2 + (rx1 : Int) := by rw [IntKind.wrap_i64]; omega
      refine hK.out _ _ ?_ (fun hHeld => ?_)
      · (try dsimp only); first | with_reducible assumption | exact sx_of hx1
      clear hK K
      try simp only [Act.put, List.setIfInBounds_toArray, List.set_cons_zero, List.set_cons_succ]
      refine wpAnyH_take (i := 4) (oi := ?on6) (v := ?vn6) ?hin6 ?an6 ?bn6 ?cn6 ?qn6 (Or.inl ⟨?dn6, ?hyn6⟩) hHeld ?restn6
      case hin6 => (simp only [List.getElem?_toArray, List.getElem?_cons_succ, List.getElem?_cons_zero]; exact rfl)
      case an6 => kernel_rfl
      case bn6 => kernel_rfl
      case cn6 => kernel_rfl
      case qn6 => exact fun _ _ _ h => h
      case dn6 => rfl
      case hyn6 => (intro z hSw; (try dsimp only at hSw); go_simp; (try with_reducible rfl))
      try simp only [Act.put, List.setIfInBounds_toArray, List.set_cons_zero, List.set_cons_succ]
      refine wpAnyH_ready (rs := [6]) (by kernel_rfl) (by simp) ?_
      refine AllReadyH.cons (o := ?on7) ?hin7 ?restn7 AllReadyH.nil
      case hin7 => (simp only [List.getElem?_toArray, List.getElem?_cons_succ, List.getElem?_cons_zero]; exact rfl)
      intro K hK
      go_simp
      go_at_call 21
      refine (so_next g cv N w8 4 (by omega) _ hx1).mono ?_
      rintro e x2 ⟨rx2, rfl, hrx2, hx2, -⟩
      have hmx2 : IntKind.i64.wrap (1 + (rx2 : Int)) = 1 + (rx2 : Int) := by rw [IntKind.wrap_i64]; omega
      refine hK.out _ _ ?_ (fun hHeld => ?_)
      · (try dsimp only); first | with_reducible assumption | exact sx_of hx2
      clear hK K
      try simp only [Act.put, List.setIfInBounds_toArray, List.set_cons_zero, List.set_cons_succ]
      refine wpAnyH_take (i := 7) (oi := ?on8) (v := ?vn8) ?hin8 ?an8 ?bn8 ?cn8 ?qn8 (Or.inl ⟨?dn8, ?hyn8⟩) hHeld ?restn8
      case hin8 => (simp only [List.getElem?_toArray, List.getElem?_cons_succ, List.getElem?_cons_zero]; exact rfl)
      case an8 => kernel_rfl
      case bn8 => kernel_rfl
      case cn8 => kernel_rfl
      case qn8 => exact fun _ _ _ h => h
      case dn8 => rfl
      case hyn8 => (intro z hSw; (try dsimp only at hSw); go_simp; (try with_reducible rfl))
      try simp only [Act.put, List.setIfInBounds_toArray, List.set_cons_zero, List.set_cons_succ]
      refine wpAnyH_ready (rs := [8]) (by kernel_rfl) (by simp) ?_
      refine AllReadyH.cons (o := ?on9) ?hin9 ?restn9 AllReadyH.nil
      case hin9 => (simp only [List.getElem?_toArray, List.getElem?_cons_succ, List.getElem?_cons_zero]; exact rfl)
      intro K hK
      go_simp
      go_at_call 40
      refine (l02Any_g g cv N (2 + (rx1 : Int)) (1 + (rx2 : Int)) (by omega) (by omega) (by omega) (by omega) _ hx2.1).mono ?_
      rintro e x3 ⟨u5, xs, rfl, hO5, hl5, hS5, ho5⟩
      have hx3 : SO g cv N w8 x3 := ⟨hS5, hx2.2.trans ho5⟩
      have HO5 := Lib.hid (own_base hO5 (show w.heap.size + 1 ≤ _ by have := hx2.2.size; omega))
      have hWz : Only g w3b x3 := hWq.trans hx3.2
      obtain ⟨A5, c5, rfl⟩ := nodes_slice hO5.nodes
      obtain ⟨hGz, hRz, hXz⟩ := HDM.out x3 hWz
      have q0 : x3.cell? ⟨w.heap.size, 0, none⟩ = some (.int .i64 0) := by rw [blk_cell hRz]; rfl
      have q1 : x3.cell? ⟨w.heap.size, 1, none⟩ = some (.slice none 0 0) := by rw [blk_cell hRz]; rfl
      have qf0 := blk_frozen hRz 0
      have qf1 := blk_frozen hRz 1
      have HRZ := Lib.hid hRz
      have HGZ := Lib.hid hGz
      clear hRz hXz hGz hO5
      refine hK.out _ _ ?_ (fun hHeld => ?_)
      · (try dsimp only); first | with_reducible assumption | exact sx_of hx3
      clear hK K
      try simp only [Act.put, List.setIfInBounds_toArray, List.set_cons_zero, List.set_cons_succ]
      refine wpAnyH_ready (rs := [9]) (by kernel_rfl) (by simp) ?_
      refine AllReadyH.cons (o := ?on10) ?hin10 ?restn10 AllReadyH.nil
      case hin10 => (simp only [List.getElem?_toArray, List.getElem?_cons_succ, List.getElem?_cons_zero]; exact rfl)
      intro K hK
      go_simp
      refine hK.out _ _ ?_ (fun hHeld => ?_)
      · (try dsimp only); first | with_reducible assumption | exact sx_set hx3 _ _
      clear hK K
      try simp only [Act.put, List.setIfInBounds_toArray, List.set_cons_zero, List.set_cons_succ]
      refine wpAnyH_take (i := 10) (oi := ?on11) (v := ?vn11) ?hin11 ?an11 ?bn11 ?cn11 ?qn11 (Or.inl ⟨?dn11, ?hyn11⟩) hHeld ?restn11
      case hin11 => (simp only [List.getElem?_toArray, List.getElem?_cons_succ, List.getElem?_cons_zero]; exact rfl)
      case an11 => kernel_rfl
      case bn11 => kernel_rfl
      case cn11 => kernel_rfl
      case qn11 => exact fun _ _ _ h => h
      case dn11 => rfl
      case hyn11 => (intro z hSw; (try dsimp only at hSw); go_simp; (try with_reducible rfl))
      try simp only [Act.put, List.setIfInBounds_toArray, List.set_cons_zero, List.set_cons_succ]
      refine wpAnyH_done (by kernel_rfl) ?_ _
      go_wp2_with fail
      (try simp only [Exit.inBlock, Exit.then])
      refine bodyPost_ret (results_cell_tmp_rowA rfl _ _ w.heap.size _ _ _ _ rfl (blk_set (blk_set HRZ.out 0 (.int .i64 sz)) 1 (.slice A L.length c)) Tryz.underlying26 rfl hinfo) rfl ?_
      have hk : Only w.heap.size x3 ((x3.setCell ⟨w.heap.size, 0, none⟩ (.int .i64 sz)).setCell ⟨w.heap.size, 1, none⟩ (.slice A L.length c)) := ((Only.refl _ _).setCell _).setCell _
      have hz := HSZ.out
      exact ⟨sz, _, _, _, _, xs, rfl, Own.nodes (own_only HO5.out hk (fun hh => by have := own_of_ge HO5.out hh; omega)), by omega, hk.grew_of HGZ.out (Nat.le_refl _)⟩
  | 1, _ =>
    have HSq := HS5
    have hWq := HW5.out
    clear HS5 HW5
    have hsod : SO g cv N w5 w5.drew := ⟨HSq.out.grew (Grew.refl w5).drew, (Only.refl g w5).drew⟩
    have hdd : SX g cv N w5 w.heap.size w5.drew := sx_of hsod
    have hpr : w3.heap.size ≠ w.heap.size := by omega
    have d0 : ∀ W, SX g cv N w5 w.heap.size W → W.cell? ⟨w3.heap.size, 0, none⟩ = some (.int .i64 sz) := fun W ⟨W0, h1, h2⟩ => by
      obtain ⟨_, _, hX⟩ := HDM.out W0 (hWq.trans h1.2)
      rw [blk_cell ((h2.block (blk_lt hX) hpr).trans hX)]; rfl
    have d1 : ∀ W, SX g cv N w5 w.heap.size W → W.cell? ⟨w3.heap.size, 1, none⟩ = some (.slice A L.length c) := fun W ⟨W0, h1, h2⟩ => by
      obtain ⟨_, _, hX⟩ := HDM.out W0 (hWq.trans h1.2)
      rw [blk_cell ((h2.block (blk_lt hX) hpr).trans hX)]; rfl
    have hzq : w.heap.size + 1 ≤ w5.heap.size := by have := hWq.size; omega
    go_upto_region 8 with fail
    refine wp_region_held_drew (S := fun w' => SX g cv N w5 w.heap.size w') (by kernel_rfl) hdd (fun hHeld => ?_)
    refine wpAnyH_take (i := 0) (oi := ?on12) (v := ?vn12) ?hin12 ?an12 ?bn12 ?cn12 ?qn12 (Or.inl ⟨?dn12, ?hyn12⟩) hHeld ?restn12
    case hin12 => (simp only [List.getElem?_toArray, List.getElem?_cons_zero]; exact rfl)
    case an12 => kernel_rfl
    case bn12 => kernel_rfl
    case cn12 => kernel_rfl
    case qn12 => exact fun _ _ _ h => h
    case dn12 => rfl
    case hyn12 => (intro z hSw; (try dsimp only at hSw); go_simp; (try with_reducible rfl))
    try simp only [Act.put, List.setIfInBounds_toArray, List.set_cons_zero, List.set_cons_succ]
    refine wpAnyH_take (i := 1) (oi := ?on13) (v := ?vn13) ?hin13 ?an13 ?bn13 ?cn13 ?qn13 (Or.inl ⟨?dn13, ?hyn13⟩) hHeld ?restn13
    case hin13 => (simp only [List.getElem?_toArray, List.getElem?_cons_succ, List.getElem?_cons_zero]; exact rfl)
    case an13 => kernel_rfl
    case bn13 => kernel_rfl
    case cn13 => kernel_rfl
    case qn13 => exact fun _ _ _ h => h
    case dn13 => rfl
    case hyn13 => (intro z hSw; (try dsimp only at hSw); go_simp; (try with_reducible rfl))
    try simp only [Act.put, List.setIfInBounds_toArray, List.set_cons_zero, List.set_cons_succ]
    refine wpAnyH_take (i := 2) (oi := ?on14) (v := ?vn14) ?hin14 ?an14 ?bn14 ?cn14 ?qn14 (Or.inl ⟨?dn14, ?hyn14⟩) hHeld ?restn14
    case hin14 => (simp only [List.getElem?_toArray, List.getElem?_cons_succ, List.getElem?_cons_zero]; exact rfl)
    case an14 => kernel_rfl
    case bn14 => kernel_rfl
    case cn14 => kernel_rfl
    case qn14 => exact fun _ _ _ h => h
    case dn14 => rfl
    case hyn14 => (intro z hSw; (try dsimp only at hSw); go_simp; (try with_reducible rfl))
    try simp only [Act.put, List.setIfInBounds_toArray, List.set_cons_zero, List.set_cons_succ]
    refine wpAnyH_take (i := 5) (oi := ?on15) (v := ?vn15) ?hin15 ?an15 ?bn15 ?cn15 ?qn15 (Or.inl ⟨?dn15, ?hyn15⟩) hHeld ?restn15
    case hin15 => (simp only [List.getElem?_toArray, List.getElem?_cons_succ, List.getElem?_cons_zero]; exact rfl)
    case an15 => kernel_rfl
    case bn15 => kernel_rfl
    case cn15 => kernel_rfl
    case qn15 => exact fun _ _ _ h => h
    case dn15 => rfl
    case hyn15 => (intro z hSw; (try dsimp only at hSw); go_simp; (try with_reducible rfl))
    try simp only [Act.put, List.setIfInBounds_toArray, List.set_cons_zero, List.set_cons_succ]
    refine wpAnyH_ready (rs := [3]) (by kernel_rfl) (by simp) ?_
    refine AllReadyH.cons (o := ?on16) ?hin16 ?restn16 AllReadyH.nil
    case hin16 => (simp only [List.getElem?_toArray, List.getElem?_cons_succ, List.getElem?_cons_zero]; exact rfl)
    intro K hK
    go_simp
    go_at_call 21
    refine (so_next g cv N w5 10 (by omega) _ hsod).mono ?_
    rintro e x1 ⟨rx1, rfl, hrx1, hx1, -⟩
    have hmx1 : IntKind.i64.wrap (2 + (rx1 : Int)) = 2 + (rx1 : Int) := by rw [IntKind.wrap_i64]; omega
    refine hK.out _ _ ?_ (fun hHeld => ?_)
    · (try dsimp only); first | with_reducible assumption | exact sx_of hx1
    clear hK K
    try simp only [Act.put, List.setIfInBounds_toArray, List.set_cons_zero, List.set_cons_succ]
    refine wpAnyH_take (i := 4) (oi := ?on17) (v := ?vn17) ?hin17 ?an17 ?bn17 ?cn17 ?qn17 (Or.inl ⟨?dn17, ?hyn17⟩) hHeld ?restn17
    case hin17 => (simp only [List.getElem?_toArray, List.getElem?_cons_succ, List.getElem?_cons_zero]; exact rfl)
    case an17 => kernel_rfl
    case bn17 => kernel_rfl
    case cn17 => kernel_rfl
    case qn17 => exact fun _ _ _ h => h
    case dn17 => rfl
    case hyn17 => (intro z hSw; (try dsimp only at hSw); go_simp; (try with_reducible rfl))
    try simp only [Act.put, List.setIfInBounds_toArray, List.set_cons_zero, List.set_cons_succ]
    refine wpAnyH_ready (rs := [6]) (by kernel_rfl) (by simp) ?_
    refine AllReadyH.cons (o := ?on18) ?hin18 ?restn18 AllReadyH.nil
    case hin18 => (simp only [List.getElem?_toArray, List.getElem?_cons_succ, List.getElem?_cons_zero]; exact rfl)
    intro K hK
    go_simp
    go_at_call 21
    refine (so_next g cv N w5 4 (by omega) _ hx1).mono ?_
    rintro e x2 ⟨rx2, rfl, hrx2, hx2, -⟩
    have hmx2 : IntKind.i64.wrap (1 + (rx2 : Int)) = 1 + (rx2 : Int) := by rw [IntKind.wrap_i64]; omega
    refine hK.out _ _ ?_ (fun hHeld => ?_)
    · (try dsimp only); first | with_reducible assumption | exact sx_of hx2
    clear hK K
    try simp only [Act.put, List.setIfInBounds_toArray, List.set_cons_zero, List.set_cons_succ]
    refine wpAnyH_take (i := 7) (oi := ?on19) (v := ?vn19) ?hin19 ?an19 ?bn19 ?cn19 ?qn19 (Or.inl ⟨?dn19, ?hyn19⟩) hHeld ?restn19
    case hin19 => (simp only [List.getElem?_toArray, List.getElem?_cons_succ, List.getElem?_cons_zero]; exact rfl)
    case an19 => kernel_rfl
    case bn19 => kernel_rfl
    case cn19 => kernel_rfl
    case qn19 => exact fun _ _ _ h => h
    case dn19 => rfl
    case hyn19 => (intro z hSw; (try dsimp only at hSw); go_simp; (try with_reducible rfl))
    try simp only [Act.put, List.setIfInBounds_toArray, List.set_cons_zero, List.set_cons_succ]
    refine wpAnyH_ready (rs := [8]) (by kernel_rfl) (by simp) ?_
    refine AllReadyH.cons (o := ?on20) ?hin20 ?restn20 AllReadyH.nil
    case hin20 => (simp only [List.getElem?_toArray, List.getElem?_cons_succ, List.getElem?_cons_zero]; exact rfl)
    intro K hK
    go_simp
    go_at_call 40
    refine (l02Any_g g cv N (2 + (rx1 : Int)) (1 + (rx2 : Int)) (by omega) (by omega) (by omega) (by omega) _ hx2.1).mono ?_
    rintro e x3 ⟨u5, xs, rfl, hO5, hl5, hS5, ho5⟩
    have hx3 : SO g cv N w5 x3 := ⟨hS5, hx2.2.trans ho5⟩
    have HO5 := Lib.hid (own_base hO5 (show w.heap.size + 1 ≤ _ by have := hx2.2.size; omega))
    have hWz : Only g w3b x3 := hWq.trans hx3.2
    obtain ⟨A5, c5, rfl⟩ := nodes_slice hO5.nodes
    obtain ⟨hGz, hRz, hXz⟩ := HDM.out x3 hWz
    have q0 : x3.cell? ⟨w.heap.size, 0, none⟩ = some (.int .i64 0) := by rw [blk_cell hRz]; rfl
    have q1 : x3.cell? ⟨w.heap.size, 1, none⟩ = some (.slice none 0 0) := by rw [blk_cell hRz]; rfl
    have qf0 := blk_frozen hRz 0
    have qf1 := blk_frozen hRz 1
    have HRZ := Lib.hid hRz
    have HGZ := Lib.hid hGz
    clear hRz hXz hGz hO5
    refine hK.out _ _ ?_ (fun hHeld => ?_)
    · (try dsimp only); first | with_reducible assumption | exact sx_of hx3
    clear hK K
    try simp only [Act.put, List.setIfInBounds_toArray, List.set_cons_zero, List.set_cons_succ]
    refine wpAnyH_ready (rs := [9]) (by kernel_rfl) (by simp) ?_
    refine AllReadyH.cons (o := ?on21) ?hin21 ?restn21 AllReadyH.nil
    case hin21 => (simp only [List.getElem?_toArray, List.getElem?_cons_succ, List.getElem?_cons_zero]; exact rfl)
    intro K hK
    go_simp
    refine hK.out _ _ ?_ (fun hHeld => ?_)
    · (try dsimp only); first | with_reducible assumption | exact sx_set hx3 _ _
    clear hK K
    try simp only [Act.put, List.setIfInBounds_toArray, List.set_cons_zero, List.set_cons_succ]
    refine wpAnyH_take (i := 10) (oi := ?on22) (v := ?vn22) ?hin22 ?an22 ?bn22 ?cn22 ?qn22 (Or.inl ⟨?dn22, ?hyn22⟩) hHeld ?restn22
    case hin22 => (simp only [List.getElem?_toArray, List.getElem?_cons_succ, List.getElem?_cons_zero]; exact rfl)
    case an22 => kernel_rfl
    case bn22 => kernel_rfl
    case cn22 => kernel_rfl
    case qn22 => exact fun _ _ _ h => h
    case dn22 => rfl
    case hyn22 => (intro z hSw; (try dsimp only at hSw); go_simp; (try with_reducible rfl))
    try simp only [Act.put, List.setIfInBounds_toArray, List.set_cons_zero, List.set_cons_succ]
    refine wpAnyH_done (by kernel_rfl) ?_ _
    go_wp2_with fail
    (try simp only [Exit.inBlock, Exit.then])
    refine bodyPost_ret (results_cell_tmp_rowA rfl _ _ w.heap.size _ _ _ _ rfl (blk_set (blk_set HRZ.out 0 (.int .i64 sz)) 1 (.slice A L.length c)) Tryz.underlying26 rfl hinfo) rfl ?_
    have hk : Only w.heap.size x3 ((x3.setCell ⟨w.heap.size, 0, none⟩ (.int .i64 sz)).setCell ⟨w.heap.size, 1, none⟩ (.slice A L.length c)) := ((Only.refl _ _).setCell _).setCell _
    have hz := HSZ.out
    exact ⟨sz, _, _, _, _, xs, rfl, Own.nodes (own_only HO5.out hk (fun hh => by have := own_of_ge HO5.out hh; omega)), by omega, hk.grew_of HGZ.out (Nat.le_refl _)⟩
end Go.Proofs.YtopjgcbhjhhlfaaGreat


/- isHomomorphism and IsHomomorphism of the program, at an embedding. -/
namespace Go.Proofs.YtopjgcbhjhhlfaaGreat
open Go.RowKit

structure Emb (k n : Nat) (SB B S : List Nat) : Prop where
  k5 : k ≤ 5
  n5 : n ≤ 5
  lS : S.length = 2 ^ k
  lSB : SB.length = 2 ^ k
  lB : B.length = 2 ^ n
  sb : ∀ x, x < 2 ^ k → nt SB x < 2 ^ k
  st : ∀ x, x < 2 ^ k → nt S x < 2 ^ n
  cp : ∀ x, x < 2 ^ k → nt S (cpl k x) = cpl n (nt S x)
  bx : ∀ x, x < 2 ^ k → nt S (nt SB x) = nt B (nt S x)
  an : ∀ x y, x < 2 ^ k → y < 2 ^ k → nt S (x &&& y) = nt S x &&& nt S y
theorem cells_ints {w : World} {v : Value} {L : List Nat} {m : Nat} (h : Ints w v (zs L)) (hl : L.length = m) (hm : 0 < m) : ∃ b o c, v = .slice (some ⟨b, o, none⟩) m c ∧ ∀ i, i < m → ∀ W, Grew w W → W.cell? ⟨b, o + i, none⟩ = some (.int .i64 ((nt L i : Nat) : Int)) := by
  rcases h.open_ with ⟨_, hnil⟩ | ⟨bu, ou, cu, hu2, hcu, hmu, hbu, hfu⟩
  · rw [← List.length_eq_zero_iff, zs_len] at hnil; omega
  rw [zs_len, hl] at hu2 hfu
  exact ⟨bu, ou, cu, hu2, fun i hi W hW => by rw [hfu i hi W hW, zs_it (by rw [hl]; exact hi)]⟩
set_option maxHeartbeats 4000000 in
set_option maxRecDepth 20000 in
theorem isHom_c (k n : Nat) (vm va vi : Value) (SB B S : List Nat) (w : World) (hm : Ints w vm (zs SB)) (ha : Ints w va (zs B)) (hi : Ints w vi (zs S)) (hE : Emb k n SB B S) :
    Calls Tryz.prog 37 #[.agg #[.int .i64 (k : Int), vm], .agg #[.int .i64 (n : Int), va], vi] w fun e w' => e = .returned (.bool true) ∧ Grew w w' := by
  have hk5 := hE.k5
  have hn5 := hE.n5
  have hP32 : 2 ^ k ≤ 32 := Nat.le_trans (Nat.pow_le_pow_right (by omega) hk5) (by decide)
  have hQ32 : 2 ^ n ≤ 32 := Nat.le_trans (Nat.pow_le_pow_right (by omega) hn5) (by decide)
  have hP0 : 0 < 2 ^ k := Nat.pow_pos (by omega)
  have hQ0 : 0 < 2 ^ n := Nat.pow_pos (by omega)
  have KF1 := Lib.hid (fun W => alFull_c k vm W (by obtain ⟨a, c, e⟩ := ints_slice hm; exact ⟨_, _, _, e⟩) (by omega))
  have KF2 := Lib.hid (fun W => alFull_c n va W (by obtain ⟨a, c, e⟩ := ints_slice ha; exact ⟨_, _, _, e⟩) (by omega))
  have hfk := full_lt k
  have hfn := full_lt n
  have HAK := Lib.hid (fun (x : Nat) (hx : x < 2 ^ k) => show bits .andNot .i64 ((full k : Nat) : Int) (x : Int) = ((cpl k x : Nat) : Int) from andNot_i64 (full k) x (by omega) (by omega))
  have HAN := Lib.hid (fun (x : Nat) (hx : x < 2 ^ n) => show bits .andNot .i64 ((full n : Nat) : Int) (x : Int) = ((cpl n x : Nat) : Int) from andNot_i64 (full n) x (by omega) (by omega))
  have HCK := Lib.hid (fun x => cpl_lt k x)
  have HSB := Lib.hid hE.sb
  have HST := Lib.hid hE.st
  have HCP := Lib.hid hE.cp
  have HBX := Lib.hid hE.bx
  have HAND := Lib.hid hE.an
  obtain ⟨bm, om, cm, rfl, hcm⟩ := cells_ints hm hE.lSB hP0
  obtain ⟨ba, oa, ca, rfl, hca⟩ := cells_ints ha hE.lB hQ0
  obtain ⟨bi, oi, ci, rfl, hci⟩ := cells_ints hi hE.lS hP0
  have HG := Lib.hid (((Grew.refl w).alloc (.cells #[.int .i64 (k : Int), .slice (some ⟨bm, om, none⟩) (2 ^ k) cm] 26)).alloc (.cells #[.int .i64 (n : Int), .slice (some ⟨ba, oa, none⟩) (2 ^ n) ca] 26))
  have y0 : ∀ W, Grew ((w.alloc (.cells #[.int .i64 (k : Int), .slice (some ⟨bm, om, none⟩) (2 ^ k) cm] 26)).alloc (.cells #[.int .i64 (n : Int), .slice (some ⟨ba, oa, none⟩) (2 ^ n) ca] 26)) W → W.heap[w.heap.size]? = some (.cells #[.int .i64 (k : Int), .slice (some ⟨bm, om, none⟩) (2 ^ k) cm] 26 (0, 0)) :=
    fun W hW => ((((Grew.refl (w.alloc (.cells #[.int .i64 (k : Int), .slice (some ⟨bm, om, none⟩) (2 ^ k) cm] 26))).alloc (.cells #[.int .i64 (n : Int), .slice (some ⟨ba, oa, none⟩) (2 ^ n) ca] 26)).trans hW).block (by simp)).trans (blk_new w _)
  have y1 : ∀ W, Grew ((w.alloc (.cells #[.int .i64 (k : Int), .slice (some ⟨bm, om, none⟩) (2 ^ k) cm] 26)).alloc (.cells #[.int .i64 (n : Int), .slice (some ⟨ba, oa, none⟩) (2 ^ n) ca] 26)) W → W.heap[w.heap.size + 1]? = some (.cells #[.int .i64 (n : Int), .slice (some ⟨ba, oa, none⟩) (2 ^ n) ca] 26 (0, 0)) :=
    fun W hW => (hW.block (by simp)).trans (by
      have h := blk_new (w.alloc (.cells #[.int .i64 (k : Int), .slice (some ⟨bm, om, none⟩) (2 ^ k) cm] 26)) (.cells #[.int .i64 (n : Int), .slice (some ⟨ba, oa, none⟩) (2 ^ n) ca] 26)
      have e : (w.alloc (.cells #[.int .i64 (k : Int), .slice (some ⟨bm, om, none⟩) (2 ^ k) cm] 26)).heap.size = w.heap.size + 1 := by simp
      rwa [e] at h)
  obtain ⟨w1, hw1⟩ : ∃ w1, w1 = (w.alloc (.cells #[.int .i64 (k : Int), .slice (some ⟨bm, om, none⟩) (2 ^ k) cm] 26)).alloc (.cells #[.int .i64 (n : Int), .slice (some ⟨ba, oa, none⟩) (2 ^ n) ca] 26) := ⟨_, rfl⟩
  rw [← hw1] at y0 y1 HG
  have c0 : ∀ W, Grew w1 W → W.cell? ⟨w.heap.size, 0, none⟩ = some (.int .i64 (k : Int)) := fun W hW => by rw [blk_cell (y0 W hW)]; rfl
  have c1 : ∀ W, Grew w1 W → W.cell? ⟨w.heap.size, 1, none⟩ = some (.slice (some ⟨bm, om, none⟩) (2 ^ k) cm) := fun W hW => by rw [blk_cell (y0 W hW)]; rfl
  have c2 : ∀ W, Grew w1 W → W.cell? ⟨w.heap.size + 1, 0, none⟩ = some (.int .i64 (n : Int)) := fun W hW => by rw [blk_cell (y1 W hW)]; rfl
  have c3 : ∀ W, Grew w1 W → W.cell? ⟨w.heap.size + 1, 1, none⟩ = some (.slice (some ⟨ba, oa, none⟩) (2 ^ n) ca) := fun W hW => by rw [blk_cell (y1 W hW)]; rfl
  have HM := Lib.hid (fun i (hi : i < 2 ^ k) W (hW : Grew w1 W) => hcm i hi W (HG.out.trans hW))
  have HB := Lib.hid (fun i (hi : i < 2 ^ n) W (hW : Grew w1 W) => hca i hi W (HG.out.trans hW))
  have HI := Lib.hid (fun i (hi : i < 2 ^ k) W (hW : Grew w1 W) => hci i hi W (HG.out.trans hW))
  clear hm ha hi hE hcm hca hci y0 y1 hfk hfn
  have r1 := Grew.refl w1
  generalize full k = Fk at *
  generalize full n = Fn at *
  generalize cpl k = ck at *
  generalize cpl n = cn at *
  generalize (2 : Nat) ^ k = P at *
  generalize (2 : Nat) ^ n = Q at *
  go_enter Tryz.func37, Tryz.ntmps37
  go_wp2_with fail
  simp only [← hw1]
  clear hw1
  go_wp2_with fail
  go_loopw [12] (fun i wr => ∃ x : Nat, x ≤ P ∧ i = .int .i64 (x : Int) ∧ Grew w1 wr) (fun i _ => P - (intOf i).toNat)
  case atStart => exact ⟨0, by omega, rfl, r1⟩
  case round =>
    obtain ⟨x, hx, rfl, hB⟩ := hrel
    by_cases hlt : x < P
    · have hsx := HST.out x hlt
      have hck := HCK.out x
      have hsb := HSB.out x hlt
      have a1 := HAK.out x hlt
      have a2 := HAN.out _ hsx
      have i1 := fun W (hW : Grew w1 W) => HI.out x hlt W hW
      have i2 := fun W (hW : Grew w1 W) => HI.out _ hck W hW
      have i3 := fun W (hW : Grew w1 W) => HI.out _ hsb W hW
      have i4 := fun W (hW : Grew w1 W) => HM.out x hlt W hW
      have i5 := fun W (hW : Grew w1 W) => HB.out _ hsx W hW
      rw [HCP.out x hlt] at i2
      rw [HBX.out x hlt] at i3
      have HAX := Lib.hid (fun y (hy : y < P) => HAND.out x y hlt hy)
      generalize nt B (nt S x) = z2 at *
      generalize cn (nt S x) = z1 at *
      generalize hsxe : nt S x = sx at *
      generalize nt SB x = sbx at *
      generalize ck x = ckx at *
      have j1 := i1 wr hB
      have e1 : ((z1 : Int) != (z1 : Int)) = false := by simp
      have e2 : ((z2 : Int) != (z2 : Int)) = false := by simp
      go_upto_region 4 with fail
      have hBd := hB.drew
      clear j1 i1
      refine wp_region_held_drew (S := fun w' => Grew w1 w') (by kernel_rfl) hBd (fun hHeld => ?_)
      refine wpAnyH_take (i := 0) (oi := ?on1) (v := ?vn1) ?hin1 ?an1 ?bn1 ?cn1 ?qn1 (Or.inl ⟨?dn1, ?hyn1⟩) hHeld ?restn1
      case hin1 => (simp only [List.getElem?_toArray, List.getElem?_cons_zero]; exact rfl)
      case an1 => kernel_rfl
      case bn1 => kernel_rfl
      case cn1 => kernel_rfl
      case qn1 => exact fun _ _ _ h => h
      case dn1 => rfl
      case hyn1 => (intro z hSw; (try dsimp only at hSw); go_simp; (try with_reducible rfl))
      try simp only [Act.put, List.setIfInBounds_toArray, List.set_cons_zero, List.set_cons_succ]
      refine wpAnyH_take (i := 1) (oi := ?on2) (v := ?vn2) ?hin2 ?an2 ?bn2 ?cn2 ?qn2 (Or.inl ⟨?dn2, ?hyn2⟩) hHeld ?restn2
      case hin2 => (simp only [List.getElem?_toArray, List.getElem?_cons_succ, List.getElem?_cons_zero]; exact rfl)
      case an2 => kernel_rfl
      case bn2 => kernel_rfl
      case cn2 => kernel_rfl
      case qn2 => exact fun _ _ _ h => h
      case dn2 => rfl
      case hyn2 => (intro z hSw; (try dsimp only at hSw); go_simp; (try with_reducible rfl))
      try simp only [Act.put, List.setIfInBounds_toArray, List.set_cons_zero, List.set_cons_succ]
      refine wpAnyH_take (i := 3) (oi := ?on3) (v := ?vn3) ?hin3 ?an3 ?bn3 ?cn3 ?qn3 (Or.inl ⟨?dn3, ?hyn3⟩) hHeld ?restn3
      case hin3 => (simp only [List.getElem?_toArray, List.getElem?_cons_succ, List.getElem?_cons_zero]; exact rfl)
      case an3 => kernel_rfl
      case bn3 => kernel_rfl
      case cn3 => kernel_rfl
      case qn3 => exact fun _ _ _ h => h
      case dn3 => rfl
      case hyn3 => (intro z hSw; (try dsimp only at hSw); go_simp; (try with_reducible rfl))
      try simp only [Act.put, List.setIfInBounds_toArray, List.set_cons_zero, List.set_cons_succ]
      refine wpAnyH_take (i := 7) (oi := ?on4) (v := ?vn4) ?hin4 ?an4 ?bn4 ?cn4 ?qn4 (Or.inl ⟨?dn4, ?hyn4⟩) hHeld ?restn4
      case hin4 => (simp only [List.getElem?_toArray, List.getElem?_cons_succ, List.getElem?_cons_zero]; exact rfl)
      case an4 => kernel_rfl
      case bn4 => kernel_rfl
      case cn4 => kernel_rfl
      case qn4 => exact fun _ _ _ h => h
      case dn4 => rfl
      case hyn4 => (intro z hSw; (try dsimp only at hSw); go_simp; (try with_reducible rfl))
      try simp only [Act.put, List.setIfInBounds_toArray, List.set_cons_zero, List.set_cons_succ]
      refine wpAnyH_take (i := 9) (oi := ?on5) (v := ?vn5) ?hin5 ?an5 ?bn5 ?cn5 ?qn5 (Or.inl ⟨?dn5, ?hyn5⟩) hHeld ?restn5
      case hin5 => (simp only [List.getElem?_toArray, List.getElem?_cons_succ, List.getElem?_cons_zero]; exact rfl)
      case an5 => kernel_rfl
      case bn5 => kernel_rfl
      case cn5 => kernel_rfl
      case qn5 => exact fun _ _ _ h => h
      case dn5 => rfl
      case hyn5 => (intro z hSw; (try dsimp only at hSw); go_simp; (try with_reducible rfl))
      try simp only [Act.put, List.setIfInBounds_toArray, List.set_cons_zero, List.set_cons_succ]
      refine wpAnyH_ready (rs := [2]) (by kernel_rfl) (by simp) ?_
      refine AllReadyH.cons (o := ?on6) ?hin6 ?restn6 AllReadyH.nil
      case hin6 => (simp only [List.getElem?_toArray, List.getElem?_cons_succ, List.getElem?_cons_zero]; exact rfl)
      intro K hK
      go_simp
      go_at_call 30
      refine (KF1.out _).mono ?_
      rintro e w2 ⟨rfl, hgw2⟩
      have h2 : Grew w1 w2 := hBd.trans hgw2
      refine hK.out _ _ ?_ (fun hHeld => ?_)
      · (try dsimp only); first | with_reducible assumption | exact Grew.alloc ‹_› _
      clear hK K
      try simp only [Act.put, List.setIfInBounds_toArray, List.set_cons_zero, List.set_cons_succ]
      refine wpAnyH_take (i := 4) (oi := ?on7) (v := ?vn7) ?hin7 ?an7 ?bn7 ?cn7 ?qn7 (Or.inl ⟨?dn7, ?hyn7⟩) hHeld ?restn7
      case hin7 => (simp only [List.getElem?_toArray, List.getElem?_cons_succ, List.getElem?_cons_zero]; exact rfl)
      case an7 => kernel_rfl
      case bn7 => kernel_rfl
      case cn7 => kernel_rfl
      case qn7 => exact fun _ _ _ h => h
      case dn7 => rfl
      case hyn7 => (intro z hSw; (try dsimp only at hSw); go_simp; (try with_reducible rfl))
      try simp only [Act.put, List.setIfInBounds_toArray, List.set_cons_zero, List.set_cons_succ]
      refine wpAnyH_take (i := 5) (oi := ?on8) (v := ?vn8) ?hin8 ?an8 ?bn8 ?cn8 ?qn8 (Or.inl ⟨?dn8, ?hyn8⟩) hHeld ?restn8
      case hin8 => (simp only [List.getElem?_toArray, List.getElem?_cons_succ, List.getElem?_cons_zero]; exact rfl)
      case an8 => kernel_rfl
      case bn8 => kernel_rfl
      case cn8 => kernel_rfl
      case qn8 => exact fun _ _ _ h => h
      case dn8 => rfl
      case hyn8 => (intro z hSw; (try dsimp only at hSw); go_simp; (try with_reducible rfl))
      try simp only [Act.put, List.setIfInBounds_toArray, List.set_cons_zero, List.set_cons_succ]
      refine wpAnyH_take (i := 6) (oi := ?on9) (v := ?vn9) ?hin9 ?an9 ?bn9 ?cn9 ?qn9 (Or.inl ⟨?dn9, ?hyn9⟩) hHeld ?restn9
      case hin9 => (simp only [List.getElem?_toArray, List.getElem?_cons_succ, List.getElem?_cons_zero]; exact rfl)
      case an9 => kernel_rfl
      case bn9 => kernel_rfl
      case cn9 => kernel_rfl
      case qn9 => exact fun _ _ _ h => h
      case dn9 => rfl
      case hyn9 => (intro z hSw; (try dsimp only at hSw); go_simp; (try with_reducible rfl))
      try simp only [Act.put, List.setIfInBounds_toArray, List.set_cons_zero, List.set_cons_succ]
      refine wpAnyH_ready (rs := [8]) (by kernel_rfl) (by simp) ?_
      refine AllReadyH.cons (o := ?on10) ?hin10 ?restn10 AllReadyH.nil
      case hin10 => (simp only [List.getElem?_toArray, List.getElem?_cons_succ, List.getElem?_cons_zero]; exact rfl)
      intro K hK
      go_simp
      go_at_call 30
      refine (KF2.out _).mono ?_
      rintro e w3 ⟨rfl, hgw3⟩
      have h3 : Grew w1 w3 := h2.trans hgw3
      refine hK.out _ _ ?_ (fun hHeld => ?_)
      · (try dsimp only); first | with_reducible assumption | exact Grew.alloc ‹_› _
      clear hK K
      try simp only [Act.put, List.setIfInBounds_toArray, List.set_cons_zero, List.set_cons_succ]
      refine wpAnyH_take (i := 10) (oi := ?on11) (v := ?vn11) ?hin11 ?an11 ?bn11 ?cn11 ?qn11 (Or.inl ⟨?dn11, ?hyn11⟩) hHeld ?restn11
      case hin11 => (simp only [List.getElem?_toArray, List.getElem?_cons_succ, List.getElem?_cons_zero]; exact rfl)
      case an11 => kernel_rfl
      case bn11 => kernel_rfl
      case cn11 => kernel_rfl
      case qn11 => exact fun _ _ _ h => h
      case dn11 => rfl
      case hyn11 => (intro z hSw; (try dsimp only at hSw); go_simp; (try with_reducible rfl))
      try simp only [Act.put, List.setIfInBounds_toArray, List.set_cons_zero, List.set_cons_succ]
      refine wpAnyH_take (i := 11) (oi := ?on12) (v := ?vn12) ?hin12 ?an12 ?bn12 ?cn12 ?qn12 (Or.inl ⟨?dn12, ?hyn12⟩) hHeld ?restn12
      case hin12 => (simp only [List.getElem?_toArray, List.getElem?_cons_succ, List.getElem?_cons_zero]; exact rfl)
      case an12 => kernel_rfl
      case bn12 => kernel_rfl
      case cn12 => kernel_rfl
      case qn12 => exact fun _ _ _ h => h
      case dn12 => rfl
      case hyn12 => (intro z hSw; (try dsimp only at hSw); go_simp; (try with_reducible rfl))
      try simp only [Act.put, List.setIfInBounds_toArray, List.set_cons_zero, List.set_cons_succ]
      refine wpAnyH_take (i := 12) (oi := ?on13) (v := ?vn13) ?hin13 ?an13 ?bn13 ?cn13 ?qn13 (Or.inl ⟨?dn13, ?hyn13⟩) hHeld ?restn13
      case hin13 => (simp only [List.getElem?_toArray, List.getElem?_cons_succ, List.getElem?_cons_zero]; exact rfl)
      case an13 => kernel_rfl
      case bn13 => kernel_rfl
      case cn13 => kernel_rfl
      case qn13 => exact fun _ _ _ h => h
      case dn13 => rfl
      case hyn13 => (intro z hSw; (try dsimp only at hSw); go_simp; (try with_reducible rfl))
      try simp only [Act.put, List.setIfInBounds_toArray, List.set_cons_zero, List.set_cons_succ]
      refine wpAnyH_take (i := 13) (oi := ?on14) (v := ?vn14) ?hin14 ?an14 ?bn14 ?cn14 ?qn14 (Or.inl ⟨?dn14, ?hyn14⟩) hHeld ?restn14
      case hin14 => (simp only [List.getElem?_toArray, List.getElem?_cons_succ, List.getElem?_cons_zero]; exact rfl)
      case an14 => kernel_rfl
      case bn14 => kernel_rfl
      case cn14 => kernel_rfl
      case qn14 => exact fun _ _ _ h => h
      case dn14 => rfl
      case hyn14 => (intro z hSw; (try dsimp only at hSw); go_simp; (try with_reducible rfl))
      try simp only [Act.put, List.setIfInBounds_toArray, List.set_cons_zero, List.set_cons_succ]
      refine wpAnyH_take (i := 14) (oi := ?on15) (v := ?vn15) ?hin15 ?an15 ?bn15 ?cn15 ?qn15 (Or.inl ⟨?dn15, ?hyn15⟩) hHeld ?restn15
      case hin15 => (simp only [List.getElem?_toArray, List.getElem?_cons_succ, List.getElem?_cons_zero]; exact rfl)
      case an15 => kernel_rfl
      case bn15 => kernel_rfl
      case cn15 => kernel_rfl
      case qn15 => exact fun _ _ _ h => h
      case dn15 => rfl
      case hyn15 => (intro z hSw; (try dsimp only at hSw); go_simp; (try with_reducible rfl))
      try simp only [Act.put, List.setIfInBounds_toArray, List.set_cons_zero, List.set_cons_succ]
      refine wpAnyH_take (i := 15) (oi := ?on16) (v := ?vn16) ?hin16 ?an16 ?bn16 ?cn16 ?qn16 (Or.inl ⟨?dn16, ?hyn16⟩) hHeld ?restn16
      case hin16 => (simp only [List.getElem?_toArray, List.getElem?_cons_succ, List.getElem?_cons_zero]; exact rfl)
      case an16 => kernel_rfl
      case bn16 => kernel_rfl
      case cn16 => kernel_rfl
      case qn16 => exact fun _ _ _ h => h
      case dn16 => rfl
      case hyn16 => (intro z hSw; (try dsimp only at hSw); go_simp; (try with_reducible rfl))
      try simp only [Act.put, List.setIfInBounds_toArray, List.set_cons_zero, List.set_cons_succ]
      refine wpAnyH_take (i := 16) (oi := ?on17) (v := ?vn17) ?hin17 ?an17 ?bn17 ?cn17 ?qn17 (Or.inl ⟨?dn17, ?hyn17⟩) hHeld ?restn17
      case hin17 => (simp only [List.getElem?_toArray, List.getElem?_cons_succ, List.getElem?_cons_zero]; exact rfl)
      case an17 => kernel_rfl
      case bn17 => kernel_rfl
      case cn17 => kernel_rfl
      case qn17 => exact fun _ _ _ h => h
      case dn17 => rfl
      case hyn17 => (intro z hSw; (try dsimp only at hSw); go_simp; (try with_reducible rfl))
      try simp only [Act.put, List.setIfInBounds_toArray, List.set_cons_zero, List.set_cons_succ]
      refine wpAnyH_take (i := 17) (oi := ?on18) (v := ?vn18) ?hin18 ?an18 ?bn18 ?cn18 ?qn18 (Or.inl ⟨?dn18, ?hyn18⟩) hHeld ?restn18
      case hin18 => (simp only [List.getElem?_toArray, List.getElem?_cons_succ, List.getElem?_cons_zero]; exact rfl)
      case an18 => kernel_rfl
      case bn18 => kernel_rfl
      case cn18 => kernel_rfl
      case qn18 => exact fun _ _ _ h => h
      case dn18 => rfl
      case hyn18 => (intro z hSw; (try dsimp only at hSw); go_simp; (try with_reducible rfl))
      try simp only [Act.put, List.setIfInBounds_toArray, List.set_cons_zero, List.set_cons_succ]
      refine wpAnyH_take (i := 18) (oi := ?on19) (v := ?vn19) ?hin19 ?an19 ?bn19 ?cn19 ?qn19 (Or.inl ⟨?dn19, ?hyn19⟩) hHeld ?restn19
      case hin19 => (simp only [List.getElem?_toArray, List.getElem?_cons_succ, List.getElem?_cons_zero]; exact rfl)
      case an19 => kernel_rfl
      case bn19 => kernel_rfl
      case cn19 => kernel_rfl
      case qn19 => exact fun _ _ _ h => h
      case dn19 => rfl
      case hyn19 => (intro z hSw; (try dsimp only at hSw); go_simp; (try with_reducible rfl))
      try simp only [Act.put, List.setIfInBounds_toArray, List.set_cons_zero, List.set_cons_succ]
      refine wpAnyH_take (i := 19) (oi := ?on20) (v := ?vn20) ?hin20 ?an20 ?bn20 ?cn20 ?qn20 (Or.inl ⟨?dn20, ?hyn20⟩) hHeld ?restn20
      case hin20 => (simp only [List.getElem?_toArray, List.getElem?_cons_succ, List.getElem?_cons_zero]; exact rfl)
      case an20 => kernel_rfl
      case bn20 => kernel_rfl
      case cn20 => kernel_rfl
      case qn20 => exact fun _ _ _ h => h
      case dn20 => rfl
      case hyn20 => (intro z hSw; (try dsimp only at hSw); go_simp; (try with_reducible rfl))
      try simp only [Act.put, List.setIfInBounds_toArray, List.set_cons_zero, List.set_cons_succ]
      refine wpAnyH_take (i := 20) (oi := ?on21) (v := ?vn21) ?hin21 ?an21 ?bn21 ?cn21 ?qn21 (Or.inl ⟨?dn21, ?hyn21⟩) hHeld ?restn21
      case hin21 => (simp only [List.getElem?_toArray, List.getElem?_cons_succ, List.getElem?_cons_zero]; exact rfl)
      case an21 => kernel_rfl
      case bn21 => kernel_rfl
      case cn21 => kernel_rfl
      case qn21 => exact fun _ _ _ h => h
      case dn21 => rfl
      case hyn21 => (intro z hSw; (try dsimp only at hSw); go_simp; (try with_reducible rfl))
      try simp only [Act.put, List.setIfInBounds_toArray, List.set_cons_zero, List.set_cons_succ]
      refine wpAnyH_take (i := 21) (oi := ?on22) (v := ?vn22) ?hin22 ?an22 ?bn22 ?cn22 ?qn22 (Or.inl ⟨?dn22, ?hyn22⟩) hHeld ?restn22
      case hin22 => (simp only [List.getElem?_toArray, List.getElem?_cons_succ, List.getElem?_cons_zero]; exact rfl)
      case an22 => kernel_rfl
      case bn22 => kernel_rfl
      case cn22 => kernel_rfl
      case qn22 => exact fun _ _ _ h => h
      case dn22 => rfl
      case hyn22 => (intro z hSw; (try dsimp only at hSw); go_simp; (try with_reducible rfl))
      try simp only [Act.put, List.setIfInBounds_toArray, List.set_cons_zero, List.set_cons_succ]
      refine wpAnyH_take (i := 22) (oi := ?on23) (v := ?vn23) ?hin23 ?an23 ?bn23 ?cn23 ?qn23 (Or.inl ⟨?dn23, ?hyn23⟩) hHeld ?restn23
      case hin23 => (simp only [List.getElem?_toArray, List.getElem?_cons_succ, List.getElem?_cons_zero]; exact rfl)
      case an23 => kernel_rfl
      case bn23 => kernel_rfl
      case cn23 => kernel_rfl
      case qn23 => exact fun _ _ _ h => h
      case dn23 => rfl
      case hyn23 => (intro z hSw; (try dsimp only at hSw); go_simp; (try with_reducible rfl))
      try simp only [Act.put, List.setIfInBounds_toArray, List.set_cons_zero, List.set_cons_succ]
      refine wpAnyH_take (i := 23) (oi := ?on24) (v := ?vn24) ?hin24 ?an24 ?bn24 ?cn24 ?qn24 (Or.inl ⟨?dn24, ?hyn24⟩) hHeld ?restn24
      case hin24 => (simp only [List.getElem?_toArray, List.getElem?_cons_succ, List.getElem?_cons_zero]; exact rfl)
      case an24 => kernel_rfl
      case bn24 => kernel_rfl
      case cn24 => kernel_rfl
      case qn24 => exact fun _ _ _ h => h
      case dn24 => rfl
      case hyn24 => (intro z hSw; (try dsimp only at hSw); go_simp; (try with_reducible rfl))
      try simp only [Act.put, List.setIfInBounds_toArray, List.set_cons_zero, List.set_cons_succ]
      refine wpAnyH_take (i := 24) (oi := ?on25) (v := ?vn25) ?hin25 ?an25 ?bn25 ?cn25 ?qn25 (Or.inl ⟨?dn25, ?hyn25⟩) hHeld ?restn25
      case hin25 => (simp only [List.getElem?_toArray, List.getElem?_cons_succ, List.getElem?_cons_zero]; exact rfl)
      case an25 => kernel_rfl
      case bn25 => kernel_rfl
      case cn25 => kernel_rfl
      case qn25 => exact fun _ _ _ h => h
      case dn25 => rfl
      case hyn25 => (intro z hSw; (try dsimp only at hSw); go_simp; (try with_reducible rfl))
      try simp only [Act.put, List.setIfInBounds_toArray, List.set_cons_zero, List.set_cons_succ]
      refine wpAnyH_take (i := 25) (oi := ?on26) (v := ?vn26) ?hin26 ?an26 ?bn26 ?cn26 ?qn26 (Or.inl ⟨?dn26, ?hyn26⟩) hHeld ?restn26
      case hin26 => (simp only [List.getElem?_toArray, List.getElem?_cons_succ, List.getElem?_cons_zero]; exact rfl)
      case an26 => kernel_rfl
      case bn26 => kernel_rfl
      case cn26 => kernel_rfl
      case qn26 => exact fun _ _ _ h => h
      case dn26 => rfl
      case hyn26 => (intro z hSw; (try dsimp only at hSw); go_simp; (try with_reducible rfl))
      try simp only [Act.put, List.setIfInBounds_toArray, List.set_cons_zero, List.set_cons_succ]
      refine wpAnyH_take (i := 26) (oi := ?on27) (v := ?vn27) ?hin27 ?an27 ?bn27 ?cn27 ?qn27 (Or.inl ⟨?dn27, ?hyn27⟩) hHeld ?restn27
      case hin27 => (simp only [List.getElem?_toArray, List.getElem?_cons_succ, List.getElem?_cons_zero]; exact rfl)
      case an27 => kernel_rfl
      case bn27 => kernel_rfl
      case cn27 => kernel_rfl
      case qn27 => exact fun _ _ _ h => h
      case dn27 => rfl
      case hyn27 => (intro z hSw; (try dsimp only at hSw); go_simp; (try with_reducible rfl))
      try simp only [Act.put, List.setIfInBounds_toArray, List.set_cons_zero, List.set_cons_succ]
      refine wpAnyH_take (i := 27) (oi := ?on28) (v := ?vn28) ?hin28 ?an28 ?bn28 ?cn28 ?qn28 (Or.inl ⟨?dn28, ?hyn28⟩) hHeld ?restn28
      case hin28 => (simp only [List.getElem?_toArray, List.getElem?_cons_succ, List.getElem?_cons_zero]; exact rfl)
      case an28 => kernel_rfl
      case bn28 => kernel_rfl
      case cn28 => kernel_rfl
      case qn28 => exact fun _ _ _ h => h
      case dn28 => rfl
      case hyn28 => (intro z hSw; (try dsimp only at hSw); go_simp; (try with_reducible rfl))
      try simp only [Act.put, List.setIfInBounds_toArray, List.set_cons_zero, List.set_cons_succ]
      refine wpAnyH_done (by kernel_rfl) ?_ _
      clear i2 i3 i4 i5 e1 e2
      go_wp2_with fail
      go_loopw [46] (fun i wr => ∃ y : Nat, y ≤ x ∧ i = .int .i64 (y : Int) ∧ Grew w1 wr) (fun i _ => x - (intOf i).toNat)
      case atStart => exact ⟨0, by omega, rfl, h3⟩
      case round =>
        obtain ⟨y, hy, rfl, hB2⟩ := hrel
        by_cases hly : y < x
        · have hyP : y < P := by omega
          have hxy : x &&& y < P := Nat.lt_of_le_of_lt Nat.and_le_left hlt
          have b1 := and_i64 x y (by omega) (by omega)
          have k1 := fun W (hW : Grew w1 W) => HI.out y hyP W hW
          have k2 := fun W (hW : Grew w1 W) => HI.out _ hxy W hW
          rw [HAX.out y hyP] at k2
          have hsy := HST.out y hyP
          have b2 := and_i64 sx (nt S y) (by omega) (by omega)
          have z1 : (0 : Int) ≤ ((x &&& y : Nat) : Int) := Int.natCast_nonneg _
          have z2 : ((x &&& y : Nat) : Int) < (P : Int) := Int.ofNat_lt.2 hxy
          generalize sx &&& nt S y = s3 at *
          generalize nt S y = sy at *
          generalize x &&& y = xy at *
          have q3 : ((s3 : Int) != (s3 : Int)) = false := by simp
          have q4 := k1 wr hB2
          have q5 := k2 wr hB2
          clear k1 k2
          go_wp2_with fail
          go_quiet (fail)
          go_wp2_with fail
          go_roundw
          case rel => exact ⟨y + 1, by omega, by go_num, hB2.drewN _⟩
          case measure => simp [intOf]; omega
        · obtain rfl : y = x := by omega
          go_wp2_with fail
          go_roundw
          case rel => exact ⟨y + 1, by omega, by go_num, hB2⟩
          case measure => simp [intOf]; omega
    · obtain rfl : x = P := by omega
      go_wp2_with fail
      go_ret
      exact ⟨rfl, HG.out.trans hB⟩
end Go.Proofs.YtopjgcbhjhhlfaaGreat


/- IsHomomorphism of the program, at what the elements of a subalgebra stand for. -/
namespace Go.Proofs.YtopjgcbhjhhlfaaGreat
open Go.RowKit

theorem and_small {a b k : Nat} (ha : a < 2 ^ k) : a &&& b < 2 ^ k := Nat.lt_of_le_of_lt Nat.and_le_left ha
theorem emb_stds {n : Nat} {B E : List Nat} (hA : Alg n B) (h : SubA n B E) : Emb (ats E).length n (sBx B E) B (stds E) := by
  obtain ⟨hm, hn⟩ := ats_small hA h
  have hn5 := hA.le
  refine ⟨by omega, hn5, stds_len, sBx_len, hA.len, fun x hx => sBx_lt hx, fun x hx => ?_, fun x hx => ?_, fun x hx => ?_, fun x y hx hy => ?_⟩
  · rw [stds_nt hx]; exact hst_lt h hm hx
  · rw [stds_nt (cpl_lt _ _), stds_nt hx]; exact hst_cpl h hm hx
  · rw [stds_nt (sBx_lt hx), stds_nt hx]; exact hst_box h hm hx
  · rw [stds_nt (and_small hx), stds_nt hx, stds_nt hy]
    exact hst_and h (Nat.lt_of_lt_of_le hx hm) (Nat.lt_of_lt_of_le hy hm) hx hy
set_option maxHeartbeats 4000000 in
set_option maxRecDepth 20000 in
theorem isHomX_c (k n : Nat) (vm va vi : Value) (SB B S : List Nat) (w : World) (hm : Ints w vm (zs SB)) (ha : Ints w va (zs B)) (hi : Ints w vi (zs S)) (hE : Emb k n SB B S) (hA1 : Alg k SB) (hA2 : Alg n B) :
    Calls Tryz.prog 11 #[.agg #[.int .i64 (k : Int), vm], .agg #[.int .i64 (n : Int), va], vi] w fun e w' => e = .returned (.tuple #[.bool true, .int .i64 0]) ∧ Grew w w' := by
  have hm1 : mks n (zs S) = true := by
    unfold mks
    rw [List.all_eq_true]
    intro z hz
    obtain ⟨x, hx, rfl⟩ := List.mem_map.1 hz
    obtain ⟨i, hi, rfl⟩ := List.getElem_of_mem hx
    have := hE.st i (by rw [← hE.lS]; exact hi)
    exact mk_yes (by rwa [show nt S i = S[i] by simp [nt, List.getD, hi]] at this)
  have hn5 := hE.n5
  have K1 := Lib.hid (fun W (hW : Grew w W) => isModalAlgebra_c (k : Int) vm (zs SB) W (hm.grew hW))
  have K2 := Lib.hid (fun W (hW : Grew w W) => isModalAlgebra_c (n : Int) va (zs B) W (ha.grew hW))
  rw [algB_of hA1] at K1
  rw [algB_of hA2] at K2
  have K3 := Lib.hid (fun W (hW : Grew w W) => areElements_c n va vi (zs S) W (by obtain ⟨a, c, e⟩ := ints_slice ha; exact ⟨_, _, _, e⟩) (by omega) (hi.grew hW))
  rw [hm1] at K3
  have K4 := Lib.hid (fun W (hW : Grew w W) => isHom_c k n vm va vi SB B S W (hm.grew hW) (ha.grew hW) (hi.grew hW) hE)
  obtain ⟨Am, cm, rfl⟩ := ints_slice hm
  obtain ⟨Aa, ca, rfl⟩ := ints_slice ha
  obtain ⟨Ai, ci, rfl⟩ := ints_slice hi
  rw [zs_len, hE.lSB] at *
  rw [zs_len, hE.lB] at *
  rw [zs_len, hE.lS] at *
  clear hm ha hi hE hA1 hA2 hm1
  generalize (2 : Nat) ^ k = P at *
  generalize (2 : Nat) ^ n = Q at *
  generalize (k : Int) = k at *
  generalize (n : Int) = n at *
  have HG := Lib.hid (((Grew.refl w).alloc (.cells #[.int .i64 k, .slice Am P cm] 26)).alloc (.cells #[.int .i64 n, .slice Aa Q ca] 26))
  have y0 : ∀ W, Grew ((w.alloc (.cells #[.int .i64 k, .slice Am P cm] 26)).alloc (.cells #[.int .i64 n, .slice Aa Q ca] 26)) W → W.heap[w.heap.size]? = some (.cells #[.int .i64 k, .slice Am P cm] 26 (0, 0)) :=
    fun W hW => ((((Grew.refl (w.alloc (.cells #[.int .i64 k, .slice Am P cm] 26))).alloc (.cells #[.int .i64 n, .slice Aa Q ca] 26)).trans hW).block (by simp)).trans (blk_new w _)
  have y1 : ∀ W, Grew ((w.alloc (.cells #[.int .i64 k, .slice Am P cm] 26)).alloc (.cells #[.int .i64 n, .slice Aa Q ca] 26)) W → W.heap[w.heap.size + 1]? = some (.cells #[.int .i64 n, .slice Aa Q ca] 26 (0, 0)) :=
    fun W hW => (hW.block (by simp)).trans (by
      have h := blk_new (w.alloc (.cells #[.int .i64 k, .slice Am P cm] 26)) (.cells #[.int .i64 n, .slice Aa Q ca] 26)
      have e : (w.alloc (.cells #[.int .i64 k, .slice Am P cm] 26)).heap.size = w.heap.size + 1 := by simp
      rwa [e] at h)
  obtain ⟨w1, hw1⟩ : ∃ w1, w1 = (w.alloc (.cells #[.int .i64 k, .slice Am P cm] 26)).alloc (.cells #[.int .i64 n, .slice Aa Q ca] 26) := ⟨_, rfl⟩
  rw [← hw1] at y0 y1 HG
  have c0 : ∀ W, Grew w1 W → W.cell? ⟨w.heap.size, 0, none⟩ = some (.int .i64 k) := fun W hW => by rw [blk_cell (y0 W hW)]; rfl
  have c1 : ∀ W, Grew w1 W → W.cell? ⟨w.heap.size, 1, none⟩ = some (.slice Am P cm) := fun W hW => by rw [blk_cell (y0 W hW)]; rfl
  have c2 : ∀ W, Grew w1 W → W.cell? ⟨w.heap.size + 1, 0, none⟩ = some (.int .i64 n) := fun W hW => by rw [blk_cell (y1 W hW)]; rfl
  have c3 : ∀ W, Grew w1 W → W.cell? ⟨w.heap.size + 1, 1, none⟩ = some (.slice Aa Q ca) := fun W hW => by rw [blk_cell (y1 W hW)]; rfl
  clear y0 y1
  have d0 := c0 _ (Grew.refl w1)
  have d1 := c1 _ (Grew.refl w1)
  have q0 : ((P : Int) != (P : Int)) = false := by simp
  go_enter Tryz.func11, Tryz.ntmps11
  go_wp2_with fail
  simp only [← hw1]
  clear hw1
  refine (K1.out _ HG.out).mono ?_
  rintro e w2 ⟨rfl, hg2⟩
  replace d0 := c2 _ hg2
  replace d1 := c3 _ hg2
  go_wp2_with fail
  refine (K2.out _ (HG.out.trans hg2)).mono ?_
  rintro e w3 ⟨rfl, hg3⟩
  have g3 := hg2.trans hg3
  replace d0 := c2 _ g3
  replace d1 := c3 _ g3
  have d3 := c1 _ g3
  go_wp2_with fail
  refine (K3.out _ (HG.out.trans g3)).mono ?_
  rintro e w4 ⟨rfl, hg4⟩
  have g4 := g3.trans hg4
  clear d3
  replace d0 := c2 _ g4
  replace d1 := c3 _ g4
  have d3 := c0 _ g4
  have d4 := c1 _ g4
  go_wp2_with fail
  refine (K4.out _ (HG.out.trans g4)).mono ?_
  rintro e w5 ⟨rfl, hg5⟩
  go_wp2_with fail
  go_ret2
  exact ⟨rfl, HG.out.trans (g4.trans hg5)⟩
end Go.Proofs.YtopjgcbhjhhlfaaGreat


/- FnModalSubalgebras, walked. -/
namespace Go.Proofs.YtopjgcbhjhhlfaaGreat
open Go.RowKit
open Fm (Nd Tree)

theorem hasV_enc {v : Nat} : ∀ {t : Tree}, hasV v t → ((0, (v : Int)) : Nd) ∈ Fm.enc t
  | .var u, h => by
    have : u.val = v := h
    subst this
    simp [Fm.enc]
  | .fls, h => h.elim
  | .and a b, h => by
    rcases h with h | h
    · simp [Fm.enc, hasV_enc h]
    · simp [Fm.enc, hasV_enc h]
  | .or a b, h => by
    rcases h with h | h
    · simp [Fm.enc, hasV_enc h]
    · simp [Fm.enc, hasV_enc h]
  | .imp a b, h => by
    rcases h with h | h
    · simp [Fm.enc, hasV_enc h]
    · simp [Fm.enc, hasV_enc h]
  | .box a, h => by
    have h' : hasV v a := h
    simp [Fm.enc, hasV_enc h']
  | .dia a, h => by
    have h' : hasV v a := h
    simp [Fm.enc, hasV_enc h']
theorem vm_lt9 (t : Tree) : vm (Fm.enc t) < 2 ^ 6 := by have := vmK_lt (vs_enc9 t) (Fm.enc t).length (Nat.le_refl _); unfold vm; exact this
theorem hasV_vars {v : Nat} {t : Tree} (h : hasV v t) : v ∈ mbs (vm (Fm.enc t)) := by
  have h6 := vm_lt9 t
  refine (mbs_mem (Nat.lt_trans h6 (by decide))).2 ?_
  unfold vm
  rw [vmK_bit]
  obtain ⟨i, hi, he⟩ := List.getElem_of_mem (hasV_enc h)
  obtain ⟨e1, e2⟩ := kd_get9 hi
  exact ⟨i, hi, by rw [e1, he], by rw [e2, he]; simp⟩
theorem subF_zero {n : Int} {L X : List Int} (h : (subF n L X).2.2.2 = 0) : ∃ M : Nat, n = (M : Int) ∧ Alg M (nats L) ∧ zs (nats L) = L ∧ zs (nats X) = X ∧ SubA M (nats L) (nats X) ∧ genL M (nats L) (nats X) = nats X ∧ subF n L X = (((ats (nats X)).length : Int), zs (sBx (nats L) (nats X)), zs (stds (nats X)), 0) := by
  cases hb : algB n L && mks n.toNat X with
  | false => rw [subF_bad hb] at h; exact absurd h (by decide)
  | true =>
    have hb' := hb
    rw [Bool.and_eq_true] at hb
    obtain ⟨M, rfl, hA, hz⟩ := algB_ok hb.1
    have hm := hb.2
    rw [Int.toNat_natCast] at hm
    obtain ⟨hx, hlt⟩ := mks_zs hm
    by_cases hg : zs (genL M (nats L) (nats X)) = X
    · have hg2 : genL M (nats L) (nats X) = nats X := zs_inj (hg.trans hx.symm)
      exact ⟨M, rfl, hA, hz, hx, sub_of hA hlt hg2, hg2, subF_yes hb' (by rw [Int.toNat_natCast]; exact hg)⟩
    · rw [subF_five hb' (by rw [Int.toNat_natCast]; exact hg)] at h
      exact absurd h (by decide)
theorem subF_len {n : Int} {L X : List Int} (hX : X.length ≤ 32) : (subF n L X).2.1.length ≤ 1000 ∧ (subF n L X).2.2.1.length ≤ 1000 := by
  by_cases h : (subF n L X).2.2.2 = 0
  · obtain ⟨M, rfl, hA, hz, hx, hS, hg, he⟩ := subF_zero h
    rw [he]
    obtain ⟨hm, hn⟩ := ats_small hA hS
    have h1 := sub_len hS hm
    have h2 : (nats X).length = X.length := by rw [← hx, zs_len, hx]
    constructor
    · show (zs _).length ≤ 1000
      rw [zs_len, sBx_len]; omega
    · show (zs _).length ≤ 1000
      rw [zs_len, stds_len]; omega
  · unfold subF at h ⊢
    split
    · split
      · rename_i h1 h2
        rw [if_pos h1, if_pos h2] at h
        exact absurd rfl h
      · exact ⟨Nat.zero_le _, Nat.zero_le _⟩
    · exact ⟨Nat.zero_le _, Nat.zero_le _⟩
theorem likeInts_same (v1 v2 : Value) (L : List Int) (w : World) (h1 : Ints w v1 L) (h2 : Ints w v2 L) (hn : L.length ≤ 1099511627776) :
    Calls Tryz.prog 9 #[v1, v2] w fun e w' => e = .returned (.bool true) ∧ Grew w w' := by
  rcases h1.open_ with ⟨rfl, rfl⟩ | ⟨b1, o1, c1, rfl, hc1, hm1, hb1, hf⟩
  · obtain ⟨A, c, rfl⟩ := ints_slice h2
    simp only [List.length_nil]
    go_enter Tryz.func9, Tryz.ntmps9
    go_wp2_with fail
    refine wp_loop_rounds 1 ?_; rw [rounds_succ]
    go_wp2_with fail
    go_ret
    exact ⟨rfl, Grew.refl _⟩
  rcases h2.open_ with ⟨rfl, h0⟩ | ⟨b2, o2, c2, rfl, hc2, hm2, hb2, hh⟩
  · subst h0
    simp only [List.length_nil]
    clear h1 h2 hf
    go_enter Tryz.func9, Tryz.ntmps9
    go_wp2_with fail
    refine wp_loop_rounds 1 ?_; rw [rounds_succ]
    go_wp2_with fail
    go_ret
    exact ⟨rfl, Grew.refl _⟩
  clear h1 h2
  have HF := Lib.hid hf
  have HH := Lib.hid hh
  clear hf hh
  generalize hN : L.length = n at *
  clear hN
  go_enter Tryz.func9, Tryz.ntmps9
  go_wp2_with fail
  go_loopg [5] n (fun k i wr => ∃ j : Nat, j ≤ n ∧ k = n - j ∧ i = .int .i64 j ∧ Grew w wr)
  case atStart => exact ⟨0, Nat.zero_le _, by omega, rfl, Grew.refl _⟩
  case round =>
    obtain ⟨j, hj, rfl, rfl, hB⟩ := hrel
    by_cases hlt : j < n
    · have k1 : ∀ W, Grew w W → W.cell? ⟨b1, o1 + j, none⟩ = some (.int .i64 (it L j)) := fun W hW => HF.out j hlt W hW
      have k3 : ∀ W, Grew w W → W.cell? ⟨b2, o2 + j, none⟩ = some (.int .i64 (it L j)) := fun W hW => HH.out j hlt W hW
      generalize it L j = z at *
      have hz : (z != z) = false := by simp
      go_wp2_with fail
      go_quiet (fail)
      go_wp2_with fail
      go_roundg (n - (j + 1))
      case measure => omega
      case rel => exact ⟨j + 1, by omega, rfl, by go_num, hB.drewN _⟩
    · obtain rfl : j = n := by omega
      go_wp2_with fail
      go_ret
      exact ⟨rfl, hB⟩
theorem alg_box (w : World) (a b : Value) : (∀ W, Grew (w.alloc (.cells #[a, b] 26)) W → W.cell? ⟨w.heap.size, 0, none⟩ = some a) ∧ ∀ W, Grew (w.alloc (.cells #[a, b] 26)) W → W.cell? ⟨w.heap.size, 1, none⟩ = some b :=
  ⟨fun W hW => (hW.cell (p := ⟨w.heap.size, 0, none⟩) (by simp)).trans (by simp), fun W hW => (hW.cell (p := ⟨w.heap.size, 1, none⟩) (by simp)).trans (by simp)⟩
set_option maxHeartbeats 1000000 in
theorem likeAlgebra_same (n : Int) (v1 v2 : Value) (L : List Int) (w : World) (h1 : Ints w v1 L) (h2 : Ints w v2 L) (hn : L.length ≤ 1099511627776) :
    Calls Tryz.prog 8 #[.agg #[.int .i64 n, v1], .agg #[.int .i64 n, v2]] w fun e w' => e = .returned (.bool true) ∧ Grew w w' := by
  have g1 := (Grew.refl w).alloc (.cells #[.int .i64 n, v1] 26)
  have g2 := g1.alloc (.cells #[.int .i64 n, v2] 26)
  have KL := Lib.hid (likeInts_same v1 v2 L _ (h1.grew g2) (h2.grew g2) hn)
  have HG := Lib.hid g2
  obtain ⟨A1, c1, rfl⟩ := ints_slice h1
  obtain ⟨A2, c2, rfl⟩ := ints_slice h2
  clear h1 h2 g1 g2
  generalize L.length = l at *
  go_enter Tryz.func8, Tryz.ntmps8
  go_wp2_with fail
  refine KL.out.mono ?_
  rintro e w3 ⟨rfl, hg3⟩
  go_wp2_with fail
  go_ret
  exact ⟨rfl, HG.out.trans hg3⟩
set_option maxHeartbeats 8000000 in
set_option maxRecDepth 20000 in
theorem lawMa_c (v : Value) (N : Nat) (w : World) (h : ArgB w v N) :
    Calls Tryz.prog 3 #[v] w fun e w' => e = .returned (.bool true) ∧ Grew w w' := by
  have HB := big_c v N w h.1
  by_cases hbig : 4096 < N
  · rw [decide_eq_true hbig] at HB
    replace HB := Lib.hid HB
    obtain ⟨⟨A, c, rfl⟩, _⟩ := h
    go_enter Tryz.func3, Tryz.ntmps3
    go_wp2_with fail
    refine HB.out.mono ?_
    rintro e w1 ⟨rfl, hg1⟩
    go_wp2_with fail
    go_ret
    exact ⟨rfl, hg1⟩
  rw [decide_eq_false hbig] at HB
  replace HB := Lib.hid HB
  have HD := Lib.hid (fun W (hW : Grew w W) => drawModalSub_c v N W (h.grew hW) (by omega))
  have HV := Lib.hid (fun W (hW : Grew w W) => drawValid_c v N W (h.grew hW) (by omega))
  obtain ⟨⟨A, c, rfl⟩, _⟩ := h
  go_enter Tryz.func3, Tryz.ntmps3
  go_wp2_with fail
  refine HB.out.mono ?_
  rintro e w1 ⟨rfl, hg1⟩
  go_wp2_with fail
  refine (HD.out _ hg1).mono ?_
  rintro e w2 ⟨sz, va, u, L, X, rfl, hva, hu, hlL, hlX, hg2⟩
  have g2 := hg1.trans hg2
  obtain ⟨Aa, ca, rfl⟩ := ints_slice hva
  obtain ⟨Au, cu, rfl⟩ := ints_slice hu
  obtain ⟨wa, hwa⟩ : ∃ wa, wa = w2.alloc (.cells #[.int .i64 sz, .slice Aa L.length ca] 26) := ⟨_, rfl⟩
  obtain ⟨a0, a1⟩ := alg_box w2 (.int .i64 sz) (.slice Aa L.length ca)
  have ga : Grew w2 wa := by rw [hwa]; exact (Grew.refl w2).alloc _
  rw [← hwa] at a0 a1
  have GA := Lib.hid (g2.trans ga)
  have HVA := Lib.hid (fun W (hW : Grew wa W) => hva.grew (ga.trans hW))
  have HU := Lib.hid (fun W (hW : Grew wa W) => hu.grew (ga.trans hW))
  have KM := Lib.hid (fun W (hW : Grew wa W) => modalSub_c sz _ _ L X W (HVA.out W hW) (HU.out W hW))
  have KS := Lib.hid (fun W (hW : Grew wa W) => modalSubS_c sz _ _ L X W (HVA.out W hW) (HU.out W hW))
  obtain ⟨rr, hrr⟩ : ∃ rr, rr = subF sz L X := ⟨_, rfl⟩
  unfold GivesSub at KM KS
  rw [← hrr] at KM KS
  have hlr := subF_len (n := sz) (L := L) hlX
  rw [← hrr] at hlr
  have hrr := Lib.hid hrr
  obtain ⟨k, BB, SS, cc⟩ := rr
  obtain ⟨hlB, hlS⟩ := hlr
  simp only at KM KS hlB hlS
  have ra := Grew.refl wa
  clear hva hu g2 hg1 hg2 HB HD hbig ga
  go_wp2_with fail
  simp only [← hwa]
  clear hwa
  refine (KM.out _ ra).mono ?_
  rintro e w3 ⟨v5, u5, rfl, h5, h5u, hg3⟩
  obtain ⟨A5, c5, rfl⟩ := ints_slice h5
  obtain ⟨A6, c6, rfl⟩ := ints_slice h5u
  obtain ⟨wb, hwb⟩ : ∃ wb, wb = w3.alloc (.cells #[.int .i64 k, .slice A5 BB.length c5] 26) := ⟨_, rfl⟩
  obtain ⟨b0, b1⟩ := alg_box w3 (.int .i64 k) (.slice A5 BB.length c5)
  have gb : Grew w3 wb := by rw [hwb]; exact (Grew.refl w3).alloc _
  rw [← hwb] at b0 b1
  have Gb := hg3.trans gb
  have H5 := Lib.hid (fun W (hW : Grew wb W) => h5.grew (gb.trans hW))
  have H5U := Lib.hid (fun W (hW : Grew wb W) => h5u.grew (gb.trans hW))
  have x0 : ∀ o, (w3.alloc o).cell? ⟨w2.heap.size, 0, none⟩ = some (.int .i64 sz) := fun o => a0 _ (hg3.trans ((Grew.refl w3).alloc o))
  have x1 : ∀ o, (w3.alloc o).cell? ⟨w2.heap.size, 1, none⟩ = some (.slice Aa L.length ca) := fun o => a1 _ (hg3.trans ((Grew.refl w3).alloc o))
  clear h5 h5u gb KM
  go_wp2_with fail
  simp only [← hwb]
  clear hwb x0 x1
  refine (KS.out _ Gb).mono ?_
  rintro e w4 ⟨v8, u8, rfl, h8, h8u, hg4⟩
  obtain ⟨A8, c8, rfl⟩ := ints_slice h8
  obtain ⟨A9, c9, rfl⟩ := ints_slice h8u
  obtain ⟨wc, hwc⟩ : ∃ wc, wc = w4.alloc (.cells #[.int .i64 k, .slice A8 BB.length c8] 26) := ⟨_, rfl⟩
  obtain ⟨d0, d1⟩ := alg_box w4 (.int .i64 k) (.slice A8 BB.length c8)
  have gc : Grew w4 wc := by rw [hwc]; exact (Grew.refl w4).alloc _
  rw [← hwc] at d0 d1
  have gbc := hg4.trans gc
  have H8 := Lib.hid (fun W (hW : Grew wc W) => h8.grew (gc.trans hW))
  have H8U := Lib.hid (fun W (hW : Grew wc W) => h8u.grew (gc.trans hW))
  have KL := Lib.hid (likeAlgebra_same k _ _ BB wc (H5.out wc gbc) (H8.out wc (Grew.refl _)) (by omega))
  have KI := Lib.hid (fun W (hW : Grew wc W) => likeInts_same _ _ SS W (H5U.out W (gbc.trans hW)) (H8U.out W hW) (by omega))
  have GC := Lib.hid (Gb.trans gbc)
  have x0 : ∀ o, (w4.alloc o).cell? ⟨w3.heap.size, 0, none⟩ = some (.int .i64 k) := fun o => b0 _ (hg4.trans ((Grew.refl w4).alloc o))
  have x1 : ∀ o, (w4.alloc o).cell? ⟨w3.heap.size, 1, none⟩ = some (.slice A5 BB.length c5) := fun o => b1 _ (hg4.trans ((Grew.refl w4).alloc o))
  have hcc : (cc != cc) = false := by simp
  clear h8 h8u gc gbc hg4 Gb hg3 ra b0 b1 KS H5 H5U
  go_wp2_with fail
  simp only [← hwc]
  clear hwc x0 x1
  refine KL.out.mono ?_
  rintro e w5 ⟨rfl, hg5⟩
  go_wp2_with fail
  refine (KI.out _ hg5).mono ?_
  rintro e w6 ⟨rfl, hg6⟩
  have g6 := hg5.trans hg6
  clear hg5 hg6 KL KI hcc
  by_cases hc0 : cc = 0
  · subst hc0
    obtain ⟨M, rfl, hA, hzL, hzX, hS, hgen, he⟩ := subF_zero (by rw [← hrr.out])
    have hrr2 := hrr.out.trans he
    simp only [Prod.mk.injEq] at hrr2
    obtain ⟨rfl, rfl, rfl, -⟩ := hrr2
    have a00 := a0 _ (GC.out.trans g6)
    have a01 := a1 _ (GC.out.trans g6)
    obtain ⟨hm, hn⟩ := ats_small hA hS
    have hSA := sub_alg hA hS hm hn
    have KG := Lib.hid (fun W (hW : Grew wc W) => generatedEl_c M _ _ (nats L) (nats X) W (by rw [hzL]; exact HVA.out W (GC.out.trans hW)) (by rw [hzX]; exact HU.out W (GC.out.trans hW)) hA hS.lt)
    rw [hgen, hzX] at KG
    have KH := Lib.hid (fun W (hW : Grew wc W) => isHomX_c (ats (nats X)).length M _ _ _ (sBx (nats L) (nats X)) (nats L) (stds (nats X)) W (H8.out W hW) (by rw [hzL]; exact HVA.out W (GC.out.trans hW)) (H8U.out W hW) (emb_stds hA hS) hSA hA)
    have KA := Lib.hid (fun W (hW : Grew wc W) => isModalAlgebraX_c ((ats (nats X)).length : Int) _ _ W (H8.out W hW))
    rw [algB_of hSA] at KA
    have hln : (zs (stds (nats X))).length = X.length := by
      rw [zs_len, stds_len, ← sub_len hS hm, ← hzX, zs_len, hzX]
    have KX := Lib.hid (fun v1 W (hW : Grew wc W) (h1 : Ints W v1 X) => likeInts_same v1 _ X W h1 (HU.out W (GC.out.trans hW)) (by omega))
    go_wp2_with fail
    refine (KG.out _ g6).mono ?_
    rintro e w7 ⟨v7, rfl, h7, hg7⟩
    have g7 := g6.trans hg7
    obtain ⟨A7, c7, rfl⟩ := ints_slice h7
    have H7 := Lib.hid (fun W (hW : Grew w7 W) => h7.grew hW)
    have a70 := a0 _ (GC.out.trans g7)
    have a71 := a1 _ (GC.out.trans g7)
    have d70 := d0 _ g7
    have d71 := d1 _ g7
    have KVS := Lib.hid (fun vf xs W (hW : Grew wc W) (hf : Nodes W vf xs) (hx : xs.length ≤ 1048576) => isValidAlgS_c M _ vf (nats L) xs W (by rw [hzL]; exact HVA.out W (GC.out.trans hW)) hf hA hx)
    have KVP := Lib.hid (fun vf xs W (hW : Grew wc W) (hf : Nodes W vf xs) (hx : xs.length ≤ 1048576) => isValidAlg_c (ats (nats X)).length _ vf (sBx (nats L) (nats X)) xs W (H8.out W hW) hf hSA hx)
    have HFIN := Lib.hid (fun (xs : List Nd) (b3 b4 : Bool) (c4 : Int) (h3 : fmB xs = true ∧ M * (mbs (vm xs)).length ≤ 16 ∧ ∀ t, xs = Fm.enc t → vldA M (nats L) (mbs (vm xs)) t = true) (h4 : ∀ t, xs = Fm.enc t → fmB xs = true → (ats (nats X)).length * (mbs (vm xs)).length ≤ 16 → c4 = 0 ∧ b4 = vldB (frm (ats (nats X)).length (sBx (nats L) (nats X))) (mbs (vm xs)) t) => show c4 = 0 ∧ b4 = true from by
      obtain ⟨e1, e2, e3⟩ := h3
      obtain ⟨t, rfl, _⟩ := fmB_tree e1
      obtain ⟨e4, e5⟩ := h4 t rfl e1 (Nat.le_trans (Nat.mul_le_mul_right _ hn) e2)
      exact ⟨e4, e5.trans (sub_valid hA hS (e3 t rfl) (fun v hv => mbs_lt (n := 6) (vm_lt9 t) hv) (fun v hv => hasV_vars hv))⟩)
    unfold GivesVs at KVS
    unfold GivesVa at KVP
    rw [hln] at KH
    clear hm hn hSA hS hgen hA hzX hrr he h7 hg7 a00 a01
    generalize (zs (sBx (nats L) (nats X))).length = lB at *
    have GZ := Lib.hid (fun W (hW : Grew wc W) => (GA.out.trans GC.out).trans hW)
    clear hln hzL H8 H8U HVA HU
    go_wp2_with fail
    refine (KH.out _ g7).mono ?_
    rintro e w8 ⟨rfl, hg8⟩
    have g8 := g7.trans hg8
    have KX8 := Lib.hid (KX.out _ w8 g8 (H7.out w8 hg8))
    clear KX H7 KH hg8 a70 a71 d70 d71
    go_wp2_with fail
    refine KX8.out.mono ?_
    rintro e w9 ⟨rfl, hg9⟩
    have g9 := g8.trans hg9
    have d90 := d0 _ g9
    have d91 := d1 _ g9
    clear KX8 hg9
    go_wp2_with fail
    refine (KA.out _ g9).mono ?_
    rintro e w10 ⟨rfl, hg10⟩
    have g10 := g9.trans hg10
    clear KA hg10 d90 d91
    go_wp2_with fail
    refine (HV.out _ (GZ.out _ g10)).mono ?_
    rintro e w11 ⟨sz2, Av, lv, cw, u11, xs, rfl, hxs, hxl, hg11⟩
    have g11 := g10.trans hg11
    obtain ⟨A11, c11, rfl⟩ := nodes_slice hxs
    obtain ⟨wd, hwd⟩ : ∃ wd, wd = w11.alloc (.cells #[.int .i64 sz2, .slice Av lv cw] 26) := ⟨_, rfl⟩
    have gd : Grew w11 wd := by rw [hwd]; exact (Grew.refl w11).alloc _
    have gdd := g11.trans gd
    have HX := Lib.hid (fun W (hW : Grew wd W) => hxs.grew (gd.trans hW))
    have KV1 := Lib.hid (KVS.out _ xs wd gdd (HX.out wd (Grew.refl _)) (by omega))
    have KV2 := Lib.hid (fun W (hW : Grew wd W) => KVP.out _ xs W (gdd.trans hW) (HX.out W hW) (by omega))
    have HFX := Lib.hid (HFIN.out xs)
    have x0 : ∀ o, (w11.alloc o).cell? ⟨w2.heap.size, 0, none⟩ = some (.int .i64 (M : Int)) := fun o => a0 _ (GC.out.trans (g11.trans ((Grew.refl w11).alloc o)))
    have x1 : ∀ o, (w11.alloc o).cell? ⟨w2.heap.size, 1, none⟩ = some (.slice Aa L.length ca) := fun o => a1 _ (GC.out.trans (g11.trans ((Grew.refl w11).alloc o)))
    clear KVS KVP HFIN hxs hg11 gd HX HV
    generalize (ats (nats X)).length = kk at *
    generalize hxn : xs.length = xn at *
    clear hxn
    go_wp2_with fail
    simp only [← hwd]
    clear hwd x0 x1
    refine KV1.out.mono ?_
    rintro e w12 ⟨b3, c3, rfl, hb3, hg12⟩
    have g12 := gdd.trans hg12
    have d120 := d0 _ g12
    have d121 := d1 _ g12
    have KV3 := Lib.hid (KV2.out w12 hg12)
    have HB3 := Lib.hid hb3
    clear KV1 KV2 hb3 hg12
    go_wp2_with fail
    refine KV3.out.mono ?_
    rintro e w13 ⟨b4, c4, rfl, hb4, hg13⟩
    have GW := Lib.hid (GZ.out _ (g12.trans hg13))
    have HB4 := Lib.hid hb4
    clear KV3 hb4 hg13 d120 d121 d0 d1 a0 a1 g12 gdd g11 g10 g9 g8 g7 g6
    by_cases h3 : c3 = 0
    · subst h3
      cases b3 with
      | true =>
        obtain ⟨rfl, rfl⟩ := HFX.out true b4 c4 (HB3.out rfl rfl) HB4.out
        go_wp2_with fail
        go_ret
        exact ⟨rfl, GW.out⟩
      | false =>
        clear HFX HB3 HB4
        go_wp2_with fail
        go_ret
        exact ⟨rfl, GW.out⟩
    · have h3f : (c3 = 0) = False := eq_false h3
      have h3g : (c3 == 0) = false := by simpa using h3
      clear HFX HB3 HB4
      go_wp2_with fail
      go_ret
      exact ⟨rfl, GW.out⟩
  · have hcn : (cc != 0) = true := by simpa using hc0
    have hcf : (cc = 0) = False := eq_false hc0
    have GG := Lib.hid (GA.out.trans (GC.out.trans g6))
    clear a0 a1 d0 d1 hrr
    go_wp2_with fail
    go_ret
    exact ⟨rfl, GG.out⟩
end Go.Proofs.YtopjgcbhjhhlfaaGreat


/- A cell that is read lies in a block that is there. -/
namespace Go.Proofs.YtopjgcbhjhhlfaaGreat
open Go.RowKit

theorem cell_lt {w : World} {a : Addr} {u : Value} (h : w.cell? a = some u) : a.block < w.heap.size := by
  unfold World.cell? at h
  split at h
  · rename_i hh
    exact (Array.getElem?_eq_some_iff.1 hh).1
  · cases h

end Go.Proofs.YtopjgcbhjhhlfaaGreat


/- An argument that is a list of bytes. -/
namespace Go.Proofs.YtopjgcbhjhhlfaaGreat
open Go.RowKit

theorem argB_of_trod {H : Type} {enc : TypeId × Value → H} {P : Program} {W : World} {sp : Nat → Bool} {held : Bool} {n : Nat} {t e : TypeId} {v : Value} {y : DataW H × List MemPlace}
    (ht : P.underlying t = some (.slice e)) (he : P.underlying e = some (.int .u8)) (hc : P.cellsOf e = 1) (h : DataW.trod enc P W 0 sp held n t [v] = some y) : ∃ N, ArgB W v N := by
  rcases Go.ChangeShapes.open_ints ht he hc h with ⟨hv, _⟩ | ⟨a, len, cap, zs, hv, _, hl, hm, hz, _, hcell, hwf⟩
  · obtain rfl : v = .slice none 0 0 := by simpa using hv
    exact ⟨0, ⟨none, 0, rfl⟩, by omega, fun h => absurd h (by omega)⟩
  · obtain rfl : v = .slice (some a) len cap := by simpa using hv
    have hlm : len ≤ zs.length := by rw [hz]; split <;> omega
    have hmax : maxLen = 9223372036854775807 := by decide
    rw [hmax] at hm
    refine ⟨len, ⟨some a, cap, rfl⟩, by omega, fun hp => ?_⟩
    obtain ⟨b, off, spot⟩ := a
    have h0 := hcell 0 (by omega)
    have hspot : spot = none := by simpa [Addr.add] using World.cell?_spot h0
    subst hspot
    have hb := cell_lt h0
    have hadd : ∀ i, (⟨b, off, none⟩ : Addr).add i = ⟨b, off + i, none⟩ := fun i => by
      unfold Addr.add
      split
      · subst_vars; rfl
      · rfl
    rw [hadd] at hb
    refine ⟨b, off, cap, rfl, hb, hl, hm, fun j hj => ⟨zs.getD j 0, ?_, ?_, ?_⟩⟩
    · have hw := hwf (zs.getD j 0) (by simp [List.getD, show j < zs.length by omega])
      simp [Lit.wf, IntKind.min, IntKind.max, IntKind.signed, IntKind.bits] at hw
      have := hw.1
      simpa [List.getD] using this
    · have hw := hwf (zs.getD j 0) (by simp [List.getD, show j < zs.length by omega])
      simp [Lit.wf, IntKind.min, IntKind.max, IntKind.signed, IntKind.bits] at hw
      have := hw.2
      simp [List.getD] at this ⊢
      omega
    · rw [← hadd]
      exact hcell j (by omega)
end Go.Proofs.YtopjgcbhjhhlfaaGreat

