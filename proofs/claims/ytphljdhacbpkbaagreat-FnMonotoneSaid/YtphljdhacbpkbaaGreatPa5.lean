/- Texts in one file: MnY. -/
import Derived.Test.YtphljdhacbpkbaaGreatPa1
import Derived.Test.YtphljdhacbpkbaaGreatPa2
import Derived.Test.YtphljdhacbpkbaaGreatPa3
import Derived.Test.YtphljdhacbpkbaaGreatPa4
set_option linter.all false

/- FnMonotone: the draws l17Draw, DrawForcedSet (printed by gen/mny.py). -/
namespace Go.Proofs.YtphljdhacbpkbaaGreat
open Go.RowKit

theorem results_cell_tmp_row {P : Program} {fn : Func} {p u : Tmp} {ty : TypeId} (h : fn.results = #[.cell p ty, .tmp u]) (tmps : Array Value) (w : World) (g : Nat) (t : TypeId) (cs : Array Value) (fr : Nat × Nat) (d : TypeDesc)
    (hp : tmps.getD p undef = .pointer (some ⟨g, 0, none⟩)) (hg : w.heap[g]? = some (.cells cs t fr))
    (hu : P.underlying ty = some d) (hd : (match d with | .struct _ | .array _ _ => true | _ => false) = true) (hi : (P.info? ty).map (·.size) = some cs.size) :
    (results fn tmps).run P w = .ok (.tuple #[.agg cs, tmps.getD u undef]) w := by
  have hp' : tmps[p]?.getD undef = .pointer (some ⟨g, 0, none⟩) := by simpa using hp
  simp [results, h, hp', asAddr, run_loadVar_row w g t ty cs fr d hg hu hd hi]

/-- v reads as the list, in a block from B on. -/
def IntsB (w : World) (B : Nat) (v : Value) (L : List Int) : Prop := Ints w v L ∧ ∀ b o r n c, v = .slice (some ⟨b, o, r⟩) n c → B ≤ b
theorem IntsB.own {w : World} {B : Nat} {v : Value} {L : List Int} (h : OwnI w B v L) : IntsB w B v L := by
  refine ⟨h.ints, ?_⟩
  rintro b o r n c rfl
  rcases h.2 with ⟨he, _⟩ | ⟨g, c', cur, he, hB, _⟩
  · cases he
  · injection he with e1
    injection e1 with e1
    injection e1 with e1
    omega
theorem IntsB.base {w : World} {B B' : Nat} {v : Value} {L : List Int} (h : IntsB w B v L) (hb : B' ≤ B) : IntsB w B' v L := ⟨h.1, fun b o r n c he => Nat.le_trans hb (h.2 b o r n c he)⟩
theorem IntsB.grew {w w' : World} {B : Nat} {v : Value} {L : List Int} (h : IntsB w B v L) (hg : Grew w w') : IntsB w' B v L := ⟨h.1.grew hg, h.2⟩
theorem IntsB.only {w w' : World} {B g : Nat} {v : Value} {L : List Int} (h : IntsB w B v L) (ho : Only g w w') (hg : g < B) : IntsB w' B v L := by
  obtain ⟨⟨h1, h2, h3⟩, h4⟩ := h
  refine ⟨⟨h1, h2, ?_⟩, h4⟩
  rcases h3 with ⟨h5, h6⟩ | ⟨b, o, c, h5, h6, h7, h8, h9⟩
  · exact .inl ⟨h5, h6⟩
  · refine .inr ⟨b, o, c, h5, h6, h7, Nat.lt_of_lt_of_le h8 ho.size, fun j x hx => ?_⟩
    have hb := h4 b o none _ c h5
    exact (ho.cell (p := ⟨b, o + j, none⟩) h8 (by show b ≠ g; omega)).trans (h9 j x hx)
theorem IntsB.tail {w : World} {B g c n : Nat} {L : List Int} (h : OwnI w B (.slice (some ⟨g, 0, none⟩) (n + 1) c) L) (hl : L.length = n + 1) : IntsB w B (.slice (some ⟨g, 1, none⟩) n (c - 1)) (L.drop 1) := by
  have hB := own_of_ge h (g := g) rfl
  refine ⟨?_, fun b o r n' c' he => by injection he with e1; injection e1 with e1; injection e1 with e1; omega⟩
  have hi := h.ints
  obtain ⟨h1, h2, h3⟩ := hi
  unfold Ints
  have hd : (L.drop 1).length = n := by rw [List.length_drop]; omega
  rw [hd]
  refine ⟨by simp [icells]; omega, by omega, .inr ⟨g, 1, c - 1, rfl, ?_⟩⟩
  rcases h3 with ⟨h5, h6⟩ | ⟨b, o, c', h5, h6, h7, h8, h9⟩
  · cases h5
  · injection h5 with e1 e2 e3
    injection e1 with e1
    injection e1 with e1 e4
    subst e1 e4 e3
    refine ⟨by omega, by omega, h8, fun j x hx => ?_⟩
    have := h9 (j + 1) x (by
      rw [← hx]
      simp [icells])
    rw [Nat.zero_add] at this
    rw [Nat.add_comm]
    exact this

/-- A drawn poset and valuation, or something like it. -/
def GivesV (g : Nat) (cv : Value) (N : Nat) (w : World) (e : Ending) (w' : World) : Prop := ∃ v sz L u V, e = .returned (.tuple #[.agg #[.int .i64 sz, v], u]) ∧ IntsB w' w.heap.size v L ∧ IntsB w' w.heap.size u V ∧ L.length ≤ 9 ∧ V.length ≤ 6 ∧ Src w' g cv N ∧ Only g w w'

set_option maxHeartbeats 1000000 in
theorem l17Draw_c (g : Nat) (cv : Value) (N : Nat) (w : World) (h : Src w g cv N) :
    Calls Tryz.prog 19 #[.pointer (some ⟨g, 0, none⟩), .int .i64 8] w (GivesV g cv N w) := by
  have hinfo := info2P
  have hgl := h.lt
  have hmk : ∀ W : World, (Instr.makeSlice 24 (.int .i64 6) (.int .i64 6)).run Tryz.prog W = .ok (.slice (some ⟨W.heap.size, 0, none⟩) 6 6) (W.alloc (.cells (madeCells #[Value.int .i64 0] 6) 2)) := fun W => run_make_rows (P := Tryz.prog) 24 2 (.int .i64 0) 1 8 #[.int .i64 0] Tryz.underlying24 Tryz.infoI rfl .i64 .i64 6 (by omega) (by omega) W
  have hS0 := h.grew ((Grew.refl w).alloc (.cells #[.int .i64 0, .slice none 0 0] 26))
  have HS := Lib.hid hS0
  have HB0 := Lib.hid (blk_new w (.cells #[.int .i64 0, .slice none 0 0] 26))
  have hU0 := ((Grew.refl w).alloc (.cells #[.int .i64 0, .slice none 0 0] 26)).only (g := g)
  have hsz0 : (w.alloc (.cells #[.int .i64 0, .slice none 0 0] 26)).heap.size = w.heap.size + 1 := by simp
  have HSZ := Lib.hid hsz0
  obtain ⟨w0, hw0⟩ : ∃ w0, w0 = w.alloc (.cells #[.int .i64 0, .slice none 0 0] 26) := ⟨_, rfl⟩
  rw [← hw0] at HS HB0 HSZ hU0
  clear h hS0 hsz0
  go_enter Tryz.func19, Tryz.ntmps19
  go_wp2_with fail
  simp only [← hw0]
  clear hw0
  refine (l16Draw_c g cv N w0 HS.out).mono ?_
  rintro e w1 ⟨v1, sz, L, rfl, hO1, hl1, hS1, ho1⟩
  obtain ⟨A, c, rfl⟩ := ints_slice hO1.ints
  have HO1 := Lib.hid hO1
  have HS1 := Lib.hid hS1
  have hga := (Grew.refl w1).alloc (.cells #[.int .i64 sz, .slice A L.length c] 26)
  have hbx := blk_new w1 (.cells #[.int .i64 sz, .slice A L.length c] 26)
  have hsa : (w1.alloc (.cells #[.int .i64 sz, .slice A L.length c] 26)).heap.size = w1.heap.size + 1 := by simp
  have hp0 := ho1.size
  obtain ⟨wa, hwa⟩ : ∃ wa, wa = w1.alloc (.cells #[.int .i64 sz, .slice A L.length c] 26) := ⟨_, rfl⟩
  rw [← hwa] at hga hbx hsa
  have HP := Lib.hid (And.intro hga (And.intro hbx (And.intro hsa hp0)))
  clear hO1 hS1 hga hbx hsa hp0
  go_wp2_with fail
  simp only [← hwa]
  clear hwa
  obtain ⟨hga, hbx, hsa, hp0⟩ := HP.out
  have hUa := ho1.grew hga
  have HOa := Lib.hid (HO1.out.grew hga)
  have HSa := Lib.hid (HS1.out.grew hga)
  have hpb : w1.heap.size < wa.heap.size := by omega
  clear HP HO1 HS1 hga hsa ho1
  generalize w1.heap.size = pb at *
  refine (l16Is_c sz _ L wa HOa.out.ints).mono ?_
  rintro e w2 ⟨rfl, hg2⟩
  have hU2 := hUa.grew hg2
  have HX2 := Lib.hid ((hg2.block hpb).trans hbx)
  have HO2 := Lib.hid (HOa.out.grew hg2)
  have HS2 := Lib.hid (HSa.out.grew hg2)
  have hpb2 : pb < w2.heap.size := Nat.lt_of_lt_of_le hpb hg2.size
  clear HOa HSa hbx hg2 hpb hUa
  cases hp : posB sz L with
  | false =>
    have HRr := Lib.hid (fun W (hW : Grew w2 W) => (hW.block (k := w.heap.size) (by have := HSZ.out; have := hU2.size; omega)).trans ((hU2.block (by have := HSZ.out; omega) (by omega)).trans HB0.out))
    have x0 : ∀ W, Grew w2 W → W.cell? ⟨pb, 0, none⟩ = some (.int .i64 sz) := fun W hW => by rw [blk_cell ((hW.block hpb2).trans HX2.out)]; rfl
    have x1 : ∀ W, Grew w2 W → W.cell? ⟨pb, 1, none⟩ = some (.slice A L.length c) := fun W hW => by rw [blk_cell ((hW.block hpb2).trans HX2.out)]; rfl
    have r0 : ∀ W, Grew w2 W → W.cell? ⟨w.heap.size, 0, none⟩ = some (.int .i64 0) := fun W hW => by rw [blk_cell (HRr.out W hW)]; rfl
    have r1 : ∀ W, Grew w2 W → W.cell? ⟨w.heap.size, 1, none⟩ = some (.slice none 0 0) := fun W hW => by rw [blk_cell (HRr.out W hW)]; rfl
    have f0 : ∀ W, Grew w2 W → W.frozen? ⟨w.heap.size, 0, none⟩ = false := fun W hW => blk_frozen (HRr.out W hW) 0
    have f1 : ∀ W, Grew w2 W → W.frozen? ⟨w.heap.size, 1, none⟩ = false := fun W hW => blk_frozen (HRr.out W hW) 1
    have hr := Grew.refl w2
    have hrd := (Grew.refl w2).drew
    have hrm := ((Grew.refl w2).alloc (.cells (madeCells #[Value.int .i64 0] 6) 2)).drew
    have hrk := (((Grew.refl w2).alloc (.cells (madeCells #[Value.int .i64 0] 6) 2)))
    go_wp2_with fail
    go_region
    all_goals
      go_wp2_with fail
    · (try simp only [Exit.inBlock, Exit.then])
      have hR2 := HRr.out w2 hr
      have hg3 := ((Grew.refl ((w2.setCell ⟨w.heap.size, 0, none⟩ (.int .i64 sz)).setCell ⟨w.heap.size, 1, none⟩ (.slice A L.length c))).alloc (.cells (madeCells #[Value.int .i64 0] 6) 2)).drew
      have hRz := (hg3.block (blk_lt' (blk_set (blk_set hR2 0 (.int .i64 sz)) 1 (.slice A L.length c)))).trans (blk_set (blk_set hR2 0 (.int .i64 sz)) 1 (.slice A L.length c))
      have hk : Only w.heap.size w2 (((w2.setCell ⟨w.heap.size, 0, none⟩ (.int .i64 sz)).setCell ⟨w.heap.size, 1, none⟩ (.slice A L.length c)).alloc (.cells (madeCells #[Value.int .i64 0] 6) 2)).drew := ((((Only.refl _ _).setCell _).setCell _).alloc _).drew
      have hMz := blk_new ((w2.setCell ⟨w.heap.size, 0, none⟩ (.int .i64 sz)).setCell ⟨w.heap.size, 1, none⟩ (.slice A L.length c)) (.cells (madeCells #[Value.int .i64 0] 6) 2)
      simp only [World.size_setCell] at hMz
      replace hMz : ((((w2.setCell ⟨w.heap.size, 0, none⟩ (.int .i64 sz)).setCell ⟨w.heap.size, 1, none⟩ (.slice A L.length c)).alloc (.cells (madeCells #[Value.int .i64 0] 6) 2)).drew).heap[w2.heap.size]? = some (.cells (madeCells #[Value.int .i64 0] 6) 2) := hMz
      refine bodyPost_ret (results_cell_tmp_row rfl _ _ w.heap.size _ _ _ _ rfl hRz Tryz.underlying26 rfl hinfo) rfl ?_
      have hz := HSZ.out
      have hNR : NRow _ w2.heap.size 6 6 (fun _ => 0) := ⟨_, hMz, size_madeCells _ _, Nat.le_refl _, by omega, fun i hi => made_z hi⟩
      have hOz := hNR.own (B := w0.heap.size) (by have := hU2.size; omega)
      exact ⟨_, _, L, _, _, rfl, ((IntsB.own HO2.out).only hk (by omega)).base (by omega), (IntsB.own hOz).base (by omega), by omega, by simp [zs], HS2.out.other hk hgl, (hU0.trans hU2).newer hk (Nat.le_refl _)⟩
    · (try simp only [Exit.inBlock, Exit.then])
      have hR2 := HRr.out (w2.alloc (.cells (madeCells #[Value.int .i64 0] 6) 2)) ((Grew.refl w2).alloc _)
      have hRz := blk_set (blk_set hR2 0 (.int .i64 sz)) 1 (.slice A L.length c)
      have hk : Only w.heap.size w2 (((w2.alloc (.cells (madeCells #[Value.int .i64 0] 6) 2)).setCell ⟨w.heap.size, 0, none⟩ (.int .i64 sz)).setCell ⟨w.heap.size, 1, none⟩ (.slice A L.length c)).drew := ((((Only.refl _ _).alloc _).setCell _).setCell _).drew
      have hM0 := blk_new w2 (.cells (madeCells #[Value.int .i64 0] 6) 2)
      have hM1 : Only w.heap.size (w2.alloc (.cells (madeCells #[Value.int .i64 0] 6) 2)) (((w2.alloc (.cells (madeCells #[Value.int .i64 0] 6) 2)).setCell ⟨w.heap.size, 0, none⟩ (.int .i64 sz)).setCell ⟨w.heap.size, 1, none⟩ (.slice A L.length c)).drew := (((Only.refl _ _).setCell _).setCell _).drew
      have hMz := (hM1.block (blk_lt' hM0) (by have := hU2.size; have := HSZ.out; omega)).trans hM0
      replace hRz : ((((w2.alloc (.cells (madeCells #[Value.int .i64 0] 6) 2)).setCell ⟨w.heap.size, 0, none⟩ (.int .i64 sz)).setCell ⟨w.heap.size, 1, none⟩ (.slice A L.length c)).drew).heap[w.heap.size]? = _ := hRz
      refine bodyPost_ret (results_cell_tmp_row rfl _ _ w.heap.size _ _ _ _ rfl hRz Tryz.underlying26 rfl hinfo) rfl ?_
      have hz := HSZ.out
      have hNR : NRow _ w2.heap.size 6 6 (fun _ => 0) := ⟨_, hMz, size_madeCells _ _, Nat.le_refl _, by omega, fun i hi => made_z hi⟩
      have hOz := hNR.own (B := w0.heap.size) (by have := hU2.size; omega)
      exact ⟨_, _, L, _, _, rfl, ((IntsB.own HO2.out).only hk (by omega)).base (by omega), (IntsB.own hOz).base (by omega), by omega, by simp [zs], HS2.out.other hk hgl, (hU0.trans hU2).newer hk (Nat.le_refl _)⟩
  | true =>
    obtain ⟨rfl, h8, hRl, hzs, -⟩ := posB_ok hp
    have h17 := l17Some_c g cv N (.slice A L.length c) (nats L) w2 HS2.out (by rw [hzs]; exact HO2.out.ints) hRl (by rw [nats_len]; exact h8)
    rw [nats_len] at h17
    have H17 := Lib.hid h17
    have d0 : w2.cell? ⟨pb, 0, none⟩ = some (.int .i64 (L.length : Int)) := by rw [blk_cell HX2.out]; rfl
    have d1 : w2.cell? ⟨pb, 1, none⟩ = some (.slice A L.length c) := by rw [blk_cell HX2.out]; rfl
    have hFN0 := l01Full_q L.length (by omega)
    rw [← full_cast] at hFN0
    have hFN := Lib.hid hFN0
    have hff : full L.length ≤ 255 := by
      have hF9 : 2 ^ L.length ≤ 256 := Nat.le_trans (Nat.pow_le_pow_right (by omega) h8) (by decide)
      unfold full
      omega
    clear h17 hRl hzs hp hmk hFN0
    generalize full L.length = fn at *
    go_wp2_with fail
    refine H17.out.mono ?_
    rintro e w3 ⟨u3, V, rfl, hOu, hlu, hS3, ho3⟩
    obtain ⟨Au, cu, rfl⟩ := ints_slice hOu.ints
    obtain ⟨gv, cur, rfl, hgv, hcur, hcs, hall⟩ := own_irow hOu (by omega)
    have hU3 := hU2.trans ho3
    have hgz : g < w0.heap.size := by have := HSZ.out; omega
    have hpg : pb ≠ g := by omega
    have HX3 := Lib.hid ((ho3.block hpb2 hpg).trans HX2.out)
    have HO3 := Lib.hid (own_srcI HO2.out hgz ho3)
    have HV3 := Lib.hid (hOu.base (B' := w0.heap.size) hU2.size)
    have HS3 := Lib.hid hS3
    have hpb3 : pb < w3.heap.size := Nat.lt_of_lt_of_le hpb2 ho3.size
    have hpv : pb ≠ gv := by omega
    have hgvg : gv ≠ g := by have := hU2.size; omega
    rw [hlu] at HV3 ⊢
    have HLV := Lib.hid hlu
    have hcu : 6 ≤ cu ∧ cu ≤ 9223372036854775807 := by omega
    have hgv0 : w0.heap.size ≤ gv := Nat.le_trans hU2.size hgv
    have hngA : ∀ k, (Value.slice A L.length c).ownBlock = some k → k = gv → False := fun k hk he => by have := (HO2.out.lt k hk).2; omega
    clear hOu hS3 ho3 hcur hall hlu d0 d1 H17 hcs hgv
    go_wp2_with fail
    refine (l01Next_c g cv N 40 w3 HS3.out (by omega)).mono ?_
    rintro e w4 ⟨sw, rfl, hsw0, hsw1, _, hS4, ho4⟩
    have hU4 := hU3.trans ho4
    have HX := Lib.hid ((ho4.block hpb3 hpg).trans HX3.out)
    have HOL := Lib.hid (own_srcI HO3.out hgz ho4)
    have HV4 := Lib.hid (own_srcI HV3.out hgz ho4)
    have HSf := Lib.hid hS4
    have HUf := Lib.hid hU4
    have hpb4 : pb < w4.heap.size := Nat.lt_of_lt_of_le hpb3 ho4.size
    have HR := Lib.hid ((hU4.block (k := w.heap.size) (by have := HSZ.out; omega) (by omega)).trans HB0.out)
    have hz4 := hU4.size
    clear hS4 hsw1 ho4 HX2 HX3 HO2 HO3 HV3 HS2 HS3 hU2 hU3
    cases s0 : (sw == 0) with
    | true =>
      have hcu1 : ¬ cu = 1 := by omega
      have hcu2 : 6 ≤ cu := hcu.1
      have x0 : ∀ W, Grew w4 W → W.cell? ⟨pb, 0, none⟩ = some (.int .i64 (L.length : Int)) := fun W hW => by rw [blk_cell ((hW.block hpb4).trans HX.out)]; rfl
      have x1 : ∀ W, Grew w4 W → W.cell? ⟨pb, 1, none⟩ = some (.slice A L.length c) := fun W hW => by rw [blk_cell ((hW.block hpb4).trans HX.out)]; rfl
      have hwl : w.heap.size < w4.heap.size := by have := HSZ.out; omega
      have r0 : ∀ W, Grew w4 W → W.cell? ⟨w.heap.size, 0, none⟩ = some (.int .i64 0) := fun W hW => by rw [blk_cell ((hW.block hwl).trans HR.out)]; rfl
      have r1 : ∀ W, Grew w4 W → W.cell? ⟨w.heap.size, 1, none⟩ = some (.slice none 0 0) := fun W hW => by rw [blk_cell ((hW.block hwl).trans HR.out)]; rfl
      have f0 : ∀ W, Grew w4 W → W.frozen? ⟨w.heap.size, 0, none⟩ = false := fun W hW => blk_frozen ((hW.block hwl).trans HR.out) 0
      have f1 : ∀ W, Grew w4 W → W.frozen? ⟨w.heap.size, 1, none⟩ = false := fun W hW => blk_frozen ((hW.block hwl).trans HR.out) 1
      have hr := Grew.refl w4
      have hrd := (Grew.refl w4).drew
      go_wp2_with fail
      go_region
      all_goals
        go_wp2_with fail
      (try simp only [Exit.inBlock, Exit.then])
      refine bodyPost_ret (results_cell_tmp_row rfl _ _ w.heap.size _ _ _ _ rfl (blk_set (blk_set HR.out 0 _) 1 _) Tryz.underlying26 rfl hinfo) rfl ?_
      have hk : Only w.heap.size w4 ((w4.setCell ⟨w.heap.size, 0, none⟩ (.int .i64 (L.length : Int))).setCell ⟨w.heap.size, 1, none⟩ (.slice A L.length c)).drew := (((Only.refl _ _).setCell _).setCell _).drew
      have hz := HSZ.out
      have hT := IntsB.tail HV4.out HLV.out
      exact ⟨_, _, L, _, _, rfl, ((IntsB.own HOL.out).only hk (by omega)).base (by omega), (hT.only hk (by omega)).base (by omega), by omega, by rw [List.length_drop]; have := HLV.out; omega, HSf.out.other hk hgl, (hU0.trans HUf.out).newer hk (Nat.le_refl _)⟩
    | false =>
    cases s1 : (sw == 1) with
    | true =>
      obtain ⟨gv', cur, he, hgv1, hcur, hcs, hall⟩ := own_irow (w := w4) (B := w0.heap.size) (c := cu) (A := some ⟨gv, 0, none⟩) (L := V) (by rw [HLV.out]; exact HV4.out) (by rw [HLV.out]; omega)
      injection he with he
      injection he with he
      subst he
      rw [HLV.out] at hall
      have HCU := Lib.hid hcur
      have HAL := Lib.hid hall
      have hgvn : gv < w4.heap.size := blk_lt hcur
      have hSO : SO g cv N w4 w4 := ⟨HSf.out, Only.refl _ _⟩
      have hSOd := hSO.drew
      have hSR : SR g cv N w0 pb gv 6 cu (.cells #[.int .i64 (L.length : Int), .slice A L.length c] 26) w4 := ⟨HSf.out, hU4, HX.out, V, HLV.out, HV4.out⟩
      have hSRd := hSR.drew
      have KA := Lib.hid (fun (n : Int) (hn : Hid (n ≤ 8 ∧ 1 ≤ n)) W (hW : SO g cv N w4 W) => so_next g cv N w4 n (by have := hn.out; omega) W hW)
      have KN := Lib.hid (fun (n : Int) (hn : Hid (1 ≤ n ∧ n ≤ 100000)) W (hW : SO g cv N w4 W) => so_next g cv N w4 n hn.out W hW)
      have KR := Lib.hid (fun W W' (h : SR g cv N w0 pb gv 6 cu (.cells #[.int .i64 (L.length : Int), .slice A L.length c] 26) W) (hS : SO g cv N w4 W') (ho : Only g W W') => h.next hS.1 ho hgz hpg)
      have HN1 : Hid ((6 : Int) ≤ 8 ∧ 1 ≤ (6 : Int)) := Lib.hid ⟨by omega, by omega⟩
      have HN2 : Hid (1 ≤ (fn : Int) + 3 ∧ (fn : Int) + 3 ≤ 100000) := Lib.hid ⟨by omega, by omega⟩
      have hwr : IntKind.i64.wrap ((fn : Int) + 3) = (fn : Int) + 3 := by rw [IntKind.wrap_i64]; omega
      have x0 : ∀ W, SR g cv N w0 pb gv 6 cu (.cells #[.int .i64 (L.length : Int), .slice A L.length c] 26) W → W.cell? ⟨pb, 0, none⟩ = some (.int .i64 (L.length : Int)) := fun W hW => by rw [blk_cell hW.2.2.1]; rfl
      have x1 : ∀ W, SR g cv N w0 pb gv 6 cu (.cells #[.int .i64 (L.length : Int), .slice A L.length c] 26) W → W.cell? ⟨pb, 1, none⟩ = some (.slice A L.length c) := fun W hW => by rw [blk_cell hW.2.2.1]; rfl
      have xf : ∀ W k, SO g cv N w4 W → W.frozen? ⟨gv, k, none⟩ = false := fun W k hW => blk_frozen ((hW.2.block hgvn hgvg).trans HCU.out) k
      have xc := Lib.hid (fun k (hk : k < 6) W (hW : SO g cv N w4 W) => (hW.2.cell (p := ⟨gv, k, none⟩) hgvn hgvg).trans (show w4.cell? ⟨gv, k, none⟩ = some (.int .i64 (it V k)) by rw [blk_cell HCU.out]; exact HAL.out k hk))
      clear hcur hall hcs
      go_wp2_with fail
      go_region_held3 (fun w' => SR g cv N w0 pb gv 6 cu (.cells #[.int .i64 (L.length : Int), .slice A L.length c] 26) w') (first | assumption | exact SR.drew ‹_› | exact SR.store ‹_› hgz hgv0 hpv (by omega)) (first
        | (go_at_call 42; refine (hFN.out _).mono ?_; rintro e w5 ⟨rfl, rfl⟩)
        | (go_at_call 41; refine Calls.mono (KA.out _ (by assumption) _ (by assumption)) ?_; rintro e wc ⟨rk, rfl, h61, hSOa, hoa⟩; have h60 : (0 : Int) ≤ (rk : Int) := Int.natCast_nonneg _; have hSRa := KR.out _ wc ‹_› hSOa hoa; have hc5 := xc.out rk (by omega))
        | (go_at_call 41; refine Calls.mono (KN.out _ (by assumption) _ (by assumption)) ?_; rintro e w5 ⟨r5, rfl, h51, hSO5, ho5⟩; have h50 : (0 : Int) ≤ (r5 : Int) := Int.natCast_nonneg _; have hSR5 := KR.out _ w5 ‹_› hSO5 ho5))
      have hSRe := SR.store (k := rk) (x := IntKind.i64.wrap ((r5 : Int) - 1)) hSR5 hgz hgv0 hpv (by omega)
      have hOA := (HOL.out)
      have hOA5 := own_srcI HOL.out hgz hSO5.2
      have hk5 : Only gv w5 (w5.setCell ⟨gv, rk, none⟩ (.int .i64 (IntKind.i64.wrap ((r5 : Int) - 1)))) := (Only.refl _ _).setCell _
      have hOAe := own_only hOA5 hk5 (fun hh => hngA _ hh rfl)
      clear x0 x1 xf hc5 hSO5 hSOa hSR5 hSRa hSO hSOd hSRd hk5 hOA5 hOA
      generalize w5.setCell ⟨gv, rk, none⟩ (.int .i64 (IntKind.i64.wrap ((r5 : Int) - 1))) = wz at hSRe hOAe ⊢
      obtain ⟨hSz, hUz, hBz, Kz, hKz, hOz⟩ := hSRe
      have HX := Lib.hid hBz
      have HOL := Lib.hid hOAe
      have HSf := Lib.hid hSz
      have HUf := Lib.hid hUz
      have HV := Lib.hid (IntsB.own hOz)
      have HR := Lib.hid ((hUz.block (k := w.heap.size) (by have := HSZ.out; omega) (by omega)).trans HB0.out)
      have hlV : Kz.length ≤ 6 := by omega
      have hzz := hUz.size
      clear hSz hBz hOz hOAe
      have q0 : wz.cell? ⟨w.heap.size, 0, none⟩ = some (.int .i64 0) := by rw [blk_cell HR.out]; rfl
      have q1 : wz.cell? ⟨w.heap.size, 1, none⟩ = some (.slice none 0 0) := by rw [blk_cell HR.out]; rfl
      have qf0 := blk_frozen HR.out 0
      have qf1 := blk_frozen HR.out 1
      have d0 : wz.cell? ⟨pb, 0, none⟩ = some (.int .i64 (L.length : Int)) := by rw [blk_cell HX.out]; rfl
      have d1 : wz.cell? ⟨pb, 1, none⟩ = some (.slice A L.length c) := by rw [blk_cell HX.out]; rfl
      go_wp2_with fail
      (try simp only [Exit.inBlock, Exit.then])
      refine bodyPost_ret (results_cell_tmp_row rfl _ _ w.heap.size _ _ _ _ rfl (blk_set (blk_set HR.out 0 _) 1 _) Tryz.underlying26 rfl hinfo) rfl ?_
      have hk : Only w.heap.size wz ((wz.setCell ⟨w.heap.size, 0, none⟩ (.int .i64 (L.length : Int))).setCell ⟨w.heap.size, 1, none⟩ (.slice A L.length c)) := ((Only.refl _ _).setCell _).setCell _
      have hz := HSZ.out
      exact ⟨_, _, L, _, _, rfl, ((IntsB.own HOL.out).only hk (by omega)).base (by omega), (HV.out.only hk (by omega)).base (by omega), by omega, by omega, HSf.out.other hk hgl, (hU0.trans HUf.out).newer hk (Nat.le_refl _)⟩
    | false =>
      have HV := Lib.hid (IntsB.own HV4.out)
      have hlV : V.length ≤ 6 := by have := HLV.out; omega
      have q0 : w4.cell? ⟨w.heap.size, 0, none⟩ = some (.int .i64 0) := by rw [blk_cell HR.out]; rfl
      have q1 : w4.cell? ⟨w.heap.size, 1, none⟩ = some (.slice none 0 0) := by rw [blk_cell HR.out]; rfl
      have qf0 := blk_frozen HR.out 0
      have qf1 := blk_frozen HR.out 1
      have d0 : w4.cell? ⟨pb, 0, none⟩ = some (.int .i64 (L.length : Int)) := by rw [blk_cell HX.out]; rfl
      have d1 : w4.cell? ⟨pb, 1, none⟩ = some (.slice A L.length c) := by rw [blk_cell HX.out]; rfl
      go_wp2_with fail
      (try simp only [Exit.inBlock, Exit.then])
      refine bodyPost_ret (results_cell_tmp_row rfl _ _ w.heap.size _ _ _ _ rfl (blk_set (blk_set HR.out 0 _) 1 _) Tryz.underlying26 rfl hinfo) rfl ?_
      have hk : Only w.heap.size w4 ((w4.setCell ⟨w.heap.size, 0, none⟩ (.int .i64 (L.length : Int))).setCell ⟨w.heap.size, 1, none⟩ (.slice A L.length c)) := ((Only.refl _ _).setCell _).setCell _
      have hz := HSZ.out
      exact ⟨_, _, L, _, _, rfl, ((IntsB.own HOL.out).only hk (by omega)).base (by omega), (HV.out.only hk (by omega)).base (by omega), by omega, by omega, HSf.out.other hk hgl, (hU0.trans HUf.out).newer hk (Nat.le_refl _)⟩

theorem Src.store {w w' : World} {g gb : Nat} {v : Value} {N : Nat} (h : Src w g v N) (hC : Code w' g v N) (ho : Only gb w w') (hne : g ≠ gb) : Src w' g v N := by
  have hl := h.lt
  obtain ⟨_, i, x, h2, h3, h4, h5⟩ := h
  exact ⟨hC, i, x, h2, h3, h4, (ho.block hl hne).trans h5⟩

theorem drawForced_c (v : Value) (N : Nat) (w : World) (h : ArgB w v N) (hN : N ≤ 4096) :
    Calls Tryz.prog 5 #[v] w (MnDrawn w) := by
  have hinfo := info2P
  have HF := Lib.hid (fun W (hW : Grew w W) => l01From_c v N W (h.grew hW) hN)
  have HB0 := Lib.hid (blk_new w (.cells #[.int .i64 0, .slice none 0 0] 26))
  have hg0 := (Grew.refl w).alloc (.cells #[.int .i64 0, .slice none 0 0] 26)
  have hsz0 : (w.alloc (.cells #[.int .i64 0, .slice none 0 0] 26)).heap.size = w.heap.size + 1 := by simp
  have HSZ := Lib.hid hsz0
  obtain ⟨w0, hw0⟩ : ∃ w0, w0 = w.alloc (.cells #[.int .i64 0, .slice none 0 0] 26) := ⟨_, rfl⟩
  rw [← hw0] at HB0 HSZ hg0
  have HCD := Lib.hid (fun W (hW : Grew w W) g (hg : w.heap.size ≤ g) => h.code hN hW hg)
  clear h hsz0
  go_enter Tryz.func5, Tryz.ntmps5
  go_wp2_with fail
  simp only [← hw0]
  clear hw0
  refine (HF.out _ hg0).mono ?_
  rintro e w1 ⟨g, rfl, hgw, hS1, hg1⟩
  have HS1 := Lib.hid hS1
  clear hS1 HF
  go_wp2_with fail
  refine (l17Draw_c g v N w1 HS1.out).mono ?_
  rintro e w2 ⟨v2, sz, L, u2, V, rfl, hL, hV, hlL, hlV, hS2, ho2⟩
  obtain ⟨A, c, rfl⟩ := ints_slice hL.1
  obtain ⟨A2, c2, rfl⟩ := ints_slice hV.1
  have hga := (Grew.refl w2).alloc (.cells #[.int .i64 sz, .slice A L.length c] 26)
  have hbx := blk_new w2 (.cells #[.int .i64 sz, .slice A L.length c] 26)
  have hsa : (w2.alloc (.cells #[.int .i64 sz, .slice A L.length c] 26)).heap.size = w2.heap.size + 1 := by simp
  have hgl := HS1.out.lt
  have hU2 := hg1.only.trans ho2
  have hR2 := (hga.block (k := w.heap.size) (by have := hU2.size; have := HSZ.out; omega)).trans ((hU2.block (k := w.heap.size) (by have := HSZ.out; omega) (by have := HSZ.out; omega)).trans HB0.out)
  obtain ⟨wa, hwa⟩ : ∃ wa, wa = w2.alloc (.cells #[.int .i64 sz, .slice A L.length c] 26) := ⟨_, rfl⟩
  rw [← hwa] at hga hbx hsa hR2
  have HX := Lib.hid hbx
  have HR := Lib.hid hR2
  have HSa := Lib.hid (hS2.grew hga)
  have HU2 := Lib.hid hU2
  have HLV := Lib.hid (And.intro hL hV)
  have HGA := Lib.hid (And.intro hga hsa)
  have hw2g : g < w2.heap.size := Nat.lt_of_lt_of_le hgl ho2.size
  have hG : Grew w wa := (hg0.trans ((hU2.grew hga).grew_of (Grew.refl w0) hgw))
  have hrb : w.heap.size < wa.heap.size := blk_lt hR2
  have hga2 : g < wa.heap.size := by omega
  have hrg : g ≠ w.heap.size := by have := HSZ.out; omega
  have KP : ∀ W, Only w.heap.size wa W → Calls Tryz.prog 20 #[.pointer (some ⟨g, 0, none⟩), .int .i64 20, .int .i64 6] W (Bent W g v N 47) := fun W hW => l17Plain_c g v N W (HSa.out.store (HCD.out W (hW.grew_of hG (Nat.le_refl _)) g (by have := HSZ.out; omega)) hW hrg)
  replace KP := Lib.hid KP
  have x0 : ∀ W, Only g wa W → W.cell? ⟨w2.heap.size, 0, none⟩ = some (.int .i64 sz) := fun W hW => (hW.cell (p := ⟨w2.heap.size, 0, none⟩) (by show w2.heap.size < _; omega) (by show w2.heap.size ≠ g; omega)).trans (by rw [blk_cell HX.out]; rfl)
  have x1 : ∀ W, Only g wa W → W.cell? ⟨w2.heap.size, 1, none⟩ = some (.slice A L.length c) := fun W hW => (hW.cell (p := ⟨w2.heap.size, 1, none⟩) (by show w2.heap.size < _; omega) (by show w2.heap.size ≠ g; omega)).trans (by rw [blk_cell HX.out]; rfl)
  have r0 : ∀ W, Only g wa W → W.cell? ⟨w.heap.size, 0, none⟩ = some (.int .i64 0) := fun W hW => by rw [blk_cell ((hW.block hrb hrg.symm).trans HR.out)]; rfl
  have r1 : ∀ W, Only g wa W → W.cell? ⟨w.heap.size, 1, none⟩ = some (.slice none 0 0) := fun W hW => by rw [blk_cell ((hW.block hrb hrg.symm).trans HR.out)]; rfl
  have f0 : ∀ W, Only g wa W → W.frozen? ⟨w.heap.size, 0, none⟩ = false := fun W hW => blk_frozen ((hW.block hrb hrg.symm).trans HR.out) 0
  have f1 : ∀ W, Only g wa W → W.frozen? ⟨w.heap.size, 1, none⟩ = false := fun W hW => blk_frozen ((hW.block hrb hrg.symm).trans HR.out) 1
  have o0 := Only.refl g wa
  have o1 := (Only.refl g wa).drew
  clear hga hbx hR2 hS2 hU2 hL hV ho2
  go_wp2_with fail
  simp only [← hwa]
  clear hwa
  go_region_with (go_at_call 20; refine Calls.mono (KP.out _ (by first | exact (Only.refl _ _).drew | exact Only.refl _ _ | exact ((Only.refl _ _).setCell _).setCell _ | exact (((Only.refl _ _).setCell _).setCell _).drew | exact (((Only.refl _ _).drew.setCell _).setCell _))) ?_; rintro e w5 ⟨v5, xs, rfl, hO5, hl5, hS5, ho5⟩; have o5 := (Only.refl g wa).drew.trans ho5; obtain ⟨A5, c5, rfl⟩ := nodes_slice hO5.nodes)
  all_goals
    go_wp2_with fail
  all_goals
    (try simp only [Exit.inBlock, Exit.then])
    have hR5 := (o5.block hrb hrg.symm).trans HR.out
    refine bodyPost_ret (results_cell_tmp2_row rfl _ _ w.heap.size _ _ _ _ rfl (blk_set (blk_set hR5 0 (.int .i64 sz)) 1 (.slice A L.length c)) Tryz.underlying26 rfl hinfo) rfl ?_
    have hk : Only w.heap.size w5 ((w5.setCell ⟨w.heap.size, 0, none⟩ (.int .i64 sz)).setCell ⟨w.heap.size, 1, none⟩ (.slice A L.length c)) := ((Only.refl _ _).setCell _).setCell _
    have hz := HSZ.out
    obtain ⟨hL, hV⟩ := HLV.out
    have hO6 := hO5.only hk (fun he => by have := own_of_ge hO5 he; have : wa.heap.size ≤ w.heap.size := this; omega)
    have hgw2 : w.heap.size ≤ g := by omega
    exact ⟨sz, _, L, _, V, _, xs, rfl, ((((hL.grew HGA.out.1).only o5 hgl).only hk (by omega))).1, ((((hV.grew HGA.out.1).only o5 hgl).only hk (by omega))).1, hO6.nodes, by omega, by omega, by omega, hk.grew_of (o5.grew_of hG hgw2) (Nat.le_refl _)⟩

theorem lawMn_c (v : Value) (N : Nat) (w : World) (h : ArgB w v N) : Calls Tryz.prog 3 #[v] w fun e w' => e = .returned (.bool true) ∧ Grew w w' :=
  lawMn_of v N w h (fun hN W hW => drawForced_c v N W (h.grew hW) hN)
end Go.Proofs.YtphljdhacbpkbaaGreat
