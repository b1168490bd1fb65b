/- The drawn formula: l02Draw gives a tree of at most as many nodes as told. -/
import Derived.Test.YtpbaiadaanpllaaSrc
import Derived.Test.YtpbaiadaanpllaaLit
import Derived.Test.YtpbaiadaanpllaaTree
namespace Go.Proofs.Ytpbaiadaanpllaa
open Go.RowKit
open Fm (Nd)

theorem isEnc_vari {r : Int} (h0 : 0 ≤ r) (h1 : r < 6) : Fm.IsEnc (Fm.vari r) :=
  ⟨.var ⟨r.toNat, by omega⟩, by simp [Fm.vari, Fm.enc, Int.toNat_of_nonneg h0]⟩

/-- What the draw gives. -/
def Drawn (w : World) (g : Nat) (cv : Value) (N : Nat) (size : Int) (e : Ending) (w' : World) : Prop :=
  ∃ v xs, e = .returned v ∧ Own w' w.heap.size v xs ∧ Fm.IsEnc xs ∧ (xs.length : Int) ≤ size ∧ Src w' g cv N ∧ Only g w w'

theorem own_src {w w' : World} {B g : Nat} {v : Value} {xs : List Nd} (h : Own w B v xs) (hg : g < B) (ho : Only g w w') : Own w' B v xs :=
  own_only h ho (fun he => by have := own_of_ge h he; omega)

theorem l02Draw_c (g : Nat) (cv : Value) (N : Nat) : ∀ (m : Nat) (size : Int) (w : World), 1 ≤ size → size ≤ m → m ≤ 1000 → Src w g cv N →
    Calls Try.prog 64 #[.pointer (some ⟨g, 0, none⟩), .int .i64 size, .int .i64 6, .bool true] w (Drawn w g cv N size) := by
  intro m
  induction m with
  | zero => intro size w h1 h2; omega
  | succ m ih =>
    intro size w h1 h2 hm hS
    have IH := Lib.hid (fun size w a b c => ih size w a b (by omega) c)
    clear ih
    have hgs := hS.lt
    by_cases hsz : size ≤ 2
    · have HSa := Lib.hid hS
      have hoa := Only.refl g w
      clear hS
      go_enter Try.func64, Try.ntmps64
      go_wp2_with fail
      refine (l01Next_c g cv N 8 _ HSa.out (by omega)).mono ?_
      rintro e wb ⟨r2, rfl, _, _, _, hSb, hob⟩
      have HSb := Lib.hid hSb
      have hab := hoa.trans hob
      clear hSb hob
      cases hr2 : (r2 == 0) with
      | true =>
        go_wp2_with fail
        refine (l02False_c _).mono ?_
        rintro e wc ⟨v, rfl, ho, hg⟩
        go_wp2_with fail
        go_ret
        exact ⟨_, _, rfl, ho.base hab.size, Fm.isEnc_falsum, by simp [Fm.falsum]; omega, HSb.out.grew hg, hab.grew hg⟩
      | false =>
        go_wp2_with fail
        refine (l01Next_c g cv N 6 _ HSb.out (by omega)).mono ?_
        rintro e wc ⟨r3, rfl, hr30, hr31, _, hSc, hoc⟩
        have HSc := Lib.hid hSc
        have hac := hab.trans hoc
        clear hSc hoc
        go_wp2_with fail
        refine (l02Var_c r3 _).mono ?_
        rintro e wd ⟨v, rfl, ho, hg⟩
        go_wp2_with fail
        go_ret
        exact ⟨_, _, rfl, ho.base hac.size, isEnc_vari hr30 (hr31 (by omega)), by simp [Fm.vari]; omega, HSc.out.grew hg, hac.grew hg⟩
    have HS := Lib.hid hS
    clear hS
    go_enter Try.func64, Try.ntmps64
    go_wp2_with fail
    refine (l01Next_c g cv N 9 _ HS.out (by omega)).mono ?_
    rintro e wa ⟨r1, rfl, _, _, _, hSa, hoa⟩
    have HSa := Lib.hid hSa
    clear hSa HS
    cases hr1 : (r1 == 0) with
    | true =>
      go_wp2_with fail
      refine (l01Next_c g cv N 8 _ HSa.out (by omega)).mono ?_
      rintro e wb ⟨r2, rfl, _, _, _, hSb, hob⟩
      have HSb := Lib.hid hSb
      have hab := hoa.trans hob
      clear hSb hob
      cases hr2 : (r2 == 0) with
      | true =>
        go_wp2_with fail
        refine (l02False_c _).mono ?_
        rintro e wc ⟨v, rfl, ho, hg⟩
        go_wp2_with fail
        go_ret
        exact ⟨_, _, rfl, ho.base hab.size, Fm.isEnc_falsum, by simp [Fm.falsum]; omega, HSb.out.grew hg, hab.grew hg⟩
      | false =>
        go_wp2_with fail
        refine (l01Next_c g cv N 6 _ HSb.out (by omega)).mono ?_
        rintro e wc ⟨r3, rfl, hr30, hr31, _, hSc, hoc⟩
        have HSc := Lib.hid hSc
        have hac := hab.trans hoc
        clear hSc hoc
        go_wp2_with fail
        refine (l02Var_c r3 _).mono ?_
        rintro e wd ⟨v, rfl, ho, hg⟩
        go_wp2_with fail
        go_ret
        exact ⟨_, _, rfl, ho.base hac.size, isEnc_vari hr30 (hr31 (by omega)), by simp [Fm.vari]; omega, HSc.out.grew hg, hac.grew hg⟩
    | false =>
    go_wp2_with fail
    refine (l01Next_c g cv N 3 _ HSa.out (by omega)).mono ?_
    rintro e wb ⟨r2, rfl, _, _, _, hSb, hob⟩
    have HSb := Lib.hid hSb
    have hab := hoa.trans hob
    clear hSb hob hoa HSa
    cases hr2 : (r2 == 0) with
    | true =>
      go_wp2_with fail
      refine (l01Next_c g cv N 2 _ HSb.out (by omega)).mono ?_
      rintro e wc ⟨r3, rfl, hr30, hr31, _, hSc, hoc⟩
      have HSc := Lib.hid hSc
      have hac := hab.trans hoc
      have hr32 := hr31 (by omega)
      clear hSc hoc hr31
      go_wp2_with fail
      refine (IH.out (size - 1) _ (by omega) (by omega) HSc.out).mono ?_
      rintro e wd ⟨v, xs, rfl, ho, he, hl, hSd, hod⟩
      have HSd := Lib.hid hSd
      clear hSd
      have HE := Lib.hid he
      clear he
      go_wp2_with fail
      refine (l02Pre_c _ v xs _ ho.nodes (by omega)).mono ?_
      rintro e we ⟨v2, rfl, ho2, hg2⟩
      go_wp2_with fail
      go_ret
      exact ⟨_, _, rfl, ho2.base (hac.trans hod).size, Fm.isEnc_pre (by omega) HE.out, by simp [Fm.pre]; omega, HSd.out.grew hg2, (hac.trans hod).grew hg2⟩
    | false =>
    go_wp2_with fail
    refine (l01Next_c g cv N 6 _ HSb.out (by omega)).mono ?_
    rintro e wc ⟨r3, rfl, _, _, _, hSc, hoc⟩
    have HSc := Lib.hid hSc
    have hac := hab.trans hoc
    clear hSc hoc hab HSb
    cases hr3 : (r3 == 0) with
    | true =>
      go_wp2_with fail
      refine (IH.out (size - 2) _ (by omega) (by omega) HSc.out).mono ?_
      rintro e wd ⟨v, xs, rfl, ho, he, hl, hSd, hod⟩
      have HSd := Lib.hid hSd
      clear hSd
      have HE := Lib.hid he
      clear he
      go_wp2_with fail
      refine (l02Not_c v xs _ ho.nodes (by omega)).mono ?_
      rintro e we ⟨v2, rfl, ho2, hg2⟩
      go_wp2_with fail
      go_ret
      exact ⟨_, _, rfl, ho2.base (hac.trans hod).size, Fm.isEnc_join (.inr (.inr rfl)) HE.out Fm.isEnc_falsum, by simp [Fm.neg, Fm.join, Fm.falsum]; omega, HSd.out.grew hg2, (hac.trans hod).grew hg2⟩
    | false =>
    go_wp2_with fail
    refine (l01Next_c g cv N (size - 2) _ HSc.out (by omega)).mono ?_
    rintro e wd ⟨r4, rfl, hr40, hr41, _, hSd, hod⟩
    have HSd := Lib.hid hSd
    have had := hac.trans hod
    have hr42 := hr41 (by omega)
    clear hSd hod hac HSc hr41
    go_wp2_with fail
    refine (IH.out (1 + r4) _ (by omega) (by omega) HSd.out).mono ?_
    rintro e we ⟨v1, xs, rfl, ho1, he1, hl1, hSe, hoe⟩
    have HSe := Lib.hid hSe
    have HE1 := Lib.hid he1
    have hsize := had.size
    have hae := had.trans hoe
    have HO1 := Lib.hid ho1
    clear hSe he1 hoe ho1
    go_wp2_with fail
    refine (l01Next_c g cv N 3 _ HSe.out (by omega)).mono ?_
    rintro e wf ⟨r5, rfl, hr50, hr51, _, hSf, hof⟩
    have HSf := Lib.hid hSf
    have HO2 := Lib.hid (own_src HO1.out (by omega) hof)
    have haf := hae.trans hof
    have hr52 := hr51 (by omega)
    clear hSf hof HO1 HSe hr51
    go_wp2_with fail
    refine (IH.out (size - 1 - (1 + r4)) _ (by omega) (by omega) HSf.out).mono ?_
    rintro e wg ⟨v2, ys, rfl, ho2, he2, hl2, hSg, hog⟩
    have HSg := Lib.hid hSg
    have HE2 := Lib.hid he2
    have hO3 := own_src HO2.out (by omega) hog
    have hag := haf.trans hog
    clear hSg he2 hog HSf HO2
    go_wp2_with fail
    refine (l02Pair_c _ v1 v2 xs ys _ hO3.nodes ho2.nodes (by omega)).mono ?_
    rintro e wh ⟨v3, rfl, ho3, hg3⟩
    go_wp2_with fail
    go_ret
    exact ⟨_, _, rfl, ho3.base hag.size, Fm.isEnc_join (by omega) HE1.out HE2.out, by simp [Fm.join]; omega, HSg.out.grew hg3, hag.grew hg3⟩
end Go.Proofs.Ytpbaiadaanpllaa
