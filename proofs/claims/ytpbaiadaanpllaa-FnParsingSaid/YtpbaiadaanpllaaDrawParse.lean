/- DrawParseFormula gives a text, whatever the bytes. -/
import Derived.Test.YtpbaiadaanpllaaDraw
import Derived.Test.YtpbaiadaanpllaaDamage
import Derived.Test.YtpbaiadaanpllaaWrite
namespace Go.Proofs.Ytpbaiadaanpllaa
open Go.RowKit
open Fm (Nd)

theorem drawParse_c (v : Value) (N : Nat) (w : World) (h : ArgB w v N) (hN : N ≤ 4096) :
    Calls Try.prog 28 #[v] w fun e w' => ∃ s, e = .returned (.string s) ∧ s.size ≤ 1000 ∧ Grew w w' := by
  have HF := Lib.hid (l01From_c v N w h hN)
  clear h
  go_enter Try.func28, Try.ntmps28
  go_wp2_with fail
  refine HF.out.mono ?_
  rintro e w1 ⟨g, rfl, hgw, hS1, hg1⟩
  have HS1 := Lib.hid hS1
  have hgl := hS1.lt
  clear hS1
  go_wp2_with fail
  refine (l02Draw_c g v N 16 16 _ (by omega) (by omega) (by omega) HS1.out).mono ?_
  rintro e w2 ⟨a, xs, rfl, ho2, ⟨t, rfl⟩, hl2, hS2, hoo2⟩
  have hg2 := hoo2.grew_of hg1 hgw
  have HS2 := Lib.hid hS2
  clear hS2 hoo2 hg1 HS1
  have hlen := Fm.txt_len t 0
  go_wp2_with fail
  refine (l02Text_c t a _ ho2.nodes (by omega)).mono ?_
  rintro e w3 ⟨rfl, hg3⟩
  have HS3 := Lib.hid (HS2.out.grew hg3)
  have hG3 := hg2.trans hg3
  clear HS2 hg2 hg3 ho2
  have hsz : (bs (Fm.txt t 0)).size ≤ 64 := by rw [bs_size]; omega
  clear hlen hl2
  generalize bs (Fm.txt t 0) = s at *
  go_wp2_with fail
  refine (l01Next_c g v N 4 _ HS3.out (by omega)).mono ?_
  rintro e w4 ⟨r4, rfl, _, _, _, hS4, ho4⟩
  have HS4 := Lib.hid hS4
  have hG4 := ho4.grew_of hG3 hgw
  clear hS4 ho4 HS3 hG3
  cases he0 : (r4 == 0) with
  | true =>
    go_wp2_with fail
    go_ret
    exact ⟨_, rfl, by omega, hG4⟩
  | false =>
  cases he1 : (r4 == 1) with
  | true =>
    go_wp2_with fail
    go_ret
    exact ⟨_, rfl, by rw [ByteArray.size_append, ByteArray.size_append]; have h1 : (ByteArray.mk #[40]).size = 1 := rfl; have h2 : (ByteArray.mk #[41]).size = 1 := rfl; omega, hG4⟩
  | false =>
  go_wp2_with fail
  refine (l01Next_c g v N 20 _ HS4.out (by omega)).mono ?_
  rintro e w5 ⟨r5, rfl, _, _, _, hS5, ho5⟩
  have HS5 := Lib.hid hS5
  have hG5 := ho5.grew_of hG4 hgw
  clear hS5 ho5 HS4 hG4
  cases he5 : (r5 == 0) with
  | false =>
    go_wp2_with fail
    refine (l01Damage_c g v N s _ HS5.out (by omega)).mono ?_
    rintro e w6 ⟨s6, rfl, hs6, _, ho6⟩
    go_wp2_with fail
    go_ret
    exact ⟨_, rfl, by omega, ho6.grew_of hG5 hgw⟩
  | true =>
    go_wp2_with fail
    go_loopg [5] (402 - s.size) (fun k i wr => ∃ z : ByteArray, z.size ≤ 401 ∧ k = 402 - z.size ∧ i = .string z ∧ Src wr g v N ∧ Grew w wr)
    case atStart => exact ⟨s, by omega, rfl, rfl, HS5.out, hG5⟩
    case round =>
      obtain ⟨z, hz, rfl, rfl, hSr, hB⟩ := hrel
      have HSr := Lib.hid hSr
      clear hSr HS5 hG5
      by_cases h200 : z.size ≤ 200
      · go_wp2_with fail
        refine (l01Next_c g v N 100 _ HSr.out (by omega)).mono ?_
        rintro e w6 ⟨r6, rfl, hr60, _, _, hS6, ho6⟩
        have HS6 := Lib.hid hS6
        have hG6 := ho6.grew_of hB hgw
        clear hS6 ho6 HSr hB
        by_cases hpos : 0 < r6
        · have hsz2 : (z ++ ⟨#[38]⟩ ++ z).size = 2 * z.size + 1 := by
            rw [ByteArray.size_append, ByteArray.size_append]
            have h1 : (ByteArray.mk #[38]).size = 1 := rfl
            omega
          go_wp2_with fail
          go_roundg (402 - (2 * z.size + 1))
          case measure => omega
          case rel => exact ⟨_, by omega, by omega, rfl, HS6.out, hG6⟩
        · go_wp2_with fail
          refine (l01Damage_c g v N z _ HS6.out (by omega)).mono ?_
          rintro e w7 ⟨s7, rfl, hs7, _, ho7⟩
          go_wp2_with fail
          go_ret
          exact ⟨_, rfl, by omega, ho7.grew_of hG6 hgw⟩
      · go_wp2_with fail
        refine (l01Damage_c g v N z _ HSr.out (by omega)).mono ?_
        rintro e w7 ⟨s7, rfl, hs7, _, ho7⟩
        go_wp2_with fail
        go_ret
        exact ⟨_, rfl, by omega, ho7.grew_of hB hgw⟩
end Go.Proofs.Ytpbaiadaanpllaa
