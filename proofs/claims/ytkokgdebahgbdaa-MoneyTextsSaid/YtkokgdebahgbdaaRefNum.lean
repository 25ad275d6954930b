/-
  The contract of the reference's Number.
-/
import Derived.Test.YtkokgdebahgbdaaMoneyB
import Derived.Test.YtkokgdebahgbdaaDigPlain
import Derived.Deep.CutBlock
import Derived.Deep.CutRange
import Derived.Lib.IndexBytes
namespace Go.Proofs.Ytkokgdebahgbdaa
open Go.RowKit

theorem neg_head {l : List UInt8} {c : UInt8} {r : List UInt8} (h : l = c :: r) : isNeg l = decide (c = 45) := by
  subst h
  unfold isNeg Lib.hasPrefix
  by_cases e : c = 45 <;> simp [List.isPrefixOf, e]
  · exact fun h => e h.symm
set_option maxHeartbeats 2000000 in
theorem r_number_any (s : ByteArray) (hs : s.size ≤ 9223372036854775807) (w : World) : Calls Try.prog 25 #[.string s] w (TwoRes (numberF s.data.toList) w) := by
  have hf : numberF s.data.toList = if okShape (body s.data.toList) (isNeg s.data.toList) && (body s.data.toList).all isDig then (if isNeg s.data.toList then -(valF 0 (body s.data.toList) : Int) else (valF 0 (body s.data.toList) : Int), 0) else (0, 1) := rfl
  by_cases h0 : s.size = 0
  · have hnil : s.data.toList = [] := List.eq_nil_of_length_eq_zero h0
    have HK : Hid (numberF s.data.toList = (0, 1)) := Lib.hid (by rw [hnil]; rfl)
    clear hf hnil
    go_enter Try.func25, Try.ntmps25
    go_wp2_with fail
    go_ret2
    exact two_res HK.out (Below.refl _ _)
  · have hpos : 0 < s.size := by omega
    have hcons : s.data.toList = s[0] :: s.data.toList.drop 1 := by
      have h1 : 0 < s.data.toList.length := hpos
      have := List.drop_eq_getElem_cons h1
      rw [List.drop_zero] at this
      exact this
    have hng := neg_head hcons
    by_cases hm : s[0].toNat = 45
    · have h45 : s[0] = 45 := UInt8.toNat_inj.1 hm
      rw [decide_eq_true h45] at hng
      have hbody : body s.data.toList = s.data.toList.drop 1 := by
        unfold body Lib.trimPrefix
        have : Lib.hasPrefix s.data.toList [45] = true := hng
        rw [if_pos this]; rfl
      rw [hng, hbody, ← Lib.extract_to_end] at hf
      have HF0 := Lib.hid hf
      have hsz1 : (s.extract 1 s.size).size ≤ 9223372036854775807 := by
        have h1 : (s.extract 1 s.size).size = (s.extract 1 s.size).data.toList.length := rfl
        rw [h1, Lib.extract_to_end, List.length_drop]
        have h2 : s.size = s.data.toList.length := rfl
        omega
      have hmb : ((s[0].toNat : Int) == 45) = true := by simp; omega
      clear hf hcons hng hbody h45
      go_enter Try.func25, Try.ntmps25
      go_upto_region 5 with (fail)
      generalize s.extract 1 s.size = D at *
      have HF : Hid (numberF s.data.toList = if okShape D.data.toList true && D.data.toList.all isDig then (-(valF 0 D.data.toList : Int), 0) else (0, 1)) := Lib.hid (by rw [HF0.out]; rfl)
      clear HF0 hmb hm

      have HSZ := Lib.hid (show D.size = D.data.toList.length from rfl)
      by_cases d0 : D.size = 0
      · have HK : Hid (numberF s.data.toList = (0, 1)) := by
          show numberF s.data.toList = (0, 1)
          have hnil : D.data.toList = [] := List.eq_nil_of_length_eq_zero (by rw [← HSZ.out]; exact d0)
          rw [HF.out, hnil]; rfl
        go_wp2_with fail
        go_ret2
        exact two_res HK.out (Below.refl _ _)
      have dpos : 0 < D.size := by omega
      by_cases h18 : 18 < D.size
      · have HK : Hid (numberF s.data.toList = (0, 1)) := by
          show numberF s.data.toList = (0, 1)
          have : okShape D.data.toList true = false := by unfold okShape; rw [← HSZ.out]; simp; omega
          rw [HF.out, this]; rfl
        go_wp2_with fail
        go_ret2
        exact two_res HK.out (Below.refl _ _)
      have hL0 : D.data.toList.head? = some (D[0]'dpos) := by
        rw [List.head?_eq_getElem?]
        exact List.getElem?_eq_getElem (by rw [← HSZ.out]; exact dpos)
      have HL0 := Lib.hid hL0
      clear hL0
      by_cases hbad : D[0].toNat = 48
      · have HK : Hid (numberF s.data.toList = (0, 1)) := by
          show numberF s.data.toList = (0, 1)
          have hc : (D[0]'dpos) = 48 := by apply UInt8.toNat_inj.1; exact hbad
          have : okShape D.data.toList true = false := by
            unfold okShape; rw [← HSZ.out, HL0.out, hc]; simp
          rw [HF.out, this]; rfl
        have q : ((D[0].toNat : Int) == 48) = true := by simp; omega
        clear hbad
        by_cases h1 : 1 < D.size
        all_goals
          go_wp2_with fail
          go_ret2
          exact two_res HK.out (Below.refl _ _)
      have hsh : okShape D.data.toList true = true := by
        unfold okShape; rw [← HSZ.out, HL0.out]
        have hne : D.data.toList.isEmpty = false := by
          cases hL : D.data.toList with
          | nil => exact absurd (show D.size = 0 from by rw [HSZ.out, hL]; rfl) (by omega)
          | cons c l => rfl
        rw [hne]
        have h18' : D.size ≤ 18 := by omega
        simp [h18']
        intro hc; exact hbad (by rw [hc]; rfl)
      have hf := HF.out
      rw [hsh, Bool.true_and] at hf
      have HG := Lib.hid hf
      clear hf hsh HF
      have q : ((D[0].toNat : Int) == 48) = false := by simp; omega
      clear hbad
      go_wp2_with fail
      go_loop [6, 7] (fun nv iv => ∃ k : Nat, k ≤ D.size ∧ iv = .int .i64 k ∧ nv = .int .i64 (valF 0 (D.data.toList.take k)) ∧ (D.data.toList.take k).all isDig = true) (fun _ iv => D.size - (intOf iv).toNat)
      case atStart => exact ⟨0, Nat.zero_le _, rfl, rfl, rfl⟩
      case round =>
        obtain ⟨k, hk, rfl, rfl, hall⟩ := hrel
        have hvb := valF_bound _ hall 0
        have hlen : (D.data.toList.take k).length = k := by rw [List.length_take]; have := HSZ.out; omega
        rw [hlen] at hvb
        have HALL := Lib.hid hall
        clear hall hlen q
        by_cases hlt : k < D.size
        · have hv17 : valF 0 (D.data.toList.take k) < 100000000000000000 := by
            have : (10 : Nat) ^ k ≤ 10 ^ 17 := Nat.pow_le_pow_right (by omega) (by omega)
            omega
          have hk1 : D.data.toList[k]? = some (D[k]'hlt) := List.getElem?_eq_getElem (by have := HSZ.out; omega)
          have htk : D.data.toList.take (k + 1) = D.data.toList.take k ++ [D[k]'hlt] := by rw [List.take_add_one, hk1]; rfl
          have HTK := Lib.hid htk
          have HK1 := Lib.hid hk1
          clear htk hk1 hvb
          generalize hvk : valF 0 (D.data.toList.take k) = vk at *
          have HVK := Lib.hid hvk
          clear hvk
          by_cases hd : 48 ≤ D[k].toNat ∧ D[k].toNat ≤ 57
          · obtain ⟨d1, d2⟩ := hd
            have hdi : isDig (D[k]'hlt) = true := by simp [isDig]; omega
            have HDI := Lib.hid hdi
            clear hdi
            go_wp2_with fail
            go_round
            case rel =>
              refine ⟨k + 1, by omega, by go_num, ?_, ?_⟩
              · rw [HTK.out, valF_append, HVK.out]
                simp only [valF, List.foldl_cons, List.foldl_nil]
                congr 1
                omega
              · rw [HTK.out, List.all_append, HALL.out]; simp [HDI.out]
            case measure => simp [intOf]; omega
          · have hno : D.data.toList.all isDig = false := by
              rw [List.all_eq_false]
              refine ⟨D[k]'hlt, List.mem_of_getElem? HK1.out, ?_⟩
              simp [isDig]; omega
            have HN : Hid (numberF s.data.toList = (0, 1)) := by
              show numberF s.data.toList = (0, 1)
              rw [HG.out, hno]; rfl
            clear hno HG
            by_cases d1 : 48 ≤ D[k].toNat
            · have d2 : 57 < D[k].toNat := by omega
              clear hd
              go_wp2_with fail
              go_ret2
              exact two_res HN.out (Below.refl _ _)
            · clear hd
              go_wp2_with fail
              go_ret2
              exact two_res HN.out (Below.refl _ _)
        · have e' : D.data.toList.take k = D.data.toList := by rw [show k = D.size by omega, HSZ.out, List.take_length]
          have hall := HALL.out
          rw [e'] at hall hvb
          have hg := HG.out
          rw [hall, if_pos rfl] at hg
          have hvb2 : valF 0 D.data.toList < 1000000000000000000 := by
            have : (10 : Nat) ^ k ≤ 10 ^ 18 := Nat.pow_le_pow_right (by omega) (by omega)
            omega
          rw [e']
          have HN := Lib.hid hg
          clear hg hall e' HALL HG hvb
          generalize valF 0 D.data.toList = vv at *
          go_wp2_with fail
          go_ret2
          exact two_res HN.out (Below.refl _ _)
    · have hn45 : ¬ s[0] = 45 := fun e => hm (by rw [e]; rfl)
      rw [decide_eq_false hn45] at hng
      have hbody : body s.data.toList = s.data.toList := by
        unfold body Lib.trimPrefix
        have : Lib.hasPrefix s.data.toList [45] = false := hng
        rw [if_neg (by rw [this]; simp)]
      rw [hng, hbody] at hf
      have HF : Hid (numberF s.data.toList = if okShape s.data.toList false && s.data.toList.all isDig then ((valF 0 s.data.toList : Int), 0) else (0, 1)) := Lib.hid (by rw [hf]; rfl)
      have hmb : ((s[0].toNat : Int) == 45) = false := by simp; omega
      clear hf hcons hng hbody hn45
      go_enter Try.func25, Try.ntmps25
      go_upto_region 5 with (fail)
      clear hmb hm

      have HSZ := Lib.hid (show s.size = s.data.toList.length from rfl)
      have dpos : 0 < s.size := by omega
      by_cases h18 : 18 < s.size
      · have HK : Hid (numberF s.data.toList = (0, 1)) := by
          show numberF s.data.toList = (0, 1)
          have : okShape s.data.toList false = false := by unfold okShape; rw [← HSZ.out]; simp; omega
          rw [HF.out, this]; rfl
        go_wp2_with fail
        go_ret2
        exact two_res HK.out (Below.refl _ _)
      have hL0 : s.data.toList.head? = some (s[0]'dpos) := by
        rw [List.head?_eq_getElem?]
        exact List.getElem?_eq_getElem (by rw [← HSZ.out]; exact dpos)
      have HL0 := Lib.hid hL0
      clear hL0
      by_cases hbad : s[0].toNat = 48 ∧ 1 < s.size
      · have HK : Hid (numberF s.data.toList = (0, 1)) := by
          show numberF s.data.toList = (0, 1)
          have hc : (s[0]'dpos) = 48 := by apply UInt8.toNat_inj.1; exact hbad.1
          have : okShape s.data.toList false = false := by
            unfold okShape; rw [← HSZ.out, HL0.out, hc]; simp
            intro _ _; omega
          rw [HF.out, this]; rfl
        have q : ((s[0].toNat : Int) == 48) = true := by simp; omega
        have h1 : 1 < s.size := hbad.2
        clear hbad
        go_wp2_with fail
        go_ret2
        exact two_res HK.out (Below.refl _ _)
      have hsh : okShape s.data.toList false = true := by
        unfold okShape; rw [← HSZ.out, HL0.out]
        have hne : s.data.toList.isEmpty = false := by
          cases hL : s.data.toList with
          | nil => exact absurd (show s.size = 0 from by rw [HSZ.out, hL]; rfl) (by omega)
          | cons c l => rfl
        rw [hne]
        have h18' : s.size ≤ 18 := by omega
        simp [h18']
        by_cases hc : s[0]'dpos = 48
        · right
          have hc' : s[0].toNat = 48 := by rw [hc]; rfl
          rcases Nat.lt_or_ge 1 s.size with g | g
          · exact absurd ⟨hc', g⟩ hbad
          · exact g
        · exact .inl hc
      have hf := HF.out
      rw [hsh, Bool.true_and] at hf
      have HG := Lib.hid hf
      clear hf hsh HF
      have key : ((s[0].toNat : Int) == 48) = false ∨ (((s[0].toNat : Int) == 48) = true ∧ ¬ 1 < s.size) := by
        by_cases hc : s[0].toNat = 48
        · exact .inr ⟨by simp [hc], fun g => hbad ⟨hc, g⟩⟩
        · exact .inl (by simp; omega)
      clear hbad
      rcases key with q | ⟨q, q1⟩
      all_goals
        go_wp2_with fail
        go_loop [6, 7] (fun nv iv => ∃ k : Nat, k ≤ s.size ∧ iv = .int .i64 k ∧ nv = .int .i64 (valF 0 (s.data.toList.take k)) ∧ (s.data.toList.take k).all isDig = true) (fun _ iv => s.size - (intOf iv).toNat)
        case atStart => exact ⟨0, Nat.zero_le _, rfl, rfl, rfl⟩
        case round =>
          obtain ⟨k, hk, rfl, rfl, hall⟩ := hrel
          have hvb := valF_bound _ hall 0
          have hlen : (s.data.toList.take k).length = k := by rw [List.length_take]; have := HSZ.out; omega
          rw [hlen] at hvb
          have HALL := Lib.hid hall
          clear hall hlen q
          by_cases hlt : k < s.size
          · have hv17 : valF 0 (s.data.toList.take k) < 100000000000000000 := by
              have : (10 : Nat) ^ k ≤ 10 ^ 17 := Nat.pow_le_pow_right (by omega) (by omega)
              omega
            have hk1 : s.data.toList[k]? = some (s[k]'hlt) := List.getElem?_eq_getElem (by have := HSZ.out; omega)
            have htk : s.data.toList.take (k + 1) = s.data.toList.take k ++ [s[k]'hlt] := by rw [List.take_add_one, hk1]; rfl
            have HTK := Lib.hid htk
            have HK1 := Lib.hid hk1
            clear htk hk1 hvb
            generalize hvk : valF 0 (s.data.toList.take k) = vk at *
            have HVK := Lib.hid hvk
            clear hvk
            by_cases hd : 48 ≤ s[k].toNat ∧ s[k].toNat ≤ 57
            · obtain ⟨d1, d2⟩ := hd
              have hdi : isDig (s[k]'hlt) = true := by simp [isDig]; omega
              have HDI := Lib.hid hdi
              clear hdi
              go_wp2_with fail
              go_round
              case rel =>
                refine ⟨k + 1, by omega, by go_num, ?_, ?_⟩
                · rw [HTK.out, valF_append, HVK.out]
                  simp only [valF, List.foldl_cons, List.foldl_nil]
                  congr 1
                  omega
                · rw [HTK.out, List.all_append, HALL.out]; simp [HDI.out]
              case measure => simp [intOf]; omega
            · have hno : s.data.toList.all isDig = false := by
                rw [List.all_eq_false]
                refine ⟨s[k]'hlt, List.mem_of_getElem? HK1.out, ?_⟩
                simp [isDig]; omega
              have HN : Hid (numberF s.data.toList = (0, 1)) := by
                show numberF s.data.toList = (0, 1)
                rw [HG.out, hno]; rfl
              clear hno HG
              by_cases d1 : 48 ≤ s[k].toNat
              · have d2 : 57 < s[k].toNat := by omega
                clear hd
                go_wp2_with fail
                go_ret2
                exact two_res HN.out (Below.refl _ _)
              · clear hd
                go_wp2_with fail
                go_ret2
                exact two_res HN.out (Below.refl _ _)
          · have e' : s.data.toList.take k = s.data.toList := by rw [show k = s.size by omega, HSZ.out, List.take_length]
            have hall := HALL.out
            rw [e'] at hall hvb
            have hg := HG.out
            rw [hall, if_pos rfl] at hg
            have hvb2 : valF 0 s.data.toList < 1000000000000000000 := by
              have : (10 : Nat) ^ k ≤ 10 ^ 18 := Nat.pow_le_pow_right (by omega) (by omega)
              omega
            rw [e']
            have HN := Lib.hid hg
            clear hg hall e' HALL HG hvb
            generalize valF 0 s.data.toList = vv at *
            go_wp2_with fail
            go_ret2
            exact two_res HN.out (Below.refl _ _)
end Go.Proofs.Ytkokgdebahgbdaa
