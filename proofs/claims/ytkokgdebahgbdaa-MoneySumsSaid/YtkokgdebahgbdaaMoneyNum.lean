/-
  The contract of money's Number.
-/
import Derived.Test.YtkokgdebahgbdaaMoneyB
import Derived.Test.YtkokgdebahgbdaaDigPlain
namespace Go.Proofs.Ytkokgdebahgbdaa
open Go.RowKit

set_option maxHeartbeats 1000000 in
theorem number_any (s : ByteArray) (w : World) : Calls Try.prog 20 #[.string s] w (TwoRes (numberF s.data.toList) w) := by
  have hf : numberF s.data.toList = if okShape (body s.data.toList) (isNeg s.data.toList) && (body s.data.toList).all isDig then (if isNeg s.data.toList then -(valF 0 (body s.data.toList) : Int) else (valF 0 (body s.data.toList) : Int), 0) else (0, 1) := rfl
  have HF := Lib.hid hf
  clear hf
  go_enter Try.func20, Try.ntmps20
  go_wp2_with fail
  refine (Try.strings_CutPrefix s ⟨#[45]⟩ w).mono ?_
  rintro en w1 ⟨rfl, rfl⟩
  rw [show Lib.trimPrefix s.data.toList (ByteArray.mk #[45]).data.toList = body s.data.toList from rfl, show Lib.hasPrefix s.data.toList (ByteArray.mk #[45]).data.toList = isNeg s.data.toList from rfl]
  generalize isNeg s.data.toList = ng at *
  obtain ⟨D, hD⟩ : ∃ D : ByteArray, D = ⟨(body s.data.toList).toArray⟩ := ⟨_, rfl⟩
  have hd : body s.data.toList = D.data.toList := by rw [hD]
  rw [← hD]
  rw [hd] at HF
  clear hD hd
  have hsz : D.size = D.data.toList.length := rfl
  have HSZ := Lib.hid hsz
  have hlist : D.toList = D.data.toList := ByteArray.toList_eq D
  by_cases h0 : D.size = 0
  · have hnil : D.data.toList = [] := List.eq_nil_of_length_eq_zero (by rw [← hsz]; exact h0)
    have he : D.toList.isEmpty = true := by rw [hlist, hnil]; rfl
    have HK : Hid (numberF s.data.toList = (0, 1)) := by
      show numberF s.data.toList = (0, 1)
      rw [HF.out, hnil]; rfl
    clear HF hsz hlist hnil
    go_wp2_with fail
    go_ret2
    exact two_res HK.out (Below.refl _ _)
  · have he : D.toList.isEmpty = false := by
      rw [hlist]
      cases hL : D.data.toList with
      | nil => exact absurd (by rw [hsz, hL]; rfl) h0
      | cons c l => rfl
    by_cases h18 : 18 < D.size
    · have HK : Hid (numberF s.data.toList = (0, 1)) := by
        show numberF s.data.toList = (0, 1)
        have : okShape D.data.toList ng = false := by unfold okShape; rw [← hsz]; simp; omega
        rw [HF.out, this]; rfl
      clear HF hsz hlist
      go_wp2_with fail
      go_ret2
      exact two_res HK.out (Below.refl _ _)
    · have hpos : 0 < D.size := by omega
      have hL0 : D.data.toList.head? = some (D[0]'hpos) := by
        rw [List.head?_eq_getElem?]
        exact List.getElem?_eq_getElem (by rw [← hsz]; exact hpos)
      by_cases hbad : D[0].toNat = 48 ∧ (1 < D.size ∨ ng = true)
      · have HK : Hid (numberF s.data.toList = (0, 1)) := by
          show numberF s.data.toList = (0, 1)
          have hc : (D[0]'hpos) = 48 := by
            apply UInt8.toNat_inj.1; exact hbad.1
          have : okShape D.data.toList ng = false := by
            unfold okShape; rw [← hsz, hL0, hc]; simp
            intro _ _ h'
            rcases hbad.2 with h2 | h2
            · omega
            · exact h2
          rw [HF.out, this]; rfl
        obtain ⟨hb1, hb2⟩ := hbad
        have q : ((D[0].toNat : Int) == 48) = true := by simp; omega
        clear HF hsz hlist hL0 hb1
        by_cases h1 : 1 < D.size
        · go_wp2_with fail
          go_ret2
          exact two_res HK.out (Below.refl _ _)
        · have hng : ng = true := by rcases hb2 with h | h; exact absurd h h1; exact h
          subst hng
          go_wp2_with fail
          go_ret2
          exact two_res HK.out (Below.refl _ _)
      · have hsh : okShape D.data.toList ng = true := by
          unfold okShape; rw [← hsz, hL0]
          have hne : D.data.toList.isEmpty = false := by rw [← hlist]; exact he
          rw [hne]
          have h18' : D.size ≤ 18 := by omega
          simp [h18']
          by_cases hc : D[0]'hpos = 48
          · right
            have hc' : D[0].toNat = 48 := by rw [hc]; rfl
            have : ¬ (1 < D.size ∨ ng = true) := fun h => hbad ⟨hc', h⟩
            constructor
            · omega
            · cases ng
              · rfl
              · exact absurd (.inr rfl) this
          · exact .inl hc
        have hf := HF.out
        rw [hsh, Bool.true_and] at hf
        have HG := Lib.hid hf
        have HL0 := Lib.hid hL0
        have HB := Lib.hid hbad
        clear HF hf hsh hL0 hlist hsz hbad
        have key : ((D[0].toNat : Int) == 48) = false ∨ (((D[0].toNat : Int) == 48) = true ∧ ¬ 1 < D.size ∧ ng = false) := by
          by_cases hc : D[0].toNat = 48
          · refine .inr ⟨by simp; omega, fun h => HB.out ⟨hc, .inl h⟩, ?_⟩
            cases ng
            · rfl
            · exact absurd ⟨hc, .inr rfl⟩ HB.out
          · exact .inl (by simp; omega)
        clear HB
        rcases key with q | ⟨q, q1, rfl⟩
        all_goals
          go_wp2_with fail
          go_loop [6, 7, 35] (fun nv _ iv => ∃ k : Nat, k ≤ D.size ∧ iv = .int .i64 k ∧ nv = .int .i64 (valF 0 (D.data.toList.take k)) ∧ (D.data.toList.take k).all isDig = true) (fun _ _ iv => D.size - (intOf iv).toNat)
          case atStart => exact ⟨0, Nat.zero_le _, rfl, rfl, rfl⟩
          case round =>
            obtain ⟨k, hk, rfl, rfl, hall⟩ := hrel
            have hvb := valF_bound _ hall 0
            have hlen : (D.data.toList.take k).length = k := by rw [List.length_take]; have := HSZ.out; omega
            rw [hlen] at hvb
            have HALL := Lib.hid hall
            clear hall hlen q
            by_cases hlt : k < D.size
            · have hv17 : valF 0 (D.data.toList.take k) < 100000000000000000 := by
                have : (10 : Nat) ^ k ≤ 10 ^ 17 := Nat.pow_le_pow_right (by omega) (by omega)
                omega
              have hk1 : D.data.toList[k]? = some (D[k]'hlt) := List.getElem?_eq_getElem (by have := HSZ.out; omega)
              have htk : D.data.toList.take (k + 1) = D.data.toList.take k ++ [D[k]'hlt] := by rw [List.take_add_one, hk1]; rfl
              have HTK := Lib.hid htk
              have HK1 := Lib.hid hk1
              clear htk hk1 hvb
              generalize hvk : valF 0 (D.data.toList.take k) = vk at *
              have HVK := Lib.hid hvk
              clear hvk
              by_cases hd : 48 ≤ D[k].toNat ∧ D[k].toNat ≤ 57
              · obtain ⟨d1, d2⟩ := hd
                have hdi : isDig (D[k]'hlt) = true := by simp [isDig]; omega
                have HDI := Lib.hid hdi
                clear hdi
                go_wp2_with fail
                go_round
                case rel =>
                  refine ⟨k + 1, by omega, by go_num, ?_, ?_⟩
                  · rw [HTK.out, valF_append, HVK.out]
                    simp only [valF, List.foldl_cons, List.foldl_nil]
                    congr 1
                    omega
                  · rw [HTK.out, List.all_append, HALL.out]; simp [HDI.out]
                case measure => simp [intOf]; omega
              · have hno : D.data.toList.all isDig = false := by
                  rw [List.all_eq_false]
                  refine ⟨D[k]'hlt, List.mem_of_getElem? HK1.out, ?_⟩
                  simp [isDig]; omega
                have HN : Hid (numberF s.data.toList = (0, 1)) := by
                  show numberF s.data.toList = (0, 1)
                  rw [HG.out, hno]; rfl
                clear hno HG
                by_cases d1 : 48 ≤ D[k].toNat
                · have d2 : 57 < D[k].toNat := by omega
                  clear hd
                  go_wp2_with fail
                  go_ret2
                  exact two_res HN.out (Below.refl _ _)
                · clear hd
                  go_wp2_with fail
                  go_ret2
                  exact two_res HN.out (Below.refl _ _)
            · have e' : D.data.toList.take k = D.data.toList := by rw [show k = D.size by omega, HSZ.out, List.take_length]
              have hall := HALL.out
              rw [e'] at hall hvb
              have hg := HG.out
              rw [hall, if_pos rfl] at hg
              have hvb2 : valF 0 D.data.toList < 1000000000000000000 := by
                have : (10 : Nat) ^ k ≤ 10 ^ 18 := Nat.pow_le_pow_right (by omega) (by omega)
                omega
              rw [e']
              have HN := Lib.hid hg
              clear hg hall e' HALL HG hvb
              generalize valF 0 D.data.toList = vv at *
              first
                | (cases ng
                   · go_wp2_with fail
                     go_ret2
                     exact two_res HN.out (Below.refl _ _)
                   · go_wp2_with fail
                     go_ret2
                     exact two_res HN.out (Below.refl _ _))
                | (go_wp2_with fail
                   go_ret2
                   exact two_res HN.out (Below.refl _ _))
end Go.Proofs.Ytkokgdebahgbdaa
