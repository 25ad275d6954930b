/-
  pos: Keys.
  pos: Whole, Total.
  pos: Total.
  pos: positions at large: what a law keeps of them; the methods over them.
-/
import Derived.Test.YtgbgedaedcofcaaPosAC
import Derived.Test.YtgbgedaedcofcaaKeySort3
import Derived.Test.YtgbgedaedcofcaaContS
import Derived.Test.YtgbgedaedcofcaaAcc
import Derived.Test.YtgbgedaedcofcaaArr
namespace Go.Proofs.Ytgbgedaedcofcaa
section
open Go Go.RowKit
attribute [local irreducible] run goO leaveK someK nextK nextT nextOT nextOD loopBody loopRest loopK fillJ tmplOf tmplJ mergeT At AtO drawOk ordOf gateOf callC callO topOp topO idxOf appOf storeOf clearOf sliceOf calleeOf calleeO topQ idxQ newRowOf resL stepOp seek

def KeysN (w : World) (ks : List Key) (e : Ending) (w' : World) : Prop := ∃ A cap, e = .returned (.slice A ks.length cap) ∧ w'.ownsRow w.heap.size 24 2 (.slice A ks.length cap) ks.length (ks.flatMap encL) ∧ Below w.heap.size w w'
def wantK (tx : List ByteArray) (k : Key) : Bool := tx.isEmpty || tx.any fun a => k.2.toList == a.toList
theorem sortKs_perm {xs ys : List Key} (h : xs.Perm ys) : sortKs xs = sortKs ys := by
  have tr : ∀ a b c : Key, leK a b = true → leK b c = true → leK a c = true := by
    intro a b c h1 h2
    unfold leK at *
    simp only [Bool.not_eq_true'] at *
    cases h3 : ltK c a with
    | false => rfl
    | true =>
      cases h4 : ltK a b with
      | true => rw [ltK_trans h3 h4] at h2; cases h2
      | false =>
        have e := ltK_total h4 h1
        subst e
        rw [h3] at h2
        cases h2
  have tot : ∀ a b : Key, (leK a b || leK b a) = true := by
    intro a b
    unfold leK
    cases h1 : ltK b a with
    | false => rfl
    | true =>
      cases h2 : ltK a b with
      | false => rfl
      | true => have := ltK_trans h1 h2; rw [ltK_irrefl] at this; cases this
  refine List.Perm.eq_of_pairwise (le := fun a b => leK a b = true) (fun a b _ _ h1 h2 => ?_) (List.pairwise_mergeSort (le := leK) (fun a b c => tr a b c) tot _) (List.pairwise_mergeSort (le := leK) (fun a b c => tr a b c) tot _) (((List.mergeSort_perm xs leK).trans h).trans (List.mergeSort_perm ys leK).symm)
  unfold leK at h1 h2
  simp only [Bool.not_eq_true'] at h1 h2
  exact ltK_total h2 h1
theorem key_ty : RowTy Try.prog 35 24 2 32 := .of Try.underlying35 (by kernel_rfl) rfl
def pickKs (tx : List ByteArray) (dn : List (Ent Key B3)) : List Key := (dn.map (·.key)).filter (wantK tx)
theorem nodup_map {α β : Type} {f : α → β} {l : List α} (h : (l.map f).Nodup) : l.Nodup := (List.pairwise_map.1 h).imp fun h e => h (congrArg _ e)
theorem ItO.le {ρ : Nm} {rs : List Reg} {w : World} {it : Nat} {m : Option Nat} {l dn : List (Ent Key B3)} {clock : Nat} (h : ItO ρ rs w it m l clock dn) : dn.length ≤ l.length := (nodup_map h.nodup).length_le_of_subset h.sub
theorem ItO.lt {ρ : Nm} {rs : List Reg} {w : World} {it : Nat} {m : Option Nat} {l dn : List (Ent Key B3)} {clock : Nat} {e : Ent Key B3} (h : ItO ρ rs w it m l clock (dn ++ [e])) : dn.length + 1 ≤ l.length := by
  have := h.le
  simpa using this
theorem ItO.perm {ρ : Nm} {rs : List Reg} {w : World} {it : Nat} {m : Option Nat} {l dn : List (Ent Key B3)} {clock : Nat} (h : ItO ρ rs w it m l clock dn) (hf : Fine l clock) (hall : ∀ e ∈ l, e ∈ dn) : dn.Perm l := (List.perm_ext_iff_of_nodup (nodup_map h.nodup) (nodup_map hf.borns)).2 fun e => ⟨h.sub e, hall e⟩
theorem pickKs_len (tx : List ByteArray) (dn : List (Ent Key B3)) : (pickKs tx dn).length ≤ dn.length := by
  unfold pickKs
  exact Nat.le_trans (List.length_filter_le _ _) (by rw [List.length_map]; exact Nat.le_refl _)
theorem pickKs_yes {tx : List ByteArray} {dn : List (Ent Key B3)} {e : Ent Key B3} (h : wantK tx e.key = true) : pickKs tx (dn ++ [e]) = pickKs tx dn ++ [e.key] := by simp [pickKs, h]
theorem pickKs_no {tx : List ByteArray} {dn : List (Ent Key B3)} {e : Ent Key B3} (h : wantK tx e.key = false) : pickKs tx (dn ++ [e]) = pickKs tx dn := by simp [pickKs, h]
theorem pickKs_perm {tx : List ByteArray} {dn l : List (Ent Key B3)} (h : dn.Perm l) : (pickKs tx dn).Perm (pickKs tx l) := (h.map _).filter _
set_option maxRecDepth 100000 in
set_option maxHeartbeats 4000000 in
theorem keys_any (g : Nat) (m : Option Nat) (l : List (Ent Key B3)) (clock : Nat) (A : Option Addr) (n cp B : Nat) (tx : List ByteArray) (w : World) (hb : Blk w g 74 #[.map m]) (hM : MpO encK encB ρ0 [] w m l clock) (h : Reads w B 1 A n (txtsV tx)) (hB : B ≤ w.heap.size) (hn : n ≤ 4611686018427387904) (hlen : l.length ≤ 1000000) :
    Calls Try.prog 18 #[.pointer (some ⟨g, 0, none⟩), .slice A n cp] w (KeysN w (sortKs (pickKs tx l))) := by
  have hal : tx.length = n := by have := h.1; rw [txtsV_len] at this; omega
  have hg : w.cell? ⟨g, 0, none⟩ = some (.map m) := hb.cell 0
  obtain ⟨ρ, _, e0, hR⟩ := (Rel.start [] w ρ0).open_ rfl g 0 [.v (.map m)] rfl false (World.block_lt_of_cell? _ _ hg) (fun j v hv => by
    match j, hv with
    | 0, hv => injection hv with hv; rw [← hv]; exact hg) (fun h => by cases h) (fun n r hn => by simp at hn)
  have e0 : ρ 0 = (g, 0) := e0
  refine sim_enter Try.func18 ρ [.ptr 0 0, .v (.slice A n cp)] [⟨[.v (.map m)], false⟩] (by kernel_rfl) (by simp only [denL, LV.den, Nm.at_, e0]) ?_
  have hR := hR.cast rfl
  have hM := hM.over (ρ := ρ) (r := ⟨[.v (.map m)], false⟩) hb e0
  have hag := hR.ag_ 1 (by kernel_rfl)
  refine sim_run 23 [] (hR.cast (by kernel_rfl)) (by kernel_rfl) trivial (fun ρ100 w100 hm100 hR100 => ?_)
  have hM := hM.moved (hm100.castL (by kernel_rfl))
  have hag := hag.moved (hm100.castL (by kernel_rfl))
  refine sim_range (enc := encK) (encV := encB) (mx := .v (Value.map m)) (by kernel_rfl) mp_ty hM rfl hR100 (fun w101 it eit hb101 hI hR101 => ?_)
  have hit : w.heap.size ≤ it := by rw [eit]; exact (hR100).keeps.size
  have hM := hM.below hb101
  refine sim_run 2 [] (hR101.cast (by kernel_rfl)) (by kernel_rfl) trivial (fun ρ102 w102 hm102 hR102 => ?_)
  have hag := hag.moved (hm102.castL (by kernel_rfl))
  have hI := hI.moved (hm102.castL (by kernel_rfl))
  have hM := hM.moved (hm102.castL (by kernel_rfl))
  
  have e102 : ρ102 0 = (g, 0) := (hag.at_ 0 (by omega)).trans e0
  have hgl : g < w.heap.size := hb.lt
  refine sim_loop (ι := List (Ent Key B3) × Value × List Key) (T := []) (w0 := w) ([], .slice none 0 0, []) [0, 1, 4, 13] (fun x => [(5, .v x.2.1)]) (fun _ => [⟨[.v (.map m)], false⟩])
    (fun x w1 => x.1.length ≤ l.length ∧ MpO encK encB ρ102 [⟨[.v (.map m)], false⟩] w1 m l clock ∧ ItO ρ102 [⟨[.v (.map m)], false⟩] w1 it m l clock x.1 ∧ x.2.2 = pickKs tx x.1 ∧ Own ρ102 [⟨[.v (.map m)], false⟩] w1 w.heap.size 24 2 x.2.1 x.2.2.length (x.2.2.flatMap encL))
    (fun x => l.length - x.1.length) (by kernel_rfl) (by kernel_rfl) (hR102.cast (by kernel_rfl)) ⟨Nat.zero_le _, hM.castR (by kernel_rfl), hI.castR (by kernel_rfl), rfl, World.ownsRow_nil _ _ _ _, fun g hg => by cases hg⟩ ?_
  iterate 6 (try clear hM)
  iterate 6 (try clear hI)
  iterate 6 (try clear hag)
  clear hm102 hm100 hb101 hR100 hR101
  rintro ⟨dn, vo, ks⟩ d w2 hR2 ⟨hk, hM, hI, hks, hvo⟩
  dsimp only at hk hM hI hks hvo
  have hag := hR2.ag_ 1 (by kernel_rfl)
  refine sim_run 2 [] (hR2.cast (by kernel_rfl)) (by kernel_rfl) trivial (fun ρ200 w200 hm200 hR200 => ?_)
  have hM := hM.moved (hm200.castL (by kernel_rfl))
  have hI := hI.moved (hm200.castL (by kernel_rfl))
  have hvo := hvo.moved (hm200.castL (by kernel_rfl))
  have hag := hag.moved (hm200.castL (by kernel_rfl))
  
  refine sim_next (enc := encK) (encV := encB) (x := .v (.pointer (some ⟨it, 0, none⟩))) (by kernel_rfl) hM hI rfl hit hR200 (fun e w3 he hnd ht hI3 hR3 => ?_) (fun hall => ?_)
  · have hM := hM.turnI ht
    have hvo := hvo.turnI ht
    have hI := hI3
    clear hI3
    obtain ⟨gm, rfl⟩ : ∃ gm, m = some gm := by
      cases m with
      | some gm => exact ⟨gm, rfl⟩
      | none => rw [(hM.nil rfl).1] at he; cases he
    refine sim_run 8 [] (hR3.cast (by kernel_rfl)) (by kernel_rfl) trivial (fun ρ300 w300 hm300 hR300 => ?_)
    have hag := hag.moved (hm300.castL (by kernel_rfl))
    have hM := hM.moved (hm300.castL (by kernel_rfl))
    have hvo := hvo.moved (hm300.castL (by kernel_rfl))
    have hI := hI.moved (hm300.castL (by kernel_rfl))
    refine sim_entry (enc := encK) (encV := encB) (x := .v (Value.pointer (some (Addr.mk it 0 none)))) e (by kernel_rfl) hM hI rfl ?_
    refine sim_run 10 [] (hR300.cast (by kernel_rfl)) (by kernel_rfl) trivial (fun ρ302 w302 hm302 hR302 => ?_)
    have hag := hag.moved (hm302.castL (by kernel_rfl))
    have hM := hM.moved (hm302.castL (by kernel_rfl))
    have hvo := hvo.moved (hm302.castL (by kernel_rfl))
    have hI := hI.moved (hm302.castL (by kernel_rfl))
    refine sim_fork 21 ((↑n : Int) == 0) (by kernel_rfl) (fun hq303 => ?_) (fun hq303 => ?_)
    have hq303 := of_decide_eq_true hq303
    refine sim_run 11 [] (hR302.cast (by kernel_rfl)) (by kernel_rfl) trivial (fun ρ304 w304 hm304 hR304 => ?_)
    have hag := hag.moved (hm304.castL (by kernel_rfl))
    have hM := hM.moved (hm304.castL (by kernel_rfl))
    have hvo := hvo.moved (hm304.castL (by kernel_rfl))
    have hI := hI.moved (hm304.castL (by kernel_rfl))
    rotate_left
    have hq303 := of_decide_eq_false hq303
    refine sim_run 3 [] (hR302.cast (by kernel_rfl)) (by kernel_rfl) trivial (fun ρ305 w305 hm305 hR305 => ?_)
    have hag := hag.moved (hm305.castL (by kernel_rfl))
    have hM := hM.moved (hm305.castL (by kernel_rfl))
    have hvo := hvo.moved (hm305.castL (by kernel_rfl))
    have hI := hI.moved (hm305.castL (by kernel_rfl))
    refine sim_call 37 [.v (Value.slice A n cp), LS e.key.snd] (by kernel_rfl) ?_
    refine Calls.mono (containsS_any (A) (n) (cp) (B) (tx) _ _ (h.belowW (hR305).toBelow hB) (Nat.le_trans hB (hR305).keeps.size) (by assumption)) ?_
    rintro e306 w306 ⟨rfl, hb306⟩
    have hR306 := hR305.below hb306
    have hM := hM.below hb306
    have hvo := hvo.below hb306
    have hI := hI.below hb306
    refine Back.of (LB (tx.any fun a => e.key.snd.toList == a.toList)) hR306 rfl ?_
    refine sim_run 2 [] (hR306.cast (by kernel_rfl)) (by kernel_rfl) trivial (fun ρ307 w307 hm307 hR307 => ?_)
    have hag := hag.moved (hm307.castL (by kernel_rfl))
    have hM := hM.moved (hm307.castL (by kernel_rfl))
    have hvo := hvo.moved (hm307.castL (by kernel_rfl))
    have hI := hI.moved (hm307.castL (by kernel_rfl))
    refine sim_fork 26 (tx.any fun a => e.key.snd.toList == a.toList) (by kernel_rfl) (fun hq308 => ?_) (fun hq308 => ?_)
    refine sim_run 5 [] (hR307.cast (by kernel_rfl)) (by kernel_rfl) trivial (fun ρ309 w309 hm309 hR309 => ?_)
    have hag := hag.moved (hm309.castL (by kernel_rfl))
    have hM := hM.moved (hm309.castL (by kernel_rfl))
    have hvo := hvo.moved (hm309.castL (by kernel_rfl))
    have hI := hI.moved (hm309.castL (by kernel_rfl))
    rotate_left
    refine sim_run 3 [] (hR307.cast (by kernel_rfl)) (by kernel_rfl) trivial (fun ρ310 w310 hm310 hR310 => ?_)
    have hag := hag.moved (hm310.castL (by kernel_rfl))
    have hM := hM.moved (hm310.castL (by kernel_rfl))
    have hvo := hvo.moved (hm310.castL (by kernel_rfl))
    have hI := hI.moved (hm310.castL (by kernel_rfl))
    rotate_left
    
    · have hw : wantK tx e.key = true := by
        unfold wantK
        rw [show tx.isEmpty = true from by cases tx with
          | nil => rfl
          | cons x xs => simp at hal; omega]
        rfl
      have hlt := hI.lt
      have hkl := pickKs_len tx dn
      refine sim_appendO 35 vo (.slc 2 0 1 1) (by kernel_rfl) (Rel.cast (by assumption) (by kernel_rfl)) key_ty hvo 2 1 1 rfl [LS e.key.1, LS e.key.2] (by kernel_rfl) rfl (by kernel_rfl) (by unfold maxLen; rw [hks]; omega) (by rw [hks]; omega) ((by assumption : Rel _ _ _ _ _)).keeps.size (fun g' hg' => .inr (own_ge hvo.own hg')) [0] (by kernel_rfl) (fun k0 hk0 g' hg' => by
        simp only [List.mem_singleton] at hk0
        subst hk0
        rw [hag.at_ 0 (by omega), e102]
        have := own_ge hvo.own hg'
        show g ≠ g'
        omega) (fun v' w12 hvo' hgr hR12 => ?_)
      have hM := hM.grownO hvo.own hgr
      have hI := hI.grownO hvo.own hgr
      have hvo := hvo'
      clear hvo'
      refine sim_run 3 [] (hR12.cast (by kernel_rfl)) (by kernel_rfl) trivial (fun ρ500 w500 hm500 hR500 => ?_)
      have hag := hag.moved (hm500.castL (by kernel_rfl))
      have hM := hM.moved (hm500.castL (by kernel_rfl))
      have hI := hI.moved (hm500.castL (by kernel_rfl))
      have hvo := hvo.moved (hm500.castL (by kernel_rfl))
      
      exact sim_again (dn ++ [e], v', ks ++ [e.key]) (by kernel_rfl) (by show l.length - (dn ++ [e]).length < l.length - dn.length; rw [List.length_append, List.length_singleton]; omega) (by kernel_rfl) (by kernel_rfl) (by kernel_rfl) hag.ag (Rel.cast (by assumption) (by kernel_rfl)) (by kernel_rfl) (by kernel_rfl) ⟨hI.le, hM.cut hag (by kernel_rfl) (by kernel_rfl), hI.cut hag (by kernel_rfl) (by kernel_rfl), by show ks ++ [e.key] = _; rw [pickKs_yes hw, hks], by
        show Own _ _ _ _ _ _ v' (ks ++ [e.key]).length ((ks ++ [e.key]).flatMap encL)
        rw [List.flatMap_append, List.length_append]
        exact hvo.cut hag (by kernel_rfl) (by kernel_rfl)⟩
    · have hw : wantK tx e.key = true := by
        unfold wantK
        rw [(by assumption : (tx.any fun a => e.key.snd.toList == a.toList) = true), Bool.or_true]
      have hlt := hI.lt
      have hkl := pickKs_len tx dn
      refine sim_appendO 35 vo (.slc 2 0 1 1) (by kernel_rfl) (Rel.cast (by assumption) (by kernel_rfl)) key_ty hvo 2 1 1 rfl [LS e.key.1, LS e.key.2] (by kernel_rfl) rfl (by kernel_rfl) (by unfold maxLen; rw [hks]; omega) (by rw [hks]; omega) ((by assumption : Rel _ _ _ _ _)).keeps.size (fun g' hg' => .inr (own_ge hvo.own hg')) [0] (by kernel_rfl) (fun k0 hk0 g' hg' => by
        simp only [List.mem_singleton] at hk0
        subst hk0
        rw [hag.at_ 0 (by omega), e102]
        have := own_ge hvo.own hg'
        show g ≠ g'
        omega) (fun v' w12 hvo' hgr hR12 => ?_)
      have hM := hM.grownO hvo.own hgr
      have hI := hI.grownO hvo.own hgr
      have hvo := hvo'
      clear hvo'
      refine sim_run 3 [] (hR12.cast (by kernel_rfl)) (by kernel_rfl) trivial (fun ρ600 w600 hm600 hR600 => ?_)
      have hag := hag.moved (hm600.castL (by kernel_rfl))
      have hM := hM.moved (hm600.castL (by kernel_rfl))
      have hI := hI.moved (hm600.castL (by kernel_rfl))
      have hvo := hvo.moved (hm600.castL (by kernel_rfl))
      
      exact sim_again (dn ++ [e], v', ks ++ [e.key]) (by kernel_rfl) (by show l.length - (dn ++ [e]).length < l.length - dn.length; rw [List.length_append, List.length_singleton]; omega) (by kernel_rfl) (by kernel_rfl) (by kernel_rfl) hag.ag (Rel.cast (by assumption) (by kernel_rfl)) (by kernel_rfl) (by kernel_rfl) ⟨hI.le, hM.cut hag (by kernel_rfl) (by kernel_rfl), hI.cut hag (by kernel_rfl) (by kernel_rfl), by show ks ++ [e.key] = _; rw [pickKs_yes hw, hks], by
        show Own _ _ _ _ _ _ v' (ks ++ [e.key]).length ((ks ++ [e.key]).flatMap encL)
        rw [List.flatMap_append, List.length_append]
        exact hvo.cut hag (by kernel_rfl) (by kernel_rfl)⟩
    · have hw : wantK tx e.key = false := by
        unfold wantK
        rw [(by assumption : (tx.any fun a => e.key.snd.toList == a.toList) = false), Bool.or_false]
        cases tx with
        | nil => simp at hal; omega
        | cons x xs => rfl
      have hlt := hI.lt
      exact sim_again (dn ++ [e], vo, ks) (by kernel_rfl) (by show l.length - (dn ++ [e]).length < l.length - dn.length; rw [List.length_append, List.length_singleton]; omega) (by kernel_rfl) (by kernel_rfl) (by kernel_rfl) hag.ag (Rel.cast (by assumption) (by kernel_rfl)) (by kernel_rfl) (by kernel_rfl) ⟨hI.le, hM.cut hag (by kernel_rfl) (by kernel_rfl), hI.cut hag (by kernel_rfl) (by kernel_rfl), by show ks = _; rw [pickKs_no hw, hks], hvo.cut hag (by kernel_rfl) (by kernel_rfl)⟩
  · have hpm := hI.perm hM.fine hall
    have hkl := pickKs_len tx dn
    refine sim_run 4 [] (hR200.cast (by kernel_rfl)) (by kernel_rfl) trivial (fun ρ400 w400 hm400 hR400 => ?_)
    have hM := hM.moved (hm400.castL (by kernel_rfl))
    have hI := hI.moved (hm400.castL (by kernel_rfl))
    have hvo := hvo.moved (hm400.castL (by kernel_rfl))
    have hag := hag.moved (hm400.castL (by kernel_rfl))
    refine sim_leave (by kernel_rfl) ?_
    refine sim_run 3 [] (hR400.cast (by kernel_rfl)) (by kernel_rfl) trivial (fun ρ401 w401 hm401 hR401 => ?_)
    have hM := hM.moved (hm401.castL (by kernel_rfl))
    have hI := hI.moved (hm401.castL (by kernel_rfl))
    have hvo := hvo.moved (hm401.castL (by kernel_rfl))
    have hag := hag.moved (hm401.castL (by kernel_rfl))
    
    obtain ⟨Av, cv, hve⟩ : ∃ Av cv, vo = .slice Av ks.length cv := by
      rcases hvo.own.2 with ⟨h1, h2⟩ | ⟨g', cap, cur, h1, _⟩
      · exact ⟨none, 0, by rw [h1, h2]⟩
      · exact ⟨_, cap, h1⟩
    subst hve
    refine sim_call 38 [.v (.slice Av ks.length cv), .v (.func (.func 39) #[] #[])] (by kernel_rfl) ?_
    refine (sortKeys_any w.heap.size ks.length cv Av ks _ hvo.own rfl (by rw [hks]; omega)).mono ?_
    rintro e5 w5 ⟨rfl, ho5, hk5⟩
    have hR5 := (Rel.cast (rs' := [⟨[.v (.map m)], false⟩]) hR401 (by kernel_rfl)).kept hk5 (fun n' r hn' _ hs => by
      obtain ⟨a, rfl, ha⟩ := hs
      have h1 := own_ge (g := a.block) hvo.own rfl
      match n', hn' with
      | 0, _ =>
        rw [hag.at_ 0 (by omega), e102] at ha
        have ha' : a.block = g := ha
        omega) (fun x hx => .inr (by
      obtain ⟨a, rfl, ha⟩ := hx
      have h1 := own_ge (g := a.block) hvo.own rfl
      omega))
    have hv5 : Own ρ401 [⟨[.v (.map m)], false⟩] w5 w.heap.size 24 2 (.slice Av ks.length cv) ks.length ((sortKs ks).flatMap encL) := ⟨ho5, fun g' hg' hw => by
      obtain ⟨n', r, hn', hr, _⟩ := hw
      match n', hn' with
      | 0, hn' => injection hn' with hn'; rw [← hn'] at hr; cases hr⟩
    refine Back.of (.tup []) hR5 rfl ?_
    refine sim_run 6 [] (hR5.cast (by kernel_rfl)) (by kernel_rfl) trivial (fun ρ700 w700 hm700 hR700 => ?_)
    have hag := hag.moved (hm700.castL (by kernel_rfl))
    have hv5 := hv5.moved (hm700.castL (by kernel_rfl))
    refine sim_ret (.v (Value.slice Av ks.length cv)) hR700 (by kernel_rfl) (by kernel_rfl) ?_
    
    rw [show sortKs (pickKs tx l) = sortKs ks from by rw [hks]; exact (sortKs_perm (pickKs_perm hpm)).symm]
    refine ⟨Av, cv, by rw [sortKs_len]; rfl, ?_, ((by assumption : Rel _ _ _ _ _)).toBelow⟩
    rw [sortKs_len]
    exact hv5.own
end

section
open Go Go.RowKit
attribute [local irreducible] run goO leaveK someK nextK nextT nextOT nextOD loopBody loopRest loopK fillJ tmplOf tmplJ mergeT At AtO drawOk ordOf gateOf callC callO topOp topO idxOf appOf storeOf clearOf sliceOf calleeOf calleeO topQ idxQ newRowOf resL stepOp seek

def sum3 (b : B3) : Int := b.1 + (b.2.1 + b.2.2)
theorem three_is64 {b : B3} (h : okB b) : ∀ x ∈ [b.1, b.2.1, b.2.2], IsI64 x := by
  obtain ⟨⟨a1, a2⟩, ⟨b1, b2⟩, c1, c2⟩ := h
  intro x hx
  simp only [List.mem_cons, List.not_mem_nil, or_false] at hx
  unfold IsI64
  rcases hx with rfl | rfl | rfl <;> omega
set_option maxRecDepth 100000 in
set_option maxHeartbeats 4000000 in
theorem whole_any (g : Nat) (m : Option Nat) (l : List (Ent Key B3)) (clock : Nat) (k : Key) (w : World) (hb : Blk w g 74 #[.map m]) (hM : MpO encK encB ρ0 [] w m l clock) (hok : ∀ e ∈ l, okB e.val) :
    Calls Try.prog 22 #[.pointer (some ⟨g, 0, none⟩), .agg #[.string k.1, .string k.2]] w fun e w' => e = .returned (.int .i64 (clampV (sum3 (getM l k)))) ∧ Below w.heap.size w w' := by
  have hg : w.cell? ⟨g, 0, none⟩ = some (.map m) := hb.cell 0
  obtain ⟨ρ, _, e0, hR⟩ := (Rel.start [] w ρ0).open_ rfl g 0 [.v (.map m)] rfl false (World.block_lt_of_cell? _ _ hg) (fun j v hv => by
    match j, hv with
    | 0, hv => injection hv with hv; rw [← hv]; exact hg) (fun h => by cases h) (fun n r hn => by simp at hn)
  have e0 : ρ 0 = (g, 0) := e0
  refine sim_enter Try.func22 ρ [.ptr 0 0, .agg [LS k.1, LS k.2]] [⟨[.v (.map m)], false⟩] (by kernel_rfl) (by simp only [denL, LV.den, Nm.at_, e0]) ?_
  have hR := hR.cast rfl
  have hM := hM.over (ρ := ρ) (r := ⟨[.v (.map m)], false⟩) hb e0
  obtain ⟨b, hv⟩ : ∃ b, getM l k = b := ⟨_, rfl⟩
  have hvo : okB b := hv ▸ getM_ok hok k
  rw [hv]
  refine sim_run 14 [] (hR.cast (by kernel_rfl)) (by kernel_rfl) trivial (fun ρ100 w100 hm100 hR100 => ?_)
  have hM := hM.moved (hm100.castL (by kernel_rfl))
  refine sim_drawF2 [(0, false), (1, false), (2, false), (3, false), (4, false)] (5, [(6, true), (7, true)]) (6, [(5, true), (7, true)]) (some 7) (by kernel_rfl) (by kernel_rfl) hR100 (fun hR101 => ?_) (fun hR101 => ?_)
  have hM := hM.drew
  refine sim_ordN 5 [] hR101 (by kernel_rfl) trivial (fun ρ102 w102 hm102 hR102 => ?_)
  have hM := hM.moved (hm102.castL (by kernel_rfl))
  refine sim_ord_look (enc := encK) (encV := encB) (mx := .v (Value.map m)) (kx := .agg [LS k.fst, LS k.snd]) (ok := false) k (.agg [LI b.1, LI b.2.1, LI b.2.2]) (by kernel_rfl) mp_ty kt_key zero_b3 hM rfl rfl hR102 (by rw [show (look k _).getD (0, 0, 0) = b from hv]; rfl) (fun hR103 => ?_)
  refine sim_ordN 2 [] hR103 (by kernel_rfl) trivial (fun ρ104 w104 hm104 hR104 => ?_)
  have hM := hM.moved (hm104.castL (by kernel_rfl))
  refine sim_ord_endR hR104 (by kernel_rfl) (fun hR105 => ?_)
  refine sim_run 6 [] hR105 (by kernel_rfl) trivial (fun ρ106 w106 hm106 hR106 => ?_)
  have hM := hM.moved (hm106.castL (by kernel_rfl))
  rotate_left
  have hM := hM.drew
  refine sim_ordN 6 [] hR101 (by kernel_rfl) trivial (fun ρ107 w107 hm107 hR107 => ?_)
  have hM := hM.moved (hm107.castL (by kernel_rfl))
  refine sim_ord_look (enc := encK) (encV := encB) (mx := .v (Value.map m)) (kx := .agg [LS k.fst, LS k.snd]) (ok := false) k (.agg [LI b.1, LI b.2.1, LI b.2.2]) (by kernel_rfl) mp_ty kt_key zero_b3 hM rfl rfl hR107 (by rw [show (look k _).getD (0, 0, 0) = b from hv]; rfl) (fun hR108 => ?_)
  refine sim_ordN 1 [] hR108 (by kernel_rfl) trivial (fun ρ109 w109 hm109 hR109 => ?_)
  have hM := hM.moved (hm109.castL (by kernel_rfl))
  refine sim_ord_endR hR109 (by kernel_rfl) (fun hR110 => ?_)
  refine sim_run 6 [] hR110 (by kernel_rfl) trivial (fun ρ111 w111 hm111 hR111 => ?_)
  have hM := hM.moved (hm111.castL (by kernel_rfl))
  rotate_left
  
  · refine sim_arr 2 0 3 (by kernel_rfl) ?_
    have hrd := (hR106).readsP (n := 2) (size := 1) (m := 3) (vs := ints [b.1, b.2.1, b.2.2]) (b := true) (by kernel_rfl) rfl
    refine sim_call 41 [.ptr 3 0, .slc 2 0 3 3] (by kernel_rfl) ?_
    refine (accAdd_any _ _ false _ 3 3 [b.1, b.2.1, b.2.2] _ ((hR106).at_cell 3 0 (LB false) (by kernel_rfl)) ((hR106).unfrozen (q := 3) (r := ⟨[LB false], true⟩) (by kernel_rfl) rfl (by show 0 < 1; omega)) _ hrd (three_is64 hvo) (by omega)).mono ?_
    rw [show sumI [b.1, b.2.1, b.2.2] = sum3 b from by simp [sumI, sum3]]
    rintro e w2 ⟨rfl, ho⟩
    have hR2 := (hR106).orAt (q := 3) (x := false) (by kernel_rfl) ho
    refine Back.of (LI (clampV (sum3 b))) hR2 rfl ?_
    refine sim_run 2 [] (hR2.cast (by kernel_rfl)) (by kernel_rfl) trivial (fun ρ200 w200 hm200 hR200 => ?_)
    refine sim_ret (LI (clampV (sum3 b))) hR200 (by kernel_rfl) (by kernel_rfl) ?_
    exact ⟨rfl, hR200.toBelow⟩
    
  · refine sim_arr 2 0 3 (by kernel_rfl) ?_
    have hrd := (hR111).readsP (n := 2) (size := 1) (m := 3) (vs := ints [b.1, b.2.1, b.2.2]) (b := true) (by kernel_rfl) rfl
    refine sim_call 41 [.ptr 3 0, .slc 2 0 3 3] (by kernel_rfl) ?_
    refine (accAdd_any _ _ false _ 3 3 [b.1, b.2.1, b.2.2] _ ((hR111).at_cell 3 0 (LB false) (by kernel_rfl)) ((hR111).unfrozen (q := 3) (r := ⟨[LB false], true⟩) (by kernel_rfl) rfl (by show 0 < 1; omega)) _ hrd (three_is64 hvo) (by omega)).mono ?_
    rw [show sumI [b.1, b.2.1, b.2.2] = sum3 b from by simp [sumI, sum3]]
    rintro e w2 ⟨rfl, ho⟩
    have hR2 := (hR111).orAt (q := 3) (x := false) (by kernel_rfl) ho
    refine Back.of (LI (clampV (sum3 b))) hR2 rfl ?_
    refine sim_run 2 [] (hR2.cast (by kernel_rfl)) (by kernel_rfl) trivial (fun ρ300 w300 hm300 hR300 => ?_)
    refine sim_ret (LI (clampV (sum3 b))) hR300 (by kernel_rfl) (by kernel_rfl) ?_
    exact ⟨rfl, hR300.toBelow⟩
    
end

section
open Go Go.RowKit
attribute [local irreducible] run goO leaveK someK nextK nextT nextOT nextOD loopBody loopRest loopK fillJ tmplOf tmplJ mergeT At AtO drawOk ordOf gateOf callC callO topOp topO idxOf appOf storeOf clearOf sliceOf calleeOf calleeO topQ idxQ newRowOf resL stepOp seek

def three (b : B3) : List Int := [b.1, b.2.1, b.2.2]
def allOf (l : List (Ent Key B3)) (ks : List Key) : List Int := ks.flatMap fun k => three (getM l k)
theorem Own.low {ρ : Nm} {rs : List Reg} {w : World} {b b' : Nat} {e : TypeId} {s : Nat} {v : Value} {n : Nat} {xs : List Value} (h : Own ρ rs w b e s v n xs) (hb : b' ≤ b) : Own ρ rs w b' e s v n xs :=
  ⟨⟨h.own.1, h.own.2.imp id (fun ⟨g, cap, cur, h1, h2, r⟩ => ⟨g, cap, cur, h1, Nat.le_trans hb h2, r⟩)⟩, h.far⟩
theorem allOf_len (l : List (Ent Key B3)) (ks : List Key) : (allOf l ks).length = 3 * ks.length := by
  induction ks with
  | nil => rfl
  | cons a ks ih =>
    show (three (getM l a) ++ allOf l ks).length = _
    rw [List.length_append, ih, List.length_cons]
    show 3 + _ = _
    omega
theorem allOf_is64 {l : List (Ent Key B3)} (hok : ∀ e ∈ l, okB e.val) (ks : List Key) : ∀ x ∈ allOf l ks, IsI64 x := by
  intro x hx
  obtain ⟨k, _, hk⟩ := List.mem_flatMap.1 hx
  exact three_is64 (getM_ok hok k) x hk
theorem allOf_step {l : List (Ent Key B3)} {ks : List Key} {k : Nat} {kk : Key} (h : ks[k]? = some kk) : allOf l (ks.take (k + 1)) = allOf l (ks.take k) ++ three (getM l kk) := by
  rw [List.take_add_one, h]
  simp [allOf]
theorem int_ty : RowTy Try.prog 82 3 1 8 := .of Try.underlying82 (by kernel_rfl) rfl
set_option maxRecDepth 100000 in
set_option maxHeartbeats 4000000 in
theorem total_any (g : Nat) (m : Option Nat) (l : List (Ent Key B3)) (clock : Nat) (asset : ByteArray) (w : World) (hb : Blk w g 74 #[.map m]) (hM : MpO encK encB ρ0 [] w m l clock) (hok : ∀ e ∈ l, okB e.val) (hlen : l.length ≤ 1000000) :
    Calls Try.prog 21 #[.pointer (some ⟨g, 0, none⟩), .string asset] w fun e w' => e = .returned (.int .i64 (clampV (sumI (allOf l (sortKs (pickKs [asset] l)))))) ∧ Below w.heap.size w w' := by
  have hg : w.cell? ⟨g, 0, none⟩ = some (.map m) := hb.cell 0
  obtain ⟨ρ, _, e0, hR⟩ := (Rel.start [] w ρ0).open_ rfl g 0 [.v (.map m)] rfl false (World.block_lt_of_cell? _ _ hg) (fun j v hv => by
    match j, hv with
    | 0, hv => injection hv with hv; rw [← hv]; exact hg) (fun h => by cases h) (fun n r hn => by simp at hn)
  have e0 : ρ 0 = (g, 0) := e0
  refine sim_enter Try.func21 ρ [.ptr 0 0, LS asset] [⟨[.v (.map m)], false⟩] (by kernel_rfl) (by simp only [denL, LV.den, Nm.at_, e0]) ?_
  have hR := hR.cast rfl
  have hM := hM.over (ρ := ρ) (r := ⟨[.v (.map m)], false⟩) hb e0
  have hag := hR.ag_ 1 (by kernel_rfl)
  refine sim_run 14 [] (hR.cast (by kernel_rfl)) (by kernel_rfl) trivial (fun ρ100 w100 hm100 hR100 => ?_)
  have hM := hM.moved (hm100.castL (by kernel_rfl))
  have hag := hag.moved (hm100.castL (by kernel_rfl))
  
  have hrd := hR100.readsP (n := 1) (size := 1) (m := 1) (vs := txtsV [asset]) (b := true) (by kernel_rfl) rfl
  have e100 : ρ100 0 = (g, 0) := (hag.at_ 0 (by omega)).trans e0
  have hb1 := hb.below hR100.toBelow hb.lt
  refine sim_call 18 [.ptr 0 0, .slc 1 0 1 1] (by kernel_rfl) ?_
  refine Calls.mono (show Calls _ _ _ _ (KeysN _ (sortKs (pickKs [asset] l))) from by
    simp only [denL, LV.den, Nm.at_, e100]
    exact keys_any g m l clock _ 1 1 _ [asset] _ hb1 hM.bare hrd (Nat.le_refl _) (by omega) hlen) ?_
  obtain ⟨ks, hks⟩ : ∃ ks, sortKs (pickKs [asset] l) = ks := ⟨_, rfl⟩
  rw [hks]
  rintro e2 w2 ⟨A2, cap2, rfl, hown2, hb2⟩
  have hR2 := hR100.below hb2
  have hM := hM.below hb2
  have hrow := Own.start hR100 hown2
  rw [List.flatMap_def] at hrow
  have hw2 : w100.heap.size ≤ w2.heap.size := hb2.size
  refine Back.of (.v (.slice A2 ks.length cap2)) hR2 rfl ?_
  refine sim_run 4 [] (hR2.cast (by kernel_rfl)) (by kernel_rfl) trivial (fun ρ200 w200 hm200 hR200 => ?_)
  have hag := hag.moved (hm200.castL (by kernel_rfl))
  have hM := hM.moved (hm200.castL (by kernel_rfl))
  have hrow := hrow.moved (hm200.castL (by kernel_rfl))
  
  have e200 : ρ200 0 = (g, 0) := (hag.at_ 0 (by omega)).trans e0
  have hgl : g < w.heap.size := hb.lt
  have hsz := hR200.keeps.size
  have hw1 := hR100.keeps.size
  have hlk : ks.length ≤ l.length := by rw [← hks, sortKs_len]; exact Nat.le_trans (pickKs_len _ _) (Nat.le_refl _)
  refine sim_loop (ι := Nat × Value × List Int) (T := []) (w0 := w) (0, .slice none 0 0, []) [0, 1, 4, 13, 14] (fun x => [(5, .v x.2.1), (15, LI x.1)]) (fun _ => [⟨[.v (.map m)], false⟩, ⟨[LS asset], true⟩])
    (fun x w1 => x.1 ≤ ks.length ∧ MpO encK encB ρ200 [⟨[.v (.map m)], false⟩, ⟨[LS asset], true⟩] w1 m l clock ∧ Own ρ200 [⟨[.v (.map m)], false⟩, ⟨[LS asset], true⟩] w1 w100.heap.size 24 2 (.slice A2 ks.length cap2) ks.length (ks.map encL).flatten ∧ x.2.2 = allOf l (ks.take x.1) ∧ ∃ B, w.heap.size ≤ B ∧ (∀ ga, (Value.slice A2 ks.length cap2).ownBlock = some ga → ga < B) ∧ Own ρ200 [⟨[.v (.map m)], false⟩, ⟨[LS asset], true⟩] w1 B 3 1 x.2.1 x.2.2.length (ints x.2.2))
    (fun x => ks.length - x.1) (by kernel_rfl) (by kernel_rfl) (hR200.cast (by kernel_rfl)) ⟨Nat.zero_le _, hM.castR (by kernel_rfl), hrow.castR (by kernel_rfl), rfl, w2.heap.size, by omega, fun ga hga => own_lt hown2 hga, ⟨World.ownsRow_nil _ _ _ _, fun g hg => by cases hg⟩⟩ ?_
  iterate 6 (try clear hM)
  iterate 6 (try clear hrow)
  iterate 6 (try clear hag)
  rintro ⟨k, vo, xs⟩ d w3 hR3 ⟨hk, hM, hrow, hxs, B, hwB, hka, hvo⟩
  dsimp only at hk hM hrow hxs hvo hka
  have hag := hR3.ag_ 2 (by kernel_rfl)
  by_cases hkl : k < ks.length
  · obtain ⟨kk, hkk⟩ : ∃ kk, ks[k]? = some kk := ⟨_, List.getElem?_eq_getElem hkl⟩
    obtain ⟨ga, oa, hA2, _, _⟩ := (Reads.of_own hrow.own).spot (by omega) (by omega)
    subst hA2
    refine sim_seeO (encL kk) k 2 (by kernel_rfl) (by rw [List.getElem?_map, hkk]; rfl) hrow (by intro y hy; obtain ⟨z, _, rfl⟩ := List.mem_map.1 hy; rfl) (by omega) hkl hR3 (by kernel_rfl) (fun ρ4 hm4 e4 hR4 => ?_)
    have hvo := hvo.low (Nat.succ_le_of_lt (hka ga rfl))
    have hga : _ ≤ ga := own_ge hrow.own rfl
    have hM := hM.moved hm4
    have hrow := hrow.moved hm4
    have hvo := hvo.moved hm4
    have hag := hag.moved hm4
    have hag3 := hR4.ag_ 3 (by kernel_rfl)
    obtain ⟨b, hv⟩ : ∃ b, getM l kk = b := ⟨_, rfl⟩
    have hxl := allOf_len l (ks.take k)
    rw [← hxs, List.length_take] at hxl
    refine sim_run 5 [] hR4 (by kernel_rfl) trivial (fun ρ300 w300 hm300 hR300 => ?_)
    have hM := hM.moved (hm300.castL (by kernel_rfl))
    have hrow := hrow.moved (hm300.castL (by kernel_rfl))
    have hvo := hvo.moved (hm300.castL (by kernel_rfl))
    have hag := hag.moved (hm300.castL (by kernel_rfl))
    have hag3 := hag3.moved (hm300.castL (by kernel_rfl))
    refine sim_know 16 (decide ((↑(k, vo, xs).fst : Int) < (↑ks.length : Int))) true (by kernel_rfl) (decide_eq_true (by omega)) ?_
    refine sim_run 6 [] (hR300.cast (by kernel_rfl)) (by kernel_rfl) trivial (fun ρ301 w301 hm301 hR301 => ?_)
    have hM := hM.moved (hm301.castL (by kernel_rfl))
    have hrow := hrow.moved (hm301.castL (by kernel_rfl))
    have hvo := hvo.moved (hm301.castL (by kernel_rfl))
    have hag := hag.moved (hm301.castL (by kernel_rfl))
    have hag3 := hag3.moved (hm301.castL (by kernel_rfl))
    refine sim_place (.v (.slice (some ⟨ga, oa, none⟩) ks.length cap2)) ks.length 2 k 2 0 (by kernel_rfl) (by omega) (by omega) rfl (by simp only [Nm.at_, hag3.at_ 2 (by omega), e4, Int.toNat_natCast, Nat.add_zero]) ?_
    refine sim_run 5 [] (hR301.cast (by kernel_rfl)) (by kernel_rfl) trivial (fun ρ303 w303 hm303 hR303 => ?_)
    have hM := hM.moved (hm303.castL (by kernel_rfl))
    have hrow := hrow.moved (hm303.castL (by kernel_rfl))
    have hvo := hvo.moved (hm303.castL (by kernel_rfl))
    have hag := hag.moved (hm303.castL (by kernel_rfl))
    have hag3 := hag3.moved (hm303.castL (by kernel_rfl))
    refine sim_drawF2 [(0, false), (1, false), (2, false), (3, false), (4, false)] (5, [(6, true), (7, true)]) (6, [(5, true), (7, true)]) (some 7) (by kernel_rfl) (by kernel_rfl) hR303 (fun hR304 => ?_) (fun hR304 => ?_)
    have hM := hM.drew
    have hrow := hrow.drew
    have hvo := hvo.drew
    refine sim_ordN 5 [] hR304 (by kernel_rfl) trivial (fun ρ305 w305 hm305 hR305 => ?_)
    have hag := hag.moved (hm305.castL (by kernel_rfl))
    have hag3 := hag3.moved (hm305.castL (by kernel_rfl))
    have hM := hM.moved (hm305.castL (by kernel_rfl))
    have hrow := hrow.moved (hm305.castL (by kernel_rfl))
    have hvo := hvo.moved (hm305.castL (by kernel_rfl))
    refine sim_ord_look (enc := encK) (encV := encB) (mx := .v (Value.map m)) (kx := .agg [LS kk.fst, LS kk.snd]) (ok := false) kk (.agg [LI b.1, LI b.2.1, LI b.2.2]) (by kernel_rfl) mp_ty kt_key zero_b3 hM rfl rfl hR305 (by rw [show (look kk _).getD (0, 0, 0) = b from hv]; rfl) (fun hR306 => ?_)
    refine sim_ordN 2 [] hR306 (by kernel_rfl) trivial (fun ρ307 w307 hm307 hR307 => ?_)
    have hag := hag.moved (hm307.castL (by kernel_rfl))
    have hag3 := hag3.moved (hm307.castL (by kernel_rfl))
    have hM := hM.moved (hm307.castL (by kernel_rfl))
    have hrow := hrow.moved (hm307.castL (by kernel_rfl))
    have hvo := hvo.moved (hm307.castL (by kernel_rfl))
    refine sim_ord_endR hR307 (by kernel_rfl) (fun hR308 => ?_)
    refine sim_run 2 [] hR308 (by kernel_rfl) trivial (fun ρ309 w309 hm309 hR309 => ?_)
    have hag := hag.moved (hm309.castL (by kernel_rfl))
    have hag3 := hag3.moved (hm309.castL (by kernel_rfl))
    have hM := hM.moved (hm309.castL (by kernel_rfl))
    have hrow := hrow.moved (hm309.castL (by kernel_rfl))
    have hvo := hvo.moved (hm309.castL (by kernel_rfl))
    rotate_left
    have hM := hM.drew
    have hrow := hrow.drew
    have hvo := hvo.drew
    refine sim_ordN 6 [] hR304 (by kernel_rfl) trivial (fun ρ310 w310 hm310 hR310 => ?_)
    have hag := hag.moved (hm310.castL (by kernel_rfl))
    have hag3 := hag3.moved (hm310.castL (by kernel_rfl))
    have hM := hM.moved (hm310.castL (by kernel_rfl))
    have hrow := hrow.moved (hm310.castL (by kernel_rfl))
    have hvo := hvo.moved (hm310.castL (by kernel_rfl))
    refine sim_ord_look (enc := encK) (encV := encB) (mx := .v (Value.map m)) (kx := .agg [LS kk.fst, LS kk.snd]) (ok := false) kk (.agg [LI b.1, LI b.2.1, LI b.2.2]) (by kernel_rfl) mp_ty kt_key zero_b3 hM rfl rfl hR310 (by rw [show (look kk _).getD (0, 0, 0) = b from hv]; rfl) (fun hR311 => ?_)
    refine sim_ordN 1 [] hR311 (by kernel_rfl) trivial (fun ρ312 w312 hm312 hR312 => ?_)
    have hag := hag.moved (hm312.castL (by kernel_rfl))
    have hag3 := hag3.moved (hm312.castL (by kernel_rfl))
    have hM := hM.moved (hm312.castL (by kernel_rfl))
    have hrow := hrow.moved (hm312.castL (by kernel_rfl))
    have hvo := hvo.moved (hm312.castL (by kernel_rfl))
    refine sim_ord_endR hR312 (by kernel_rfl) (fun hR313 => ?_)
    refine sim_run 2 [] hR313 (by kernel_rfl) trivial (fun ρ314 w314 hm314 hR314 => ?_)
    have hag := hag.moved (hm314.castL (by kernel_rfl))
    have hag3 := hag3.moved (hm314.castL (by kernel_rfl))
    have hM := hM.moved (hm314.castL (by kernel_rfl))
    have hrow := hrow.moved (hm314.castL (by kernel_rfl))
    have hvo := hvo.moved (hm314.castL (by kernel_rfl))
    rotate_left
    
    · refine sim_arr 4 0 3 (by kernel_rfl) ?_
      have hgs : ga < _ := own_lt hrow.own rfl
      refine sim_appendO 82 vo (.slc 4 0 3 3) (by kernel_rfl) (hR309.cast (by kernel_rfl)) int_ty (hvo.castR (by kernel_rfl)) 4 3 3 rfl (three b |>.map LI) (by kernel_rfl) rfl (by kernel_rfl) (by unfold maxLen; omega) (by omega) (by omega) (fun g' hg' => .inr (by have := own_ge hvo.own hg'; omega)) [0, 2] (by kernel_rfl) (fun k0 hk0 g' hg' => by
        have hgg := own_ge hvo.own hg'
        simp only [List.mem_cons, List.not_mem_nil, or_false] at hk0
        rcases hk0 with rfl | rfl
        · rw [hag.at_ 0 (by omega), e200]
          show g ≠ g'
          omega
        · rw [hag3.at_ 2 (by omega), e4]
          show ga ≠ g'
          omega) (fun v' w12 hvo' hgr hR12 => ?_)
      have hM := hM.grownO hvo.own hgr
      have hrow := hrow.grown hgr (fun g' hg' e => by
        have := own_ge hvo.own e
        have hg' : ga = g' := Option.some.inj hg'
        omega)
      have hvo := hvo'
      clear hvo'
      refine sim_run 7 [⟨7, 0, LI (IntKind.i64.wrap ((↑(k, vo, xs).fst : Int) + 1)), LI ((↑(k, vo, xs).fst : Int) + 1)⟩] (hR12.cast (by kernel_rfl)) (by kernel_rfl) ⟨eqi (IntWalk.i64_in _ (by omega)), trivial⟩ (fun ρ600 w600 hm600 hR600 => ?_)
      have hag := hag.moved (hm600.castL (by kernel_rfl))
      have hag3 := hag3.moved (hm600.castL (by kernel_rfl))
      have hM := hM.moved (hm600.castL (by kernel_rfl))
      have hrow := hrow.moved (hm600.castL (by kernel_rfl))
      have hvo := hvo.moved (hm600.castL (by kernel_rfl))
      
      exact sim_again (k + 1, v', xs ++ three b) (by kernel_rfl) (by show ks.length - (k + 1) < ks.length - k; omega) (by kernel_rfl) (by kernel_rfl) (by kernel_rfl) hag.ag (Rel.cast (by assumption) (by kernel_rfl)) (by kernel_rfl) (by kernel_rfl) ⟨by show k + 1 ≤ ks.length; omega, hM.cut hag (by kernel_rfl) (by kernel_rfl), hrow.cut hag (by kernel_rfl) (by kernel_rfl), by show xs ++ three b = _; rw [allOf_step hkk, hv, hxs], ga + 1, by omega, fun g' hg' => by have hg' : ga = g' := Option.some.inj hg'; omega, by
        show Own _ _ _ _ _ _ v' (xs ++ three b).length (ints (xs ++ three b))
        rw [List.length_append, show ints (xs ++ three b) = ints xs ++ ints (three b) from List.map_append]
        exact hvo.cut hag (by kernel_rfl) (by kernel_rfl)⟩
    · refine sim_arr 4 0 3 (by kernel_rfl) ?_
      have hgs : ga < _ := own_lt hrow.own rfl
      refine sim_appendO 82 vo (.slc 4 0 3 3) (by kernel_rfl) (hR314.cast (by kernel_rfl)) int_ty (hvo.castR (by kernel_rfl)) 4 3 3 rfl (three b |>.map LI) (by kernel_rfl) rfl (by kernel_rfl) (by unfold maxLen; omega) (by omega) (by omega) (fun g' hg' => .inr (by have := own_ge hvo.own hg'; omega)) [0, 2] (by kernel_rfl) (fun k0 hk0 g' hg' => by
        have hgg := own_ge hvo.own hg'
        simp only [List.mem_cons, List.not_mem_nil, or_false] at hk0
        rcases hk0 with rfl | rfl
        · rw [hag.at_ 0 (by omega), e200]
          show g ≠ g'
          omega
        · rw [hag3.at_ 2 (by omega), e4]
          show ga ≠ g'
          omega) (fun v' w12 hvo' hgr hR12 => ?_)
      have hM := hM.grownO hvo.own hgr
      have hrow := hrow.grown hgr (fun g' hg' e => by
        have := own_ge hvo.own e
        have hg' : ga = g' := Option.some.inj hg'
        omega)
      have hvo := hvo'
      clear hvo'
      refine sim_run 7 [⟨7, 0, LI (IntKind.i64.wrap ((↑(k, vo, xs).fst : Int) + 1)), LI ((↑(k, vo, xs).fst : Int) + 1)⟩] (hR12.cast (by kernel_rfl)) (by kernel_rfl) ⟨eqi (IntWalk.i64_in _ (by omega)), trivial⟩ (fun ρ700 w700 hm700 hR700 => ?_)
      have hag := hag.moved (hm700.castL (by kernel_rfl))
      have hag3 := hag3.moved (hm700.castL (by kernel_rfl))
      have hM := hM.moved (hm700.castL (by kernel_rfl))
      have hrow := hrow.moved (hm700.castL (by kernel_rfl))
      have hvo := hvo.moved (hm700.castL (by kernel_rfl))
      
      exact sim_again (k + 1, v', xs ++ three b) (by kernel_rfl) (by show ks.length - (k + 1) < ks.length - k; omega) (by kernel_rfl) (by kernel_rfl) (by kernel_rfl) hag.ag (Rel.cast (by assumption) (by kernel_rfl)) (by kernel_rfl) (by kernel_rfl) ⟨by show k + 1 ≤ ks.length; omega, hM.cut hag (by kernel_rfl) (by kernel_rfl), hrow.cut hag (by kernel_rfl) (by kernel_rfl), by show xs ++ three b = _; rw [allOf_step hkk, hv, hxs], ga + 1, by omega, fun g' hg' => by have hg' : ga = g' := Option.some.inj hg'; omega, by
        show Own _ _ _ _ _ _ v' (xs ++ three b).length (ints (xs ++ three b))
        rw [List.length_append, show ints (xs ++ three b) = ints xs ++ ints (three b) from List.map_append]
        exact hvo.cut hag (by kernel_rfl) (by kernel_rfl)⟩
  · have hke : k = ks.length := by omega
    subst hke
    obtain ⟨Av, cv, hve⟩ : ∃ Av cv, vo = .slice Av xs.length cv := by
      rcases hvo.own.2 with ⟨h1, h2⟩ | ⟨g', cap, cur, h1, _⟩
      · exact ⟨none, 0, by rw [h1, h2]⟩
      · exact ⟨_, cap, h1⟩
    subst hve
    refine sim_run 5 [] (hR3.cast (by kernel_rfl)) (by kernel_rfl) trivial (fun ρ400 w400 hm400 hR400 => ?_)
    have hM := hM.moved (hm400.castL (by kernel_rfl))
    have hrow := hrow.moved (hm400.castL (by kernel_rfl))
    have hag := hag.moved (hm400.castL (by kernel_rfl))
    have hvo := hvo.moved (hm400.castL (by kernel_rfl))
    refine sim_know 16 (decide ((↑(ks.length, Value.slice Av xs.length cv, xs).fst : Int) < (↑ks.length : Int))) false (by kernel_rfl) (decide_eq_false (by omega)) ?_
    refine sim_run 1 [] (hR400.cast (by kernel_rfl)) (by kernel_rfl) trivial (fun ρ401 w401 hm401 hR401 => ?_)
    have hM := hM.moved (hm401.castL (by kernel_rfl))
    have hrow := hrow.moved (hm401.castL (by kernel_rfl))
    have hag := hag.moved (hm401.castL (by kernel_rfl))
    have hvo := hvo.moved (hm401.castL (by kernel_rfl))
    refine sim_leave (by kernel_rfl) ?_
    refine sim_run 7 [] (hR401.cast (by kernel_rfl)) (by kernel_rfl) trivial (fun ρ402 w402 hm402 hR402 => ?_)
    have hM := hM.moved (hm402.castL (by kernel_rfl))
    have hrow := hrow.moved (hm402.castL (by kernel_rfl))
    have hag := hag.moved (hm402.castL (by kernel_rfl))
    have hvo := hvo.moved (hm402.castL (by kernel_rfl))
    
    rw [List.take_length] at hxs
    have hxl := allOf_len l ks
    refine sim_call 41 [.ptr 2 0, .v (.slice Av xs.length cv)] (by kernel_rfl) ?_
    refine (accAdd_any _ _ false Av xs.length cv xs _ ((hR402).at_cell 2 0 (LB false) (by kernel_rfl)) ((hR402).unfrozen (q := 2) (r := ⟨[LB false], true⟩) (by kernel_rfl) rfl (by show 0 < 1; omega)) _ hvo.reads (hxs ▸ allOf_is64 hok ks) (by rw [hxs]; omega)).mono ?_
    rw [hxs]
    rintro e w5 ⟨rfl, ho⟩
    have hR5 := (hR402).orAt (q := 2) (x := false) (by kernel_rfl) ho
    refine Back.of (LI (clampV (sumI (allOf l ks)))) hR5 rfl ?_
    refine sim_run 2 [] (hR5.cast (by kernel_rfl)) (by kernel_rfl) trivial (fun ρ500 w500 hm500 hR500 => ?_)
    refine sim_ret (LI (clampV (sumI (allOf l ks)))) hR500 (by kernel_rfl) (by kernel_rfl) ?_
    exact ⟨rfl, hR500.toBelow⟩
    
end

section
open Go Go.RowKit
attribute [local irreducible] run goO leaveK someK nextK nextT nextOT nextOD loopBody loopRest loopK fillJ tmplOf tmplJ mergeT At AtO drawOk ordOf gateOf callC callO topOp topO idxOf appOf storeOf clearOf sliceOf calleeOf calleeO topQ idxQ newRowOf resL stepOp seek

section
variable {K V : Type} [DecidableEq K]
theorem look_ins (k k' : K) (v : V) (n : Nat) : ∀ (l : List (Ent K V)), look k' (ins k v n l) = if k' = k then some v else look k' l
  | [] => by
    by_cases h : k' = k
    · simp only [ins, look, h, if_true]
    · simp only [ins, look, h, if_false]
  | e :: l => by
    by_cases h1 : k = e.key
    · simp only [ins, if_pos h1, look]
      by_cases h2 : k' = k
      · rw [if_pos (h2.trans h1), if_pos h2]
      · rw [if_neg (fun e' => h2 (e'.trans h1.symm)), if_neg h2, if_neg (fun e' => h2 (e'.trans h1.symm))]
    · simp only [ins, if_neg h1, look]
      by_cases h2 : k' = e.key
      · rw [if_pos h2, if_neg (fun e' => h1 (e'.symm.trans h2)), if_pos h2]
      · rw [if_neg h2, look_ins k k' v n l, if_neg h2]
theorem look_del {k k' : K} : ∀ {l : List (Ent K V)}, (l.Pairwise fun a b => a.key ≠ b.key) → look k' (del k l) = if k' = k then none else look k' l
  | [], _ => by simp [del, look]
  | e :: l, h => by
    obtain ⟨h1, h2⟩ := List.pairwise_cons.1 h
    by_cases he : k = e.key
    · simp only [del, if_pos he, look]
      by_cases hk : k' = k
      · rw [if_pos hk, look_none]
        intro x hx e'
        exact h1 x hx (by rw [e', hk, he])
      · rw [if_neg hk, if_neg (fun e' => hk (e'.trans he.symm))]
    · simp only [del, if_neg he, look]
      rw [look_del h2]
      by_cases hk : k' = e.key
      · rw [if_pos hk, if_neg (fun e' => he (e'.symm.trans hk)), if_pos hk]
      · rw [if_neg hk, if_neg hk]
theorem ins_len (k : K) (v : V) (n : Nat) : ∀ (l : List (Ent K V)), (ins k v n l).length ≤ l.length + 1
  | [] => by simp [ins]
  | e :: l => by
    unfold ins
    split
    · simp
    · have := ins_len k v n l
      simp only [List.length_cons]
      omega
theorem look_self {e : Ent K V} : ∀ {l : List (Ent K V)}, (l.Pairwise fun a b => a.key ≠ b.key) → e ∈ l → look e.key l = some e.val
  | a :: l, h, he => by
    obtain ⟨h1, h2⟩ := List.pairwise_cons.1 h
    rcases List.mem_cons.1 he with rfl | he
    · simp [look]
    · simp only [look]
      rw [if_neg (fun e' => h1 e he e'.symm), look_self h2 he]
end
/-- what a change does to what is read -/
def addF (f : Key → B3) (k : Key) (sub by' : Int) (k' : Key) : B3 := if addC (f k) sub by' = 0 ∧ k' = k then setB (f k) sub (partB (f k) sub + by') else f k'
theorem addL_get {l : List (Ent Key B3)} {clock : Nat} (hf : Fine l clock) (k : Key) (sub by' : Int) (k' : Key) : getM (addL clock l k sub by') k' = addF (getM l) k sub by' k' := by
  unfold addL addF
  by_cases h : addC (getM l k) sub by' = 0
  · rw [if_pos h]
    by_cases hk : k' = k
    · rw [if_pos (⟨h, hk⟩ : addC (getM l k) sub by' = 0 ∧ k' = k)]
      split
      · rename_i hz
        rw [hz]
        show (look k' _).getD _ = _
        rw [look_del hf.keys, if_pos hk]
        rfl
      · show (look k' _).getD _ = _
        rw [look_ins, if_pos hk]
        rfl
    · rw [if_neg (fun h' : addC (getM l k) sub by' = 0 ∧ k' = k => hk h'.2)]
      split
      · show (look k' _).getD _ = _
        rw [look_del hf.keys, if_neg hk]
      · show (look k' _).getD _ = _
        rw [look_ins, if_neg hk]
  · rw [if_neg h, if_neg (fun h' => h h'.1)]
theorem setB_ok {b : B3} {sub by' : Int} (h : okB b) (hc : addC b sub by' = 0) : okB (setB b sub (partB b sub + by')) := by
  obtain ⟨fa, fb, fc⟩ := h
  unfold addC at hc
  split at hc
  · rename_i hh
    split at hc
    · cases hc
    · split at hc
      · cases hc
      · unfold setB
        split
        · exact ⟨by dsimp only; omega, fb, fc⟩
        · split
          · exact ⟨fa, by dsimp only; omega, fc⟩
          · exact ⟨fa, fb, by dsimp only; omega⟩
  · cases hc
theorem addL_all {l : List (Ent Key B3)} (P : B3 → Prop) (clock : Nat) (k : Key) (sub by' : Int) (h : ∀ e ∈ l, P e.val) (h2 : addC (getM l k) sub by' = 0 → setB (getM l k) sub (partB (getM l k) sub + by') ≠ (0, 0, 0) → P (setB (getM l k) sub (partB (getM l k) sub + by'))) : ∀ e ∈ addL clock l k sub by', P e.val := by
  intro e he
  unfold addL at he
  split at he
  · rename_i hc
    split at he
    · exact h e ((del_sub k l).subset he)
    · rename_i hz
      rcases ins_mem he with ⟨h3, _⟩ | ⟨_, h3, _⟩ | h3
      · exact h e h3
      · rw [h3]
        exact h2 hc hz
      · exact h e h3
  · exact h e he
theorem addL_len (l : List (Ent Key B3)) (clock : Nat) (k : Key) (sub by' : Int) : (addL clock l k sub by').length ≤ l.length + 1 := by
  unfold addL
  split
  · split
    · have := (del_sub k l).length_le
      omega
    · exact ins_len _ _ _ _
  · omega
/-- positions: a Pos in the block g, its map, what is in it -/
structure PoV (w : World) (B g : Nat) (m : Option Nat) (l : List (Ent Key B3)) (clock : Nat) : Prop where
  cell : Blk w g 74 #[.map m]
  mp : MpO encK encB ρ0 [] w m l clock
  ok : ∀ e ∈ l, okB e.val
  nz : ∀ e ∈ l, e.val ≠ (0, 0, 0)
  ge : B ≤ g
  geM : ∀ q, m = some q → B ≤ q
/-- what a method leaves -/
def PoQ2 (w : World) (B g : Nat) (m : Option Nat) (l' : List (Ent Key B3)) (V : Value) (e : Ending) (w' : World) : Prop :=
  ∃ m' clock', e = .returned V ∧ PoV w' B g m' l' clock' ∧ Kept (fun x => x = g ∨ m = some x) w w' ∧ (m' = m ∨ ∃ x, w.heap.size ≤ x ∧ m' = some x)
theorem PoV.drew {w : World} {B g : Nat} {m : Option Nat} {l : List (Ent Key B3)} {clock : Nat} (h : PoV w B g m l clock) : PoV w.drew B g m l clock := ⟨h.cell.drew, h.mp.drew, h.ok, h.nz, h.ge, h.geM⟩
theorem PoV.below {w w' : World} {B g : Nat} {m : Option Nat} {l : List (Ent Key B3)} {clock : Nat} (h : PoV w B g m l clock) (hb : Below w.heap.size w w') : PoV w' B g m l clock := ⟨h.cell.below hb h.cell.lt, h.mp.below hb, h.ok, h.nz, h.ge, h.geM⟩
theorem add_po (B g : Nat) (m : Option Nat) (l : List (Ent Key B3)) (clock : Nat) (k1 k2 : ByteArray) (sub by' : Int) (w : World) (h : PoV w B g m l clock) :
    Calls Try.prog 16 #[.pointer (some ⟨g, 0, none⟩), .agg #[.string k1, .string k2], .int .i64 sub, .int .i64 by'] w (PoQ2 w B g m (addL clock l (k1, k2) sub by') (.int .i64 (addC (getM l (k1, k2)) sub by'))) := by
  refine (add_l g m l clock (k1, k2) sub by' w h.cell h.mp h.ok).mono ?_
  rintro e w' ⟨m', clock', he, h1, h2, h3, h4⟩
  refine ⟨m', clock', he, ⟨h1, h2, addL_all okB clock (k1, k2) sub by' h.ok (fun hc _ => setB_ok (getM_ok h.ok (k1, k2)) hc), addL_all (fun b => b ≠ (0, 0, 0)) clock (k1, k2) sub by' h.nz (fun _ hz => hz), h.ge, fun q hq => ?_⟩, h3, h4⟩
  rcases h4 with rfl | ⟨x, hx, rfl⟩
  · exact h.geM q hq
  · injection hq with hq
    have h5 := h.ge
    have h6 := h.cell.lt
    omega
theorem get_po (B g : Nat) (m : Option Nat) (l : List (Ent Key B3)) (clock : Nat) (k1 k2 : ByteArray) (w : World) (h : PoV w B g m l clock) :
    Calls Try.prog 17 #[.pointer (some ⟨g, 0, none⟩), .agg #[.string k1, .string k2]] w fun e w' => e = .returned (.agg #[.int .i64 (getM l (k1, k2)).1, .int .i64 (getM l (k1, k2)).2.1, .int .i64 (getM l (k1, k2)).2.2]) ∧ Below w.heap.size w w' := get_any g m l clock (k1, k2) w h.cell h.mp
theorem part_po (B g : Nat) (m : Option Nat) (l : List (Ent Key B3)) (clock : Nat) (k1 k2 : ByteArray) (sub : Int) (w : World) (h : PoV w B g m l clock) :
    Calls Try.prog 19 #[.pointer (some ⟨g, 0, none⟩), .agg #[.string k1, .string k2], .int .i64 sub] w fun e w' => e = .returned (.int .i64 (partM (getM l (k1, k2)) sub)) ∧ Below w.heap.size w w' := part_any g m l clock (k1, k2) sub w h.cell h.mp
theorem whole_po (B g : Nat) (m : Option Nat) (l : List (Ent Key B3)) (clock : Nat) (k1 k2 : ByteArray) (w : World) (h : PoV w B g m l clock) :
    Calls Try.prog 22 #[.pointer (some ⟨g, 0, none⟩), .agg #[.string k1, .string k2]] w fun e w' => e = .returned (.int .i64 (clampV (sum3 (getM l (k1, k2))))) ∧ Below w.heap.size w w' := whole_any g m l clock (k1, k2) w h.cell h.mp h.ok
theorem total_po (B g : Nat) (m : Option Nat) (l : List (Ent Key B3)) (clock : Nat) (asset : ByteArray) (w : World) (h : PoV w B g m l clock) (hlen : l.length ≤ 1000000) :
    Calls Try.prog 21 #[.pointer (some ⟨g, 0, none⟩), .string asset] w fun e w' => e = .returned (.int .i64 (clampV (sumI (allOf l (sortKs (pickKs [asset] l)))))) ∧ Below w.heap.size w w' := total_any g m l clock asset w h.cell h.mp h.ok hlen
theorem keys_po (B g : Nat) (m : Option Nat) (l : List (Ent Key B3)) (clock : Nat) (A : Option Addr) (n cp B' : Nat) (tx : List ByteArray) (w : World) (h : PoV w B g m l clock) (hr : Reads w B' 1 A n (txtsV tx)) (hB : B' ≤ w.heap.size) (hn : n ≤ 4611686018427387904) (hlen : l.length ≤ 1000000) :
    Calls Try.prog 18 #[.pointer (some ⟨g, 0, none⟩), .slice A n cp] w (KeysN w (sortKs (pickKs tx l))) := keys_any g m l clock A n cp B' tx w h.cell h.mp hr hB hn hlen
/-- positions that stand beside what is in view -/
structure PoO (ρ : Nm) (rs : List Reg) (w : World) (B g : Nat) (m : Option Nat) (l : List (Ent Key B3)) (clock : Nat) : Prop where
  po : PoV w B g m l clock
  far : ¬ wrS ρ rs g
  farM : ∀ q, m = some q → ¬ wrS ρ rs q
theorem PoV.ltM {w : World} {B g : Nat} {m : Option Nat} {l : List (Ent Key B3)} {clock : Nat} (h : PoV w B g m l clock) {q : Nat} (hq : m = some q) : q < w.heap.size := (h.mp.is q hq).1.size
theorem PoO.moved {ρ ρ' : Nm} {rs rs' : List Reg} {w w' : World} {B g : Nat} {m : Option Nat} {l : List (Ent Key B3)} {clock : Nat} (h : PoO ρ rs w B g m l clock) (hm : Moved ρ rs w ρ' rs' w') : PoO ρ' rs' w' B g m l clock := by
  refine ⟨⟨(hm.kept.block g h.po.cell.lt h.far).trans h.po.cell, ⟨fun q hq => ⟨(h.po.mp.is q hq).1.same (hm.kept.block q (h.po.ltM hq) (h.farM q hq)), (h.po.mp.is q hq).2⟩, h.po.mp.nil⟩, h.po.ok, h.po.nz, h.po.ge, h.po.geM⟩, fun hw => (hm.wrs g hw).elim h.far (fun h1 => by have := h.po.cell.lt; omega), fun k hk hw => (hm.wrs k hw).elim (h.farM k hk) (fun h1 => by have := h.po.ltM hk; omega)⟩
theorem PoO.below {ρ : Nm} {rs : List Reg} {w w' : World} {B g : Nat} {m : Option Nat} {l : List (Ent Key B3)} {clock : Nat} (h : PoO ρ rs w B g m l clock) (hb : Below w.heap.size w w') : PoO ρ rs w' B g m l clock := ⟨h.po.below hb, h.far, h.farM⟩
theorem PoO.drew {ρ : Nm} {rs : List Reg} {w : World} {B g : Nat} {m : Option Nat} {l : List (Ent Key B3)} {clock : Nat} (h : PoO ρ rs w B g m l clock) : PoO ρ rs w.drew B g m l clock := ⟨h.po.drew, h.far, h.farM⟩
theorem PoO.castR {ρ : Nm} {rs rs' : List Reg} {w : World} {B g : Nat} {m : Option Nat} {l : List (Ent Key B3)} {clock : Nat} (h : PoO ρ rs w B g m l clock) (e : rs = rs') : PoO ρ rs' w B g m l clock := e ▸ h
theorem PoO.cut {ρ ρ' : Nm} {rs rs' : List Reg} {w : World} {N B g : Nat} {m : Option Nat} {l : List (Ent Key B3)} {clock : Nat} (h : PoO ρ' rs' w B g m l clock) (hag : Ag N ρ ρ' rs') (hN : rs.length = N) (e0 : rs'.take N = rs) : PoO ρ rs w B g m l clock :=
  ⟨h.po, fun hw => h.far (wrS_cut hag hN e0 hw), fun q hq hw => h.farM q hq (wrS_cut hag hN e0 hw)⟩
theorem PoO.new {T : List Nat} {w0 : World} {ρ : Nm} {rs : List Reg} {w w' : World} {g : Nat} (hR : Rel T w0 ρ rs w) (hg : w.heap.size ≤ g) (hb : Blk w' g 74 #[.map none]) : PoO ρ rs w' w.heap.size g none [] 0 :=
  ⟨⟨hb, .none_, fun e he => by (cases he), fun e he => by (cases he), hg, fun q hq => by cases hq⟩, fun hw => by have := hR.wr_lt hw; omega, fun k hk => by cases hk⟩
def roAll : List Reg → Nat → List Nat
  | [], _ => []
  | r :: rs, i => if r.wr then roAll rs (i + 1) else i :: roAll rs (i + 1)
theorem roAll_mem : ∀ (rs : List Reg) (i k : Nat) (r : Reg), rs[k]? = some r → r.wr = false → i + k ∈ roAll rs i
  | [], _, _, _, h, _ => by simp at h
  | q :: rs, _, 0, r, h, hw => by
    simp only [List.getElem?_cons_zero, Option.some.injEq] at h
    subst h
    simp [roAll, hw]
  | q :: rs, i, k + 1, r, h, hw => by
    simp only [List.getElem?_cons_succ] at h
    have ih := roAll_mem rs (i + 1) k r h hw
    rw [show i + 1 + k = i + (k + 1) by omega] at ih
    simp only [roAll]
    split
    · exact ih
    · exact List.mem_cons_of_mem _ ih
/-- behind a method -/
theorem PoO.after {T : List Nat} {w0 : World} {ρ : Nm} {rs : List Reg} {w w' : World} {B g : Nat} {m m' : Option Nat} {l l' : List (Ent Key B3)} {clock clock' : Nat} (h : PoO ρ rs w B g m l clock) (hR : Rel T w0 ρ rs w) (hw0 : w0.heap.size ≤ B) (hb : PoV w' B g m' l' clock') (hk : Kept (fun x => x = g ∨ m = some x) w w') (hv : m' = m ∨ ∃ x, w.heap.size ≤ x ∧ m' = some x)
    (il : List Nat) (hl : roAll rs 0 = il) (hidx : ∀ k ∈ il, (ρ k).1 < w0.heap.size) : PoO ρ rs w' B g m' l' clock' ∧ Rel T w0 ρ rs w' := by
  refine ⟨⟨hb, h.far, fun k hk hw => ?_⟩, hR.kept hk (fun n r hn _ hS => ?_) (fun x hx => .inr ?_)⟩
  · rcases hv with h1 | ⟨k', h1, h2⟩
    · exact h.farM k (h1 ▸ hk) hw
    · rw [h2] at hk
      injection hk with hk
      have := hR.wr_lt hw
      omega
  · cases hw : r.wr with
    | true =>
      rcases hS with hS | hS
      · exact h.far ⟨n, r, hn, hw, hS⟩
      · exact h.farM _ hS ⟨n, r, hn, hw, rfl⟩
    | false =>
      have := roAll_mem rs 0 n r hn hw
      rw [hl, Nat.zero_add] at this
      have h1 := hidx n this
      have h2 := h.po.ge
      rcases hS with hS | hS
      · omega
      · have := h.po.geM _ hS
        omega
  · rcases hx with hx | hx
    · have := h.po.ge
      omega
    · have := h.po.geM x hx
      omega
end
end Go.Proofs.Ytgbgedaedcofcaa
