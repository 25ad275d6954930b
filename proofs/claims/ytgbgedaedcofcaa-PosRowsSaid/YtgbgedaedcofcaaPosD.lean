/-
  pos: Keys.
-/
import Derived.Test.YtgbgedaedcofcaaPosC
import Derived.Test.YtgbgedaedcofcaaKeySort
import Derived.Test.YtgbgedaedcofcaaContS
namespace Go.Proofs.Ytgbgedaedcofcaa
open Go Go.RowKit
attribute [local irreducible] run goO leaveK someK nextK nextT nextOT nextOD loopBody loopRest loopK fillJ tmplOf tmplJ mergeT At AtO drawOk ordOf gateOf callC callO topOp topO idxOf appOf storeOf clearOf sliceOf calleeOf calleeO topQ idxQ newRowOf resL stepOp seek

def KeysN (w : World) (ks : List Key) (e : Ending) (w' : World) : Prop := ∃ A cap, e = .returned (.slice A ks.length cap) ∧ w'.ownsRow w.heap.size 24 2 (.slice A ks.length cap) ks.length (ks.flatMap encL) ∧ Below w.heap.size w w'
def wantK (tx : List ByteArray) (k : Key) : Bool := tx.isEmpty || tx.any fun a => k.2.toList == a.toList
theorem sortKs_perm {xs ys : List Key} (h : xs.Perm ys) : sortKs xs = sortKs ys := by
  have tr : ∀ a b c : Key, leK a b = true → leK b c = true → leK a c = true := by
    intro a b c h1 h2
    unfold leK at *
    simp only [Bool.not_eq_true'] at *
    cases h3 : ltK c a with
    | false => rfl
    | true =>
      cases h4 : ltK a b with
      | true => rw [ltK_trans h3 h4] at h2; cases h2
      | false =>
        have e := ltK_total h4 h1
        subst e
        rw [h3] at h2
        cases h2
  have tot : ∀ a b : Key, (leK a b || leK b a) = true := by
    intro a b
    unfold leK
    cases h1 : ltK b a with
    | false => rfl
    | true =>
      cases h2 : ltK a b with
      | false => rfl
      | true => have := ltK_trans h1 h2; rw [ltK_irrefl] at this; cases this
  refine List.Perm.eq_of_pairwise (le := fun a b => leK a b = true) (fun a b _ _ h1 h2 => ?_) (List.pairwise_mergeSort (le := leK) (fun a b c => tr a b c) tot _) (List.pairwise_mergeSort (le := leK) (fun a b c => tr a b c) tot _) (((List.mergeSort_perm xs leK).trans h).trans (List.mergeSort_perm ys leK).symm)
  unfold leK at h1 h2
  simp only [Bool.not_eq_true'] at h1 h2
  exact ltK_total h2 h1
theorem key_ty : RowTy Try.prog 35 24 2 32 := .of Try.underlying35 (by kernel_rfl) rfl
def pickKs (tx : List ByteArray) (dn : List (Ent Key B3)) : List Key := (dn.map (·.key)).filter (wantK tx)
theorem nodup_map {α β : Type} {f : α → β} {l : List α} (h : (l.map f).Nodup) : l.Nodup := (List.pairwise_map.1 h).imp fun h e => h (congrArg _ e)
theorem ItO.le {ρ : Nm} {rs : List Reg} {w : World} {it : Nat} {m : Option Nat} {l dn : List (Ent Key B3)} {clock : Nat} (h : ItO ρ rs w it m l clock dn) : dn.length ≤ l.length := (nodup_map h.nodup).length_le_of_subset h.sub
theorem ItO.lt {ρ : Nm} {rs : List Reg} {w : World} {it : Nat} {m : Option Nat} {l dn : List (Ent Key B3)} {clock : Nat} {e : Ent Key B3} (h : ItO ρ rs w it m l clock (dn ++ [e])) : dn.length + 1 ≤ l.length := by
  have := h.le
  simpa using this
theorem ItO.perm {ρ : Nm} {rs : List Reg} {w : World} {it : Nat} {m : Option Nat} {l dn : List (Ent Key B3)} {clock : Nat} (h : ItO ρ rs w it m l clock dn) (hf : Fine l clock) (hall : ∀ e ∈ l, e ∈ dn) : dn.Perm l := (List.perm_ext_iff_of_nodup (nodup_map h.nodup) (nodup_map hf.borns)).2 fun e => ⟨h.sub e, hall e⟩
theorem pickKs_len (tx : List ByteArray) (dn : List (Ent Key B3)) : (pickKs tx dn).length ≤ dn.length := by
  unfold pickKs
  exact Nat.le_trans (List.length_filter_le _ _) (by rw [List.length_map]; exact Nat.le_refl _)
theorem pickKs_yes {tx : List ByteArray} {dn : List (Ent Key B3)} {e : Ent Key B3} (h : wantK tx e.key = true) : pickKs tx (dn ++ [e]) = pickKs tx dn ++ [e.key] := by simp [pickKs, h]
theorem pickKs_no {tx : List ByteArray} {dn : List (Ent Key B3)} {e : Ent Key B3} (h : wantK tx e.key = false) : pickKs tx (dn ++ [e]) = pickKs tx dn := by simp [pickKs, h]
theorem pickKs_perm {tx : List ByteArray} {dn l : List (Ent Key B3)} (h : dn.Perm l) : (pickKs tx dn).Perm (pickKs tx l) := (h.map _).filter _
set_option maxRecDepth 100000 in
set_option maxHeartbeats 4000000 in
theorem keys_any (g : Nat) (m : Option Nat) (l : List (Ent Key B3)) (clock : Nat) (A : Option Addr) (n cp B : Nat) (tx : List ByteArray) (w : World) (hb : Blk w g 74 #[.map m]) (hM : MpO encK encB ρ0 [] w m l clock) (h : Reads w B 1 A n (txtsV tx)) (hB : B ≤ w.heap.size) (hn : n ≤ 4611686018427387904) (hlen : l.length ≤ 1000000) :
    Calls Try.prog 18 #[.pointer (some ⟨g, 0, none⟩), .slice A n cp] w (KeysN w (sortKs (pickKs tx l))) := by
  have hal : tx.length = n := by have := h.1; rw [txtsV_len] at this; omega
  have hg : w.cell? ⟨g, 0, none⟩ = some (.map m) := hb.cell 0
  obtain ⟨ρ, _, e0, hR⟩ := (Rel.start [] w ρ0).open_ rfl g 0 [.v (.map m)] rfl false (World.block_lt_of_cell? _ _ hg) (fun j v hv => by
    match j, hv with
    | 0, hv => injection hv with hv; rw [← hv]; exact hg) (fun h => by cases h) (fun n r hn => by simp at hn)
  have e0 : ρ 0 = (g, 0) := e0
  refine sim_enter Try.func18 ρ [.ptr 0 0, .v (.slice A n cp)] [⟨[.v (.map m)], false⟩] (by kernel_rfl) (by simp only [denL, LV.den, Nm.at_, e0]) ?_
  have hR := hR.cast rfl
  have hM := hM.over (ρ := ρ) (r := ⟨[.v (.map m)], false⟩) hb e0
  have hag := hR.ag_ 1 (by kernel_rfl)
  refine sim_run 23 [] (hR.cast (by kernel_rfl)) (by kernel_rfl) trivial (fun ρ100 w100 hm100 hR100 => ?_)
  have hM := hM.moved (hm100.castL (by kernel_rfl))
  have hag := hag.moved (hm100.castL (by kernel_rfl))
  refine sim_range (enc := encK) (encV := encB) (mx := .v (Value.map m)) (by kernel_rfl) mp_ty hM rfl hR100 (fun w101 it eit hb101 hI hR101 => ?_)
  have hit : w.heap.size ≤ it := by rw [eit]; exact (hR100).keeps.size
  have hM := hM.below hb101
  refine sim_run 2 [] (hR101.cast (by kernel_rfl)) (by kernel_rfl) trivial (fun ρ102 w102 hm102 hR102 => ?_)
  have hag := hag.moved (hm102.castL (by kernel_rfl))
  have hI := hI.moved (hm102.castL (by kernel_rfl))
  have hM := hM.moved (hm102.castL (by kernel_rfl))
  
  have e102 : ρ102 0 = (g, 0) := (hag.at_ 0 (by omega)).trans e0
  have hgl : g < w.heap.size := hb.lt
  refine sim_loop (ι := List (Ent Key B3) × Value × List Key) (T := []) (w0 := w) ([], .slice none 0 0, []) [0, 1, 4, 13] (fun x => [(5, .v x.2.1)]) (fun _ => [⟨[.v (.map m)], false⟩])
    (fun x w1 => x.1.length ≤ l.length ∧ MpO encK encB ρ102 [⟨[.v (.map m)], false⟩] w1 m l clock ∧ ItO ρ102 [⟨[.v (.map m)], false⟩] w1 it m l clock x.1 ∧ x.2.2 = pickKs tx x.1 ∧ Own ρ102 [⟨[.v (.map m)], false⟩] w1 w.heap.size 24 2 x.2.1 x.2.2.length (x.2.2.flatMap encL))
    (fun x => l.length - x.1.length) (by kernel_rfl) (by kernel_rfl) (hR102.cast (by kernel_rfl)) ⟨Nat.zero_le _, hM.castR (by kernel_rfl), hI.castR (by kernel_rfl), rfl, World.ownsRow_nil _ _ _ _, fun g hg => by cases hg⟩ ?_
  iterate 6 (try clear hM)
  iterate 6 (try clear hI)
  iterate 6 (try clear hag)
  clear hm102 hm100 hb101 hR100 hR101
  rintro ⟨dn, vo, ks⟩ d w2 hR2 ⟨hk, hM, hI, hks, hvo⟩
  dsimp only at hk hM hI hks hvo
  have hag := hR2.ag_ 1 (by kernel_rfl)
  refine sim_run 2 [] (hR2.cast (by kernel_rfl)) (by kernel_rfl) trivial (fun ρ200 w200 hm200 hR200 => ?_)
  have hM := hM.moved (hm200.castL (by kernel_rfl))
  have hI := hI.moved (hm200.castL (by kernel_rfl))
  have hvo := hvo.moved (hm200.castL (by kernel_rfl))
  have hag := hag.moved (hm200.castL (by kernel_rfl))
  
  refine sim_next (enc := encK) (encV := encB) (x := .v (.pointer (some ⟨it, 0, none⟩))) (by kernel_rfl) hM hI rfl hit hR200 (fun e w3 he hnd ht hI3 hR3 => ?_) (fun hall => ?_)
  · have hM := hM.turnI ht
    have hvo := hvo.turnI ht
    have hI := hI3
    clear hI3
    obtain ⟨gm, rfl⟩ : ∃ gm, m = some gm := by
      cases m with
      | some gm => exact ⟨gm, rfl⟩
      | none => rw [(hM.nil rfl).1] at he; cases he
    refine sim_run 8 [] (hR3.cast (by kernel_rfl)) (by kernel_rfl) trivial (fun ρ300 w300 hm300 hR300 => ?_)
    have hag := hag.moved (hm300.castL (by kernel_rfl))
    have hM := hM.moved (hm300.castL (by kernel_rfl))
    have hvo := hvo.moved (hm300.castL (by kernel_rfl))
    have hI := hI.moved (hm300.castL (by kernel_rfl))
    refine sim_entry (enc := encK) (encV := encB) (x := .v (Value.pointer (some (Addr.mk it 0 none)))) e (by kernel_rfl) hM hI rfl ?_
    refine sim_run 10 [] (hR300.cast (by kernel_rfl)) (by kernel_rfl) trivial (fun ρ302 w302 hm302 hR302 => ?_)
    have hag := hag.moved (hm302.castL (by kernel_rfl))
    have hM := hM.moved (hm302.castL (by kernel_rfl))
    have hvo := hvo.moved (hm302.castL (by kernel_rfl))
    have hI := hI.moved (hm302.castL (by kernel_rfl))
    refine sim_fork 21 ((↑n : Int) == 0) (by kernel_rfl) (fun hq303 => ?_) (fun hq303 => ?_)
    have hq303 := of_decide_eq_true hq303
    refine sim_run 11 [] (hR302.cast (by kernel_rfl)) (by kernel_rfl) trivial (fun ρ304 w304 hm304 hR304 => ?_)
    have hag := hag.moved (hm304.castL (by kernel_rfl))
    have hM := hM.moved (hm304.castL (by kernel_rfl))
    have hvo := hvo.moved (hm304.castL (by kernel_rfl))
    have hI := hI.moved (hm304.castL (by kernel_rfl))
    rotate_left
    have hq303 := of_decide_eq_false hq303
    refine sim_run 3 [] (hR302.cast (by kernel_rfl)) (by kernel_rfl) trivial (fun ρ305 w305 hm305 hR305 => ?_)
    have hag := hag.moved (hm305.castL (by kernel_rfl))
    have hM := hM.moved (hm305.castL (by kernel_rfl))
    have hvo := hvo.moved (hm305.castL (by kernel_rfl))
    have hI := hI.moved (hm305.castL (by kernel_rfl))
    refine sim_call 37 [.v (Value.slice A n cp), LS e.key.snd] (by kernel_rfl) ?_
    refine Calls.mono (containsS_any (A) (n) (cp) (B) (tx) _ _ (h.belowW (hR305).toBelow hB) (Nat.le_trans hB (hR305).keeps.size) (by assumption)) ?_
    rintro e306 w306 ⟨rfl, hb306⟩
    have hR306 := hR305.below hb306
    have hM := hM.below hb306
    have hvo := hvo.below hb306
    have hI := hI.below hb306
    refine Back.of (LB (tx.any fun a => e.key.snd.toList == a.toList)) hR306 rfl ?_
    refine sim_run 2 [] (hR306.cast (by kernel_rfl)) (by kernel_rfl) trivial (fun ρ307 w307 hm307 hR307 => ?_)
    have hag := hag.moved (hm307.castL (by kernel_rfl))
    have hM := hM.moved (hm307.castL (by kernel_rfl))
    have hvo := hvo.moved (hm307.castL (by kernel_rfl))
    have hI := hI.moved (hm307.castL (by kernel_rfl))
    refine sim_fork 26 (tx.any fun a => e.key.snd.toList == a.toList) (by kernel_rfl) (fun hq308 => ?_) (fun hq308 => ?_)
    refine sim_run 5 [] (hR307.cast (by kernel_rfl)) (by kernel_rfl) trivial (fun ρ309 w309 hm309 hR309 => ?_)
    have hag := hag.moved (hm309.castL (by kernel_rfl))
    have hM := hM.moved (hm309.castL (by kernel_rfl))
    have hvo := hvo.moved (hm309.castL (by kernel_rfl))
    have hI := hI.moved (hm309.castL (by kernel_rfl))
    rotate_left
    refine sim_run 3 [] (hR307.cast (by kernel_rfl)) (by kernel_rfl) trivial (fun ρ310 w310 hm310 hR310 => ?_)
    have hag := hag.moved (hm310.castL (by kernel_rfl))
    have hM := hM.moved (hm310.castL (by kernel_rfl))
    have hvo := hvo.moved (hm310.castL (by kernel_rfl))
    have hI := hI.moved (hm310.castL (by kernel_rfl))
    rotate_left
    
    · have hw : wantK tx e.key = true := by
        unfold wantK
        rw [show tx.isEmpty = true from by cases tx with
          | nil => rfl
          | cons x xs => simp at hal; omega]
        rfl
      have hlt := hI.lt
      have hkl := pickKs_len tx dn
      refine sim_appendO 35 vo (.slc 2 0 1 1) (by kernel_rfl) (Rel.cast (by assumption) (by kernel_rfl)) key_ty hvo 2 1 1 rfl [LS e.key.1, LS e.key.2] (by kernel_rfl) rfl (by kernel_rfl) (by unfold maxLen; rw [hks]; omega) (by rw [hks]; omega) ((by assumption : Rel _ _ _ _ _)).keeps.size (fun g' hg' => .inr (own_ge hvo.own hg')) [0] (by kernel_rfl) (fun k0 hk0 g' hg' => by
        simp only [List.mem_singleton] at hk0
        subst hk0
        rw [hag.at_ 0 (by omega), e102]
        have := own_ge hvo.own hg'
        show g ≠ g'
        omega) (fun v' w12 hvo' hgr hR12 => ?_)
      have hM := hM.grownO hvo.own hgr
      have hI := hI.grownO hvo.own hgr
      have hvo := hvo'
      clear hvo'
      refine sim_run 3 [] (hR12.cast (by kernel_rfl)) (by kernel_rfl) trivial (fun ρ500 w500 hm500 hR500 => ?_)
      have hag := hag.moved (hm500.castL (by kernel_rfl))
      have hM := hM.moved (hm500.castL (by kernel_rfl))
      have hI := hI.moved (hm500.castL (by kernel_rfl))
      have hvo := hvo.moved (hm500.castL (by kernel_rfl))
      
      exact sim_again (dn ++ [e], v', ks ++ [e.key]) (by kernel_rfl) (by show l.length - (dn ++ [e]).length < l.length - dn.length; rw [List.length_append, List.length_singleton]; omega) (by kernel_rfl) (by kernel_rfl) (by kernel_rfl) hag.ag (Rel.cast (by assumption) (by kernel_rfl)) (by kernel_rfl) (by kernel_rfl) ⟨hI.le, hM.cut hag (by kernel_rfl) (by kernel_rfl), hI.cut hag (by kernel_rfl) (by kernel_rfl), by show ks ++ [e.key] = _; rw [pickKs_yes hw, hks], by
        show Own _ _ _ _ _ _ v' (ks ++ [e.key]).length ((ks ++ [e.key]).flatMap encL)
        rw [List.flatMap_append, List.length_append]
        exact hvo.cut hag (by kernel_rfl) (by kernel_rfl)⟩
    · have hw : wantK tx e.key = true := by
        unfold wantK
        rw [(by assumption : (tx.any fun a => e.key.snd.toList == a.toList) = true), Bool.or_true]
      have hlt := hI.lt
      have hkl := pickKs_len tx dn
      refine sim_appendO 35 vo (.slc 2 0 1 1) (by kernel_rfl) (Rel.cast (by assumption) (by kernel_rfl)) key_ty hvo 2 1 1 rfl [LS e.key.1, LS e.key.2] (by kernel_rfl) rfl (by kernel_rfl) (by unfold maxLen; rw [hks]; omega) (by rw [hks]; omega) ((by assumption : Rel _ _ _ _ _)).keeps.size (fun g' hg' => .inr (own_ge hvo.own hg')) [0] (by kernel_rfl) (fun k0 hk0 g' hg' => by
        simp only [List.mem_singleton] at hk0
        subst hk0
        rw [hag.at_ 0 (by omega), e102]
        have := own_ge hvo.own hg'
        show g ≠ g'
        omega) (fun v' w12 hvo' hgr hR12 => ?_)
      have hM := hM.grownO hvo.own hgr
      have hI := hI.grownO hvo.own hgr
      have hvo := hvo'
      clear hvo'
      refine sim_run 3 [] (hR12.cast (by kernel_rfl)) (by kernel_rfl) trivial (fun ρ600 w600 hm600 hR600 => ?_)
      have hag := hag.moved (hm600.castL (by kernel_rfl))
      have hM := hM.moved (hm600.castL (by kernel_rfl))
      have hI := hI.moved (hm600.castL (by kernel_rfl))
      have hvo := hvo.moved (hm600.castL (by kernel_rfl))
      
      exact sim_again (dn ++ [e], v', ks ++ [e.key]) (by kernel_rfl) (by show l.length - (dn ++ [e]).length < l.length - dn.length; rw [List.length_append, List.length_singleton]; omega) (by kernel_rfl) (by kernel_rfl) (by kernel_rfl) hag.ag (Rel.cast (by assumption) (by kernel_rfl)) (by kernel_rfl) (by kernel_rfl) ⟨hI.le, hM.cut hag (by kernel_rfl) (by kernel_rfl), hI.cut hag (by kernel_rfl) (by kernel_rfl), by show ks ++ [e.key] = _; rw [pickKs_yes hw, hks], by
        show Own _ _ _ _ _ _ v' (ks ++ [e.key]).length ((ks ++ [e.key]).flatMap encL)
        rw [List.flatMap_append, List.length_append]
        exact hvo.cut hag (by kernel_rfl) (by kernel_rfl)⟩
    · have hw : wantK tx e.key = false := by
        unfold wantK
        rw [(by assumption : (tx.any fun a => e.key.snd.toList == a.toList) = false), Bool.or_false]
        cases tx with
        | nil => simp at hal; omega
        | cons x xs => rfl
      have hlt := hI.lt
      exact sim_again (dn ++ [e], vo, ks) (by kernel_rfl) (by show l.length - (dn ++ [e]).length < l.length - dn.length; rw [List.length_append, List.length_singleton]; omega) (by kernel_rfl) (by kernel_rfl) (by kernel_rfl) hag.ag (Rel.cast (by assumption) (by kernel_rfl)) (by kernel_rfl) (by kernel_rfl) ⟨hI.le, hM.cut hag (by kernel_rfl) (by kernel_rfl), hI.cut hag (by kernel_rfl) (by kernel_rfl), by show ks = _; rw [pickKs_no hw, hks], hvo.cut hag (by kernel_rfl) (by kernel_rfl)⟩
  · have hpm := hI.perm hM.fine hall
    have hkl := pickKs_len tx dn
    refine sim_run 4 [] (hR200.cast (by kernel_rfl)) (by kernel_rfl) trivial (fun ρ400 w400 hm400 hR400 => ?_)
    have hM := hM.moved (hm400.castL (by kernel_rfl))
    have hI := hI.moved (hm400.castL (by kernel_rfl))
    have hvo := hvo.moved (hm400.castL (by kernel_rfl))
    have hag := hag.moved (hm400.castL (by kernel_rfl))
    refine sim_leave (by kernel_rfl) ?_
    refine sim_run 3 [] (hR400.cast (by kernel_rfl)) (by kernel_rfl) trivial (fun ρ401 w401 hm401 hR401 => ?_)
    have hM := hM.moved (hm401.castL (by kernel_rfl))
    have hI := hI.moved (hm401.castL (by kernel_rfl))
    have hvo := hvo.moved (hm401.castL (by kernel_rfl))
    have hag := hag.moved (hm401.castL (by kernel_rfl))
    
    obtain ⟨Av, cv, hve⟩ : ∃ Av cv, vo = .slice Av ks.length cv := by
      rcases hvo.own.2 with ⟨h1, h2⟩ | ⟨g', cap, cur, h1, _⟩
      · exact ⟨none, 0, by rw [h1, h2]⟩
      · exact ⟨_, cap, h1⟩
    subst hve
    refine sim_call 38 [.v (.slice Av ks.length cv), .v (.func (.func 39) #[] #[])] (by kernel_rfl) ?_
    refine (sortKeys_any w.heap.size ks.length cv Av ks _ hvo.own rfl (by rw [hks]; omega)).mono ?_
    rintro e5 w5 ⟨rfl, ho5, hk5⟩
    have hR5 := (Rel.cast (rs' := [⟨[.v (.map m)], false⟩]) hR401 (by kernel_rfl)).kept hk5 (fun n' r hn' _ hs => by
      obtain ⟨a, rfl, ha⟩ := hs
      have h1 := own_ge (g := a.block) hvo.own rfl
      match n', hn' with
      | 0, _ =>
        rw [hag.at_ 0 (by omega), e102] at ha
        have ha' : a.block = g := ha
        omega) (fun x hx => .inr (by
      obtain ⟨a, rfl, ha⟩ := hx
      have h1 := own_ge (g := a.block) hvo.own rfl
      omega))
    have hv5 : Own ρ401 [⟨[.v (.map m)], false⟩] w5 w.heap.size 24 2 (.slice Av ks.length cv) ks.length ((sortKs ks).flatMap encL) := ⟨ho5, fun g' hg' hw => by
      obtain ⟨n', r, hn', hr, _⟩ := hw
      match n', hn' with
      | 0, hn' => injection hn' with hn'; rw [← hn'] at hr; cases hr⟩
    refine Back.of (.tup []) hR5 rfl ?_
    refine sim_run 6 [] (hR5.cast (by kernel_rfl)) (by kernel_rfl) trivial (fun ρ700 w700 hm700 hR700 => ?_)
    have hag := hag.moved (hm700.castL (by kernel_rfl))
    have hv5 := hv5.moved (hm700.castL (by kernel_rfl))
    refine sim_ret (.v (Value.slice Av ks.length cv)) hR700 (by kernel_rfl) (by kernel_rfl) ?_
    
    rw [show sortKs (pickKs tx l) = sortKs ks from by rw [hks]; exact (sortKs_perm (pickKs_perm hpm)).symm]
    refine ⟨Av, cv, by rw [sortKs_len]; rfl, ?_, ((by assumption : Rel _ _ _ _ _)).toBelow⟩
    rw [sortKs_len]
    exact hv5.own
end Go.Proofs.Ytgbgedaedcofcaa
