/-
  Numbers in digits of 2^30, the lowest first: plain.
-/
namespace Go.Proofs.Ytkokgdebahgbdaa
namespace Bg
abbrev B : Nat := 1073741824
def val : List Nat → Nat
  | [] => 0
  | d :: r => d + 1073741824 * val r
def Dig (l : List Nat) : Prop := ∀ d ∈ l, d < 1073741824
theorem Dig.at_ {l : List Nat} (h : Dig l) (k : Nat) : l.getD k 0 < 1073741824 := by
  rw [List.getD_eq_getElem?_getD]
  rcases Nat.lt_or_ge k l.length with hk | hk
  · rw [List.getElem?_eq_getElem hk]; exact h _ (List.getElem_mem _)
  · rw [List.getElem?_eq_none hk]; decide
theorem Dig.set {l : List Nat} (h : Dig l) (j x : Nat) (hx : x < 1073741824) : Dig (l.set j x) := by
  intro d hd
  rcases List.mem_or_eq_of_mem_set hd with h1 | h1
  · exact h d h1
  · omega
theorem val_append (l m : List Nat) : val (l ++ m) = val l + 1073741824 ^ l.length * val m := by
  induction l with
  | nil => simp [val]
  | cons d r ih =>
    simp only [List.cons_append, val, ih, List.length_cons, Nat.pow_succ]
    rw [Nat.mul_add, Nat.add_assoc, Nat.mul_comm (1073741824 ^ r.length) 1073741824, Nat.mul_assoc]
theorem val_lt {l : List Nat} (h : Dig l) : val l < 1073741824 ^ l.length := by
  induction l with
  | nil => simp [val]
  | cons d r ih =>
    have h1 := h d (by simp)
    have h2 := ih (fun x hx => h x (by simp [hx]))
    simp only [val, List.length_cons, Nat.pow_succ]
    omega
theorem val_set {l : List Nat} {j : Nat} (x : Nat) (hj : j < l.length) : val (l.set j x) + l.getD j 0 * 1073741824 ^ j = val l + x * 1073741824 ^ j := by
  induction l generalizing j with
  | nil => simp at hj
  | cons d r ih =>
    cases j with
    | zero => simp [val]; omega
    | succ j =>
      have := ih (j := j) (by simpa using hj)
      simp only [List.set_cons_succ, val, List.getD_cons_succ, Nat.pow_succ]
      generalize val (r.set j x) = a at *
      generalize val r = b at *
      generalize r.getD j 0 = c at *
      generalize (1073741824 : Nat) ^ j = p at *
      have e1 : c * (p * 1073741824) = 1073741824 * (c * p) := by rw [← Nat.mul_assoc]; exact Nat.mul_comm _ _
      have e2 : x * (p * 1073741824) = 1073741824 * (x * p) := by rw [← Nat.mul_assoc]; exact Nat.mul_comm _ _
      omega
theorem take_next {l : List Nat} {k : Nat} (hk : k < l.length) : l.take (k + 1) = l.take k ++ [l.getD k 0] := by
  rw [List.take_succ_eq_append_getElem hk, List.getD_eq_getElem?_getD, List.getElem?_eq_getElem hk]; rfl
theorem val_take {l : List Nat} {k : Nat} (hk : k < l.length) : val (l.take (k + 1)) = val (l.take k) + l.getD k 0 * 1073741824 ^ k := by
  rw [take_next hk, val_append, List.length_take, Nat.min_eq_left (by omega)]
  simp [val, Nat.mul_comm]
theorem val_split (l : List Nat) (k : Nat) (hk : k ≤ l.length) : val l = val (l.take k) + 1073741824 ^ k * val (l.drop k) := by
  have := val_append (l.take k) (l.drop k)
  rw [List.take_append_drop, List.length_take, Nat.min_eq_left hk] at this
  exact this
theorem Dig.take {l : List Nat} (h : Dig l) (k : Nat) : Dig (l.take k) := fun d hd => h d (List.mem_of_mem_take hd)
theorem Dig.drop {l : List Nat} (h : Dig l) (k : Nat) : Dig (l.drop k) := fun d hd => h d (List.mem_of_mem_drop hd)

/-- digits of a number -/
def ofD : Nat → Nat → List Nat
  | 0, _ => []
  | k + 1, v => v % 1073741824 :: ofD k (v / 1073741824)
theorem ofD_length (k v : Nat) : (ofD k v).length = k := by induction k generalizing v with | zero => rfl | succ k ih => simp [ofD, ih]
theorem ofD_dig (k v : Nat) : Dig (ofD k v) := by
  induction k generalizing v with
  | zero => intro d hd; cases hd
  | succ k ih =>
    intro d hd
    rcases List.mem_cons.1 hd with h | h
    · omega
    · exact ih _ d h
theorem ofD_val (k v : Nat) (h : v < 1073741824 ^ k) : val (ofD k v) = v := by
  induction k generalizing v with
  | zero => simp at h; simp [ofD, val, h]
  | succ k ih =>
    simp only [ofD, val]
    rw [ih (v / 1073741824) (by rw [Nat.pow_succ] at h; omega)]
    omega
theorem ofD_snoc (k v : Nat) : ofD (k + 1) v = ofD k v ++ [v / 1073741824 ^ k % 1073741824] := by
  induction k generalizing v with
  | zero => simp [ofD]
  | succ k ih =>
    have e : ofD (k + 1 + 1) v = v % 1073741824 :: ofD (k + 1) (v / 1073741824) := rfl
    rw [e, ih]
    simp only [ofD, List.cons_append, Nat.div_div_eq_div_mul]
    rw [Nat.pow_succ, Nat.mul_comm 1073741824]
theorem ofD_put (k v : Nat) (h : k < 6) : (ofD k v ++ List.replicate (6 - k) 0).set k (v / 1073741824 ^ k % 1073741824) = ofD (k + 1) v ++ List.replicate (6 - (k + 1)) 0 := by
  obtain ⟨m, hm⟩ : ∃ m, 6 - k = m + 1 := ⟨5 - k, by omega⟩
  have : 6 - (k + 1) = m := by omega
  rw [hm, this, ofD_snoc]
  generalize v / 1073741824 ^ k % 1073741824 = y
  have hl := ofD_length k v
  generalize ofD k v = l at *
  subst hl
  clear h hm this
  induction l with
  | nil => simp [List.replicate_succ]
  | cons d r ih => simpa using ih
theorem div_next (k v : Nat) : v / 1073741824 ^ k / 1073741824 = v / 1073741824 ^ (k + 1) := by rw [Nat.div_div_eq_div_mul, Nat.pow_succ]

theorem ofD_of {l : List Nat} (h : Dig l) : ofD l.length (val l) = l := by
  induction l with
  | nil => rfl
  | cons d r ih =>
    have h1 := h d (by simp)
    have h2 := ih (fun x hx => h x (by simp [hx]))
    simp only [List.length_cons, ofD, val]
    have e1 : (d + 1073741824 * val r) % 1073741824 = d := by omega
    have e2 : (d + 1073741824 * val r) / 1073741824 = val r := by omega
    rw [e1, e2, h2]

/-- the state of an addition: the first k digits are done, the rest is as it was -/
structure Adds (a b l : List Nat) (k c : Nat) : Prop where
  len : l.length = 6
  dig : Dig l
  rest : ∀ j, k ≤ j → l.getD j 0 = a.getD j 0
  car : c ≤ 1
  sum : val l + c * 1073741824 ^ k = val a + val (b.take k)
theorem Adds.start {a b : List Nat} (ha : a.length = 6) (hd : Dig a) : Adds a b a 0 0 := ⟨ha, hd, fun _ _ => rfl, by omega, by simp [val]⟩
theorem Adds.next {a b l : List Nat} {k c : Nat} (h : Adds a b l k c) (hb : b.length = 6) (hdb : Dig b) (hk : k < 6) :
    Adds a b (l.set k ((c + l.getD k 0 + b.getD k 0) % 1073741824)) (k + 1) ((c + l.getD k 0 + b.getD k 0) / 1073741824) := by
  have hx := h.dig.at_ k
  have hy := hdb.at_ k
  have hc := h.car
  refine ⟨by rw [List.length_set]; exact h.len, h.dig.set _ _ (by omega), fun j hj => ?_, by omega, ?_⟩
  · rw [← h.rest j (by omega), List.getD_eq_getElem?_getD, List.getElem?_set_ne (by omega), ← List.getD_eq_getElem?_getD]
  · have h1 := val_set ((c + l.getD k 0 + b.getD k 0) % 1073741824) (show k < l.length by rw [h.len]; exact hk)
    have h2 := h.sum
    rw [val_take (by omega)]
    generalize val (l.set k ((c + l.getD k 0 + b.getD k 0) % 1073741824)) = v at *
    generalize l.getD k 0 = x at *
    generalize b.getD k 0 = y at *
    have e : c + x + y = (c + x + y) % 1073741824 + 1073741824 * ((c + x + y) / 1073741824) := by omega
    rw [Nat.pow_succ]
    generalize (c + x + y) % 1073741824 = r at *
    generalize (c + x + y) / 1073741824 = q at *
    generalize (1073741824 : Nat) ^ k = p at *
    have e2 : (c + x + y) * p = r * p + 1073741824 * q * p := by rw [e, Nat.add_mul]
    have e3 : q * (p * 1073741824) = 1073741824 * q * p := by rw [Nat.mul_comm p, ← Nat.mul_assoc, Nat.mul_comm q]
    rw [Nat.add_mul, Nat.add_mul] at e2
    omega
theorem Adds.done {a b l : List Nat} {c : Nat} (h : Adds a b l 6 c) (hb : b.length = 6) (hs : val a + val b < 1073741824 ^ 6) : l = ofD 6 (val a + val b) := by
  have h1 := h.sum
  rw [List.take_of_length_le (by omega)] at h1
  have hc : c = 0 := by
    rcases Nat.eq_zero_or_pos c with h0 | h0
    · exact h0
    · have : 1 * 1073741824 ^ 6 ≤ c * 1073741824 ^ 6 := Nat.mul_le_mul_right _ h0
      omega
  subst hc
  have : val l = val a + val b := by omega
  rw [← this, ← h.len, ofD_of h.dig]

/-- the state of a product: behind k steps of row i -/
structure Muls (l0 : List Nat) (x : Nat) (b l : List Nat) (i k c : Nat) : Prop where
  len : l.length = 6
  dig : Dig l
  car : c < 1073741824
  sum : val l + c * 1073741824 ^ (i + k) = val l0 + x * 1073741824 ^ i * val (b.take k)
theorem Muls.start {l0 b : List Nat} {x i : Nat} (h : l0.length = 6) (hd : Dig l0) : Muls l0 x b l0 i 0 0 := ⟨h, hd, by omega, by simp [val]⟩
theorem mul_bound {c o x y : Nat} (hc : c < 1073741824) (ho : o < 1073741824) (hx : x < 1073741824) (hy : y < 1073741824) : c + o + x * y < 1073741824 * 1073741824 := by
  have : x * y ≤ 1073741823 * 1073741823 := Nat.mul_le_mul (by omega) (by omega)
  omega
theorem Muls.next {l0 b l : List Nat} {x i k c : Nat} (h : Muls l0 x b l i k c) (hb : b.length = 6) (hdb : Dig b) (hx : x < 1073741824) (hk : i + k < 6) :
    Muls l0 x b (l.set (i + k) ((c + l.getD (i + k) 0 + x * b.getD k 0) % 1073741824)) i (k + 1) ((c + l.getD (i + k) 0 + x * b.getD k 0) / 1073741824) := by
  have ho := h.dig.at_ (i + k)
  have hy := hdb.at_ k
  have hc := h.car
  have hbd := mul_bound hc ho hx hy
  refine ⟨by rw [List.length_set]; exact h.len, h.dig.set _ _ (by omega), by omega, ?_⟩
  have h1 := val_set ((c + l.getD (i + k) 0 + x * b.getD k 0) % 1073741824) (show i + k < l.length by rw [h.len]; exact hk)
  have h2 := h.sum
  rw [val_take (by omega)]
  generalize val (l.set (i + k) ((c + l.getD (i + k) 0 + x * b.getD k 0) % 1073741824)) = v at *
  generalize l.getD (i + k) 0 = o at *
  generalize b.getD k 0 = y at *
  have ep : x * 1073741824 ^ i * (val (b.take k) + y * 1073741824 ^ k) = x * 1073741824 ^ i * val (b.take k) + x * y * 1073741824 ^ (i + k) := by
    rw [Nat.mul_add, Nat.pow_add]
    congr 1
    simp only [Nat.mul_assoc, Nat.mul_left_comm, Nat.mul_comm]
  rw [ep]
  generalize x * 1073741824 ^ i * val (b.take k) = S at *
  clear ep
  generalize x * y = z at *
  have e : c + o + z = (c + o + z) % 1073741824 + 1073741824 * ((c + o + z) / 1073741824) := by omega
  rw [show i + (k + 1) = i + k + 1 by omega, Nat.pow_succ]
  generalize (c + o + z) % 1073741824 = r at *
  generalize (c + o + z) / 1073741824 = q at *
  generalize (1073741824 : Nat) ^ (i + k) = p at *
  have e2 : (c + o + z) * p = r * p + 1073741824 * q * p := by rw [e, Nat.add_mul]
  have e3 : q * (p * 1073741824) = 1073741824 * q * p := by rw [Nat.mul_comm p, ← Nat.mul_assoc, Nat.mul_comm q]
  rw [Nat.add_mul, Nat.add_mul] at e2
  omega
/-- behind i rows -/
structure Rows6 (a b l : List Nat) (i : Nat) : Prop where
  len : l.length = 6
  dig : Dig l
  sum : ∃ z, val l + z * 1073741824 ^ 6 = val (a.take i) * val b
theorem Rows6.start {a b : List Nat} : Rows6 a b [0, 0, 0, 0, 0, 0] 0 := ⟨rfl, by intro d hd; simp at hd; omega, 0, by simp [val]⟩
theorem Rows6.next {a b l0 l : List Nat} {i c : Nat} (h : Rows6 a b l0 i) (ha : a.length = 6) (hb : b.length = 6) (hi : i < 6) (hm : Muls l0 (a.getD i 0) b l i (6 - i) c) : Rows6 a b l (i + 1) := by
  obtain ⟨z, hz⟩ := h.sum
  have h1 := hm.sum
  refine ⟨hm.len, hm.dig, z + c + a.getD i 0 * val (b.drop (6 - i)), ?_⟩
  rw [val_take (by omega)]
  have h2 := val_split b (6 - i) (by omega)
  rw [show i + (6 - i) = 6 by omega] at h1
  have hp : (1073741824 : Nat) ^ 6 = 1073741824 ^ i * 1073741824 ^ (6 - i) := by rw [← Nat.pow_add]; congr 1; omega
  have e1 : a.getD i 0 * 1073741824 ^ i * val b = a.getD i 0 * 1073741824 ^ i * val (b.take (6 - i)) + a.getD i 0 * val (b.drop (6 - i)) * 1073741824 ^ 6 := by
    rw [h2, hp, Nat.mul_add]
    congr 1
    simp only [Nat.mul_assoc, Nat.mul_left_comm, Nat.mul_comm]
  rw [Nat.add_mul, Nat.add_mul, Nat.add_mul, e1]
  clear hp e1 h2
  generalize (1073741824 : Nat) ^ 6 = P at *
  generalize a.getD i 0 * val (b.drop (6 - i)) * P = t1 at *
  generalize a.getD i 0 * 1073741824 ^ i * val (b.take (6 - i)) = t2 at *
  omega
theorem Rows6.done {a b l : List Nat} (h : Rows6 a b l 6) (ha : a.length = 6) (hs : val a * val b < 1073741824 ^ 6) : l = ofD 6 (val a * val b) := by
  obtain ⟨z, hz⟩ := h.sum
  rw [List.take_of_length_le (by omega)] at hz
  have hc : z = 0 := by
    rcases Nat.eq_zero_or_pos z with h0 | h0
    · exact h0
    · have : 1 * 1073741824 ^ 6 ≤ z * 1073741824 ^ 6 := Nat.mul_le_mul_right _ h0
      omega
  subst hc
  have : val l = val a * val b := by omega
  rw [← this, ← h.len, ofD_of h.dig]

/-- compared from the top -/
theorem cmp_at {a b : List Nat} (ha : Dig a) (hab : a.length = b.length) {i : Nat} (hi : i < a.length) (htop : a.drop (i + 1) = b.drop (i + 1)) (hlt : a.getD i 0 < b.getD i 0) : val a < val b := by
  rw [val_split a (i + 1) (by omega), val_split b (i + 1) (by omega), htop, val_take hi, val_take (by omega)]
  have h1 := val_lt (ha.take i)
  rw [List.length_take, Nat.min_eq_left (by omega)] at h1
  have h2 : (a.getD i 0 + 1) * 1073741824 ^ i ≤ b.getD i 0 * 1073741824 ^ i := Nat.mul_le_mul_right _ hlt
  rw [Nat.add_mul] at h2
  omega
theorem drop_next {l : List Nat} {i : Nat} (hi : i < l.length) : l.drop i = l.getD i 0 :: l.drop (i + 1) := by
  rw [List.drop_eq_getElem_cons hi, List.getD_eq_getElem?_getD, List.getElem?_eq_getElem hi]; rfl

/-- one step of an addition -/
theorem add_step {T x y V c j : Nat} (hT : T = V + c * 1073741824 ^ j) : T + (x + y) * 1073741824 ^ j = V + (c + x + y) % 1073741824 * 1073741824 ^ j + (c + x + y) / 1073741824 * 1073741824 ^ (j + 1) := by
  have e : c + x + y = (c + x + y) % 1073741824 + 1073741824 * ((c + x + y) / 1073741824) := by omega
  rw [Nat.pow_succ]
  generalize (c + x + y) % 1073741824 = r at *
  generalize (c + x + y) / 1073741824 = q at *
  generalize (1073741824 : Nat) ^ j = p at *
  have e2 : c * p + (x + y) * p = (r + 1073741824 * q) * p := by rw [← Nat.add_mul, ← Nat.add_assoc, e]
  have e3 : q * (p * 1073741824) = 1073741824 * q * p := by rw [Nat.mul_comm p, ← Nat.mul_assoc, Nat.mul_comm q]
  have e4 : (r + 1073741824 * q) * p = r * p + 1073741824 * q * p := Nat.add_mul _ _ _
  omega
end Bg
end Go.Proofs.Ytkokgdebahgbdaa
