/- Plain mathematics of bits: numbers as lists of bits, bytes as lists of bits. No program in sight. -/
namespace Pal

/-- The lowest n bits of x, the lowest first. -/
def bitsOf : Nat → Nat → List Nat
  | _, 0 => []
  | x, n + 1 => x % 2 :: bitsOf (x / 2) n

/-- The number of bits, the lowest first. -/
def numOf : List Nat → Nat
  | [] => 0
  | b :: l => b + 2 * numOf l

def IsBits (l : List Nat) : Prop := ∀ b ∈ l, b < 2
def IsBytes (l : List Nat) : Prop := ∀ b ∈ l, b < 256

theorem IsBits.nil : IsBits [] := fun _ h => by cases h
theorem IsBits.append {a b : List Nat} (ha : IsBits a) (hb : IsBits b) : IsBits (a ++ b) := fun x hx => by
  rcases List.mem_append.1 hx with h | h
  · exact ha x h
  · exact hb x h
theorem IsBits.take {a : List Nat} (ha : IsBits a) (n : Nat) : IsBits (a.take n) := fun x hx => ha x (List.mem_of_mem_take hx)
theorem IsBits.drop {a : List Nat} (ha : IsBits a) (n : Nat) : IsBits (a.drop n) := fun x hx => ha x (List.mem_of_mem_drop hx)
theorem IsBits.reverse {a : List Nat} (ha : IsBits a) : IsBits a.reverse := fun x hx => ha x (List.mem_reverse.1 hx)
theorem IsBits.cons {x : Nat} {a : List Nat} (hx : x < 2) (ha : IsBits a) : IsBits (x :: a) := fun y hy => by
  rcases List.mem_cons.1 hy with rfl | h
  · exact hx
  · exact ha y h

theorem length_bitsOf (x n : Nat) : (bitsOf x n).length = n := by
  induction n generalizing x with
  | zero => rfl
  | succ n ih => simp [bitsOf, ih]

theorem isBits_bitsOf (x n : Nat) : IsBits (bitsOf x n) := by
  induction n generalizing x with
  | zero => exact IsBits.nil
  | succ n ih => exact IsBits.cons (by omega) (ih _)

theorem numOf_bitsOf (x n : Nat) : numOf (bitsOf x n) = x % 2 ^ n := by
  induction n generalizing x with
  | zero => simp [bitsOf, numOf]; omega
  | succ n ih =>
    simp only [bitsOf, numOf, ih]
    rw [Nat.pow_succ, Nat.mul_comm (2 ^ n) 2, Nat.mod_mul]

theorem numOf_bitsOf_lt (x n : Nat) (h : x < 2 ^ n) : numOf (bitsOf x n) = x := by
  rw [numOf_bitsOf, Nat.mod_eq_of_lt h]

theorem numOf_lt {l : List Nat} (h : IsBits l) : numOf l < 2 ^ l.length := by
  induction l with
  | nil => simp [numOf]
  | cons b l ih =>
    have hb : b < 2 := h b (by simp)
    have hl := ih (fun x hx => h x (by simp [hx]))
    simp only [numOf, List.length_cons, Nat.pow_succ]
    omega

theorem bitsOf_numOf {l : List Nat} (h : IsBits l) : bitsOf (numOf l) l.length = l := by
  induction l with
  | nil => rfl
  | cons b l ih =>
    have hb : b < 2 := h b (by simp)
    have hl := ih (fun x hx => h x (by simp [hx]))
    have e1 : (b + 2 * numOf l) % 2 = b := by omega
    have e2 : (b + 2 * numOf l) / 2 = numOf l := by omega
    simp only [numOf, List.length_cons, bitsOf, e1, e2, hl]

theorem numOf_append (a b : List Nat) : numOf (a ++ b) = numOf a + 2 ^ a.length * numOf b := by
  induction a with
  | nil => simp [numOf]
  | cons x a ih =>
    simp only [List.cons_append, numOf, ih, List.length_cons, Nat.pow_succ]
    rw [Nat.mul_add, Nat.mul_comm (2 ^ a.length) 2, Nat.mul_assoc]
    omega

theorem bitsOf_append (x m n : Nat) : bitsOf x (m + n) = bitsOf x m ++ bitsOf (x / 2 ^ m) n := by
  induction m generalizing x with
  | zero => simp [bitsOf]
  | succ m ih =>
    rw [show m + 1 + n = (m + n) + 1 by omega]
    simp only [bitsOf, ih, List.cons_append]
    rw [Nat.div_div_eq_div_mul, show 2 * 2 ^ m = 2 ^ (m + 1) by rw [Nat.pow_succ, Nat.mul_comm]]

theorem bitsOf_mod (x m n : Nat) (h : n ≤ m) : bitsOf (x % 2 ^ m) n = bitsOf x n := by
  induction n generalizing x m with
  | zero => rfl
  | succ n ih =>
    obtain ⟨m, rfl⟩ : ∃ k, m = k + 1 := ⟨m - 1, by omega⟩
    have hp : 0 < 2 ^ m := Nat.two_pow_pos m
    have e1 : x % 2 ^ (m + 1) % 2 = x % 2 := by
      rw [Nat.pow_succ, Nat.mul_comm, Nat.mod_mul_right_mod]
    have e2 : x % 2 ^ (m + 1) / 2 = x / 2 % 2 ^ m := by
      rw [Nat.pow_succ, Nat.mul_comm (2 ^ m) 2, Nat.mod_mul_right_div_self]
    simp only [bitsOf, e1, e2, ih (x / 2) m (by omega)]

theorem bitsOf_add (y z m n : Nat) (h : y < 2 ^ m) : bitsOf (y + 2 ^ m * z) (m + n) = bitsOf y m ++ bitsOf z n := by
  have hp : 0 < 2 ^ m := Nat.two_pow_pos m
  rw [bitsOf_append]
  congr 1
  · rw [← bitsOf_mod (y + 2 ^ m * z) m m (Nat.le_refl _), Nat.add_mul_mod_self_left, Nat.mod_eq_of_lt h]
  · rw [Nat.add_mul_div_left _ _ hp, Nat.div_eq_of_lt h, Nat.zero_add]

theorem take_bitsOf (x m n : Nat) (h : m ≤ n) : (bitsOf x n).take m = bitsOf x m := by
  obtain ⟨k, rfl⟩ := Nat.exists_eq_add_of_le h
  rw [bitsOf_append, List.take_left' (length_bitsOf _ _)]

theorem drop_bitsOf (x m n : Nat) (h : m ≤ n) : (bitsOf x n).drop m = bitsOf (x / 2 ^ m) (n - m) := by
  obtain ⟨k, rfl⟩ := Nat.exists_eq_add_of_le h
  rw [bitsOf_append, List.drop_left' (length_bitsOf _ _), Nat.add_sub_cancel_left]

theorem getElem?_bitsOf (x n i : Nat) : (bitsOf x n)[i]? = if i < n then some (x / 2 ^ i % 2) else none := by
  induction n generalizing x i with
  | zero => simp [bitsOf]
  | succ n ih =>
    cases i with
    | zero => simp [bitsOf]
    | succ i =>
      simp only [bitsOf, List.getElem?_cons_succ, ih]
      rw [Nat.div_div_eq_div_mul, show 2 * 2 ^ i = 2 ^ (i + 1) by rw [Nat.pow_succ, Nat.mul_comm]]
      by_cases hi : i < n <;> simp [hi]

theorem bitsOf_zero (n : Nat) : bitsOf 0 n = List.replicate n 0 := by
  induction n with
  | zero => rfl
  | succ n ih => simp [bitsOf, ih, List.replicate_succ]

theorem numOf_inj {a b : List Nat} (ha : IsBits a) (hb : IsBits b) (hl : a.length = b.length) (h : numOf a = numOf b) : a = b := by
  rw [← bitsOf_numOf ha, ← bitsOf_numOf hb, hl, h]

theorem numOf_take {l : List Nat} (h : IsBits l) (n : Nat) : numOf (l.take n) = numOf l % 2 ^ n := by
  by_cases hn : n ≤ l.length
  · have e := bitsOf_numOf h
    conv => lhs; rw [← e]
    rw [take_bitsOf _ _ _ hn, numOf_bitsOf]
  · rw [List.take_of_length_le (by omega), Nat.mod_eq_of_lt]
    exact Nat.lt_of_lt_of_le (numOf_lt h) (Nat.pow_le_pow_right (by omega) (by omega))

theorem numOf_drop {l : List Nat} (h : IsBits l) (n : Nat) : numOf (l.drop n) = numOf l / 2 ^ n := by
  by_cases hn : n ≤ l.length
  · have e := bitsOf_numOf h
    conv => lhs; rw [← e]
    rw [drop_bitsOf _ _ _ hn, numOf_bitsOf, Nat.mod_eq_of_lt]
    rw [Nat.div_lt_iff_lt_mul (Nat.two_pow_pos n), ← Nat.pow_add, Nat.sub_add_cancel hn]
    exact numOf_lt h
  · rw [List.drop_eq_nil_of_le (by omega), Nat.div_eq_of_lt]
    · rfl
    · exact Nat.lt_of_lt_of_le (numOf_lt h) (Nat.pow_le_pow_right (by omega) (by omega))

/-! ### Bytes -/
def bitsOfBytes (bs : List Nat) : List Nat := bs.flatMap fun b => bitsOf b 8

theorem length_bitsOfBytes (bs : List Nat) : (bitsOfBytes bs).length = 8 * bs.length := by
  induction bs with
  | nil => rfl
  | cons b bs ih =>
    simp only [bitsOfBytes, List.flatMap_cons, List.length_append, length_bitsOf] at *
    simp only [List.length_cons]; omega

theorem isBits_bitsOfBytes (bs : List Nat) : IsBits (bitsOfBytes bs) := fun x hx => by
  obtain ⟨b, _, hb⟩ := List.mem_flatMap.1 hx
  exact isBits_bitsOf b 8 x hb

theorem bitsOfBytes_append (a b : List Nat) : bitsOfBytes (a ++ b) = bitsOfBytes a ++ bitsOfBytes b := by simp [bitsOfBytes]
theorem bitsOfBytes_snoc (a : List Nat) (b : Nat) : bitsOfBytes (a ++ [b]) = bitsOfBytes a ++ bitsOf b 8 := by simp [bitsOfBytes]
theorem bitsOfBytes_cons (b : Nat) (a : List Nat) : bitsOfBytes (b :: a) = bitsOf b 8 ++ bitsOfBytes a := by simp [bitsOfBytes]

/-- The bits in eights, each as a byte; k of them. -/
def packB : Nat → List Nat → List Nat
  | 0, _ => []
  | k + 1, l => numOf (l.take 8) :: packB k (l.drop 8)

def bytesOf (l : List Nat) : List Nat := packB ((l.length + 7) / 8) l

theorem length_packB (k : Nat) (l : List Nat) : (packB k l).length = k := by
  induction k generalizing l with
  | zero => rfl
  | succ k ih => simp [packB, ih]

theorem length_bytesOf (l : List Nat) : (bytesOf l).length = (l.length + 7) / 8 := length_packB _ _

theorem isBytes_packB (k : Nat) (l : List Nat) (h : IsBits l) : IsBytes (packB k l) := by
  induction k generalizing l with
  | zero => intro b hb; cases hb
  | succ k ih =>
    intro b hb
    rcases List.mem_cons.1 hb with rfl | hb
    · have h1 := numOf_lt (h.take 8)
      have h2 : 2 ^ (l.take 8).length ≤ 2 ^ 8 := Nat.pow_le_pow_right (by omega) (by simp; omega)
      omega
    · exact ih _ (h.drop 8) b hb

theorem packB_snoc (k : Nat) (l : List Nat) : packB (k + 1) l = packB k l ++ [numOf ((l.drop (8 * k)).take 8)] := by
  induction k generalizing l with
  | zero => simp [packB]
  | succ k ih =>
    rw [packB, ih]
    simp only [packB, List.cons_append, List.drop_drop]
    rw [show 8 * (k + 1) = 8 + 8 * k by omega]

theorem packB_bitsOfBytes (bs : List Nat) (h : IsBytes bs) (r : List Nat) : packB bs.length (bitsOfBytes bs ++ r) = bs := by
  induction bs with
  | nil => rfl
  | cons b bs ih =>
    have hb : b < 2 ^ 8 := h b (by simp)
    rw [bitsOfBytes_cons, List.append_assoc, List.length_cons, packB, List.take_left' (length_bitsOf _ _), List.drop_left' (length_bitsOf _ _), numOf_bitsOf_lt _ _ hb, ih (fun x hx => h x (by simp [hx]))]

theorem packB_add (j k : Nat) (l : List Nat) : packB (j + k) l = packB j l ++ packB k (l.drop (8 * j)) := by
  induction j generalizing l with
  | zero => simp [packB]
  | succ j ih =>
    rw [show j + 1 + k = (j + k) + 1 by omega, packB, ih]
    simp only [packB, List.cons_append, List.drop_drop]
    rw [show 8 * (j + 1) = 8 + 8 * j by omega]

theorem bytesOf_bitsOfBytes (bs : List Nat) (h : IsBytes bs) : bytesOf (bitsOfBytes bs) = bs := by
  have := packB_bitsOfBytes bs h []
  rw [List.append_nil] at this
  rw [bytesOf, length_bitsOfBytes, show (8 * bs.length + 7) / 8 = bs.length by omega, this]

theorem bytesOf_mixed (bs : List Nat) (h : IsBytes bs) (word n : Nat) (hn : n < 8) (hw : word < 2 ^ n) :
    bytesOf (bitsOfBytes bs ++ bitsOf word n) = if n = 0 then bs else bs ++ [word] := by
  unfold bytesOf
  rw [List.length_append, length_bitsOfBytes, length_bitsOf]
  split
  · subst n
    rw [show (8 * bs.length + 0 + 7) / 8 = bs.length by omega, packB_bitsOfBytes bs h]
  · rw [show (8 * bs.length + n + 7) / 8 = bs.length + 1 by omega, packB_snoc, packB_bitsOfBytes bs h]
    rw [List.drop_left' (length_bitsOfBytes bs), List.take_of_length_le (by rw [length_bitsOf]; omega), numOf_bitsOf_lt _ _ hw]

/-- Noughts up to where a byte begins. -/
def padded (l : List Nat) : List Nat := l ++ List.replicate ((8 - l.length % 8) % 8) 0

theorem padded_mixed (bs : List Nat) (h : IsBytes bs) (word n : Nat) (hn : n < 8) (hw : word < 2 ^ n) :
    padded (bitsOfBytes bs ++ bitsOf word n) = bitsOfBytes (bytesOf (bitsOfBytes bs ++ bitsOf word n)) := by
  rw [bytesOf_mixed bs h word n hn hw]
  unfold padded
  rw [List.length_append, length_bitsOfBytes, length_bitsOf, show (8 * bs.length + n) % 8 = n by omega]
  split
  · subst n; simp [bitsOf]
  · rw [bitsOfBytes_snoc, List.append_assoc, ← bitsOf_zero, show (8 - n) % 8 = 8 - n by omega]
    have := bitsOf_add word 0 n (8 - n) hw
    rw [Nat.mul_zero, Nat.add_zero, show n + (8 - n) = 8 by omega] at this
    rw [this]

/-- A list of bits is its bytes' bits, and what is left. -/
theorem bits_split (l : List Nat) (h : IsBits l) :
    ∃ bs word n, IsBytes bs ∧ n < 8 ∧ word < 2 ^ n ∧ l = bitsOfBytes bs ++ bitsOf word n := by
  refine ⟨packB (l.length / 8) l, numOf (l.drop (8 * (l.length / 8))), l.length % 8, isBytes_packB _ _ h, by omega, ?_, ?_⟩
  · have := numOf_lt (h.drop (8 * (l.length / 8)))
    rw [List.length_drop] at this
    rw [show l.length - 8 * (l.length / 8) = l.length % 8 by omega] at this
    exact this
  · have e := bitsOf_numOf (h.drop (8 * (l.length / 8)))
    rw [List.length_drop, show l.length - 8 * (l.length / 8) = l.length % 8 by omega] at e
    rw [e]
    have key : ∀ k, 8 * k ≤ l.length → bitsOfBytes (packB k l) = l.take (8 * k) := by
      intro k
      induction k with
      | zero => intro _; simp [packB, bitsOfBytes]
      | succ k ih =>
        intro hk
        rw [packB_snoc, bitsOfBytes_snoc, ih (by omega)]
        have e2 := bitsOf_numOf ((h.drop (8 * k)).take 8)
        rw [List.length_take, List.length_drop, Nat.min_eq_left (by omega)] at e2
        rw [e2, show 8 * (k + 1) = 8 * k + 8 by omega, List.take_add]
    rw [key _ (by omega), List.take_append_drop]

theorem padded_bytes (l : List Nat) (h : IsBits l) : padded l = bitsOfBytes (bytesOf l) := by
  obtain ⟨bs, word, n, h1, h2, h3, rfl⟩ := bits_split l h
  exact padded_mixed bs h1 word n h2 h3

theorem isBytes_bytesOf (l : List Nat) (h : IsBits l) : IsBytes (bytesOf l) := isBytes_packB _ _ h

theorem bitsOfBytes_inj {a b : List Nat} (ha : IsBytes a) (hb : IsBytes b) (h : bitsOfBytes a = bitsOfBytes b) : a = b := by
  rw [← bytesOf_bitsOfBytes a ha, ← bytesOf_bitsOfBytes b hb, h]

/-- What a Writer that stands where a byte begins holds. -/
theorem of_padded {bs : List Nat} {word n : Nat} {l : List Nat} (hbs : IsBytes bs) (hn : n < 8) (hl : IsBits l) (h : padded l = bitsOfBytes bs ++ bitsOf word n) : n = 0 ∧ bs = bytesOf l := by
  rw [padded_bytes l hl] at h
  have hlen := congrArg List.length h
  rw [List.length_append, length_bitsOfBytes, length_bitsOfBytes, length_bitsOf] at hlen
  obtain rfl : n = 0 := by omega
  refine ⟨rfl, ?_⟩
  rw [bitsOf, List.append_nil] at h
  exact (bitsOfBytes_inj (isBytes_bytesOf l hl) hbs h).symm

theorem drop_bitsOfBytes (bs : List Nat) (k : Nat) : (bitsOfBytes bs).drop (8 * k) = bitsOfBytes (bs.drop k) := by
  induction k generalizing bs with
  | zero => simp
  | succ k ih =>
    cases bs with
    | nil => simp [bitsOfBytes]
    | cons b bs =>
      rw [bitsOfBytes_cons, show 8 * (k + 1) = 8 + 8 * k by omega, ← List.drop_drop, List.drop_left' (length_bitsOf _ _), ih, List.drop_succ_cons]

theorem take_bitsOfBytes (bs : List Nat) (k : Nat) : (bitsOfBytes bs).take (8 * k) = bitsOfBytes (bs.take k) := by
  induction k generalizing bs with
  | zero => simp [bitsOfBytes]
  | succ k ih =>
    cases bs with
    | nil => simp [bitsOfBytes]
    | cons b bs =>
      rw [bitsOfBytes_cons, List.take_succ_cons, bitsOfBytes_cons, ← ih, show 8 * (k + 1) = (bitsOf b 8).length + 8 * k by rw [length_bitsOf]; omega, List.take_length_add_append]

/-- The eight bytes from the byte on in which the bit lies are enough. -/
theorem peek_bits (bs : List Nat) (at_ n : Nat) (hn : n ≤ 57) :
    numOf (((bitsOfBytes bs).drop at_).take n) = numOf (bitsOfBytes ((bs.drop (at_ / 8)).take 8)) / 2 ^ (at_ % 8) % 2 ^ n := by
  have hib := isBits_bitsOfBytes ((bs.drop (at_ / 8)).take 8)
  rw [← numOf_drop hib, ← numOf_take (hib.drop _)]
  congr 1
  have e : at_ = 8 * (at_ / 8) + at_ % 8 := by omega
  rw [show (bitsOfBytes bs).drop at_ = ((bitsOfBytes bs).drop (8 * (at_ / 8))).drop (at_ % 8) by rw [List.drop_drop, ← e]]
  rw [drop_bitsOfBytes, ← take_bitsOfBytes, List.drop_take, List.take_take, show min n (8 * 8 - at_ % 8) = n by omega]

/-- One byte more. -/
theorem numOf_bytes_snoc (bs : List Nat) (b : Nat) (h : b < 256) : numOf (bitsOfBytes (bs ++ [b])) = numOf (bitsOfBytes bs) + 2 ^ (8 * bs.length) * b := by
  rw [bitsOfBytes_snoc, numOf_append, length_bitsOfBytes, numOf_bitsOf_lt b 8 h]

theorem numOf_bytes_lt (bs : List Nat) (k : Nat) (h : bs.length ≤ k) : numOf (bitsOfBytes bs) < 2 ^ (8 * k) := by
  refine Nat.lt_of_lt_of_le (numOf_lt (isBits_bitsOfBytes bs)) (Nat.pow_le_pow_right (by omega) ?_)
  rw [length_bitsOfBytes]; omega

/-! ### The other order -/
def clip64 (n : Int) : Nat := (max 0 (min n 64)).toNat
def turned (x : Nat) (n : Nat) : Nat := numOf (bitsOf x n).reverse

theorem turned_lt (x n : Nat) : turned x n < 2 ^ n := by
  have := numOf_lt (isBits_bitsOf x n).reverse
  simpa [turned, length_bitsOf] using this

theorem bitsOf_turned (x n : Nat) : bitsOf (turned x n) n = (bitsOf x n).reverse := by
  have := bitsOf_numOf (isBits_bitsOf x n).reverse
  simpa [turned, length_bitsOf] using this

theorem turned_turned (x n : Nat) : turned (turned x n) n = x % 2 ^ n := by
  rw [turned, bitsOf_turned, List.reverse_reverse, numOf_bitsOf]

theorem turned_mod (x n : Nat) : turned (x % 2 ^ n) n = turned x n := by
  rw [turned, bitsOf_mod _ _ _ (Nat.le_refl _), turned]

/-- All 64 turned, and shifted down. -/
theorem turned_shift (x n : Nat) (h : n ≤ 64) : turned x 64 / 2 ^ (64 - n) = turned x n := by
  unfold turned
  rw [← numOf_drop (isBits_bitsOf x 64).reverse, List.drop_reverse, length_bitsOf, show 64 - (64 - n) = n by omega, take_bitsOf _ _ _ h]

theorem testBit_numOf {l : List Nat} (h : IsBits l) (i : Nat) : (numOf l).testBit i = (l[i]? == some 1) := by
  induction l generalizing i with
  | nil => simp [numOf]
  | cons b l ih =>
    have hb : b < 2 := h b (by simp)
    have hl : IsBits l := fun x hx => h x (by simp [hx])
    cases i with
    | zero =>
      simp only [numOf, Nat.testBit_zero, List.getElem?_cons_zero]
      have : (b + 2 * numOf l) % 2 = b := by omega
      rw [this]
      rcases (by omega : b = 0 ∨ b = 1) with rfl | rfl <;> simp
    | succ i =>
      simp only [numOf, Nat.testBit_succ, List.getElem?_cons_succ]
      rw [show (b + 2 * numOf l) / 2 = numOf l by omega, ih hl]

theorem testBit_turned64 (x i : Nat) : (turned x 64).testBit i = (decide (i < 64) && x.testBit (63 - i)) := by
  rw [turned, testBit_numOf (isBits_bitsOf x 64).reverse]
  by_cases hi : i < 64
  · rw [List.getElem?_reverse (by rw [length_bitsOf]; exact hi), length_bitsOf, getElem?_bitsOf]
    rw [if_pos (by omega), show 64 - 1 - i = 63 - i by omega]
    rw [Nat.testBit_eq_decide_div_mod_eq]
    simp [hi]
    rfl
  · rw [List.getElem?_eq_none (by simp [length_bitsOf]; omega)]
    simp [hi]

end Pal
