/- CRC-32C on bit vectors: the step by a bit is linear and has an inverse; a byte's way into the register and out of it. -/
set_option linter.unusedSimpArgs false
namespace Go.Proofs.Ytcdlpbccampfdaa.M

def poly : BitVec 32 := 0x82f63b78#32
theorem poly_toNat : poly.toNat = 2197175160 := rfl

/-- A register behind a bit 0. -/
def step (r : BitVec 32) : BitVec 32 := (r >>> 1) ^^^ (if r.getLsbD 0 then poly else 0#32)
/-- A register ahead of a bit 0. -/
def back (r : BitVec 32) : BitVec 32 := if r.getLsbD 31 then ((r ^^^ poly) <<< 1) ||| 1#32 else r <<< 1

def stepN : Nat → BitVec 32 → BitVec 32
  | 0, r => r
  | n + 1, r => step (stepN n r)
def backN : Nat → BitVec 32 → BitVec 32
  | 0, r => r
  | n + 1, r => back (backN n r)

theorem step_xor (a b : BitVec 32) : step (a ^^^ b) = step a ^^^ step b := by
  unfold step
  rw [BitVec.ushiftRight_xor_distrib]
  rw [BitVec.getLsbD_xor]
  cases a.getLsbD 0 <;> cases b.getLsbD 0 <;> simp
  · ac_rfl
  · ac_rfl
  · rw [show a >>> 1 ^^^ poly ^^^ (b >>> 1 ^^^ poly) = a >>> 1 ^^^ b >>> 1 ^^^ (poly ^^^ poly) by ac_rfl, BitVec.xor_self, BitVec.xor_zero]

theorem stepN_xor (n : Nat) (a b : BitVec 32) : stepN n (a ^^^ b) = stepN n a ^^^ stepN n b := by
  induction n with
  | zero => rfl
  | succ n ih => simp only [stepN, ih, step_xor]

theorem stepN_succ' (n : Nat) (r : BitVec 32) : stepN (n + 1) r = stepN n (step r) := by
  induction n with
  | zero => rfl
  | succ n ih => rw [stepN, ih, stepN]

theorem step_zero : step 0#32 = 0#32 := by decide
theorem stepN_zero (n : Nat) : stepN n 0#32 = 0#32 := by
  induction n with
  | zero => rfl
  | succ n ih => rw [stepN, ih, step_zero]

theorem back_step (r : BitVec 32) : back (step r) = r := by
  unfold back step
  cases h : r.getLsbD 0
  · have e : ((r >>> 1) ^^^ (if false = true then poly else 0#32)) = r >>> 1 := by simp
    rw [e]
    have e2 : (r >>> 1).getLsbD 31 = false := by simp
    rw [e2]
    ext i hi
    simp [BitVec.getElem_shiftLeft]
    by_cases h0 : i = 0
    · subst h0; simpa [BitVec.getLsbD_eq_getElem] using h
    · simp [h0, show 1 + (i - 1) = i by omega, BitVec.getLsbD_eq_getElem hi]
  · have e : ((r >>> 1) ^^^ (if true = true then poly else 0#32)) = r >>> 1 ^^^ poly := by simp
    rw [e]
    have e2 : (r >>> 1 ^^^ poly).getLsbD 31 = true := by
      rw [BitVec.getLsbD_xor, BitVec.getLsbD_ushiftRight]
      rw [show poly.getLsbD 31 = true by decide]
      simp
    rw [e2]
    rw [show r >>> 1 ^^^ poly ^^^ poly = r >>> 1 by rw [BitVec.xor_assoc, BitVec.xor_self, BitVec.xor_zero]]
    ext i hi
    simp [BitVec.getElem_shiftLeft]
    by_cases h0 : i = 0
    · subst h0; simpa [BitVec.getLsbD_eq_getElem] using h
    · simp [h0, show 1 + (i - 1) = i by omega, BitVec.getLsbD_eq_getElem hi]

theorem back_eq (r : BitVec 32) : back r = (r <<< 1) ^^^ (if r.getLsbD 31 then (poly <<< 1) ^^^ 1#32 else 0#32) := by
  unfold back
  cases h : r.getLsbD 31
  · simp
  · simp only [if_true]
    rw [← BitVec.xor_assoc, ← BitVec.shiftLeft_xor_distrib]
    ext i hi
    simp only [BitVec.getElem_or, BitVec.getElem_xor, BitVec.getElem_shiftLeft, BitVec.getElem_one]
    by_cases h0 : i = 0
    · simp [h0]
    · simp [h0]

theorem back_xor (a b : BitVec 32) : back (a ^^^ b) = back a ^^^ back b := by
  simp only [back_eq, BitVec.shiftLeft_xor_distrib, BitVec.getLsbD_xor]
  generalize poly <<< 1 ^^^ 1#32 = q
  cases a.getLsbD 31 <;> cases b.getLsbD 31 <;> simp
  · ac_rfl
  · ac_rfl
  · rw [show a <<< 1 ^^^ q ^^^ (b <<< 1 ^^^ q) = a <<< 1 ^^^ b <<< 1 ^^^ (q ^^^ q) by ac_rfl, BitVec.xor_self, BitVec.xor_zero]

theorem step_inj {a b : BitVec 32} (h : step a = step b) : a = b := by rw [← back_step a, h, back_step]
theorem step_surj (r : BitVec 32) : step (back r) = r := by
  -- a map of a finite set that is one to one is onto: here by hand
  unfold step
  rw [back_eq]
  cases h : r.getLsbD 31
  · have e : (r <<< 1 ^^^ (if false = true then poly <<< 1 ^^^ 1#32 else 0#32)) = r <<< 1 := by simp
    rw [e]
    have e2 : (r <<< 1).getLsbD 0 = false := by simp
    rw [e2]
    ext i hi
    simp only [Bool.false_eq_true, if_false, BitVec.xor_zero, BitVec.getElem_ushiftRight, BitVec.getLsbD_shiftLeft]
    by_cases h31 : i = 31
    · subst h31; simp; rw [← BitVec.getLsbD_eq_getElem]; exact h
    · simp [show 1 + i < 32 by omega, show 1 + i - 1 = i by omega, BitVec.getLsbD_eq_getElem hi]
  · have e : (r <<< 1 ^^^ (if true = true then poly <<< 1 ^^^ 1#32 else 0#32)) = r <<< 1 ^^^ (poly <<< 1 ^^^ 1#32) := by simp
    rw [e]
    have e2 : (r <<< 1 ^^^ (poly <<< 1 ^^^ 1#32)).getLsbD 0 = true := by
      rw [BitVec.getLsbD_xor, show (poly <<< 1 ^^^ 1#32).getLsbD 0 = true by decide]; simp
    rw [e2, BitVec.ushiftRight_xor_distrib]
    have e3 : (poly <<< 1 ^^^ 1#32) >>> 1 = poly ^^^ (1#32 <<< 31) := by decide
    simp only [if_true]
    rw [e3, show r <<< 1 >>> 1 ^^^ (poly ^^^ 1#32 <<< 31) ^^^ poly = r <<< 1 >>> 1 ^^^ 1#32 <<< 31 ^^^ (poly ^^^ poly) by ac_rfl, BitVec.xor_self, BitVec.xor_zero]
    ext i hi
    simp only [BitVec.getElem_xor, BitVec.getElem_ushiftRight, BitVec.getLsbD_shiftLeft, BitVec.getElem_shiftLeft, BitVec.getElem_one]
    by_cases h31 : i = 31
    · subst h31; simp; rw [← BitVec.getLsbD_eq_getElem]; exact h
    · simp [show 1 + i < 32 by omega, show 1 + i - 1 = i by omega, BitVec.getLsbD_eq_getElem hi, show i < 31 by omega]

theorem stepN_add (m n : Nat) (r : BitVec 32) : stepN (m + n) r = stepN m (stepN n r) := by
  induction m with
  | zero => rw [Nat.zero_add]; rfl
  | succ m ih => rw [Nat.succ_add, stepN, ih, stepN]
theorem backN_succ' (n : Nat) (r : BitVec 32) : backN (n + 1) r = backN n (back r) := by
  induction n with
  | zero => rfl
  | succ n ih => rw [backN, ih, backN]
theorem backN_add (m n : Nat) (r : BitVec 32) : backN (m + n) r = backN m (backN n r) := by
  induction m with
  | zero => rw [Nat.zero_add]; rfl
  | succ m ih => rw [Nat.succ_add, backN, ih, backN]
theorem backN_stepN (n : Nat) (r : BitVec 32) : backN n (stepN n r) = r := by
  induction n with
  | zero => rfl
  | succ n ih => rw [backN_succ', stepN, back_step, ih]
theorem stepN_backN (n : Nat) (r : BitVec 32) : stepN n (backN n r) = r := by
  induction n with
  | zero => rfl
  | succ n ih => rw [stepN_succ', backN, step_surj, ih]
theorem stepN_inj {n : Nat} {a b : BitVec 32} (h : stepN n a = stepN n b) : a = b := by rw [← backN_stepN n a, h, backN_stepN]

/-- A row of bits that ends in zeros goes through them by itself. -/
theorem step_even (r : BitVec 32) (h : r.getLsbD 0 = false) : step r = r >>> 1 := by unfold step; rw [h]; simp
theorem step_shift (r : BitVec 32) (h : r.getLsbD 31 = false) : step (r <<< 1) = r := by
  rw [step_even _ (by simp)]
  ext i hi
  simp only [BitVec.getElem_ushiftRight, BitVec.getLsbD_shiftLeft]
  by_cases h31 : i = 31
  · subst h31; simp; rw [← BitVec.getLsbD_eq_getElem]; exact h
  · simp [show 1 + i < 32 by omega, show 1 + i - 1 = i by omega, BitVec.getLsbD_eq_getElem hi]
theorem stepN_shift (n : Nat) (r : BitVec 32) (hn : n ≤ 32) (h : ∀ i, 32 - n ≤ i → r.getLsbD i = false) : stepN n (r <<< n) = r := by
  induction n with
  | zero => simp [stepN]
  | succ n ih =>
    have e : r <<< (n + 1) = (r <<< n) <<< 1 := by rw [BitVec.shiftLeft_add]
    rw [stepN_succ', e, step_shift, ih (by omega) (fun i hi => h i (by omega))]
    rw [BitVec.getLsbD_shiftLeft]
    by_cases hn' : 31 < n
    · simp [hn']
    · rw [h (31 - n) (by omega)]; simp

/-- THE REGISTER BEHIND A BYTE. -/
def inC (r : BitVec 32) (b : BitVec 8) : BitVec 32 := stepN 8 (r ^^^ b.setWidth 32)
/-- THE REGISTER AHEAD OF A BYTE. -/
def outC (r : BitVec 32) (b : BitVec 8) : BitVec 32 := backN 8 r ^^^ b.setWidth 32
theorem outC_inC (r : BitVec 32) (b : BitVec 8) : outC (inC r b) b = r := by
  unfold outC inC; rw [backN_stepN, BitVec.xor_assoc, BitVec.xor_self, BitVec.xor_zero]

/-- crc.in: the register's upper bytes, and the entry of the lowest one with the byte. -/
def entryC (b : BitVec 8) : BitVec 32 := stepN 8 (b.setWidth 32)
theorem in_entry (r : BitVec 32) (b : BitVec 8) : (r >>> 8) ^^^ entryC (r.setWidth 8 ^^^ b) = inC r b := by
  unfold inC entryC
  have e : r ^^^ b.setWidth 32 = ((r >>> 8) <<< 8) ^^^ (r.setWidth 8 ^^^ b).setWidth 32 := by
    ext i hi
    simp only [BitVec.getElem_xor, BitVec.getElem_shiftLeft, BitVec.getElem_setWidth, BitVec.getLsbD_xor, BitVec.getLsbD_setWidth, BitVec.getElem_ushiftRight]
    by_cases h : i < 8
    · simp [h, BitVec.getLsbD_eq_getElem hi]
    · simp only [h, decide_false, Bool.not_false, Bool.true_and, Bool.false_and, show 8 + (i - 8) = i by omega, BitVec.getLsbD_eq_getElem hi]
      simp [BitVec.getLsbD_of_ge b i (by omega)]
  rw [e, stepN_xor, stepN_shift 8 _ (by omega)]
  intro i hi
  rw [BitVec.getLsbD_ushiftRight]
  exact BitVec.getLsbD_of_ge _ _ (by omega)

/-- The reference's way in, bit by bit. -/
def rinS (r : BitVec 32) (b : BitVec 8) : BitVec 32 := if r.getLsbD 0 != b.getLsbD 0 then (r >>> 1) ^^^ poly else r >>> 1
def rinN : Nat → BitVec 32 → BitVec 8 → BitVec 32
  | 0, r, _ => r
  | n + 1, r, b => rinS (rinN n r b) (b >>> n)
theorem rinN_eq (n : Nat) (r : BitVec 32) (b : BitVec 8) : rinN n r b ^^^ (b >>> n).setWidth 32 = stepN n (r ^^^ b.setWidth 32) := by
  induction n with
  | zero => simp [rinN, stepN]
  | succ n ih =>
    rw [stepN, ← ih, step_xor, rinN]
    have e : (b >>> (n + 1)).setWidth 32 = (b >>> n).setWidth 32 >>> 1 := by
      ext i hi
      simp only [BitVec.getElem_setWidth, BitVec.getElem_ushiftRight, BitVec.getLsbD_setWidth, BitVec.getLsbD_ushiftRight]
      by_cases h : 1 + i < 32
      · simp [h, Nat.add_assoc]
      · rw [BitVec.getLsbD_of_ge b (n + 1 + i) (by omega), BitVec.getLsbD_of_ge b (n + (1 + i)) (by omega)]; simp
    rw [e]
    generalize rinN n r b = x
    generalize b >>> n = y
    unfold rinS step
    rw [BitVec.getLsbD_setWidth]
    cases x.getLsbD 0 <;> cases y.getLsbD 0 <;> simp
    · ac_rfl
    · rw [show x >>> 1 ^^^ poly ^^^ (BitVec.setWidth 32 y >>> 1 ^^^ poly) = x >>> 1 ^^^ BitVec.setWidth 32 y >>> 1 ^^^ (poly ^^^ poly) by ac_rfl, BitVec.xor_self, BitVec.xor_zero]
theorem rin_all (r : BitVec 32) (b : BitVec 8) : rinN 8 r b = inC r b := by
  have h := rinN_eq 8 r b
  have e : (b >>> 8).setWidth 32 = 0#32 := by
    ext i hi
    simp only [BitVec.getElem_setWidth, BitVec.getLsbD_ushiftRight, BitVec.getElem_zero]
    exact BitVec.getLsbD_of_ge _ _ (by omega)
  rw [e, BitVec.xor_zero] at h
  exact h

/-- The reference's way out, bit by bit, the highest one first. -/
def routS (r : BitVec 32) (bit : BitVec 32) : BitVec 32 := if r.getLsbD 31 then (((r ^^^ poly) <<< 1) ||| 1#32) ^^^ bit else (r <<< 1) ||| bit
def bitOf (b : BitVec 8) (i : Nat) : BitVec 32 := if b.getLsbD i then 1#32 else 0#32
def routN : Nat → BitVec 32 → BitVec 8 → BitVec 32
  | 0, r, _ => r
  | n + 1, r, b => routS (routN n r b) (bitOf b (7 - n))
theorem routS_eq (r : BitVec 32) (b : BitVec 8) (i : Nat) : routS r (bitOf b i) = back r ^^^ bitOf b i := by
  unfold routS back bitOf
  cases r.getLsbD 31 <;> cases b.getLsbD i <;> simp
  ext i hi
  simp only [BitVec.getElem_or, BitVec.getElem_xor, BitVec.getElem_shiftLeft, BitVec.getElem_one]
  by_cases h0 : i = 0
  · simp [h0]
  · simp [h0]
theorem bit_low (b : BitVec 8) (i j : Nat) : (bitOf b i).getLsbD j = (b.getLsbD i && decide (j = 0)) := by
  unfold bitOf
  cases b.getLsbD i
  · simp
  · simp only [if_true, Bool.true_and]
    by_cases h : j < 32
    · rw [BitVec.getLsbD_eq_getElem h, BitVec.getElem_one]
    · rw [BitVec.getLsbD_of_ge _ _ (by omega)]; simp; omega
/-- What came in of the byte, so far: its upper n bits. -/
def upper (b : BitVec 8) (n : Nat) : BitVec 32 := (b >>> (8 - n)).setWidth 32
theorem upper_low (b : BitVec 8) (n j : Nat) : (upper b n).getLsbD j = b.getLsbD (8 - n + j) := by
  unfold upper
  rw [BitVec.getLsbD_setWidth, BitVec.getLsbD_ushiftRight]
  by_cases h : j < 32
  · simp [h]
  · rw [BitVec.getLsbD_of_ge b _ (by omega)]; simp
theorem routN_eq (n : Nat) (r : BitVec 32) (b : BitVec 8) (hn : n ≤ 8) : routN n r b = backN n r ^^^ upper b n := by
  induction n with
  | zero =>
    have e : upper b 0 = 0#32 := by
      ext i hi
      rw [← BitVec.getLsbD_eq_getElem, upper_low, BitVec.getLsbD_of_ge _ _ (by omega)]; simp
    rw [e, BitVec.xor_zero]; rfl
  | succ n ih =>
    rw [routN, routS_eq, ih (by omega), back_xor, backN, BitVec.xor_assoc]
    congr 1
    have e0 : (upper b n).getLsbD 31 = false := by rw [upper_low]; exact BitVec.getLsbD_of_ge _ _ (by omega)
    have e1 : back (upper b n) = upper b n <<< 1 := by unfold back; rw [e0]; simp
    rw [e1]
    ext i hi
    rw [BitVec.getElem_xor, ← BitVec.getLsbD_eq_getElem hi, ← BitVec.getLsbD_eq_getElem hi, ← BitVec.getLsbD_eq_getElem hi, bit_low, upper_low, BitVec.getLsbD_shiftLeft]
    by_cases h0 : i = 0
    · subst h0; simp [show 8 - (n + 1) = 7 - n by omega]
    · simp [h0, hi, show ¬ i < 1 by omega]
      rw [upper_low]
      congr 1
      omega
theorem rout_all (r : BitVec 32) (b : BitVec 8) : routN 8 r b = outC r b := by
  rw [routN_eq 8 r b (by omega)]
  unfold outC upper
  simp

/-! ### Rows of bytes -/
/-- The register behind a row. -/
def run (r : BitVec 32) (l : List (BitVec 8)) : BitVec 32 := l.foldl inC r
/-- The sum with more bytes behind: P2.1. -/
def add (s : BitVec 32) (l : List (BitVec 8)) : BitVec 32 := ~~~ (run (~~~ s) l)
theorem run_nil (r : BitVec 32) : run r [] = r := rfl
theorem run_cons (r : BitVec 32) (b : BitVec 8) (l : List (BitVec 8)) : run r (b :: l) = run (inC r b) l := rfl
theorem run_append (r : BitVec 32) (a b : List (BitVec 8)) : run r (a ++ b) = run (run r a) b := List.foldl_append
theorem add_append (s : BitVec 32) (a b : List (BitVec 8)) : add s (a ++ b) = add (add s a) b := by unfold add; rw [run_append, BitVec.not_not]
theorem add_nil (s : BitVec 32) : add s [] = s := by unfold add; rw [run_nil, BitVec.not_not]

/-- The sum of some rows: P2.1. -/
def sums (s : BitVec 32) (ps : List (List (BitVec 8))) : BitVec 32 := ps.foldl add s
theorem sums_flatten (s : BitVec 32) (ps : List (List (BitVec 8))) : sums s ps = add s ps.flatten := by
  induction ps generalizing s with
  | nil => rw [List.flatten_nil, add_nil]; rfl
  | cons p ps ih => rw [List.flatten_cons, add_append]; exact ih (add s p)

/-- A register behind bytes 0. -/
def zeros (r : BitVec 32) : Nat → BitVec 32
  | 0 => r
  | n + 1 => inC (zeros r n) 0#8
theorem run_replicate (r : BitVec 32) (n : Nat) : run r (List.replicate n 0#8) = zeros r n := by
  induction n with
  | zero => rfl
  | succ n ih => rw [List.replicate_succ', run_append, ih]; rfl

theorem inC_xor (a b : BitVec 32) (x y : BitVec 8) : inC (a ^^^ b) (x ^^^ y) = inC a x ^^^ inC b y := by
  unfold inC
  rw [← stepN_xor, BitVec.setWidth_xor]
  congr 1
  ac_rfl
theorem run_xor (a b : BitVec 32) (l m : List (BitVec 8)) (h : l.length = m.length) : run (a ^^^ b) (List.zipWith (· ^^^ ·) l m) = run a l ^^^ run b m := by
  induction l generalizing a b m with
  | nil => cases m with
    | nil => rfl
    | cons y m => simp at h
  | cons x l ih => cases m with
    | nil => simp at h
    | cons y m => rw [List.zipWith_cons_cons, run_cons, run_cons, run_cons, inC_xor, ih _ _ _ (by simpa using h)]
theorem zip_zero (l : List (BitVec 8)) : List.zipWith (· ^^^ ·) l (List.replicate l.length 0#8) = l := by
  induction l with
  | nil => rfl
  | cons x l ih => simp only [List.length_cons, List.replicate_succ, List.zipWith_cons_cons, BitVec.xor_zero, ih]
theorem run_split (a b : BitVec 32) (l : List (BitVec 8)) : run (a ^^^ b) l = run a l ^^^ zeros b l.length := by
  have h := run_xor a b l (List.replicate l.length 0#8) (by simp)
  rw [zip_zero, run_replicate] at h
  exact h
/-- P2.5: the joined sum. -/
theorem add_split (s : BitVec 32) (l : List (BitVec 8)) : add s l = zeros s l.length ^^^ add 0#32 l := by
  unfold add
  have e : ~~~ s = ~~~ 0#32 ^^^ s := by
    ext i hi
    rw [BitVec.getElem_xor, BitVec.getElem_not, BitVec.getElem_not, BitVec.getElem_zero]
    simp
  rw [e, run_split]
  ext i hi
  simp only [BitVec.getElem_not, BitVec.getElem_xor]
  cases (run (~~~ 0#32) l)[i] <;> cases (zeros s l.length)[i] <;> rfl

/-- The sum ahead of bytes: P2.3. -/
def unrun (r : BitVec 32) (l : List (BitVec 8)) : BitVec 32 := l.foldr (fun b r => outC r b) r
def unadd (s : BitVec 32) (l : List (BitVec 8)) : BitVec 32 := ~~~ (unrun (~~~ s) l)
theorem unrun_run (r : BitVec 32) (l : List (BitVec 8)) : unrun (run r l) l = r := by
  induction l generalizing r with
  | nil => rfl
  | cons b l ih => rw [run_cons]; unfold unrun at *; rw [List.foldr_cons, ih, outC_inC]
theorem unadd_add (s : BitVec 32) (l : List (BitVec 8)) : unadd (add s l) l = s := by
  unfold unadd add; rw [BitVec.not_not, unrun_run, BitVec.not_not]

/-! ### Four bytes -/
def word4 (a b c d : BitVec 8) : BitVec 32 := a.setWidth 32 ^^^ (b.setWidth 32 <<< 8) ^^^ (c.setWidth 32 <<< 16) ^^^ (d.setWidth 32 <<< 24)
theorem stepN_byte (n k : Nat) (b : BitVec 8) (h : n + k ≤ 24) : stepN n (b.setWidth 32 <<< (k + n)) = b.setWidth 32 <<< k := by
  rw [BitVec.shiftLeft_add, stepN_shift n _ (by omega)]
  intro i hi
  rw [BitVec.getLsbD_shiftLeft, BitVec.getLsbD_setWidth, BitVec.getLsbD_of_ge b (i - k) (by omega)]
  simp
theorem order4 (r a b c d : BitVec 32) : r ^^^ (a ^^^ b ^^^ c ^^^ d) = r ^^^ a ^^^ (b ^^^ c ^^^ d) := by ac_rfl
theorem order3 (r a b c : BitVec 32) : r ^^^ (a ^^^ b ^^^ c) = r ^^^ a ^^^ (b ^^^ c) := by ac_rfl
theorem run_four (r : BitVec 32) (a b c d : BitVec 8) : run r [a, b, c, d] = stepN 32 (r ^^^ word4 a b c d) := by
  have e : stepN 32 (r ^^^ word4 a b c d) = stepN 8 (stepN 8 (stepN 8 (stepN 8 (r ^^^ word4 a b c d)))) := by
    rw [← stepN_add, ← stepN_add, ← stepN_add]
  rw [e]
  have e1 : stepN 8 (r ^^^ word4 a b c d) = inC r a ^^^ (b.setWidth 32 ^^^ (c.setWidth 32 <<< 8) ^^^ (d.setWidth 32 <<< 16)) := by
    unfold word4 inC
    rw [order4]
    rw [stepN_xor 8 (r ^^^ _), stepN_xor 8 (b.setWidth 32 <<< 8 ^^^ c.setWidth 32 <<< 16), stepN_xor 8 (b.setWidth 32 <<< 8)]
    rw [show b.setWidth 32 <<< 8 = b.setWidth 32 <<< (0 + 8) from rfl, stepN_byte 8 0 b (by omega), show c.setWidth 32 <<< 16 = c.setWidth 32 <<< (8 + 8) from rfl, stepN_byte 8 8 c (by omega), show d.setWidth 32 <<< 24 = d.setWidth 32 <<< (16 + 8) from rfl, stepN_byte 8 16 d (by omega), BitVec.shiftLeft_zero]
  have e2 : stepN 8 (inC r a ^^^ (b.setWidth 32 ^^^ (c.setWidth 32 <<< 8) ^^^ (d.setWidth 32 <<< 16))) = inC (inC r a) b ^^^ (c.setWidth 32 ^^^ (d.setWidth 32 <<< 8)) := by
    generalize inC r a = q
    unfold inC
    rw [order3]
    rw [stepN_xor 8 (q ^^^ _), stepN_xor 8 (c.setWidth 32 <<< 8)]
    rw [show c.setWidth 32 <<< 8 = c.setWidth 32 <<< (0 + 8) from rfl, stepN_byte 8 0 c (by omega), show d.setWidth 32 <<< 16 = d.setWidth 32 <<< (8 + 8) from rfl, stepN_byte 8 8 d (by omega), BitVec.shiftLeft_zero]
  have e3 : stepN 8 (inC (inC r a) b ^^^ (c.setWidth 32 ^^^ (d.setWidth 32 <<< 8))) = inC (inC (inC r a) b) c ^^^ d.setWidth 32 := by
    generalize inC (inC r a) b = q
    unfold inC
    rw [← BitVec.xor_assoc, stepN_xor 8 (q ^^^ _)]
    rw [show d.setWidth 32 <<< 8 = d.setWidth 32 <<< (0 + 8) from rfl, stepN_byte 8 0 d (by omega), BitVec.shiftLeft_zero]
  rw [e1, e2, e3]
  rfl

theorem word4_zero {a b c d : BitVec 8} (h : word4 a b c d = 0#32) : a = 0#8 ∧ b = 0#8 ∧ c = 0#8 ∧ d = 0#8 := by
  have g : ∀ i, (word4 a b c d).getLsbD i = false := by intro i; rw [h]; simp
  have k : ∀ i, i < 32 → (word4 a b c d).getLsbD i = ((a.getLsbD i) ^^ (decide (8 ≤ i) && b.getLsbD (i - 8)) ^^ (decide (16 ≤ i) && c.getLsbD (i - 16)) ^^ (decide (24 ≤ i) && d.getLsbD (i - 24))) := by
    intro i hi
    unfold word4
    simp only [BitVec.getLsbD_xor, BitVec.getLsbD_shiftLeft, BitVec.getLsbD_setWidth]
    have q : ∀ m, (decide (i < 32) && !decide (i < m)) = decide (m ≤ i) := by intro m; simp [hi]; by_cases hm : i < m <;> simp [hm] <;> omega
    have q2 : ∀ m, decide (i - m < 32) = true := by intro m; simp; omega
    rw [q, q, q, q2, q2, q2]
    simp [hi]
  refine ⟨?_, ?_, ?_, ?_⟩
  · ext i hi
    have := k i (by omega); rw [g] at this
    rw [← BitVec.getLsbD_eq_getElem]
    simp [show ¬ 8 ≤ i by omega, show ¬ 16 ≤ i by omega, show ¬ 24 ≤ i by omega] at this
    simp [← this]
  · ext i hi
    have := k (8 + i) (by omega); rw [g] at this
    rw [← BitVec.getLsbD_eq_getElem]
    rw [BitVec.getLsbD_of_ge a _ (by omega)] at this
    simp [show ¬ 16 ≤ 8 + i by omega, show ¬ 24 ≤ 8 + i by omega] at this
    simp [← this]
  · ext i hi
    have := k (16 + i) (by omega); rw [g] at this
    rw [← BitVec.getLsbD_eq_getElem]
    rw [BitVec.getLsbD_of_ge a _ (by omega), BitVec.getLsbD_of_ge b _ (by omega)] at this
    simp [show ¬ 24 ≤ 16 + i by omega] at this
    simp [← this]
  · ext i hi
    have := k (24 + i) (by omega); rw [g] at this
    rw [← BitVec.getLsbD_eq_getElem]
    rw [BitVec.getLsbD_of_ge a _ (by omega), BitVec.getLsbD_of_ge b _ (by omega), BitVec.getLsbD_of_ge c _ (by omega)] at this
    simp at this
    simp [← this]

theorem zeros_zero (n : Nat) : zeros 0#32 n = 0#32 := by
  induction n with
  | zero => rfl
  | succ n ih => rw [zeros, ih]; unfold inC; rw [BitVec.setWidth_zero, BitVec.xor_zero, stepN_zero]
theorem zeros_inj (n : Nat) {a b : BitVec 32} (h : zeros a n = zeros b n) : a = b := by
  induction n with
  | zero => exact h
  | succ n ih =>
    refine ih ?_
    simp only [zeros, inC] at h
    rw [BitVec.setWidth_zero, BitVec.xor_zero, BitVec.xor_zero] at h
    exact stepN_inj h

/-- P2.6: rows that differ within four bytes side by side have sums that differ. -/
theorem near (s : BitVec 32) (p q : List (BitVec 8)) (a b c d x y z t : BitVec 8) (h : add s (p ++ [a, b, c, d] ++ q) = add s (p ++ [a ^^^ x, b ^^^ y, c ^^^ z, d ^^^ t] ++ q)) : x = 0#8 ∧ y = 0#8 ∧ z = 0#8 ∧ t = 0#8 := by
  unfold add at h
  have h1 : run (~~~ s) (p ++ [a, b, c, d] ++ q) = run (~~~ s) (p ++ [a ^^^ x, b ^^^ y, c ^^^ z, d ^^^ t] ++ q) := by rw [← BitVec.not_not (b := run (~~~ s) (p ++ [a, b, c, d] ++ q)), h, BitVec.not_not]
  rw [run_append, run_append, run_append, run_append] at h1
  generalize run (~~~ s) p = r at h1
  have h2 : run r [a, b, c, d] = run r [a ^^^ x, b ^^^ y, c ^^^ z, d ^^^ t] := by
    have e1 := unrun_run (run r [a, b, c, d]) q
    rw [h1, unrun_run] at e1
    exact e1.symm
  have h3 : run r [a ^^^ x, b ^^^ y, c ^^^ z, d ^^^ t] = run r [a, b, c, d] ^^^ run 0#32 [x, y, z, t] := by
    have := run_xor r 0#32 [a, b, c, d] [x, y, z, t] rfl
    rwa [BitVec.xor_zero] at this
  rw [h3] at h2
  have h4 : run 0#32 [x, y, z, t] = 0#32 := by
    have : run r [a, b, c, d] ^^^ run r [a, b, c, d] = run r [a, b, c, d] ^^^ (run r [a, b, c, d] ^^^ run 0#32 [x, y, z, t]) := congrArg (run r [a, b, c, d] ^^^ ·) h2
    rw [BitVec.xor_self, ← BitVec.xor_assoc, BitVec.xor_self, BitVec.zero_xor] at this
    exact this.symm
  rw [run_four, BitVec.zero_xor] at h4
  exact word4_zero (stepN_inj (h4.trans (stepN_zero 32).symm))

/-- The four bytes of a number, the lowest one first. -/
def byteOf (x : BitVec 32) (i : Nat) : BitVec 8 := (x >>> (8 * i)).setWidth 8
theorem word4_bytes (x : BitVec 32) : word4 (byteOf x 0) (byteOf x 1) (byteOf x 2) (byteOf x 3) = x := by
  unfold word4 byteOf
  ext i hi
  simp only [BitVec.getElem_xor, BitVec.getElem_shiftLeft, BitVec.getElem_setWidth, BitVec.getLsbD_setWidth, BitVec.getLsbD_ushiftRight]
  rw [← BitVec.getLsbD_eq_getElem hi]
  by_cases h1 : i < 8
  · simp [h1, show i < 16 by omega, show i < 24 by omega]
  · by_cases h2 : i < 16
    · simp [h1, h2, show i < 24 by omega, show i - 8 < 8 by omega, show 8 + (i - 8) = i by omega, show i - 8 < 32 by omega]
    · by_cases h3 : i < 24
      · simp [h1, h2, h3, show ¬ i - 8 < 8 by omega, show i - 16 < 8 by omega, show 16 + (i - 16) = i by omega, show i - 16 < 32 by omega]
      · simp [h1, h2, h3, show ¬ i - 8 < 8 by omega, show ¬ i - 16 < 8 by omega, show i - 24 < 8 by omega, show 24 + (i - 24) = i by omega, show i - 24 < 32 by omega]

/-- P2.3: the number whose bytes make a sum another one. -/
def forge (s want : BitVec 32) : BitVec 32 := backN 32 (~~~ want) ^^^ ~~~ s
def four (x : BitVec 32) : List (BitVec 8) := [byteOf x 0, byteOf x 1, byteOf x 2, byteOf x 3]
theorem forged (s want : BitVec 32) : add s (four (forge s want)) = want := by
  unfold add four
  rw [run_four, word4_bytes]
  unfold forge
  rw [show ~~~ s ^^^ (backN 32 (~~~ want) ^^^ ~~~ s) = backN 32 (~~~ want) ^^^ (~~~ s ^^^ ~~~ s) by ac_rfl, BitVec.xor_self, BitVec.xor_zero, stepN_backN, BitVec.not_not]
theorem outC_zero (r : BitVec 32) : outC r 0#8 = backN 8 r := by unfold outC; rw [BitVec.setWidth_zero, BitVec.xor_zero]
theorem unadd_zeros (want : BitVec 32) : unadd want [0#8, 0#8, 0#8, 0#8] = ~~~ backN 32 (~~~ want) := by
  unfold unadd unrun
  simp only [List.foldr_cons, List.foldr_nil, outC_zero]
  rw [← backN_add, ← backN_add, ← backN_add]
theorem forge_ref (s want : BitVec 32) : unadd want [0#8, 0#8, 0#8, 0#8] ^^^ s = forge s want := by
  rw [unadd_zeros]; unfold forge
  ext i hi
  simp only [BitVec.getElem_not, BitVec.getElem_xor]
  cases (backN 32 (~~~ want))[i] <;> cases s[i] <;> rfl
theorem four_backs (want : BitVec 32) : backN 8 (backN 8 (backN 8 (backN 8 want))) = backN 32 want := by
  rw [← backN_add, ← backN_add, ← backN_add]
end Go.Proofs.Ytcdlpbccampfdaa.M
