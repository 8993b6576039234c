/- Plain laws of counting: how often two turns meet until all comes again, by remainders, by occurrences, and in any row of as many integers. No program in sight. -/
import Derived.Test.YtejcmdoalhnpeaaGreatDoorCrt
namespace Go.Proofs.YtejcmdoalhnpeaaGreatDoor

def sumI : Nat → (Nat → Int) → Int
  | 0, _ => 0
  | n + 1, F => sumI n F + F n
def ind (b : Bool) : Int := if b then 1 else 0
theorem ind_range (b : Bool) : 0 ≤ ind b ∧ ind b ≤ 1 := by cases b <;> simp [ind]
theorem sumI_congr {n : Nat} {F G : Nat → Int} (h : ∀ i, i < n → F i = G i) : sumI n F = sumI n G := by
  induction n with
  | zero => rfl
  | succ n ih => simp only [sumI]; rw [ih (fun i hi => h i (by omega)), h n (by omega)]
theorem sumI_zero (n : Nat) : sumI n (fun _ => 0) = 0 := by
  induction n with
  | zero => rfl
  | succ n ih => simp only [sumI, ih]; rfl
theorem sumI_add (n : Nat) (F G : Nat → Int) : sumI n (fun i => F i + G i) = sumI n F + sumI n G := by
  induction n with
  | zero => rfl
  | succ n ih => simp only [sumI, ih]; omega
theorem sumI_append (a b : Nat) (F : Nat → Int) : sumI (a + b) F = sumI a F + sumI b (fun i => F (a + i)) := by
  induction b with
  | zero => simp [sumI]
  | succ b ih => rw [← Nat.add_assoc]; simp only [sumI, ih]; omega
theorem sumI_swap (a b : Nat) (F : Nat → Nat → Int) : sumI a (fun i => sumI b (fun j => F i j)) = sumI b (fun j => sumI a (fun i => F i j)) := by
  induction a with
  | zero => simp only [sumI]; exact (sumI_zero b).symm
  | succ a ih => simp only [sumI, ih]; rw [← sumI_add]
theorem sumI_blocks (c m : Nat) (F : Nat → Int) : sumI (c * m) F = sumI c (fun k => sumI m (fun i => F (k * m + i))) := by
  induction c with
  | zero => simp [sumI]
  | succ c ih => rw [Nat.add_mul, Nat.one_mul, sumI_append, ih]; rfl
theorem sumI_bound (n : Nat) (F : Nat → Int) (B : Int) (h : ∀ i, i < n → 0 ≤ F i ∧ F i ≤ B) : 0 ≤ sumI n F ∧ sumI n F ≤ n * B := by
  induction n with
  | zero => simp [sumI]
  | succ n ih =>
    have h1 := ih (fun i hi => h i (by omega))
    have h2 := h n (by omega)
    simp only [sumI]
    rw [show ((n + 1 : Nat) : Int) * B = n * B + B from by rw [Int.natCast_add, Int.add_mul]; simp]
    omega
theorem sumI_none {n : Nat} {P : Nat → Bool} (h : ∀ i, i < n → P i = false) : sumI n (fun i => ind (P i)) = 0 := by
  rw [sumI_congr (G := fun _ => 0) (fun i hi => by simp [h i hi, ind]), sumI_zero]
theorem sumI_one {n : Nat} {P : Nat → Bool} {k : Nat} (hk : k < n) (h1 : P k = true) (h : ∀ i, i < n → P i = true → i = k) : sumI n (fun i => ind (P i)) = 1 := by
  induction n with
  | zero => omega
  | succ n ih =>
    simp only [sumI]
    by_cases e : k = n
    · subst e
      rw [sumI_none (fun i hi => ?_), h1]
      · rfl
      · cases hp : P i
        · rfl
        · have := h i (by omega) hp; omega
    · rw [ih (by omega) (fun i hi hp => h i (by omega) hp)]
      cases hp : P n
      · rfl
      · have := h n (by omega) hp; omega
theorem sumI_pos {n : Nat} {P : Nat → Bool} {k : Nat} (hk : k < n) (h1 : P k = true) : 1 ≤ sumI n (fun i => ind (P i)) := by
  induction n with
  | zero => omega
  | succ n ih =>
    simp only [sumI]
    have hr := ind_range (P n)
    by_cases e : k = n
    · subst e
      have := (sumI_bound k (fun i => ind (P i)) 1 (fun i _ => ind_range _)).1
      rw [h1]
      have h1 : ind true = 1 := rfl
      omega
    · have := ih (by omega); omega

theorem fin_aux {D K d u v t : Int} (hcan : D * d = K * t) (hone : u * d + v * K = 1) : D = K * (u * t + D * v) := by
  have b1 : D * (u * d + v * K) = D := by rw [hone, Int.mul_one]
  have b2 : D * (u * d) = K * (u * t) := by rw [← Int.mul_assoc, Int.mul_comm D u, Int.mul_assoc, hcan, ← Int.mul_assoc, ← Int.mul_assoc, Int.mul_comm u K]
  have b3 : D * (v * K) = K * (D * v) := by rw [← Int.mul_assoc, Int.mul_comm]
  rw [Int.mul_add, b2, b3] at b1
  rw [Int.mul_add]
  exact b1.symm
/-- how often two turns meet until all comes again, by remainders -/
def oftI (p f l q g k : Int) : Int := sumI l.toNat (fun i => sumI k.toNat (fun j => ind (decide ((f + i) % gcdI p q = (g + j) % gcdI p q))))
theorem oftI_swap (p f l q g k : Int) : sumI k.toNat (fun j => sumI l.toNat (fun i => ind (decide ((f + i) % gcdI p q = (g + j) % gcdI p q)))) = oftI p f l q g k := by
  rw [sumI_swap]; rfl
/-- one step of a turn's row hits a remainder just once, or never -/
theorem row_one {p q : Int} (hp : 1 ≤ p) (hq : 1 ≤ q) {K : Nat} (hK : q = gcdI p q * K) (x j : Int) (hj : 0 ≤ j) (hj2 : j < q) :
    sumI K (fun k => ind (decide ((x + k * p) % q = j))) = ind (decide (x % gcdI p q = j % gcdI p q)) := by
  have hg := gcdI_pos (q := q) hp
  obtain ⟨u, v, e⟩ := gcdI_bez (show 0 ≤ p by omega) (show 0 ≤ q by omega)
  obtain ⟨d, hd⟩ := gcdI_left (q := q) (show 0 ≤ p by omega)
  have hKp : (K : Int) * p = q * d := by
    have h1 : q * d = gcdI p q * K * d := by rw [← hK]
    have h2 : (K : Int) * p = K * (gcdI p q * d) := by rw [← hd]
    rw [h1, h2, ← Int.mul_assoc, Int.mul_comm (K : Int)]
  have hK1 : (1 : Int) ≤ K := by
    by_cases h : K = 0
    · subst h; simp at hK; omega
    · omega
  by_cases h : x % gcdI p q = j % gcdI p q
  · simp only [h, decide_true]
    obtain ⟨c, hc⟩ := emod_diff h.symm
    have h0 := Int.emod_nonneg (-(u * c)) (show (K : Int) ≠ 0 by omega)
    have h1 := Int.emod_lt_of_pos (-(u * c)) (show (0 : Int) < K by omega)
    have h2 := Int.emod_add_mul_ediv (-(u * c)) K
    refine sumI_one (k := ((-(u * c)) % K).toNat) (by omega) ?_ ?_
    · rw [decide_eq_true_eq, Int.toNat_of_nonneg h0]
      refine emod_of (q := v * c - d * (-(u * c) / K)) ?_ hj hj2
      have e1 : gcdI p q * c = u * p * c + v * q * c := by rw [← e, Int.add_mul]
      have e2 : -(u * c) % K * p = -(u * c) * p - K * p * (-(u * c) / K) := by
        have : -(u * c) % K = -(u * c) - K * (-(u * c) / K) := by omega
        rw [this, Int.sub_mul, Int.mul_assoc, Int.mul_comm (-(u * c) / K) p, ← Int.mul_assoc]
      have e3 : u * p * c = u * c * p := by rw [Int.mul_assoc, Int.mul_comm p c, ← Int.mul_assoc]
      have e4 : v * q * c = q * (v * c) := by rw [Int.mul_comm v q, Int.mul_assoc]
      have e5 : -(u * c) * p = -(u * c * p) := Int.neg_mul ..
      have e6 : q * (v * c - d * (-(u * c) / K)) = q * (v * c) - q * d * (-(u * c) / K) := by rw [Int.mul_sub, Int.mul_assoc]
      rw [e6, ← hKp, e2, e5]
      omega
    · intro i hi hp'
      rw [decide_eq_true_eq] at hp'
      have hx0 : ∀ n : Nat, n < K → (x + n * p) % q = j → ∃ t, x + n * p = q * t + j := fun n _ h => ⟨(x + n * p) / q, by have := Int.emod_add_mul_ediv (x + n * p) q; omega⟩
      have hk0 : ∃ t, x + (-(u * c)) % K * p = q * t + j := by
        refine ⟨v * c - d * (-(u * c) / K), ?_⟩
        have e1 : gcdI p q * c = u * p * c + v * q * c := by rw [← e, Int.add_mul]
        have e2 : -(u * c) % K * p = -(u * c) * p - K * p * (-(u * c) / K) := by
          have : -(u * c) % K = -(u * c) - K * (-(u * c) / K) := by omega
          rw [this, Int.sub_mul, Int.mul_assoc, Int.mul_comm (-(u * c) / K) p, ← Int.mul_assoc]
        have e3 : u * p * c = u * c * p := by rw [Int.mul_assoc, Int.mul_comm p c, ← Int.mul_assoc]
        have e4 : v * q * c = q * (v * c) := by rw [Int.mul_comm v q, Int.mul_assoc]
        have e5 : -(u * c) * p = -(u * c * p) := Int.neg_mul ..
        have e6 : q * (v * c - d * (-(u * c) / K)) = q * (v * c) - q * d * (-(u * c) / K) := by rw [Int.mul_sub, Int.mul_assoc]
        rw [e6, ← hKp, e2, e5]
        omega
      obtain ⟨t1, ht1⟩ := hx0 i hi hp'
      obtain ⟨t2, ht2⟩ := hk0
      -- (i - k0) * p = q * (t1 - t2)
      have hdiff : ((i : Int) - -(u * c) % K) * p = q * (t1 - t2) := by rw [Int.sub_mul, Int.mul_sub]; omega
      have hg2 : gcdI p q * (((i : Int) - -(u * c) % K) * d) = gcdI p q * (K * (t1 - t2)) := by
        rw [← Int.mul_assoc, Int.mul_comm (gcdI p q), Int.mul_assoc, ← hd, hdiff, ← Int.mul_assoc, ← hK]
      have hcan : ((i : Int) - -(u * c) % K) * d = K * (t1 - t2) := Int.eq_of_mul_eq_mul_left (by omega) hg2
      have hone : u * d + v * K = 1 := by
        have : gcdI p q * (u * d + v * K) = gcdI p q * 1 := by
          rw [Int.mul_add, Int.mul_one]
          have a1 : gcdI p q * (u * d) = u * p := by rw [← Int.mul_assoc, Int.mul_comm (gcdI p q), Int.mul_assoc, ← hd]
          have a2 : gcdI p q * (v * K) = v * q := by rw [← Int.mul_assoc, Int.mul_comm (gcdI p q), Int.mul_assoc, ← hK]
          rw [a1, a2]; exact e
        exact Int.eq_of_mul_eq_mul_left (by omega) this
      have hfin := fin_aux hcan hone
      obtain ⟨z, hz⟩ : ∃ z, u * (t1 - t2) + ((i : Int) - -(u * c) % K) * v = z := ⟨_, rfl⟩
      rw [hz] at hfin
      have hz0 : z = 0 := by
        rcases Int.lt_trichotomy z 0 with h3 | h3 | h3
        · have := Int.mul_le_mul_of_nonneg_left (show z ≤ -1 by omega) (show (0 : Int) ≤ K by omega)
          omega
        · exact h3
        · have := Int.mul_le_mul_of_nonneg_left (show 1 ≤ z by omega) (show (0 : Int) ≤ K by omega)
          omega
      rw [hz0, Int.mul_zero] at hfin
      omega
  · simp only [h, decide_false]
    refine sumI_none (fun i hi => ?_)
    rw [decide_eq_false_iff_not]
    intro hc
    apply h
    have h1 := Int.emod_add_mul_ediv (x + i * p) q
    have h2 : x = j + gcdI p q * (K * ((x + i * p) / q) - d * i) := by
      have a1 : q * ((x + i * p) / q) = gcdI p q * (K * ((x + i * p) / q)) := by rw [← Int.mul_assoc, ← hK]
      have a2 : (i : Int) * p = gcdI p q * (d * i) := by rw [← Int.mul_assoc, ← hd, Int.mul_comm]
      rw [Int.mul_sub, ← a1, ← a2]
      omega
    rw [h2, Int.add_mul_emod_self_left]
theorem tnIn_sum {q g k : Int} (hv : tnB q g k = true) (y : Int) : ind (tnIn q g k y) = sumI k.toNat (fun j => ind (decide ((y - g) % q = j))) := by
  obtain ⟨c1, c2, c3, c4, c5, c6⟩ := tnB_t hv
  have h0 := Int.emod_nonneg (y - g) (show q ≠ 0 by omega)
  by_cases h : (y - g) % q < k
  · simp only [tnIn, h, decide_true]
    exact (sumI_one (k := ((y - g) % q).toNat) (by omega) (by rw [decide_eq_true_eq]; omega) (fun i hi hp => by rw [decide_eq_true_eq] at hp; omega)).symm
  · simp only [tnIn, h, decide_false]
    exact (sumI_none (fun i hi => by rw [decide_eq_false_iff_not]; omega)).symm
/-- the integers of one row that are in a turn, by remainders -/
theorem row_sum {p q g k : Int} (hp : 1 ≤ p) (hv : tnB q g k = true) {K : Nat} (hK : q = gcdI p q * K) (x : Int) :
    sumI K (fun i => ind (tnIn q g k (x + i * p))) = sumI k.toNat (fun j => ind (decide (x % gcdI p q = (g + j) % gcdI p q))) := by
  obtain ⟨c1, c2, c3, c4, c5, c6⟩ := tnB_t hv
  have hg := gcdI_pos (q := q) hp
  rw [sumI_congr (fun i _ => tnIn_sum hv (x + i * p)), sumI_swap]
  refine sumI_congr (fun j hj => ?_)
  have := row_one hp c1 hK (x - g) j (by omega) (by omega)
  rw [sumI_congr (G := fun i => ind (decide ((x - g + i * p) % q = j))) (fun i _ => by rw [show x + i * p - g = x - g + i * p from by omega]), this]
  congr 1
  rw [decide_eq_decide]
  constructor
  · intro h
    obtain ⟨c, hc⟩ := emod_diff h
    rw [show x = (g + j) + gcdI p q * (-c) from by rw [Int.mul_neg]; omega, Int.add_mul_emod_self_left]
  · intro h
    obtain ⟨c, hc⟩ := emod_diff h
    rw [show x - g = j + gcdI p q * (-c) from by rw [Int.mul_neg]; omega, Int.add_mul_emod_self_left]

/-- how many integers from 0 up to a number (not itself) are in a turn -/
def cntI (q g k n : Int) : Int := sumI n.toNat (fun i => ind (tnIn q g k i))
def belowI (q g k n : Int) : Int := n / q * k + max 0 (min (n % q) (g + k) - min (n % q) g) + max 0 (min (n % q) (g + k - q))
theorem tnIn_rest {q g k : Int} (hv : tnB q g k = true) (n : Int) : tnIn q g k n = decide (g ≤ n % q ∧ n % q < g + k ∨ n % q < g + k - q) := by
  obtain ⟨c1, c2, c3, c4, c5, c6⟩ := tnB_t hv
  have h0 := Int.emod_nonneg n (show q ≠ 0 by omega)
  have h1 := Int.emod_lt_of_pos n (show 0 < q by omega)
  have h2 := Int.emod_add_mul_ediv n q
  unfold tnIn
  rw [decide_eq_decide]
  by_cases h : g ≤ n % q
  · have : (n - g) % q = n % q - g := emod_of (q := n / q) (by omega) (by omega) (by omega)
    rw [this]; omega
  · have : (n - g) % q = n % q - g + q := emod_of (q := n / q - 1) (by rw [Int.mul_sub]; omega) (by omega) (by omega)
    rw [this]; omega
theorem belowI_eq {q g k : Int} (hv : tnB q g k = true) (n : Nat) : belowI q g k n = cntI q g k n := by
  obtain ⟨c1, c2, c3, c4, c5, c6⟩ := tnB_t hv
  induction n with
  | zero => simp [belowI, cntI, sumI]; omega
  | succ n ih =>
    have h0 := Int.emod_nonneg (n : Int) (show q ≠ 0 by omega)
    have h1 := Int.emod_lt_of_pos (n : Int) (show 0 < q by omega)
    have h2 := Int.emod_add_mul_ediv (n : Int) q
    have hs : cntI q g k ((n + 1 : Nat) : Int) = cntI q g k n + ind (tnIn q g k n) := by simp [cntI, sumI]
    rw [hs, ← ih, tnIn_rest hv]
    unfold belowI ind
    simp only [decide_eq_true_eq]
    by_cases h : (n : Int) % q + 1 < q
    · have e1 : ((n + 1 : Nat) : Int) % q = (n : Int) % q + 1 := emod_of (q := n / q) (by omega) (by omega) (by omega)
      have e2 : ((n + 1 : Nat) : Int) / q = (n : Int) / q := by
        have := Int.emod_add_mul_ediv ((n + 1 : Nat) : Int) q
        rw [e1] at this
        have h5 : q * (((n + 1 : Nat) : Int) / q) = q * ((n : Int) / q) := by omega
        exact Int.eq_of_mul_eq_mul_left (by omega) h5
      rw [e1, e2]
      split <;> omega
    · have e1 : ((n + 1 : Nat) : Int) % q = 0 := emod_of (q := n / q + 1) (by rw [Int.mul_add]; omega) (by omega) (by omega)
      have e2 : ((n + 1 : Nat) : Int) / q = (n : Int) / q + 1 := by
        have := Int.emod_add_mul_ediv ((n + 1 : Nat) : Int) q
        rw [e1] at this
        have h5 : q * (((n + 1 : Nat) : Int) / q) = q * ((n : Int) / q + 1) := by rw [Int.mul_add]; omega
        exact Int.eq_of_mul_eq_mul_left (by omega) h5
      rw [e1, e2, Int.add_mul]
      split <;> omega
theorem cntI_diff (q g k x l : Int) (hx : 0 ≤ x) (hl : 0 ≤ l) : cntI q g k (x + l) - cntI q g k x = sumI l.toNat (fun i => ind (tnIn q g k (x + i))) := by
  unfold cntI
  rw [show (x + l).toNat = x.toNat + l.toNat from by omega, sumI_append]
  rw [sumI_congr (n := l.toNat) (F := fun i => ind (tnIn q g k (x + i))) (G := fun i => ind (tnIn q g k ((x.toNat + i : Nat) : Int))) (fun i _ => by rw [Int.natCast_add, Int.toNat_of_nonneg hx])]
  omega
theorem mulc (a b : Int) : a * b = b * a := Int.mul_comm a b
/-- occurrence by occurrence -/
theorem oft_rows {p f l q g k : Int} (hv : tnB p f l = true) (hv2 : tnB q g k = true) {K : Nat} (hK : q = gcdI p q * K) :
    sumI K (fun i => cntI q g k (f + i * p + l) - cntI q g k (f + i * p)) = oftI p f l q g k := by
  obtain ⟨a1, a2, a3, a4, a5, a6⟩ := tnB_t hv
  rw [sumI_congr (fun i _ => cntI_diff q g k (f + i * p) l (by have := Int.mul_nonneg (show (0 : Int) ≤ i by omega) (show 0 ≤ p by omega); omega) (by omega)), sumI_swap]
  unfold oftI
  refine sumI_congr (fun i _ => ?_)
  rw [← row_sum a1 hv2 hK (f + i)]
  exact sumI_congr (fun j _ => by rw [show f + (j : Int) * p + i = f + i + j * p from by omega])
/-- in any row of as many integers -/
theorem window {F : Int → Int} {L : Nat} (h : ∀ x, F (x + L) = F x) (x : Int) (n : Nat) : sumI L (fun i => F (x + n + i)) = sumI L (fun i => F (x + i)) := by
  induction n with
  | zero => exact sumI_congr (fun i _ => by simp)
  | succ n ih =>
    rw [← ih]
    have h1 := sumI_append 1 L (fun i => F (x + n + i))
    have h2 : sumI (L + 1) (fun i => F (x + n + i)) = sumI L (fun i => F (x + n + i)) + F (x + n + L) := rfl
    rw [Nat.add_comm 1 L, h2] at h1
    simp only [sumI] at h1
    have h3 := h (x + n)
    have h4 : sumI L (fun i => F (x + n + ((1 + i : Nat) : Int))) = sumI L (fun i => F (x + ((n + 1 : Nat) : Int) + i)) := sumI_congr (fun i _ => by rw [show x + n + ((1 + i : Nat) : Int) = x + ((n + 1 : Nat) : Int) + i from by omega])
    rw [h4] at h1
    simp only [Int.natCast_zero, Int.add_zero, Int.zero_add] at h1
    omega
theorem window_any {F : Int → Int} {L : Nat} (h : ∀ x, F (x + L) = F x) (x y : Int) : sumI L (fun i => F (x + i)) = sumI L (fun i => F (y + i)) := by
  rcases Int.le_total x y with h1 | h1
  · have := window h x (y - x).toNat
    rw [← this]
    exact sumI_congr (fun i _ => by rw [show x + ((y - x).toNat : Int) + i = y + i from by omega])
  · have := window h y (x - y).toNat
    rw [← this]
    exact sumI_congr (fun i _ => by rw [show y + ((x - y).toNat : Int) + i = x + i from by omega])
theorem tnIn_at {p f l : Int} (hv : tnB p f l = true) (c : Int) (i : Nat) (hi : i < p.toNat) : tnIn p f l (f + c * p + i) = decide ((i : Int) < l) := by
  obtain ⟨a1, a2, a3, a4, a5, a6⟩ := tnB_t hv
  unfold tnIn
  rw [show (f + c * p + i - f) % p = i from emod_of (q := c) (by rw [Int.mul_comm]; omega) (by omega) (by omega)]
theorem oft_window {p f l q g k : Int} (hv : tnB p f l = true) (hv2 : tnB q g k = true) (x : Int) :
    sumI (lcmI p q).toNat (fun i => ind (comB p f l q g k (x + i))) = oftI p f l q g k := by
  obtain ⟨a1, a2, a3, a4, a5, a6⟩ := tnB_t hv
  obtain ⟨c1, c2, c3, c4, c5, c6⟩ := tnB_t hv2
  obtain ⟨c, d, h1, h2, h3, h4, h5, h6⟩ := lcmI_spec a1 c1
  have hL := (lcmI_le a1 a2 c1 c2).1
  have hper : ∀ x, ind (comB p f l q g k (x + ((lcmI p q).toNat : Nat))) = ind (comB p f l q g k x) := by
    intro x
    rw [Int.toNat_of_nonneg (by omega)]
    have := comB_add a1 c1 f l g k x 1
    rw [Int.mul_one] at this
    rw [this]
  rw [window_any (F := fun x => ind (comB p f l q g k x)) hper x f]
  have hKc : q = gcdI p q * (c.toNat : Nat) := by rw [Int.toNat_of_nonneg (by omega)]; exact h5
  rw [← oft_rows hv hv2 hKc]
  have hsz : (lcmI p q).toNat = c.toNat * p.toNat := by
    have : ((c.toNat * p.toNat : Nat) : Int) = lcmI p q := by rw [Int.natCast_mul, Int.toNat_of_nonneg (by omega), Int.toNat_of_nonneg (by omega), h1, Int.mul_comm]
    omega
  rw [hsz, sumI_blocks]
  refine sumI_congr (fun i _ => ?_)
  have hip := Int.mul_nonneg (show (0 : Int) ≤ i by omega) (show 0 ≤ p by omega)
  rw [cntI_diff q g k (f + i * p) l (by omega) (by omega)]
  rw [show p.toNat = l.toNat + (p.toNat - l.toNat) from by omega, sumI_append]
  have e2 : ∀ j : Nat, f + (((i * p.toNat + j : Nat)) : Int) = f + i * p + j := by intro j; rw [Int.natCast_add, Int.natCast_mul, Int.toNat_of_nonneg (by omega)]; omega
  have z : sumI (p.toNat - l.toNat) (fun j => ind (comB p f l q g k (f + ((i * (l.toNat + (p.toNat - l.toNat)) + (l.toNat + j) : Nat) : Int)))) = 0 := by
    refine sumI_none (fun j hj => ?_)
    rw [show l.toNat + (p.toNat - l.toNat) = p.toNat from by omega, e2]
    unfold comB
    rw [tnIn_at hv i _ (by omega)]
    simp only [Bool.and_eq_false_iff, decide_eq_false_iff_not]
    left; omega
  rw [z, Int.add_zero]
  refine sumI_congr (fun j hj => ?_)
  rw [show l.toNat + (p.toNat - l.toNat) = p.toNat from by omega, e2]
  unfold comB
  rw [tnIn_at hv i _ (by omega), show decide ((j : Int) < l) = true from by rw [decide_eq_true_eq]; omega, Bool.true_and]
theorem oft_first {p f l q g k : Int} (hv : tnB p f l = true) (hv2 : tnB q g k = true) : oftI p f l q g k = 0 ↔ firstN p f l q g k = none := by
  have h := oft_window hv hv2 0
  constructor
  · intro h0
    cases hf : firstN p f l q g k with
    | none => rfl
    | some n =>
      obtain ⟨h1, h2, _⟩ := firstN_some hf
      have := sumI_pos (n := (lcmI p q).toNat) (P := fun i => comB p f l q g k (0 + i)) (k := n) (by omega) (by simpa using h1)
      omega
  · intro h0
    rw [← h]
    exact sumI_none (fun i hi => firstN_none h0 _ (by omega) (by omega))
theorem oft_bound {p f l q g k : Int} (hv : tnB p f l = true) (hv2 : tnB q g k = true) : 0 ≤ oftI p f l q g k ∧ oftI p f l q g k ≤ 1625702400 := by
  obtain ⟨a1, a2, a3, a4, a5, a6⟩ := tnB_t hv
  obtain ⟨c1, c2, c3, c4, c5, c6⟩ := tnB_t hv2
  have h := oft_window hv hv2 0
  have hL := lcmI_le a1 a2 c1 c2
  have := sumI_bound (lcmI p q).toNat (fun i => ind (comB p f l q g k (0 + i))) 1 (fun i _ => ind_range _)
  rw [h] at this
  omega

end Go.Proofs.YtejcmdoalhnpeaaGreatDoor
