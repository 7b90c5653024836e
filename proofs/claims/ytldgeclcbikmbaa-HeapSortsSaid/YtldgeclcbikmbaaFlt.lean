/- Floats at or above zero, in plain Lean: a word's value in units of the least number, rounding, the sum, the product, a quotient, the order. -/
import Ieee.Arith
namespace Go.Proofs.Ytldgeclcbikmbaa
namespace Flt
open Ieee

def mg (x : Nat) : Nat := if x < 4503599627370496 then x else 4503599627370496 + x % 4503599627370496
def pl (x : Nat) : Nat := if x < 4503599627370496 then 0 else x / 4503599627370496 - 1
/-- The value of a word, in units of 2^-1074. -/
def U (x : Nat) : Nat := mg x * 2 ^ pl x
def INF : Nat := 9218868437227405312

theorem read_fin {x : Nat} (h : x < INF) : double.read x = .number false (mg x) (-1074 + (pl x : Nat)) := by
  have hb : double.binade = 4503599627370496 := by decide
  have hs : double.signWeight = 9223372036854775808 := by decide
  have hi : double.infRung = 9218868437227405312 := by decide
  have hl : double.leastPlace = -1074 := by decide
  unfold INF at h
  unfold Format.read mg pl
  rw [hb, hs, hi, hl]
  have h1 : x / 9223372036854775808 = 0 := Nat.div_eq_of_lt (by omega)
  have h2 : x % 9223372036854775808 = x := Nat.mod_eq_of_lt (by omega)
  simp only [h1, h2]
  by_cases hx : x < 4503599627370496
  · rw [if_pos hx, if_pos hx, if_pos hx]; simp
  · rw [if_neg hx, if_neg hx, if_neg hx, if_pos h]; simp

theorem U_at (e k : Nat) (hk : k ≤ 9007199254740992) (h : e = 0 ∨ 4503599627370496 ≤ k) : U (e * 4503599627370496 + k) = k * 2 ^ e := by
  unfold U mg pl
  by_cases h1 : e * 4503599627370496 + k < 4503599627370496
  · have : e = 0 := by omega
    subst this
    rw [if_pos h1, if_pos h1]; simp
  · rw [if_neg h1, if_neg h1]
    by_cases h2 : k < 4503599627370496
    · have : e = 0 := by omega
      subst this
      omega
    · by_cases h3 : k = 9007199254740992
      · have e1 : (e * 4503599627370496 + k) % 4503599627370496 = 0 := by omega
        have e2 : (e * 4503599627370496 + k) / 4503599627370496 - 1 = e + 1 := by omega
        rw [e1, e2, h3, Nat.pow_succ]
        omega
      · have e1 : (e * 4503599627370496 + k) % 4503599627370496 = k - 4503599627370496 := by omega
        have e2 : (e * 4503599627370496 + k) / 4503599627370496 - 1 = e := by omega
        have e3 : 4503599627370496 + (k - 4503599627370496) = k := by omega
        rw [e1, e2, e3]

theorem U_split (x : Nat) : ∃ e k, x = e * 4503599627370496 + k ∧ k < 9007199254740992 ∧ (e = 0 ∨ 4503599627370496 ≤ k) := by
  by_cases h : x < 9007199254740992
  · exact ⟨0, x, by omega, h, .inl rfl⟩
  · exact ⟨x / 4503599627370496 - 1, x % 4503599627370496 + 4503599627370496, by omega, by omega, .inr (by omega)⟩

theorem U_succ (x : Nat) : U x < U (x + 1) := by
  obtain ⟨e, k, hx, hk, h⟩ := U_split x
  have hx2 : x + 1 = e * 4503599627370496 + (k + 1) := by omega
  have h1 : U x = k * 2 ^ e := by rw [hx]; exact U_at e k (by omega) h
  have h2 : U (x + 1) = (k + 1) * 2 ^ e := by rw [hx2]; exact U_at e (k + 1) (by omega) (by omega)
  rw [h1, h2]
  exact Nat.mul_lt_mul_of_pos_right (by omega) (Nat.two_pow_pos e)

theorem U_lt {x y : Nat} (h : x < y) : U x < U y := by
  induction y with
  | zero => omega
  | succ y ih =>
    by_cases hx : x = y
    · subst hx; exact U_succ x
    · exact Nat.lt_trans (ih (by omega)) (U_succ y)
theorem U_le {x y : Nat} (h : x ≤ y) : U x ≤ U y := by
  rcases Nat.lt_or_eq_of_le h with h | h
  · exact Nat.le_of_lt (U_lt h)
  · rw [h]; exact Nat.le_refl _
theorem U_le_iff {x y : Nat} : U x ≤ U y ↔ x ≤ y := ⟨fun h => by
  rcases Nat.lt_or_ge y x with h' | h'
  · have := U_lt h'; omega
  · exact h', U_le⟩

/-- What is kept of a number of which some digits are dropped. -/
theorem cut_even (n drop : Nat) : (∀ k, n ≤ k * 2 ^ drop → Toward.even.cut false n drop ≤ k) ∧ (∀ k, k * 2 ^ drop ≤ n → k ≤ Toward.even.cut false n drop) ∧ (∀ k, 2 * n < (2 * k + 1) * 2 ^ drop → Toward.even.cut false n drop ≤ k) := by
  unfold Toward.cut
  simp only [Nat.shiftLeft_eq, Nat.one_mul]
  obtain ⟨g, hg⟩ : ∃ g, g = 2 ^ min drop (n.log2 + 2) := ⟨_, rfl⟩
  rw [← hg]
  have hgp : 0 < g := by rw [hg]; exact Nat.two_pow_pos _
  by_cases hd : drop ≤ n.log2 + 2
  · have eg : g = 2 ^ drop := by rw [hg, Nat.min_eq_left hd]
    rw [← eg]
    refine ⟨?_, ?_, ?_⟩
    · intro k hk
      have h1 : n / g ≤ k := by
        rw [Nat.div_le_iff_le_mul_add_pred hgp]
        rw [Nat.mul_comm] at hk; omega
      rcases Nat.lt_or_eq_of_le h1 with h1 | h1
      · have : ((decide (g < 2 * (n % g)) || g == 2 * (n % g) && n / g % 2 == 1)).toNat ≤ 1 := Bool.toNat_le _
        omega
      · have h2 : n % g = 0 := by
          have := Nat.div_add_mod n g
          rw [h1, Nat.mul_comm] at this
          omega
        have hmore : (decide (g < 2 * (n % g)) || g == 2 * (n % g) && n / g % 2 == 1) = false := by
          rw [h2]
          have : ¬ g = 0 := by omega
          simp [this]
        rw [hmore, h1]
        simp
    · intro k hk
      have : k ≤ n / g := (Nat.le_div_iff_mul_le hgp).2 hk
      omega
    · intro k hk
      have hdm := Nat.div_add_mod n g
      have hmod := Nat.mod_lt n hgp
      have h1 : n / g ≤ k := by
        refine Nat.le_of_not_lt fun hlt => ?_
        have : g * (k + 1) ≤ g * (n / g) := Nat.mul_le_mul_left g hlt
        have e1 : (2 * k + 1) * g = 2 * (g * k) + g := by rw [Nat.add_mul, Nat.one_mul, Nat.mul_assoc, Nat.mul_comm k g]
        rw [Nat.mul_add, Nat.mul_one] at this
        omega
      rcases Nat.lt_or_eq_of_le h1 with h1 | h1
      · have : ((decide (g < 2 * (n % g)) || g == 2 * (n % g) && n / g % 2 == 1)).toNat ≤ 1 := Bool.toNat_le _
        omega
      · have h2 : 2 * (n % g) < g := by
          have e1 : (2 * k + 1) * g = 2 * (g * k) + g := by rw [Nat.add_mul, Nat.one_mul, Nat.mul_assoc, Nat.mul_comm k g]
          rw [h1] at hdm
          omega
        have hmore : (decide (g < 2 * (n % g)) || g == 2 * (n % g) && n / g % 2 == 1) = false := by
          have a1 : ¬ g < 2 * (n % g) := by omega
          have a2 : ¬ g = 2 * (n % g) := by omega
          simp [a1, a2]
        rw [hmore, h1]
        simp
  · have eg : g = 2 ^ (n.log2 + 2) := by rw [hg, Nat.min_eq_right (by omega)]
    have hn : n < 2 ^ (n.log2 + 1) := Nat.lt_log2_self
    have h4 : 2 ^ (n.log2 + 2) = 2 * 2 ^ (n.log2 + 1) := by rw [Nat.pow_succ _ (n.log2 + 1), Nat.mul_comm]
    have hlow : n / g = 0 := Nat.div_eq_of_lt (by omega)
    have hrest : n % g = n := Nat.mod_eq_of_lt (by omega)
    rw [hlow, hrest]
    have hmore : (decide (g < 2 * n) || g == 2 * n && 0 % 2 == 1) = false := by
      have : ¬ g < 2 * n := by omega
      simp [this]
    rw [hmore]
    refine ⟨fun k _ => by simp, ?_, fun k _ => by simp⟩
    · intro k hk
      have hdd : 2 ^ (n.log2 + 2) ≤ 2 ^ drop := Nat.pow_le_pow_right (by omega) (by omega)
      rcases Nat.eq_zero_or_pos k with h0 | h0
      · omega
      · have := Nat.mul_le_mul_right (2 ^ drop) h0
        omega

/-- What 'nearest' comes to: a scale and a significand. -/
theorem nearest_form (mag : Nat) (place : Int) (hm : mag ≠ 0) : ∃ e kept : Nat, double.nearest false mag place = min (e * 4503599627370496 + kept) INF ∧ kept ≤ 9007199254740992 ∧ (e = 0 ∨ 4503599627370496 ≤ kept) ∧
    (∀ k, mag * 2 ^ (place + 1074).toNat ≤ k * 2 ^ e * 2 ^ (-(place + 1074)).toNat → kept ≤ k) ∧ (∀ k, k * 2 ^ e * 2 ^ (-(place + 1074)).toNat ≤ mag * 2 ^ (place + 1074).toNat → k ≤ kept) ∧ (∀ k, 2 * (mag * 2 ^ (place + 1074).toNat) < (2 * k + 1) * 2 ^ e * 2 ^ (-(place + 1074)).toNat → kept ≤ k) ∧
    mag * 2 ^ (place + 1074).toNat < 9007199254740992 * 2 ^ e * 2 ^ (-(place + 1074)).toNat ∧ (e = 0 ∨ 4503599627370496 * 2 ^ e * 2 ^ (-(place + 1074)).toNat ≤ mag * 2 ^ (place + 1074).toNat) := by
  have hb : double.binade = 4503599627370496 := by decide
  have hi : double.infRung = 9218868437227405312 := by decide
  have hl : double.leastPlace = -1074 := by decide
  have hf : double.fractionBits = 52 := rfl
  obtain ⟨g, hg⟩ : ∃ g, g = mag.log2 := ⟨_, rfl⟩
  have hlo : 2 ^ g ≤ mag := by rw [hg]; exact Nat.log2_self_le hm
  have hhi : mag < 2 ^ (g + 1) := by rw [hg]; exact Nat.lt_log2_self
  obtain ⟨last, hlast⟩ : ∃ last : Int, last = max (place + (g : Int) - 52) (-1074) := ⟨_, rfl⟩
  have hl1 : -1074 ≤ last := by omega
  have hl2 : place + (g : Int) - 52 ≤ last := by omega
  have hl3 : last = -1074 ∨ last = place + (g : Int) - 52 := by omega
  refine ⟨(last + 1074).toNat, Toward.even.cut false (mag <<< (place - last).toNat) (last - place).toNat, ?_, ?_⟩
  · unfold Format.nearest Format.word INF
    rw [if_neg hm, hb, hi, hl, hf]
    simp only [Bool.false_eq_true, if_false]
    rw [← hg]
    have h1 : max (place + (g : Int) - ((52 : Nat) : Int)) (-1074) = last := hlast.symm
    have h2 : last - -1074 = last + 1074 := by omega
    rw [h1, h2]
  · obtain ⟨e, he⟩ : ∃ e, e = (last + 1074).toNat := ⟨_, rfl⟩
    rw [← he]
    obtain ⟨h1, h2, h2'⟩ := cut_even (mag <<< (place - last).toNat) (last - place).toNat
    obtain ⟨kept, hk⟩ : ∃ kept, kept = Toward.even.cut false (mag <<< (place - last).toNat) (last - place).toNat := ⟨_, rfl⟩
    rw [← hk] at h1 h2 h2' ⊢
    rw [Nat.shiftLeft_eq] at h1 h2 h2'
    obtain ⟨p, hp⟩ : ∃ p, p = (place - last).toNat := ⟨_, rfl⟩
    obtain ⟨d, hd⟩ : ∃ d, d = (last - place).toNat := ⟨_, rfl⟩
    obtain ⟨a, ha⟩ : ∃ a, a = (place + 1074).toNat := ⟨_, rfl⟩
    obtain ⟨b, hbb⟩ : ∃ b, b = (-(place + 1074)).toNat := ⟨_, rfl⟩
    rw [← hp, ← hd] at h1 h2 h2'
    rw [← ha, ← hbb]
    -- a + d = e + b + p
    have hsum : a + d = e + b + p := by omega
    have key : ∀ k, (mag * 2 ^ a ≤ k * 2 ^ e * 2 ^ b ↔ mag * 2 ^ p ≤ k * 2 ^ d) := by
      intro k
      have e1 : mag * 2 ^ a * 2 ^ d = mag * 2 ^ p * (2 ^ e * 2 ^ b) := by
        rw [Nat.mul_assoc, ← Nat.pow_add, hsum, Nat.mul_assoc, ← Nat.pow_add, ← Nat.pow_add]; congr 2; omega
      have e2 : k * 2 ^ e * 2 ^ b * 2 ^ d = k * 2 ^ d * (2 ^ e * 2 ^ b) := by ac_rfl
      rw [← Nat.mul_le_mul_right_iff (Nat.two_pow_pos d), e1, e2, Nat.mul_le_mul_right_iff (Nat.mul_pos (Nat.two_pow_pos e) (Nat.two_pow_pos b))]
    have key2 : ∀ k, (k * 2 ^ e * 2 ^ b ≤ mag * 2 ^ a ↔ k * 2 ^ d ≤ mag * 2 ^ p) := by
      intro k
      have e1 : mag * 2 ^ a * 2 ^ d = mag * 2 ^ p * (2 ^ e * 2 ^ b) := by
        rw [Nat.mul_assoc, ← Nat.pow_add, hsum, Nat.mul_assoc, ← Nat.pow_add, ← Nat.pow_add]; congr 2; omega
      have e2 : k * 2 ^ e * 2 ^ b * 2 ^ d = k * 2 ^ d * (2 ^ e * 2 ^ b) := by ac_rfl
      rw [← Nat.mul_le_mul_right_iff (Nat.two_pow_pos d), e1, e2, Nat.mul_le_mul_right_iff (Nat.mul_pos (Nat.two_pow_pos e) (Nat.two_pow_pos b))]
    have key3 : ∀ k, (2 * (mag * 2 ^ a) < (2 * k + 1) * 2 ^ e * 2 ^ b → 2 * (mag * 2 ^ p) < (2 * k + 1) * 2 ^ d) := by
      intro k hlt
      refine Nat.lt_of_not_le fun hge => ?_
      have e1 : mag * 2 ^ a * 2 ^ d = mag * 2 ^ p * (2 ^ e * 2 ^ b) := by
        rw [Nat.mul_assoc, ← Nat.pow_add, hsum, Nat.mul_assoc, ← Nat.pow_add, ← Nat.pow_add]; congr 2; omega
      have h5 := Nat.mul_lt_mul_of_pos_right hlt (Nat.two_pow_pos d)
      have h6 := Nat.mul_le_mul_right (2 ^ e * 2 ^ b) hge
      have e2 : (2 * k + 1) * 2 ^ e * 2 ^ b * 2 ^ d = (2 * k + 1) * 2 ^ d * (2 ^ e * 2 ^ b) := by ac_rfl
      rw [Nat.mul_assoc 2, e1, e2] at h5
      rw [Nat.mul_assoc 2] at h6
      omega
    -- the significand's bounds
    have hup : mag * 2 ^ p < 9007199254740992 * 2 ^ d := by
      have : mag * 2 ^ p < 2 ^ (g + 1) * 2 ^ p := Nat.mul_lt_mul_of_pos_right hhi (Nat.two_pow_pos p)
      rw [← Nat.pow_add] at this
      have h53 : (9007199254740992 : Nat) = 2 ^ 53 := by decide
      rw [h53, ← Nat.pow_add]
      exact Nat.lt_of_lt_of_le this (Nat.pow_le_pow_right (by omega) (by omega))
    have hdn : e = 0 ∨ 4503599627370496 * 2 ^ d ≤ mag * 2 ^ p := by
      by_cases h0 : e = 0
      · exact .inl h0
      · right
        have h52 : (4503599627370496 : Nat) = 2 ^ 52 := by decide
        rw [h52, ← Nat.pow_add]
        refine Nat.le_trans ?_ (Nat.mul_le_mul_right _ hlo)
        rw [← Nat.pow_add]
        exact Nat.pow_le_pow_right (by omega) (by omega)
    refine ⟨h1 _ (Nat.le_of_lt hup), ?_, fun k hk => h1 k ((key k).1 hk), fun k hk => h2 k ((key2 k).1 hk), fun k hk => h2' k (key3 k hk), ?_, ?_⟩
    · rcases hdn with h | h
      · exact .inl h
      · exact .inr (h2 _ h)
    · exact Nat.lt_of_not_le fun h => by have := (key2 _).1 h; omega
    · rcases hdn with h | h
      · exact .inl h
      · exact .inr ((key2 _).2 h)

theorem nearest_le {mag : Nat} {place : Int} {z : Nat} (hm : mag ≠ 0) (h : mag * 2 ^ (place + 1074).toNat ≤ U z * 2 ^ (-(place + 1074)).toNat) : double.nearest false mag place ≤ z := by
  obtain ⟨e, k, hn, hk, hek, h1, h2, h2', h3, h4⟩ := nearest_form mag place hm
  rw [hn]
  refine Nat.le_trans (Nat.min_le_left _ _) ?_
  refine Nat.le_of_not_lt fun hlt => ?_
  have hb := Nat.two_pow_pos (-(place + 1074)).toNat
  by_cases hk0 : k = 0
  · rcases hek with h | h
    · rw [hk0, h] at hlt; omega
    · omega
  · by_cases hk1 : e = 0 ∨ 4503599627370496 ≤ k - 1
    · have hz : z ≤ e * 4503599627370496 + (k - 1) := by omega
      have hU := U_le hz
      rw [U_at e (k - 1) (by omega) hk1] at hU
      have := h1 (k - 1) (Nat.le_trans h (Nat.mul_le_mul_right _ hU))
      omega
    · have hke : k = 4503599627370496 := by omega
      have hU := U_lt hlt
      rw [U_at e k hk hek, hke] at hU
      rcases h4 with h4 | h4
      · omega
      · have := Nat.mul_lt_mul_of_pos_right hU hb
        omega
theorem nearest_ge {mag : Nat} {place : Int} {z : Nat} (hm : mag ≠ 0) (hz : z ≤ INF) (h : U z * 2 ^ (-(place + 1074)).toNat ≤ mag * 2 ^ (place + 1074).toNat) : z ≤ double.nearest false mag place := by
  obtain ⟨e, k, hn, hk, hek, h1, h2, h2', h3, h4⟩ := nearest_form mag place hm
  rw [hn]
  refine Nat.le_min.2 ⟨?_, hz⟩
  refine Nat.le_of_not_lt fun hlt => ?_
  have hb := Nat.two_pow_pos (-(place + 1074)).toNat
  by_cases hk1 : k = 9007199254740992
  · have hU := U_lt hlt
    rw [U_at e k hk hek, hk1] at hU
    have := Nat.mul_lt_mul_of_pos_right hU hb
    omega
  · have hz : e * 4503599627370496 + (k + 1) ≤ z := by omega
    have hU := U_le hz
    rw [U_at e (k + 1) (by omega) (by omega)] at hU
    have := h2 (k + 1) (Nat.le_trans (Nat.mul_le_mul_right _ hU) h)
    omega
theorem nearest_mid {mag : Nat} {place : Int} {z : Nat} (hm : mag ≠ 0) (h : 2 * (mag * 2 ^ (place + 1074).toNat) < (U z + U (z + 1)) * 2 ^ (-(place + 1074)).toNat) : double.nearest false mag place ≤ z := by
  obtain ⟨e, k, hn, hk, hek, h1, h2, h2', h3, h4⟩ := nearest_form mag place hm
  rw [hn]
  refine Nat.le_trans (Nat.min_le_left _ _) ?_
  refine Nat.le_of_not_lt fun hlt => ?_
  have hb := Nat.two_pow_pos (-(place + 1074)).toNat
  by_cases hk0 : k = 0
  · rcases hek with h | h
    · rw [hk0, h] at hlt; omega
    · omega
  · by_cases hk1 : e = 0 ∨ 4503599627370496 ≤ k - 1
    · have hz : z ≤ e * 4503599627370496 + (k - 1) := by omega
      have hz' : z + 1 ≤ e * 4503599627370496 + k := by omega
      have hU := U_le hz
      have hU' := U_le hz'
      rw [U_at e (k - 1) (by omega) hk1] at hU
      rw [U_at e k hk hek] at hU'
      have hsum : U z + U (z + 1) ≤ (2 * (k - 1) + 1) * 2 ^ e := by
        have : (2 * (k - 1) + 1) * 2 ^ e = (k - 1) * 2 ^ e + k * 2 ^ e := by
          rw [← Nat.add_mul]; congr 1; omega
        omega
      have := h2' (k - 1) (Nat.lt_of_lt_of_le h (Nat.mul_le_mul_right _ hsum))
      omega
    · have hke : k = 4503599627370496 := by omega
      have hU := U_lt hlt
      have hU' := U_le (show z + 1 ≤ e * 4503599627370496 + k by omega)
      rw [U_at e k hk hek, hke] at hU hU'
      rcases h4 with h4 | h4
      · omega
      · have h5 : U z + U (z + 1) ≤ 4503599627370496 * 2 ^ e + 4503599627370496 * 2 ^ e := by omega
        have h6 := Nat.mul_le_mul_right (2 ^ (-(place + 1074)).toNat) h5
        rw [Nat.add_mul (4503599627370496 * 2 ^ e)] at h6
        omega
theorem nearest_zero (place : Int) : double.nearest false 0 place = 0 := by
  unfold Format.nearest Format.word; simp

theorem U_zero : U 0 = 0 := by unfold U mg pl; simp
theorem mg_pos {x : Nat} (h : 0 < x) : mg x ≠ 0 := by unfold mg; split <;> omega

/-- The order of two words. -/
theorem order_fin {x y : Nat} (hx : x < INF) (hy : y < INF) : double.order x y = some (compare x y) := by
  unfold Format.order
  rw [read_fin hx, read_fin hy]
  simp only [Datum.order, signed]
  obtain ⟨b, hb⟩ : ∃ b : Int, b = min (-1074 + (pl x : Int)) (-1074 + (pl y : Int)) := ⟨_, rfl⟩
  rw [← hb]
  obtain ⟨p, hp⟩ : ∃ p : Nat, b = -1074 + (p : Int) := ⟨min (pl x) (pl y), by omega⟩
  have e1 : (-1074 + (pl x : Int) - b).toNat = pl x - p := by omega
  have e2 : (-1074 + (pl y : Int) - b).toNat = pl y - p := by omega
  have l1 : p ≤ pl x := by omega
  have l2 : p ≤ pl y := by omega
  simp only [Bool.false_eq_true, if_false, e1, e2, Nat.shiftLeft_eq]
  have f1 : U x = mg x * 2 ^ (pl x - p) * 2 ^ p := by unfold U; rw [Nat.mul_assoc, ← Nat.pow_add, Nat.sub_add_cancel l1]
  have f2 : U y = mg y * 2 ^ (pl y - p) * 2 ^ p := by unfold U; rw [Nat.mul_assoc, ← Nat.pow_add, Nat.sub_add_cancel l2]
  have hpp := Nat.two_pow_pos p
  obtain ⟨A, hA⟩ : ∃ A, A = mg x * 2 ^ (pl x - p) := ⟨_, rfl⟩
  obtain ⟨B, hB⟩ : ∃ B, B = mg y * 2 ^ (pl y - p) := ⟨_, rfl⟩
  rw [← hA] at f1 ⊢
  rw [← hB] at f2 ⊢
  congr 1
  rcases Nat.lt_trichotomy x y with h | h | h
  · have := U_lt h
    rw [f1, f2] at this
    have hAB : A < B := Nat.lt_of_mul_lt_mul_right this
    rw [Nat.compare_eq_lt.2 h]
    exact Int.compare_eq_lt.2 (by omega)
  · have hAB : A = B := by
      have : A * 2 ^ p = B * 2 ^ p := by rw [← f1, ← f2, h]
      exact Nat.eq_of_mul_eq_mul_right hpp this
    rw [Nat.compare_eq_eq.2 h, hAB]
    exact Int.compare_eq_eq.2 rfl
  · have := U_lt h
    rw [f1, f2] at this
    have hAB : B < A := Nat.lt_of_mul_lt_mul_right this
    rw [Nat.compare_eq_gt.2 h]
    exact Int.compare_eq_gt.2 (by omega)

theorem add_fin {x y : Nat} (hx : x < INF) (hy : y < INF) : ∃ r, double.add x y = some r ∧ (∀ z, U x + U y ≤ U z → r ≤ z) ∧ (∀ z, z ≤ INF → U z ≤ U x + U y → z ≤ r) ∧ (∀ z, 2 * (U x + U y) < U z + U (z + 1) → r ≤ z) := by
  unfold Format.add
  rw [read_fin hx, read_fin hy]
  simp only [Datum.sum, signed]
  obtain ⟨b, hb⟩ : ∃ b : Int, b = min (-1074 + (pl x : Int)) (-1074 + (pl y : Int)) := ⟨_, rfl⟩
  rw [← hb]
  obtain ⟨p, hp⟩ : ∃ p : Nat, b = -1074 + (p : Int) := ⟨min (pl x) (pl y), by omega⟩
  have e1 : (-1074 + (pl x : Int) - b).toNat = pl x - p := by omega
  have e2 : (-1074 + (pl y : Int) - b).toNat = pl y - p := by omega
  have l1 : p ≤ pl x := by omega
  have l2 : p ≤ pl y := by omega
  simp only [Bool.false_eq_true, if_false, e1, e2, Nat.shiftLeft_eq, Option.map_some, Bool.and_self]
  have f1 : U x = mg x * 2 ^ (pl x - p) * 2 ^ p := by unfold U; rw [Nat.mul_assoc, ← Nat.pow_add, Nat.sub_add_cancel l1]
  have f2 : U y = mg y * 2 ^ (pl y - p) * 2 ^ p := by unfold U; rw [Nat.mul_assoc, ← Nat.pow_add, Nat.sub_add_cancel l2]
  obtain ⟨A, hA⟩ : ∃ A, A = mg x * 2 ^ (pl x - p) := ⟨_, rfl⟩
  obtain ⟨B, hB⟩ : ∃ B, B = mg y * 2 ^ (pl y - p) := ⟨_, rfl⟩
  rw [← hA] at f1 ⊢
  rw [← hB] at f2 ⊢
  have hneg : (if (A : Int) + (B : Int) = 0 then false else decide ((A : Int) + (B : Int) < 0)) = false := by
    split
    · rfl
    · simp; omega
  have habs : ((A : Int) + (B : Int)).natAbs = A + B := by omega
  rw [hneg, habs]
  refine ⟨_, rfl, ?_, ?_, ?_⟩
  · intro z hz
    show double.nearest false (A + B) b ≤ z
    rw [f1, f2, ← Nat.add_mul] at hz
    by_cases h0 : A + B = 0
    · rw [h0, nearest_zero]; omega
    · refine nearest_le h0 ?_
      have a1 : (b + 1074).toNat = p := by omega
      have a2 : (-(b + 1074)).toNat = 0 := by omega
      rw [a1, a2, Nat.pow_zero, Nat.mul_one]; exact hz
  · intro z hzi hz
    show z ≤ double.nearest false (A + B) b
    rw [f1, f2, ← Nat.add_mul] at hz
    by_cases h0 : A + B = 0
    · rw [h0, Nat.zero_mul] at hz
      have : z ≤ 0 := U_le_iff.1 (by rw [U_zero]; exact hz)
      rw [h0, nearest_zero]; exact this
    · refine nearest_ge h0 hzi ?_
      have a1 : (b + 1074).toNat = p := by omega
      have a2 : (-(b + 1074)).toNat = 0 := by omega
      rw [a1, a2, Nat.pow_zero, Nat.mul_one]; exact hz
  · intro z hz
    show double.nearest false (A + B) b ≤ z
    rw [f1, f2, ← Nat.add_mul] at hz
    by_cases h0 : A + B = 0
    · rw [h0, nearest_zero]; omega
    · refine nearest_mid h0 ?_
      have a1 : (b + 1074).toNat = p := by omega
      have a2 : (-(b + 1074)).toNat = 0 := by omega
      rw [a1, a2, Nat.pow_zero, Nat.mul_one]; exact hz

theorem mul_fin {x y : Nat} (hx : x < INF) (hy : y < INF) : ∃ r, double.mul x y = some r ∧ (∀ z, U x * U y ≤ U z * 2 ^ 1074 → r ≤ z) ∧ (∀ z, z ≤ INF → U z * 2 ^ 1074 ≤ U x * U y → z ≤ r) := by
  unfold Format.mul
  rw [read_fin hx, read_fin hy]
  simp only [Datum.product, Option.map_some, Bool.xor_false]
  obtain ⟨E, hE, hE0, hEp⟩ : ∃ E : Nat, (∀ a, 2 ^ (a + 1074) = 2 ^ a * E) ∧ 0 < E ∧ E = 2 ^ 1074 := ⟨2 ^ 1074, fun a => Nat.pow_add 2 a 1074, Nat.two_pow_pos 1074, rfl⟩
  rw [← hEp]
  clear hEp
  refine ⟨_, rfl, ?_, ?_⟩
  all_goals
    intro z
  · intro hz
    show double.nearest false (mg x * mg y) _ ≤ z
    by_cases h0 : mg x * mg y = 0
    · rw [h0, nearest_zero]; omega
    · refine nearest_le h0 ?_
      obtain ⟨a, ha⟩ : ∃ a, a = (-1074 + (pl x : Int) + (-1074 + (pl y : Int)) + 1074).toNat := ⟨_, rfl⟩
      obtain ⟨b, hb⟩ : ∃ b, b = (-(-1074 + (pl x : Int) + (-1074 + (pl y : Int)) + 1074)).toNat := ⟨_, rfl⟩
      rw [← ha, ← hb]
      have hs : a + 1074 = pl x + pl y + b := by omega
      unfold U at hz
      unfold U
      refine Nat.le_of_mul_le_mul_right (c := E) ?_ hE0
      have e1 : mg x * mg y * 2 ^ a * E = mg x * 2 ^ pl x * (mg y * 2 ^ pl y) * 2 ^ b := by
        rw [Nat.mul_assoc (mg x * mg y), ← hE, hs, Nat.pow_add, Nat.pow_add]; ac_rfl
      have e2 : mg z * 2 ^ pl z * 2 ^ b * E = mg z * 2 ^ pl z * E * 2 ^ b := by ac_rfl
      rw [e1, e2]
      exact Nat.mul_le_mul_right _ hz
  · intro hzi hz
    show z ≤ double.nearest false (mg x * mg y) _
    by_cases h0 : mg x * mg y = 0
    · have : U x * U y = 0 := by
        unfold U
        have : mg x * 2 ^ pl x * (mg y * 2 ^ pl y) = mg x * mg y * (2 ^ pl x * 2 ^ pl y) := by ac_rfl
        rw [this, h0, Nat.zero_mul]
      rw [this] at hz
      have hz0 : U z = 0 := by
        rcases Nat.eq_zero_or_pos (U z) with h | h
        · exact h
        · have := Nat.mul_pos h hE0; omega
      have : z ≤ 0 := U_le_iff.1 (by rw [hz0]; omega)
      rw [h0, nearest_zero]; exact this
    · refine nearest_ge h0 hzi ?_
      obtain ⟨a, ha⟩ : ∃ a, a = (-1074 + (pl x : Int) + (-1074 + (pl y : Int)) + 1074).toNat := ⟨_, rfl⟩
      obtain ⟨b, hb⟩ : ∃ b, b = (-(-1074 + (pl x : Int) + (-1074 + (pl y : Int)) + 1074)).toNat := ⟨_, rfl⟩
      rw [← ha, ← hb]
      have hs : a + 1074 = pl x + pl y + b := by omega
      unfold U at hz
      unfold U
      refine Nat.le_of_mul_le_mul_right (c := E) ?_ hE0
      have e1 : mg x * mg y * 2 ^ a * E = mg x * 2 ^ pl x * (mg y * 2 ^ pl y) * 2 ^ b := by
        rw [Nat.mul_assoc (mg x * mg y), ← hE, hs, Nat.pow_add, Nat.pow_add]; ac_rfl
      have e2 : mg z * 2 ^ pl z * 2 ^ b * E = mg z * 2 ^ pl z * E * 2 ^ b := by ac_rfl
      rw [e1, e2]
      exact Nat.mul_le_mul_right _ hz

def FADE : Nat := 4606732058837280358
/-- A quotient by 0.95: at least the dividend, at most twice it. -/
theorem div_fade {x : Nat} (hx : x < INF) (h0 : 0 < x) : ∃ r, double.div x FADE = some r ∧ (∀ z, 2 * U x ≤ U z → r ≤ z) ∧ x ≤ r := by
  have hF : double.read FADE = .number false 8556839292003942 (-53) := by decide
  have hm0 := mg_pos h0
  unfold Format.div
  rw [read_fin hx, hF]
  have hfb : double.fractionBits + 2 = 54 := rfl
  have hlog : Nat.log2 8556839292003942 = 52 := by decide
  simp only [Datum.quotient, hfb, hlog]
  rw [if_neg (by decide)]
  obtain ⟨g, hg⟩ : ∃ g, g = (mg x).log2 := ⟨_, rfl⟩
  have hlo : 2 ^ g ≤ mg x := by rw [hg]; exact Nat.log2_self_le hm0
  have hg52 : g ≤ 52 := by
    have : mg x < 2 ^ 53 := by unfold mg; split <;> omega
    have := (Nat.pow_lt_pow_iff_right (a := 2) (by omega)).1 (Nat.lt_of_le_of_lt hlo this)
    omega
  rw [← hg]
  obtain ⟨more, hmore⟩ : ∃ more, more = 54 + 52 - g := ⟨_, rfl⟩
  rw [← hmore, Nat.shiftLeft_eq]
  obtain ⟨M, hM⟩ : ∃ M, M = mg x * 2 ^ more := ⟨_, rfl⟩
  have hMbig : 81129638414606681695789005144064 ≤ M := by
    rw [hM]
    refine Nat.le_trans ?_ (Nat.mul_le_mul_right _ hlo)
    rw [← Nat.pow_add]
    have : g + more = 106 := by omega
    rw [this]
    decide
  rw [← hM]
  obtain ⟨t, ht⟩ : ∃ t, t = 2 * (M / 8556839292003942) + (M % 8556839292003942 != 0).toNat := ⟨_, rfl⟩
  rw [← ht]
  have ht1 : t ≤ 2 * (M / 8556839292003942) + 1 := by
    have : (M % 8556839292003942 != 0).toNat ≤ 1 := Bool.toNat_le _
    omega
  have ht2 : 2 * (M / 8556839292003942) ≤ t := by omega
  have ht0 : t ≠ 0 := by omega
  have hA : M ≤ t * 4503599627370496 := by omega
  have hB : t * 4503599627370496 ≤ 2 * M := by omega
  obtain ⟨a, ha⟩ : ∃ a, a = (-1074 + (pl x : Int) - -53 - (more : Int) - 1 + 1074).toNat := ⟨_, rfl⟩
  obtain ⟨b, hb⟩ : ∃ b, b = (-(-1074 + (pl x : Int) - -53 - (more : Int) - 1 + 1074)).toNat := ⟨_, rfl⟩
  have hs : a + more = pl x + 52 + b := by omega
  have h52 : (4503599627370496 : Nat) = 2 ^ 52 := by decide
  have hpos : 0 < 2 ^ more := Nat.two_pow_pos more
  have e3 : mg x * 2 ^ pl x * 2 ^ b * 2 ^ more = M * (2 ^ pl x * 2 ^ b) := by rw [hM]; ac_rfl
  have e4 : t * 2 ^ a * 2 ^ more = t * 4503599627370496 * (2 ^ pl x * 2 ^ b) := by
    rw [Nat.mul_assoc, ← Nat.pow_add, hs, h52, Nat.pow_add, Nat.pow_add]; ac_rfl
  refine ⟨_, rfl, ?_, ?_⟩
  · intro z hz
    show double.nearest false t _ ≤ z
    refine nearest_le ht0 ?_
    rw [← ha, ← hb]
    refine Nat.le_trans ?_ (Nat.mul_le_mul_right (2 ^ b) hz)
    unfold U
    refine Nat.le_of_mul_le_mul_right (c := 2 ^ more) ?_ hpos
    rw [e4]
    have e5 : 2 * (mg x * 2 ^ pl x) * 2 ^ b * 2 ^ more = 2 * M * (2 ^ pl x * 2 ^ b) := by rw [hM]; ac_rfl
    rw [e5]
    exact Nat.mul_le_mul_right _ hB
  · show x ≤ double.nearest false t _
    refine nearest_ge ht0 (Nat.le_of_lt hx) ?_
    rw [← ha, ← hb]
    unfold U
    refine Nat.le_of_mul_le_mul_right (c := 2 ^ more) ?_ hpos
    rw [e3, e4]
    exact Nat.mul_le_mul_right _ hA
end Flt
end Go.Proofs.Ytldgeclcbikmbaa
