/- Plain facts on the plain texts (parts six to ten): the law answers true; no conditions. -/
import Derived.Test.YtdkejaijokbinaaGreatDoorPlainA
set_option linter.all false

section
namespace Vm.Fu
open Go

def leapN (y : Nat) : Bool := Nat.beq (y % 4) 0 && (!(Nat.beq (y % 100) 0) || Nat.beq (y % 400) 0)
def mlen (y m : Nat) : Nat := match m with
  | 1 => 31 | 2 => bif leapN y then 29 else 28 | 3 => 31 | 4 => 30 | 5 => 31 | 6 => 30 | 7 => 31 | 8 => 31 | 9 => 30 | 10 => 31 | 11 => 30 | 12 => 31 | _ => 0
/-- Days ahead of a month in its year. -/
def mstart (y : Nat) : Nat → Nat
  | 0 => 0
  | 1 => 0
  | m + 2 => mstart y (m + 1) + mlen y (m + 1)
/-- Days ahead of a year, from year 1 on. -/
def ystart (y : Nat) : Nat := 365 * (y - 1) + (y - 1) / 4 - (y - 1) / 100 + (y - 1) / 400

def civY (d : Nat) : Nat := (d - d / 1460 + d / 36524 - d / 146096) / 365
def civD (d : Nat) : Nat := d - (365 * civY d + civY d / 4 - civY d / 100)
def civM (d : Nat) : Nat := (5 * civD d + 2) / 153

/-- A number is reckoned once. -/
def force (x : Nat) (f : Nat → Bool) : Bool := match x with
  | 0 => f 0
  | n + 1 => f (n + 1)
theorem force_eq (x : Nat) (f : Nat → Bool) : force x f = f x := by cases x <;> rfl

def mcum : Nat → Nat
  | 1 => 0 | 2 => 31 | 3 => 59 | 4 => 90 | 5 => 120 | 6 => 151 | 7 => 181 | 8 => 212 | 9 => 243 | 10 => 273 | 11 => 304 | 12 => 334 | _ => 0

/-- What is asked of the day of 400 years and the number of such years. -/
def civOk (e d : Nat) : Bool :=
  force ((d - d / 1460 + d / 36524 - d / 146096) / 365) fun y =>
  force (365 * y + y / 4 - y / 100) fun s =>
  Nat.ble s d && (force (d - s) fun k =>
  force ((5 * k + 2) / 153) fun m =>
  force ((153 * m + 2) / 5) fun t =>
  Nat.ble t k && (force (400 * e + y + m / 10) fun Y =>
  force ((m + 2) % 12 + 1) fun M =>
  Nat.ble 1 Y && Nat.ble Y 9999 && Nat.ble (k - t + 1) (mlen Y M) && Nat.beq (146097 * e + d) (306 + ystart Y + (mcum M + (bif leapN Y && Nat.ble 3 M then 1 else 0)) + (k - t))))

/-- All numbers from one on, so many times two. -/
def allB (p : Nat → Bool) : Nat → Nat → Bool
  | 0, a => p a
  | n + 1, a => allB p n a && allB p n (a + 2 ^ n)

theorem allB_sound {p : Nat → Bool} : ∀ {n a : Nat}, allB p n a = true → ∀ i, a ≤ i → i < a + 2 ^ n → p i = true
  | 0, a, h, i, h1, h2 => by
    have : i = a := by omega
    subst this; exact h
  | n + 1, a, h, i, h1, h2 => by
    simp only [allB, Bool.and_eq_true] at h
    rcases Nat.lt_or_ge i (a + 2 ^ n) with h' | h'
    · exact allB_sound h.1 i h1 h'
    · exact allB_sound h.2 i h' (by rw [Nat.pow_succ] at h2; omega)

/-- From 1823 to 2116. -/
def civAt (at' : Nat) : Bool := Nat.ble 772900 at' || civOk (at' / 146097) (at' % 146097)
theorem civ_0 : allB civAt 13 666000 = true := by kernel_rfl
theorem civ_1 : allB civAt 13 674192 = true := by kernel_rfl
theorem civ_2 : allB civAt 13 682384 = true := by kernel_rfl
theorem civ_3 : allB civAt 13 690576 = true := by kernel_rfl
theorem civ_4 : allB civAt 13 698768 = true := by kernel_rfl
theorem civ_5 : allB civAt 13 706960 = true := by kernel_rfl
theorem civ_6 : allB civAt 13 715152 = true := by kernel_rfl
theorem civ_7 : allB civAt 13 723344 = true := by kernel_rfl
theorem civ_8 : allB civAt 13 731536 = true := by kernel_rfl
theorem civ_9 : allB civAt 13 739728 = true := by kernel_rfl
theorem civ_10 : allB civAt 13 747920 = true := by kernel_rfl
theorem civ_11 : allB civAt 13 756112 = true := by kernel_rfl
theorem civ_12 : allB civAt 13 764304 = true := by kernel_rfl
theorem civ_13 : allB civAt 13 772496 = true := by kernel_rfl

theorem civ_any (a : Nat) (h1 : 666000 ≤ a) (h2 : a < 772900) : civOk (a / 146097) (a % 146097) = true := by
  have key : civAt a = true := by
    rcases Nat.lt_or_ge a 674192 with h | h
    · exact allB_sound civ_0 a (by omega) (by omega)
    rcases Nat.lt_or_ge a 682384 with h | h
    · exact allB_sound civ_1 a (by omega) (by omega)
    rcases Nat.lt_or_ge a 690576 with h | h
    · exact allB_sound civ_2 a (by omega) (by omega)
    rcases Nat.lt_or_ge a 698768 with h | h
    · exact allB_sound civ_3 a (by omega) (by omega)
    rcases Nat.lt_or_ge a 706960 with h | h
    · exact allB_sound civ_4 a (by omega) (by omega)
    rcases Nat.lt_or_ge a 715152 with h | h
    · exact allB_sound civ_5 a (by omega) (by omega)
    rcases Nat.lt_or_ge a 723344 with h | h
    · exact allB_sound civ_6 a (by omega) (by omega)
    rcases Nat.lt_or_ge a 731536 with h | h
    · exact allB_sound civ_7 a (by omega) (by omega)
    rcases Nat.lt_or_ge a 739728 with h | h
    · exact allB_sound civ_8 a (by omega) (by omega)
    rcases Nat.lt_or_ge a 747920 with h | h
    · exact allB_sound civ_9 a (by omega) (by omega)
    rcases Nat.lt_or_ge a 756112 with h | h
    · exact allB_sound civ_10 a (by omega) (by omega)
    rcases Nat.lt_or_ge a 764304 with h | h
    · exact allB_sound civ_11 a (by omega) (by omega)
    rcases Nat.lt_or_ge a 772496 with h | h
    · exact allB_sound civ_12 a (by omega) (by omega)
    rcases Nat.lt_or_ge a 780688 with h | h
    · exact allB_sound civ_13 a (by omega) (by omega)
    omega
  unfold civAt at key
  have : Nat.ble 772900 a = false := by
    cases h : Nat.ble 772900 a with
    | false => rfl
    | true => have := Nat.le_of_ble_eq_true h; omega
  rw [this] at key
  simpa using key

end Vm.Fu
end

section
namespace Vm.Fu
open Go

theorem leap_mod (y : Nat) : (Int.tmod (y : Int) 4 == 0) = Nat.beq (y % 4) 0 ∧ (Int.tmod (y : Int) 100 == 0) = Nat.beq (y % 100) 0 ∧ (Int.tmod (y : Int) 400 == 0) = Nat.beq (y % 400) 0 := by
  have e : ∀ k : Nat, (Int.tmod (y : Int) (k : Int) == 0) = Nat.beq (y % k) 0 := by
    intro k
    rw [← Int.ofNat_tmod]
    rw [Bool.eq_iff_iff, Nat.beq_eq]
    simp only [beq_iff_eq]
    omega
  exact ⟨e 4, e 100, e 400⟩

theorem civil_Leap_eq (y : Nat) : civil_Leap (y : Int) = some (leapN y) := by
  unfold civil_Leap leapN
  obtain ⟨h1, h2, h3⟩ := leap_mod y
  simp only [bne, h1, h2, h3]
  cases Nat.beq (y % 4) 0 <;> cases Nat.beq (y % 100) 0 <;> simp

theorem ref07_Leap_eq (y : Nat) : fuseeref07_Leap (y : Int) = some (leapN y) := by
  unfold fuseeref07_Leap leapN
  obtain ⟨h1, h2, h3⟩ := leap_mod y
  simp only [bne, h1, h2, h3]
  cases h4 : Nat.beq (y % 4) 0 <;> cases h5 : Nat.beq (y % 100) 0 <;> cases h6 : Nat.beq (y % 400) 0 <;> simp
  · have h6 := Nat.eq_of_beq_eq_true h6
    have : Nat.beq (y % 4) 0 = true := by rw [show y % 4 = 0 by omega]; rfl
    rw [h4] at this; cases this
  · have h6 := Nat.eq_of_beq_eq_true h6
    have : Nat.beq (y % 4) 0 = true := by rw [show y % 4 = 0 by omega]; rfl
    rw [h4] at this; cases this

theorem civil_Month_eq (y m : Nat) (h1 : 1 ≤ m) (h2 : m ≤ 12) : civil_Month (y : Int) (m : Int) = some ((mlen y m : Nat) : Int) := by
  have hm : m = 1 ∨ m = 2 ∨ m = 3 ∨ m = 4 ∨ m = 5 ∨ m = 6 ∨ m = 7 ∨ m = 8 ∨ m = 9 ∨ m = 10 ∨ m = 11 ∨ m = 12 := by omega
  unfold civil_Month
  rw [civil_Leap_eq]
  rcases hm with rfl | rfl | rfl | rfl | rfl | rfl | rfl | rfl | rfl | rfl | rfl | rfl <;> first | rfl | (unfold mlen; cases leapN y <;> rfl)

theorem ref07_Month_eq (y m : Nat) (h1 : 1 ≤ m) (h2 : m ≤ 12) : fuseeref07_Month (y : Int) (m : Int) = some ((mlen y m : Nat) : Int) := by
  have hm : m = 1 ∨ m = 2 ∨ m = 3 ∨ m = 4 ∨ m = 5 ∨ m = 6 ∨ m = 7 ∨ m = 8 ∨ m = 9 ∨ m = 10 ∨ m = 11 ∨ m = 12 := by omega
  unfold fuseeref07_Month
  rw [ref07_Leap_eq]
  rcases hm with rfl | rfl | rfl | rfl | rfl | rfl | rfl | rfl | rfl | rfl | rfl | rfl <;> first | rfl | (unfold mlen; cases leapN y <;> rfl)

/-- A date that may be, and its day. -/
structure IsDay (n : Int) (Y M D : Nat) : Prop where
  y1 : 1 ≤ Y
  y2 : Y ≤ 9999
  m1 : 1 ≤ M
  m2 : M ≤ 12
  d1 : 1 ≤ D
  d2 : D ≤ mlen Y M
  at' : n + 719162 = ((ystart Y + (mcum M + (bif leapN Y && Nat.ble 3 M then 1 else 0)) + (D - 1) : Nat) : Int)

theorem mlen_le (Y M : Nat) : mlen Y M ≤ 31 := by
  unfold mlen
  split <;> first | omega | (cases leapN Y <;> simp)

theorem civil_Check_eq {n : Int} {Y M D : Nat} (h : IsDay n Y M D) : civil_Check ⟨(Y : Int), (M : Int), (D : Int)⟩ = some none := by
  unfold civil_Check
  have a1 := h.y1; have a2 := h.y2; have a3 := h.d1; have a4 := h.d2
  rw [civil_Month_eq Y M h.m1 h.m2]
  have c1 : ¬ (Y : Int) < 1 := by omega
  have c2 : ¬ (Y : Int) > 9999 := by omega
  have c3 : ¬ (D : Int) < 1 := by omega
  have c4 : ¬ (D : Int) > ((mlen Y M : Nat) : Int) := by omega
  simp only [c1, c2, c3, c4, decide_false, cond_false]

/-! wraps of small numbers -/
theorem wdiv (x c : Nat) (h : x ≤ 9223372036854775807) : wi64 (Int.tdiv (x : Int) (c : Int)) = ((x / c : Nat) : Int) := by
  rw [← Int.ofNat_tdiv]
  have := Nat.div_le_self x c
  generalize x / c = q at *
  exact wi64_id (by omega)
theorem wmod (x c : Nat) : Int.tmod (x : Int) (c : Int) = ((x % c : Nat) : Int) := (Int.ofNat_tmod x c).symm
theorem wadd (x y : Nat) (h : x + y ≤ 9223372036854775807) : wi64 ((x : Int) + (y : Int)) = ((x + y : Nat) : Int) := by
  rw [wi64_id (by omega)]; omega
theorem wsub (x y : Nat) (h : y ≤ x) (h2 : x ≤ 9223372036854775807) : wi64 ((x : Int) - (y : Int)) = ((x - y : Nat) : Int) := by
  rw [wi64_id (by omega)]; omega
theorem wmul (x y : Nat) (h : x * y ≤ 9223372036854775807) : wi64 ((x : Int) * (y : Int)) = ((x * y : Nat) : Int) := by
  rw [← Int.natCast_mul]; exact wi64_id (by omega)

theorem civil_arith (e d y s k m t Y M : Nat) (hd : d < 146097) (hel : e ≤ 10) (hy : (d - d / 1460 + d / 36524 - d / 146096) / 365 = y) (hs : 365 * y + y / 4 - y / 100 = s) (hk : d - s = k)
    (hm : (5 * k + 2) / 153 = m) (ht : (153 * m + 2) / 5 = t) (hY : 400 * e + y + m / 10 = Y) (hM : (m + 2) % 12 + 1 = M) (c1 : s ≤ d) (c2 : t ≤ k) :
    let v3 := wi64 (Int.tdiv (wi64 (wi64 (wi64 ((d : Int) - wi64 (Int.tdiv (d : Int) (1460 : Int))) + wi64 (Int.tdiv (d : Int) (36524 : Int))) - wi64 (Int.tdiv (d : Int) (146096 : Int)))) (365 : Int))
    let v4 := wi64 ((d : Int) - wi64 (wi64 (wi64 ((365 : Int) * v3) + wi64 (Int.tdiv v3 (4 : Int))) - wi64 (Int.tdiv v3 (100 : Int))))
    let v5 := wi64 (Int.tdiv (wi64 (wi64 ((5 : Int) * v4) + (2 : Int))) (153 : Int))
    wi64 (wi64 (wi64 ((400 : Int) * (e : Int)) + v3) + wi64 (Int.tdiv v5 (10 : Int))) = (Y : Int) ∧ wi64 (Int.tmod (wi64 (v5 + (2 : Int))) (12 : Int) + (1 : Int)) = (M : Int) ∧
      wi64 (wi64 (v4 - wi64 (Int.tdiv (wi64 (wi64 ((153 : Int) * v5) + (2 : Int))) (5 : Int))) + (1 : Int)) = ((k - t + 1 : Nat) : Int) := by
  have b1 := Nat.div_le_self d 1460
  have b2 := Nat.div_le_self d 36524
  have b3 : d / 146096 ≤ 1 := by omega
  have b3' : d / 146096 ≤ d - d / 1460 := by
    rcases Nat.lt_or_ge d 146096 with h | h
    · rw [Nat.div_eq_of_lt h]; omega
    · have : d = 146096 := by omega
      subst this; decide
  have t1 := wdiv d 1460 (by omega)
  have t2 := wdiv d 36524 (by omega)
  have t3 := wdiv d 146096 (by omega)
  have t4 := wsub d (d / 1460) b1 (by omega)
  have t5 := wadd (d - d / 1460) (d / 36524) (by omega)
  have t6 := wsub (d - d / 1460 + d / 36524) (d / 146096) (by omega) (by omega)
  have t7 := wdiv (d - d / 1460 + d / 36524 - d / 146096) 365 (by omega)
  rw [hy] at t7
  have yl : y ≤ 293000 := by
    rw [← hy]
    have := Nat.div_le_self (d - d / 1460 + d / 36524 - d / 146096) 365
    omega
  intro v3 v4 v5
  have e3 : v3 = (y : Int) := by
    show wi64 (Int.tdiv (wi64 (wi64 (wi64 ((d : Int) - wi64 (Int.tdiv (d : Int) ((1460 : Nat) : Int))) + wi64 (Int.tdiv (d : Int) ((36524 : Nat) : Int))) - wi64 (Int.tdiv (d : Int) ((146096 : Nat) : Int)))) ((365 : Nat) : Int)) = _
    rw [t1, t2, t3, t4, t5, t6, t7]
  clear_value v3
  subst e3
  clear t1 t2 t3 t4 t5 t6 t7 b1 b2 b3 b3' hy
  have f1 := Nat.div_le_self y 4
  have f2 := Nat.div_le_self y 100
  have u0 := wmul 365 y (by omega)
  have u1 := wdiv y 4 (by omega)
  have u2 := wdiv y 100 (by omega)
  have u3 := wadd (365 * y) (y / 4) (by omega)
  have u4 := wsub (365 * y + y / 4) (y / 100) (by omega) (by omega)
  rw [hs] at u4
  have u5 := wsub d s c1 (by omega)
  rw [hk] at u5
  have e4 : v4 = (k : Int) := by
    show wi64 ((d : Int) - wi64 (wi64 (wi64 (((365 : Nat) : Int) * (y : Int)) + wi64 (Int.tdiv (y : Int) ((4 : Nat) : Int))) - wi64 (Int.tdiv (y : Int) ((100 : Nat) : Int)))) = _
    rw [u0, u1, u2, u3, u4, u5]
  clear_value v4
  subst e4
  have kl : k ≤ 146097 := by omega
  clear u0 u1 u2 u3 u4 u5 f1 f2 hs
  have w0 := wmul 5 k (by omega)
  have w1 := wadd (5 * k) 2 (by omega)
  have w2 := wdiv (5 * k + 2) 153 (by omega)
  rw [hm] at w2
  have ml : m ≤ 730500 := by
    rw [← hm]
    have := Nat.div_le_self (5 * k + 2) 153
    omega
  have e5 : v5 = (m : Int) := by
    show wi64 (Int.tdiv (wi64 (wi64 (((5 : Nat) : Int) * (k : Int)) + ((2 : Nat) : Int))) ((153 : Nat) : Int)) = _
    rw [w0, w1, w2]
  clear_value v5
  subst e5
  clear w0 w1 w2 hm
  have f3 := Nat.div_le_self m 10
  refine ⟨?_, ?_, ?_⟩
  · have x0 := wmul 400 e (by omega)
    have x1 := wadd (400 * e) y (by omega)
    have x2 := wdiv m 10 (by omega)
    have x3 := wadd (400 * e + y) (m / 10) (by omega)
    rw [hY] at x3
    show wi64 (wi64 (wi64 (((400 : Nat) : Int) * (e : Int)) + (y : Int)) + wi64 (Int.tdiv (m : Int) ((10 : Nat) : Int))) = _
    rw [x0, x1, x2, x3]
  · have x0 := wadd m 2 (by omega)
    have x1 := wmod (m + 2) 12
    have f4 : (m + 2) % 12 < 12 := Nat.mod_lt _ (by omega)
    have x2 := wadd ((m + 2) % 12) 1 (by omega)
    rw [hM] at x2
    show wi64 (Int.tmod (wi64 ((m : Int) + ((2 : Nat) : Int))) ((12 : Nat) : Int) + ((1 : Nat) : Int)) = _
    rw [x0, x1, x2]
  · have x0 := wmul 153 m (by omega)
    have x1 := wadd (153 * m) 2 (by omega)
    have x2 := wdiv (153 * m + 2) 5 (by omega)
    rw [ht] at x2
    have x3 := wsub k t c2 (by omega)
    have x4 := wadd (k - t) 1 (by omega)
    show wi64 (wi64 ((k : Int) - wi64 (Int.tdiv (wi64 (wi64 (((153 : Nat) : Int) * (m : Int)) + ((2 : Nat) : Int))) ((5 : Nat) : Int))) + ((1 : Nat) : Int)) = _
    rw [x0, x1, x2, x3, x4]

theorem civil_Of_eq (n : Int) (h1 : -53400 ≤ n) (h2 : n ≤ 53400) : ∃ Y M D : Nat, IsDay n Y M D ∧ civil_Of n = some (⟨(Y : Int), (M : Int), (D : Int)⟩, none) := by
  obtain ⟨a, ha⟩ : ∃ a : Nat, n + 719468 = (a : Int) := ⟨(n + 719468).toNat, by omega⟩
  have hok := civ_any a (by omega) (by omega)
  have e1 : (n + 719468) / 146097 = ((a / 146097 : Nat) : Int) := by omega
  have e2 : (n + 719468) % 146097 = ((a % 146097 : Nat) : Int) := by omega
  have hel : a / 146097 ≤ 10 := by omega
  have hd : a % 146097 < 146097 := Nat.mod_lt _ (by omega)
  have hedp : a = 146097 * (a / 146097) + a % 146097 := by omega
  unfold civOk at hok
  simp only [force_eq] at hok
  generalize a / 146097 = e at *
  generalize a % 146097 = d at *
  generalize hy : (d - d / 1460 + d / 36524 - d / 146096) / 365 = y at hok
  generalize hs : 365 * y + y / 4 - y / 100 = s at hok
  generalize hk : d - s = k at hok
  generalize hm : (5 * k + 2) / 153 = m at hok
  generalize ht : (153 * m + 2) / 5 = t at hok
  generalize hY : 400 * e + y + m / 10 = Y at hok
  generalize hM : (m + 2) % 12 + 1 = M at hok
  simp only [Bool.and_eq_true] at hok
  obtain ⟨c1, c2, ⟨⟨⟨c3, c4⟩, c5⟩, c6⟩⟩ := hok
  have c1 := Nat.le_of_ble_eq_true c1
  have c2 := Nat.le_of_ble_eq_true c2
  have c3 := Nat.le_of_ble_eq_true c3
  have c4 := Nat.le_of_ble_eq_true c4
  have c5 := Nat.le_of_ble_eq_true c5
  have c6 := Nat.eq_of_beq_eq_true c6
  obtain ⟨x1, x2, x3⟩ := civil_arith e d y s k m t Y M hd hel hy hs hk hm ht hY hM c1 c2
  have hM1 : 1 ≤ M := by rw [← hM]; exact Nat.le_add_left _ _
  have hM2 : M ≤ 12 := by rw [← hM]; have := Nat.mod_lt (m + 2) (show 0 < 12 by omega); omega
  clear hy hs hk hm ht hY hM
  have hday : IsDay n Y M (k - t + 1) := ⟨c3, c4, hM1, hM2, by omega, c5, by rw [Nat.add_sub_cancel]; omega⟩
  refine ⟨Y, M, k - t + 1, hday, ?_⟩
  have hchk := civil_Check_eq hday
  unfold civil_Of
  rw [num_Add_eq (by omega) (by omega)]
  rw [if_pos (by omega)]
  simp only [Option.isNone_none, Bool.not_true, cond_false]
  rw [num_Div_eq (by omega) (by omega) (by omega), e1, e2]
  have g9 : ¬ (e : Int) > 9999 := by omega
  simp only [Option.isNone_none, Bool.not_true, cond_false, g9, decide_false]
  simp only [x1, x2, x3, hchk, Option.isNone_none, Bool.not_true, cond_false]

/-! the reference: year by year, month by month -/

theorem succ_div' (z k : Nat) (hk : 0 < k) : (z + 1) / k = z / k + (bif Nat.beq ((z + 1) % k) 0 then 1 else 0) := by
  rw [Nat.succ_div]
  by_cases h : k ∣ z + 1
  · have : (z + 1) % k = 0 := Nat.mod_eq_zero_of_dvd h
    rw [if_pos h, this]; rfl
  · have : ¬ (z + 1) % k = 0 := fun e => h (Nat.dvd_of_mod_eq_zero e)
    have : Nat.beq ((z + 1) % k) 0 = false := by
      cases hb : Nat.beq ((z + 1) % k) 0 with
      | false => rfl
      | true => exact absurd (Nat.eq_of_beq_eq_true hb) this
    rw [if_neg h, this]; rfl

theorem ystart_succ (y : Nat) (h : 1 ≤ y) : ystart (y + 1) = ystart y + (bif leapN y then 366 else 365) := by
  obtain ⟨z, rfl⟩ : ∃ z, y = z + 1 := ⟨y - 1, by omega⟩
  unfold ystart leapN
  simp only [Nat.add_sub_cancel]
  rw [succ_div' z 4 (by omega), succ_div' z 100 (by omega), succ_div' z 400 (by omega)]
  have d1 : (z + 1) % 100 = 0 → (z + 1) % 4 = 0 := by omega
  have d2 : (z + 1) % 400 = 0 → (z + 1) % 100 = 0 := by omega
  have hb := Nat.div_le_self z 100
  generalize z / 4 = a
  generalize z / 100 = b at *
  generalize z / 400 = c
  generalize (z + 1) % 4 = p at *
  generalize (z + 1) % 100 = q at *
  generalize (z + 1) % 400 = r at *
  cases h4 : Nat.beq p 0 with
  | false =>
    have n4 := Nat.ne_of_beq_eq_false h4
    have h5 : Nat.beq q 0 = false := by
      cases h5 : Nat.beq q 0 with
      | false => rfl
      | true => exact absurd (d1 (Nat.eq_of_beq_eq_true h5)) n4
    have h6 : Nat.beq r 0 = false := by
      cases h6 : Nat.beq r 0 with
      | false => rfl
      | true => exact absurd (d1 (d2 (Nat.eq_of_beq_eq_true h6))) n4
    rw [h5, h6]
    simp only [Bool.false_and, cond_false]
    omega
  | true =>
    cases h5 : Nat.beq q 0 with
    | false =>
      have n5 := Nat.ne_of_beq_eq_false h5
      have h6 : Nat.beq r 0 = false := by
        cases h6 : Nat.beq r 0 with
        | false => rfl
        | true => exact absurd (d2 (Nat.eq_of_beq_eq_true h6)) n5
      rw [h6]
      simp only [Bool.true_and, Bool.not_false, Bool.true_or, cond_false, cond_true]
      omega
    | true =>
      cases h6 : Nat.beq r 0 <;> simp only [Bool.true_and, Bool.not_true, Bool.false_or, cond_false, cond_true] <;> omega

theorem ystart_mono {y : Nat} (h : 1 ≤ y) : ∀ d, ystart y ≤ ystart (y + d)
  | 0 => Nat.le_refl _
  | d + 1 => by
    have := ystart_mono h d
    have := ystart_succ (y + d) (by omega)
    rw [← Nat.add_assoc, this]
    omega

def mcumL (Y M : Nat) : Nat := mcum M + (bif leapN Y && Nat.ble 3 M then 1 else 0)

theorem mcumL_succ (Y M : Nat) (h1 : 1 ≤ M) (h2 : M ≤ 11) : mcumL Y (M + 1) = mcumL Y M + mlen Y M := by
  have hm : M = 1 ∨ M = 2 ∨ M = 3 ∨ M = 4 ∨ M = 5 ∨ M = 6 ∨ M = 7 ∨ M = 8 ∨ M = 9 ∨ M = 10 ∨ M = 11 := by omega
  unfold mcumL
  rcases hm with rfl | rfl | rfl | rfl | rfl | rfl | rfl | rfl | rfl | rfl | rfl <;> cases hl : leapN Y <;> simp [mcum, mlen, hl, Nat.ble]

theorem mcumL_mono (Y : Nat) : ∀ d M, 1 ≤ M → M + d ≤ 12 → mcumL Y M ≤ mcumL Y (M + d)
  | 0, M, _, _ => Nat.le_refl _
  | d + 1, M, h1, h2 => by
    have := mcumL_mono Y d M h1 (by omega)
    have := mcumL_succ Y (M + d) (by omega) (by omega)
    rw [← Nat.add_assoc, this]
    omega

theorem mcumL_year (Y M D : Nat) (h1 : 1 ≤ M) (h2 : M ≤ 12) (h4 : D ≤ mlen Y M) (h3 : 1 ≤ D) : mcumL Y M + (D - 1) < (bif leapN Y then 366 else 365) := by
  have hm : M = 1 ∨ M = 2 ∨ M = 3 ∨ M = 4 ∨ M = 5 ∨ M = 6 ∨ M = 7 ∨ M = 8 ∨ M = 9 ∨ M = 10 ∨ M = 11 ∨ M = 12 := by omega
  unfold mcumL
  rcases hm with rfl | rfl | rfl | rfl | rfl | rfl | rfl | rfl | rfl | rfl | rfl | rfl <;> cases hl : leapN Y <;> simp [mcum, mlen, hl, Nat.ble] at h4 ⊢ <;> omega

theorem ref07_Of_eq {n : Int} {Y M D : Nat} (h : IsDay n Y M D) (hn1 : -53400 ≤ n) (hn2 : n ≤ 53400) : fuseeref07_Of n = some (⟨(Y : Int), (M : Int), (D : Int)⟩, 0) := by
  have a1 := h.y1; have a2 := h.y2; have a3 := h.d1; have a4 := h.d2; have m1 := h.m1; have m2 := h.m2; have hat := h.at'
  change _ = ((ystart Y + mcumL Y M + (D - 1) : Nat) : Int) at hat
  have hY := mcumL_year Y M D m1 m2 a4 a3
  -- years
  have years := iterN_run (step := fuseeref07_Of_l5_s) (fun i => (((ystart Y + mcumL Y M + (D - 1) - ystart (i + 1) : Nat) : Int), (⟨0, 0, 0⟩ : Date), (⟨((i + 1 : Nat) : Int), 1, 1⟩ : Date))) (Y - 1)
    (((mcumL Y M + (D - 1) : Nat) : Int), (⟨0, 0, 0⟩ : Date), (⟨(Y : Int), 1, 1⟩ : Date)) (fun i hi => by
      unfold fuseeref07_Of_l5_s
      simp only [ref07_Leap_eq]
      have hsu := ystart_succ (i + 1) (by omega)
      have hmo := ystart_mono (y := i + 1 + 1) (by omega) (Y - (i + 1 + 1))
      rw [show i + 1 + 1 + (Y - (i + 1 + 1)) = Y by omega] at hmo
      have hw : wi64 (((i + 1 : Nat) : Int) + 1) = ((i + 1 + 1 : Nat) : Int) := by rw [wi64_id (by omega)]; omega
      simp only [hw]
      cases hl : leapN (i + 1) with
      | true =>
        rw [hl] at hsu
        simp only [cond_true] at hsu ⊢
        have hlt : ¬ (((ystart Y + mcumL Y M + (D - 1) - ystart (i + 1) : Nat) : Int) < 366) := by omega
        simp only [hlt, decide_false, cond_false]
        rw [wi64_id (by omega)]
        congr 5; omega
      | false =>
        rw [hl] at hsu
        simp only [cond_false] at hsu ⊢
        have hlt : ¬ (((ystart Y + mcumL Y M + (D - 1) - ystart (i + 1) : Nat) : Int) < 365) := by omega
        simp only [hlt, decide_false, cond_false]
        rw [wi64_id (by omega)]
        congr 5; omega)
    (by
      have e : Y - 1 + 1 = Y := by omega
      simp only [e]
      have e2 : ystart Y + mcumL Y M + (D - 1) - ystart Y = mcumL Y M + (D - 1) := by omega
      rw [e2]
      unfold fuseeref07_Of_l5_s
      simp only [ref07_Leap_eq]
      cases hl : leapN Y with
      | true =>
        rw [hl] at hY
        simp only [cond_true] at hY
        have hlt : (((mcumL Y M + (D - 1) : Nat) : Int) < 366) := by omega
        simp only [hlt, decide_true, cond_true]
      | false =>
        rw [hl] at hY
        simp only [cond_false] at hY
        have hlt : (((mcumL Y M + (D - 1) : Nat) : Int) < 365) := by omega
        simp only [hlt, decide_true, cond_true, cond_false]) FUEL (by unfold FUEL; omega)
  have months := iterN_run (step := fuseeref07_Of_l11_s) (fun i => (((mcumL Y M + (D - 1) - mcumL Y (i + 1) : Nat) : Int), (⟨0, 0, 0⟩ : Date), (⟨(Y : Int), ((i + 1 : Nat) : Int), 1⟩ : Date))) (M - 1)
    (((D - 1 : Nat) : Int), (⟨0, 0, 0⟩ : Date), (⟨(Y : Int), (M : Int), 1⟩ : Date)) (fun i hi => by
      unfold fuseeref07_Of_l11_s
      simp only [ref07_Month_eq Y (i + 1) (by omega) (by omega)]
      have hsu := mcumL_succ Y (i + 1) (by omega) (by omega)
      have hmo := mcumL_mono Y (M - (i + 1 + 1)) (i + 1 + 1) (by omega) (by omega)
      rw [show i + 1 + 1 + (M - (i + 1 + 1)) = M by omega] at hmo
      have hml := mlen_le Y (i + 1)
      have hge : (((mcumL Y M + (D - 1) - mcumL Y (i + 1) : Nat) : Int) ≥ ((mlen Y (i + 1) : Nat) : Int)) := by omega
      have hw : wi64 (((i + 1 : Nat) : Int) + 1) = ((i + 1 + 1 : Nat) : Int) := by rw [wi64_id (by omega)]; omega
      have hv : (((mcumL Y M + (D - 1) - mcumL Y (i + 1) : Nat) : Int) - ((mlen Y (i + 1) : Nat) : Int)) = ((mcumL Y M + (D - 1) - mcumL Y (i + 1 + 1) : Nat) : Int) := by omega
      simp only [hge, decide_true, cond_true, hw]
      rw [hv, wi64_id (by omega)])
    (by
      have e : M - 1 + 1 = M := by omega
      simp only [e]
      have e2 : mcumL Y M + (D - 1) - mcumL Y M = D - 1 := by omega
      rw [e2]
      unfold fuseeref07_Of_l11_s
      simp only [ref07_Month_eq Y M m1 m2]
      have hge : ¬ (((D - 1 : Nat) : Int) ≥ ((mlen Y M : Nat) : Int)) := by omega
      simp only [hge, decide_false, cond_false]) FUEL (by unfold FUEL; omega)
  unfold fuseeref07_Of fuseeref07_Of_l5 fuseeref07_Of_l11
  have g1 : ¬ n < -719162 := by omega
  have g2 : ¬ n > 2932896 := by omega
  have g3 : wi64 (n + 719162) = ((ystart Y + mcumL Y M + (D - 1) : Nat) : Int) := by rw [wi64_id (by omega)]; exact hat
  simp only [g1, g2, g3, decide_false, cond_false]
  have hy1 : ystart (0 + 1) = 0 := by unfold ystart; rfl
  simp only [hy1, Nat.sub_zero] at years
  have hm1 : mcumL Y (0 + 1) = 0 := by unfold mcumL; cases leapN Y <;> rfl
  simp only [hm1, Nat.sub_zero] at months
  have years' : iterN fuseeref07_Of_l5_s FUEL (((ystart Y + mcumL Y M + (D - 1) : Nat) : Int), (⟨0, 0, 0⟩ : Date), (⟨1, 1, 1⟩ : Date)) = some (((mcumL Y M + (D - 1) : Nat) : Int), (⟨0, 0, 0⟩ : Date), (⟨(Y : Int), 1, 1⟩ : Date)) := years
  have months' : iterN fuseeref07_Of_l11_s FUEL (((mcumL Y M + (D - 1) : Nat) : Int), (⟨0, 0, 0⟩ : Date), (⟨(Y : Int), 1, 1⟩ : Date)) = some (((D - 1 : Nat) : Int), (⟨0, 0, 0⟩ : Date), (⟨(Y : Int), (M : Int), 1⟩ : Date)) := months
  rw [years']
  simp only [months']
  have hml := mlen_le Y M
  have hv : (1 : Int) + ((D - 1 : Nat) : Int) = (D : Int) := by omega
  rw [hv, wi64_id (by omega)]

end Vm.Fu
end

section
namespace Vm.Fu
open Go

/-- So many last digits. -/
def dig : Nat → Nat → List UInt8
  | _, 0 => []
  | n, k + 1 => dig (n / 10) k ++ [UInt8.ofNat (48 + n % 10)]

theorem dig_length : ∀ (k n : Nat), (dig n k).length = k
  | 0, n => rfl
  | k + 1, n => by simp [dig, dig_length k]

theorem dig_cons : ∀ (k n : Nat), dig n (k + 1) = UInt8.ofNat (48 + n / 10 ^ k % 10) :: dig n k
  | 0, n => by simp [dig]
  | k + 1, n => by
    rw [dig, dig_cons k (n / 10)]
    rw [Nat.div_div_eq_div_mul, ← Nat.pow_succ']
    rfl

theorem dig_zero : ∀ k, dig 0 k = List.replicate k 48
  | 0 => rfl
  | k + 1 => by rw [dig, Nat.zero_div, dig_zero k, List.replicate_succ']; rfl

theorem dec_small {n : Nat} (h : n < 10) : Lib.decDigits n = [UInt8.ofNat (48 + n)] := by
  rw [Lib.decDigits]; simp [h]
theorem dec_big {n : Nat} (h : ¬ n < 10) : Lib.decDigits n = Lib.decDigits (n / 10) ++ [UInt8.ofNat (48 + n % 10)] := by
  rw [Lib.decDigits]; simp [h]

theorem dec_pad : ∀ (k n : Nat), n < 10 ^ (k + 1) → (Lib.decDigits n).length ≤ k + 1 ∧ List.replicate (k + 1 - (Lib.decDigits n).length) 48 ++ Lib.decDigits n = dig n (k + 1)
  | k, n, h => by
    by_cases hn : n < 10
    · rw [dec_small hn]
      refine ⟨by simp, ?_⟩
      rw [dig, Nat.div_eq_of_lt hn, dig_zero, Nat.mod_eq_of_lt hn]
      simp
    · rw [dec_big hn]
      cases k with
      | zero => simp at h; omega
      | succ k =>
        have hlt : n / 10 < 10 ^ (k + 1) := by
          rw [Nat.pow_succ] at h
          omega
        obtain ⟨h1, h2⟩ := dec_pad k (n / 10) hlt
        refine ⟨by simp; omega, ?_⟩
        rw [dig, ← h2]
        simp only [List.length_append, List.length_cons, List.length_nil]
        rw [show k + 1 + 1 - ((Lib.decDigits (n / 10)).length + (0 + 1)) = k + 1 - (Lib.decDigits (n / 10)).length by omega]
        simp

theorem itoa_nat (n : Nat) : Lib.itoa (n : Int) = Lib.decDigits n := by
  unfold Lib.itoa
  rw [if_neg (by omega)]
  simp

theorem repeat_zero (n : Nat) : Lib.repeatL [48] n = List.replicate n 48 := by
  induction n with
  | zero => rfl
  | succ n ih => rw [List.replicate_succ, ← ih]; rfl

theorem repeat_ok (n : Nat) (h : n ≤ 1000) : strings_Repeat [48] (n : Int) = some (List.replicate n 48) := by
  unfold strings_Repeat
  have h1 : decide ((0 : Int) ≤ (n : Int)) = true := by simp
  have h2 : Nat.ble ([(48 : UInt8)].length * ((n : Int)).toNat) 140737488355328 = true := by simp; omega
  have h3 : Nat.ble ((n : Int)).toNat 9223372036854775807 = true := by simp; omega
  rw [h1, h2, h3]
  simp only [Bool.and_self, cond_true, Int.toNat_natCast, repeat_zero]

theorem int64_nat (n : Nat) (h : n ≤ 9223372036854775807) : int64 (n : Int) = true := by
  unfold int64; simp; omega

theorem civil_digits_eq (n k : Nat) (hk : k ≤ 17) (h : n < 10 ^ (k + 1)) (hn : n ≤ 9223372036854775807) : civil_digits (n : Int) ((k + 1 : Nat) : Int) = some (dig n (k + 1)) := by
  obtain ⟨h1, h2⟩ := dec_pad k n h
  unfold civil_digits strconv_Itoa
  rw [int64_nat n hn, itoa_nat]
  simp only [cond_true]
  generalize Lib.decDigits n = l at *
  rw [wi64_id (by omega), show ((k + 1 : Nat) : Int) - (l.length : Int) = ((k + 1 - l.length : Nat) : Int) by omega, repeat_ok _ (by omega)]
  have hb : Nat.ble ((List.replicate (k + 1 - l.length) (48 : UInt8)).length + l.length) 9223372036854775807 = true := by simp; omega
  simp only [hb, cond_true, h2]

theorem daytime_digits_eq (n k : Nat) (hk : k ≤ 17) (h : n < 10 ^ (k + 1)) (hn : n ≤ 9223372036854775807) : daytime_digits (n : Int) ((k + 1 : Nat) : Int) = some (dig n (k + 1)) := by
  obtain ⟨h1, h2⟩ := dec_pad k n h
  unfold daytime_digits strconv_FormatInt
  rw [int64_nat n hn, itoa_nat]
  simp only [beq_self_eq_true, Bool.and_self, cond_true]
  generalize Lib.decDigits n = l at *
  rw [wi64_id (by omega), show ((k + 1 : Nat) : Int) - (l.length : Int) = ((k + 1 - l.length : Nat) : Int) by omega]
  have hif : (if ((k + 1 - l.length : Nat) : Int) > 0 then ((k + 1 - l.length : Nat) : Int) else 0) = ((k + 1 - l.length : Nat) : Int) := by split <;> omega
  rw [hif, repeat_ok _ (by omega)]
  have hb : Nat.ble ((List.replicate (k + 1 - l.length) (48 : UInt8)).length + l.length) 9223372036854775807 = true := by simp; omega
  simp only [hb, cond_true, h2]

theorem told_two_eq (n : Nat) (h : n < 100) : told_two (n : Int) = some (dig n 2) := by
  unfold told_two strconv_FormatInt
  have h1 := wdiv n 10 (by omega)
  have h2 := wmod n 10
  have e1 : wi64 (Int.tdiv (n : Int) 10) = ((n / 10 : Nat) : Int) := h1
  have e2 : Int.tmod (n : Int) 10 = ((n % 10 : Nat) : Int) := h2
  rw [e1, e2, int64_nat (n / 10) (by omega), int64_nat (n % 10) (by omega), itoa_nat, itoa_nat, dec_small (n := n / 10) (by omega), dec_small (n := n % 10) (by omega)]
  have hm : n / 10 % 10 = n / 10 := Nat.mod_eq_of_lt (by omega)
  simp only [dig, hm]
  rfl

/-- One digit out of ten. -/
theorem cut_dig (q : Nat) (h : q < 10) : within (q : Int) (wi64 ((q : Int) + 1)) ((10 : Nat) : Int) = true ∧ Vm.cut [(48 : UInt8), 49, 50, 51, 52, 53, 54, 55, 56, 57] (q : Int) (wi64 ((q : Int) + 1)) = [UInt8.ofNat (48 + q)] := by
  have : q = 0 ∨ q = 1 ∨ q = 2 ∨ q = 3 ∨ q = 4 ∨ q = 5 ∨ q = 6 ∨ q = 7 ∨ q = 8 ∨ q = 9 := by omega
  rcases this with rfl | rfl | rfl | rfl | rfl | rfl | rfl | rfl | rfl | rfl <;> exact ⟨by kernel_rfl, by kernel_rfl⟩

theorem two_eq (n k : Nat) (hn : n ≤ 9223372036854775807) (hk : k ≤ 1000) : fuseeref07_Two (n : Int) (k : Int) = some (dig n k) := by
  have := iterN_run (step := fuseeref07_Two_l3_s) (fun i => (((n / 10 ^ i : Nat) : Int), (k : Int), dig n i, (i : Int))) k (dig n k) (fun i hi => by
      unfold fuseeref07_Two_l3_s
      have hlt : ((i : Int) < (k : Int)) := by omega
      have hle := Nat.div_le_self n (10 ^ i)
      have hdd : n / 10 ^ (i + 1) = n / 10 ^ i / 10 := by rw [Nat.pow_succ, Nat.div_div_eq_div_mul]
      rw [dig_cons, hdd]
      generalize n / 10 ^ i = p at *
      have hm := wmod p 10
      have hm' : Int.tmod (p : Int) 10 = ((p % 10 : Nat) : Int) := hm
      have hd := wdiv p 10 (by omega)
      have hd' : wi64 (Int.tdiv (p : Int) 10) = ((p / 10 : Nat) : Int) := hd
      obtain ⟨c1, c2⟩ := cut_dig (p % 10) (Nat.mod_lt _ (by omega))
      have hb : Nat.ble ([UInt8.ofNat (48 + p % 10)].length + (dig n i).length) 9223372036854775807 = true := by rw [dig_length]; simp; omega
      have hi' : wi64 ((i : Int) + 1) = ((i + 1 : Nat) : Int) := by rw [wi64_id (by omega)]; omega
      simp only [hlt, decide_true, cond_true, hm', hd', c1, c2, hb, hi']
      rfl)
    (by unfold fuseeref07_Two_l3_s; simp) FUEL (by unfold FUEL; omega)
  unfold fuseeref07_Two fuseeref07_Two_l3
  have e : iterN fuseeref07_Two_l3_s FUEL ((n : Int), (k : Int), [], 0) = some (dig n k) := by
    refine Eq.trans ?_ this
    simp [dig]
  rw [e]

theorem dec_ne (n : Nat) : Lib.decDigits n ≠ [] := by
  by_cases h : n < 10
  · rw [dec_small h]; simp
  · rw [dec_big h]; simp

theorem dec_len : ∀ (k n : Nat), n < 10 ^ (k + 1) → (Lib.decDigits n).length ≤ k + 1 := fun k n h => (dec_pad k n h).1

/-- The reference's loop over a number's digits. -/
theorem ref43_digits_eq (n : Nat) (hn : n < 10 ^ 19) (hn2 : n ≤ 9223372036854775807) : fuseeref43_digits (n : Int) = some (Lib.decDigits n) := by
  have key := iterN_inv (step := fuseeref43_digits_l2_s)
    (fun d a => ∃ (p : Nat) (l : List UInt8), a = ((p : Int), l) ∧ p ≤ n ∧ l.length ≤ 40 ∧ ((p = 0 ∧ l = Lib.decDigits n ∧ d = 0) ∨ (l = [] ∧ p = n ∧ d = n + 2) ∨ (1 ≤ p ∧ l ≠ [] ∧ Lib.decDigits p ++ l = Lib.decDigits n ∧ d = p + 1 ∧ d ≤ n + 1))) (Lib.decDigits n) (by
    rintro d _ ⟨p, l, rfl, hp, hll, hc⟩
    unfold fuseeref43_digits_l2_s
    have hm' : Int.tmod (p : Int) 10 = ((p % 10 : Nat) : Int) := wmod p 10
    have hd' : wi64 (Int.tdiv (p : Int) 10) = ((p / 10 : Nat) : Int) := wdiv p 10 (by omega)
    obtain ⟨c1, c2⟩ := cut_dig (p % 10) (Nat.mod_lt _ (by omega))
    have hb : Nat.ble ([UInt8.ofNat (48 + p % 10)].length + l.length) 9223372036854775807 = true := by simp; omega
    simp only [hm', hd', c1, c2, hb, cond_true]
    have hlen := dec_len 18 n hn
    -- what a round makes
    have round : (1 ≤ p ∨ l = []) → Lib.decDigits p ++ l = Lib.decDigits n → (p / 10 < d - 1) → d ≤ n + 2 →
        ∃ a' d', some (Sum.inl (((p / 10 : Nat) : Int), [UInt8.ofNat (48 + p % 10)] ++ l)) = (some (Sum.inl a') : Option ((Int × List UInt8) ⊕ List UInt8)) ∧ d' < d ∧ ∃ (p' : Nat) (l' : List UInt8), a' = ((p' : Int), l') ∧ p' ≤ n ∧ l'.length ≤ 40 ∧
          ((p' = 0 ∧ l' = Lib.decDigits n ∧ d' = 0) ∨ (l' = [] ∧ p' = n ∧ d' = n + 2) ∨ (1 ≤ p' ∧ l' ≠ [] ∧ Lib.decDigits p' ++ l' = Lib.decDigits n ∧ d' = p' + 1 ∧ d' ≤ n + 1)) := by
      intro _ hcat hdd hdn
      have hlen' : ([UInt8.ofNat (48 + p % 10)] ++ l).length ≤ 40 := by
        have := congrArg List.length hcat
        have h1 : 1 ≤ (Lib.decDigits p).length := by
          have := dec_ne p
          cases h : Lib.decDigits p with
          | nil => exact absurd h this
          | cons => simp
        simp only [List.length_append, List.length_cons, List.length_nil] at this ⊢
        omega
      by_cases h10 : p < 10
      · refine ⟨_, 0, rfl, by omega, p / 10, _, rfl, by omega, hlen', .inl ⟨by omega, ?_, rfl⟩⟩
        rw [dec_small h10] at hcat
        rw [← hcat, Nat.mod_eq_of_lt h10]
      · refine ⟨_, p / 10 + 1, rfl, by omega, p / 10, _, rfl, by omega, hlen', .inr (.inr ⟨by omega, by simp, ?_, rfl, by omega⟩)⟩
        rw [dec_big h10] at hcat
        rw [← hcat]; simp
    rcases hc with ⟨rfl, rfl, rfl⟩ | ⟨rfl, rfl, rfl⟩ | ⟨h1, h2, h3, rfl, h5⟩
    · left
      have hne : (Lib.decDigits n == []) = false := by
        have := dec_ne n
        cases h : Lib.decDigits n with
        | nil => exact absurd h this
        | cons => rfl
      simp [hne]
    · right
      have := round (.inr rfl) (by simp) (by omega) (by omega)
      by_cases h0 : (p : Int) > 0
      · simpa [h0] using this
      · simpa [h0] using this
    · right
      have := round (.inl h1) h3 (by omega) (by omega)
      have h0 : (p : Int) > 0 := by omega
      simp only [h0, decide_true, cond_true]
      exact this)
  unfold fuseeref43_digits fuseeref43_digits_l2
  have := key (n + 2) ((n : Int), []) ⟨n, [], rfl, Nat.le_refl _, by simp, .inr (.inl ⟨rfl, rfl, rfl⟩)⟩ FUEL (by unfold FUEL; omega)
  rw [this]

end Vm.Fu
end

section
namespace Vm.Fu
open Go

theorem ble_ok (n : Nat) (h : n ≤ 1000000) : Nat.ble n 9223372036854775807 = true := by simp; omega

def dateT (Y M D : Nat) : List UInt8 := dig Y 4 ++ [45] ++ dig M 2 ++ [45] ++ dig D 2
def stampT (Y M D H m s nano : Nat) : List UInt8 := dateT Y M D ++ [84] ++ dig H 2 ++ [58] ++ dig m 2 ++ [58] ++ dig s 2 ++ [46] ++ dig nano 9

theorem dateT_length (Y M D : Nat) : (dateT Y M D).length = 10 := by unfold dateT; simp [dig_length]

theorem civil_Text_eq {n : Int} {Y M D : Nat} (h : IsDay n Y M D) : civil_Text ⟨(Y : Int), (M : Int), (D : Int)⟩ = some (dateT Y M D, none) := by
  have a2 := h.y2; have a4 := h.d2; have m2 := h.m2
  have := mlen_le Y M
  unfold civil_Text
  rw [civil_Check_eq h]
  have d1 := civil_digits_eq Y 3 (by omega) (by omega) (by omega)
  have d2 := civil_digits_eq M 1 (by omega) (by omega) (by omega)
  have d3 := civil_digits_eq D 1 (by omega) (by omega) (by omega)
  have e1 : civil_digits (Y : Int) 4 = some (dig Y 4) := d1
  have e2 : civil_digits (M : Int) 2 = some (dig M 2) := d2
  have e3 : civil_digits (D : Int) 2 = some (dig D 2) := d3
  simp only [Option.isNone_none, Bool.not_true, cond_false, e1, e2, e3]
  simp (disch := simp [dig_length]) only [ble_ok, cond_true]
  rfl

theorem ref07_Text_eq {n : Int} {Y M D : Nat} (h : IsDay n Y M D) : fuseeref07_Text ⟨(Y : Int), (M : Int), (D : Int)⟩ = some (dateT Y M D) := by
  have a2 := h.y2; have a4 := h.d2; have m2 := h.m2
  have := mlen_le Y M
  unfold fuseeref07_Text
  have e1 : fuseeref07_Two (Y : Int) 4 = some (dig Y 4) := two_eq Y 4 (by omega) (by omega)
  have e2 : fuseeref07_Two (M : Int) 2 = some (dig M 2) := two_eq M 2 (by omega) (by omega)
  have e3 : fuseeref07_Two (D : Int) 2 = some (dig D 2) := two_eq D 2 (by omega) (by omega)
  simp only [e1, e2, e3]
  simp (disch := simp [dig_length]) only [ble_ok, cond_true]
  rfl

theorem daytime_Of_eq (s : Nat) (h : s < 86400) : daytime_Of (s : Int) = some (⟨((s / 3600 : Nat) : Int), ((s / 60 % 60 : Nat) : Int), ((s % 60 : Nat) : Int)⟩, none) := by
  unfold daytime_Of
  have c1 : ¬ (s : Int) < 0 := by omega
  have c2 : ¬ (s : Int) > 86400 := by omega
  have c3 : ((s : Int) == 86400) = false := by simp; omega
  have e1 : wi64 (Int.tdiv (s : Int) 3600) = ((s / 3600 : Nat) : Int) := wdiv s 3600 (by omega)
  have e2 : wi64 (Int.tdiv (s : Int) 60) = ((s / 60 : Nat) : Int) := wdiv s 60 (by omega)
  have e3 : Int.tmod ((s / 60 : Nat) : Int) 60 = ((s / 60 % 60 : Nat) : Int) := wmod (s / 60) 60
  have e4 : Int.tmod (s : Int) 60 = ((s % 60 : Nat) : Int) := wmod s 60
  simp only [c1, c2, c3, e1, e2, e3, e4, decide_false, cond_false]

theorem ref08_Of_eq (s : Nat) (h : s < 86400) : fuseeref08_Of (s : Int) = some ⟨((s / 3600 : Nat) : Int), ((s / 60 % 60 : Nat) : Int), ((s % 60 : Nat) : Int)⟩ := by
  unfold fuseeref08_Of
  have c3 : ((s : Int) == 86400) = false := by simp; omega
  have e2 : wi64 (Int.tdiv (s : Int) 60) = ((s / 60 : Nat) : Int) := wdiv s 60 (by omega)
  have e1 : wi64 (Int.tdiv ((s / 60 : Nat) : Int) 60) = ((s / 60 / 60 : Nat) : Int) := wdiv (s / 60) 60 (by omega)
  have e3 : Int.tmod ((s / 60 : Nat) : Int) 60 = ((s / 60 % 60 : Nat) : Int) := wmod (s / 60) 60
  have e4 : Int.tmod (s : Int) 60 = ((s % 60 : Nat) : Int) := wmod s 60
  simp only [c3, e1, e2, e3, e4, cond_false, Nat.div_div_eq_div_mul]

theorem daytime_Stamp_eq {n : Int} {Y M D : Nat} (h : IsDay n Y M D) (hc : civil_Of n = some (⟨(Y : Int), (M : Int), (D : Int)⟩, none)) (s t : Nat) (hs : s < 86400) (ht : t < 1000000000) :
    daytime_Stamp n (s : Int) (t : Int) = some (stampT Y M D (s / 3600) (s / 60 % 60) (s % 60) t, none) := by
  unfold daytime_Stamp
  rw [daytime_Of_eq s hs, hc]
  have c1 : ¬ (t : Int) < 0 := by omega
  have c2 : ¬ (t : Int) ≥ 1000000000 := by omega
  have e1 : daytime_digits ((s / 3600 : Nat) : Int) 2 = some (dig (s / 3600) 2) := daytime_digits_eq (s / 3600) 1 (by omega) (by omega) (by omega)
  have e2 : daytime_digits ((s / 60 % 60 : Nat) : Int) 2 = some (dig (s / 60 % 60) 2) := daytime_digits_eq (s / 60 % 60) 1 (by omega) (by omega) (by omega)
  have e3 : daytime_digits ((s % 60 : Nat) : Int) 2 = some (dig (s % 60) 2) := daytime_digits_eq (s % 60) 1 (by omega) (by omega) (by omega)
  have e4 : daytime_digits (t : Int) 9 = some (dig t 9) := daytime_digits_eq t 8 (by omega) (by omega) (by omega)
  simp only [Option.isNone_none, Bool.not_true, cond_false, c1, c2, decide_false, civil_Text_eq h, e1, e2, e3, e4]
  simp (disch := simp [dig_length, dateT_length]) only [ble_ok, cond_true]
  rfl

theorem ref08_Stamp_eq {n : Int} {Y M D : Nat} (h : IsDay n Y M D) (hn1 : -53400 ≤ n) (hn2 : n ≤ 53400) (s t : Nat) (hs : s < 86400) (ht : t < 1000000000) :
    fuseeref08_Stamp n (s : Int) (t : Int) = some (stampT Y M D (s / 3600) (s / 60 % 60) (s % 60) t, 0) := by
  unfold fuseeref08_Stamp
  rw [ref07_Of_eq h hn1 hn2, ref08_Of_eq s hs]
  have c1 : ¬ (s : Int) < 0 := by omega
  have c2 : ¬ (s : Int) > 86400 := by omega
  have c3 : ¬ (t : Int) < 0 := by omega
  have c4 : ¬ (t : Int) > 999999999 := by omega
  have e1 : fuseeref07_Two ((s / 3600 : Nat) : Int) 2 = some (dig (s / 3600) 2) := two_eq (s / 3600) 2 (by omega) (by omega)
  have e2 : fuseeref07_Two ((s / 60 % 60 : Nat) : Int) 2 = some (dig (s / 60 % 60) 2) := two_eq (s / 60 % 60) 2 (by omega) (by omega)
  have e3 : fuseeref07_Two ((s % 60 : Nat) : Int) 2 = some (dig (s % 60) 2) := two_eq (s % 60) 2 (by omega) (by omega)
  have e4 : fuseeref07_Two (t : Int) 9 = some (dig t 9) := two_eq t 9 (by omega) (by omega)
  simp only [c1, c2, c3, c4, decide_false, cond_false, bne_self_eq_false, ref07_Text_eq h, e1, e2, e3, e4]
  simp (disch := simp [dig_length, dateT_length]) only [ble_ok, cond_true]
  rfl

/-- What is added, as a text. -/
def addedT (off : Int) : List UInt8 :=
  let n := off.natAbs
  (if off < 0 then [45] else [43]) ++ dig (n / 3600) 2 ++ [58] ++ dig (n / 60 % 60) 2 ++ (if n % 60 = 0 then [] else [58] ++ dig (n % 60) 2)

theorem addedT_length (off : Int) : (addedT off).length ≤ 9 := by
  unfold addedT
  simp only [List.length_append, dig_length]
  split <;> split <;> simp [dig_length]

theorem told_added_eq (off : Int) (h1 : -86399 ≤ off) (h2 : off ≤ 86399) : told_added off = some (addedT off) := by
  unfold told_added
  rw [num_Size_eq (by omega)]
  obtain ⟨n, hn, hlt⟩ : ∃ n : Nat, off.natAbs = n ∧ n < 86400 := ⟨off.natAbs, rfl, by omega⟩
  have hsz : (if off < 0 then sat (-off) else off) = (n : Int) := by unfold sat; split <;> (try split) <;> (try split) <;> omega
  rw [hsz]
  have e1 : wi64 (Int.tdiv (n : Int) 3600) = ((n / 3600 : Nat) : Int) := wdiv n 3600 (by omega)
  have e2 : wi64 (Int.tdiv (n : Int) 60) = ((n / 60 : Nat) : Int) := wdiv n 60 (by omega)
  have e3 : Int.tmod ((n / 60 : Nat) : Int) 60 = ((n / 60 % 60 : Nat) : Int) := wmod (n / 60) 60
  have e4 : Int.tmod (n : Int) 60 = ((n % 60 : Nat) : Int) := wmod n 60
  unfold addedT
  rw [hn]
  simp only [e1, e2, e3, e4, told_two_eq (n / 3600) (by omega), told_two_eq (n / 60 % 60) (by omega), told_two_eq (n % 60) (by omega)]
  by_cases hneg : off < 0
  · simp only [hneg, decide_true, cond_true, if_true]
    simp (disch := simp [dig_length]) only [ble_ok, cond_true]
    by_cases h0 : n % 60 = 0
    · have : ¬ (((n % 60 : Nat) : Int) > 0) := by omega
      simp [this, h0]
    · have : (((n % 60 : Nat) : Int) > 0) := by omega
      simp only [this, decide_true, cond_true, h0, if_false]
  · simp only [hneg, decide_false, cond_false, if_false]
    simp (disch := simp [dig_length]) only [ble_ok, cond_true]
    by_cases h0 : n % 60 = 0
    · have : ¬ (((n % 60 : Nat) : Int) > 0) := by omega
      simp [this, h0]
    · have : (((n % 60 : Nat) : Int) > 0) := by omega
      simp only [this, decide_true, cond_true, h0, if_false]

theorem ref43_added_eq (off : Int) (h1 : -86399 ≤ off) (h2 : off ≤ 86399) : fuseeref43_added off = some (addedT off) := by
  unfold fuseeref43_added addedT
  obtain ⟨n, hn, hlt⟩ : ∃ n : Nat, off.natAbs = n ∧ n < 86400 := ⟨off.natAbs, rfl, by omega⟩
  rw [hn]
  have e1 : wi64 (Int.tdiv (n : Int) 3600) = ((n / 3600 : Nat) : Int) := wdiv n 3600 (by omega)
  have e2 : wi64 (Int.tdiv (n : Int) 60) = ((n / 60 : Nat) : Int) := wdiv n 60 (by omega)
  have e3 : Int.tmod ((n / 60 : Nat) : Int) 60 = ((n / 60 % 60 : Nat) : Int) := wmod (n / 60) 60
  have e4 : Int.tmod (n : Int) 60 = ((n % 60 : Nat) : Int) := wmod n 60
  have t1 : fuseeref07_Two ((n / 3600 : Nat) : Int) 2 = some (dig (n / 3600) 2) := two_eq (n / 3600) 2 (by omega) (by omega)
  have t2 : fuseeref07_Two ((n / 60 % 60 : Nat) : Int) 2 = some (dig (n / 60 % 60) 2) := two_eq (n / 60 % 60) 2 (by omega) (by omega)
  have t3 : fuseeref07_Two ((n % 60 : Nat) : Int) 2 = some (dig (n % 60) 2) := two_eq (n % 60) 2 (by omega) (by omega)
  by_cases hneg : off < 0
  · have hv : wi64 (0 - off) = (n : Int) := by rw [wi64_id (by omega)]; omega
    simp only [hneg, decide_true, cond_true, if_true, hv, e1, e2, e3, e4, t1, t2, t3]
    simp (disch := simp [dig_length]) only [ble_ok, cond_true]
    by_cases h0 : n % 60 = 0
    · have : ¬ (((n % 60 : Nat) : Int) > 0) := by omega
      simp [this, h0]
    · have : (((n % 60 : Nat) : Int) > 0) := by omega
      simp only [this, decide_true, cond_true, h0, if_false]
      simp
  · have hv : off = (n : Int) := by omega
    simp only [hneg, decide_false, cond_false, if_false]
    rw [hv]
    simp only [e1, e2, e3, e4, t1, t2, t3]
    simp (disch := simp [dig_length]) only [ble_ok, cond_true]
    by_cases h0 : n % 60 = 0
    · have : ¬ (((n % 60 : Nat) : Int) > 0) := by omega
      simp [this, h0]
    · have : (((n % 60 : Nat) : Int) > 0) := by omega
      simp only [this, decide_true, cond_true, h0, if_false]
      simp

def momentOk (m : Moment) : Bool := timeOk m.Nano && offOk m.Off

theorem told_Check_eq (m : Moment) (h1 : I64 m.Nano) (h2 : I64 m.Off) : told_Check m = some (if momentOk m then none else some 1) := by
  unfold told_Check momentOk timeOk offOk
  rw [num_Size_eq h1, num_Size_eq h2]
  simp only
  have e1 : ((if m.Nano < 0 then sat (-m.Nano) else m.Nano) ≥ 4611686018427387904) ↔ ¬ (-4611686018427387904 < m.Nano ∧ m.Nano < 4611686018427387904) := by
    unfold sat; split <;> (try split) <;> (try split) <;> omega
  have e2 : ((if m.Off < 0 then sat (-m.Off) else m.Off) > 86399) ↔ ¬ (-86399 ≤ m.Off ∧ m.Off ≤ 86399) := by
    unfold sat; split <;> (try split) <;> (try split) <;> omega
  by_cases a : (-4611686018427387904 < m.Nano ∧ m.Nano < 4611686018427387904)
  · have a' : ¬ ((if m.Nano < 0 then sat (-m.Nano) else m.Nano) ≥ 4611686018427387904) := fun h => e1.1 h a
    by_cases b : (-86399 ≤ m.Off ∧ m.Off ≤ 86399)
    · have b' : ¬ ((if m.Off < 0 then sat (-m.Off) else m.Off) > 86399) := fun h => e2.1 h b
      simp only [a', b', decide_false, cond_false]
      simp [a, b]
    · have b' := e2.2 b
      simp only [a', b', decide_false, decide_true, cond_true, cond_false]
      have : ¬ (decide (-86399 ≤ m.Off) && decide (m.Off ≤ 86399)) = true := by simpa using b
      simp [this]
  · have a' := e1.2 a
    simp only [a', decide_true, cond_true]
    have : (decide (-4611686018427387904 < m.Nano) && decide (m.Nano < 4611686018427387904)) = false := by
      rw [Bool.eq_false_iff]; simpa using a
    simp [this]

theorem ref43_May_eq (m : Moment) : fuseeref43_May m = some (momentOk m) := by
  unfold fuseeref43_May momentOk timeOk offOk
  by_cases c1 : -4611686018427387904 < m.Nano
  · have d1 : m.Nano > -4611686018427387904 := by omega
    by_cases c2 : m.Nano < 4611686018427387904
    · by_cases c3 : -86399 ≤ m.Off
      · have d3 : m.Off ≥ -86399 := by omega
        simp [c1, d1, c2, c3, d3]
      · have d3 : ¬ m.Off ≥ -86399 := by omega
        simp [c1, d1, c2, c3, d3]
    · simp [c1, d1, c2]
  · have d1 : ¬ m.Nano > -4611686018427387904 := by omega
    simp [c1, d1]

/-- The text of a moment: both say the same. -/
theorem texts_eq (m : Moment) (h1 : I64 m.Nano) (h2 : I64 m.Off) : ∃ (t : List UInt8) (e : Option Int), told_Text m = some (t, e) ∧ fuseeref43_Text m = some (t, e.getD 0) ∧ (e = none ∨ e = some 1) ∧ t.length ≤ 100 := by
  unfold told_Text fuseeref43_Text
  rw [told_Check_eq m h1 h2, ref43_May_eq]
  cases hm : momentOk m with
  | false => exact ⟨[], some 1, rfl, rfl, .inr rfl, by simp⟩
  | true =>
    unfold momentOk timeOk offOk at hm
    simp only [Bool.and_eq_true, decide_eq_true_eq] at hm
    obtain ⟨⟨n1, n2⟩, o1, o2⟩ := hm
    obtain ⟨s, hs⟩ : ∃ s, m.Nano / 1000000000 = s := ⟨_, rfl⟩
    obtain ⟨t, ht, htl⟩ : ∃ t : Nat, m.Nano % 1000000000 = (t : Int) ∧ t < 1000000000 := ⟨(m.Nano % 1000000000).toNat, by omega, by omega⟩
    have sb : -4611686019 ≤ s ∧ s ≤ 4611686019 := by omega
    obtain ⟨d, hd⟩ : ∃ d, (s + m.Off) / 86400 = d := ⟨_, rfl⟩
    obtain ⟨r, hr, hrl⟩ : ∃ r : Nat, (s + m.Off) % 86400 = (r : Int) ∧ r < 86400 := ⟨((s + m.Off) % 86400).toNat, by omega, by omega⟩
    have db : -53400 ≤ d ∧ d ≤ 53400 := by omega
    obtain ⟨Y, M, D, hday, hof⟩ := civil_Of_eq d db.1 db.2
    simp only [if_true, Option.isNone_none, Bool.not_true, cond_false, num_Div_eq h1 (show I64 1000000000 by omega) (by omega), ref01_Div_eq h1 (show (1 : Int) ≤ 1000000000 ∧ (1000000000 : Int) ≤ 9223372036854775807 by omega), hs, ht]
    rw [wi64_id (x := s + m.Off) (by omega)]
    simp only [num_Div_eq (show I64 (s + m.Off) by omega) (show I64 86400 by omega) (by omega), ref01_Div_eq (show I64 (s + m.Off) by omega) (show (1 : Int) ≤ 86400 ∧ (86400 : Int) ≤ 9223372036854775807 by omega), hd, hr, Option.isNone_none, Bool.not_true, cond_false,
      daytime_Stamp_eq hday hof r t hrl htl, ref08_Stamp_eq hday db.1 db.2 r t hrl htl, told_added_eq m.Off o1 o2, ref43_added_eq m.Off o1 o2]
    have hl := addedT_length m.Off
    have hst : (stampT Y M D (r / 3600) (r / 60 % 60) (r % 60) t).length = 29 := by unfold stampT; simp [dig_length, dateT_length]
    have hb : Nat.ble ((stampT Y M D (r / 3600) (r / 60 % 60) (r % 60) t).length + (addedT m.Off).length) 9223372036854775807 = true := ble_ok _ (by omega)
    simp only [hb, cond_true]
    exact ⟨_, none, rfl, rfl, .inl rfl, by simp only [List.length_append]; omega⟩

/-! lengths -/

theorem trim_nil : Lib.trimRightB [] 48 = [] := rfl
theorem trim_concat (l : List UInt8) (x : UInt8) : Lib.trimRightB (l ++ [x]) 48 = if x = 48 then Lib.trimRightB l 48 else l ++ [x] := by
  unfold Lib.trimRightB
  simp only [List.reverse_append, List.reverse_cons, List.reverse_nil, List.nil_append, List.cons_append, List.dropWhile_cons]
  by_cases h : x = 48
  · simp [h]
  · simp [h]

theorem strip_eq (s r : List UInt8) (hr : r.length ≤ 1000) : fuseeref43_Length_l5 (s, r) = some (s, Lib.trimRightB r 48) := by
  have key := iterN_inv (step := fuseeref43_Length_l5_s)
    (fun d a => ∃ l : List UInt8, a = (s, l) ∧ l.length = d ∧ l.length ≤ 1000 ∧ Lib.trimRightB l 48 = Lib.trimRightB r 48) (s, Lib.trimRightB r 48) (by
    rintro d _ ⟨l, rfl, hd, hl, he⟩
    unfold fuseeref43_Length_l5_s
    rcases List.eq_nil_or_concat l with rfl | ⟨l', x, rfl⟩
    · left
      rw [← he]
      simp [trim_nil]
    · rw [List.concat_eq_append] at *
      have hlen : (l' ++ [x]).length = l'.length + 1 := by simp
      rw [hlen] at hd hl
      have h1 : (((l' ++ [x]).length : Nat) : Int) > 0 := by omega
      have h2 : wi64 ((((l' ++ [x]).length : Nat) : Int) - 1) = (l'.length : Int) := by rw [wi64_id (by omega)]; omega
      have h3 : (0 : Int) ≤ (l'.length : Int) := by omega
      have hx : (l' ++ [x])[l'.length]? = some x := by simp
      have hw : within 0 (l'.length : Int) (((l' ++ [x]).length : Nat) : Int) = true := by unfold within; simp; omega
      have hc : Vm.cut (l' ++ [x]) 0 (l'.length : Int) = l' := by unfold Vm.cut; simp
      simp only [h1, h2, h3, decide_true, cond_true, Int.toNat_natCast, hx, hw, hc]
      rw [trim_concat] at he
      by_cases h48 : x = 48
      · right
        subst h48
        rw [if_pos rfl] at he
        refine ⟨(s, l'), l'.length, rfl, by omega, l', rfl, rfl, by omega, he⟩
      · left
        rw [if_neg h48] at he
        have : ((x.toNat : Int) == 48) = false := by
          rw [beq_eq_false_iff_ne]
          intro hh
          apply h48
          have : x.toNat = (48 : UInt8).toNat := by simp; omega
          exact UInt8.toNat_inj.1 this
        simp only [this, cond_false, ← he])
  unfold fuseeref43_Length_l5
  exact key r.length (s, r) ⟨r, rfl, rfl, hr, rfl⟩ FUEL (by unfold FUEL; omega)

def lengthT (n : Nat) : List UInt8 :=
  let r := Lib.trimRightB (dig (n % 1000000000) 9) 48
  if r = [] then Lib.decDigits (n / 1000000000) ++ [115] else Lib.decDigits (n / 1000000000) ++ [46] ++ r ++ [115]

theorem trim_length (l : List UInt8) : (Lib.trimRightB l 48).length ≤ l.length := by
  unfold Lib.trimRightB
  rw [List.length_reverse]
  have := (List.dropWhile_suffix (l := l.reverse) (fun x => x == (48 : UInt8))).length_le
  simpa using this

theorem told_length_eq (n : Nat) (hn : n ≤ 9223372036854775807) : told_length (n : Int) = some (lengthT n) := by
  unfold told_length strconv_FormatInt lengthT
  have e1 : wi64 (Int.tdiv (n : Int) 1000000000) = ((n / 1000000000 : Nat) : Int) := wdiv n 1000000000 (by omega)
  have e2 : Int.tmod (n : Int) 1000000000 = ((n % 1000000000 : Nat) : Int) := wmod n 1000000000
  rw [e1, e2, int64_nat _ (by omega), int64_nat _ (by omega), itoa_nat, itoa_nat]
  obtain ⟨p1, p2⟩ := dec_pad 8 (n % 1000000000) (by omega)
  have q1 := dec_len 9 (n / 1000000000) (by omega)
  generalize Lib.decDigits (n % 1000000000) = l at *
  generalize Lib.decDigits (n / 1000000000) = w at *
  simp only [beq_self_eq_true, Bool.and_self, cond_true]
  rw [wi64_id (by omega), show (9 : Int) - (l.length : Int) = ((8 + 1 - l.length : Nat) : Int) by omega, repeat_ok _ (by omega)]
  have hb : Nat.ble ((List.replicate (8 + 1 - l.length) (48 : UInt8)).length + l.length) 9223372036854775807 = true := ble_ok _ (by simp; omega)
  simp only [hb, cond_true, p2]
  unfold strings_TrimRight
  have h1 : Nat.blt (48 : UInt8).toNat 128 = true := rfl
  have h2 : Nat.ble (dig (n % 1000000000) (8 + 1)).length 9223372036854775807 = true := ble_ok _ (by rw [dig_length]; omega)
  simp only [h1, h2, Bool.and_self, cond_true]
  have hr := trim_length (dig (n % 1000000000) (8 + 1))
  rw [dig_length] at hr
  generalize Lib.trimRightB (dig (n % 1000000000) (8 + 1)) 48 = r at *
  have b1 : Nat.ble (w.length + 1) 9223372036854775807 = true := ble_ok _ (by omega)
  by_cases h0 : r = []
  · subst h0; simp [b1]
  · have : (r == []) = false := by simp [h0]
    have b2 : Nat.ble ((w ++ [(46 : UInt8)]).length + r.length) 9223372036854775807 = true := ble_ok _ (by simp; omega)
    have b3 : Nat.ble ((w ++ [(46 : UInt8)] ++ r).length + 1) 9223372036854775807 = true := ble_ok _ (by simp; omega)
    simp only [this, cond_false, b1, b2, b3, cond_true, h0, if_false]

theorem ref43_Length_eq (n : Nat) (hn : n ≤ 9223372036854775807) : fuseeref43_Length (n : Int) = some (lengthT n, 0) := by
  unfold fuseeref43_Length lengthT
  have e0 : ¬ (n : Int) < 0 := by omega
  have e1 : wi64 (Int.tdiv (n : Int) 1000000000) = ((n / 1000000000 : Nat) : Int) := wdiv n 1000000000 (by omega)
  have e2 : Int.tmod (n : Int) 1000000000 = ((n % 1000000000 : Nat) : Int) := wmod n 1000000000
  have e3 : fuseeref07_Two ((n % 1000000000 : Nat) : Int) 9 = some (dig (n % 1000000000) 9) := two_eq (n % 1000000000) 9 (by omega) (by omega)
  have q1 := dec_len 9 (n / 1000000000) (by omega)
  simp only [e0, decide_false, cond_false, e1, e2, e3, ref43_digits_eq (n / 1000000000) (by omega) (by omega), strip_eq _ _ (show (dig (n % 1000000000) 9).length ≤ 1000 by rw [dig_length]; omega)]
  have hr := trim_length (dig (n % 1000000000) 9)
  rw [dig_length] at hr
  generalize Lib.trimRightB (dig (n % 1000000000) 9) 48 = r at *
  generalize Lib.decDigits (n / 1000000000) = w at *
  have b1 : Nat.ble (w.length + 1) 9223372036854775807 = true := ble_ok _ (by omega)
  by_cases h0 : r = []
  · subst h0; simp [b1]
  · have : (r == []) = false := by simp [h0]
    have b2 : Nat.ble ((w ++ [(46 : UInt8)]).length + r.length) 9223372036854775807 = true := ble_ok _ (by simp; omega)
    have b3 : Nat.ble ((w ++ [(46 : UInt8)] ++ r).length + 1) 9223372036854775807 = true := ble_ok _ (by simp; omega)
    simp only [this, Bool.not_false, cond_true, b1, b2, b3, h0, if_false]

theorem lengthT_length (n : Nat) (hn : n ≤ 9223372036854775807) : (lengthT n).length ≤ 1000 := by
  unfold lengthT
  have q1 := dec_len 9 (n / 1000000000) (by omega)
  have hr := trim_length (dig (n % 1000000000) 9)
  rw [dig_length] at hr
  simp only
  split <;> simp <;> omega

end Vm.Fu
end

section
namespace Vm.Fu
open Go

def bigT (z : Zone) : Bool := !(decide (∀ i, i < min z.L.length 60 → (z.L[i]?.any fun r => decide (r.Name.length ≤ 200)) = true)) || decide (z.L.length > 60) || decide (z.Name.length > 200)

theorem bigZone_step (z : Zone) (hz : ZoneV z) (i : Nat) (hi : i < min z.L.length 60) :
    law_bigZone_l2_s ((i : Int), z) = some (if (z.L[i]?.any fun r => decide (r.Name.length ≤ 200)) = true then .inl (((i + 1 : Nat) : Int), z) else .inr (.inr true)) := by
  have hx : z.L[i]? = some z.L[i] := List.getElem?_eq_getElem (by omega)
  have hlen := hz.len
  generalize z.L[i] = x at hx
  unfold law_bigZone_l2_s
  have h1 : wi64 ((i : Int) + 1) = ((i + 1 : Nat) : Int) := by rw [wi64_id (by omega)]; omega
  have h2 : (i : Int) < (z.L.length : Int) := by omega
  have h3 : (0 : Int) ≤ (i : Int) := by omega
  have h4 : (i : Int) < 60 := by omega
  simp only [Int.toNat_natCast, hx, h1, h2, h3, h4, decide_true, cond_true, Option.any_some]
  by_cases c : x.Name.length ≤ 200
  · have : ¬ (x.Name.length : Int) > 200 := by omega
    simp [c, this]
  · have : (x.Name.length : Int) > 200 := by omega
    simp [c, this]

theorem bigZone_eq (z : Zone) (hz : ZoneV z) : law_bigZone z = some (bigT z) := by
  have := iterN_scan (step := law_bigZone_l2_s) (fun i => ((i : Int), z)) (min z.L.length 60) (fun i => z.L[i]?.any fun r => decide (r.Name.length ≤ 200)) (.inl z) (.inr true) (bigZone_step z hz)
    (by
      unfold law_bigZone_l2_s
      by_cases h : ((min z.L.length 60 : Nat) : Int) < (z.L.length : Int)
      · have h2 : ¬ ((min z.L.length 60 : Nat) : Int) < 60 := by omega
        simp only [h, h2, decide_true, decide_false, cond_true, cond_false]
      · simp only [h, decide_false, cond_false]) FUEL (by unfold FUEL; omega)
  have e : law_bigZone_l2 (0, z) = some (if (∀ i, i < min z.L.length 60 → (z.L[i]?.any fun r => decide (r.Name.length ≤ 200)) = true) then .inl z else .inr true) := this
  unfold law_bigZone bigT
  rw [e]
  by_cases h : (∀ i, i < min z.L.length 60 → (z.L[i]?.any fun r => decide (r.Name.length ≤ 200)) = true)
  · rw [if_pos h]
    rw [show decide (∀ i, i < min z.L.length 60 → (z.L[i]?.any fun r => decide (r.Name.length ≤ 200)) = true) = true by simpa using h]
    simp only [Bool.not_true, Bool.false_or]
    by_cases c : z.L.length > 60
    · have : (z.L.length : Int) > 60 := by omega
      simp [c, this]
    · have : ¬ (z.L.length : Int) > 60 := by omega
      simp only [c, this, decide_false, cond_false, Bool.false_or]
      congr 1; rw [decide_eq_decide]; omega
  · rw [if_neg h]
    have : decide (∀ i, i < min z.L.length 60 → (z.L[i]?.any fun r => decide (r.Name.length ≤ 200)) = true) = false := by simpa using h
    rw [this]; rfl

theorem giveZone_eq (z : Zone) (hl : z.L.length ≤ 4294967296) : law_giveZone z = some z := by
  have := iterN_run (step := law_giveZone_l3_s) (fun i => ((i : Int), z, (⟨[], 0, []⟩ : Zone), z.Name, z.First, z.L.take i)) z.L.length ((⟨[], 0, []⟩ : Zone), z) (fun i hi => by
      have hx : z.L[i]? = some z.L[i] := List.getElem?_eq_getElem hi
      unfold law_giveZone_l3_s
      have h1 : wi64 ((i : Int) + 1) = ((i + 1 : Nat) : Int) := by rw [wi64_id (by omega)]; omega
      have h2 : (i : Int) < (z.L.length : Int) := by omega
      have h3 : (0 : Int) ≤ (i : Int) := by omega
      have hb : Nat.ble ((z.L.take i).length + [z.L[i]].length) 4294967296 = true := by simp; omega
      simp only [Int.toNat_natCast, hx, h1, h2, h3, decide_true, cond_true, hb]
      rw [List.take_succ_eq_append_getElem hi])
    (by unfold law_giveZone_l3_s; simp) FUEL (by unfold FUEL; omega)
  unfold law_giveZone law_giveZone_l3
  have e : iterN law_giveZone_l3_s FUEL (0, z, (⟨[], 0, []⟩ : Zone), z.Name, z.First, []) = some ((⟨[], 0, []⟩ : Zone), z) := by
    refine Eq.trans ?_ this
    simp
  rw [e]

theorem giveTenant_eq (t : Tenant) (hl : t.P.Zone.L.length ≤ 4294967296) : law_giveTenant t = some t := by
  unfold law_giveTenant law_givePolicy
  rw [giveZone_eq _ hl]

theorem zoneAt_off {z : Zone} (ho : zoneOk z = true) (s : Int) : -86399 ≤ (zoneAt z s).1 ∧ (zoneAt z s).1 ≤ 86399 := by
  unfold zoneOk at ho
  simp only [Bool.and_eq_true, decide_eq_true_eq] at ho
  obtain ⟨⟨⟨_, h1⟩, _⟩, h2⟩ := ho
  unfold offOk at h1
  simp only [Bool.and_eq_true, decide_eq_true_eq] at h1
  unfold zoneAt
  cases hc : cnt z.L s with
  | zero => exact h1
  | succ n =>
    simp only
    cases hn : z.L[n]? with
    | none => exact h1
    | some r =>
      have hlt : n < z.L.length := (List.getElem?_eq_some_iff.1 hn).1
      have := (rules_iff z.L).2 h2 n hlt
      unfold ruleAt at this
      rw [hn] at this
      simp only [Bool.and_eq_true] at this
      have := this.1
      unfold ruleOk offOk at this
      simp only [Bool.and_eq_true, decide_eq_true_eq] at this
      exact this.1.1.2

theorem readings_eq (t : Tenant) (ht : TenantV t) (v b : Int) (hv : I64 v) (hb : I64 b) : ∃ (l : List UInt8) (e : Option Int), told_Reading t ⟨v, b, 0, 0⟩ = some (l, e) ∧ fuseeref43_Reading t ⟨v, b, 0, 0⟩ = some (l, e.getD 0) ∧ (e = none ∨ e = some 1) := by
  unfold told_Reading fuseeref43_Reading
  rw [tenant_Check_eq t ht, ref29_May_eq t ht]
  cases ho : tenantOk t with
  | false => exact ⟨[], some 1, rfl, rfl, .inr rfl⟩
  | true =>
    simp only [if_true, Option.isNone_none, Bool.not_true, cond_false]
    by_cases hneg : b < 0
    · simp only [hneg, decide_true, cond_true]
      exact ⟨[], some 1, rfl, rfl, .inr rfl⟩
    · simp only [hneg, decide_false, cond_false, num_Div_eq hv (show I64 1000000000 by omega) (by omega), ref01_Div_eq hv (show (1 : Int) ≤ 1000000000 ∧ (1000000000 : Int) ≤ 9223372036854775807 by omega), Option.isNone_none, Bool.not_true]
      have hz : zoneOk t.P.Zone = true := by
        unfold tenantOk at ho
        simp only [Bool.and_eq_true] at ho
        have := ho.1.1.1.1.2
        unfold policyOk at this
        simp only [Bool.and_eq_true] at this
        exact this.2
      have hr : Rising t.P.Zone.L := by
        have := hz
        unfold zoneOk at this
        simp only [Bool.and_eq_true] at this
        exact rising_of this.2
      rw [zone_At_eq _ ht.p.zone hz, ref10_At_eq _ ht.p.zone hr]
      have hoff := zoneAt_off hz (v / 1000000000)
      obtain ⟨x, e, h1, h2, h3, h4⟩ := texts_eq ⟨v, (zoneAt t.P.Zone (v / 1000000000)).1⟩ hv (by simp only; omega)
      simp only [Option.isNone_none, Bool.not_true, cond_false, h1, h2]
      rcases h3 with rfl | rfl
      · obtain ⟨n, hn⟩ : ∃ n : Nat, b = (n : Int) := ⟨b.toNat, by omega⟩
        subst hn
        have hnl : n ≤ 9223372036854775807 := by omega
        have hl := lengthT_length n hnl
        have b1 : Nat.ble (x.length + 4) 9223372036854775807 = true := ble_ok _ (by omega)
        have b2 : Nat.ble ((x ++ [(32 : UInt8), 43, 45, 32]).length + (lengthT n).length) 9223372036854775807 = true := ble_ok _ (by simp; omega)
        simp only [Option.isNone_none, Bool.not_true, cond_false, Option.getD_none, bne_self_eq_false, b1, cond_true, told_length_eq n hnl, ref43_Length_eq n hnl, b2]
        exact ⟨_, none, rfl, rfl, .inl rfl⟩
      · exact ⟨[], some 1, rfl, rfl, .inr rfl⟩

theorem sure43 : fuseelaw43_sure = some true := by kernel_rfl

theorem toldReads_true (t : Tenant) (ht : TenantV t) (v b : Int) (hv : I64 v) (hb : I64 b) : fuseelaw43_ToldReads t v b = some true := by
  unfold fuseelaw43_ToldReads law_bigTenant
  rw [bigZone_eq _ ht.p.zone, sure43]
  cases hbig : bigT t.P.Zone with
  | true => rfl
  | false =>
    have hl : t.P.Zone.L.length ≤ 60 := by
      unfold bigT at hbig
      simp only [Bool.or_eq_false_iff, decide_eq_false_iff_not] at hbig
      omega
    simp only [cond_false]
    by_cases hn : (t.Name.length : Int) > 100
    · simp only [hn, decide_true, cond_true]
    · simp only [hn, decide_false, cond_false, giveTenant_eq t (show t.P.Zone.L.length ≤ 4294967296 by omega)]
      obtain ⟨l, e, h1, h2, h3⟩ := readings_eq t ht v b hv hb
      simp only [h1, h2, beq_self_eq_true, cond_true]
      rcases h3 with rfl | rfl
      · rfl
      · rfl

end Vm.Fu
end
