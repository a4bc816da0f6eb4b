/- Plain facts on the plain texts (parts one to five); no conditions. -/
import Derived.Test.YtdkejaijokbinaaGreatDoorSpecs
set_option linter.all false

section
namespace Vm.Fu
open Go

theorem wi64_eq (x : Int) : wi64 x = (x + 9223372036854775808) % 18446744073709551616 - 9223372036854775808 := by
  show (let m := x % (2 ^ 64 : Int); if (true && decide (m ≥ (2 ^ 63 : Int))) = true then m - (2 ^ 64 : Int) else m) = _
  simp only [Bool.true_and, decide_eq_true_eq]
  split <;> omega

abbrev I64 (x : Int) : Prop := -9223372036854775808 ≤ x ∧ x ≤ 9223372036854775807

theorem wi64_id {x : Int} (h : I64 x) : wi64 x = x := by
  rw [wi64_eq]; omega

theorem tdiv_eq {a b : Int} (h : 0 ≤ a) : a.tdiv b = a / b := Int.tdiv_eq_ediv_of_nonneg h
theorem tmod_eq {a b : Int} (h : 0 ≤ a) : a.tmod b = a % b := Int.tmod_eq_emod_of_nonneg h

/-! num -/

theorem num_Add_eq {a b : Int} (ha : I64 a) (hb : I64 b) : num_Add a b = some (if I64 (a + b) then (a + b, none) else (0, some 2)) := by
  unfold num_Add
  simp only [wi64_eq, Bool.cond_not]
  by_cases h : -9223372036854775808 ≤ a + b ∧ a + b ≤ 9223372036854775807
  · rw [if_pos h]
    by_cases hb0 : b < 0
    · have : (a + b + 9223372036854775808) % 18446744073709551616 - 9223372036854775808 < a := by omega
      simp [hb0, this]; omega
    · have : ¬ (a + b + 9223372036854775808) % 18446744073709551616 - 9223372036854775808 < a := by omega
      simp [hb0, this]; omega
  · rw [if_neg h]
    by_cases hb0 : b < 0
    · have : ¬ (a + b + 9223372036854775808) % 18446744073709551616 - 9223372036854775808 < a := by omega
      simp [hb0, this]
    · have : (a + b + 9223372036854775808) % 18446744073709551616 - 9223372036854775808 < a := by omega
      simp [hb0, this]

theorem num_Sub_eq {a b : Int} (ha : I64 a) (hb : I64 b) : num_Sub a b = some (if I64 (a - b) then (a - b, none) else (0, some 2)) := by
  unfold num_Sub
  simp only [wi64_eq, Bool.cond_not]
  by_cases h : -9223372036854775808 ≤ a - b ∧ a - b ≤ 9223372036854775807
  · rw [if_pos h]
    by_cases hb0 : b < 0
    · have : (a - b + 9223372036854775808) % 18446744073709551616 - 9223372036854775808 > a := by omega
      simp [hb0, this]; omega
    · have : ¬ (a - b + 9223372036854775808) % 18446744073709551616 - 9223372036854775808 > a := by omega
      simp [hb0, this]; omega
  · rw [if_neg h]
    by_cases hb0 : b < 0
    · have : ¬ (a - b + 9223372036854775808) % 18446744073709551616 - 9223372036854775808 > a := by omega
      simp [hb0, this]
    · have : (a - b + 9223372036854775808) % 18446744073709551616 - 9223372036854775808 > a := by omega
      simp [hb0, this]

/-- The nearest number of 64 bits. -/
def sat (x : Int) : Int := if x < -9223372036854775808 then -9223372036854775808 else if x > 9223372036854775807 then 9223372036854775807 else x

theorem num_SubSat_eq {a b : Int} (ha : I64 a) (hb : I64 b) : num_SubSat a b = some (sat (a - b)) := by
  unfold num_SubSat
  rw [num_Sub_eq ha hb]
  unfold sat
  simp only
  by_cases h : -9223372036854775808 ≤ a - b ∧ a - b ≤ 9223372036854775807
  · rw [if_pos h, if_neg (by omega), if_neg (by omega)]; rfl
  · rw [if_neg h]
    by_cases hb0 : b > 0
    · simp [num_edge, hb0]; omega
    · simp [num_edge, hb0]; omega

theorem num_AddSat_eq {a b : Int} (ha : I64 a) (hb : I64 b) : num_AddSat a b = some (sat (a + b)) := by
  unfold num_AddSat
  rw [num_Add_eq ha hb]
  unfold sat
  simp only
  by_cases h : -9223372036854775808 ≤ a + b ∧ a + b ≤ 9223372036854775807
  · rw [if_pos h, if_neg (by omega), if_neg (by omega)]; rfl
  · rw [if_neg h]
    by_cases hb0 : b < 0
    · simp [num_edge, hb0]; omega
    · simp [num_edge, hb0]; omega

theorem num_Size_eq {a : Int} (ha : I64 a) : num_Size a = some (if a < 0 then sat (-a) else a) := by
  unfold num_Size
  by_cases h : a < 0
  · rw [num_SubSat_eq (by omega) ha]
    simp [h]
  · simp [h]

theorem ediv_bounds {a b : Int} (h : 1 ≤ b) : (0 ≤ a → 0 ≤ a / b ∧ a / b ≤ a) ∧ (a < 0 → a ≤ a / b ∧ a / b < 0) := by
  refine ⟨fun h0 => ⟨Int.ediv_nonneg h0 (by omega), Int.ediv_le_self b h0⟩, fun h0 => ⟨?_, Int.ediv_neg_of_neg_of_pos h0 (by omega)⟩⟩
  rw [Int.le_ediv_iff_mul_le (by omega)]
  have : a * b ≤ a * 1 := Int.mul_le_mul_of_nonpos_left (by omega) (by omega)
  omega

theorem num_Div_eq {a b : Int} (ha : I64 a) (hb : I64 b) (h : 1 ≤ b) : num_Div a b = some (a / b, a % b, none) := by
  unfold num_Div
  have h1 : ¬ b < 1 := by omega
  have h0 : ¬ b = 0 := by omega
  simp only [h1, h0, decide_false, cond_false]
  have hm0 := Int.emod_nonneg a h0
  have hm1 := Int.emod_lt_of_pos a (show 0 < b by omega)
  have hm : a % b = if a.tmod b < 0 then a.tmod b + b else a.tmod b := by
    rw [Int.tmod_eq_emod]
    have hb' : (b.natAbs : Int) = b := by omega
    split
    · split <;> omega
    · split <;> omega
  have hd : a / b = if a.tmod b < 0 then a.tdiv b - 1 else a.tdiv b := by
    have e1 := Int.mul_tdiv_add_tmod a b
    have e2 := Int.mul_ediv_add_emod a b
    by_cases hc : a.tmod b < 0
    · rw [if_pos hc] at hm ⊢
      have : b * (a / b) = b * (a.tdiv b - 1) := by rw [Int.mul_sub]; omega
      exact Int.eq_of_mul_eq_mul_left h0 this
    · rw [if_neg hc] at hm ⊢
      have : b * (a / b) = b * (a.tdiv b) := by omega
      exact Int.eq_of_mul_eq_mul_left h0 this
  have r1 := ediv_bounds (a := a) h
  by_cases hc : a.tmod b < 0
  · simp only [hc, decide_true, cond_true]
    rw [if_pos hc] at hm hd
    have ha0 : a < 0 := by
      rcases Int.lt_or_le a 0 with h | h
      · exact h
      · have := Int.tmod_nonneg b h; omega
    rw [wi64_id (x := a.tdiv b) (by omega), wi64_id (by omega), wi64_id (by omega), hm, hd]
  · simp only [hc, decide_false, cond_false]
    rw [if_neg hc] at hm hd
    rw [wi64_id (x := a.tdiv b) (by omega), hm, hd]


/-! What may be -/

theorem someD {P : Prop} [Decidable P] {b : Bool} (h : P ↔ b = true) : some b = some (decide P) := by
  congr 1
  cases b
  · simpa using h
  · simpa using h

abbrev SmearOk (s : Smear) : Prop := 0 ≤ s.Before ∧ s.Before ≤ 43200 ∧ 0 ≤ s.After ∧ s.After ≤ 43200 ∧ (s.Kind = 0 ∧ s.Before + s.After = 0 ∨ s.Kind = 1 ∧ 1 ≤ s.Before + s.After ∨ s.Kind = 2 ∧ 3600 ≤ s.Before + s.After)

theorem smear_Check_eq (s : Smear) : smear_Check s = some (if SmearOk s then none else some 1) := by
  unfold smear_Check
  simp only [wi64_eq, Bool.cond_decide, Bool.cond_eq_ite, beq_iff_eq, decide_eq_true_eq]
  repeat' split
  all_goals first | rfl | (exfalso; omega)

theorem ref12_May_eq (s : Smear) : fuseeref12_May s = some (decide (SmearOk s)) := by
  unfold fuseeref12_May
  simp only [wi64_eq, Bool.cond_decide, Bool.cond_eq_ite, beq_iff_eq, decide_eq_true_eq]
  repeat' split
  all_goals (apply someD; simp only [decide_eq_true_eq, Bool.false_eq_true, iff_false, iff_true, beq_iff_eq]; omega)

abbrev QuantOk (q : Int) : Prop := 1 ≤ q ∧ q ≤ 68719476736

theorem quant_Check_eq (q : Int) : quant_Check q = some (if QuantOk q then none else some 1) := by
  unfold quant_Check
  simp only [wi64_eq, Bool.cond_decide, Bool.cond_eq_ite, beq_iff_eq, decide_eq_true_eq]
  repeat' split
  all_goals first | rfl | (exfalso; omega)

theorem ref24_May_eq (q : Int) : fuseeref24_May q = some (decide (QuantOk q)) := by
  unfold fuseeref24_May
  simp only [wi64_eq, Bool.cond_decide, Bool.cond_eq_ite, beq_iff_eq, decide_eq_true_eq]
  repeat' split
  all_goals (apply someD; simp only [decide_eq_true_eq, Bool.false_eq_true, iff_false, iff_true, beq_iff_eq]; omega)

abbrev FuzzOk (f : Fuzz) : Prop := 0 ≤ f.Width ∧ f.Width ≤ 1099511627776 ∧ 1 ≤ f.Cell ∧ f.Cell ≤ 1125899906842624

theorem fuzz_Check_eq (f : Fuzz) : fuzz_Check f = some (if FuzzOk f then none else some 1) := by
  unfold fuzz_Check
  simp only [wi64_eq, Bool.cond_decide, Bool.cond_eq_ite, beq_iff_eq, decide_eq_true_eq]
  repeat' split
  all_goals first | rfl | (exfalso; omega)

theorem ref25_May_eq (f : Fuzz) : fuseeref25_May f = some (decide (FuzzOk f)) := by
  unfold fuseeref25_May
  simp only [wi64_eq, Bool.cond_decide, Bool.cond_eq_ite, beq_iff_eq, decide_eq_true_eq]
  repeat' split
  all_goals (apply someD; simp only [decide_eq_true_eq, Bool.false_eq_true, iff_false, iff_true, beq_iff_eq]; omega)

end Vm.Fu
end

section
namespace Vm.Fu
open Go

theorem iterN_run {A B : Type} {step : A → Option (A ⊕ B)} (st : Nat → A) (n : Nat) (b : B) (hs : ∀ i, i < n → step (st i) = some (.inl (st (i + 1)))) (he : step (st n) = some (.inr b)) :
    ∀ m, n < m → iterN step m (st 0) = some b := by
  have key : ∀ k, k ≤ n → ∀ m, k < m → iterN step m (st (n - k)) = some b := by
    intro k
    induction k with
    | zero =>
      intro _ m hm
      cases m with
      | zero => omega
      | succ m => simp only [Nat.sub_zero, iterN, he]
    | succ k ih =>
      intro hk m hm
      cases m with
      | zero => omega
      | succ m =>
        have h1 := hs (n - (k + 1)) (by omega)
        rw [show n - (k + 1) + 1 = n - k by omega] at h1
        simp only [iterN, h1]
        exact ih (by omega) m (by omega)
  intro m hm
  have := key n (Nat.le_refl _) m hm
  rwa [Nat.sub_self] at this

theorem iterN_scan {A B : Type} {step : A → Option (A ⊕ B)} (mk : Nat → A) (n : Nat) (P : Nat → Bool) (good : B) (bad : B)
    (hs : ∀ i, i < n → step (mk i) = some (if P i = true then .inl (mk (i + 1)) else .inr bad)) (he : step (mk n) = some (.inr good)) (m : Nat) (hm : n < m) :
    iterN step m (mk 0) = some (if ∀ i, i < n → P i = true then good else bad) := by
  by_cases h : ∀ i, i < n → P i = true
  · rw [if_pos h]
    exact iterN_run mk n good (fun i hi => by rw [hs i hi, if_pos (h i hi)]) he m hm
  · rw [if_neg h]
    -- the first one that fails
    have : ∃ k, k < n ∧ P k = false ∧ ∀ i, i < k → P i = true := by
      clear hs he hm
      induction n with
      | zero => exact absurd (fun i hi => by omega) h
      | succ n ih =>
        by_cases hn : ∀ i, i < n → P i = true
        · refine ⟨n, by omega, ?_, hn⟩
          cases hp : P n with
          | false => rfl
          | true =>
            refine absurd (fun i hi => ?_) h
            by_cases h' : i < n
            · exact hn i h'
            · rw [show i = n by omega]; exact hp
        · obtain ⟨k, h1, h2⟩ := ih hn
          exact ⟨k, by omega, h2⟩
    obtain ⟨k, h1, h2, h3⟩ := this
    exact iterN_run mk k bad (fun i hi => by rw [hs i (by omega), if_pos (h3 i hi)]) (by rw [hs k h1, if_neg (by rw [h2]; decide)]) m (by omega)

theorem iterN_inv {A B : Type} {step : A → Option (A ⊕ B)} (Inv : Nat → A → Prop) (b : B) (h : ∀ d a, Inv d a → step a = some (.inr b) ∨ ∃ a' d', step a = some (.inl a') ∧ d' < d ∧ Inv d' a') :
    ∀ d a, Inv d a → ∀ m, d < m → iterN step m a = some b := by
  intro d
  induction d using Nat.strongRecOn with
  | _ d ih =>
    intro a ha m hm
    cases m with
    | zero => omega
    | succ m =>
      simp only [iterN]
      rcases h d a ha with h1 | ⟨a', d', h1, h2, h3⟩
      · rw [h1]
      · rw [h1]
        exact ih d' h2 a' h3 m (by omega)

theorem fuel_big {n : Nat} (h : n ≤ 9223372036854775807) : n < FUEL := by unfold FUEL; omega

/-- A string's length is a number. -/
abbrev StrOk (l : List UInt8) : Prop := l.length ≤ 9223372036854775807

/-! names -/

abbrev low (c : UInt8) : Bool := decide (97 ≤ c.toNat ∧ c.toNat ≤ 122 ∨ 48 ≤ c.toNat ∧ c.toNat ≤ 57)
abbrev NameOk (l : List UInt8) : Prop := 1 ≤ l.length ∧ l.length ≤ 12 ∧ l.all low = true

theorem all_iff {α : Type} (l : List α) (p : α → Bool) : (∀ i, i < l.length → (l[i]?.any p) = true) ↔ l.all p = true := by
  rw [List.all_eq_true]
  constructor
  · intro h x hx
    obtain ⟨i, hi, rfl⟩ := List.getElem_of_mem hx
    have := h i hi
    rw [List.getElem?_eq_getElem hi] at this
    simpa using this
  · intro h i hi
    rw [List.getElem?_eq_getElem hi]
    simpa using h _ (List.getElem_mem hi)

theorem ref29_Name_step (l : List UInt8) (hl : StrOk l) (i : Nat) (hi : i < l.length) :
    fuseeref29_Name_l2_s (l, (i : Int)) = some (if (l[i]?.any low) = true then .inl (l, ((i + 1 : Nat) : Int)) else .inr (.inr false)) := by
  have hx : l[i]? = some l[i] := List.getElem?_eq_getElem hi
  generalize l[i] = x at hx
  unfold fuseeref29_Name_l2_s
  simp only [Int.toNat_natCast, hx, Option.any_some]
  have h1 : wi64 ((i : Int) + 1) = ((i + 1 : Nat) : Int) := by rw [wi64_id (by omega)]; omega
  have h2 : (i : Int) < (l.length : Int) := by omega
  have h3 : (0 : Int) ≤ (i : Int) := by omega
  simp only [h1, h2, h3, decide_true, cond_true, Bool.cond_decide, Bool.cond_not, decide_eq_true_eq]
  repeat' split
  all_goals first | rfl | (exfalso; omega)

theorem ref29_Name_eq (l : List UInt8) (hl : StrOk l) : fuseeref29_Name l = some (decide (NameOk l)) := by
  have := iterN_scan (step := fuseeref29_Name_l2_s) (fun i => (l, (i : Int))) l.length (fun i => l[i]?.any low) (.inl l) (.inr false) (ref29_Name_step l hl)
    (by unfold fuseeref29_Name_l2_s; simp) FUEL (fuel_big hl)
  have e : fuseeref29_Name_l2 (l, 0) = some (if l.all low = true then .inl l else .inr false) := by
    unfold fuseeref29_Name_l2
    refine Eq.trans this ?_
    simp only [all_iff]
  unfold fuseeref29_Name
  rw [e]
  by_cases h : l.all low = true
  · simp only [h, if_true, Bool.cond_decide]
    repeat' split
    all_goals (apply someD; simp only [decide_eq_true_eq, Bool.false_eq_true, iff_false, iff_true, beq_iff_eq, NameOk, h, and_true]; omega)
  · simp only [h, if_false]
    simp [NameOk, h]

end Vm.Fu
end

section
namespace Vm.Fu
open Go

theorem byte_all {p q : UInt8 → Bool} (h : (List.range 256).all (fun n => p (UInt8.ofNat n) == q (UInt8.ofNat n)) = true) (c : UInt8) : p c = q c := by
  rw [List.all_eq_true] at h
  have hc : c.toNat < 256 := c.toNat_lt
  have := h c.toNat (List.mem_range.2 hc)
  rw [UInt8.ofNat_toNat] at this
  simpa using this

theorem trim_all {l cs : List UInt8} {p : UInt8 → Bool} (hp : ∀ c, cs.contains c = p c) : (Lib.trimLeftS l cs == []) = l.all p := by
  unfold Lib.trimLeftS
  induction l with
  | nil => rfl
  | cons c l ih =>
    rw [List.dropWhile_cons, List.all_cons, hp]
    cases h : p c with
    | true => simpa using ih
    | false => simp

abbrev zlow (c : UInt8) : Bool := decide (97 ≤ c.toNat ∧ c.toNat ≤ 122 ∨ 65 ≤ c.toNat ∧ c.toNat ≤ 90 ∨ 48 ≤ c.toNat ∧ c.toNat ≤ 57 ∨ c.toNat = 47 ∨ c.toNat = 95 ∨ c.toNat = 43 ∨ c.toNat = 45)
def zname (l : List UInt8) : Bool := decide (1 ≤ l.length) && decide (l.length ≤ 12) && l.all zlow

def fineZ : List UInt8 := [65, 66, 67, 68, 69, 70, 71, 72, 73, 74, 75, 76, 77, 78, 79, 80, 81, 82, 83, 84, 85, 86, 87, 88, 89, 90, 97, 98, 99, 100, 101, 102, 103, 104, 105, 106, 107, 108, 109, 110, 111, 112, 113, 114, 115, 116, 117, 118, 119, 120, 121, 122, 48, 49, 50, 51, 52, 53, 54, 55, 56, 57, 47, 95, 43, 45]
def fineT : List UInt8 := [97, 98, 99, 100, 101, 102, 103, 104, 105, 106, 107, 108, 109, 110, 111, 112, 113, 114, 115, 116, 117, 118, 119, 120, 121, 122, 48, 49, 50, 51, 52, 53, 54, 55, 56, 57]

theorem fineZ_eq (c : UInt8) : fineZ.contains c = zlow c := byte_all (by kernel_rfl) c
theorem fineT_eq (c : UInt8) : fineT.contains c = low c := byte_all (by kernel_rfl) c

theorem trimZ (l : List UInt8) (h : StrOk l) : strings_TrimLeft l fineZ = some (Lib.trimLeftS l fineZ) := by
  unfold strings_TrimLeft
  have h1 : fineZ.all (fun c => Nat.blt c.toNat 128) = true := by kernel_rfl
  have h2 : Nat.ble l.length 9223372036854775807 = true := by simpa using h
  have h3 : Nat.ble 1 fineZ.length = true := by kernel_rfl
  have h4 : Nat.ble fineZ.length 1000 = true := by kernel_rfl
  rw [h1, h2, h3, h4]; rfl
theorem trimT (l : List UInt8) (h : StrOk l) : strings_TrimLeft l fineT = some (Lib.trimLeftS l fineT) := by
  unfold strings_TrimLeft
  have h1 : fineT.all (fun c => Nat.blt c.toNat 128) = true := by kernel_rfl
  have h2 : Nat.ble l.length 9223372036854775807 = true := by simpa using h
  have h3 : Nat.ble 1 fineT.length = true := by kernel_rfl
  have h4 : Nat.ble fineT.length 1000 = true := by kernel_rfl
  rw [h1, h2, h3, h4]; rfl

theorem zone_named_def (l : List UInt8) : zone_named l = bif !(l == []) then (bif decide ((l.length : Int) ≤ 12) then (match strings_TrimLeft l fineZ with | none => none | some x0 => some (x0 == [])) else some false) else some false := by kernel_rfl

theorem zone_named_eq (l : List UInt8) (h : StrOk l) : zone_named l = some (zname l) := by
  rw [zone_named_def, trimZ l h]
  unfold zname
  simp only [trim_all (l := l) fineZ_eq]
  cases l with
  | nil => rfl
  | cons c l =>
    have h1 : ((c :: l) == []) = false := rfl
    rw [h1]
    generalize (c :: l).all zlow = b
    by_cases h2 : (c :: l).length ≤ 12
    · have h3 : (((c :: l).length : Nat) : Int) ≤ 12 := by omega
      simp only [h2, h3, decide_true, Bool.not_false, cond_true]
      simp
    · have h3 : ¬ (((c :: l).length : Nat) : Int) ≤ 12 := by omega
      simp only [h2, h3, decide_false, Bool.not_false, cond_true, cond_false]
      simp

set_option maxHeartbeats 4000000 in
theorem ref10_Name_step (l : List UInt8) (hl : StrOk l) (i : Nat) (hi : i < l.length) :
    fuseeref10_Name_l2_s (l, (i : Int)) = some (if (l[i]?.any zlow) = true then .inl (l, ((i + 1 : Nat) : Int)) else .inr (.inr false)) := by
  have hx : l[i]? = some l[i] := List.getElem?_eq_getElem hi
  generalize l[i] = x at hx
  unfold fuseeref10_Name_l2_s
  simp only [Int.toNat_natCast, hx, Option.any_some]
  have h1 : wi64 ((i : Int) + 1) = ((i + 1 : Nat) : Int) := by rw [wi64_id (by omega)]; omega
  have h2 : (i : Int) < (l.length : Int) := by omega
  have h3 : (0 : Int) ≤ (i : Int) := by omega
  simp only [h1, h2, h3, decide_true, cond_true, Bool.cond_decide, Bool.cond_not, Bool.cond_eq_ite, beq_iff_eq, decide_eq_true_eq, Bool.not_eq_true', beq_eq_false_iff_ne, ne_eq, if_true]
  repeat' split
  all_goals first | rfl | (exfalso; omega)

theorem ref10_Name_eq (l : List UInt8) (hl : StrOk l) : fuseeref10_Name l = some (zname l) := by
  have := iterN_scan (step := fuseeref10_Name_l2_s) (fun i => (l, (i : Int))) l.length (fun i => l[i]?.any zlow) (.inl l) (.inr false) (ref10_Name_step l hl)
    (by unfold fuseeref10_Name_l2_s; simp) FUEL (fuel_big hl)
  have e : fuseeref10_Name_l2 (l, 0) = some (if l.all zlow = true then .inl l else .inr false) := by
    unfold fuseeref10_Name_l2
    refine Eq.trans this ?_
    simp only [all_iff]
  unfold fuseeref10_Name zname
  rw [e]
  by_cases h : l.all zlow = true
  · simp only [h, if_true, Bool.cond_decide, Bool.and_true]
    by_cases h1 : 1 ≤ l.length
    · have : (l.length : Int) ≥ 1 := by omega
      simp only [h1, this, decide_true, cond_true, Bool.true_and, if_true]
      congr 1; rw [decide_eq_decide]; omega
    · have : ¬ (l.length : Int) ≥ 1 := by omega
      simp only [h1, this, decide_false, cond_false, Bool.false_and, if_false]
  · simp only [h, if_false]
    simp [h]

/-! zones -/

def offOk (n : Int) : Bool := decide (-86399 ≤ n) && decide (n ≤ 86399)
theorem zone_added_eq (n : Int) : zone_added n = some (offOk n) := by
  unfold zone_added offOk
  by_cases h : -86399 ≤ n
  · have : n ≥ -86399 := by omega
    simp [h, this]
  · have : ¬ n ≥ -86399 := by omega
    simp [h, this]
theorem ref10_off_eq (n : Int) : fuseeref10_off n = some (offOk n) := by
  unfold fuseeref10_off offOk
  by_cases h : -86399 ≤ n
  · have : n > -86400 := by omega
    simp only [h, this, decide_true, cond_true, Bool.true_and, Option.some.injEq, decide_eq_decide]; omega
  · have : ¬ n > -86400 := by omega
    simp [h, this]

structure RuleV (r : Rule) : Prop where
  at' : I64 r.At
  off : I64 r.Off
  name : StrOk r.Name
structure ZoneV (z : Zone) : Prop where
  name : StrOk z.Name
  first : I64 z.First
  len : z.L.length ≤ 9223372036854775807
  rules : ∀ r, r ∈ z.L → RuleV r

def ruleOk (r : Rule) : Bool := zname r.Name && offOk r.Off && decide (-1099511627776 ≤ r.At) && decide (r.At ≤ 1099511627776)
def ruleAt (L : List Rule) (i : Nat) : Bool := match L[i]? with
  | some r => ruleOk r && (match i with | 0 => true | j + 1 => match L[j]? with | some q => decide (q.At < r.At) | none => false)
  | none => false
def rulesOk (L : List Rule) : Bool := (List.range L.length).all (ruleAt L)
def zoneOk (z : Zone) : Bool := zname z.Name && offOk z.First && decide (z.L.length ≤ 32) && rulesOk z.L

theorem rules_iff (L : List Rule) : (∀ i, i < L.length → ruleAt L i = true) ↔ rulesOk L = true := by
  unfold rulesOk
  simp [List.all_eq_true]

theorem zone_Check_step (z : Zone) (hz : ZoneV z) (i : Nat) (hi : i < z.L.length) :
    zone_Check_l4_s (z.L, (z.L.length : Int), (i : Int), z) = some (if ruleAt z.L i = true then .inl (z.L, (z.L.length : Int), ((i + 1 : Nat) : Int), z) else .inr (.inr (some 1))) := by
  have hx : z.L[i]? = some z.L[i] := List.getElem?_eq_getElem hi
  have hv := hz.rules _ (List.getElem_mem hi)
  generalize z.L[i] = x at hx hv
  have hlen := hz.len
  unfold zone_Check_l4_s ruleAt ruleOk
  have h1 : wi64 ((i : Int) + 1) = ((i + 1 : Nat) : Int) := by rw [wi64_id (by omega)]; omega
  have h2 : (i : Int) < (z.L.length : Int) := by omega
  have h3 : (0 : Int) ≤ (i : Int) := by omega
  simp only [Int.toNat_natCast, hx, h1, h2, h3, decide_true, cond_true, zone_named_eq x.Name hv.name, zone_added_eq]
  generalize zname x.Name = b1
  generalize offOk x.Off = b2
  cases b1 <;> simp only [Bool.not_true, Bool.not_false, cond_true, cond_false, Bool.false_and, Bool.true_and, if_false, Bool.false_eq_true]
  cases b2 <;> simp only [Bool.not_true, Bool.not_false, cond_true, cond_false, Bool.false_and, Bool.true_and, if_false, Bool.false_eq_true]
  by_cases c1 : -1099511627776 ≤ x.At
  · by_cases c2 : x.At ≤ 1099511627776
    · have d1 : ¬ x.At < -1099511627776 := by omega
      have d2 : ¬ x.At > 1099511627776 := by omega
      simp only [c1, c2, d1, d2, decide_true, decide_false, cond_false, Bool.true_and]
      cases i with
      | zero => simp
      | succ j =>
        have hj : z.L[j]? = some z.L[j] := List.getElem?_eq_getElem (by omega)
        generalize z.L[j] = y at hj
        have h4 : wi64 (((j + 1 : Nat) : Int) - 1) = (j : Int) := by rw [wi64_id (by omega)]; omega
        have h5 : (0 : Int) ≤ (j : Int) := by omega
        have h6 : (((j + 1 : Nat) : Int) > 0) := by omega
        simp only [h4, h5, h6, hj, Int.toNat_natCast, decide_true, cond_true]
        by_cases c3 : y.At < x.At
        · have : ¬ y.At ≥ x.At := by omega
          simp [c3, this]
        · have : y.At ≥ x.At := by omega
          simp [c3, this]
    · have d1 : ¬ x.At < -1099511627776 := by omega
      have d2 : x.At > 1099511627776 := by omega
      simp [c2, d1, d2]
  · have d1 : x.At < -1099511627776 := by omega
    simp [c1, d1]

theorem zone_Check_eq (z : Zone) (hz : ZoneV z) : zone_Check z = some (if zoneOk z then none else some 1) := by
  have := iterN_scan (step := zone_Check_l4_s) (fun i => (z.L, (z.L.length : Int), (i : Int), z)) z.L.length (ruleAt z.L) (.inl ()) (.inr (some 1)) (zone_Check_step z hz)
    (by unfold zone_Check_l4_s; simp) FUEL (fuel_big hz.len)
  have e : zone_Check_l4 (z.L, (z.L.length : Int), 0, z) = some (if rulesOk z.L = true then .inl () else .inr (some 1)) := by
    unfold zone_Check_l4
    refine Eq.trans this ?_
    simp only [rules_iff]
  unfold zone_Check zoneOk
  simp only [zone_named_eq z.Name hz.name, zone_added_eq, e]
  generalize zname z.Name = b1
  generalize offOk z.First = b2
  generalize rulesOk z.L = b3
  cases b1 <;> simp only [Bool.not_true, Bool.not_false, cond_true, cond_false, Bool.false_and, Bool.true_and, if_false, Bool.false_eq_true]
  cases b2 <;> simp only [Bool.not_true, Bool.not_false, cond_true, cond_false, Bool.false_and, Bool.true_and, if_false, Bool.false_eq_true]
  by_cases c : z.L.length ≤ 32
  · have : ¬ (z.L.length : Int) > 32 := by omega
    cases b3 <;> simp [c, this]
  · have : (z.L.length : Int) > 32 := by omega
    simp [c, this]

theorem ref10_May_step (z : Zone) (hz : ZoneV z) (i : Nat) (hi : i < z.L.length) :
    fuseeref10_May_l2_s ((i : Int), z) = some (if ruleAt z.L i = true then .inl (((i + 1 : Nat) : Int), z) else .inr (.inr false)) := by
  have hx : z.L[i]? = some z.L[i] := List.getElem?_eq_getElem hi
  have hv := hz.rules _ (List.getElem_mem hi)
  generalize z.L[i] = x at hx hv
  have hlen := hz.len
  unfold fuseeref10_May_l2_s ruleAt ruleOk
  have h1 : wi64 ((i : Int) + 1) = ((i + 1 : Nat) : Int) := by rw [wi64_id (by omega)]; omega
  have h2 : (i : Int) < (z.L.length : Int) := by omega
  have h3 : (0 : Int) ≤ (i : Int) := by omega
  simp only [Int.toNat_natCast, hx, h1, h2, h3, decide_true, cond_true, ref10_Name_eq x.Name hv.name, ref10_off_eq]
  generalize zname x.Name = b1
  generalize offOk x.Off = b2
  cases b1 <;> simp only [Bool.not_true, Bool.not_false, cond_true, cond_false, Bool.false_and, Bool.true_and, if_false, Bool.false_eq_true]
  cases b2 <;> simp only [Bool.not_true, Bool.not_false, cond_true, cond_false, Bool.false_and, Bool.true_and, if_false, Bool.false_eq_true]
  by_cases c1 : -1099511627776 ≤ x.At
  · by_cases c2 : x.At ≤ 1099511627776
    · have d1 : ¬ x.At < -1099511627776 := by omega
      have d2 : ¬ x.At > 1099511627776 := by omega
      simp only [c1, c2, d1, d2, decide_true, decide_false, cond_false, Bool.true_and]
      cases i with
      | zero => simp
      | succ j =>
        have hj : z.L[j]? = some z.L[j] := List.getElem?_eq_getElem (by omega)
        generalize z.L[j] = y at hj
        have h4 : wi64 (((j + 1 : Nat) : Int) - 1) = (j : Int) := by rw [wi64_id (by omega)]; omega
        have h5 : (0 : Int) ≤ (j : Int) := by omega
        have h6 : (((j + 1 : Nat) : Int) > 0) := by omega
        simp only [h4, h5, h6, hj, Int.toNat_natCast, decide_true, cond_true]
        by_cases c3 : y.At < x.At
        · have : ¬ x.At ≤ y.At := by omega
          simp [c3, this]
        · have : x.At ≤ y.At := by omega
          simp [c3, this]
    · have d1 : ¬ x.At < -1099511627776 := by omega
      have d2 : x.At > 1099511627776 := by omega
      simp [c2, d1, d2]
  · have d1 : x.At < -1099511627776 := by omega
    simp [c1, d1]

theorem ref10_May_eq (z : Zone) (hz : ZoneV z) : fuseeref10_May z = some (zoneOk z) := by
  have := iterN_scan (step := fuseeref10_May_l2_s) (fun i => ((i : Int), z)) z.L.length (ruleAt z.L) (.inl z) (.inr false) (ref10_May_step z hz)
    (by unfold fuseeref10_May_l2_s; simp) FUEL (fuel_big hz.len)
  have e : fuseeref10_May_l2 (0, z) = some (if rulesOk z.L = true then .inl z else .inr false) := by
    unfold fuseeref10_May_l2
    refine Eq.trans this ?_
    simp only [rules_iff]
  unfold fuseeref10_May zoneOk
  rw [e]
  cases hb : rulesOk z.L with
  | false => simp
  | true =>
    simp only [if_true, ref10_Name_eq z.Name hz.name, ref10_off_eq]
    generalize zname z.Name = b1
    generalize offOk z.First = b2
    cases b1 <;> cases b2 <;> simp
    omega

end Vm.Fu
end

section
namespace Vm.Fu
open Go

def timeOk (n : Int) : Bool := decide (-4611686018427387904 < n) && decide (n < 4611686018427387904)

theorem pause_time_eq (n : Int) (h : I64 n) : pause_time n = some (timeOk n) := by
  unfold pause_time timeOk
  rw [num_Size_eq h]
  simp only [Option.some.injEq]
  unfold sat
  rw [Bool.eq_iff_iff]
  simp only [decide_eq_true_eq, Bool.and_eq_true]
  repeat' split
  all_goals omega

theorem ref27_Time_eq (n : Int) : fuseeref27_Time n = some (timeOk n) := by
  unfold fuseeref27_Time timeOk
  by_cases h : -4611686018427387904 < n
  · have : n > -4611686018427387904 := by omega
    simp [h, this]
  · have : ¬ n > -4611686018427387904 := by omega
    simp [h, this]

structure PauseV (p : Pause) : Prop where
  at' : I64 p.At
  lost : I64 p.Lost

def pauseOk (p : Pause) : Bool := timeOk p.At && (p.On || p.At == 0) && decide (0 ≤ p.Lost) && decide (p.Lost ≤ 2305843009213693952)

theorem pause_Check_eq (p : Pause) (h : PauseV p) : pause_Check p = some (if pauseOk p then none else some 1) := by
  unfold pause_Check pauseOk
  rw [pause_time_eq _ h.at']
  generalize timeOk p.At = b1
  generalize p.On = b2
  cases b1 <;> cases b2 <;> simp only [Bool.not_true, Bool.not_false, cond_true, cond_false, Bool.false_and, Bool.true_and, Bool.true_or, Bool.false_or, if_false, Bool.false_eq_true, bne]
  · cases h0 : (p.At == 0) <;> simp only [Bool.not_true, Bool.not_false, cond_true, cond_false, Bool.false_and, Bool.true_and, if_false, Bool.false_eq_true]
    by_cases c1 : p.Lost < 0
    · have : ¬ 0 ≤ p.Lost := by omega
      simp [c1, this]
    · have : 0 ≤ p.Lost := by omega
      by_cases c2 : p.Lost > 2305843009213693952
      · have : ¬ p.Lost ≤ 2305843009213693952 := by omega
        simp [c1, c2, this]
      · have : p.Lost ≤ 2305843009213693952 := by omega
        simp [c1, c2, this]
  · by_cases c1 : p.Lost < 0
    · have : ¬ 0 ≤ p.Lost := by omega
      simp [c1, this]
    · have : 0 ≤ p.Lost := by omega
      by_cases c2 : p.Lost > 2305843009213693952
      · have : ¬ p.Lost ≤ 2305843009213693952 := by omega
        simp [c1, c2, this]
      · have : p.Lost ≤ 2305843009213693952 := by omega
        simp [c1, c2, this]

theorem ref27_May_eq (p : Pause) : fuseeref27_May p = some (pauseOk p) := by
  unfold fuseeref27_May pauseOk
  rw [ref27_Time_eq]
  generalize timeOk p.At = b1
  generalize p.On = b2
  have e1 : decide (p.Lost ≥ 0) = decide (0 ≤ p.Lost) := rfl
  simp only [e1]
  generalize decide (0 ≤ p.Lost) = b3
  generalize decide (p.Lost ≤ 2305843009213693952) = b4
  generalize (p.At == 0) = b5
  cases b1 <;> cases b2 <;> cases b3 <;> cases b5 <;> simp

structure PolicyV (p : Policy) : Prop where
  zone : ZoneV p.Zone

def policyOk (p : Policy) : Bool := decide (SmearOk p.Smear) && decide (QuantOk p.Quantum) && decide (FuzzOk p.Fuzz) && zoneOk p.Zone

theorem policy_loop (l : List (Option Int)) (h : l.length = 4) (hl : ∀ x, x ∈ l → x = none ∨ x = some 1) : policy_Check_l2 (l, 0) = some (if l.all Option.isNone then .inl () else .inr (some 1)) := by
  have := iterN_scan (step := policy_Check_l2_s) (fun i => (l, (i : Int))) 4 (fun i => l[i]?.any Option.isNone) (.inl ()) (.inr (some 1)) (fun i hi => by
      have hx : l[i]? = some l[i] := List.getElem?_eq_getElem (by omega)
      have hm := hl _ (List.getElem_mem (show i < l.length by omega))
      generalize l[i] = x at hx hm
      unfold policy_Check_l2_s
      have h1 : wi64 ((i : Int) + 1) = ((i + 1 : Nat) : Int) := by rw [wi64_id (by omega)]; omega
      have h2 : (i : Int) < 4 := by omega
      have h3 : (0 : Int) ≤ (i : Int) := by omega
      simp only [Int.toNat_natCast, hx, h1, h2, h3, decide_true, cond_true, Bool.and_self, Option.any_some]
      rcases hm with rfl | rfl <;> simp)
    (by unfold policy_Check_l2_s; simp) FUEL (by unfold FUEL; omega)
  unfold policy_Check_l2
  refine Eq.trans this ?_
  have : (∀ i, i < 4 → (l[i]?.any Option.isNone) = true) ↔ l.all Option.isNone = true := by rw [← h]; exact all_iff l _
  simp only [this]

theorem policy_Check_eq (p : Policy) (h : PolicyV p) : policy_Check p = some (if policyOk p then none else some 1) := by
  unfold policy_Check policyOk
  rw [smear_Check_eq, quant_Check_eq, fuzz_Check_eq, zone_Check_eq _ h.zone]
  have hb : ∀ b : Bool, ∀ x : Option Int, x = (if b = true then none else some 1) → x.isNone = b := by intro b x hx; subst hx; cases b <;> rfl
  simp only
  rw [policy_loop _ rfl (by
    intro x hx
    simp only [List.mem_cons, List.not_mem_nil, or_false] at hx
    rcases hx with rfl | rfl | rfl | rfl <;> split <;> simp)]
  have hd : ∀ (P : Prop) [Decidable P], (if P then (none : Option Int) else some 1).isNone = decide P := by intro P _; by_cases h : P <;> simp [h]
  simp only [List.all_cons, List.all_nil, Bool.and_true, hd]
  have hz : decide (zoneOk p.Zone = true) = zoneOk p.Zone := by simp
  rw [hz]
  generalize decide (SmearOk p.Smear) = b1
  generalize decide (QuantOk p.Quantum) = b2
  generalize decide (FuzzOk p.Fuzz) = b3
  generalize zoneOk p.Zone = b4
  cases b1 <;> cases b2 <;> cases b3 <;> cases b4 <;> rfl

theorem ref28_May_eq (p : Policy) (h : PolicyV p) : fuseeref28_May p = some (policyOk p) := by
  unfold fuseeref28_May policyOk
  rw [ref12_May_eq, ref24_May_eq, ref25_May_eq, ref10_May_eq _ h.zone]
  generalize decide (SmearOk p.Smear) = b1
  generalize decide (QuantOk p.Quantum) = b2
  generalize decide (FuzzOk p.Fuzz) = b3
  generalize zoneOk p.Zone = b4
  cases b1 <;> cases b2 <;> cases b3 <;> cases b4 <;> rfl

structure TenantV (t : Tenant) : Prop where
  name : StrOk t.Name
  p : PolicyV t.P
  pause : PauseV t.Pause
  quantum : I64 t.P.Quantum
  floor : I64 t.Floor.At
  epoch : I64 t.Epoch

def tname (l : List UInt8) : Bool := decide (1 ≤ l.length) && decide (l.length ≤ 12) && l.all low
def floorOk (f : Floor) (q : Int) : Bool := if f.Set then decide (f.At % q = 0) else f.At == 0
def tenantOk (t : Tenant) : Bool := tname t.Name && policyOk t.P && pauseOk t.Pause && decide (0 ≤ t.Epoch) && decide (t.Epoch ≤ 1099511627776) && floorOk t.Floor t.P.Quantum

theorem policyOk_quant {p : Policy} (h : policyOk p = true) : QuantOk p.Quantum := by
  unfold policyOk at h
  simp only [Bool.and_eq_true, decide_eq_true_eq] at h
  exact h.1.1.2

theorem floored_eq (f : Floor) (q : Int) (hf : I64 f.At) (hq : QuantOk q) : tenant_floored f q = some (floorOk f q) := by
  unfold tenant_floored floorOk quant_Is
  rw [quant_Check_eq]
  rw [if_pos hq]
  simp only [Option.isNone_none, cond_true]
  have h0 : ¬ q = 0 := by omega
  simp only [h0, decide_false, cond_false]
  cases f.Set with
  | false => simp
  | true =>
    simp only [Bool.not_true, cond_false, if_true]
    congr 1
    rw [Bool.eq_iff_iff]
    simp only [beq_iff_eq, decide_eq_true_eq]
    rw [← Int.dvd_iff_emod_eq_zero, Int.dvd_iff_tmod_eq_zero]

theorem ref01_Div_eq {a b : Int} (ha : I64 a) (hb : 1 ≤ b ∧ b ≤ 9223372036854775807) : fuseeref01_Div a b = some (a / b, a % b) := by
  unfold fuseeref01_Div
  have h0 : ¬ b = 0 := by omega
  simp only [h0, decide_false, cond_false]
  have e1 := Int.mul_tdiv_add_tmod a b
  have e2 := Int.mul_ediv_add_emod a b
  have hm0 := Int.emod_nonneg a h0
  have hm1 := Int.emod_lt_of_pos a (show 0 < b by omega)
  have r1 := ediv_bounds (a := a) hb.1
  by_cases hn : a < 0
  · have hr := r1.2 hn
    have ht : a.tdiv b = if a % b = 0 then a / b else a / b + 1 := by
      rw [Int.tdiv_eq_ediv]
      have : b.sign = 1 := Int.sign_eq_one_of_pos (by omega)
      rw [this]
      have hd : b ∣ a ↔ a % b = 0 := Int.dvd_iff_emod_eq_zero
      by_cases hc : a % b = 0
      · rw [if_pos (.inr (hd.2 hc)), if_pos hc]; omega
      · rw [if_neg (by rw [hd]; omega), if_neg hc]
    have hlow : a ≤ b * (a / b) + b := by omega
    by_cases hc : a % b = 0
    · rw [if_pos hc] at ht
      have hv : b * (a / b) = a := by omega
      have w0 : wi64 (a.tdiv b) = a / b := by rw [ht, wi64_id (by omega)]
      have w1 : wi64 (a / b * b) = a := by rw [Int.mul_comm, hv, wi64_id ha]
      simp only [w0, w1, hn, decide_true, cond_true, bne_self_eq_false, cond_false]
      rw [wi64_id (x := a - a) (by omega), hc]; simp
    · rw [if_neg hc] at ht
      have w0 : wi64 (a.tdiv b) = a / b + 1 := by rw [ht, wi64_id (by omega)]
      have hv : (a / b + 1) * b = a - a % b + b := by rw [Int.add_mul, Int.mul_comm]; omega
      have hpos : (a / b + 1) * b ≤ 0 := Int.mul_nonpos_of_nonpos_of_nonneg (by omega) (by omega)
      have w1 : wi64 ((a / b + 1) * b) = a - a % b + b := by rw [hv, wi64_id (by omega)]
      have hne : (a - a % b + b != a) = true := by simp only [bne_iff_ne, ne_eq]; omega
      have w2 : wi64 (a / b + 1 - 1) = a / b := by rw [wi64_id (by omega)]; omega
      simp only [w0, w1, hn, hne, decide_true, cond_true, w2]
      -- what is left, though the product may go over
      have : wi64 (a - wi64 (a / b * b)) = a % b := by
        have hv2 : a / b * b = a - a % b := by rw [Int.mul_comm]; omega
        rw [hv2, wi64_eq, wi64_eq]; omega
      rw [this]
  · have hn' : 0 ≤ a := by omega
    have hr := r1.1 hn'
    have ht : a.tdiv b = a / b := Int.tdiv_eq_ediv_of_nonneg hn'
    have hv : a / b * b = a - a % b := by rw [Int.mul_comm]; omega
    have hle : 0 ≤ a / b * b := Int.mul_nonneg hr.1 (by omega)
    simp only [ht, hn, decide_false, cond_false]
    rw [wi64_id (x := a / b) (by omega), hv, wi64_id (x := a - a % b) (by omega), wi64_id (by omega)]
    congr 2; omega

theorem tenant_Check_def (t : Tenant) : tenant_Check t = (bif t.Name == [] then some (some 1) else bif decide ((t.Name.length : Int) > 12) then some (some 1) else match strings_TrimLeft t.Name fineT with
    | none => none
    | some x0 => bif !(x0 == []) then some (some 1) else match policy_Check t.P with
      | none => none
      | some x1 => bif !Option.isNone x1 then some (some 1) else match pause_Check t.Pause with
        | none => none
        | some x2 => bif !Option.isNone x2 then some (some 1) else match tenant_floored t.Floor t.P.Quantum with
          | none => none
          | some x3 => bif !x3 then some (some 1) else bif decide (t.Epoch < 0) then some (some 1) else bif decide (t.Epoch > 1099511627776) then some (some 1) else some none : Option (Option Int)) := by kernel_rfl

theorem tname_cases (l : List UInt8) : ((l == []) = true → tname l = false) ∧ (((l.length : Int) > 12) → tname l = false) ∧ ((l == []) = false → ¬ ((l.length : Int) > 12) → tname l = l.all low) := by
  unfold tname
  refine ⟨fun h => ?_, fun h => ?_, fun h h2 => ?_⟩
  · have : l = [] := by simpa using h
    subst this; rfl
  · have : ¬ l.length ≤ 12 := by omega
    simp [this]
  · have h1 : 1 ≤ l.length := by
      cases l with
      | nil => simp at h
      | cons => simp
    have h3 : l.length ≤ 12 := by omega
    simp [h1, h3]

theorem tenant_Check_eq (t : Tenant) (h : TenantV t) : tenant_Check t = some (if tenantOk t then none else some 1) := by
  rw [tenant_Check_def, trimT _ h.name]
  obtain ⟨c1, c2, c3⟩ := tname_cases t.Name
  unfold tenantOk
  cases e1 : (t.Name == []) with
  | true => simp [c1 e1]
  | false =>
    by_cases e2 : (t.Name.length : Int) > 12
    · simp [e2, c2 e2]
    · rw [c3 e1 e2]
      simp only [e2, decide_false, cond_false, trim_all (l := t.Name) fineT_eq]
      cases t.Name.all low with
      | false => simp
      | true =>
        simp only [Bool.not_true, cond_false, Bool.true_and, policy_Check_eq _ h.p]
        cases hp : policyOk t.P with
        | false => simp
        | true =>
          simp only [if_true, Option.isNone_none, Bool.not_true, cond_false, Bool.true_and, pause_Check_eq _ h.pause]
          cases pauseOk t.Pause with
          | false => simp
          | true =>
            simp only [if_true, Option.isNone_none, Bool.not_true, cond_false, Bool.true_and, floored_eq _ _ h.floor (policyOk_quant hp)]
            cases floorOk t.Floor t.P.Quantum with
            | false => simp
            | true =>
              by_cases d1 : t.Epoch < 0
              · have : ¬ 0 ≤ t.Epoch := by omega
                simp [d1, this]
              · have : 0 ≤ t.Epoch := by omega
                by_cases d2 : t.Epoch > 1099511627776
                · have : ¬ t.Epoch ≤ 1099511627776 := by omega
                  simp [d1, d2, this]
                · have : t.Epoch ≤ 1099511627776 := by omega
                  simp [d1, d2, this]

theorem ref29_Name_eq' (l : List UInt8) (h : StrOk l) : fuseeref29_Name l = some (tname l) := by
  rw [ref29_Name_eq l h]
  congr 1
  unfold tname
  rw [Bool.eq_iff_iff]
  simp [and_assoc]

theorem ref29_May_eq (t : Tenant) (h : TenantV t) : fuseeref29_May t = some (tenantOk t) := by
  unfold fuseeref29_May tenantOk
  rw [ref29_Name_eq' _ h.name, ref28_May_eq _ h.p, ref27_May_eq]
  generalize tname t.Name = b1
  cases b1 with
  | false => simp
  | true =>
    cases hp : policyOk t.P with
    | false => simp
    | true =>
      have hq := policyOk_quant hp
      simp only [ref01_Div_eq h.floor (show 1 ≤ t.P.Quantum ∧ t.P.Quantum ≤ 9223372036854775807 by omega)]
      cases pauseOk t.Pause with
      | false => simp
      | true =>
        by_cases d1 : t.Epoch < 0
        · have : ¬ 0 ≤ t.Epoch := by omega
          simp [d1, this]
        · have e0 : 0 ≤ t.Epoch := by omega
          by_cases d2 : t.Epoch > 1099511627776
          · have : ¬ t.Epoch ≤ 1099511627776 := by omega
            simp [d1, d2, this]
          · have e1 : t.Epoch ≤ 1099511627776 := by omega
            unfold floorOk
            have e2 : (t.Floor.At % t.P.Quantum == 0) = decide (t.Floor.At % t.P.Quantum = 0) := by rw [Bool.eq_iff_iff]; simp
            cases t.Floor.Set <;> simp [d1, d2, e0, e1, e2]

end Vm.Fu
end

section
namespace Vm.Fu
open Go

/-- Rising seconds. -/
def Rising (L : List Rule) : Prop := ∀ (i j : Nat) (r q : Rule), i < j → L[i]? = some r → L[j]? = some q → r.At < q.At

theorem rising_of {L : List Rule} (h : rulesOk L = true) : Rising L := by
  have h1 : ∀ i, i + 1 < L.length → ∀ r q, L[i]? = some r → L[i + 1]? = some q → r.At < q.At := by
    intro i hi r q hr hq
    have := (rules_iff L).2 h (i + 1) hi
    unfold ruleAt at this
    rw [hq] at this
    simp only [hr, Bool.and_eq_true, decide_eq_true_eq] at this
    exact this.2
  intro i j r q hij hr hq
  have key : ∀ d r q, L[i]? = some r → L[i + d + 1]? = some q → r.At < q.At := by
    intro d
    induction d with
    | zero =>
      intro r q hr hq
      have hlt : i + 1 < L.length := (List.getElem?_eq_some_iff.1 hq).1
      exact h1 i hlt r q hr hq
    | succ d ih =>
      intro r q hr hq
      have hlt : i + (d + 1) + 1 < L.length := (List.getElem?_eq_some_iff.1 hq).1
      have hm : L[i + d + 1]? = some L[i + d + 1] := List.getElem?_eq_getElem (by omega)
      have a := ih r _ hr hm
      have b := h1 (i + d + 1) (by omega) _ q hm (by rw [← hq]; congr 1)
      omega
  have : i + (j - i - 1) + 1 = j := by omega
  exact key (j - i - 1) r q hr (by rw [this]; exact hq)

/-- How many rules are in force at a second. -/
def cnt (L : List Rule) (s : Int) : Nat := (L.takeWhile fun r => decide (r.At ≤ s)).length

theorem cnt_le (L : List Rule) (s : Int) : cnt L s ≤ L.length := by
  unfold cnt
  exact (List.takeWhile_prefix _).length_le

theorem cnt_lt {L : List Rule} {s : Int} {i : Nat} (h : i < cnt L s) : ∃ r, L[i]? = some r ∧ r.At ≤ s := by
  unfold cnt at h
  have hp := List.takeWhile_prefix (l := L) fun r => decide (r.At ≤ s)
  have hi : (L.takeWhile fun r => decide (r.At ≤ s))[i]? = some ((L.takeWhile fun r => decide (r.At ≤ s))[i]'h) := List.getElem?_eq_getElem h
  have hm := List.getElem_mem (l := L.takeWhile fun r => decide (r.At ≤ s)) h
  have hall : ∀ x ∈ L.takeWhile (fun r => decide (r.At ≤ s)), x.At ≤ s := by
    intro x hx
    have := List.all_takeWhile (l := L) (p := fun r => decide (r.At ≤ s))
    rw [List.all_eq_true] at this
    simpa using this x hx
  refine ⟨_, ?_, hall _ hm⟩
  obtain ⟨t, ht⟩ := hp
  have := congrArg (·[i]?) ht
  rw [List.getElem?_append_left h] at this
  rw [← this, hi]

theorem cnt_at {L : List Rule} {s : Int} {r : Rule} (h : L[cnt L s]? = some r) : s < r.At := by
  unfold cnt at h
  induction L with
  | nil => simp at h
  | cons q L ih =>
    rw [List.takeWhile_cons] at h
    by_cases hq : q.At ≤ s
    · simp only [hq, decide_true, if_true, List.length_cons, List.getElem?_cons_succ] at h
      exact ih h
    · simp [hq] at h
      subst h; omega

theorem cnt_ge {L : List Rule} (hL : Rising L) {s : Int} {i : Nat} {r : Rule} (h : cnt L s ≤ i) (hr : L[i]? = some r) : s < r.At := by
  have hlt : i < L.length := (List.getElem?_eq_some_iff.1 hr).1
  have hc : L[cnt L s]? = some L[cnt L s] := List.getElem?_eq_getElem (by omega)
  have h1 := cnt_at hc
  rcases Nat.lt_or_ge (cnt L s) i with h2 | h2
  · have := hL _ _ _ _ h2 hc hr; omega
  · have : cnt L s = i := by omega
    subst this
    rw [hr] at hc
    cases hc; exact h1

/-- The reference: rule by rule. -/
def accN (z : Zone) (s : Int) (i : Nat) : Int × List UInt8 := match z.L[min i (cnt z.L s) - 1]? with
  | some r => if min i (cnt z.L s) = 0 then (z.First, z.Name) else (r.Off, r.Name)
  | none => (z.First, z.Name)

def zoneAt (z : Zone) (s : Int) : Int × List UInt8 := match cnt z.L s with
  | 0 => (z.First, z.Name)
  | n + 1 => match z.L[n]? with | some r => (r.Off, r.Name) | none => (z.First, z.Name)

theorem accN_zero (z : Zone) (s : Int) : accN z s 0 = (z.First, z.Name) := by
  unfold accN
  simp only [Nat.zero_min, if_true]
  split <;> rfl

theorem accN_le {z : Zone} {s : Int} {i : Nat} (h : i < cnt z.L s) {r : Rule} (hr : z.L[i]? = some r) : accN z s (i + 1) = (r.Off, r.Name) := by
  unfold accN
  have : min (i + 1) (cnt z.L s) = i + 1 := by omega
  rw [this, Nat.add_sub_cancel, hr]
  simp

theorem accN_ge {z : Zone} {s : Int} {i : Nat} (h : cnt z.L s ≤ i) : accN z s (i + 1) = accN z s i := by
  unfold accN
  have h1 : min (i + 1) (cnt z.L s) = cnt z.L s := by omega
  have h2 : min i (cnt z.L s) = cnt z.L s := by omega
  rw [h1, h2]

theorem accN_end (z : Zone) (s : Int) : accN z s z.L.length = zoneAt z s := by
  unfold accN zoneAt
  have := cnt_le z.L s
  rw [show min z.L.length (cnt z.L s) = cnt z.L s by omega]
  cases hc : cnt z.L s with
  | zero => simp only [if_true]; split <;> rfl
  | succ n => simp

theorem ref10_At_eq (z : Zone) (hz : ZoneV z) (hL : Rising z.L) (s : Int) : fuseeref10_At z s = some (zoneAt z s) := by
  have hlen := hz.len
  have := iterN_run (step := fuseeref10_At_l3_s) (fun i => (s, (accN z s i).1, (accN z s i).2, (i : Int), z)) z.L.length (zoneAt z s) (fun i hi => by
      have hx : z.L[i]? = some z.L[i] := List.getElem?_eq_getElem hi
      generalize z.L[i] = x at hx
      unfold fuseeref10_At_l3_s
      have h1 : wi64 ((i : Int) + 1) = ((i + 1 : Nat) : Int) := by rw [wi64_id (by omega)]; omega
      have h2 : (i : Int) < (z.L.length : Int) := by omega
      have h3 : (0 : Int) ≤ (i : Int) := by omega
      simp only [Int.toNat_natCast, hx, h1, h2, h3, decide_true, cond_true]
      by_cases hc : i < cnt z.L s
      · obtain ⟨r, hr, hle⟩ := cnt_lt hc
        rw [hx] at hr; cases hr
        rw [accN_le hc hx]
        simp [hle]
      · have hgt := cnt_ge hL (s := s) (by omega) hx
        rw [accN_ge (by omega)]
        have : ¬ x.At ≤ s := by omega
        simp [this])
    (by unfold fuseeref10_At_l3_s; simp [accN_end]) FUEL (fuel_big hz.len)
  unfold fuseeref10_At fuseeref10_At_l3
  have e : iterN fuseeref10_At_l3_s FUEL (s, z.First, z.Name, 0, z) = some (zoneAt z s) := by
    refine Eq.trans ?_ this
    simp only [accN_zero]
    rfl
  rw [e]

/-! the program: by halves -/

theorem cmp_eq (a b : Int) : cmp_Compare_int64 a b = some (if a < b then -1 else if a > b then 1 else 0) := by
  unfold cmp_Compare_int64 cmp_isNaN_int64
  simp only [Bool.cond_eq_ite, decide_eq_true_eq]
  by_cases h : a < b
  · simp [h]
  · by_cases h2 : a > b
    · simp [h, h2]
    · simp [h, h2]

theorem behind_c1_eq (r : Rule) (s : Int) : zone_behind_c1 r s = some (if r.At < s then -1 else if r.At > s then 1 else 0) := by
  unfold zone_behind_c1; rw [cmp_eq]

/-- How many rules are below a second. -/
def below (L : List Rule) (s : Int) : Nat := cnt L (s - 1)

theorem half (a b : Int) (ha : 0 ≤ a) (hb : a ≤ b) (hb2 : b ≤ 4611686018427387903) : wi64 (Int.fdiv (wu64 (wi64 (a + b))) 2) = (a + b) / 2 := by
  rw [wi64_id (x := a + b) (by omega)]
  have : wu64 (a + b) = a + b := by
    show (let m := (a + b) % (2 ^ 64 : Int); if (false && decide (m ≥ (2 ^ 63 : Int))) = true then m - (2 ^ 64 : Int) else m) = _
    simp; omega
  rw [this, Int.fdiv_eq_ediv_of_nonneg _ (by omega), wi64_id (by omega)]

theorem bs_loop (L : List Rule) (hL : Rising L) (s n : Int) (hlen : L.length ≤ 4611686018427387903) :
    slices_BinarySearchFunc_zone_Rule_zone_Rule_int64__zone_behind_c1_l3 (L, s, n, 0, (L.length : Int)) = some (L, s, n, ((below L s : Nat) : Int)) := by
  have key := iterN_inv (step := slices_BinarySearchFunc_zone_Rule_zone_Rule_int64__zone_behind_c1_l3_s)
    (fun d a => ∃ i j : Nat, a = (L, s, n, (i : Int), (j : Int)) ∧ j - i ≤ d ∧ i ≤ below L s ∧ below L s ≤ j ∧ j ≤ L.length) (L, s, n, ((below L s : Nat) : Int)) (by
    rintro d _ ⟨i, j, rfl, hd, hi, hj, hjl⟩
    unfold slices_BinarySearchFunc_zone_Rule_zone_Rule_int64__zone_behind_c1_l3_s
    by_cases hij : i < j
    · right
      have h1 : (i : Int) < (j : Int) := by omega
      have hh := half (i : Int) (j : Int) (by omega) (by omega) (by omega)
      have hk : ((i : Int) + (j : Int)) / 2 = (((i + j) / 2 : Nat) : Int) := by omega
      have hkl : (i + j) / 2 < L.length := by omega
      have hx : L[(i + j) / 2]? = some L[(i + j) / 2] := List.getElem?_eq_getElem hkl
      generalize L[(i + j) / 2] = x at hx
      have h3 : (0 : Int) ≤ (((i + j) / 2 : Nat) : Int) := by omega
      simp only [h1, hh, hk, h3, Int.toNat_natCast, hx, decide_true, cond_true, behind_c1_eq]
      have h4 : wi64 ((((i + j) / 2 : Nat) : Int) + 1) = (((i + j) / 2 + 1 : Nat) : Int) := by rw [wi64_id (by omega)]; omega
      by_cases hc : x.At < s
      · have hb : (i + j) / 2 < below L s := by
          rcases Nat.lt_or_ge ((i + j) / 2) (below L s) with h | h
          · exact h
          · have := cnt_ge hL (s := s - 1) h hx; omega
        refine ⟨(L, s, n, (((i + j) / 2 + 1 : Nat) : Int), (j : Int)), d - 1, ?_, by omega, (i + j) / 2 + 1, j, rfl, by omega, by omega, hj, hjl⟩
        simp only [hc, if_true, h4]
        rfl
      · have hb : below L s ≤ (i + j) / 2 := by
          rcases Nat.lt_or_ge ((i + j) / 2) (below L s) with h | h
          · obtain ⟨r, hr, hle⟩ := cnt_lt h
            rw [hx] at hr; cases hr; omega
          · exact h
        have h5 : ¬ ((if x.At < s then (-1 : Int) else if x.At > s then 1 else 0) < 0) := by
          rw [if_neg hc]; split <;> omega
        refine ⟨(L, s, n, (i : Int), (((i + j) / 2 : Nat) : Int)), d - 1, ?_, by omega, i, (i + j) / 2, rfl, by omega, hi, hb, by omega⟩
        simp only [h5, decide_false, cond_false]
    · left
      have h1 : ¬ (i : Int) < (j : Int) := by omega
      have : i = below L s := by omega
      simp only [h1, decide_false, cond_false]
      rw [← this])
  unfold slices_BinarySearchFunc_zone_Rule_zone_Rule_int64__zone_behind_c1_l3
  exact key L.length _ ⟨0, L.length, rfl, by omega, by omega, cnt_le L _, Nat.le_refl _⟩ FUEL (by unfold FUEL; omega)

/-- A rule that begins just then counts too. -/
theorem cnt_below {L : List Rule} (hL : Rising L) (s : Int) : cnt L s = below L s + (if (L[below L s]?.any fun r => decide (r.At = s)) = true then 1 else 0) := by
  have hb := cnt_le L (s - 1)
  have hc := cnt_le L s
  have h1 : below L s ≤ cnt L s := by
    rcases Nat.lt_or_ge (cnt L s) (below L s) with h | h
    · obtain ⟨r, hr, hle⟩ := cnt_lt h
      have := cnt_at hr; omega
    · exact h
  unfold below at *
  cases hx : L[cnt L (s - 1)]? with
  | none =>
    have : L.length ≤ cnt L (s - 1) := by simpa using hx
    simp; omega
  | some r =>
    have hgt := cnt_at hx
    simp only [Option.any_some]
    by_cases he : r.At = s
    · simp only [he, decide_true, if_true]
      have h2 : cnt L (s - 1) < cnt L s := by
        rcases Nat.lt_or_ge (cnt L (s - 1)) (cnt L s) with h | h
        · exact h
        · have := cnt_ge hL h hx; omega
      rcases Nat.lt_or_ge (cnt L (s - 1) + 1) (cnt L s) with h | h
      · obtain ⟨q, hq, hle⟩ := cnt_lt h
        have := hL _ _ _ _ (Nat.lt_succ_self _) hx hq
        omega
      · omega
    · simp only [he, decide_false, if_false]
      rcases Nat.lt_or_ge (cnt L (s - 1)) (cnt L s) with h | h
      · obtain ⟨q, hq, hle⟩ := cnt_lt h
        rw [hx] at hq; cases hq; omega
      · simp; omega

theorem zone_behind_eq (z : Zone) (hL : Rising z.L) (hlen : z.L.length ≤ 32) (s : Int) : zone_behind z s = some ((cnt z.L s : Nat) : Int) := by
  unfold zone_behind slices_BinarySearchFunc_zone_Rule_zone_Rule_int64__zone_behind_c1
  rw [bs_loop z.L hL s _ (by omega), cnt_below hL s]
  have hb := cnt_le z.L (s - 1)
  unfold below at *
  simp only
  by_cases hlt : cnt z.L (s - 1) < z.L.length
  · have h1 : ((cnt z.L (s - 1) : Nat) : Int) < (z.L.length : Int) := by omega
    have h2 : (0 : Int) ≤ ((cnt z.L (s - 1) : Nat) : Int) := by omega
    have hx : z.L[cnt z.L (s - 1)]? = some z.L[cnt z.L (s - 1)] := List.getElem?_eq_getElem hlt
    have hgt := cnt_at hx
    generalize z.L[cnt z.L (s - 1)] = r at hx hgt
    simp only [h1, h2, decide_true, cond_true, Int.toNat_natCast, hx, behind_c1_eq, Option.any_some]
    by_cases he : r.At = s
    · have e1 : ¬ r.At < s := by omega
      have e2 : ¬ r.At > s := by omega
      simp only [he, e1, e2, if_false, decide_true, if_true]
      have : wi64 (((cnt z.L (s - 1) : Nat) : Int) + 1) = ((cnt z.L (s - 1) + 1 : Nat) : Int) := by rw [wi64_id (by omega)]; omega
      simp [this]
    · have e1 : ¬ r.At < s := by omega
      have e2 : r.At > s := by omega
      simp [he, e1, e2]
  · have h1 : ¬ ((cnt z.L (s - 1) : Nat) : Int) < (z.L.length : Int) := by omega
    have hx : z.L[cnt z.L (s - 1)]? = none := by simp; omega
    simp [h1, hx]

theorem zone_At_eq (z : Zone) (hz : ZoneV z) (ho : zoneOk z = true) (s : Int) : zone_At z s = some ((zoneAt z s).1, (zoneAt z s).2, none) := by
  unfold zone_At
  have h1 : z.L.length ≤ 32 ∧ rulesOk z.L = true := by
    unfold zoneOk at ho
    simp only [Bool.and_eq_true, decide_eq_true_eq] at ho
    exact ⟨ho.1.2, ho.2⟩
  have hL := rising_of h1.2
  rw [zone_Check_eq z hz, ho]
  simp only [if_true, Option.isNone_none, Bool.not_true, cond_false, zone_behind_eq z hL h1.1]
  unfold zoneAt
  have hc := cnt_le z.L s
  cases hk : cnt z.L s with
  | zero => simp
  | succ n =>
    have hn : z.L[n]? = some z.L[n] := List.getElem?_eq_getElem (by omega)
    generalize z.L[n] = r at hn
    have h0 : (((n + 1 : Nat) : Int) == 0) = false := by simp; omega
    have hw : wi64 (((n + 1 : Nat) : Int) - 1) = (n : Int) := by rw [wi64_id (by omega)]; omega
    have hp : (0 : Int) ≤ (n : Int) := by omega
    simp only [h0, cond_false, hw, hp, decide_true, cond_true, Int.toNat_natCast, hn]

end Vm.Fu
end
