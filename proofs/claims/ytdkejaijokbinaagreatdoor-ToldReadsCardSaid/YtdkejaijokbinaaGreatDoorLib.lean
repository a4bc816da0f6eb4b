/- The library functions that the program calls do what their plain texts say; no conditions. -/
import Derived.Test.YtdkejaijokbinaaGreatDoorTab
import Derived.Test.YtdkejaijokbinaaGreatDoorErrAs
import Derived.Lib.SplitLaws
import Derived.Test.YtdkejaijokbinaaGreatDoorShelf
import Derived.Shelf.Strings.SlTrimAscii
import Derived.Lib.SlTrimSet
set_option linter.all false

namespace Vm.Tryz
open Go Vm Vm.Fu

theorem data_mk (l : List UInt8) : (⟨l.toArray⟩ : ByteArray).data.toList = l := by simp
theorem size_mk (l : List UInt8) : (⟨l.toArray⟩ : ByteArray).size = l.length := by simp [ByteArray.size]

theorem glob4 {w : World} {M : Nat → Prop} (h : Glob (S := GG) w M) : Lib.TabIs PT w "internal/strconv.uint64pow10" .u64 Lib.pow10Tab := by
  obtain ⟨cs, t, f, h1, h2⟩ := glob_at (e := 74) h (x := (4, fun cs => cs = (Lib.pow10Tab.map fun z => Value.int .u64 z).toArray)) (by simp [globs])
  have hg : PT.globalNamed "internal/strconv.uint64pow10" = some 4 := by kernel_rfl
  unfold Lib.TabIs World.var?
  rw [hg]
  simp only [Option.bind_some]
  have h1' : w.heap[4]? = some (.cells cs t f) := h1
  rw [h1']
  have h2' : cs = (Lib.pow10Tab.map fun z => Value.int .u64 z).toArray := h2
  rw [h2']

theorem glob1 {w : World} {M : Nat → Prop} (h : Glob (S := GG) w M) : ∃ m, w.cell? ⟨1, 0, none⟩ = some (.int .i64 m) := by
  obtain ⟨cs, t, f, h1, m, h2⟩ := glob_at (e := 74) h (x := (1, fun cs => ∃ m, cs[0]? = some (.int .i64 m))) (by simp [globs])
  exact ⟨m, cell_of h1 h2⟩
theorem glob2 {w : World} {M : Nat → Prop} (h : Glob (S := GG) w M) : ∃ t v, w.cell? ⟨2, 0, none⟩ = some (.iface t v) := by
  obtain ⟨cs, t, f, h1, a, b, h2⟩ := glob_at (e := 74) h (x := (2, fun cs => ∃ t v, cs[0]? = some (.iface t v))) (by simp [globs])
  exact ⟨a, b, cell_of h1 h2⟩
theorem glob3 {w : World} {M : Nat → Prop} (h : Glob (S := GG) w M) : ∃ t v, w.cell? ⟨3, 0, none⟩ = some (.iface t v) := by
  obtain ⟨cs, t, f, h1, a, b, h2⟩ := glob_at (e := 74) h (x := (3, fun cs => ∃ t v, cs[0]? = some (.iface t v))) (by simp [globs])
  exact ⟨a, b, cell_of h1 h2⟩

theorem int64_iff {n : Int} (h : int64 n = true) : -9223372036854775808 ≤ n ∧ n ≤ 9223372036854775807 := by
  unfold int64 at h; simpa using h

/-! strconv.Itoa -/
theorem c143 (n : Int) (r : List UInt8) (hr0 : strconv_Itoa n = some r) (w : World) (M : Nat → Prop) (hM : ∀ x, M x → x < w.heap.size) (hgl : Glob (S := GG) w M) :
    Calls PT 143 #[.int .i64 n] w fun en w' => ∃ us, en = .returned (retVal us) ∧ Chg (fun _ => False) w w' ∧ RelVs (S := GG) w' M [L9] ((r, ()), ()) us := by
  unfold strconv_Itoa at hr0
  cases hi : int64 n with
  | false => simp [hi] at hr0
  | true =>
    simp only [hi, cond_true, Option.some.injEq] at hr0
    subst hr0
    obtain ⟨h1, h2⟩ := int64_iff hi
    refine (Go.Proofs.Tryz.strconv_Itoa n h1 h2 w (glob4 hgl)).mono ?_
    rintro en w' ⟨rfl, k, os, rfl⟩
    refine ⟨[_], rfl, (chg_drewN w k).trans (chg_grow _ os) (fun x h => h.elim), k_str _, trivial⟩

theorem ok143 : CallsTo PT 143 [L3] [L9] (fun d => (strconv_Itoa d.1.1).map (fun r => ((r, ()), ()))) := by
  intro d res h w M vs hM hgl hr
  obtain ⟨r, hr0, rfl⟩ := Option.map_eq_some_iff.1 h
  match vs, hr with
  | [v], hr =>
    obtain rfl := q_int (k := .i64) hr.1
    exact c143 d.1.1 r hr0 w M hM hgl

/-! strconv.FormatInt -/
theorem c44 (n b : Int) (r : List UInt8) (hr0 : strconv_FormatInt n b = some r) (w : World) (M : Nat → Prop) (hM : ∀ x, M x → x < w.heap.size) (hgl : Glob (S := GG) w M) :
    Calls PT 44 #[.int .i64 n, .int .i64 b] w fun en w' => ∃ us, en = .returned (retVal us) ∧ Chg (fun _ => False) w w' ∧ RelVs (S := GG) w' M [L9] ((r, ()), ()) us := by
  unfold strconv_FormatInt at hr0
  cases hi : ((b == 10) && int64 n) with
  | false => simp [hi] at hr0
  | true =>
    simp only [hi, cond_true, Option.some.injEq] at hr0
    subst hr0
    simp only [Bool.and_eq_true, beq_iff_eq] at hi
    obtain ⟨rfl, hi⟩ := hi
    obtain ⟨h1, h2⟩ := int64_iff hi
    refine (Go.Proofs.Tryz.strconv_FormatInt_10 n h1 h2 w (glob4 hgl)).mono ?_
    rintro en w' ⟨rfl, k, os, rfl⟩
    refine ⟨[_], rfl, (chg_drewN w k).trans (chg_grow _ os) (fun x h => h.elim), k_str _, trivial⟩

theorem ok44 : CallsTo PT 44 [L2, L3] [L9] (fun d => (strconv_FormatInt d.1.1 d.2.1.1).map (fun r => ((r, ()), ()))) := by
  intro d res h w M vs hM hgl hr
  obtain ⟨r, hr0, rfl⟩ := Option.map_eq_some_iff.1 h
  match vs, hr with
  | [v, u], hr =>
    obtain rfl := q_int (k := .i64) hr.1
    obtain rfl := q_int (k := .i64) hr.2.1
    exact c44 d.1.1 d.2.1.1 r hr0 w M hM hgl

/-! strings.Repeat -/
theorem c36 (s : List UInt8) (n : Int) (r : List UInt8) (hr0 : strings_Repeat s n = some r) (w : World) (M : Nat → Prop) (hM : ∀ x, M x → x < w.heap.size) (hgl : Glob (S := GG) w M) :
    Calls PT 36 #[.string ⟨s.toArray⟩, .int .i64 n] w fun en w' => ∃ us, en = .returned (retVal us) ∧ Chg (fun _ => False) w w' ∧ RelVs (S := GG) w' M [L9] ((r, ()), ()) us := by
  unfold strings_Repeat at hr0
  cases hc : (decide (0 ≤ n) && Nat.ble (s.length * n.toNat) 140737488355328 && Nat.ble n.toNat 9223372036854775807) with
  | false => simp [hc] at hr0
  | true =>
    simp only [hc, cond_true, Option.some.injEq] at hr0
    subst hr0
    simp only [Bool.and_eq_true, decide_eq_true_eq] at hc
    obtain ⟨⟨h0, h1⟩, h2⟩ := hc
    have h1 := Nat.le_of_ble_eq_true h1
    have h2 := Nat.le_of_ble_eq_true h2
    obtain ⟨c, rfl⟩ : ∃ c : Nat, n = (c : Int) := ⟨n.toNat, by omega⟩
    simp only [Int.toNat_natCast] at h1 h2 ⊢
    match c with
    | 0 =>
      refine (Go.Proofs.Tryz.strings_Repeat_zero ⟨s.toArray⟩ w).mono ?_
      rintro en w' ⟨rfl, rfl⟩
      exact ⟨[_], rfl, Chg.refl _ _, k_str [], trivial⟩
    | 1 =>
      refine (Go.Proofs.Tryz.strings_Repeat_one ⟨s.toArray⟩ w).mono ?_
      rintro en w' ⟨rfl, rfl⟩
      rw [Lib.repeatL_one]
      exact ⟨[_], rfl, Chg.refl _ _, k_str s, trivial⟩
    | c + 2 =>
      by_cases hs : s.length = 0
      · refine (Go.Proofs.Tryz.strings_Repeat_empty ⟨s.toArray⟩ (c + 2) w (by omega) h2 (by rw [size_mk]; exact hs)).mono ?_
        rintro en w' ⟨rfl, rfl⟩
        have hs' : s = [] := List.eq_nil_of_length_eq_zero hs
        subst hs'
        rw [Lib.repeatL_nil]
        exact ⟨[_], rfl, Chg.refl _ _, k_str [], trivial⟩
      · refine (Go.Proofs.Tryz.strings_Repeat_main ⟨s.toArray⟩ (c + 2) w (by omega) h2 (by rw [size_mk]; exact h1) (by rw [size_mk]; omega)).mono ?_
        rintro en w' ⟨rfl, hb⟩
        refine ⟨[_], rfl, chg_below hb, ?_, trivial⟩
        have := k_str (e := 74) (g := globs) (w := w') (M := M) (Lib.repeatL (⟨s.toArray⟩ : ByteArray).data.toList (c + 2))
        rw [data_mk] at this
        exact this

theorem ok36 : CallsTo PT 36 [L9, L3] [L9] (fun d => (strings_Repeat d.1.1 d.2.1.1).map (fun r => ((r, ()), ()))) := by
  intro d res h w M vs hM hgl hr
  obtain ⟨r, hr0, rfl⟩ := Option.map_eq_some_iff.1 h
  match vs, hr with
  | [v, u], hr =>
    obtain rfl := q_str hr.1
    obtain rfl := q_int (k := .i64) hr.2.1
    exact c36 d.1.1 d.2.1.1 r hr0 w M hM hgl

/-! strings.TrimRight -/
theorem c45 (s cs : List UInt8) (r : List UInt8) (hr0 : strings_TrimRight s cs = some r) (w : World) (M : Nat → Prop) (hM : ∀ x, M x → x < w.heap.size) (hgl : Glob (S := GG) w M) :
    Calls PT 45 #[.string ⟨s.toArray⟩, .string ⟨cs.toArray⟩] w fun en w' => ∃ us, en = .returned (retVal us) ∧ Chg (fun _ => False) w w' ∧ RelVs (S := GG) w' M [L9] ((r, ()), ()) us := by
  unfold strings_TrimRight at hr0
  split at hr0
  · rename_i c
    cases hc : (Nat.blt c.toNat 128 && Nat.ble s.length 9223372036854775807) with
    | false => simp [hc] at hr0
    | true =>
      simp only [hc, cond_true, Option.some.injEq] at hr0
      subst hr0
      simp only [Bool.and_eq_true] at hc
      have h1 : c.toNat < 128 := Nat.le_of_ble_eq_true hc.1
      have h2 := Nat.le_of_ble_eq_true hc.2
      refine (Go.Proofs.Tryz.strings_TrimRight_one ⟨s.toArray⟩ c h1 w (by rw [size_mk]; exact h2)).mono ?_
      rintro en w' ⟨rfl, rfl⟩
      exact ⟨[_], rfl, Chg.refl _ _, k_str _, trivial⟩
  · cases hr0

theorem ok45 : CallsTo PT 45 [L9, L9] [L9] (fun d => (strings_TrimRight d.1.1 d.2.1.1).map (fun r => ((r, ()), ()))) := by
  intro d res h w M vs hM hgl hr
  obtain ⟨r, hr0, rfl⟩ := Option.map_eq_some_iff.1 h
  match vs, hr with
  | [v, u], hr =>
    obtain rfl := q_str hr.1
    obtain rfl := q_str hr.2.1
    exact c45 d.1.1 d.2.1.1 r hr0 w M hM hgl

/-! strings.TrimLeft -/
theorem c38 (s cs : List UInt8) (r : List UInt8) (hr0 : strings_TrimLeft s cs = some r) (w : World) (M : Nat → Prop) (hM : ∀ x, M x → x < w.heap.size) (hgl : Glob (S := GG) w M) :
    Calls PT 38 #[.string ⟨s.toArray⟩, .string ⟨cs.toArray⟩] w fun en w' => ∃ us, en = .returned (retVal us) ∧ Chg (fun _ => False) w w' ∧ RelVs (S := GG) w' M [L9] ((r, ()), ()) us := by
  unfold strings_TrimLeft at hr0
  cases hc : (cs.all (fun c => Nat.blt c.toNat 128) && Nat.ble s.length 9223372036854775807 && Nat.ble 1 cs.length && Nat.ble cs.length 1000) with
  | false => simp [hc] at hr0
  | true =>
    simp only [hc, cond_true, Option.some.injEq] at hr0
    subst hr0
    simp only [Bool.and_eq_true, List.all_eq_true] at hc
    obtain ⟨⟨⟨h1, h2⟩, h3⟩, h4⟩ := hc
    have h4 := Nat.le_of_ble_eq_true h4
    refine (Go.Proofs.Any.strings_TrimLeft_laid Go.Proofs.Tryz.lays161 (by kernel_rfl) ⟨s.toArray⟩ ⟨cs.toArray⟩ w (by rw [size_mk]; omega) (by
      intro j b hb
      rw [data_mk] at hb
      exact Nat.le_of_ble_eq_true (h1 b (List.mem_of_getElem? hb)))).mono ?_
    rintro en w' ⟨rfl, hb⟩
    refine ⟨[_], rfl, chg_below hb, ?_, trivial⟩
    have := k_str (e := 74) (g := globs) (w := w') (M := M) (Lib.trimLeftS (⟨s.toArray⟩ : ByteArray).data.toList (⟨cs.toArray⟩ : ByteArray).data.toList)
    rw [data_mk, data_mk] at this
    exact this

theorem ok38 : CallsTo PT 38 [L9, L9] [L9] (fun d => (strings_TrimLeft d.1.1 d.2.1.1).map (fun r => ((r, ()), ()))) := by
  intro d res h w M vs hM hgl hr
  obtain ⟨r, hr0, rfl⟩ := Option.map_eq_some_iff.1 h
  match vs, hr with
  | [v, u], hr =>
    obtain rfl := q_str hr.1
    obtain rfl := q_str hr.2.1
    exact c38 d.1.1 d.2.1.1 r hr0 w M hM hgl

/-! strings.Split -/
theorem c69 (s p : List UInt8) (r : List (List UInt8)) (hr0 : strings_Split s p = some r) (w : World) (M : Nat → Prop) (hM : ∀ x, M x → x < w.heap.size) (hgl : Glob (S := GG) w M) :
    Calls PT 69 #[.string ⟨s.toArray⟩, .string ⟨p.toArray⟩] w fun en w' => ∃ us, en = .returned (retVal us) ∧ Chg (fun _ => False) w w' ∧ RelVs (S := GG) w' M [L147] ((r, ()), ()) us := by
  unfold strings_Split at hr0
  cases hc : (Nat.blt s.length 4294967281 && Nat.ble 1 p.length) with
  | false => simp [hc] at hr0
  | true =>
    simp only [hc, cond_true, Option.some.injEq] at hr0
    subst hr0
    simp only [Bool.and_eq_true] at hc
    have h1 : s.length < 4294967281 := Nat.le_of_ble_eq_true hc.1
    have h2 := Nat.le_of_ble_eq_true hc.2
    obtain ⟨m, hm⟩ := glob1 hgl
    refine (Go.Proofs.Tryz.strings_Split ⟨s.toArray⟩ ⟨p.toArray⟩ m w (by rw [size_mk]; exact h1) hm (by rw [size_mk]; exact h2)).mono ?_
    rintro en w' ⟨rfl, rfl⟩
    have hd := Lib.splitB_data ⟨p.toArray⟩ 0 (Lib.countB ⟨s.toArray⟩ ⟨p.toArray⟩) ⟨s.toArray⟩
    rw [data_mk, data_mk] at hd
    have hcnt : Lib.countB ⟨s.toArray⟩ ⟨p.toArray⟩ = Lib.count s p := by
      show Lib.count _ _ = _
      rw [data_mk, data_mk]
    have hsp : Lib.split s p = (Lib.splitB ⟨p.toArray⟩ 0 (Lib.countB ⟨s.toArray⟩ ⟨p.toArray⟩) ⟨s.toArray⟩).map (·.data.toList) := by
      rw [hd, hcnt]; rfl
    have hlen : (Lib.splitB ⟨p.toArray⟩ 0 (Lib.countB ⟨s.toArray⟩ ⟨p.toArray⟩) ⟨s.toArray⟩).length = Lib.countB ⟨s.toArray⟩ ⟨p.toArray⟩ + 1 := Lib.splitB_all ⟨p.toArray⟩ (by rw [size_mk]; exact h2) 0 _ ⟨s.toArray⟩ rfl
    have hcells : (Lib.splitB ⟨p.toArray⟩ 0 (Lib.countB ⟨s.toArray⟩ ⟨p.toArray⟩) ⟨s.toArray⟩).map Value.string = (Lib.split s p).map fun l => Value.string ⟨l.toArray⟩ := by
      rw [hsp, List.map_map]
      apply List.map_congr_left
      intro b _
      simp
    refine ⟨[_], rfl, chg_alloc _ _, ?_, trivial⟩
    have := k_strs (e := 74) (g := globs) (w := w.alloc (.cells ((Lib.splitB ⟨p.toArray⟩ 0 (Lib.countB ⟨s.toArray⟩ ⟨p.toArray⟩) ⟨s.toArray⟩).map Value.string).toArray 9)) (M := M) (b := w.heap.size) (t := 9) (f := (0, 0)) (Lib.split s p)
      (fun hb => by have := hM _ hb; omega) (by rw [Go.Sort.alloc_eq_grow]; unfold Go.Sort.grow; simp [hcells]) (Lib.countB ⟨s.toArray⟩ ⟨p.toArray⟩ + 1) (by rw [hsp, List.length_map, hlen]; exact Nat.le_refl _)
    rw [show (Lib.split s p).length = Lib.countB ⟨s.toArray⟩ ⟨p.toArray⟩ + 1 by rw [hsp, List.length_map, hlen]] at this
    exact this

theorem ok69 : CallsTo PT 69 [L9, L9] [L147] (fun d => (strings_Split d.1.1 d.2.1.1).map (fun r => ((r, ()), ()))) := by
  intro d res h w M vs hM hgl hr
  obtain ⟨r, hr0, rfl⟩ := Option.map_eq_some_iff.1 h
  match vs, hr with
  | [v, u], hr =>
    obtain rfl := q_str hr.1
    obtain rfl := q_str hr.2.1
    exact c69 d.1.1 d.2.1.1 r hr0 w M hM hgl

/-! strings.Cut -/
theorem c34 (s p : List UInt8) (r : List UInt8 × List UInt8 × Bool) (hr0 : strings_Cut s p = some r) (w : World) (M : Nat → Prop) (hM : ∀ x, M x → x < w.heap.size) (hgl : Glob (S := GG) w M) :
    Calls PT 34 #[.string ⟨s.toArray⟩, .string ⟨p.toArray⟩] w fun en w' => ∃ us, en = .returned (retVal us) ∧ Chg (fun _ => False) w w' ∧ RelVs (S := GG) w' M [L9, L9, L4] ((r.1, ()), (r.2.1, ()), (r.2.2, ()), ()) us := by
  unfold strings_Cut at hr0
  cases hc : Nat.blt s.length 4294967281 with
  | false => simp [hc] at hr0
  | true =>
    simp only [hc, cond_true, Option.some.injEq] at hr0
    subst hr0
    have h1 : s.length < 4294967281 := Nat.le_of_ble_eq_true hc
    obtain ⟨m, hm⟩ := glob1 hgl
    refine (Go.Proofs.Tryz.strings_Cut ⟨s.toArray⟩ ⟨p.toArray⟩ m w (by rw [size_mk]; exact h1) hm).mono ?_
    rintro en w' ⟨rfl, n, rfl⟩
    refine ⟨[_, _, _], rfl, chg_drewN _ _, ?_⟩
    rw [data_mk, data_mk]
    exact ⟨k_str _, k_str _, k_bool _, trivial⟩

theorem ok34 : CallsTo PT 34 [L9, L9] [L9, L9, L4] (fun d => (strings_Cut d.1.1 d.2.1.1).map (fun r => ((r.1, ()), (r.2.1, ()), (r.2.2, ()), ()))) := by
  intro d res h w M vs hM hgl hr
  obtain ⟨r, hr0, rfl⟩ := Option.map_eq_some_iff.1 h
  match vs, hr with
  | [v, u], hr =>
    obtain rfl := q_str hr.1
    obtain rfl := q_str hr.2.1
    exact c34 d.1.1 d.2.1.1 r hr0 w M hM hgl

theorem chg_maybe {w w' : World} (h : w' = w ∨ ∃ s, w' = Lib.bytesWorld w 5 s) : Chg (fun _ => False) w w' := by
  rcases h with rfl | ⟨t, rfl⟩
  · exact Chg.refl _ _
  · exact chg_bytes _ _ _

/-! strconv.Atoi -/
theorem c113 (s : List UInt8) (r : Int × Option Int) (hr0 : strconv_Atoi s = some r) (w : World) (M : Nat → Prop) (hM : ∀ x, M x → x < w.heap.size) (hgl : Glob (S := GG) w M) :
    Calls PT 113 #[.string ⟨s.toArray⟩] w fun en w' => ∃ us, en = .returned (retVal us) ∧ Chg (fun _ => False) w w' ∧ RelVs (S := GG) w' M [L3, L41] ((r.1, ()), (r.2, ()), ()) us := by
  unfold strconv_Atoi at hr0
  cases hc : Nat.ble s.length 281474976710656 with
  | false => simp [hc] at hr0
  | true =>
    simp only [hc, cond_true, Option.some.injEq] at hr0
    subst hr0
    have h1 := Nat.le_of_ble_eq_true hc
    rcases ha : Lib.atoiAll s with n | _ | _
    · skip
      refine (Go.Proofs.Tryz.strconv_Atoi_ok ⟨s.toArray⟩ (by rw [size_mk]; omega) n (by rw [data_mk]; exact ha) w).mono ?_
      rintro en w' ⟨rfl, hw⟩
      exact ⟨[_, _], rfl, chg_maybe hw, k_int _ _, k_nil, trivial⟩
    · skip
      obtain ⟨te, pe, he⟩ := glob2 hgl
      refine (Go.Proofs.Tryz.strconv_Atoi_syntax ⟨s.toArray⟩ (by rw [size_mk]; omega) (by rw [data_mk]; exact ha) _ w he (.inr ⟨te, pe, rfl⟩)).mono ?_
      rintro en w' ⟨N, rfl, _, _, hb⟩
      exact ⟨[_, _], rfl, chg_below hb, k_int _ _, k_foreign _ _, trivial⟩
    · skip
      obtain ⟨te, pe, he⟩ := glob3 hgl
      refine (Go.Proofs.Tryz.strconv_Atoi_range ⟨s.toArray⟩ (by rw [size_mk]; omega) (by rw [data_mk]; exact ha) _ w he (.inr ⟨te, pe, rfl⟩)).mono ?_
      rintro en w' ⟨N, rfl, _, _, hb⟩
      rw [data_mk]
      exact ⟨[_, _], rfl, chg_below hb, k_int _ _, k_foreign _ _, trivial⟩

theorem ok113 : CallsTo PT 113 [L9] [L3, L41] (fun d => (strconv_Atoi d.1.1).map (fun r => ((r.1, ()), (r.2, ()), ()))) := by
  intro d res h w M vs hM hgl hr
  obtain ⟨r, hr0, rfl⟩ := Option.map_eq_some_iff.1 h
  match vs, hr with
  | [v], hr =>
    obtain rfl := q_str hr.1
    exact c113 d.1.1 r hr0 w M hM hgl

/-! strconv.ParseInt -/
theorem c35 (s : List UInt8) (b n : Int) (r : Int × Option Int) (hr0 : strconv_ParseInt s b n = some r) (w : World) (M : Nat → Prop) (hM : ∀ x, M x → x < w.heap.size) (hgl : Glob (S := GG) w M) :
    Calls PT 35 #[.string ⟨s.toArray⟩, .int .i64 b, .int .i64 n] w fun en w' => ∃ us, en = .returned (retVal us) ∧ Chg (fun _ => False) w w' ∧ RelVs (S := GG) w' M [L2, L41] ((r.1, ()), (r.2, ()), ()) us := by
  unfold strconv_ParseInt at hr0
  cases hc : (Nat.ble s.length 281474976710656 && (b == 10) && ((n == 8) || (n == 64))) with
  | false => simp [hc] at hr0
  | true =>
    simp only [hc, cond_true, Option.some.injEq] at hr0
    subst hr0
    simp only [Bool.and_eq_true, Bool.or_eq_true, beq_iff_eq] at hc
    obtain ⟨⟨h1, rfl⟩, hn⟩ := hc
    have h1 := Nat.le_of_ble_eq_true h1
    rcases hn with rfl | rfl
    · skip
      simp only [Int.reduceToNat]
      rcases ha : Lib.parseIntB 8 s with n | _ | _
      · skip
        refine (Go.Proofs.Tryz.strconv_ParseInt_10_at8_ok ⟨s.toArray⟩ (by rw [size_mk]; omega) n (by rw [data_mk]; exact ha) w).mono ?_
        rintro en w' ⟨rfl, hw⟩
        exact ⟨[_, _], rfl, chg_maybe hw, k_int _ _, k_nil, trivial⟩
      · skip
        obtain ⟨te, pe, he⟩ := glob2 hgl
        refine (Go.Proofs.Tryz.strconv_ParseInt_10_at8_syntax ⟨s.toArray⟩ (by rw [size_mk]; omega) (by rw [data_mk]; exact ha) _ w he (.inr ⟨te, pe, rfl⟩)).mono ?_
        rintro en w' ⟨N, rfl, _, _, hb⟩
        exact ⟨[_, _], rfl, chg_below hb, k_int _ _, k_foreign _ _, trivial⟩
      · skip
        obtain ⟨te, pe, he⟩ := glob3 hgl
        refine (Go.Proofs.Tryz.strconv_ParseInt_10_at8_range ⟨s.toArray⟩ (by rw [size_mk]; omega) (by rw [data_mk]; exact ha) _ w he (.inr ⟨te, pe, rfl⟩)).mono ?_
        rintro en w' ⟨N, rfl, _, _, hb⟩
        rw [data_mk]
        exact ⟨[_, _], rfl, chg_below hb, k_int _ _, k_foreign _ _, trivial⟩
    · skip
      simp only [Int.reduceToNat]
      rcases ha : Lib.parseIntB 64 s with n | _ | _
      · skip
        refine (Go.Proofs.Tryz.strconv_ParseInt_10_at64_ok ⟨s.toArray⟩ (by rw [size_mk]; omega) n (by rw [data_mk]; exact ha) w).mono ?_
        rintro en w' ⟨rfl, hw⟩
        exact ⟨[_, _], rfl, chg_maybe hw, k_int _ _, k_nil, trivial⟩
      · skip
        obtain ⟨te, pe, he⟩ := glob2 hgl
        refine (Go.Proofs.Tryz.strconv_ParseInt_10_at64_syntax ⟨s.toArray⟩ (by rw [size_mk]; omega) (by rw [data_mk]; exact ha) _ w he (.inr ⟨te, pe, rfl⟩)).mono ?_
        rintro en w' ⟨N, rfl, _, _, hb⟩
        exact ⟨[_, _], rfl, chg_below hb, k_int _ _, k_foreign _ _, trivial⟩
      · skip
        obtain ⟨te, pe, he⟩ := glob3 hgl
        refine (Go.Proofs.Tryz.strconv_ParseInt_10_at64_range ⟨s.toArray⟩ (by rw [size_mk]; omega) (by rw [data_mk]; exact ha) _ w he (.inr ⟨te, pe, rfl⟩)).mono ?_
        rintro en w' ⟨N, rfl, _, _, hb⟩
        rw [data_mk]
        exact ⟨[_, _], rfl, chg_below hb, k_int _ _, k_foreign _ _, trivial⟩

theorem ok35 : CallsTo PT 35 [L9, L3, L3] [L2, L41] (fun d => (strconv_ParseInt d.1.1 d.2.1.1 d.2.2.1.1).map (fun r => ((r.1, ()), (r.2, ()), ()))) := by
  intro d res h w M vs hM hgl hr
  obtain ⟨r, hr0, rfl⟩ := Option.map_eq_some_iff.1 h
  match vs, hr with
  | [v, u, x], hr =>
    obtain rfl := q_str hr.1
    obtain rfl := q_int (k := .i64) hr.2.1
    obtain rfl := q_int (k := .i64) hr.2.2.1
    exact c35 d.1.1 d.2.1.1 d.2.2.1.1 r hr0 w M hM hgl

/-! the number of an error -/
theorem glob0 {w : World} {M : Nat → Prop} (h : Glob (S := GG) w M) : w.cell? ⟨0, 0, none⟩ = some (.iface 190 (.agg #[.pointer (some ⟨9, 41, none⟩)])) := by
  obtain ⟨cs, t, f, h1, h2⟩ := glob_at (e := 74) h (x := (0, fun cs => cs = #[.iface 190 (.agg #[.pointer (some ⟨9, 41, none⟩)])])) (by simp [globs])
  have h2' : cs = #[.iface 190 (.agg #[.pointer (some ⟨9, 41, none⟩)])] := h2
  subst h2'
  exact cell_of h1 rfl

theorem ok9 : CallsTo PT 9 [L41] [L3] (fun d => (law_num d.1.1).map (fun r => ((r, ()), ()))) := by
  intro d res h w M vs hM hgl hr
  obtain ⟨r, hr0, rfl⟩ := Option.map_eq_some_iff.1 h
  match vs, hr with
  | [v], hr =>
    have hq := q_err hr.1
    generalize d.1.1 = e at hq hr0
    cases e with
    | none =>
      rcases hq with rfl | ⟨h1, _⟩
      · have : some (0 : Int) = some r := hr0
        obtain rfl := Option.some.inj this
        refine (EA.num_nil w).mono ?_
        rintro en w' ⟨rfl, rfl⟩
        exact ⟨[_], rfl, chg_alloc _ _, k_int _ _, trivial⟩
      · cases h1
    | some n =>
      have hn : (n == foreign) = false ∧ n = r := by
        have h0 : (bif n == foreign then none else some n) = some r := hr0
        cases hf : (n == foreign) with
        | true => rw [hf] at h0; cases h0
        | false => rw [hf] at h0; exact ⟨rfl, Option.some.inj h0⟩
      obtain ⟨hf, rfl⟩ := hn
      rcases hq with rfl | ⟨h1, _⟩
      · refine (EA.num_hit n w (glob0 hgl)).mono ?_
        rintro en w' ⟨rfl, rfl⟩
        refine ⟨[_], rfl, ?_, k_int _ _, trivial⟩
        exact ((((chg_alloc _ _).trans (chg_alloc _ _) (fun _ h => h.elim)).trans (chg_alloc _ _) (fun _ h => h.elim)).trans (chg_alloc _ _) (fun _ h => h.elim)).trans (chg_alloc _ _) (fun _ h => h.elim)
      · cases h1
        simp at hf

theorem bd9 : Bodied PT 9 := bodied Go.Proofs.Tryz.func9 (by kernel_rfl) (by kernel_rfl)
theorem bd36 : Bodied PT 36 := bodied Go.Proofs.Tryz.func36 (by kernel_rfl) (by kernel_rfl)
theorem bd143 : Bodied PT 143 := bodied Go.Proofs.Tryz.func143 (by kernel_rfl) (by kernel_rfl)
theorem bd44 : Bodied PT 44 := bodied Go.Proofs.Tryz.func44 (by kernel_rfl) (by kernel_rfl)
theorem bd45 : Bodied PT 45 := bodied Go.Proofs.Tryz.func45 (by kernel_rfl) (by kernel_rfl)
theorem bd69 : Bodied PT 69 := bodied Go.Proofs.Tryz.func69 (by kernel_rfl) (by kernel_rfl)
theorem bd113 : Bodied PT 113 := bodied Go.Proofs.Tryz.func113 (by kernel_rfl) (by kernel_rfl)
theorem bd35 : Bodied PT 35 := bodied Go.Proofs.Tryz.func35 (by kernel_rfl) (by kernel_rfl)
theorem bd34 : Bodied PT 34 := bodied Go.Proofs.Tryz.func34 (by kernel_rfl) (by kernel_rfl)
theorem bd38 : Bodied PT 38 := bodied Go.Proofs.Tryz.func38 (by kernel_rfl) (by kernel_rfl)
end Vm.Tryz
