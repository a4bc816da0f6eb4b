/- Each function of the program computes its plain text; no conditions. -/
import Derived.Test.YtdkejaijokbinaaGreatDoorLib
import Derived.Test.YtdkejaijokbinaaGreatDoorSpecs
set_option linter.all false

set_option maxRecDepth 1000000
namespace Vm.Tryz
open Go Vm Vm.Fu

/-! 10: law_bigZone -/
noncomputable def C_law_bigZone_l2 : Code := (bodyLoops Go.Proofs.Tryz.f10).getD 0 .skip
def H_law_bigZone_l2 : Sch GG := ⟨[(1, false, [.ptr 0 0]), (3, false, [.dat (.int .i64)])], [.var [.dat .str, .dat (.int .i64), .dat (.sl .kRule)]]⟩
def u_law_bigZone_l2 (d : H_law_bigZone_l2.Dat) : Int × Zone := (d.1.2.1.1, (unZone d.2.1))
def X_law_bigZone_l2 : List (NX GG) := [⟨.exit 0, ⟨[(1, false, [.ptr 0 0])], [.var [.dat .str, .dat (.int .i64), .dat (.sl .kRule)]]⟩, Zone, fun x => ((((), ()), ()), ((flZone x), ())), fun d => (unZone d.2.1), fun _ => rfl⟩,
  ⟨.ret, ⟨[(2, false, [.dat .bool])], []⟩, Bool, fun x => (((x, ()), ()), ()), fun d => d.1.1.1, fun _ => rfl⟩]
theorem t_law_bigZone_l2 : ∀ (a : Int × Zone), stepN 0 H_law_bigZone_l2 u_law_bigZone_l2 X_law_bigZone_l2 ⟨[], []⟩ 33 C_law_bigZone_l2 (((((), ()), (a.1, ()), ()), ((flZone a.2), ()))) = law_bigZone_l2_s a := by intro a; kernel_rfl
theorem s_law_bigZone_l2 : ∀ d, stepN 0 H_law_bigZone_l2 u_law_bigZone_l2 X_law_bigZone_l2 ⟨[], []⟩ 33 C_law_bigZone_l2 d = law_bigZone_l2_s (u_law_bigZone_l2 d) := fun d => t_law_bigZone_l2 (u_law_bigZone_l2 d)
theorem k_law_bigZone_l2 {R : Type} : LoopOk (R := R) PT 0 33 C_law_bigZone_l2 (loopOrcN 0 H_law_bigZone_l2 u_law_bigZone_l2 X_law_bigZone_l2 law_bigZone_l2) := by
  unfold law_bigZone_l2
  exact loopN_ok (orc_nil) (loops_of (by
    have h : loopsOf C_law_bigZone_l2 = [] := by kernel_rfl
    rw [h]; exact loops_nil)) s_law_bigZone_l2 FUEL
theorem r10 : CallsTo PT 10 [L29] [L4] (fun d => (runN (rs := [L4]) ⟨[], [(2, loopOrcN 0 H_law_bigZone_l2 u_law_bigZone_l2 X_law_bigZone_l2 law_bigZone_l2)]⟩ Go.Proofs.Tryz.f10 [L29] (fun d => d.1.1) d).map (fun r => ((r, ()), ()))) := (runN_ok Go.Proofs.Tryz.func10 rfl (orc_nil) (loops_body (by
  have h : bodyLoops Go.Proofs.Tryz.f10 = [C_law_bigZone_l2] := by kernel_rfl
  rw [h]; exact loops_cons (by kernel_rfl) k_law_bigZone_l2 (loops_nil))) (fun _ => rfl))
theorem e10 : ∀ (a : Zone), runN (rs := [L4]) ⟨[], [(2, loopOrcN 0 H_law_bigZone_l2 u_law_bigZone_l2 X_law_bigZone_l2 law_bigZone_l2)]⟩ Go.Proofs.Tryz.f10 [L29] (fun d => d.1.1) ((flZone a), ()) = law_bigZone a := by intros; kernel_rfl
theorem ok10 : CallsTo PT 10 [L29] [L4] (fun d => (law_bigZone (unZone d.1)).map (fun r => ((r, ()), ()))) := r10.congr (fun d => congrArg (Option.map _) (e10 (unZone d.1)))
theorem bd10 : Bodied PT 10 := bodied Go.Proofs.Tryz.func10 (by kernel_rfl) (by kernel_rfl)

/-! 4: law_bigTenant -/
theorem r4 : CallsTo PT 4 [L37] [L4] (fun d => (runN (rs := [L4]) ⟨[(10, callOrcN [L29] [L4] (fun d => law_bigZone (unZone d.1)) (fun r => ((r, ()), ())))], []⟩ Go.Proofs.Tryz.f4 [L37] (fun d => d.1.1) d).map (fun r => ((r, ()), ()))) := (runN_ok Go.Proofs.Tryz.func4 rfl (orcN_cons (orc_nil) bd10 (ok10)) (loops_body (by
  have h : bodyLoops Go.Proofs.Tryz.f4 = [] := by kernel_rfl
  rw [h]; exact loops_nil)) (fun _ => rfl))
theorem e4 : ∀ (a : Tenant), runN (rs := [L4]) ⟨[(10, callOrcN [L29] [L4] (fun d => law_bigZone (unZone d.1)) (fun r => ((r, ()), ())))], []⟩ Go.Proofs.Tryz.f4 [L37] (fun d => d.1.1) ((flTenant a), ()) = law_bigTenant a := by intros; kernel_rfl
theorem ok4 : CallsTo PT 4 [L37] [L4] (fun d => (law_bigTenant (unTenant d.1)).map (fun r => ((r, ()), ()))) := r4.congr (fun d => congrArg (Option.map _) (e4 (unTenant d.1)))
theorem bd4 : Bodied PT 4 := bodied Go.Proofs.Tryz.func4 (by kernel_rfl) (by kernel_rfl)

/-! 141: num_Sub -/
theorem r141 : CallsTo PT 141 [L2, L2] [L2, L41] (fun d => (runN (rs := [L2, L41]) ⟨[], []⟩ Go.Proofs.Tryz.f141 [L2, L2] (fun d => (d.1.1, d.2.1.1)) d).map (fun r => ((r.1, ()), (r.2, ()), ()))) := (runN_ok Go.Proofs.Tryz.func141 rfl (orc_nil) (loops_body (by
  have h : bodyLoops Go.Proofs.Tryz.f141 = [] := by kernel_rfl
  rw [h]; exact loops_nil)) (fun _ => rfl))
theorem e141 : ∀ (a : Int) (b : Int), runN (rs := [L2, L41]) ⟨[], []⟩ Go.Proofs.Tryz.f141 [L2, L2] (fun d => (d.1.1, d.2.1.1)) ((a, ()), (b, ()), ()) = num_Sub a b := by intros; kernel_rfl
theorem ok141 : CallsTo PT 141 [L2, L2] [L2, L41] (fun d => (num_Sub d.1.1 d.2.1.1).map (fun r => ((r.1, ()), (r.2, ()), ()))) := r141.congr (fun d => congrArg (Option.map _) (e141 d.1.1 d.2.1.1))
theorem bd141 : Bodied PT 141 := bodied Go.Proofs.Tryz.func141 (by kernel_rfl) (by kernel_rfl)

/-! 70: num_edge -/
theorem r70 : CallsTo PT 70 [L4] [L2] (fun d => (runN (rs := [L2]) ⟨[], []⟩ Go.Proofs.Tryz.f70 [L4] (fun d => d.1.1) d).map (fun r => ((r, ()), ()))) := (runN_ok Go.Proofs.Tryz.func70 rfl (orc_nil) (loops_body (by
  have h : bodyLoops Go.Proofs.Tryz.f70 = [] := by kernel_rfl
  rw [h]; exact loops_nil)) (fun _ => rfl))
theorem e70 : ∀ (a : Bool), runN (rs := [L2]) ⟨[], []⟩ Go.Proofs.Tryz.f70 [L4] (fun d => d.1.1) ((a, ()), ()) = num_edge a := by intros; kernel_rfl
theorem ok70 : CallsTo PT 70 [L4] [L2] (fun d => (num_edge d.1.1).map (fun r => ((r, ()), ()))) := r70.congr (fun d => congrArg (Option.map _) (e70 d.1.1))
theorem bd70 : Bodied PT 70 := bodied Go.Proofs.Tryz.func70 (by kernel_rfl) (by kernel_rfl)

/-! 110: num_SubSat -/
theorem r110 : CallsTo PT 110 [L2, L2] [L2] (fun d => (runN (rs := [L2]) ⟨[(141, callOrcN [L2, L2] [L2, L41] (fun d => num_Sub d.1.1 d.2.1.1) (fun r => ((r.1, ()), (r.2, ()), ()))), (70, callOrcN [L4] [L2] (fun d => num_edge d.1.1) (fun r => ((r, ()), ())))], []⟩ Go.Proofs.Tryz.f110 [L2, L2] (fun d => d.1.1) d).map (fun r => ((r, ()), ()))) := (runN_ok Go.Proofs.Tryz.func110 rfl (orcN_cons (orcN_cons (orc_nil) bd70 (ok70)) bd141 (ok141)) (loops_body (by
  have h : bodyLoops Go.Proofs.Tryz.f110 = [] := by kernel_rfl
  rw [h]; exact loops_nil)) (fun _ => rfl))
theorem e110 : ∀ (a : Int) (b : Int), runN (rs := [L2]) ⟨[(141, callOrcN [L2, L2] [L2, L41] (fun d => num_Sub d.1.1 d.2.1.1) (fun r => ((r.1, ()), (r.2, ()), ()))), (70, callOrcN [L4] [L2] (fun d => num_edge d.1.1) (fun r => ((r, ()), ())))], []⟩ Go.Proofs.Tryz.f110 [L2, L2] (fun d => d.1.1) ((a, ()), (b, ()), ()) = num_SubSat a b := by intros; kernel_rfl
theorem ok110 : CallsTo PT 110 [L2, L2] [L2] (fun d => (num_SubSat d.1.1 d.2.1.1).map (fun r => ((r, ()), ()))) := r110.congr (fun d => congrArg (Option.map _) (e110 d.1.1 d.2.1.1))
theorem bd110 : Bodied PT 110 := bodied Go.Proofs.Tryz.func110 (by kernel_rfl) (by kernel_rfl)

/-! 59: num_Size -/
theorem r59 : CallsTo PT 59 [L2] [L2] (fun d => (runN (rs := [L2]) ⟨[(110, callOrcN [L2, L2] [L2] (fun d => num_SubSat d.1.1 d.2.1.1) (fun r => ((r, ()), ())))], []⟩ Go.Proofs.Tryz.f59 [L2] (fun d => d.1.1) d).map (fun r => ((r, ()), ()))) := (runN_ok Go.Proofs.Tryz.func59 rfl (orcN_cons (orc_nil) bd110 (ok110)) (loops_body (by
  have h : bodyLoops Go.Proofs.Tryz.f59 = [] := by kernel_rfl
  rw [h]; exact loops_nil)) (fun _ => rfl))
theorem e59 : ∀ (a : Int), runN (rs := [L2]) ⟨[(110, callOrcN [L2, L2] [L2] (fun d => num_SubSat d.1.1 d.2.1.1) (fun r => ((r, ()), ())))], []⟩ Go.Proofs.Tryz.f59 [L2] (fun d => d.1.1) ((a, ()), ()) = num_Size a := by intros; kernel_rfl
theorem ok59 : CallsTo PT 59 [L2] [L2] (fun d => (num_Size d.1.1).map (fun r => ((r, ()), ()))) := r59.congr (fun d => congrArg (Option.map _) (e59 d.1.1))
theorem bd59 : Bodied PT 59 := bodied Go.Proofs.Tryz.func59 (by kernel_rfl) (by kernel_rfl)

/-! 26: told_Check -/
theorem r26 : CallsTo PT 26 [L67] [L41] (fun d => (runN (rs := [L41]) ⟨[(59, callOrcN [L2] [L2] (fun d => num_Size d.1.1) (fun r => ((r, ()), ())))], []⟩ Go.Proofs.Tryz.f26 [L67] (fun d => d.1.1) d).map (fun r => ((r, ()), ()))) := (runN_ok Go.Proofs.Tryz.func26 rfl (orcN_cons (orc_nil) bd59 (ok59)) (loops_body (by
  have h : bodyLoops Go.Proofs.Tryz.f26 = [] := by kernel_rfl
  rw [h]; exact loops_nil)) (fun _ => rfl))
theorem e26 : ∀ (a : Moment), runN (rs := [L41]) ⟨[(59, callOrcN [L2] [L2] (fun d => num_Size d.1.1) (fun r => ((r, ()), ())))], []⟩ Go.Proofs.Tryz.f26 [L67] (fun d => d.1.1) ((flMoment a), ()) = told_Check a := by intros; kernel_rfl
theorem ok26 : CallsTo PT 26 [L67] [L41] (fun d => (told_Check (unMoment d.1)).map (fun r => ((r, ()), ()))) := r26.congr (fun d => congrArg (Option.map _) (e26 (unMoment d.1)))
theorem bd26 : Bodied PT 26 := bodied Go.Proofs.Tryz.func26 (by kernel_rfl) (by kernel_rfl)

/-! 16: num_Div -/
theorem r16 : CallsTo PT 16 [L2, L2] [L2, L2, L41] (fun d => (runN (rs := [L2, L2, L41]) ⟨[], []⟩ Go.Proofs.Tryz.f16 [L2, L2] (fun d => (d.1.1, d.2.1.1, d.2.2.1.1)) d).map (fun r => ((r.1, ()), (r.2.1, ()), (r.2.2, ()), ()))) := (runN_ok Go.Proofs.Tryz.func16 rfl (orc_nil) (loops_body (by
  have h : bodyLoops Go.Proofs.Tryz.f16 = [] := by kernel_rfl
  rw [h]; exact loops_nil)) (fun _ => rfl))
theorem e16 : ∀ (a : Int) (b : Int), runN (rs := [L2, L2, L41]) ⟨[], []⟩ Go.Proofs.Tryz.f16 [L2, L2] (fun d => (d.1.1, d.2.1.1, d.2.2.1.1)) ((a, ()), (b, ()), ()) = num_Div a b := by intros; kernel_rfl
theorem ok16 : CallsTo PT 16 [L2, L2] [L2, L2, L41] (fun d => (num_Div d.1.1 d.2.1.1).map (fun r => ((r.1, ()), (r.2.1, ()), (r.2.2, ()), ()))) := r16.congr (fun d => congrArg (Option.map _) (e16 d.1.1 d.2.1.1))
theorem bd16 : Bodied PT 16 := bodied Go.Proofs.Tryz.func16 (by kernel_rfl) (by kernel_rfl)

/-! 60: daytime_Of -/
theorem r60 : CallsTo PT 60 [L2] [L135, L41] (fun d => (runN (rs := [L135, L41]) ⟨[], []⟩ Go.Proofs.Tryz.f60 [L2] (fun d => ((unTime d.1), d.2.1.1)) d).map (fun r => ((flTime r.1), (r.2, ()), ()))) := (runN_ok Go.Proofs.Tryz.func60 rfl (orc_nil) (loops_body (by
  have h : bodyLoops Go.Proofs.Tryz.f60 = [] := by kernel_rfl
  rw [h]; exact loops_nil)) (fun _ => rfl))
theorem e60 : ∀ (a : Int), runN (rs := [L135, L41]) ⟨[], []⟩ Go.Proofs.Tryz.f60 [L2] (fun d => ((unTime d.1), d.2.1.1)) ((a, ()), ()) = daytime_Of a := by intros; kernel_rfl
theorem ok60 : CallsTo PT 60 [L2] [L135, L41] (fun d => (daytime_Of d.1.1).map (fun r => ((flTime r.1), (r.2, ()), ()))) := r60.congr (fun d => congrArg (Option.map _) (e60 d.1.1))
theorem bd60 : Bodied PT 60 := bodied Go.Proofs.Tryz.func60 (by kernel_rfl) (by kernel_rfl)

/-! 37: num_Add -/
theorem r37 : CallsTo PT 37 [L2, L2] [L2, L41] (fun d => (runN (rs := [L2, L41]) ⟨[], []⟩ Go.Proofs.Tryz.f37 [L2, L2] (fun d => (d.1.1, d.2.1.1)) d).map (fun r => ((r.1, ()), (r.2, ()), ()))) := (runN_ok Go.Proofs.Tryz.func37 rfl (orc_nil) (loops_body (by
  have h : bodyLoops Go.Proofs.Tryz.f37 = [] := by kernel_rfl
  rw [h]; exact loops_nil)) (fun _ => rfl))
theorem e37 : ∀ (a : Int) (b : Int), runN (rs := [L2, L41]) ⟨[], []⟩ Go.Proofs.Tryz.f37 [L2, L2] (fun d => (d.1.1, d.2.1.1)) ((a, ()), (b, ()), ()) = num_Add a b := by intros; kernel_rfl
theorem ok37 : CallsTo PT 37 [L2, L2] [L2, L41] (fun d => (num_Add d.1.1 d.2.1.1).map (fun r => ((r.1, ()), (r.2, ()), ()))) := r37.congr (fun d => congrArg (Option.map _) (e37 d.1.1 d.2.1.1))
theorem bd37 : Bodied PT 37 := bodied Go.Proofs.Tryz.func37 (by kernel_rfl) (by kernel_rfl)

/-! 166: civil_Leap -/
theorem r166 : CallsTo PT 166 [L3] [L4] (fun d => (runN (rs := [L4]) ⟨[], []⟩ Go.Proofs.Tryz.f166 [L3] (fun d => d.1.1) d).map (fun r => ((r, ()), ()))) := (runN_ok Go.Proofs.Tryz.func166 rfl (orc_nil) (loops_body (by
  have h : bodyLoops Go.Proofs.Tryz.f166 = [] := by kernel_rfl
  rw [h]; exact loops_nil)) (fun _ => rfl))
theorem e166 : ∀ (a : Int), runN (rs := [L4]) ⟨[], []⟩ Go.Proofs.Tryz.f166 [L3] (fun d => d.1.1) ((a, ()), ()) = civil_Leap a := by intros; kernel_rfl
theorem ok166 : CallsTo PT 166 [L3] [L4] (fun d => (civil_Leap d.1.1).map (fun r => ((r, ()), ()))) := r166.congr (fun d => congrArg (Option.map _) (e166 d.1.1))
theorem bd166 : Bodied PT 166 := bodied Go.Proofs.Tryz.func166 (by kernel_rfl) (by kernel_rfl)

/-! 142: civil_Month -/
theorem r142 : CallsTo PT 142 [L3, L3] [L3] (fun d => (runN (rs := [L3]) ⟨[(166, callOrcN [L3] [L4] (fun d => civil_Leap d.1.1) (fun r => ((r, ()), ())))], []⟩ Go.Proofs.Tryz.f142 [L3, L3] (fun d => d.1.1) d).map (fun r => ((r, ()), ()))) := (runN_ok Go.Proofs.Tryz.func142 rfl (orcN_cons (orc_nil) bd166 (ok166)) (loops_body (by
  have h : bodyLoops Go.Proofs.Tryz.f142 = [] := by kernel_rfl
  rw [h]; exact loops_nil)) (fun _ => rfl))
theorem e142 : ∀ (a : Int) (b : Int), runN (rs := [L3]) ⟨[(166, callOrcN [L3] [L4] (fun d => civil_Leap d.1.1) (fun r => ((r, ()), ())))], []⟩ Go.Proofs.Tryz.f142 [L3, L3] (fun d => d.1.1) ((a, ()), (b, ()), ()) = civil_Month a b := by intros; kernel_rfl
theorem ok142 : CallsTo PT 142 [L3, L3] [L3] (fun d => (civil_Month d.1.1 d.2.1.1).map (fun r => ((r, ()), ()))) := r142.congr (fun d => congrArg (Option.map _) (e142 d.1.1 d.2.1.1))
theorem bd142 : Bodied PT 142 := bodied Go.Proofs.Tryz.func142 (by kernel_rfl) (by kernel_rfl)

/-! 111: civil_Check -/
theorem r111 : CallsTo PT 111 [L139] [L41] (fun d => (runN (rs := [L41]) ⟨[(142, callOrcN [L3, L3] [L3] (fun d => civil_Month d.1.1 d.2.1.1) (fun r => ((r, ()), ())))], []⟩ Go.Proofs.Tryz.f111 [L139] (fun d => d.1.1) d).map (fun r => ((r, ()), ()))) := (runN_ok Go.Proofs.Tryz.func111 rfl (orcN_cons (orc_nil) bd142 (ok142)) (loops_body (by
  have h : bodyLoops Go.Proofs.Tryz.f111 = [] := by kernel_rfl
  rw [h]; exact loops_nil)) (fun _ => rfl))
theorem e111 : ∀ (a : Date), runN (rs := [L41]) ⟨[(142, callOrcN [L3, L3] [L3] (fun d => civil_Month d.1.1 d.2.1.1) (fun r => ((r, ()), ())))], []⟩ Go.Proofs.Tryz.f111 [L139] (fun d => d.1.1) ((flDate a), ()) = civil_Check a := by intros; kernel_rfl
theorem ok111 : CallsTo PT 111 [L139] [L41] (fun d => (civil_Check (unDate d.1)).map (fun r => ((r, ()), ()))) := r111.congr (fun d => congrArg (Option.map _) (e111 (unDate d.1)))
theorem bd111 : Bodied PT 111 := bodied Go.Proofs.Tryz.func111 (by kernel_rfl) (by kernel_rfl)

/-! 61: civil_Of -/
theorem r61 : CallsTo PT 61 [L2] [L139, L41] (fun d => (runN (rs := [L139, L41]) ⟨[(37, callOrcN [L2, L2] [L2, L41] (fun d => num_Add d.1.1 d.2.1.1) (fun r => ((r.1, ()), (r.2, ()), ()))), (16, callOrcN [L2, L2] [L2, L2, L41] (fun d => num_Div d.1.1 d.2.1.1) (fun r => ((r.1, ()), (r.2.1, ()), (r.2.2, ()), ()))), (111, callOrcN [L139] [L41] (fun d => civil_Check (unDate d.1)) (fun r => ((r, ()), ())))], []⟩ Go.Proofs.Tryz.f61 [L2] (fun d => ((unDate d.1), d.2.1.1)) d).map (fun r => ((flDate r.1), (r.2, ()), ()))) := (runN_ok Go.Proofs.Tryz.func61 rfl (orcN_cons (orcN_cons (orcN_cons (orc_nil) bd111 (ok111)) bd16 (ok16)) bd37 (ok37)) (loops_body (by
  have h : bodyLoops Go.Proofs.Tryz.f61 = [] := by kernel_rfl
  rw [h]; exact loops_nil)) (fun _ => rfl))
theorem e61 : ∀ (a : Int), runN (rs := [L139, L41]) ⟨[(37, callOrcN [L2, L2] [L2, L41] (fun d => num_Add d.1.1 d.2.1.1) (fun r => ((r.1, ()), (r.2, ()), ()))), (16, callOrcN [L2, L2] [L2, L2, L41] (fun d => num_Div d.1.1 d.2.1.1) (fun r => ((r.1, ()), (r.2.1, ()), (r.2.2, ()), ()))), (111, callOrcN [L139] [L41] (fun d => civil_Check (unDate d.1)) (fun r => ((r, ()), ())))], []⟩ Go.Proofs.Tryz.f61 [L2] (fun d => ((unDate d.1), d.2.1.1)) ((a, ()), ()) = civil_Of a := by intros; kernel_rfl
theorem ok61 : CallsTo PT 61 [L2] [L139, L41] (fun d => (civil_Of d.1.1).map (fun r => ((flDate r.1), (r.2, ()), ()))) := r61.congr (fun d => congrArg (Option.map _) (e61 d.1.1))
theorem bd61 : Bodied PT 61 := bodied Go.Proofs.Tryz.func61 (by kernel_rfl) (by kernel_rfl)

/-! 112: civil_digits -/
theorem r112 : CallsTo PT 112 [L3, L3] [L9] (fun d => (runN (rs := [L9]) ⟨[(143, callOrcN [L3] [L9] (fun d => strconv_Itoa d.1.1) (fun r => ((r, ()), ()))), (36, callOrcN [L9, L3] [L9] (fun d => strings_Repeat d.1.1 d.2.1.1) (fun r => ((r, ()), ())))], []⟩ Go.Proofs.Tryz.f112 [L3, L3] (fun d => d.1.1) d).map (fun r => ((r, ()), ()))) := (runN_ok Go.Proofs.Tryz.func112 rfl (orcN_cons (orcN_cons (orc_nil) bd36 (ok36)) bd143 (ok143)) (loops_body (by
  have h : bodyLoops Go.Proofs.Tryz.f112 = [] := by kernel_rfl
  rw [h]; exact loops_nil)) (fun _ => rfl))
theorem e112 : ∀ (a : Int) (b : Int), runN (rs := [L9]) ⟨[(143, callOrcN [L3] [L9] (fun d => strconv_Itoa d.1.1) (fun r => ((r, ()), ()))), (36, callOrcN [L9, L3] [L9] (fun d => strings_Repeat d.1.1 d.2.1.1) (fun r => ((r, ()), ())))], []⟩ Go.Proofs.Tryz.f112 [L3, L3] (fun d => d.1.1) ((a, ()), (b, ()), ()) = civil_digits a b := by intros; kernel_rfl
theorem ok112 : CallsTo PT 112 [L3, L3] [L9] (fun d => (civil_digits d.1.1 d.2.1.1).map (fun r => ((r, ()), ()))) := r112.congr (fun d => congrArg (Option.map _) (e112 d.1.1 d.2.1.1))
theorem bd112 : Bodied PT 112 := bodied Go.Proofs.Tryz.func112 (by kernel_rfl) (by kernel_rfl)

/-! 62: civil_Text -/
theorem r62 : CallsTo PT 62 [L139] [L9, L41] (fun d => (runN (rs := [L9, L41]) ⟨[(111, callOrcN [L139] [L41] (fun d => civil_Check (unDate d.1)) (fun r => ((r, ()), ()))), (112, callOrcN [L3, L3] [L9] (fun d => civil_digits d.1.1 d.2.1.1) (fun r => ((r, ()), ())))], []⟩ Go.Proofs.Tryz.f62 [L139] (fun d => (d.1.1, d.2.1.1)) d).map (fun r => ((r.1, ()), (r.2, ()), ()))) := (runN_ok Go.Proofs.Tryz.func62 rfl (orcN_cons (orcN_cons (orc_nil) bd112 (ok112)) bd111 (ok111)) (loops_body (by
  have h : bodyLoops Go.Proofs.Tryz.f62 = [] := by kernel_rfl
  rw [h]; exact loops_nil)) (fun _ => rfl))
theorem e62 : ∀ (a : Date), runN (rs := [L9, L41]) ⟨[(111, callOrcN [L139] [L41] (fun d => civil_Check (unDate d.1)) (fun r => ((r, ()), ()))), (112, callOrcN [L3, L3] [L9] (fun d => civil_digits d.1.1 d.2.1.1) (fun r => ((r, ()), ())))], []⟩ Go.Proofs.Tryz.f62 [L139] (fun d => (d.1.1, d.2.1.1)) ((flDate a), ()) = civil_Text a := by intros; kernel_rfl
theorem ok62 : CallsTo PT 62 [L139] [L9, L41] (fun d => (civil_Text (unDate d.1)).map (fun r => ((r.1, ()), (r.2, ()), ()))) := r62.congr (fun d => congrArg (Option.map _) (e62 (unDate d.1)))
theorem bd62 : Bodied PT 62 := bodied Go.Proofs.Tryz.func62 (by kernel_rfl) (by kernel_rfl)

/-! 63: daytime_digits -/
theorem r63 : CallsTo PT 63 [L2, L3] [L9] (fun d => (runN (rs := [L9]) ⟨[(44, callOrcN [L2, L3] [L9] (fun d => strconv_FormatInt d.1.1 d.2.1.1) (fun r => ((r, ()), ()))), (36, callOrcN [L9, L3] [L9] (fun d => strings_Repeat d.1.1 d.2.1.1) (fun r => ((r, ()), ())))], []⟩ Go.Proofs.Tryz.f63 [L2, L3] (fun d => d.1.1) d).map (fun r => ((r, ()), ()))) := (runN_ok Go.Proofs.Tryz.func63 rfl (orcN_cons (orcN_cons (orc_nil) bd36 (ok36)) bd44 (ok44)) (loops_body (by
  have h : bodyLoops Go.Proofs.Tryz.f63 = [] := by kernel_rfl
  rw [h]; exact loops_nil)) (fun _ => rfl))
theorem e63 : ∀ (a : Int) (b : Int), runN (rs := [L9]) ⟨[(44, callOrcN [L2, L3] [L9] (fun d => strconv_FormatInt d.1.1 d.2.1.1) (fun r => ((r, ()), ()))), (36, callOrcN [L9, L3] [L9] (fun d => strings_Repeat d.1.1 d.2.1.1) (fun r => ((r, ()), ())))], []⟩ Go.Proofs.Tryz.f63 [L2, L3] (fun d => d.1.1) ((a, ()), (b, ()), ()) = daytime_digits a b := by intros; kernel_rfl
theorem ok63 : CallsTo PT 63 [L2, L3] [L9] (fun d => (daytime_digits d.1.1 d.2.1.1).map (fun r => ((r, ()), ()))) := r63.congr (fun d => congrArg (Option.map _) (e63 d.1.1 d.2.1.1))
theorem bd63 : Bodied PT 63 := bodied Go.Proofs.Tryz.func63 (by kernel_rfl) (by kernel_rfl)

/-! 27: daytime_Stamp -/
theorem r27 : CallsTo PT 27 [L2, L2, L2] [L9, L41] (fun d => (runN (rs := [L9, L41]) ⟨[(60, callOrcN [L2] [L135, L41] (fun d => daytime_Of d.1.1) (fun r => ((flTime r.1), (r.2, ()), ()))), (61, callOrcN [L2] [L139, L41] (fun d => civil_Of d.1.1) (fun r => ((flDate r.1), (r.2, ()), ()))), (62, callOrcN [L139] [L9, L41] (fun d => civil_Text (unDate d.1)) (fun r => ((r.1, ()), (r.2, ()), ()))), (63, callOrcN [L2, L3] [L9] (fun d => daytime_digits d.1.1 d.2.1.1) (fun r => ((r, ()), ())))], []⟩ Go.Proofs.Tryz.f27 [L2, L2, L2] (fun d => (d.1.1, d.2.1.1)) d).map (fun r => ((r.1, ()), (r.2, ()), ()))) := (runN_ok Go.Proofs.Tryz.func27 rfl (orcN_cons (orcN_cons (orcN_cons (orcN_cons (orc_nil) bd63 (ok63)) bd62 (ok62)) bd61 (ok61)) bd60 (ok60)) (loops_body (by
  have h : bodyLoops Go.Proofs.Tryz.f27 = [] := by kernel_rfl
  rw [h]; exact loops_nil)) (fun _ => rfl))
theorem e27 : ∀ (a : Int) (b : Int) (c : Int), runN (rs := [L9, L41]) ⟨[(60, callOrcN [L2] [L135, L41] (fun d => daytime_Of d.1.1) (fun r => ((flTime r.1), (r.2, ()), ()))), (61, callOrcN [L2] [L139, L41] (fun d => civil_Of d.1.1) (fun r => ((flDate r.1), (r.2, ()), ()))), (62, callOrcN [L139] [L9, L41] (fun d => civil_Text (unDate d.1)) (fun r => ((r.1, ()), (r.2, ()), ()))), (63, callOrcN [L2, L3] [L9] (fun d => daytime_digits d.1.1 d.2.1.1) (fun r => ((r, ()), ())))], []⟩ Go.Proofs.Tryz.f27 [L2, L2, L2] (fun d => (d.1.1, d.2.1.1)) ((a, ()), (b, ()), (c, ()), ()) = daytime_Stamp a b c := by intros; kernel_rfl
theorem ok27 : CallsTo PT 27 [L2, L2, L2] [L9, L41] (fun d => (daytime_Stamp d.1.1 d.2.1.1 d.2.2.1.1).map (fun r => ((r.1, ()), (r.2, ()), ()))) := r27.congr (fun d => congrArg (Option.map _) (e27 d.1.1 d.2.1.1 d.2.2.1.1))
theorem bd27 : Bodied PT 27 := bodied Go.Proofs.Tryz.func27 (by kernel_rfl) (by kernel_rfl)

/-! 64: told_two -/
theorem r64 : CallsTo PT 64 [L2] [L9] (fun d => (runN (rs := [L9]) ⟨[(44, callOrcN [L2, L3] [L9] (fun d => strconv_FormatInt d.1.1 d.2.1.1) (fun r => ((r, ()), ())))], []⟩ Go.Proofs.Tryz.f64 [L2] (fun d => d.1.1) d).map (fun r => ((r, ()), ()))) := (runN_ok Go.Proofs.Tryz.func64 rfl (orcN_cons (orc_nil) bd44 (ok44)) (loops_body (by
  have h : bodyLoops Go.Proofs.Tryz.f64 = [] := by kernel_rfl
  rw [h]; exact loops_nil)) (fun _ => rfl))
theorem e64 : ∀ (a : Int), runN (rs := [L9]) ⟨[(44, callOrcN [L2, L3] [L9] (fun d => strconv_FormatInt d.1.1 d.2.1.1) (fun r => ((r, ()), ())))], []⟩ Go.Proofs.Tryz.f64 [L2] (fun d => d.1.1) ((a, ()), ()) = told_two a := by intros; kernel_rfl
theorem ok64 : CallsTo PT 64 [L2] [L9] (fun d => (told_two d.1.1).map (fun r => ((r, ()), ()))) := r64.congr (fun d => congrArg (Option.map _) (e64 d.1.1))
theorem bd64 : Bodied PT 64 := bodied Go.Proofs.Tryz.func64 (by kernel_rfl) (by kernel_rfl)

/-! 28: told_added -/
theorem r28 : CallsTo PT 28 [L2] [L9] (fun d => (runN (rs := [L9]) ⟨[(59, callOrcN [L2] [L2] (fun d => num_Size d.1.1) (fun r => ((r, ()), ()))), (64, callOrcN [L2] [L9] (fun d => told_two d.1.1) (fun r => ((r, ()), ())))], []⟩ Go.Proofs.Tryz.f28 [L2] (fun d => d.1.1) d).map (fun r => ((r, ()), ()))) := (runN_ok Go.Proofs.Tryz.func28 rfl (orcN_cons (orcN_cons (orc_nil) bd64 (ok64)) bd59 (ok59)) (loops_body (by
  have h : bodyLoops Go.Proofs.Tryz.f28 = [] := by kernel_rfl
  rw [h]; exact loops_nil)) (fun _ => rfl))
theorem e28 : ∀ (a : Int), runN (rs := [L9]) ⟨[(59, callOrcN [L2] [L2] (fun d => num_Size d.1.1) (fun r => ((r, ()), ()))), (64, callOrcN [L2] [L9] (fun d => told_two d.1.1) (fun r => ((r, ()), ())))], []⟩ Go.Proofs.Tryz.f28 [L2] (fun d => d.1.1) ((a, ()), ()) = told_added a := by intros; kernel_rfl
theorem ok28 : CallsTo PT 28 [L2] [L9] (fun d => (told_added d.1.1).map (fun r => ((r, ()), ()))) := r28.congr (fun d => congrArg (Option.map _) (e28 d.1.1))
theorem bd28 : Bodied PT 28 := bodied Go.Proofs.Tryz.func28 (by kernel_rfl) (by kernel_rfl)

/-! 11: told_Text -/
theorem r11 : CallsTo PT 11 [L67] [L9, L41] (fun d => (runN (rs := [L9, L41]) ⟨[(26, callOrcN [L67] [L41] (fun d => told_Check (unMoment d.1)) (fun r => ((r, ()), ()))), (16, callOrcN [L2, L2] [L2, L2, L41] (fun d => num_Div d.1.1 d.2.1.1) (fun r => ((r.1, ()), (r.2.1, ()), (r.2.2, ()), ()))), (27, callOrcN [L2, L2, L2] [L9, L41] (fun d => daytime_Stamp d.1.1 d.2.1.1 d.2.2.1.1) (fun r => ((r.1, ()), (r.2, ()), ()))), (28, callOrcN [L2] [L9] (fun d => told_added d.1.1) (fun r => ((r, ()), ())))], []⟩ Go.Proofs.Tryz.f11 [L67] (fun d => (d.1.1, d.2.1.1)) d).map (fun r => ((r.1, ()), (r.2, ()), ()))) := (runN_ok Go.Proofs.Tryz.func11 rfl (orcN_cons (orcN_cons (orcN_cons (orcN_cons (orc_nil) bd28 (ok28)) bd27 (ok27)) bd16 (ok16)) bd26 (ok26)) (loops_body (by
  have h : bodyLoops Go.Proofs.Tryz.f11 = [] := by kernel_rfl
  rw [h]; exact loops_nil)) (fun _ => rfl))
theorem e11 : ∀ (a : Moment), runN (rs := [L9, L41]) ⟨[(26, callOrcN [L67] [L41] (fun d => told_Check (unMoment d.1)) (fun r => ((r, ()), ()))), (16, callOrcN [L2, L2] [L2, L2, L41] (fun d => num_Div d.1.1 d.2.1.1) (fun r => ((r.1, ()), (r.2.1, ()), (r.2.2, ()), ()))), (27, callOrcN [L2, L2, L2] [L9, L41] (fun d => daytime_Stamp d.1.1 d.2.1.1 d.2.2.1.1) (fun r => ((r.1, ()), (r.2, ()), ()))), (28, callOrcN [L2] [L9] (fun d => told_added d.1.1) (fun r => ((r, ()), ())))], []⟩ Go.Proofs.Tryz.f11 [L67] (fun d => (d.1.1, d.2.1.1)) ((flMoment a), ()) = told_Text a := by intros; kernel_rfl
theorem ok11 : CallsTo PT 11 [L67] [L9, L41] (fun d => (told_Text (unMoment d.1)).map (fun r => ((r.1, ()), (r.2, ()), ()))) := r11.congr (fun d => congrArg (Option.map _) (e11 (unMoment d.1)))
theorem bd11 : Bodied PT 11 := bodied Go.Proofs.Tryz.func11 (by kernel_rfl) (by kernel_rfl)

/-! 18: told_length -/
theorem r18 : CallsTo PT 18 [L2] [L9] (fun d => (runN (rs := [L9]) ⟨[(44, callOrcN [L2, L3] [L9] (fun d => strconv_FormatInt d.1.1 d.2.1.1) (fun r => ((r, ()), ()))), (36, callOrcN [L9, L3] [L9] (fun d => strings_Repeat d.1.1 d.2.1.1) (fun r => ((r, ()), ()))), (45, callOrcN [L9, L9] [L9] (fun d => strings_TrimRight d.1.1 d.2.1.1) (fun r => ((r, ()), ())))], []⟩ Go.Proofs.Tryz.f18 [L2] (fun d => d.1.1) d).map (fun r => ((r, ()), ()))) := (runN_ok Go.Proofs.Tryz.func18 rfl (orcN_cons (orcN_cons (orcN_cons (orc_nil) bd45 (ok45)) bd36 (ok36)) bd44 (ok44)) (loops_body (by
  have h : bodyLoops Go.Proofs.Tryz.f18 = [] := by kernel_rfl
  rw [h]; exact loops_nil)) (fun _ => rfl))
theorem e18 : ∀ (a : Int), runN (rs := [L9]) ⟨[(44, callOrcN [L2, L3] [L9] (fun d => strconv_FormatInt d.1.1 d.2.1.1) (fun r => ((r, ()), ()))), (36, callOrcN [L9, L3] [L9] (fun d => strings_Repeat d.1.1 d.2.1.1) (fun r => ((r, ()), ()))), (45, callOrcN [L9, L9] [L9] (fun d => strings_TrimRight d.1.1 d.2.1.1) (fun r => ((r, ()), ())))], []⟩ Go.Proofs.Tryz.f18 [L2] (fun d => d.1.1) ((a, ()), ()) = told_length a := by intros; kernel_rfl
theorem ok18 : CallsTo PT 18 [L2] [L9] (fun d => (told_length d.1.1).map (fun r => ((r, ()), ()))) := r18.congr (fun d => congrArg (Option.map _) (e18 d.1.1))
theorem bd18 : Bodied PT 18 := bodied Go.Proofs.Tryz.func18 (by kernel_rfl) (by kernel_rfl)

/-! 12: told_Length -/
theorem r12 : CallsTo PT 12 [L2] [L9, L41] (fun d => (runN (rs := [L9, L41]) ⟨[(18, callOrcN [L2] [L9] (fun d => told_length d.1.1) (fun r => ((r, ()), ())))], []⟩ Go.Proofs.Tryz.f12 [L2] (fun d => (d.1.1, d.2.1.1)) d).map (fun r => ((r.1, ()), (r.2, ()), ()))) := (runN_ok Go.Proofs.Tryz.func12 rfl (orcN_cons (orc_nil) bd18 (ok18)) (loops_body (by
  have h : bodyLoops Go.Proofs.Tryz.f12 = [] := by kernel_rfl
  rw [h]; exact loops_nil)) (fun _ => rfl))
theorem e12 : ∀ (a : Int), runN (rs := [L9, L41]) ⟨[(18, callOrcN [L2] [L9] (fun d => told_length d.1.1) (fun r => ((r, ()), ())))], []⟩ Go.Proofs.Tryz.f12 [L2] (fun d => (d.1.1, d.2.1.1)) ((a, ()), ()) = told_Length a := by intros; kernel_rfl
theorem ok12 : CallsTo PT 12 [L2] [L9, L41] (fun d => (told_Length d.1.1).map (fun r => ((r.1, ()), (r.2, ()), ()))) := r12.congr (fun d => congrArg (Option.map _) (e12 d.1.1))
theorem bd12 : Bodied PT 12 := bodied Go.Proofs.Tryz.func12 (by kernel_rfl) (by kernel_rfl)

/-! 65: civil_Parse -/
noncomputable def C_civil_Parse_l6 : Code := (bodyLoops Go.Proofs.Tryz.f65).getD 0 .skip
def H_civil_Parse_l6 : Sch GG := ⟨[(0, false, [.dat .str]), (2, false, [.ptr 0 0]), (4, false, [.dat (.sl .str)]), (5, false, [.ptr 1 0]), (19, false, [.dat (.int .i64)])], [.var [.dat (.int .i64), .dat (.int .i64), .dat (.int .i64)], .var [.dat (.arr .int 3)]]⟩
def u_civil_Parse_l6 (d : H_civil_Parse_l6.Dat) : (List UInt8) × (List (List UInt8)) × Int × Date × (List (Int)) := (d.1.1.1, d.1.2.2.1.1, d.1.2.2.2.2.1.1, (unDate d.2.1), d.2.2.1.1)
def X_civil_Parse_l6 : List (NX GG) := [⟨.exit 0, ⟨[(0, false, [.dat .str]), (2, false, [.ptr 0 0]), (5, false, [.ptr 1 0])], [.var [.dat (.int .i64), .dat (.int .i64), .dat (.int .i64)], .var [.dat (.arr .int 3)]]⟩, (List UInt8) × Date × (List (Int)), fun x => (((x.1, ()), ((), ()), ((), ()), ()), ((flDate x.2.1), (x.2.2, ()), ())), fun d => (d.1.1.1, (unDate d.2.1), d.2.2.1.1), fun _ => rfl⟩,
  ⟨.ret, ⟨[(2, false, [.ptr 0 0]), (3, false, [.dat .err])], [.var [.dat (.int .i64), .dat (.int .i64), .dat (.int .i64)]]⟩, (Option Int) × Date, fun x => ((((), ()), (x.1, ()), ()), ((flDate x.2), ())), fun d => (d.1.2.1.1, (unDate d.2.1)), fun _ => rfl⟩]
theorem t_civil_Parse_l6 : ∀ (a : (List UInt8) × (List (List UInt8)) × Int × Date × (List (Int))), stepN 0 H_civil_Parse_l6 u_civil_Parse_l6 X_civil_Parse_l6 ⟨[(69, callOrcN [L9, L9] [L147] (fun d => strings_Split d.1.1 d.2.1.1) (fun r => ((r, ()), ()))), (113, callOrcN [L9] [L3, L41] (fun d => strconv_Atoi d.1.1) (fun r => ((r.1, ()), (r.2, ()), ()))), (62, callOrcN [L139] [L9, L41] (fun d => civil_Text (unDate d.1)) (fun r => ((r.1, ()), (r.2, ()), ())))], []⟩ 60 C_civil_Parse_l6 ((((a.1, ()), ((), ()), (a.2.1, ()), ((), ()), (a.2.2.1, ()), ()), ((flDate a.2.2.2.1), (a.2.2.2.2, ()), ()))) = civil_Parse_l6_s a := by intro a; kernel_rfl
theorem s_civil_Parse_l6 : ∀ d, stepN 0 H_civil_Parse_l6 u_civil_Parse_l6 X_civil_Parse_l6 ⟨[(69, callOrcN [L9, L9] [L147] (fun d => strings_Split d.1.1 d.2.1.1) (fun r => ((r, ()), ()))), (113, callOrcN [L9] [L3, L41] (fun d => strconv_Atoi d.1.1) (fun r => ((r.1, ()), (r.2, ()), ()))), (62, callOrcN [L139] [L9, L41] (fun d => civil_Text (unDate d.1)) (fun r => ((r.1, ()), (r.2, ()), ())))], []⟩ 60 C_civil_Parse_l6 d = civil_Parse_l6_s (u_civil_Parse_l6 d) := fun d => t_civil_Parse_l6 (u_civil_Parse_l6 d)
theorem k_civil_Parse_l6 {R : Type} : LoopOk (R := R) PT 0 60 C_civil_Parse_l6 (loopOrcN 0 H_civil_Parse_l6 u_civil_Parse_l6 X_civil_Parse_l6 civil_Parse_l6) := by
  unfold civil_Parse_l6
  exact loopN_ok (orcN_cons (orcN_cons (orcN_cons (orc_nil) bd62 (ok62)) bd113 (ok113)) bd69 (ok69)) (loops_of (by
    have h : loopsOf C_civil_Parse_l6 = [] := by kernel_rfl
    rw [h]; exact loops_nil)) s_civil_Parse_l6 FUEL
theorem r65 : CallsTo PT 65 [L9] [L139, L41] (fun d => (runN (rs := [L139, L41]) ⟨[(69, callOrcN [L9, L9] [L147] (fun d => strings_Split d.1.1 d.2.1.1) (fun r => ((r, ()), ()))), (113, callOrcN [L9] [L3, L41] (fun d => strconv_Atoi d.1.1) (fun r => ((r.1, ()), (r.2, ()), ()))), (62, callOrcN [L139] [L9, L41] (fun d => civil_Text (unDate d.1)) (fun r => ((r.1, ()), (r.2, ()), ())))], [(6, loopOrcN 0 H_civil_Parse_l6 u_civil_Parse_l6 X_civil_Parse_l6 civil_Parse_l6)]⟩ Go.Proofs.Tryz.f65 [L9] (fun d => ((unDate d.1), d.2.1.1)) d).map (fun r => ((flDate r.1), (r.2, ()), ()))) := (runN_ok Go.Proofs.Tryz.func65 rfl (orcN_cons (orcN_cons (orcN_cons (orc_nil) bd62 (ok62)) bd113 (ok113)) bd69 (ok69)) (loops_body (by
  have h : bodyLoops Go.Proofs.Tryz.f65 = [C_civil_Parse_l6] := by kernel_rfl
  rw [h]; exact loops_cons (by kernel_rfl) k_civil_Parse_l6 (loops_nil))) (fun _ => rfl))
theorem e65 : ∀ (a : List UInt8), runN (rs := [L139, L41]) ⟨[(69, callOrcN [L9, L9] [L147] (fun d => strings_Split d.1.1 d.2.1.1) (fun r => ((r, ()), ()))), (113, callOrcN [L9] [L3, L41] (fun d => strconv_Atoi d.1.1) (fun r => ((r.1, ()), (r.2, ()), ()))), (62, callOrcN [L139] [L9, L41] (fun d => civil_Text (unDate d.1)) (fun r => ((r.1, ()), (r.2, ()), ())))], [(6, loopOrcN 0 H_civil_Parse_l6 u_civil_Parse_l6 X_civil_Parse_l6 civil_Parse_l6)]⟩ Go.Proofs.Tryz.f65 [L9] (fun d => ((unDate d.1), d.2.1.1)) ((a, ()), ()) = civil_Parse a := by intros; kernel_rfl
theorem ok65 : CallsTo PT 65 [L9] [L139, L41] (fun d => (civil_Parse d.1.1).map (fun r => ((flDate r.1), (r.2, ()), ()))) := r65.congr (fun d => congrArg (Option.map _) (e65 d.1.1))
theorem bd65 : Bodied PT 65 := bodied Go.Proofs.Tryz.func65 (by kernel_rfl) (by kernel_rfl)

/-! 66: civil_Days -/
theorem r66 : CallsTo PT 66 [L139] [L2, L41] (fun d => (runN (rs := [L2, L41]) ⟨[(111, callOrcN [L139] [L41] (fun d => civil_Check (unDate d.1)) (fun r => ((r, ()), ()))), (16, callOrcN [L2, L2] [L2, L2, L41] (fun d => num_Div d.1.1 d.2.1.1) (fun r => ((r.1, ()), (r.2.1, ()), (r.2.2, ()), ())))], []⟩ Go.Proofs.Tryz.f66 [L139] (fun d => (d.1.1, d.2.1.1)) d).map (fun r => ((r.1, ()), (r.2, ()), ()))) := (runN_ok Go.Proofs.Tryz.func66 rfl (orcN_cons (orcN_cons (orc_nil) bd16 (ok16)) bd111 (ok111)) (loops_body (by
  have h : bodyLoops Go.Proofs.Tryz.f66 = [] := by kernel_rfl
  rw [h]; exact loops_nil)) (fun _ => rfl))
theorem e66 : ∀ (a : Date), runN (rs := [L2, L41]) ⟨[(111, callOrcN [L139] [L41] (fun d => civil_Check (unDate d.1)) (fun r => ((r, ()), ()))), (16, callOrcN [L2, L2] [L2, L2, L41] (fun d => num_Div d.1.1 d.2.1.1) (fun r => ((r.1, ()), (r.2.1, ()), (r.2.2, ()), ())))], []⟩ Go.Proofs.Tryz.f66 [L139] (fun d => (d.1.1, d.2.1.1)) ((flDate a), ()) = civil_Days a := by intros; kernel_rfl
theorem ok66 : CallsTo PT 66 [L139] [L2, L41] (fun d => (civil_Days (unDate d.1)).map (fun r => ((r.1, ()), (r.2, ()), ()))) := r66.congr (fun d => congrArg (Option.map _) (e66 (unDate d.1)))
theorem bd66 : Bodied PT 66 := bodied Go.Proofs.Tryz.func66 (by kernel_rfl) (by kernel_rfl)

/-! 68: daytime_number -/
theorem r68 : CallsTo PT 68 [L9] [L2] (fun d => (runN (rs := [L2]) ⟨[(35, callOrcN [L9, L3, L3] [L2, L41] (fun d => strconv_ParseInt d.1.1 d.2.1.1 d.2.2.1.1) (fun r => ((r.1, ()), (r.2, ()), ())))], []⟩ Go.Proofs.Tryz.f68 [L9] (fun d => d.1.1) d).map (fun r => ((r, ()), ()))) := (runN_ok Go.Proofs.Tryz.func68 rfl (orcN_cons (orc_nil) bd35 (ok35)) (loops_body (by
  have h : bodyLoops Go.Proofs.Tryz.f68 = [] := by kernel_rfl
  rw [h]; exact loops_nil)) (fun _ => rfl))
theorem e68 : ∀ (a : List UInt8), runN (rs := [L2]) ⟨[(35, callOrcN [L9, L3, L3] [L2, L41] (fun d => strconv_ParseInt d.1.1 d.2.1.1 d.2.2.1.1) (fun r => ((r.1, ()), (r.2, ()), ())))], []⟩ Go.Proofs.Tryz.f68 [L9] (fun d => d.1.1) ((a, ()), ()) = daytime_number a := by intros; kernel_rfl
theorem ok68 : CallsTo PT 68 [L9] [L2] (fun d => (daytime_number d.1.1).map (fun r => ((r, ()), ()))) := r68.congr (fun d => congrArg (Option.map _) (e68 d.1.1))
theorem bd68 : Bodied PT 68 := bodied Go.Proofs.Tryz.func68 (by kernel_rfl) (by kernel_rfl)

/-! 114: daytime_Check -/
theorem r114 : CallsTo PT 114 [L135] [L41] (fun d => (runN (rs := [L41]) ⟨[], []⟩ Go.Proofs.Tryz.f114 [L135] (fun d => d.1.1) d).map (fun r => ((r, ()), ()))) := (runN_ok Go.Proofs.Tryz.func114 rfl (orc_nil) (loops_body (by
  have h : bodyLoops Go.Proofs.Tryz.f114 = [] := by kernel_rfl
  rw [h]; exact loops_nil)) (fun _ => rfl))
theorem e114 : ∀ (a : Time), runN (rs := [L41]) ⟨[], []⟩ Go.Proofs.Tryz.f114 [L135] (fun d => d.1.1) ((flTime a), ()) = daytime_Check a := by intros; kernel_rfl
theorem ok114 : CallsTo PT 114 [L135] [L41] (fun d => (daytime_Check (unTime d.1)).map (fun r => ((r, ()), ()))) := r114.congr (fun d => congrArg (Option.map _) (e114 (unTime d.1)))
theorem bd114 : Bodied PT 114 := bodied Go.Proofs.Tryz.func114 (by kernel_rfl) (by kernel_rfl)

/-! 67: daytime_Seconds -/
theorem r67 : CallsTo PT 67 [L135] [L2, L41] (fun d => (runN (rs := [L2, L41]) ⟨[(114, callOrcN [L135] [L41] (fun d => daytime_Check (unTime d.1)) (fun r => ((r, ()), ())))], []⟩ Go.Proofs.Tryz.f67 [L135] (fun d => (d.1.1, d.2.1.1)) d).map (fun r => ((r.1, ()), (r.2, ()), ()))) := (runN_ok Go.Proofs.Tryz.func67 rfl (orcN_cons (orc_nil) bd114 (ok114)) (loops_body (by
  have h : bodyLoops Go.Proofs.Tryz.f67 = [] := by kernel_rfl
  rw [h]; exact loops_nil)) (fun _ => rfl))
theorem e67 : ∀ (a : Time), runN (rs := [L2, L41]) ⟨[(114, callOrcN [L135] [L41] (fun d => daytime_Check (unTime d.1)) (fun r => ((r, ()), ())))], []⟩ Go.Proofs.Tryz.f67 [L135] (fun d => (d.1.1, d.2.1.1)) ((flTime a), ()) = daytime_Seconds a := by intros; kernel_rfl
theorem ok67 : CallsTo PT 67 [L135] [L2, L41] (fun d => (daytime_Seconds (unTime d.1)).map (fun r => ((r.1, ()), (r.2, ()), ()))) := r67.congr (fun d => congrArg (Option.map _) (e67 (unTime d.1)))
theorem bd67 : Bodied PT 67 := bodied Go.Proofs.Tryz.func67 (by kernel_rfl) (by kernel_rfl)

/-! 29: daytime_Parse -/
theorem r29 : CallsTo PT 29 [L9] [L2, L2, L2, L41] (fun d => (runN (rs := [L2, L2, L2, L41]) ⟨[(65, callOrcN [L9] [L139, L41] (fun d => civil_Parse d.1.1) (fun r => ((flDate r.1), (r.2, ()), ()))), (66, callOrcN [L139] [L2, L41] (fun d => civil_Days (unDate d.1)) (fun r => ((r.1, ()), (r.2, ()), ()))), (68, callOrcN [L9] [L2] (fun d => daytime_number d.1.1) (fun r => ((r, ()), ()))), (67, callOrcN [L135] [L2, L41] (fun d => daytime_Seconds (unTime d.1)) (fun r => ((r.1, ()), (r.2, ()), ()))), (27, callOrcN [L2, L2, L2] [L9, L41] (fun d => daytime_Stamp d.1.1 d.2.1.1 d.2.2.1.1) (fun r => ((r.1, ()), (r.2, ()), ())))], []⟩ Go.Proofs.Tryz.f29 [L9] (fun d => (d.1.1, d.2.1.1, d.2.2.1.1, d.2.2.2.1.1)) d).map (fun r => ((r.1, ()), (r.2.1, ()), (r.2.2.1, ()), (r.2.2.2, ()), ()))) := (runN_ok Go.Proofs.Tryz.func29 rfl (orcN_cons (orcN_cons (orcN_cons (orcN_cons (orcN_cons (orc_nil) bd27 (ok27)) bd67 (ok67)) bd68 (ok68)) bd66 (ok66)) bd65 (ok65)) (loops_body (by
  have h : bodyLoops Go.Proofs.Tryz.f29 = [] := by kernel_rfl
  rw [h]; exact loops_nil)) (fun _ => rfl))
theorem e29 : ∀ (a : List UInt8), runN (rs := [L2, L2, L2, L41]) ⟨[(65, callOrcN [L9] [L139, L41] (fun d => civil_Parse d.1.1) (fun r => ((flDate r.1), (r.2, ()), ()))), (66, callOrcN [L139] [L2, L41] (fun d => civil_Days (unDate d.1)) (fun r => ((r.1, ()), (r.2, ()), ()))), (68, callOrcN [L9] [L2] (fun d => daytime_number d.1.1) (fun r => ((r, ()), ()))), (67, callOrcN [L135] [L2, L41] (fun d => daytime_Seconds (unTime d.1)) (fun r => ((r.1, ()), (r.2, ()), ()))), (27, callOrcN [L2, L2, L2] [L9, L41] (fun d => daytime_Stamp d.1.1 d.2.1.1 d.2.2.1.1) (fun r => ((r.1, ()), (r.2, ()), ())))], []⟩ Go.Proofs.Tryz.f29 [L9] (fun d => (d.1.1, d.2.1.1, d.2.2.1.1, d.2.2.2.1.1)) ((a, ()), ()) = daytime_Parse a := by intros; kernel_rfl
theorem ok29 : CallsTo PT 29 [L9] [L2, L2, L2, L41] (fun d => (daytime_Parse d.1.1).map (fun r => ((r.1, ()), (r.2.1, ()), (r.2.2.1, ()), (r.2.2.2, ()), ()))) := r29.congr (fun d => congrArg (Option.map _) (e29 d.1.1))
theorem bd29 : Bodied PT 29 := bodied Go.Proofs.Tryz.func29 (by kernel_rfl) (by kernel_rfl)

/-! 30: told_offset -/
noncomputable def C_told_offset_l8 : Code := (bodyLoops Go.Proofs.Tryz.f30).getD 0 .skip
def H_told_offset_l8 : Sch GG := ⟨[(0, false, [.dat .str]), (5, false, [.dat (.int .i64)]), (6, false, [.dat (.int .i64)]), (24, false, [.dat (.sl .str)]), (25, false, [.dat (.int .i64)]), (26, false, [.dat (.int .i64)])], []⟩
def u_told_offset_l8 (d : H_told_offset_l8.Dat) : (List UInt8) × Int × Int × (List (List UInt8)) × Int × Int := (d.1.1.1, d.1.2.1.1, d.1.2.2.1.1, d.1.2.2.2.1.1, d.1.2.2.2.2.1.1, d.1.2.2.2.2.2.1.1)
def X_told_offset_l8 : List (NX GG) := [⟨.exit 0, ⟨[(0, false, [.dat .str]), (5, false, [.dat (.int .i64)])], []⟩, (List UInt8) × Int, fun x => (((x.1, ()), (x.2, ()), ()), ()), fun d => (d.1.1.1, d.1.2.1.1), fun _ => rfl⟩,
  ⟨.ret, ⟨[(2, false, [.dat (.int .i64)]), (3, false, [.dat .bool])], []⟩, Int × Bool, fun x => (((x.1, ()), (x.2, ()), ()), ()), fun d => (d.1.1.1, d.1.2.1.1), fun _ => rfl⟩]
theorem t_told_offset_l8 : ∀ (a : (List UInt8) × Int × Int × (List (List UInt8)) × Int × Int), stepN 0 H_told_offset_l8 u_told_offset_l8 X_told_offset_l8 ⟨[(69, callOrcN [L9, L9] [L147] (fun d => strings_Split d.1.1 d.2.1.1) (fun r => ((r, ()), ()))), (35, callOrcN [L9, L3, L3] [L2, L41] (fun d => strconv_ParseInt d.1.1 d.2.1.1 d.2.2.1.1) (fun r => ((r.1, ()), (r.2, ()), ())))], []⟩ 51 C_told_offset_l8 ((((a.1, ()), (a.2.1, ()), (a.2.2.1, ()), (a.2.2.2.1, ()), (a.2.2.2.2.1, ()), (a.2.2.2.2.2, ()), ()), ())) = told_offset_l8_s a := by intro a; kernel_rfl
theorem s_told_offset_l8 : ∀ d, stepN 0 H_told_offset_l8 u_told_offset_l8 X_told_offset_l8 ⟨[(69, callOrcN [L9, L9] [L147] (fun d => strings_Split d.1.1 d.2.1.1) (fun r => ((r, ()), ()))), (35, callOrcN [L9, L3, L3] [L2, L41] (fun d => strconv_ParseInt d.1.1 d.2.1.1 d.2.2.1.1) (fun r => ((r.1, ()), (r.2, ()), ())))], []⟩ 51 C_told_offset_l8 d = told_offset_l8_s (u_told_offset_l8 d) := fun d => t_told_offset_l8 (u_told_offset_l8 d)
theorem k_told_offset_l8 {R : Type} : LoopOk (R := R) PT 0 51 C_told_offset_l8 (loopOrcN 0 H_told_offset_l8 u_told_offset_l8 X_told_offset_l8 told_offset_l8) := by
  unfold told_offset_l8
  exact loopN_ok (orcN_cons (orcN_cons (orc_nil) bd35 (ok35)) bd69 (ok69)) (loops_of (by
    have h : loopsOf C_told_offset_l8 = [] := by kernel_rfl
    rw [h]; exact loops_nil)) s_told_offset_l8 FUEL
theorem r30 : CallsTo PT 30 [L9] [L2, L4] (fun d => (runN (rs := [L2, L4]) ⟨[(69, callOrcN [L9, L9] [L147] (fun d => strings_Split d.1.1 d.2.1.1) (fun r => ((r, ()), ()))), (35, callOrcN [L9, L3, L3] [L2, L41] (fun d => strconv_ParseInt d.1.1 d.2.1.1 d.2.2.1.1) (fun r => ((r.1, ()), (r.2, ()), ())))], [(8, loopOrcN 0 H_told_offset_l8 u_told_offset_l8 X_told_offset_l8 told_offset_l8)]⟩ Go.Proofs.Tryz.f30 [L9] (fun d => (d.1.1, d.2.1.1)) d).map (fun r => ((r.1, ()), (r.2, ()), ()))) := (runN_ok Go.Proofs.Tryz.func30 rfl (orcN_cons (orcN_cons (orc_nil) bd35 (ok35)) bd69 (ok69)) (loops_body (by
  have h : bodyLoops Go.Proofs.Tryz.f30 = [C_told_offset_l8] := by kernel_rfl
  rw [h]; exact loops_cons (by kernel_rfl) k_told_offset_l8 (loops_nil))) (fun _ => rfl))
theorem e30 : ∀ (a : List UInt8), runN (rs := [L2, L4]) ⟨[(69, callOrcN [L9, L9] [L147] (fun d => strings_Split d.1.1 d.2.1.1) (fun r => ((r, ()), ()))), (35, callOrcN [L9, L3, L3] [L2, L41] (fun d => strconv_ParseInt d.1.1 d.2.1.1 d.2.2.1.1) (fun r => ((r.1, ()), (r.2, ()), ())))], [(8, loopOrcN 0 H_told_offset_l8 u_told_offset_l8 X_told_offset_l8 told_offset_l8)]⟩ Go.Proofs.Tryz.f30 [L9] (fun d => (d.1.1, d.2.1.1)) ((a, ()), ()) = told_offset a := by intros; kernel_rfl
theorem ok30 : CallsTo PT 30 [L9] [L2, L4] (fun d => (told_offset d.1.1).map (fun r => ((r.1, ()), (r.2, ()), ()))) := r30.congr (fun d => congrArg (Option.map _) (e30 d.1.1))
theorem bd30 : Bodied PT 30 := bodied Go.Proofs.Tryz.func30 (by kernel_rfl) (by kernel_rfl)

/-! 31: num_Mul -/
theorem r31 : CallsTo PT 31 [L2, L2] [L2, L41] (fun d => (runN (rs := [L2, L41]) ⟨[], []⟩ Go.Proofs.Tryz.f31 [L2, L2] (fun d => (d.1.1, d.2.1.1)) d).map (fun r => ((r.1, ()), (r.2, ()), ()))) := (runN_ok Go.Proofs.Tryz.func31 rfl (orc_nil) (loops_body (by
  have h : bodyLoops Go.Proofs.Tryz.f31 = [] := by kernel_rfl
  rw [h]; exact loops_nil)) (fun _ => rfl))
theorem e31 : ∀ (a : Int) (b : Int), runN (rs := [L2, L41]) ⟨[], []⟩ Go.Proofs.Tryz.f31 [L2, L2] (fun d => (d.1.1, d.2.1.1)) ((a, ()), (b, ()), ()) = num_Mul a b := by intros; kernel_rfl
theorem ok31 : CallsTo PT 31 [L2, L2] [L2, L41] (fun d => (num_Mul d.1.1 d.2.1.1).map (fun r => ((r.1, ()), (r.2, ()), ()))) := r31.congr (fun d => congrArg (Option.map _) (e31 d.1.1 d.2.1.1))
theorem bd31 : Bodied PT 31 := bodied Go.Proofs.Tryz.func31 (by kernel_rfl) (by kernel_rfl)

/-! 32: num_AddSat -/
theorem r32 : CallsTo PT 32 [L2, L2] [L2] (fun d => (runN (rs := [L2]) ⟨[(37, callOrcN [L2, L2] [L2, L41] (fun d => num_Add d.1.1 d.2.1.1) (fun r => ((r.1, ()), (r.2, ()), ()))), (70, callOrcN [L4] [L2] (fun d => num_edge d.1.1) (fun r => ((r, ()), ())))], []⟩ Go.Proofs.Tryz.f32 [L2, L2] (fun d => d.1.1) d).map (fun r => ((r, ()), ()))) := (runN_ok Go.Proofs.Tryz.func32 rfl (orcN_cons (orcN_cons (orc_nil) bd70 (ok70)) bd37 (ok37)) (loops_body (by
  have h : bodyLoops Go.Proofs.Tryz.f32 = [] := by kernel_rfl
  rw [h]; exact loops_nil)) (fun _ => rfl))
theorem e32 : ∀ (a : Int) (b : Int), runN (rs := [L2]) ⟨[(37, callOrcN [L2, L2] [L2, L41] (fun d => num_Add d.1.1 d.2.1.1) (fun r => ((r.1, ()), (r.2, ()), ()))), (70, callOrcN [L4] [L2] (fun d => num_edge d.1.1) (fun r => ((r, ()), ())))], []⟩ Go.Proofs.Tryz.f32 [L2, L2] (fun d => d.1.1) ((a, ()), (b, ()), ()) = num_AddSat a b := by intros; kernel_rfl
theorem ok32 : CallsTo PT 32 [L2, L2] [L2] (fun d => (num_AddSat d.1.1 d.2.1.1).map (fun r => ((r, ()), ()))) := r32.congr (fun d => congrArg (Option.map _) (e32 d.1.1 d.2.1.1))
theorem bd32 : Bodied PT 32 := bodied Go.Proofs.Tryz.func32 (by kernel_rfl) (by kernel_rfl)

/-! 13: told_Parse -/
theorem r13 : CallsTo PT 13 [L9] [L67, L41] (fun d => (runN (rs := [L67, L41]) ⟨[(29, callOrcN [L9] [L2, L2, L2, L41] (fun d => daytime_Parse d.1.1) (fun r => ((r.1, ()), (r.2.1, ()), (r.2.2.1, ()), (r.2.2.2, ()), ()))), (30, callOrcN [L9] [L2, L4] (fun d => told_offset d.1.1) (fun r => ((r.1, ()), (r.2, ()), ()))), (31, callOrcN [L2, L2] [L2, L41] (fun d => num_Mul d.1.1 d.2.1.1) (fun r => ((r.1, ()), (r.2, ()), ()))), (32, callOrcN [L2, L2] [L2] (fun d => num_AddSat d.1.1 d.2.1.1) (fun r => ((r, ()), ()))), (11, callOrcN [L67] [L9, L41] (fun d => told_Text (unMoment d.1)) (fun r => ((r.1, ()), (r.2, ()), ())))], []⟩ Go.Proofs.Tryz.f13 [L9] (fun d => ((unMoment d.1), d.2.1.1)) d).map (fun r => ((flMoment r.1), (r.2, ()), ()))) := (runN_ok Go.Proofs.Tryz.func13 rfl (orcN_cons (orcN_cons (orcN_cons (orcN_cons (orcN_cons (orc_nil) bd11 (ok11)) bd32 (ok32)) bd31 (ok31)) bd30 (ok30)) bd29 (ok29)) (loops_body (by
  have h : bodyLoops Go.Proofs.Tryz.f13 = [] := by kernel_rfl
  rw [h]; exact loops_nil)) (fun _ => rfl))
theorem e13 : ∀ (a : List UInt8), runN (rs := [L67, L41]) ⟨[(29, callOrcN [L9] [L2, L2, L2, L41] (fun d => daytime_Parse d.1.1) (fun r => ((r.1, ()), (r.2.1, ()), (r.2.2.1, ()), (r.2.2.2, ()), ()))), (30, callOrcN [L9] [L2, L4] (fun d => told_offset d.1.1) (fun r => ((r.1, ()), (r.2, ()), ()))), (31, callOrcN [L2, L2] [L2, L41] (fun d => num_Mul d.1.1 d.2.1.1) (fun r => ((r.1, ()), (r.2, ()), ()))), (32, callOrcN [L2, L2] [L2] (fun d => num_AddSat d.1.1 d.2.1.1) (fun r => ((r, ()), ()))), (11, callOrcN [L67] [L9, L41] (fun d => told_Text (unMoment d.1)) (fun r => ((r.1, ()), (r.2, ()), ())))], []⟩ Go.Proofs.Tryz.f13 [L9] (fun d => ((unMoment d.1), d.2.1.1)) ((a, ()), ()) = told_Parse a := by intros; kernel_rfl
theorem ok13 : CallsTo PT 13 [L9] [L67, L41] (fun d => (told_Parse d.1.1).map (fun r => ((flMoment r.1), (r.2, ()), ()))) := r13.congr (fun d => congrArg (Option.map _) (e13 d.1.1))
theorem bd13 : Bodied PT 13 := bodied Go.Proofs.Tryz.func13 (by kernel_rfl) (by kernel_rfl)

/-! 116: i_stringslite_HasSuffix -/
theorem r116 : CallsTo PT 116 [L9, L9] [L4] (fun d => (runN (rs := [L4]) ⟨[], []⟩ Go.Proofs.Tryz.f116 [L9, L9] (fun d => d.1.1) d).map (fun r => ((r, ()), ()))) := (runN_ok Go.Proofs.Tryz.func116 rfl (orc_nil) (loops_body (by
  have h : bodyLoops Go.Proofs.Tryz.f116 = [] := by kernel_rfl
  rw [h]; exact loops_nil)) (fun _ => rfl))
theorem e116 : ∀ (a : List UInt8) (b : List UInt8), runN (rs := [L4]) ⟨[], []⟩ Go.Proofs.Tryz.f116 [L9, L9] (fun d => d.1.1) ((a, ()), (b, ()), ()) = i_stringslite_HasSuffix a b := by intros; kernel_rfl
theorem ok116 : CallsTo PT 116 [L9, L9] [L4] (fun d => (i_stringslite_HasSuffix d.1.1 d.2.1.1).map (fun r => ((r, ()), ()))) := r116.congr (fun d => congrArg (Option.map _) (e116 d.1.1 d.2.1.1))
theorem bd116 : Bodied PT 116 := bodied Go.Proofs.Tryz.func116 (by kernel_rfl) (by kernel_rfl)

/-! 71: i_stringslite_CutSuffix -/
theorem r71 : CallsTo PT 71 [L9, L9] [L9, L4] (fun d => (runN (rs := [L9, L4]) ⟨[(116, callOrcN [L9, L9] [L4] (fun d => i_stringslite_HasSuffix d.1.1 d.2.1.1) (fun r => ((r, ()), ())))], []⟩ Go.Proofs.Tryz.f71 [L9, L9] (fun d => (d.1.1, d.2.1.1)) d).map (fun r => ((r.1, ()), (r.2, ()), ()))) := (runN_ok Go.Proofs.Tryz.func71 rfl (orcN_cons (orc_nil) bd116 (ok116)) (loops_body (by
  have h : bodyLoops Go.Proofs.Tryz.f71 = [] := by kernel_rfl
  rw [h]; exact loops_nil)) (fun _ => rfl))
theorem e71 : ∀ (a : List UInt8) (b : List UInt8), runN (rs := [L9, L4]) ⟨[(116, callOrcN [L9, L9] [L4] (fun d => i_stringslite_HasSuffix d.1.1 d.2.1.1) (fun r => ((r, ()), ())))], []⟩ Go.Proofs.Tryz.f71 [L9, L9] (fun d => (d.1.1, d.2.1.1)) ((a, ()), (b, ()), ()) = i_stringslite_CutSuffix a b := by intros; kernel_rfl
theorem ok71 : CallsTo PT 71 [L9, L9] [L9, L4] (fun d => (i_stringslite_CutSuffix d.1.1 d.2.1.1).map (fun r => ((r.1, ()), (r.2, ()), ()))) := r71.congr (fun d => congrArg (Option.map _) (e71 d.1.1 d.2.1.1))
theorem bd71 : Bodied PT 71 := bodied Go.Proofs.Tryz.func71 (by kernel_rfl) (by kernel_rfl)

/-! 33: strings_CutSuffix -/
theorem r33 : CallsTo PT 33 [L9, L9] [L9, L4] (fun d => (runN (rs := [L9, L4]) ⟨[(71, callOrcN [L9, L9] [L9, L4] (fun d => i_stringslite_CutSuffix d.1.1 d.2.1.1) (fun r => ((r.1, ()), (r.2, ()), ())))], []⟩ Go.Proofs.Tryz.f33 [L9, L9] (fun d => (d.1.1, d.2.1.1)) d).map (fun r => ((r.1, ()), (r.2, ()), ()))) := (runN_ok Go.Proofs.Tryz.func33 rfl (orcN_cons (orc_nil) bd71 (ok71)) (loops_body (by
  have h : bodyLoops Go.Proofs.Tryz.f33 = [] := by kernel_rfl
  rw [h]; exact loops_nil)) (fun _ => rfl))
theorem e33 : ∀ (a : List UInt8) (b : List UInt8), runN (rs := [L9, L4]) ⟨[(71, callOrcN [L9, L9] [L9, L4] (fun d => i_stringslite_CutSuffix d.1.1 d.2.1.1) (fun r => ((r.1, ()), (r.2, ()), ())))], []⟩ Go.Proofs.Tryz.f33 [L9, L9] (fun d => (d.1.1, d.2.1.1)) ((a, ()), (b, ()), ()) = strings_CutSuffix a b := by intros; kernel_rfl
theorem ok33 : CallsTo PT 33 [L9, L9] [L9, L4] (fun d => (strings_CutSuffix d.1.1 d.2.1.1).map (fun r => ((r.1, ()), (r.2, ()), ()))) := r33.congr (fun d => congrArg (Option.map _) (e33 d.1.1 d.2.1.1))
theorem bd33 : Bodied PT 33 := bodied Go.Proofs.Tryz.func33 (by kernel_rfl) (by kernel_rfl)

/-! 14: told_Long -/
theorem r14 : CallsTo PT 14 [L9] [L2, L41] (fun d => (runN (rs := [L2, L41]) ⟨[(33, callOrcN [L9, L9] [L9, L4] (fun d => strings_CutSuffix d.1.1 d.2.1.1) (fun r => ((r.1, ()), (r.2, ()), ()))), (34, callOrcN [L9, L9] [L9, L9, L4] (fun d => strings_Cut d.1.1 d.2.1.1) (fun r => ((r.1, ()), (r.2.1, ()), (r.2.2, ()), ()))), (35, callOrcN [L9, L3, L3] [L2, L41] (fun d => strconv_ParseInt d.1.1 d.2.1.1 d.2.2.1.1) (fun r => ((r.1, ()), (r.2, ()), ()))), (36, callOrcN [L9, L3] [L9] (fun d => strings_Repeat d.1.1 d.2.1.1) (fun r => ((r, ()), ()))), (31, callOrcN [L2, L2] [L2, L41] (fun d => num_Mul d.1.1 d.2.1.1) (fun r => ((r.1, ()), (r.2, ()), ()))), (37, callOrcN [L2, L2] [L2, L41] (fun d => num_Add d.1.1 d.2.1.1) (fun r => ((r.1, ()), (r.2, ()), ()))), (18, callOrcN [L2] [L9] (fun d => told_length d.1.1) (fun r => ((r, ()), ())))], []⟩ Go.Proofs.Tryz.f14 [L9] (fun d => (d.1.1, d.2.1.1)) d).map (fun r => ((r.1, ()), (r.2, ()), ()))) := (runN_ok Go.Proofs.Tryz.func14 rfl (orcN_cons (orcN_cons (orcN_cons (orcN_cons (orcN_cons (orcN_cons (orcN_cons (orc_nil) bd18 (ok18)) bd37 (ok37)) bd31 (ok31)) bd36 (ok36)) bd35 (ok35)) bd34 (ok34)) bd33 (ok33)) (loops_body (by
  have h : bodyLoops Go.Proofs.Tryz.f14 = [] := by kernel_rfl
  rw [h]; exact loops_nil)) (fun _ => rfl))
theorem e14 : ∀ (a : List UInt8), runN (rs := [L2, L41]) ⟨[(33, callOrcN [L9, L9] [L9, L4] (fun d => strings_CutSuffix d.1.1 d.2.1.1) (fun r => ((r.1, ()), (r.2, ()), ()))), (34, callOrcN [L9, L9] [L9, L9, L4] (fun d => strings_Cut d.1.1 d.2.1.1) (fun r => ((r.1, ()), (r.2.1, ()), (r.2.2, ()), ()))), (35, callOrcN [L9, L3, L3] [L2, L41] (fun d => strconv_ParseInt d.1.1 d.2.1.1 d.2.2.1.1) (fun r => ((r.1, ()), (r.2, ()), ()))), (36, callOrcN [L9, L3] [L9] (fun d => strings_Repeat d.1.1 d.2.1.1) (fun r => ((r, ()), ()))), (31, callOrcN [L2, L2] [L2, L41] (fun d => num_Mul d.1.1 d.2.1.1) (fun r => ((r.1, ()), (r.2, ()), ()))), (37, callOrcN [L2, L2] [L2, L41] (fun d => num_Add d.1.1 d.2.1.1) (fun r => ((r.1, ()), (r.2, ()), ()))), (18, callOrcN [L2] [L9] (fun d => told_length d.1.1) (fun r => ((r, ()), ())))], []⟩ Go.Proofs.Tryz.f14 [L9] (fun d => (d.1.1, d.2.1.1)) ((a, ()), ()) = told_Long a := by intros; kernel_rfl
theorem ok14 : CallsTo PT 14 [L9] [L2, L41] (fun d => (told_Long d.1.1).map (fun r => ((r.1, ()), (r.2, ()), ()))) := r14.congr (fun d => congrArg (Option.map _) (e14 d.1.1))
theorem bd14 : Bodied PT 14 := bodied Go.Proofs.Tryz.func14 (by kernel_rfl) (by kernel_rfl)

/-! 5: fuseelaw43_sure -/
theorem r5 : CallsTo PT 5 ([] : List (Lay GG)) [L4] (fun d => (runN (rs := [L4]) ⟨[(11, callOrcN [L67] [L9, L41] (fun d => told_Text (unMoment d.1)) (fun r => ((r.1, ()), (r.2, ()), ()))), (12, callOrcN [L2] [L9, L41] (fun d => told_Length d.1.1) (fun r => ((r.1, ()), (r.2, ()), ()))), (13, callOrcN [L9] [L67, L41] (fun d => told_Parse d.1.1) (fun r => ((flMoment r.1), (r.2, ()), ()))), (14, callOrcN [L9] [L2, L41] (fun d => told_Long d.1.1) (fun r => ((r.1, ()), (r.2, ()), ()))), (9, callOrcN [L41] [L3] (fun d => law_num d.1.1) (fun r => ((r, ()), ())))], []⟩ Go.Proofs.Tryz.f5 ([] : List (Lay GG)) (fun d => d.1.1) d).map (fun r => ((r, ()), ()))) := (runN_ok Go.Proofs.Tryz.func5 rfl (orcN_cons (orcN_cons (orcN_cons (orcN_cons (orcN_cons (orc_nil) bd9 (ok9)) bd14 (ok14)) bd13 (ok13)) bd12 (ok12)) bd11 (ok11)) (loops_body (by
  have h : bodyLoops Go.Proofs.Tryz.f5 = [] := by kernel_rfl
  rw [h]; exact loops_nil)) (fun _ => rfl))
theorem e5 : runN (rs := [L4]) ⟨[(11, callOrcN [L67] [L9, L41] (fun d => told_Text (unMoment d.1)) (fun r => ((r.1, ()), (r.2, ()), ()))), (12, callOrcN [L2] [L9, L41] (fun d => told_Length d.1.1) (fun r => ((r.1, ()), (r.2, ()), ()))), (13, callOrcN [L9] [L67, L41] (fun d => told_Parse d.1.1) (fun r => ((flMoment r.1), (r.2, ()), ()))), (14, callOrcN [L9] [L2, L41] (fun d => told_Long d.1.1) (fun r => ((r.1, ()), (r.2, ()), ()))), (9, callOrcN [L41] [L3] (fun d => law_num d.1.1) (fun r => ((r, ()), ())))], []⟩ Go.Proofs.Tryz.f5 ([] : List (Lay GG)) (fun d => d.1.1) () = fuseelaw43_sure  := by intros; kernel_rfl
theorem ok5 : CallsTo PT 5 ([] : List (Lay GG)) [L4] (fun d => (fuseelaw43_sure ).map (fun r => ((r, ()), ()))) := r5.congr (fun d => congrArg (Option.map _) (e5 ))
theorem bd5 : Bodied PT 5 := bodied Go.Proofs.Tryz.func5 (by kernel_rfl) (by kernel_rfl)

/-! 46: law_giveZone -/
noncomputable def C_law_giveZone_l3 : Code := (bodyLoops Go.Proofs.Tryz.f46).getD 0 .skip
def H_law_giveZone_l3 : Sch GG := ⟨[(1, false, [.ptr 0 0]), (2, false, [.ptr 1 0]), (3, false, [.ptr 2 0]), (4, false, [.dat (.int .i64)])], [.var [.dat .str, .dat (.int .i64), .dat (.sl .kRule)], .var [.dat .str, .dat (.int .i64), .dat (.sl .kRule)], .var [.dat .str, .dat (.int .i64), .lv 3], .arr .kRule]⟩
def u_law_giveZone_l3 (d : H_law_giveZone_l3.Dat) : Int × Zone × Zone × (List UInt8) × Int × (List (Rule)) := (d.1.2.2.2.1.1, (unZone d.2.1), (unZone d.2.2.1), d.2.2.2.1.1, d.2.2.2.1.2.1, d.2.2.2.2.1)
def X_law_giveZone_l3 : List (NX GG) := [⟨.exit 0, ⟨[(2, false, [.ptr 0 0]), (3, false, [.ptr 1 0])], [.var [.dat .str, .dat (.int .i64), .dat (.sl .kRule)], .var [.dat .str, .dat (.int .i64), .dat (.sl .kRule)]]⟩, Zone × Zone, fun x => ((((), ()), ((), ()), ()), ((flZone x.1), (flZone x.2), ())), fun d => ((unZone d.2.1), (unZone d.2.2.1)), fun _ => rfl⟩]
theorem t_law_giveZone_l3 : ∀ (a : Int × Zone × Zone × (List UInt8) × Int × (List (Rule))), stepN 0 H_law_giveZone_l3 u_law_giveZone_l3 X_law_giveZone_l3 ⟨[], []⟩ 28 C_law_giveZone_l3 (((((), ()), ((), ()), ((), ()), (a.1, ()), ()), ((flZone a.2.1), (flZone a.2.2.1), (a.2.2.2.1, a.2.2.2.2.1, (), ()), a.2.2.2.2.2, ()))) = law_giveZone_l3_s a := by intro a; kernel_rfl
theorem s_law_giveZone_l3 : ∀ d, stepN 0 H_law_giveZone_l3 u_law_giveZone_l3 X_law_giveZone_l3 ⟨[], []⟩ 28 C_law_giveZone_l3 d = law_giveZone_l3_s (u_law_giveZone_l3 d) := fun d => t_law_giveZone_l3 (u_law_giveZone_l3 d)
theorem k_law_giveZone_l3 {R : Type} : LoopOk (R := R) PT 0 28 C_law_giveZone_l3 (loopOrcN 0 H_law_giveZone_l3 u_law_giveZone_l3 X_law_giveZone_l3 law_giveZone_l3) := by
  unfold law_giveZone_l3
  exact loopN_ok (orc_nil) (loops_of (by
    have h : loopsOf C_law_giveZone_l3 = [] := by kernel_rfl
    rw [h]; exact loops_nil)) s_law_giveZone_l3 FUEL
theorem r46 : CallsTo PT 46 [L29] [L49] (fun d => (runN (rs := [L49]) ⟨[], [(3, loopOrcN 0 H_law_giveZone_l3 u_law_giveZone_l3 X_law_giveZone_l3 law_giveZone_l3)]⟩ Go.Proofs.Tryz.f46 [L29] (fun d => (unZone d.1)) d).map (fun r => ((flZone r), ()))) := (runN_ok Go.Proofs.Tryz.func46 rfl (orc_nil) (loops_body (by
  have h : bodyLoops Go.Proofs.Tryz.f46 = [C_law_giveZone_l3] := by kernel_rfl
  rw [h]; exact loops_cons (by kernel_rfl) k_law_giveZone_l3 (loops_nil))) (fun _ => rfl))
theorem e46 : ∀ (a : Zone), runN (rs := [L49]) ⟨[], [(3, loopOrcN 0 H_law_giveZone_l3 u_law_giveZone_l3 X_law_giveZone_l3 law_giveZone_l3)]⟩ Go.Proofs.Tryz.f46 [L29] (fun d => (unZone d.1)) ((flZone a), ()) = law_giveZone a := by intros; kernel_rfl
theorem ok46 : CallsTo PT 46 [L29] [L49] (fun d => (law_giveZone (unZone d.1)).map (fun r => ((flZone r), ()))) := r46.congr (fun d => congrArg (Option.map _) (e46 (unZone d.1)))
theorem bd46 : Bodied PT 46 := bodied Go.Proofs.Tryz.func46 (by kernel_rfl) (by kernel_rfl)

/-! 19: law_givePolicy -/
theorem r19 : CallsTo PT 19 [L31] [L51] (fun d => (runN (rs := [L51]) ⟨[(46, callOrcN [L29] [L49] (fun d => law_giveZone (unZone d.1)) (fun r => ((flZone r), ())))], []⟩ Go.Proofs.Tryz.f19 [L31] (fun d => (unPolicy d.1)) d).map (fun r => ((flPolicy r), ()))) := (runN_ok Go.Proofs.Tryz.func19 rfl (orcN_cons (orc_nil) bd46 (ok46)) (loops_body (by
  have h : bodyLoops Go.Proofs.Tryz.f19 = [] := by kernel_rfl
  rw [h]; exact loops_nil)) (fun _ => rfl))
theorem e19 : ∀ (a : Policy), runN (rs := [L51]) ⟨[(46, callOrcN [L29] [L49] (fun d => law_giveZone (unZone d.1)) (fun r => ((flZone r), ())))], []⟩ Go.Proofs.Tryz.f19 [L31] (fun d => (unPolicy d.1)) ((flPolicy a), ()) = law_givePolicy a := by intros; kernel_rfl
theorem ok19 : CallsTo PT 19 [L31] [L51] (fun d => (law_givePolicy (unPolicy d.1)).map (fun r => ((flPolicy r), ()))) := r19.congr (fun d => congrArg (Option.map _) (e19 (unPolicy d.1)))
theorem bd19 : Bodied PT 19 := bodied Go.Proofs.Tryz.func19 (by kernel_rfl) (by kernel_rfl)

/-! 7: law_giveTenant -/
theorem r7 : CallsTo PT 7 [L37] [L55] (fun d => (runN (rs := [L55]) ⟨[(19, callOrcN [L31] [L51] (fun d => law_givePolicy (unPolicy d.1)) (fun r => ((flPolicy r), ())))], []⟩ Go.Proofs.Tryz.f7 [L37] (fun d => (unTenant d.1)) d).map (fun r => ((flTenant r), ()))) := (runN_ok Go.Proofs.Tryz.func7 rfl (orcN_cons (orc_nil) bd19 (ok19)) (loops_body (by
  have h : bodyLoops Go.Proofs.Tryz.f7 = [] := by kernel_rfl
  rw [h]; exact loops_nil)) (fun _ => rfl))
theorem e7 : ∀ (a : Tenant), runN (rs := [L55]) ⟨[(19, callOrcN [L31] [L51] (fun d => law_givePolicy (unPolicy d.1)) (fun r => ((flPolicy r), ())))], []⟩ Go.Proofs.Tryz.f7 [L37] (fun d => (unTenant d.1)) ((flTenant a), ()) = law_giveTenant a := by intros; kernel_rfl
theorem ok7 : CallsTo PT 7 [L37] [L55] (fun d => (law_giveTenant (unTenant d.1)).map (fun r => ((flTenant r), ()))) := r7.congr (fun d => congrArg (Option.map _) (e7 (unTenant d.1)))
theorem bd7 : Bodied PT 7 := bodied Go.Proofs.Tryz.func7 (by kernel_rfl) (by kernel_rfl)

/-! 85: smear_Check -/
theorem r85 : CallsTo PT 85 [L45] [L41] (fun d => (runN (rs := [L41]) ⟨[], []⟩ Go.Proofs.Tryz.f85 [L45] (fun d => d.1.1) d).map (fun r => ((r, ()), ()))) := (runN_ok Go.Proofs.Tryz.func85 rfl (orc_nil) (loops_body (by
  have h : bodyLoops Go.Proofs.Tryz.f85 = [] := by kernel_rfl
  rw [h]; exact loops_nil)) (fun _ => rfl))
theorem e85 : ∀ (a : Smear), runN (rs := [L41]) ⟨[], []⟩ Go.Proofs.Tryz.f85 [L45] (fun d => d.1.1) ((flSmear a), ()) = smear_Check a := by intros; kernel_rfl
theorem ok85 : CallsTo PT 85 [L45] [L41] (fun d => (smear_Check (unSmear d.1)).map (fun r => ((r, ()), ()))) := r85.congr (fun d => congrArg (Option.map _) (e85 (unSmear d.1)))
theorem bd85 : Bodied PT 85 := bodied Go.Proofs.Tryz.func85 (by kernel_rfl) (by kernel_rfl)

/-! 86: quant_Check -/
theorem r86 : CallsTo PT 86 [L2] [L41] (fun d => (runN (rs := [L41]) ⟨[], []⟩ Go.Proofs.Tryz.f86 [L2] (fun d => d.1.1) d).map (fun r => ((r, ()), ()))) := (runN_ok Go.Proofs.Tryz.func86 rfl (orc_nil) (loops_body (by
  have h : bodyLoops Go.Proofs.Tryz.f86 = [] := by kernel_rfl
  rw [h]; exact loops_nil)) (fun _ => rfl))
theorem e86 : ∀ (a : Int), runN (rs := [L41]) ⟨[], []⟩ Go.Proofs.Tryz.f86 [L2] (fun d => d.1.1) ((a, ()), ()) = quant_Check a := by intros; kernel_rfl
theorem ok86 : CallsTo PT 86 [L2] [L41] (fun d => (quant_Check d.1.1).map (fun r => ((r, ()), ()))) := r86.congr (fun d => congrArg (Option.map _) (e86 d.1.1))
theorem bd86 : Bodied PT 86 := bodied Go.Proofs.Tryz.func86 (by kernel_rfl) (by kernel_rfl)

/-! 87: fuzz_Check -/
theorem r87 : CallsTo PT 87 [L46] [L41] (fun d => (runN (rs := [L41]) ⟨[], []⟩ Go.Proofs.Tryz.f87 [L46] (fun d => d.1.1) d).map (fun r => ((r, ()), ()))) := (runN_ok Go.Proofs.Tryz.func87 rfl (orc_nil) (loops_body (by
  have h : bodyLoops Go.Proofs.Tryz.f87 = [] := by kernel_rfl
  rw [h]; exact loops_nil)) (fun _ => rfl))
theorem e87 : ∀ (a : Fuzz), runN (rs := [L41]) ⟨[], []⟩ Go.Proofs.Tryz.f87 [L46] (fun d => d.1.1) ((flFuzz a), ()) = fuzz_Check a := by intros; kernel_rfl
theorem ok87 : CallsTo PT 87 [L46] [L41] (fun d => (fuzz_Check (unFuzz d.1)).map (fun r => ((r, ()), ()))) := r87.congr (fun d => congrArg (Option.map _) (e87 (unFuzz d.1)))
theorem bd87 : Bodied PT 87 := bodied Go.Proofs.Tryz.func87 (by kernel_rfl) (by kernel_rfl)

/-! 90: zone_named -/
theorem r90 : CallsTo PT 90 [L9] [L4] (fun d => (runN (rs := [L4]) ⟨[(38, callOrcN [L9, L9] [L9] (fun d => strings_TrimLeft d.1.1 d.2.1.1) (fun r => ((r, ()), ())))], []⟩ Go.Proofs.Tryz.f90 [L9] (fun d => d.1.1) d).map (fun r => ((r, ()), ()))) := (runN_ok Go.Proofs.Tryz.func90 rfl (orcN_cons (orc_nil) bd38 (ok38)) (loops_body (by
  have h : bodyLoops Go.Proofs.Tryz.f90 = [] := by kernel_rfl
  rw [h]; exact loops_nil)) (fun _ => rfl))
theorem e90 : ∀ (a : List UInt8), runN (rs := [L4]) ⟨[(38, callOrcN [L9, L9] [L9] (fun d => strings_TrimLeft d.1.1 d.2.1.1) (fun r => ((r, ()), ())))], []⟩ Go.Proofs.Tryz.f90 [L9] (fun d => d.1.1) ((a, ()), ()) = zone_named a := by intros; kernel_rfl
theorem ok90 : CallsTo PT 90 [L9] [L4] (fun d => (zone_named d.1.1).map (fun r => ((r, ()), ()))) := r90.congr (fun d => congrArg (Option.map _) (e90 d.1.1))
theorem bd90 : Bodied PT 90 := bodied Go.Proofs.Tryz.func90 (by kernel_rfl) (by kernel_rfl)

/-! 91: zone_added -/
theorem r91 : CallsTo PT 91 [L2] [L4] (fun d => (runN (rs := [L4]) ⟨[], []⟩ Go.Proofs.Tryz.f91 [L2] (fun d => d.1.1) d).map (fun r => ((r, ()), ()))) := (runN_ok Go.Proofs.Tryz.func91 rfl (orc_nil) (loops_body (by
  have h : bodyLoops Go.Proofs.Tryz.f91 = [] := by kernel_rfl
  rw [h]; exact loops_nil)) (fun _ => rfl))
theorem e91 : ∀ (a : Int), runN (rs := [L4]) ⟨[], []⟩ Go.Proofs.Tryz.f91 [L2] (fun d => d.1.1) ((a, ()), ()) = zone_added a := by intros; kernel_rfl
theorem ok91 : CallsTo PT 91 [L2] [L4] (fun d => (zone_added d.1.1).map (fun r => ((r, ()), ()))) := r91.congr (fun d => congrArg (Option.map _) (e91 d.1.1))
theorem bd91 : Bodied PT 91 := bodied Go.Proofs.Tryz.func91 (by kernel_rfl) (by kernel_rfl)

/-! 42: zone_Check -/
noncomputable def C_zone_Check_l4 : Code := (bodyLoops Go.Proofs.Tryz.f42).getD 0 .skip
def H_zone_Check_l4 : Sch GG := ⟨[(1, false, [.ptr 0 0]), (23, false, [.dat (.sl .kRule)]), (24, false, [.dat (.int .i64)]), (25, false, [.dat (.int .i64)])], [.var [.dat .str, .dat (.int .i64), .dat (.sl .kRule)]]⟩
def u_zone_Check_l4 (d : H_zone_Check_l4.Dat) : (List (Rule)) × Int × Int × Zone := (d.1.2.1.1, d.1.2.2.1.1, d.1.2.2.2.1.1, (unZone d.2.1))
def X_zone_Check_l4 : List (NX GG) := [⟨.exit 0, ⟨[], []⟩, Unit, fun x => ((), ()), fun d => (), fun _ => rfl⟩,
  ⟨.ret, ⟨[(2, false, [.dat .err])], []⟩, (Option Int), fun x => (((x, ()), ()), ()), fun d => d.1.1.1, fun _ => rfl⟩]
theorem t_zone_Check_l4 : ∀ (a : (List (Rule)) × Int × Int × Zone), stepN 0 H_zone_Check_l4 u_zone_Check_l4 X_zone_Check_l4 ⟨[(90, callOrcN [L9] [L4] (fun d => zone_named d.1.1) (fun r => ((r, ()), ()))), (91, callOrcN [L2] [L4] (fun d => zone_added d.1.1) (fun r => ((r, ()), ())))], []⟩ 68 C_zone_Check_l4 (((((), ()), (a.1, ()), (a.2.1, ()), (a.2.2.1, ()), ()), ((flZone a.2.2.2), ()))) = zone_Check_l4_s a := by intro a; kernel_rfl
theorem s_zone_Check_l4 : ∀ d, stepN 0 H_zone_Check_l4 u_zone_Check_l4 X_zone_Check_l4 ⟨[(90, callOrcN [L9] [L4] (fun d => zone_named d.1.1) (fun r => ((r, ()), ()))), (91, callOrcN [L2] [L4] (fun d => zone_added d.1.1) (fun r => ((r, ()), ())))], []⟩ 68 C_zone_Check_l4 d = zone_Check_l4_s (u_zone_Check_l4 d) := fun d => t_zone_Check_l4 (u_zone_Check_l4 d)
theorem k_zone_Check_l4 {R : Type} : LoopOk (R := R) PT 0 68 C_zone_Check_l4 (loopOrcN 0 H_zone_Check_l4 u_zone_Check_l4 X_zone_Check_l4 zone_Check_l4) := by
  unfold zone_Check_l4
  exact loopN_ok (orcN_cons (orcN_cons (orc_nil) bd91 (ok91)) bd90 (ok90)) (loops_of (by
    have h : loopsOf C_zone_Check_l4 = [] := by kernel_rfl
    rw [h]; exact loops_nil)) s_zone_Check_l4 FUEL
theorem r42 : CallsTo PT 42 [L49] [L41] (fun d => (runN (rs := [L41]) ⟨[(90, callOrcN [L9] [L4] (fun d => zone_named d.1.1) (fun r => ((r, ()), ()))), (91, callOrcN [L2] [L4] (fun d => zone_added d.1.1) (fun r => ((r, ()), ())))], [(4, loopOrcN 0 H_zone_Check_l4 u_zone_Check_l4 X_zone_Check_l4 zone_Check_l4)]⟩ Go.Proofs.Tryz.f42 [L49] (fun d => d.1.1) d).map (fun r => ((r, ()), ()))) := (runN_ok Go.Proofs.Tryz.func42 rfl (orcN_cons (orcN_cons (orc_nil) bd91 (ok91)) bd90 (ok90)) (loops_body (by
  have h : bodyLoops Go.Proofs.Tryz.f42 = [C_zone_Check_l4] := by kernel_rfl
  rw [h]; exact loops_cons (by kernel_rfl) k_zone_Check_l4 (loops_nil))) (fun _ => rfl))
theorem e42 : ∀ (a : Zone), runN (rs := [L41]) ⟨[(90, callOrcN [L9] [L4] (fun d => zone_named d.1.1) (fun r => ((r, ()), ()))), (91, callOrcN [L2] [L4] (fun d => zone_added d.1.1) (fun r => ((r, ()), ())))], [(4, loopOrcN 0 H_zone_Check_l4 u_zone_Check_l4 X_zone_Check_l4 zone_Check_l4)]⟩ Go.Proofs.Tryz.f42 [L49] (fun d => d.1.1) ((flZone a), ()) = zone_Check a := by intros; kernel_rfl
theorem ok42 : CallsTo PT 42 [L49] [L41] (fun d => (zone_Check (unZone d.1)).map (fun r => ((r, ()), ()))) := r42.congr (fun d => congrArg (Option.map _) (e42 (unZone d.1)))
theorem bd42 : Bodied PT 42 := bodied Go.Proofs.Tryz.func42 (by kernel_rfl) (by kernel_rfl)

/-! 39: policy_Check -/
noncomputable def C_policy_Check_l2 : Code := (bodyLoops Go.Proofs.Tryz.f39).getD 0 .skip
def H_policy_Check_l2 : Sch GG := ⟨[(17, true, [.dat (.arr .err 4)]), (18, false, [.dat (.int .i64)])], []⟩
def u_policy_Check_l2 (d : H_policy_Check_l2.Dat) : (List (Option Int)) × Int := (d.1.1.1, d.1.2.1.1)
def X_policy_Check_l2 : List (NX GG) := [⟨.exit 0, ⟨[], []⟩, Unit, fun x => ((), ()), fun d => (), fun _ => rfl⟩,
  ⟨.ret, ⟨[(2, false, [.dat .err])], []⟩, (Option Int), fun x => (((x, ()), ()), ()), fun d => d.1.1.1, fun _ => rfl⟩]
theorem t_policy_Check_l2 : ∀ (a : (List (Option Int)) × Int), stepN 0 H_policy_Check_l2 u_policy_Check_l2 X_policy_Check_l2 ⟨[(85, callOrcN [L45] [L41] (fun d => smear_Check (unSmear d.1)) (fun r => ((r, ()), ()))), (86, callOrcN [L2] [L41] (fun d => quant_Check d.1.1) (fun r => ((r, ()), ()))), (87, callOrcN [L46] [L41] (fun d => fuzz_Check (unFuzz d.1)) (fun r => ((r, ()), ()))), (42, callOrcN [L49] [L41] (fun d => zone_Check (unZone d.1)) (fun r => ((r, ()), ())))], []⟩ 25 C_policy_Check_l2 ((((a.1, ()), (a.2, ()), ()), ())) = policy_Check_l2_s a := by intro a; kernel_rfl
theorem s_policy_Check_l2 : ∀ d, stepN 0 H_policy_Check_l2 u_policy_Check_l2 X_policy_Check_l2 ⟨[(85, callOrcN [L45] [L41] (fun d => smear_Check (unSmear d.1)) (fun r => ((r, ()), ()))), (86, callOrcN [L2] [L41] (fun d => quant_Check d.1.1) (fun r => ((r, ()), ()))), (87, callOrcN [L46] [L41] (fun d => fuzz_Check (unFuzz d.1)) (fun r => ((r, ()), ()))), (42, callOrcN [L49] [L41] (fun d => zone_Check (unZone d.1)) (fun r => ((r, ()), ())))], []⟩ 25 C_policy_Check_l2 d = policy_Check_l2_s (u_policy_Check_l2 d) := fun d => t_policy_Check_l2 (u_policy_Check_l2 d)
theorem k_policy_Check_l2 {R : Type} : LoopOk (R := R) PT 0 25 C_policy_Check_l2 (loopOrcN 0 H_policy_Check_l2 u_policy_Check_l2 X_policy_Check_l2 policy_Check_l2) := by
  unfold policy_Check_l2
  exact loopN_ok (orcN_cons (orcN_cons (orcN_cons (orcN_cons (orc_nil) bd42 (ok42)) bd87 (ok87)) bd86 (ok86)) bd85 (ok85)) (loops_of (by
    have h : loopsOf C_policy_Check_l2 = [] := by kernel_rfl
    rw [h]; exact loops_nil)) s_policy_Check_l2 FUEL
theorem r39 : CallsTo PT 39 [L51] [L41] (fun d => (runN (rs := [L41]) ⟨[(85, callOrcN [L45] [L41] (fun d => smear_Check (unSmear d.1)) (fun r => ((r, ()), ()))), (86, callOrcN [L2] [L41] (fun d => quant_Check d.1.1) (fun r => ((r, ()), ()))), (87, callOrcN [L46] [L41] (fun d => fuzz_Check (unFuzz d.1)) (fun r => ((r, ()), ()))), (42, callOrcN [L49] [L41] (fun d => zone_Check (unZone d.1)) (fun r => ((r, ()), ())))], [(2, loopOrcN 0 H_policy_Check_l2 u_policy_Check_l2 X_policy_Check_l2 policy_Check_l2)]⟩ Go.Proofs.Tryz.f39 [L51] (fun d => d.1.1) d).map (fun r => ((r, ()), ()))) := (runN_ok Go.Proofs.Tryz.func39 rfl (orcN_cons (orcN_cons (orcN_cons (orcN_cons (orc_nil) bd42 (ok42)) bd87 (ok87)) bd86 (ok86)) bd85 (ok85)) (loops_body (by
  have h : bodyLoops Go.Proofs.Tryz.f39 = [C_policy_Check_l2] := by kernel_rfl
  rw [h]; exact loops_cons (by kernel_rfl) k_policy_Check_l2 (loops_nil))) (fun _ => rfl))
theorem e39 : ∀ (a : Policy), runN (rs := [L41]) ⟨[(85, callOrcN [L45] [L41] (fun d => smear_Check (unSmear d.1)) (fun r => ((r, ()), ()))), (86, callOrcN [L2] [L41] (fun d => quant_Check d.1.1) (fun r => ((r, ()), ()))), (87, callOrcN [L46] [L41] (fun d => fuzz_Check (unFuzz d.1)) (fun r => ((r, ()), ()))), (42, callOrcN [L49] [L41] (fun d => zone_Check (unZone d.1)) (fun r => ((r, ()), ())))], [(2, loopOrcN 0 H_policy_Check_l2 u_policy_Check_l2 X_policy_Check_l2 policy_Check_l2)]⟩ Go.Proofs.Tryz.f39 [L51] (fun d => d.1.1) ((flPolicy a), ()) = policy_Check a := by intros; kernel_rfl
theorem ok39 : CallsTo PT 39 [L51] [L41] (fun d => (policy_Check (unPolicy d.1)).map (fun r => ((r, ()), ()))) := r39.congr (fun d => congrArg (Option.map _) (e39 (unPolicy d.1)))
theorem bd39 : Bodied PT 39 := bodied Go.Proofs.Tryz.func39 (by kernel_rfl) (by kernel_rfl)

/-! 88: pause_time -/
theorem r88 : CallsTo PT 88 [L2] [L4] (fun d => (runN (rs := [L4]) ⟨[(59, callOrcN [L2] [L2] (fun d => num_Size d.1.1) (fun r => ((r, ()), ())))], []⟩ Go.Proofs.Tryz.f88 [L2] (fun d => d.1.1) d).map (fun r => ((r, ()), ()))) := (runN_ok Go.Proofs.Tryz.func88 rfl (orcN_cons (orc_nil) bd59 (ok59)) (loops_body (by
  have h : bodyLoops Go.Proofs.Tryz.f88 = [] := by kernel_rfl
  rw [h]; exact loops_nil)) (fun _ => rfl))
theorem e88 : ∀ (a : Int), runN (rs := [L4]) ⟨[(59, callOrcN [L2] [L2] (fun d => num_Size d.1.1) (fun r => ((r, ()), ())))], []⟩ Go.Proofs.Tryz.f88 [L2] (fun d => d.1.1) ((a, ()), ()) = pause_time a := by intros; kernel_rfl
theorem ok88 : CallsTo PT 88 [L2] [L4] (fun d => (pause_time d.1.1).map (fun r => ((r, ()), ()))) := r88.congr (fun d => congrArg (Option.map _) (e88 d.1.1))
theorem bd88 : Bodied PT 88 := bodied Go.Proofs.Tryz.func88 (by kernel_rfl) (by kernel_rfl)

/-! 40: pause_Check -/
theorem r40 : CallsTo PT 40 [L52] [L41] (fun d => (runN (rs := [L41]) ⟨[(88, callOrcN [L2] [L4] (fun d => pause_time d.1.1) (fun r => ((r, ()), ())))], []⟩ Go.Proofs.Tryz.f40 [L52] (fun d => d.1.1) d).map (fun r => ((r, ()), ()))) := (runN_ok Go.Proofs.Tryz.func40 rfl (orcN_cons (orc_nil) bd88 (ok88)) (loops_body (by
  have h : bodyLoops Go.Proofs.Tryz.f40 = [] := by kernel_rfl
  rw [h]; exact loops_nil)) (fun _ => rfl))
theorem e40 : ∀ (a : Pause), runN (rs := [L41]) ⟨[(88, callOrcN [L2] [L4] (fun d => pause_time d.1.1) (fun r => ((r, ()), ())))], []⟩ Go.Proofs.Tryz.f40 [L52] (fun d => d.1.1) ((flPause a), ()) = pause_Check a := by intros; kernel_rfl
theorem ok40 : CallsTo PT 40 [L52] [L41] (fun d => (pause_Check (unPause d.1)).map (fun r => ((r, ()), ()))) := r40.congr (fun d => congrArg (Option.map _) (e40 (unPause d.1)))
theorem bd40 : Bodied PT 40 := bodied Go.Proofs.Tryz.func40 (by kernel_rfl) (by kernel_rfl)

/-! 89: quant_Is -/
theorem r89 : CallsTo PT 89 [L2, L2] [L4] (fun d => (runN (rs := [L4]) ⟨[(86, callOrcN [L2] [L41] (fun d => quant_Check d.1.1) (fun r => ((r, ()), ())))], []⟩ Go.Proofs.Tryz.f89 [L2, L2] (fun d => d.1.1) d).map (fun r => ((r, ()), ()))) := (runN_ok Go.Proofs.Tryz.func89 rfl (orcN_cons (orc_nil) bd86 (ok86)) (loops_body (by
  have h : bodyLoops Go.Proofs.Tryz.f89 = [] := by kernel_rfl
  rw [h]; exact loops_nil)) (fun _ => rfl))
theorem e89 : ∀ (a : Int) (b : Int), runN (rs := [L4]) ⟨[(86, callOrcN [L2] [L41] (fun d => quant_Check d.1.1) (fun r => ((r, ()), ())))], []⟩ Go.Proofs.Tryz.f89 [L2, L2] (fun d => d.1.1) ((a, ()), (b, ()), ()) = quant_Is a b := by intros; kernel_rfl
theorem ok89 : CallsTo PT 89 [L2, L2] [L4] (fun d => (quant_Is d.1.1 d.2.1.1).map (fun r => ((r, ()), ()))) := r89.congr (fun d => congrArg (Option.map _) (e89 d.1.1 d.2.1.1))
theorem bd89 : Bodied PT 89 := bodied Go.Proofs.Tryz.func89 (by kernel_rfl) (by kernel_rfl)

/-! 41: tenant_floored -/
theorem r41 : CallsTo PT 41 [L53, L2] [L4] (fun d => (runN (rs := [L4]) ⟨[(89, callOrcN [L2, L2] [L4] (fun d => quant_Is d.1.1 d.2.1.1) (fun r => ((r, ()), ())))], []⟩ Go.Proofs.Tryz.f41 [L53, L2] (fun d => d.1.1) d).map (fun r => ((r, ()), ()))) := (runN_ok Go.Proofs.Tryz.func41 rfl (orcN_cons (orc_nil) bd89 (ok89)) (loops_body (by
  have h : bodyLoops Go.Proofs.Tryz.f41 = [] := by kernel_rfl
  rw [h]; exact loops_nil)) (fun _ => rfl))
theorem e41 : ∀ (a : Floor) (b : Int), runN (rs := [L4]) ⟨[(89, callOrcN [L2, L2] [L4] (fun d => quant_Is d.1.1 d.2.1.1) (fun r => ((r, ()), ())))], []⟩ Go.Proofs.Tryz.f41 [L53, L2] (fun d => d.1.1) ((flFloor a), (b, ()), ()) = tenant_floored a b := by intros; kernel_rfl
theorem ok41 : CallsTo PT 41 [L53, L2] [L4] (fun d => (tenant_floored (unFloor d.1) d.2.1.1).map (fun r => ((r, ()), ()))) := r41.congr (fun d => congrArg (Option.map _) (e41 (unFloor d.1) d.2.1.1))
theorem bd41 : Bodied PT 41 := bodied Go.Proofs.Tryz.func41 (by kernel_rfl) (by kernel_rfl)

/-! 15: tenant_Check -/
theorem r15 : CallsTo PT 15 [L55] [L41] (fun d => (runN (rs := [L41]) ⟨[(38, callOrcN [L9, L9] [L9] (fun d => strings_TrimLeft d.1.1 d.2.1.1) (fun r => ((r, ()), ()))), (39, callOrcN [L51] [L41] (fun d => policy_Check (unPolicy d.1)) (fun r => ((r, ()), ()))), (40, callOrcN [L52] [L41] (fun d => pause_Check (unPause d.1)) (fun r => ((r, ()), ()))), (41, callOrcN [L53, L2] [L4] (fun d => tenant_floored (unFloor d.1) d.2.1.1) (fun r => ((r, ()), ())))], []⟩ Go.Proofs.Tryz.f15 [L55] (fun d => d.1.1) d).map (fun r => ((r, ()), ()))) := (runN_ok Go.Proofs.Tryz.func15 rfl (orcN_cons (orcN_cons (orcN_cons (orcN_cons (orc_nil) bd41 (ok41)) bd40 (ok40)) bd39 (ok39)) bd38 (ok38)) (loops_body (by
  have h : bodyLoops Go.Proofs.Tryz.f15 = [] := by kernel_rfl
  rw [h]; exact loops_nil)) (fun _ => rfl))
theorem e15 : ∀ (a : Tenant), runN (rs := [L41]) ⟨[(38, callOrcN [L9, L9] [L9] (fun d => strings_TrimLeft d.1.1 d.2.1.1) (fun r => ((r, ()), ()))), (39, callOrcN [L51] [L41] (fun d => policy_Check (unPolicy d.1)) (fun r => ((r, ()), ()))), (40, callOrcN [L52] [L41] (fun d => pause_Check (unPause d.1)) (fun r => ((r, ()), ()))), (41, callOrcN [L53, L2] [L4] (fun d => tenant_floored (unFloor d.1) d.2.1.1) (fun r => ((r, ()), ())))], []⟩ Go.Proofs.Tryz.f15 [L55] (fun d => d.1.1) ((flTenant a), ()) = tenant_Check a := by intros; kernel_rfl
theorem ok15 : CallsTo PT 15 [L55] [L41] (fun d => (tenant_Check (unTenant d.1)).map (fun r => ((r, ()), ()))) := r15.congr (fun d => congrArg (Option.map _) (e15 (unTenant d.1)))
theorem bd15 : Bodied PT 15 := bodied Go.Proofs.Tryz.func15 (by kernel_rfl) (by kernel_rfl)

/-! 131: cmp_isNaN_int64 -/
theorem r131 : CallsTo PT 131 [L2] [L4] (fun d => (runN (rs := [L4]) ⟨[], []⟩ Go.Proofs.Tryz.f131 [L2] (fun d => d.1.1) d).map (fun r => ((r, ()), ()))) := (runN_ok Go.Proofs.Tryz.func131 rfl (orc_nil) (loops_body (by
  have h : bodyLoops Go.Proofs.Tryz.f131 = [] := by kernel_rfl
  rw [h]; exact loops_nil)) (fun _ => rfl))
theorem e131 : ∀ (a : Int), runN (rs := [L4]) ⟨[], []⟩ Go.Proofs.Tryz.f131 [L2] (fun d => d.1.1) ((a, ()), ()) = cmp_isNaN_int64 a := by intros; kernel_rfl
theorem ok131 : CallsTo PT 131 [L2] [L4] (fun d => (cmp_isNaN_int64 d.1.1).map (fun r => ((r, ()), ()))) := r131.congr (fun d => congrArg (Option.map _) (e131 d.1.1))
theorem bd131 : Bodied PT 131 := bodied Go.Proofs.Tryz.func131 (by kernel_rfl) (by kernel_rfl)

/-! 94: cmp_Compare_int64 -/
theorem r94 : CallsTo PT 94 [L2, L2] [L3] (fun d => (runN (rs := [L3]) ⟨[(131, callOrcN [L2] [L4] (fun d => cmp_isNaN_int64 d.1.1) (fun r => ((r, ()), ())))], []⟩ Go.Proofs.Tryz.f94 [L2, L2] (fun d => d.1.1) d).map (fun r => ((r, ()), ()))) := (runN_ok Go.Proofs.Tryz.func94 rfl (orcN_cons (orc_nil) bd131 (ok131)) (loops_body (by
  have h : bodyLoops Go.Proofs.Tryz.f94 = [] := by kernel_rfl
  rw [h]; exact loops_nil)) (fun _ => rfl))
theorem e94 : ∀ (a : Int) (b : Int), runN (rs := [L3]) ⟨[(131, callOrcN [L2] [L4] (fun d => cmp_isNaN_int64 d.1.1) (fun r => ((r, ()), ())))], []⟩ Go.Proofs.Tryz.f94 [L2, L2] (fun d => d.1.1) ((a, ()), (b, ()), ()) = cmp_Compare_int64 a b := by intros; kernel_rfl
theorem ok94 : CallsTo PT 94 [L2, L2] [L3] (fun d => (cmp_Compare_int64 d.1.1 d.2.1.1).map (fun r => ((r, ()), ()))) := r94.congr (fun d => congrArg (Option.map _) (e94 d.1.1 d.2.1.1))
theorem bd94 : Bodied PT 94 := bodied Go.Proofs.Tryz.func94 (by kernel_rfl) (by kernel_rfl)

/-! 93: zone_behind_c1 -/
theorem r93 : CallsTo PT 93 [L112, L2] [L3] (fun d => (runN (rs := [L3]) ⟨[(94, callOrcN [L2, L2] [L3] (fun d => cmp_Compare_int64 d.1.1 d.2.1.1) (fun r => ((r, ()), ())))], []⟩ Go.Proofs.Tryz.f93 [L112, L2] (fun d => d.1.1) d).map (fun r => ((r, ()), ()))) := (runN_ok Go.Proofs.Tryz.func93 rfl (orcN_cons (orc_nil) bd94 (ok94)) (loops_body (by
  have h : bodyLoops Go.Proofs.Tryz.f93 = [] := by kernel_rfl
  rw [h]; exact loops_nil)) (fun _ => rfl))
theorem e93 : ∀ (a : Rule) (b : Int), runN (rs := [L3]) ⟨[(94, callOrcN [L2, L2] [L3] (fun d => cmp_Compare_int64 d.1.1 d.2.1.1) (fun r => ((r, ()), ())))], []⟩ Go.Proofs.Tryz.f93 [L112, L2] (fun d => d.1.1) ((flRule a), (b, ()), ()) = zone_behind_c1 a b := by intros; kernel_rfl
theorem ok93 : CallsTo PT 93 [L112, L2] [L3] (fun d => (zone_behind_c1 (unRule d.1) d.2.1.1).map (fun r => ((r, ()), ()))) := r93.congr (fun d => congrArg (Option.map _) (e93 (unRule d.1) d.2.1.1))
theorem bd93 : Bodied PT 93 := bodied Go.Proofs.Tryz.func93 (by kernel_rfl) (by kernel_rfl)

/-! 92: slices_BinarySearchFunc_zone_Rule_zone_Rule_int64__zone_behind_c1 -/
noncomputable def C_slices_BinarySearchFunc_zone_Rule_zone_Rule_int64__zone_behind_c1_l3 : Code := (bodyLoops Go.Proofs.Tryz.f92).getD 0 .skip
def H_slices_BinarySearchFunc_zone_Rule_zone_Rule_int64__zone_behind_c1_l3 : Sch GG := ⟨[(0, false, [.dat (.sl .kRule)]), (1, false, [.dat (.int .i64)]), (2, false, [.clo 93 []]), (8, false, [.dat (.int .i64)]), (9, false, [.dat (.int .i64)]), (10, false, [.dat (.int .i64)])], []⟩
def u_slices_BinarySearchFunc_zone_Rule_zone_Rule_int64__zone_behind_c1_l3 (d : H_slices_BinarySearchFunc_zone_Rule_zone_Rule_int64__zone_behind_c1_l3.Dat) : (List (Rule)) × Int × Int × Int × Int := (d.1.1.1, d.1.2.1.1, d.1.2.2.2.1.1, d.1.2.2.2.2.1.1, d.1.2.2.2.2.2.1.1)
def X_slices_BinarySearchFunc_zone_Rule_zone_Rule_int64__zone_behind_c1_l3 : List (NX GG) := [⟨.exit 0, ⟨[(0, false, [.dat (.sl .kRule)]), (1, false, [.dat (.int .i64)]), (2, false, [.clo 93 []]), (8, false, [.dat (.int .i64)]), (9, false, [.dat (.int .i64)])], []⟩, (List (Rule)) × Int × Int × Int, fun x => (((x.1, ()), (x.2.1, ()), ((), ()), (x.2.2.1, ()), (x.2.2.2, ()), ()), ()), fun d => (d.1.1.1, d.1.2.1.1, d.1.2.2.2.1.1, d.1.2.2.2.2.1.1), fun _ => rfl⟩]
theorem t_slices_BinarySearchFunc_zone_Rule_zone_Rule_int64__zone_behind_c1_l3 : ∀ (a : (List (Rule)) × Int × Int × Int × Int), stepN 0 H_slices_BinarySearchFunc_zone_Rule_zone_Rule_int64__zone_behind_c1_l3 u_slices_BinarySearchFunc_zone_Rule_zone_Rule_int64__zone_behind_c1_l3 X_slices_BinarySearchFunc_zone_Rule_zone_Rule_int64__zone_behind_c1_l3 ⟨[(93, callOrcN [L112, L2] [L3] (fun d => zone_behind_c1 (unRule d.1) d.2.1.1) (fun r => ((r, ()), ())))], []⟩ 49 C_slices_BinarySearchFunc_zone_Rule_zone_Rule_int64__zone_behind_c1_l3 ((((a.1, ()), (a.2.1, ()), ((), ()), (a.2.2.1, ()), (a.2.2.2.1, ()), (a.2.2.2.2, ()), ()), ())) = slices_BinarySearchFunc_zone_Rule_zone_Rule_int64__zone_behind_c1_l3_s a := by intro a; kernel_rfl
theorem s_slices_BinarySearchFunc_zone_Rule_zone_Rule_int64__zone_behind_c1_l3 : ∀ d, stepN 0 H_slices_BinarySearchFunc_zone_Rule_zone_Rule_int64__zone_behind_c1_l3 u_slices_BinarySearchFunc_zone_Rule_zone_Rule_int64__zone_behind_c1_l3 X_slices_BinarySearchFunc_zone_Rule_zone_Rule_int64__zone_behind_c1_l3 ⟨[(93, callOrcN [L112, L2] [L3] (fun d => zone_behind_c1 (unRule d.1) d.2.1.1) (fun r => ((r, ()), ())))], []⟩ 49 C_slices_BinarySearchFunc_zone_Rule_zone_Rule_int64__zone_behind_c1_l3 d = slices_BinarySearchFunc_zone_Rule_zone_Rule_int64__zone_behind_c1_l3_s (u_slices_BinarySearchFunc_zone_Rule_zone_Rule_int64__zone_behind_c1_l3 d) := fun d => t_slices_BinarySearchFunc_zone_Rule_zone_Rule_int64__zone_behind_c1_l3 (u_slices_BinarySearchFunc_zone_Rule_zone_Rule_int64__zone_behind_c1_l3 d)
theorem k_slices_BinarySearchFunc_zone_Rule_zone_Rule_int64__zone_behind_c1_l3 {R : Type} : LoopOk (R := R) PT 0 49 C_slices_BinarySearchFunc_zone_Rule_zone_Rule_int64__zone_behind_c1_l3 (loopOrcN 0 H_slices_BinarySearchFunc_zone_Rule_zone_Rule_int64__zone_behind_c1_l3 u_slices_BinarySearchFunc_zone_Rule_zone_Rule_int64__zone_behind_c1_l3 X_slices_BinarySearchFunc_zone_Rule_zone_Rule_int64__zone_behind_c1_l3 slices_BinarySearchFunc_zone_Rule_zone_Rule_int64__zone_behind_c1_l3) := by
  unfold slices_BinarySearchFunc_zone_Rule_zone_Rule_int64__zone_behind_c1_l3
  exact loopN_ok (orcN_cons (orc_nil) bd93 (ok93)) (loops_of (by
    have h : loopsOf C_slices_BinarySearchFunc_zone_Rule_zone_Rule_int64__zone_behind_c1_l3 = [] := by kernel_rfl
    rw [h]; exact loops_nil)) s_slices_BinarySearchFunc_zone_Rule_zone_Rule_int64__zone_behind_c1_l3 FUEL
theorem r92_93 : CallsTo PT 92 [L47, L2, L180] [L3, L4] (fun d => (runN (rs := [L3, L4]) ⟨[(93, callOrcN [L112, L2] [L3] (fun d => zone_behind_c1 (unRule d.1) d.2.1.1) (fun r => ((r, ()), ())))], [(3, loopOrcN 0 H_slices_BinarySearchFunc_zone_Rule_zone_Rule_int64__zone_behind_c1_l3 u_slices_BinarySearchFunc_zone_Rule_zone_Rule_int64__zone_behind_c1_l3 X_slices_BinarySearchFunc_zone_Rule_zone_Rule_int64__zone_behind_c1_l3 slices_BinarySearchFunc_zone_Rule_zone_Rule_int64__zone_behind_c1_l3)]⟩ Go.Proofs.Tryz.f92 [L47, L2, L180] (fun d => (d.1.1, d.2.1.1)) d).map (fun r => ((r.1, ()), (r.2, ()), ()))) := (runN_ok Go.Proofs.Tryz.func92 rfl (orcN_cons (orc_nil) bd93 (ok93)) (loops_body (by
  have h : bodyLoops Go.Proofs.Tryz.f92 = [C_slices_BinarySearchFunc_zone_Rule_zone_Rule_int64__zone_behind_c1_l3] := by kernel_rfl
  rw [h]; exact loops_cons (by kernel_rfl) k_slices_BinarySearchFunc_zone_Rule_zone_Rule_int64__zone_behind_c1_l3 (loops_nil))) (fun _ => rfl))
theorem e92_93 : ∀ (a : List (Rule)) (b : Int), runN (rs := [L3, L4]) ⟨[(93, callOrcN [L112, L2] [L3] (fun d => zone_behind_c1 (unRule d.1) d.2.1.1) (fun r => ((r, ()), ())))], [(3, loopOrcN 0 H_slices_BinarySearchFunc_zone_Rule_zone_Rule_int64__zone_behind_c1_l3 u_slices_BinarySearchFunc_zone_Rule_zone_Rule_int64__zone_behind_c1_l3 X_slices_BinarySearchFunc_zone_Rule_zone_Rule_int64__zone_behind_c1_l3 slices_BinarySearchFunc_zone_Rule_zone_Rule_int64__zone_behind_c1_l3)]⟩ Go.Proofs.Tryz.f92 [L47, L2, L180] (fun d => (d.1.1, d.2.1.1)) ((a, ()), (b, ()), ((93 : Nat), ()), ()) = slices_BinarySearchFunc_zone_Rule_zone_Rule_int64__zone_behind_c1 a b := by intros; kernel_rfl
theorem ok92_93 : CallsTo PT 92 [L47, L2, L180] [L3, L4] (fun d => bif Nat.beq d.2.2.1.1 93 then (slices_BinarySearchFunc_zone_Rule_zone_Rule_int64__zone_behind_c1 d.1.1 d.2.1.1).map (fun r => ((r.1, ()), (r.2, ()), ())) else none) := r92_93.at _ (fun ⟨a, b, ⟨x2, ⟨⟩⟩, ⟨⟩⟩ h => by
  have h := Nat.eq_of_beq_eq_true h; subst h; exact congrArg (Option.map _) (e92_93 a.1 b.1))
theorem bd92 : Bodied PT 92 := bodied Go.Proofs.Tryz.func92 (by kernel_rfl) (by kernel_rfl)

/-! 43: zone_behind -/
theorem r43 : CallsTo PT 43 [L49, L2] [L3] (fun d => (runN (rs := [L3]) ⟨[(92, callOrcN [L47, L2, L180] [L3, L4] (fun d => bif Nat.beq d.2.2.1.1 93 then slices_BinarySearchFunc_zone_Rule_zone_Rule_int64__zone_behind_c1 d.1.1 d.2.1.1 else none) (fun r => ((r.1, ()), (r.2, ()), ())))], []⟩ Go.Proofs.Tryz.f43 [L49, L2] (fun d => d.1.1) d).map (fun r => ((r, ()), ()))) := (runN_ok Go.Proofs.Tryz.func43 rfl (orcN_cons (orc_nil) bd92 ((ok92_93).congr (fun d => by cases (Nat.beq d.2.2.1.1 93) <;> rfl))) (loops_body (by
  have h : bodyLoops Go.Proofs.Tryz.f43 = [] := by kernel_rfl
  rw [h]; exact loops_nil)) (fun _ => rfl))
theorem e43 : ∀ (a : Zone) (b : Int), runN (rs := [L3]) ⟨[(92, callOrcN [L47, L2, L180] [L3, L4] (fun d => bif Nat.beq d.2.2.1.1 93 then slices_BinarySearchFunc_zone_Rule_zone_Rule_int64__zone_behind_c1 d.1.1 d.2.1.1 else none) (fun r => ((r.1, ()), (r.2, ()), ())))], []⟩ Go.Proofs.Tryz.f43 [L49, L2] (fun d => d.1.1) ((flZone a), (b, ()), ()) = zone_behind a b := by intros; kernel_rfl
theorem ok43 : CallsTo PT 43 [L49, L2] [L3] (fun d => (zone_behind (unZone d.1) d.2.1.1).map (fun r => ((r, ()), ()))) := r43.congr (fun d => congrArg (Option.map _) (e43 (unZone d.1) d.2.1.1))
theorem bd43 : Bodied PT 43 := bodied Go.Proofs.Tryz.func43 (by kernel_rfl) (by kernel_rfl)

/-! 17: zone_At -/
theorem r17 : CallsTo PT 17 [L49, L2] [L2, L9, L41] (fun d => (runN (rs := [L2, L9, L41]) ⟨[(42, callOrcN [L49] [L41] (fun d => zone_Check (unZone d.1)) (fun r => ((r, ()), ()))), (43, callOrcN [L49, L2] [L3] (fun d => zone_behind (unZone d.1) d.2.1.1) (fun r => ((r, ()), ())))], []⟩ Go.Proofs.Tryz.f17 [L49, L2] (fun d => (d.1.1, d.2.1.1, d.2.2.1.1)) d).map (fun r => ((r.1, ()), (r.2.1, ()), (r.2.2, ()), ()))) := (runN_ok Go.Proofs.Tryz.func17 rfl (orcN_cons (orcN_cons (orc_nil) bd43 (ok43)) bd42 (ok42)) (loops_body (by
  have h : bodyLoops Go.Proofs.Tryz.f17 = [] := by kernel_rfl
  rw [h]; exact loops_nil)) (fun _ => rfl))
theorem e17 : ∀ (a : Zone) (b : Int), runN (rs := [L2, L9, L41]) ⟨[(42, callOrcN [L49] [L41] (fun d => zone_Check (unZone d.1)) (fun r => ((r, ()), ()))), (43, callOrcN [L49, L2] [L3] (fun d => zone_behind (unZone d.1) d.2.1.1) (fun r => ((r, ()), ())))], []⟩ Go.Proofs.Tryz.f17 [L49, L2] (fun d => (d.1.1, d.2.1.1, d.2.2.1.1)) ((flZone a), (b, ()), ()) = zone_At a b := by intros; kernel_rfl
theorem ok17 : CallsTo PT 17 [L49, L2] [L2, L9, L41] (fun d => (zone_At (unZone d.1) d.2.1.1).map (fun r => ((r.1, ()), (r.2.1, ()), (r.2.2, ()), ()))) := r17.congr (fun d => congrArg (Option.map _) (e17 (unZone d.1) d.2.1.1))
theorem bd17 : Bodied PT 17 := bodied Go.Proofs.Tryz.func17 (by kernel_rfl) (by kernel_rfl)

/-! 6: told_Reading -/
theorem r6 : CallsTo PT 6 [L55, L58] [L9, L41] (fun d => (runN (rs := [L9, L41]) ⟨[(15, callOrcN [L55] [L41] (fun d => tenant_Check (unTenant d.1)) (fun r => ((r, ()), ()))), (16, callOrcN [L2, L2] [L2, L2, L41] (fun d => num_Div d.1.1 d.2.1.1) (fun r => ((r.1, ()), (r.2.1, ()), (r.2.2, ()), ()))), (17, callOrcN [L49, L2] [L2, L9, L41] (fun d => zone_At (unZone d.1) d.2.1.1) (fun r => ((r.1, ()), (r.2.1, ()), (r.2.2, ()), ()))), (11, callOrcN [L67] [L9, L41] (fun d => told_Text (unMoment d.1)) (fun r => ((r.1, ()), (r.2, ()), ()))), (18, callOrcN [L2] [L9] (fun d => told_length d.1.1) (fun r => ((r, ()), ())))], []⟩ Go.Proofs.Tryz.f6 [L55, L58] (fun d => (d.1.1, d.2.1.1)) d).map (fun r => ((r.1, ()), (r.2, ()), ()))) := (runN_ok Go.Proofs.Tryz.func6 rfl (orcN_cons (orcN_cons (orcN_cons (orcN_cons (orcN_cons (orc_nil) bd18 (ok18)) bd11 (ok11)) bd17 (ok17)) bd16 (ok16)) bd15 (ok15)) (loops_body (by
  have h : bodyLoops Go.Proofs.Tryz.f6 = [] := by kernel_rfl
  rw [h]; exact loops_nil)) (fun _ => rfl))
theorem e6 : ∀ (a : Tenant) (b : Reading), runN (rs := [L9, L41]) ⟨[(15, callOrcN [L55] [L41] (fun d => tenant_Check (unTenant d.1)) (fun r => ((r, ()), ()))), (16, callOrcN [L2, L2] [L2, L2, L41] (fun d => num_Div d.1.1 d.2.1.1) (fun r => ((r.1, ()), (r.2.1, ()), (r.2.2, ()), ()))), (17, callOrcN [L49, L2] [L2, L9, L41] (fun d => zone_At (unZone d.1) d.2.1.1) (fun r => ((r.1, ()), (r.2.1, ()), (r.2.2, ()), ()))), (11, callOrcN [L67] [L9, L41] (fun d => told_Text (unMoment d.1)) (fun r => ((r.1, ()), (r.2, ()), ()))), (18, callOrcN [L2] [L9] (fun d => told_length d.1.1) (fun r => ((r, ()), ())))], []⟩ Go.Proofs.Tryz.f6 [L55, L58] (fun d => (d.1.1, d.2.1.1)) ((flTenant a), (flReading b), ()) = told_Reading a b := by intros; kernel_rfl
theorem ok6 : CallsTo PT 6 [L55, L58] [L9, L41] (fun d => (told_Reading (unTenant d.1) (unReading d.2.1)).map (fun r => ((r.1, ()), (r.2, ()), ()))) := r6.congr (fun d => congrArg (Option.map _) (e6 (unTenant d.1) (unReading d.2.1)))
theorem bd6 : Bodied PT 6 := bodied Go.Proofs.Tryz.func6 (by kernel_rfl) (by kernel_rfl)

/-! 47: fuseeref29_Name -/
noncomputable def C_fuseeref29_Name_l2 : Code := (bodyLoops Go.Proofs.Tryz.f47).getD 0 .skip
def H_fuseeref29_Name_l2 : Sch GG := ⟨[(0, false, [.dat .str]), (3, false, [.dat (.int .i64)])], []⟩
def u_fuseeref29_Name_l2 (d : H_fuseeref29_Name_l2.Dat) : (List UInt8) × Int := (d.1.1.1, d.1.2.1.1)
def X_fuseeref29_Name_l2 : List (NX GG) := [⟨.exit 0, ⟨[(0, false, [.dat .str])], []⟩, (List UInt8), fun x => (((x, ()), ()), ()), fun d => d.1.1.1, fun _ => rfl⟩,
  ⟨.ret, ⟨[(2, false, [.dat .bool])], []⟩, Bool, fun x => (((x, ()), ()), ()), fun d => d.1.1.1, fun _ => rfl⟩]
theorem t_fuseeref29_Name_l2 : ∀ (a : (List UInt8) × Int), stepN 0 H_fuseeref29_Name_l2 u_fuseeref29_Name_l2 X_fuseeref29_Name_l2 ⟨[], []⟩ 41 C_fuseeref29_Name_l2 ((((a.1, ()), (a.2, ()), ()), ())) = fuseeref29_Name_l2_s a := by intro a; kernel_rfl
theorem s_fuseeref29_Name_l2 : ∀ d, stepN 0 H_fuseeref29_Name_l2 u_fuseeref29_Name_l2 X_fuseeref29_Name_l2 ⟨[], []⟩ 41 C_fuseeref29_Name_l2 d = fuseeref29_Name_l2_s (u_fuseeref29_Name_l2 d) := fun d => t_fuseeref29_Name_l2 (u_fuseeref29_Name_l2 d)
theorem k_fuseeref29_Name_l2 {R : Type} : LoopOk (R := R) PT 0 41 C_fuseeref29_Name_l2 (loopOrcN 0 H_fuseeref29_Name_l2 u_fuseeref29_Name_l2 X_fuseeref29_Name_l2 fuseeref29_Name_l2) := by
  unfold fuseeref29_Name_l2
  exact loopN_ok (orc_nil) (loops_of (by
    have h : loopsOf C_fuseeref29_Name_l2 = [] := by kernel_rfl
    rw [h]; exact loops_nil)) s_fuseeref29_Name_l2 FUEL
theorem r47 : CallsTo PT 47 [L9] [L4] (fun d => (runN (rs := [L4]) ⟨[], [(2, loopOrcN 0 H_fuseeref29_Name_l2 u_fuseeref29_Name_l2 X_fuseeref29_Name_l2 fuseeref29_Name_l2)]⟩ Go.Proofs.Tryz.f47 [L9] (fun d => d.1.1) d).map (fun r => ((r, ()), ()))) := (runN_ok Go.Proofs.Tryz.func47 rfl (orc_nil) (loops_body (by
  have h : bodyLoops Go.Proofs.Tryz.f47 = [C_fuseeref29_Name_l2] := by kernel_rfl
  rw [h]; exact loops_cons (by kernel_rfl) k_fuseeref29_Name_l2 (loops_nil))) (fun _ => rfl))
theorem e47 : ∀ (a : List UInt8), runN (rs := [L4]) ⟨[], [(2, loopOrcN 0 H_fuseeref29_Name_l2 u_fuseeref29_Name_l2 X_fuseeref29_Name_l2 fuseeref29_Name_l2)]⟩ Go.Proofs.Tryz.f47 [L9] (fun d => d.1.1) ((a, ()), ()) = fuseeref29_Name a := by intros; kernel_rfl
theorem ok47 : CallsTo PT 47 [L9] [L4] (fun d => (fuseeref29_Name d.1.1).map (fun r => ((r, ()), ()))) := r47.congr (fun d => congrArg (Option.map _) (e47 d.1.1))
theorem bd47 : Bodied PT 47 := bodied Go.Proofs.Tryz.func47 (by kernel_rfl) (by kernel_rfl)

/-! 99: fuseeref12_May -/
theorem r99 : CallsTo PT 99 [L24] [L4] (fun d => (runN (rs := [L4]) ⟨[], []⟩ Go.Proofs.Tryz.f99 [L24] (fun d => d.1.1) d).map (fun r => ((r, ()), ()))) := (runN_ok Go.Proofs.Tryz.func99 rfl (orc_nil) (loops_body (by
  have h : bodyLoops Go.Proofs.Tryz.f99 = [] := by kernel_rfl
  rw [h]; exact loops_nil)) (fun _ => rfl))
theorem e99 : ∀ (a : Smear), runN (rs := [L4]) ⟨[], []⟩ Go.Proofs.Tryz.f99 [L24] (fun d => d.1.1) ((flSmear a), ()) = fuseeref12_May a := by intros; kernel_rfl
theorem ok99 : CallsTo PT 99 [L24] [L4] (fun d => (fuseeref12_May (unSmear d.1)).map (fun r => ((r, ()), ()))) := r99.congr (fun d => congrArg (Option.map _) (e99 (unSmear d.1)))
theorem bd99 : Bodied PT 99 := bodied Go.Proofs.Tryz.func99 (by kernel_rfl) (by kernel_rfl)

/-! 100: fuseeref24_May -/
theorem r100 : CallsTo PT 100 [L2] [L4] (fun d => (runN (rs := [L4]) ⟨[], []⟩ Go.Proofs.Tryz.f100 [L2] (fun d => d.1.1) d).map (fun r => ((r, ()), ()))) := (runN_ok Go.Proofs.Tryz.func100 rfl (orc_nil) (loops_body (by
  have h : bodyLoops Go.Proofs.Tryz.f100 = [] := by kernel_rfl
  rw [h]; exact loops_nil)) (fun _ => rfl))
theorem e100 : ∀ (a : Int), runN (rs := [L4]) ⟨[], []⟩ Go.Proofs.Tryz.f100 [L2] (fun d => d.1.1) ((a, ()), ()) = fuseeref24_May a := by intros; kernel_rfl
theorem ok100 : CallsTo PT 100 [L2] [L4] (fun d => (fuseeref24_May d.1.1).map (fun r => ((r, ()), ()))) := r100.congr (fun d => congrArg (Option.map _) (e100 d.1.1))
theorem bd100 : Bodied PT 100 := bodied Go.Proofs.Tryz.func100 (by kernel_rfl) (by kernel_rfl)

/-! 101: fuseeref25_May -/
theorem r101 : CallsTo PT 101 [L26] [L4] (fun d => (runN (rs := [L4]) ⟨[], []⟩ Go.Proofs.Tryz.f101 [L26] (fun d => d.1.1) d).map (fun r => ((r, ()), ()))) := (runN_ok Go.Proofs.Tryz.func101 rfl (orc_nil) (loops_body (by
  have h : bodyLoops Go.Proofs.Tryz.f101 = [] := by kernel_rfl
  rw [h]; exact loops_nil)) (fun _ => rfl))
theorem e101 : ∀ (a : Fuzz), runN (rs := [L4]) ⟨[], []⟩ Go.Proofs.Tryz.f101 [L26] (fun d => d.1.1) ((flFuzz a), ()) = fuseeref25_May a := by intros; kernel_rfl
theorem ok101 : CallsTo PT 101 [L26] [L4] (fun d => (fuseeref25_May (unFuzz d.1)).map (fun r => ((r, ()), ()))) := r101.congr (fun d => congrArg (Option.map _) (e101 (unFuzz d.1)))
theorem bd101 : Bodied PT 101 := bodied Go.Proofs.Tryz.func101 (by kernel_rfl) (by kernel_rfl)

/-! 137: fuseeref10_Name -/
noncomputable def C_fuseeref10_Name_l2 : Code := (bodyLoops Go.Proofs.Tryz.f137).getD 0 .skip
def H_fuseeref10_Name_l2 : Sch GG := ⟨[(0, false, [.dat .str]), (3, false, [.dat (.int .i64)])], []⟩
def u_fuseeref10_Name_l2 (d : H_fuseeref10_Name_l2.Dat) : (List UInt8) × Int := (d.1.1.1, d.1.2.1.1)
def X_fuseeref10_Name_l2 : List (NX GG) := [⟨.exit 0, ⟨[(0, false, [.dat .str])], []⟩, (List UInt8), fun x => (((x, ()), ()), ()), fun d => d.1.1.1, fun _ => rfl⟩,
  ⟨.ret, ⟨[(2, false, [.dat .bool])], []⟩, Bool, fun x => (((x, ()), ()), ()), fun d => d.1.1.1, fun _ => rfl⟩]
theorem t_fuseeref10_Name_l2 : ∀ (a : (List UInt8) × Int), stepN 0 H_fuseeref10_Name_l2 u_fuseeref10_Name_l2 X_fuseeref10_Name_l2 ⟨[], []⟩ 61 C_fuseeref10_Name_l2 ((((a.1, ()), (a.2, ()), ()), ())) = fuseeref10_Name_l2_s a := by intro a; kernel_rfl
theorem s_fuseeref10_Name_l2 : ∀ d, stepN 0 H_fuseeref10_Name_l2 u_fuseeref10_Name_l2 X_fuseeref10_Name_l2 ⟨[], []⟩ 61 C_fuseeref10_Name_l2 d = fuseeref10_Name_l2_s (u_fuseeref10_Name_l2 d) := fun d => t_fuseeref10_Name_l2 (u_fuseeref10_Name_l2 d)
theorem k_fuseeref10_Name_l2 {R : Type} : LoopOk (R := R) PT 0 61 C_fuseeref10_Name_l2 (loopOrcN 0 H_fuseeref10_Name_l2 u_fuseeref10_Name_l2 X_fuseeref10_Name_l2 fuseeref10_Name_l2) := by
  unfold fuseeref10_Name_l2
  exact loopN_ok (orc_nil) (loops_of (by
    have h : loopsOf C_fuseeref10_Name_l2 = [] := by kernel_rfl
    rw [h]; exact loops_nil)) s_fuseeref10_Name_l2 FUEL
theorem r137 : CallsTo PT 137 [L9] [L4] (fun d => (runN (rs := [L4]) ⟨[], [(2, loopOrcN 0 H_fuseeref10_Name_l2 u_fuseeref10_Name_l2 X_fuseeref10_Name_l2 fuseeref10_Name_l2)]⟩ Go.Proofs.Tryz.f137 [L9] (fun d => d.1.1) d).map (fun r => ((r, ()), ()))) := (runN_ok Go.Proofs.Tryz.func137 rfl (orc_nil) (loops_body (by
  have h : bodyLoops Go.Proofs.Tryz.f137 = [C_fuseeref10_Name_l2] := by kernel_rfl
  rw [h]; exact loops_cons (by kernel_rfl) k_fuseeref10_Name_l2 (loops_nil))) (fun _ => rfl))
theorem e137 : ∀ (a : List UInt8), runN (rs := [L4]) ⟨[], [(2, loopOrcN 0 H_fuseeref10_Name_l2 u_fuseeref10_Name_l2 X_fuseeref10_Name_l2 fuseeref10_Name_l2)]⟩ Go.Proofs.Tryz.f137 [L9] (fun d => d.1.1) ((a, ()), ()) = fuseeref10_Name a := by intros; kernel_rfl
theorem ok137 : CallsTo PT 137 [L9] [L4] (fun d => (fuseeref10_Name d.1.1).map (fun r => ((r, ()), ()))) := r137.congr (fun d => congrArg (Option.map _) (e137 d.1.1))
theorem bd137 : Bodied PT 137 := bodied Go.Proofs.Tryz.func137 (by kernel_rfl) (by kernel_rfl)

/-! 138: fuseeref10_off -/
theorem r138 : CallsTo PT 138 [L2] [L4] (fun d => (runN (rs := [L4]) ⟨[], []⟩ Go.Proofs.Tryz.f138 [L2] (fun d => d.1.1) d).map (fun r => ((r, ()), ()))) := (runN_ok Go.Proofs.Tryz.func138 rfl (orc_nil) (loops_body (by
  have h : bodyLoops Go.Proofs.Tryz.f138 = [] := by kernel_rfl
  rw [h]; exact loops_nil)) (fun _ => rfl))
theorem e138 : ∀ (a : Int), runN (rs := [L4]) ⟨[], []⟩ Go.Proofs.Tryz.f138 [L2] (fun d => d.1.1) ((a, ()), ()) = fuseeref10_off a := by intros; kernel_rfl
theorem ok138 : CallsTo PT 138 [L2] [L4] (fun d => (fuseeref10_off d.1.1).map (fun r => ((r, ()), ()))) := r138.congr (fun d => congrArg (Option.map _) (e138 d.1.1))
theorem bd138 : Bodied PT 138 := bodied Go.Proofs.Tryz.func138 (by kernel_rfl) (by kernel_rfl)

/-! 102: fuseeref10_May -/
noncomputable def C_fuseeref10_May_l2 : Code := (bodyLoops Go.Proofs.Tryz.f102).getD 0 .skip
def H_fuseeref10_May_l2 : Sch GG := ⟨[(1, false, [.ptr 0 0]), (3, false, [.dat (.int .i64)])], [.var [.dat .str, .dat (.int .i64), .dat (.sl .kRule)]]⟩
def u_fuseeref10_May_l2 (d : H_fuseeref10_May_l2.Dat) : Int × Zone := (d.1.2.1.1, (unZone d.2.1))
def X_fuseeref10_May_l2 : List (NX GG) := [⟨.exit 0, ⟨[(1, false, [.ptr 0 0])], [.var [.dat .str, .dat (.int .i64), .dat (.sl .kRule)]]⟩, Zone, fun x => ((((), ()), ()), ((flZone x), ())), fun d => (unZone d.2.1), fun _ => rfl⟩,
  ⟨.ret, ⟨[(2, false, [.dat .bool])], []⟩, Bool, fun x => (((x, ()), ()), ()), fun d => d.1.1.1, fun _ => rfl⟩]
theorem t_fuseeref10_May_l2 : ∀ (a : Int × Zone), stepN 0 H_fuseeref10_May_l2 u_fuseeref10_May_l2 X_fuseeref10_May_l2 ⟨[(137, callOrcN [L9] [L4] (fun d => fuseeref10_Name d.1.1) (fun r => ((r, ()), ()))), (138, callOrcN [L2] [L4] (fun d => fuseeref10_off d.1.1) (fun r => ((r, ()), ())))], []⟩ 67 C_fuseeref10_May_l2 (((((), ()), (a.1, ()), ()), ((flZone a.2), ()))) = fuseeref10_May_l2_s a := by intro a; kernel_rfl
theorem s_fuseeref10_May_l2 : ∀ d, stepN 0 H_fuseeref10_May_l2 u_fuseeref10_May_l2 X_fuseeref10_May_l2 ⟨[(137, callOrcN [L9] [L4] (fun d => fuseeref10_Name d.1.1) (fun r => ((r, ()), ()))), (138, callOrcN [L2] [L4] (fun d => fuseeref10_off d.1.1) (fun r => ((r, ()), ())))], []⟩ 67 C_fuseeref10_May_l2 d = fuseeref10_May_l2_s (u_fuseeref10_May_l2 d) := fun d => t_fuseeref10_May_l2 (u_fuseeref10_May_l2 d)
theorem k_fuseeref10_May_l2 {R : Type} : LoopOk (R := R) PT 0 67 C_fuseeref10_May_l2 (loopOrcN 0 H_fuseeref10_May_l2 u_fuseeref10_May_l2 X_fuseeref10_May_l2 fuseeref10_May_l2) := by
  unfold fuseeref10_May_l2
  exact loopN_ok (orcN_cons (orcN_cons (orc_nil) bd138 (ok138)) bd137 (ok137)) (loops_of (by
    have h : loopsOf C_fuseeref10_May_l2 = [] := by kernel_rfl
    rw [h]; exact loops_nil)) s_fuseeref10_May_l2 FUEL
theorem r102 : CallsTo PT 102 [L29] [L4] (fun d => (runN (rs := [L4]) ⟨[(137, callOrcN [L9] [L4] (fun d => fuseeref10_Name d.1.1) (fun r => ((r, ()), ()))), (138, callOrcN [L2] [L4] (fun d => fuseeref10_off d.1.1) (fun r => ((r, ()), ())))], [(2, loopOrcN 0 H_fuseeref10_May_l2 u_fuseeref10_May_l2 X_fuseeref10_May_l2 fuseeref10_May_l2)]⟩ Go.Proofs.Tryz.f102 [L29] (fun d => d.1.1) d).map (fun r => ((r, ()), ()))) := (runN_ok Go.Proofs.Tryz.func102 rfl (orcN_cons (orcN_cons (orc_nil) bd138 (ok138)) bd137 (ok137)) (loops_body (by
  have h : bodyLoops Go.Proofs.Tryz.f102 = [C_fuseeref10_May_l2] := by kernel_rfl
  rw [h]; exact loops_cons (by kernel_rfl) k_fuseeref10_May_l2 (loops_nil))) (fun _ => rfl))
theorem e102 : ∀ (a : Zone), runN (rs := [L4]) ⟨[(137, callOrcN [L9] [L4] (fun d => fuseeref10_Name d.1.1) (fun r => ((r, ()), ()))), (138, callOrcN [L2] [L4] (fun d => fuseeref10_off d.1.1) (fun r => ((r, ()), ())))], [(2, loopOrcN 0 H_fuseeref10_May_l2 u_fuseeref10_May_l2 X_fuseeref10_May_l2 fuseeref10_May_l2)]⟩ Go.Proofs.Tryz.f102 [L29] (fun d => d.1.1) ((flZone a), ()) = fuseeref10_May a := by intros; kernel_rfl
theorem ok102 : CallsTo PT 102 [L29] [L4] (fun d => (fuseeref10_May (unZone d.1)).map (fun r => ((r, ()), ()))) := r102.congr (fun d => congrArg (Option.map _) (e102 (unZone d.1)))
theorem bd102 : Bodied PT 102 := bodied Go.Proofs.Tryz.func102 (by kernel_rfl) (by kernel_rfl)

/-! 48: fuseeref28_May -/
theorem r48 : CallsTo PT 48 [L31] [L4] (fun d => (runN (rs := [L4]) ⟨[(99, callOrcN [L24] [L4] (fun d => fuseeref12_May (unSmear d.1)) (fun r => ((r, ()), ()))), (100, callOrcN [L2] [L4] (fun d => fuseeref24_May d.1.1) (fun r => ((r, ()), ()))), (101, callOrcN [L26] [L4] (fun d => fuseeref25_May (unFuzz d.1)) (fun r => ((r, ()), ()))), (102, callOrcN [L29] [L4] (fun d => fuseeref10_May (unZone d.1)) (fun r => ((r, ()), ())))], []⟩ Go.Proofs.Tryz.f48 [L31] (fun d => d.1.1) d).map (fun r => ((r, ()), ()))) := (runN_ok Go.Proofs.Tryz.func48 rfl (orcN_cons (orcN_cons (orcN_cons (orcN_cons (orc_nil) bd102 (ok102)) bd101 (ok101)) bd100 (ok100)) bd99 (ok99)) (loops_body (by
  have h : bodyLoops Go.Proofs.Tryz.f48 = [] := by kernel_rfl
  rw [h]; exact loops_nil)) (fun _ => rfl))
theorem e48 : ∀ (a : Policy), runN (rs := [L4]) ⟨[(99, callOrcN [L24] [L4] (fun d => fuseeref12_May (unSmear d.1)) (fun r => ((r, ()), ()))), (100, callOrcN [L2] [L4] (fun d => fuseeref24_May d.1.1) (fun r => ((r, ()), ()))), (101, callOrcN [L26] [L4] (fun d => fuseeref25_May (unFuzz d.1)) (fun r => ((r, ()), ()))), (102, callOrcN [L29] [L4] (fun d => fuseeref10_May (unZone d.1)) (fun r => ((r, ()), ())))], []⟩ Go.Proofs.Tryz.f48 [L31] (fun d => d.1.1) ((flPolicy a), ()) = fuseeref28_May a := by intros; kernel_rfl
theorem ok48 : CallsTo PT 48 [L31] [L4] (fun d => (fuseeref28_May (unPolicy d.1)).map (fun r => ((r, ()), ()))) := r48.congr (fun d => congrArg (Option.map _) (e48 (unPolicy d.1)))
theorem bd48 : Bodied PT 48 := bodied Go.Proofs.Tryz.func48 (by kernel_rfl) (by kernel_rfl)

/-! 103: fuseeref27_Time -/
theorem r103 : CallsTo PT 103 [L2] [L4] (fun d => (runN (rs := [L4]) ⟨[], []⟩ Go.Proofs.Tryz.f103 [L2] (fun d => d.1.1) d).map (fun r => ((r, ()), ()))) := (runN_ok Go.Proofs.Tryz.func103 rfl (orc_nil) (loops_body (by
  have h : bodyLoops Go.Proofs.Tryz.f103 = [] := by kernel_rfl
  rw [h]; exact loops_nil)) (fun _ => rfl))
theorem e103 : ∀ (a : Int), runN (rs := [L4]) ⟨[], []⟩ Go.Proofs.Tryz.f103 [L2] (fun d => d.1.1) ((a, ()), ()) = fuseeref27_Time a := by intros; kernel_rfl
theorem ok103 : CallsTo PT 103 [L2] [L4] (fun d => (fuseeref27_Time d.1.1).map (fun r => ((r, ()), ()))) := r103.congr (fun d => congrArg (Option.map _) (e103 d.1.1))
theorem bd103 : Bodied PT 103 := bodied Go.Proofs.Tryz.func103 (by kernel_rfl) (by kernel_rfl)

/-! 49: fuseeref27_May -/
theorem r49 : CallsTo PT 49 [L33] [L4] (fun d => (runN (rs := [L4]) ⟨[(103, callOrcN [L2] [L4] (fun d => fuseeref27_Time d.1.1) (fun r => ((r, ()), ())))], []⟩ Go.Proofs.Tryz.f49 [L33] (fun d => d.1.1) d).map (fun r => ((r, ()), ()))) := (runN_ok Go.Proofs.Tryz.func49 rfl (orcN_cons (orc_nil) bd103 (ok103)) (loops_body (by
  have h : bodyLoops Go.Proofs.Tryz.f49 = [] := by kernel_rfl
  rw [h]; exact loops_nil)) (fun _ => rfl))
theorem e49 : ∀ (a : Pause), runN (rs := [L4]) ⟨[(103, callOrcN [L2] [L4] (fun d => fuseeref27_Time d.1.1) (fun r => ((r, ()), ())))], []⟩ Go.Proofs.Tryz.f49 [L33] (fun d => d.1.1) ((flPause a), ()) = fuseeref27_May a := by intros; kernel_rfl
theorem ok49 : CallsTo PT 49 [L33] [L4] (fun d => (fuseeref27_May (unPause d.1)).map (fun r => ((r, ()), ()))) := r49.congr (fun d => congrArg (Option.map _) (e49 (unPause d.1)))
theorem bd49 : Bodied PT 49 := bodied Go.Proofs.Tryz.func49 (by kernel_rfl) (by kernel_rfl)

/-! 21: fuseeref01_Div -/
theorem r21 : CallsTo PT 21 [L2, L2] [L2, L2] (fun d => (runN (rs := [L2, L2]) ⟨[], []⟩ Go.Proofs.Tryz.f21 [L2, L2] (fun d => (d.1.1, d.2.1.1)) d).map (fun r => ((r.1, ()), (r.2, ()), ()))) := (runN_ok Go.Proofs.Tryz.func21 rfl (orc_nil) (loops_body (by
  have h : bodyLoops Go.Proofs.Tryz.f21 = [] := by kernel_rfl
  rw [h]; exact loops_nil)) (fun _ => rfl))
theorem e21 : ∀ (a : Int) (b : Int), runN (rs := [L2, L2]) ⟨[], []⟩ Go.Proofs.Tryz.f21 [L2, L2] (fun d => (d.1.1, d.2.1.1)) ((a, ()), (b, ()), ()) = fuseeref01_Div a b := by intros; kernel_rfl
theorem ok21 : CallsTo PT 21 [L2, L2] [L2, L2] (fun d => (fuseeref01_Div d.1.1 d.2.1.1).map (fun r => ((r.1, ()), (r.2, ()), ()))) := r21.congr (fun d => congrArg (Option.map _) (e21 d.1.1 d.2.1.1))
theorem bd21 : Bodied PT 21 := bodied Go.Proofs.Tryz.func21 (by kernel_rfl) (by kernel_rfl)

/-! 20: fuseeref29_May -/
theorem r20 : CallsTo PT 20 [L37] [L4] (fun d => (runN (rs := [L4]) ⟨[(47, callOrcN [L9] [L4] (fun d => fuseeref29_Name d.1.1) (fun r => ((r, ()), ()))), (48, callOrcN [L31] [L4] (fun d => fuseeref28_May (unPolicy d.1)) (fun r => ((r, ()), ()))), (49, callOrcN [L33] [L4] (fun d => fuseeref27_May (unPause d.1)) (fun r => ((r, ()), ()))), (21, callOrcN [L2, L2] [L2, L2] (fun d => fuseeref01_Div d.1.1 d.2.1.1) (fun r => ((r.1, ()), (r.2, ()), ())))], []⟩ Go.Proofs.Tryz.f20 [L37] (fun d => d.1.1) d).map (fun r => ((r, ()), ()))) := (runN_ok Go.Proofs.Tryz.func20 rfl (orcN_cons (orcN_cons (orcN_cons (orcN_cons (orc_nil) bd21 (ok21)) bd49 (ok49)) bd48 (ok48)) bd47 (ok47)) (loops_body (by
  have h : bodyLoops Go.Proofs.Tryz.f20 = [] := by kernel_rfl
  rw [h]; exact loops_nil)) (fun _ => rfl))
theorem e20 : ∀ (a : Tenant), runN (rs := [L4]) ⟨[(47, callOrcN [L9] [L4] (fun d => fuseeref29_Name d.1.1) (fun r => ((r, ()), ()))), (48, callOrcN [L31] [L4] (fun d => fuseeref28_May (unPolicy d.1)) (fun r => ((r, ()), ()))), (49, callOrcN [L33] [L4] (fun d => fuseeref27_May (unPause d.1)) (fun r => ((r, ()), ()))), (21, callOrcN [L2, L2] [L2, L2] (fun d => fuseeref01_Div d.1.1 d.2.1.1) (fun r => ((r.1, ()), (r.2, ()), ())))], []⟩ Go.Proofs.Tryz.f20 [L37] (fun d => d.1.1) ((flTenant a), ()) = fuseeref29_May a := by intros; kernel_rfl
theorem ok20 : CallsTo PT 20 [L37] [L4] (fun d => (fuseeref29_May (unTenant d.1)).map (fun r => ((r, ()), ()))) := r20.congr (fun d => congrArg (Option.map _) (e20 (unTenant d.1)))
theorem bd20 : Bodied PT 20 := bodied Go.Proofs.Tryz.func20 (by kernel_rfl) (by kernel_rfl)

/-! 22: fuseeref10_At -/
noncomputable def C_fuseeref10_At_l3 : Code := (bodyLoops Go.Proofs.Tryz.f22).getD 0 .skip
def H_fuseeref10_At_l3 : Sch GG := ⟨[(1, false, [.dat (.int .i64)]), (2, false, [.ptr 0 0]), (6, false, [.dat (.int .i64)]), (7, false, [.dat .str]), (8, false, [.dat (.int .i64)])], [.var [.dat .str, .dat (.int .i64), .dat (.sl .kRule)]]⟩
def u_fuseeref10_At_l3 (d : H_fuseeref10_At_l3.Dat) : Int × Int × (List UInt8) × Int × Zone := (d.1.1.1, d.1.2.2.1.1, d.1.2.2.2.1.1, d.1.2.2.2.2.1.1, (unZone d.2.1))
def X_fuseeref10_At_l3 : List (NX GG) := [⟨.exit 0, ⟨[(6, false, [.dat (.int .i64)]), (7, false, [.dat .str])], []⟩, Int × (List UInt8), fun x => (((x.1, ()), (x.2, ()), ()), ()), fun d => (d.1.1.1, d.1.2.1.1), fun _ => rfl⟩]
theorem t_fuseeref10_At_l3 : ∀ (a : Int × Int × (List UInt8) × Int × Zone), stepN 0 H_fuseeref10_At_l3 u_fuseeref10_At_l3 X_fuseeref10_At_l3 ⟨[], []⟩ 42 C_fuseeref10_At_l3 ((((a.1, ()), ((), ()), (a.2.1, ()), (a.2.2.1, ()), (a.2.2.2.1, ()), ()), ((flZone a.2.2.2.2), ()))) = fuseeref10_At_l3_s a := by intro a; kernel_rfl
theorem s_fuseeref10_At_l3 : ∀ d, stepN 0 H_fuseeref10_At_l3 u_fuseeref10_At_l3 X_fuseeref10_At_l3 ⟨[], []⟩ 42 C_fuseeref10_At_l3 d = fuseeref10_At_l3_s (u_fuseeref10_At_l3 d) := fun d => t_fuseeref10_At_l3 (u_fuseeref10_At_l3 d)
theorem k_fuseeref10_At_l3 {R : Type} : LoopOk (R := R) PT 0 42 C_fuseeref10_At_l3 (loopOrcN 0 H_fuseeref10_At_l3 u_fuseeref10_At_l3 X_fuseeref10_At_l3 fuseeref10_At_l3) := by
  unfold fuseeref10_At_l3
  exact loopN_ok (orc_nil) (loops_of (by
    have h : loopsOf C_fuseeref10_At_l3 = [] := by kernel_rfl
    rw [h]; exact loops_nil)) s_fuseeref10_At_l3 FUEL
theorem r22 : CallsTo PT 22 [L29, L2] [L2, L9] (fun d => (runN (rs := [L2, L9]) ⟨[], [(3, loopOrcN 0 H_fuseeref10_At_l3 u_fuseeref10_At_l3 X_fuseeref10_At_l3 fuseeref10_At_l3)]⟩ Go.Proofs.Tryz.f22 [L29, L2] (fun d => (d.1.1, d.2.1.1)) d).map (fun r => ((r.1, ()), (r.2, ()), ()))) := (runN_ok Go.Proofs.Tryz.func22 rfl (orc_nil) (loops_body (by
  have h : bodyLoops Go.Proofs.Tryz.f22 = [C_fuseeref10_At_l3] := by kernel_rfl
  rw [h]; exact loops_cons (by kernel_rfl) k_fuseeref10_At_l3 (loops_nil))) (fun _ => rfl))
theorem e22 : ∀ (a : Zone) (b : Int), runN (rs := [L2, L9]) ⟨[], [(3, loopOrcN 0 H_fuseeref10_At_l3 u_fuseeref10_At_l3 X_fuseeref10_At_l3 fuseeref10_At_l3)]⟩ Go.Proofs.Tryz.f22 [L29, L2] (fun d => (d.1.1, d.2.1.1)) ((flZone a), (b, ()), ()) = fuseeref10_At a b := by intros; kernel_rfl
theorem ok22 : CallsTo PT 22 [L29, L2] [L2, L9] (fun d => (fuseeref10_At (unZone d.1) d.2.1.1).map (fun r => ((r.1, ()), (r.2, ()), ()))) := r22.congr (fun d => congrArg (Option.map _) (e22 (unZone d.1) d.2.1.1))
theorem bd22 : Bodied PT 22 := bodied Go.Proofs.Tryz.func22 (by kernel_rfl) (by kernel_rfl)

/-! 50: fuseeref43_May -/
theorem r50 : CallsTo PT 50 [L86] [L4] (fun d => (runN (rs := [L4]) ⟨[], []⟩ Go.Proofs.Tryz.f50 [L86] (fun d => d.1.1) d).map (fun r => ((r, ()), ()))) := (runN_ok Go.Proofs.Tryz.func50 rfl (orc_nil) (loops_body (by
  have h : bodyLoops Go.Proofs.Tryz.f50 = [] := by kernel_rfl
  rw [h]; exact loops_nil)) (fun _ => rfl))
theorem e50 : ∀ (a : Moment), runN (rs := [L4]) ⟨[], []⟩ Go.Proofs.Tryz.f50 [L86] (fun d => d.1.1) ((flMoment a), ()) = fuseeref43_May a := by intros; kernel_rfl
theorem ok50 : CallsTo PT 50 [L86] [L4] (fun d => (fuseeref43_May (unMoment d.1)).map (fun r => ((r, ()), ()))) := r50.congr (fun d => congrArg (Option.map _) (e50 (unMoment d.1)))
theorem bd50 : Bodied PT 50 := bodied Go.Proofs.Tryz.func50 (by kernel_rfl) (by kernel_rfl)

/-! 139: fuseeref07_Leap -/
theorem r139 : CallsTo PT 139 [L3] [L4] (fun d => (runN (rs := [L4]) ⟨[], []⟩ Go.Proofs.Tryz.f139 [L3] (fun d => d.1.1) d).map (fun r => ((r, ()), ()))) := (runN_ok Go.Proofs.Tryz.func139 rfl (orc_nil) (loops_body (by
  have h : bodyLoops Go.Proofs.Tryz.f139 = [] := by kernel_rfl
  rw [h]; exact loops_nil)) (fun _ => rfl))
theorem e139 : ∀ (a : Int), runN (rs := [L4]) ⟨[], []⟩ Go.Proofs.Tryz.f139 [L3] (fun d => d.1.1) ((a, ()), ()) = fuseeref07_Leap a := by intros; kernel_rfl
theorem ok139 : CallsTo PT 139 [L3] [L4] (fun d => (fuseeref07_Leap d.1.1).map (fun r => ((r, ()), ()))) := r139.congr (fun d => congrArg (Option.map _) (e139 d.1.1))
theorem bd139 : Bodied PT 139 := bodied Go.Proofs.Tryz.func139 (by kernel_rfl) (by kernel_rfl)

/-! 140: fuseeref07_Month -/
theorem r140 : CallsTo PT 140 [L3, L3] [L3] (fun d => (runN (rs := [L3]) ⟨[(139, callOrcN [L3] [L4] (fun d => fuseeref07_Leap d.1.1) (fun r => ((r, ()), ())))], []⟩ Go.Proofs.Tryz.f140 [L3, L3] (fun d => d.1.1) d).map (fun r => ((r, ()), ()))) := (runN_ok Go.Proofs.Tryz.func140 rfl (orcN_cons (orc_nil) bd139 (ok139)) (loops_body (by
  have h : bodyLoops Go.Proofs.Tryz.f140 = [] := by kernel_rfl
  rw [h]; exact loops_nil)) (fun _ => rfl))
theorem e140 : ∀ (a : Int) (b : Int), runN (rs := [L3]) ⟨[(139, callOrcN [L3] [L4] (fun d => fuseeref07_Leap d.1.1) (fun r => ((r, ()), ())))], []⟩ Go.Proofs.Tryz.f140 [L3, L3] (fun d => d.1.1) ((a, ()), (b, ()), ()) = fuseeref07_Month a b := by intros; kernel_rfl
theorem ok140 : CallsTo PT 140 [L3, L3] [L3] (fun d => (fuseeref07_Month d.1.1 d.2.1.1).map (fun r => ((r, ()), ()))) := r140.congr (fun d => congrArg (Option.map _) (e140 d.1.1 d.2.1.1))
theorem bd140 : Bodied PT 140 := bodied Go.Proofs.Tryz.func140 (by kernel_rfl) (by kernel_rfl)

/-! 104: fuseeref07_Of -/
noncomputable def C_fuseeref07_Of_l5 : Code := (bodyLoops Go.Proofs.Tryz.f104).getD 0 .skip
def H_fuseeref07_Of_l5 : Sch GG := ⟨[(2, false, [.ptr 0 0]), (4, false, [.dat (.int .i64)]), (5, false, [.ptr 1 0])], [.var [.dat (.int .i64), .dat (.int .i64), .dat (.int .i64)], .var [.dat (.int .i64), .dat (.int .i64), .dat (.int .i64)]]⟩
def u_fuseeref07_Of_l5 (d : H_fuseeref07_Of_l5.Dat) : Int × Date × Date := (d.1.2.1.1, (unDate d.2.1), (unDate d.2.2.1))
def X_fuseeref07_Of_l5 : List (NX GG) := [⟨.exit 0, ⟨[(2, false, [.ptr 0 0]), (4, false, [.dat (.int .i64)]), (5, false, [.ptr 1 0])], [.var [.dat (.int .i64), .dat (.int .i64), .dat (.int .i64)], .var [.dat (.int .i64), .dat (.int .i64), .dat (.int .i64)]]⟩, Int × Date × Date, fun x => ((((), ()), (x.1, ()), ((), ()), ()), ((flDate x.2.1), (flDate x.2.2), ())), fun d => (d.1.2.1.1, (unDate d.2.1), (unDate d.2.2.1)), fun _ => rfl⟩]
noncomputable def C_fuseeref07_Of_l11 : Code := (bodyLoops Go.Proofs.Tryz.f104).getD 1 .skip
def H_fuseeref07_Of_l11 : Sch GG := ⟨[(2, false, [.ptr 0 0]), (4, false, [.dat (.int .i64)]), (5, false, [.ptr 1 0])], [.var [.dat (.int .i64), .dat (.int .i64), .dat (.int .i64)], .var [.dat (.int .i64), .dat (.int .i64), .dat (.int .i64)]]⟩
def u_fuseeref07_Of_l11 (d : H_fuseeref07_Of_l11.Dat) : Int × Date × Date := (d.1.2.1.1, (unDate d.2.1), (unDate d.2.2.1))
def X_fuseeref07_Of_l11 : List (NX GG) := [⟨.exit 2, ⟨[(2, false, [.ptr 0 0]), (4, false, [.dat (.int .i64)]), (5, false, [.ptr 1 0])], [.var [.dat (.int .i64), .dat (.int .i64), .dat (.int .i64)], .var [.dat (.int .i64), .dat (.int .i64), .dat (.int .i64)]]⟩, Int × Date × Date, fun x => ((((), ()), (x.1, ()), ((), ()), ()), ((flDate x.2.1), (flDate x.2.2), ())), fun d => (d.1.2.1.1, (unDate d.2.1), (unDate d.2.2.1)), fun _ => rfl⟩]
theorem t_fuseeref07_Of_l11 : ∀ (a : Int × Date × Date), stepN 0 H_fuseeref07_Of_l11 u_fuseeref07_Of_l11 X_fuseeref07_Of_l11 ⟨[(139, callOrcN [L3] [L4] (fun d => fuseeref07_Leap d.1.1) (fun r => ((r, ()), ()))), (140, callOrcN [L3, L3] [L3] (fun d => fuseeref07_Month d.1.1 d.2.1.1) (fun r => ((r, ()), ())))], []⟩ 52 C_fuseeref07_Of_l11 (((((), ()), (a.1, ()), ((), ()), ()), ((flDate a.2.1), (flDate a.2.2), ()))) = fuseeref07_Of_l11_s a := by intro a; kernel_rfl
theorem s_fuseeref07_Of_l11 : ∀ d, stepN 0 H_fuseeref07_Of_l11 u_fuseeref07_Of_l11 X_fuseeref07_Of_l11 ⟨[(139, callOrcN [L3] [L4] (fun d => fuseeref07_Leap d.1.1) (fun r => ((r, ()), ()))), (140, callOrcN [L3, L3] [L3] (fun d => fuseeref07_Month d.1.1 d.2.1.1) (fun r => ((r, ()), ())))], []⟩ 52 C_fuseeref07_Of_l11 d = fuseeref07_Of_l11_s (u_fuseeref07_Of_l11 d) := fun d => t_fuseeref07_Of_l11 (u_fuseeref07_Of_l11 d)
theorem k_fuseeref07_Of_l11 {R : Type} : LoopOk (R := R) PT 0 52 C_fuseeref07_Of_l11 (loopOrcN 0 H_fuseeref07_Of_l11 u_fuseeref07_Of_l11 X_fuseeref07_Of_l11 fuseeref07_Of_l11) := by
  unfold fuseeref07_Of_l11
  exact loopN_ok (orcN_cons (orcN_cons (orc_nil) bd140 (ok140)) bd139 (ok139)) (loops_of (by
    have h : loopsOf C_fuseeref07_Of_l11 = [] := by kernel_rfl
    rw [h]; exact loops_nil)) s_fuseeref07_Of_l11 FUEL
theorem t_fuseeref07_Of_l5 : ∀ (a : Int × Date × Date), stepN 0 H_fuseeref07_Of_l5 u_fuseeref07_Of_l5 X_fuseeref07_Of_l5 ⟨[(139, callOrcN [L3] [L4] (fun d => fuseeref07_Leap d.1.1) (fun r => ((r, ()), ()))), (140, callOrcN [L3, L3] [L3] (fun d => fuseeref07_Month d.1.1 d.2.1.1) (fun r => ((r, ()), ())))], []⟩ 52 C_fuseeref07_Of_l5 (((((), ()), (a.1, ()), ((), ()), ()), ((flDate a.2.1), (flDate a.2.2), ()))) = fuseeref07_Of_l5_s a := by intro a; kernel_rfl
theorem s_fuseeref07_Of_l5 : ∀ d, stepN 0 H_fuseeref07_Of_l5 u_fuseeref07_Of_l5 X_fuseeref07_Of_l5 ⟨[(139, callOrcN [L3] [L4] (fun d => fuseeref07_Leap d.1.1) (fun r => ((r, ()), ()))), (140, callOrcN [L3, L3] [L3] (fun d => fuseeref07_Month d.1.1 d.2.1.1) (fun r => ((r, ()), ())))], []⟩ 52 C_fuseeref07_Of_l5 d = fuseeref07_Of_l5_s (u_fuseeref07_Of_l5 d) := fun d => t_fuseeref07_Of_l5 (u_fuseeref07_Of_l5 d)
theorem k_fuseeref07_Of_l5 {R : Type} : LoopOk (R := R) PT 0 52 C_fuseeref07_Of_l5 (loopOrcN 0 H_fuseeref07_Of_l5 u_fuseeref07_Of_l5 X_fuseeref07_Of_l5 fuseeref07_Of_l5) := by
  unfold fuseeref07_Of_l5
  exact loopN_ok (orcN_cons (orcN_cons (orc_nil) bd140 (ok140)) bd139 (ok139)) (loops_of (by
    have h : loopsOf C_fuseeref07_Of_l5 = [] := by kernel_rfl
    rw [h]; exact loops_nil)) s_fuseeref07_Of_l5 FUEL
theorem r104 : CallsTo PT 104 [L2] [L183, L3] (fun d => (runN (rs := [L183, L3]) ⟨[(139, callOrcN [L3] [L4] (fun d => fuseeref07_Leap d.1.1) (fun r => ((r, ()), ()))), (140, callOrcN [L3, L3] [L3] (fun d => fuseeref07_Month d.1.1 d.2.1.1) (fun r => ((r, ()), ())))], [(5, loopOrcN 0 H_fuseeref07_Of_l5 u_fuseeref07_Of_l5 X_fuseeref07_Of_l5 fuseeref07_Of_l5), (11, loopOrcN 0 H_fuseeref07_Of_l11 u_fuseeref07_Of_l11 X_fuseeref07_Of_l11 fuseeref07_Of_l11)]⟩ Go.Proofs.Tryz.f104 [L2] (fun d => ((unDate d.1), d.2.1.1)) d).map (fun r => ((flDate r.1), (r.2, ()), ()))) := (runN_ok Go.Proofs.Tryz.func104 rfl (orcN_cons (orcN_cons (orc_nil) bd140 (ok140)) bd139 (ok139)) (loops_body (by
  have h : bodyLoops Go.Proofs.Tryz.f104 = [C_fuseeref07_Of_l5, C_fuseeref07_Of_l11] := by kernel_rfl
  rw [h]; exact loops_cons (by kernel_rfl) k_fuseeref07_Of_l5 (loops_cons (by kernel_rfl) k_fuseeref07_Of_l11 (loops_nil)))) (fun _ => rfl))
theorem e104 : ∀ (a : Int), runN (rs := [L183, L3]) ⟨[(139, callOrcN [L3] [L4] (fun d => fuseeref07_Leap d.1.1) (fun r => ((r, ()), ()))), (140, callOrcN [L3, L3] [L3] (fun d => fuseeref07_Month d.1.1 d.2.1.1) (fun r => ((r, ()), ())))], [(5, loopOrcN 0 H_fuseeref07_Of_l5 u_fuseeref07_Of_l5 X_fuseeref07_Of_l5 fuseeref07_Of_l5), (11, loopOrcN 0 H_fuseeref07_Of_l11 u_fuseeref07_Of_l11 X_fuseeref07_Of_l11 fuseeref07_Of_l11)]⟩ Go.Proofs.Tryz.f104 [L2] (fun d => ((unDate d.1), d.2.1.1)) ((a, ()), ()) = fuseeref07_Of a := by intros; kernel_rfl
theorem ok104 : CallsTo PT 104 [L2] [L183, L3] (fun d => (fuseeref07_Of d.1.1).map (fun r => ((flDate r.1), (r.2, ()), ()))) := r104.congr (fun d => congrArg (Option.map _) (e104 d.1.1))
theorem bd104 : Bodied PT 104 := bodied Go.Proofs.Tryz.func104 (by kernel_rfl) (by kernel_rfl)

/-! 105: fuseeref08_Of -/
theorem r105 : CallsTo PT 105 [L3] [L186] (fun d => (runN (rs := [L186]) ⟨[], []⟩ Go.Proofs.Tryz.f105 [L3] (fun d => (unTime d.1)) d).map (fun r => ((flTime r), ()))) := (runN_ok Go.Proofs.Tryz.func105 rfl (orc_nil) (loops_body (by
  have h : bodyLoops Go.Proofs.Tryz.f105 = [] := by kernel_rfl
  rw [h]; exact loops_nil)) (fun _ => rfl))
theorem e105 : ∀ (a : Int), runN (rs := [L186]) ⟨[], []⟩ Go.Proofs.Tryz.f105 [L3] (fun d => (unTime d.1)) ((a, ()), ()) = fuseeref08_Of a := by intros; kernel_rfl
theorem ok105 : CallsTo PT 105 [L3] [L186] (fun d => (fuseeref08_Of d.1.1).map (fun r => ((flTime r), ()))) := r105.congr (fun d => congrArg (Option.map _) (e105 d.1.1))
theorem bd105 : Bodied PT 105 := bodied Go.Proofs.Tryz.func105 (by kernel_rfl) (by kernel_rfl)

/-! 54: fuseeref07_Two -/
noncomputable def C_fuseeref07_Two_l3 : Code := (bodyLoops Go.Proofs.Tryz.f54).getD 0 .skip
def H_fuseeref07_Two_l3 : Sch GG := ⟨[(0, false, [.dat (.int .i64)]), (1, false, [.dat (.int .i64)]), (5, false, [.dat .str]), (6, false, [.dat (.int .i64)])], []⟩
def u_fuseeref07_Two_l3 (d : H_fuseeref07_Two_l3.Dat) : Int × Int × (List UInt8) × Int := (d.1.1.1, d.1.2.1.1, d.1.2.2.1.1, d.1.2.2.2.1.1)
def X_fuseeref07_Two_l3 : List (NX GG) := [⟨.exit 0, ⟨[(5, false, [.dat .str])], []⟩, (List UInt8), fun x => (((x, ()), ()), ()), fun d => d.1.1.1, fun _ => rfl⟩]
theorem t_fuseeref07_Two_l3 : ∀ (a : Int × Int × (List UInt8) × Int), stepN 0 H_fuseeref07_Two_l3 u_fuseeref07_Two_l3 X_fuseeref07_Two_l3 ⟨[], []⟩ 23 C_fuseeref07_Two_l3 ((((a.1, ()), (a.2.1, ()), (a.2.2.1, ()), (a.2.2.2, ()), ()), ())) = fuseeref07_Two_l3_s a := by intro a; kernel_rfl
theorem s_fuseeref07_Two_l3 : ∀ d, stepN 0 H_fuseeref07_Two_l3 u_fuseeref07_Two_l3 X_fuseeref07_Two_l3 ⟨[], []⟩ 23 C_fuseeref07_Two_l3 d = fuseeref07_Two_l3_s (u_fuseeref07_Two_l3 d) := fun d => t_fuseeref07_Two_l3 (u_fuseeref07_Two_l3 d)
theorem k_fuseeref07_Two_l3 {R : Type} : LoopOk (R := R) PT 0 23 C_fuseeref07_Two_l3 (loopOrcN 0 H_fuseeref07_Two_l3 u_fuseeref07_Two_l3 X_fuseeref07_Two_l3 fuseeref07_Two_l3) := by
  unfold fuseeref07_Two_l3
  exact loopN_ok (orc_nil) (loops_of (by
    have h : loopsOf C_fuseeref07_Two_l3 = [] := by kernel_rfl
    rw [h]; exact loops_nil)) s_fuseeref07_Two_l3 FUEL
theorem r54 : CallsTo PT 54 [L3, L3] [L9] (fun d => (runN (rs := [L9]) ⟨[], [(3, loopOrcN 0 H_fuseeref07_Two_l3 u_fuseeref07_Two_l3 X_fuseeref07_Two_l3 fuseeref07_Two_l3)]⟩ Go.Proofs.Tryz.f54 [L3, L3] (fun d => d.1.1) d).map (fun r => ((r, ()), ()))) := (runN_ok Go.Proofs.Tryz.func54 rfl (orc_nil) (loops_body (by
  have h : bodyLoops Go.Proofs.Tryz.f54 = [C_fuseeref07_Two_l3] := by kernel_rfl
  rw [h]; exact loops_cons (by kernel_rfl) k_fuseeref07_Two_l3 (loops_nil))) (fun _ => rfl))
theorem e54 : ∀ (a : Int) (b : Int), runN (rs := [L9]) ⟨[], [(3, loopOrcN 0 H_fuseeref07_Two_l3 u_fuseeref07_Two_l3 X_fuseeref07_Two_l3 fuseeref07_Two_l3)]⟩ Go.Proofs.Tryz.f54 [L3, L3] (fun d => d.1.1) ((a, ()), (b, ()), ()) = fuseeref07_Two a b := by intros; kernel_rfl
theorem ok54 : CallsTo PT 54 [L3, L3] [L9] (fun d => (fuseeref07_Two d.1.1 d.2.1.1).map (fun r => ((r, ()), ()))) := r54.congr (fun d => congrArg (Option.map _) (e54 d.1.1 d.2.1.1))
theorem bd54 : Bodied PT 54 := bodied Go.Proofs.Tryz.func54 (by kernel_rfl) (by kernel_rfl)

/-! 106: fuseeref07_Text -/
theorem r106 : CallsTo PT 106 [L183] [L9] (fun d => (runN (rs := [L9]) ⟨[(54, callOrcN [L3, L3] [L9] (fun d => fuseeref07_Two d.1.1 d.2.1.1) (fun r => ((r, ()), ())))], []⟩ Go.Proofs.Tryz.f106 [L183] (fun d => d.1.1) d).map (fun r => ((r, ()), ()))) := (runN_ok Go.Proofs.Tryz.func106 rfl (orcN_cons (orc_nil) bd54 (ok54)) (loops_body (by
  have h : bodyLoops Go.Proofs.Tryz.f106 = [] := by kernel_rfl
  rw [h]; exact loops_nil)) (fun _ => rfl))
theorem e106 : ∀ (a : Date), runN (rs := [L9]) ⟨[(54, callOrcN [L3, L3] [L9] (fun d => fuseeref07_Two d.1.1 d.2.1.1) (fun r => ((r, ()), ())))], []⟩ Go.Proofs.Tryz.f106 [L183] (fun d => d.1.1) ((flDate a), ()) = fuseeref07_Text a := by intros; kernel_rfl
theorem ok106 : CallsTo PT 106 [L183] [L9] (fun d => (fuseeref07_Text (unDate d.1)).map (fun r => ((r, ()), ()))) := r106.congr (fun d => congrArg (Option.map _) (e106 (unDate d.1)))
theorem bd106 : Bodied PT 106 := bodied Go.Proofs.Tryz.func106 (by kernel_rfl) (by kernel_rfl)

/-! 51: fuseeref08_Stamp -/
theorem r51 : CallsTo PT 51 [L2, L2, L2] [L9, L3] (fun d => (runN (rs := [L9, L3]) ⟨[(104, callOrcN [L2] [L183, L3] (fun d => fuseeref07_Of d.1.1) (fun r => ((flDate r.1), (r.2, ()), ()))), (105, callOrcN [L3] [L186] (fun d => fuseeref08_Of d.1.1) (fun r => ((flTime r), ()))), (106, callOrcN [L183] [L9] (fun d => fuseeref07_Text (unDate d.1)) (fun r => ((r, ()), ()))), (54, callOrcN [L3, L3] [L9] (fun d => fuseeref07_Two d.1.1 d.2.1.1) (fun r => ((r, ()), ())))], []⟩ Go.Proofs.Tryz.f51 [L2, L2, L2] (fun d => (d.1.1, d.2.1.1)) d).map (fun r => ((r.1, ()), (r.2, ()), ()))) := (runN_ok Go.Proofs.Tryz.func51 rfl (orcN_cons (orcN_cons (orcN_cons (orcN_cons (orc_nil) bd54 (ok54)) bd106 (ok106)) bd105 (ok105)) bd104 (ok104)) (loops_body (by
  have h : bodyLoops Go.Proofs.Tryz.f51 = [] := by kernel_rfl
  rw [h]; exact loops_nil)) (fun _ => rfl))
theorem e51 : ∀ (a : Int) (b : Int) (c : Int), runN (rs := [L9, L3]) ⟨[(104, callOrcN [L2] [L183, L3] (fun d => fuseeref07_Of d.1.1) (fun r => ((flDate r.1), (r.2, ()), ()))), (105, callOrcN [L3] [L186] (fun d => fuseeref08_Of d.1.1) (fun r => ((flTime r), ()))), (106, callOrcN [L183] [L9] (fun d => fuseeref07_Text (unDate d.1)) (fun r => ((r, ()), ()))), (54, callOrcN [L3, L3] [L9] (fun d => fuseeref07_Two d.1.1 d.2.1.1) (fun r => ((r, ()), ())))], []⟩ Go.Proofs.Tryz.f51 [L2, L2, L2] (fun d => (d.1.1, d.2.1.1)) ((a, ()), (b, ()), (c, ()), ()) = fuseeref08_Stamp a b c := by intros; kernel_rfl
theorem ok51 : CallsTo PT 51 [L2, L2, L2] [L9, L3] (fun d => (fuseeref08_Stamp d.1.1 d.2.1.1 d.2.2.1.1).map (fun r => ((r.1, ()), (r.2, ()), ()))) := r51.congr (fun d => congrArg (Option.map _) (e51 d.1.1 d.2.1.1 d.2.2.1.1))
theorem bd51 : Bodied PT 51 := bodied Go.Proofs.Tryz.func51 (by kernel_rfl) (by kernel_rfl)

/-! 52: fuseeref43_added -/
theorem r52 : CallsTo PT 52 [L2] [L9] (fun d => (runN (rs := [L9]) ⟨[(54, callOrcN [L3, L3] [L9] (fun d => fuseeref07_Two d.1.1 d.2.1.1) (fun r => ((r, ()), ())))], []⟩ Go.Proofs.Tryz.f52 [L2] (fun d => d.1.1) d).map (fun r => ((r, ()), ()))) := (runN_ok Go.Proofs.Tryz.func52 rfl (orcN_cons (orc_nil) bd54 (ok54)) (loops_body (by
  have h : bodyLoops Go.Proofs.Tryz.f52 = [] := by kernel_rfl
  rw [h]; exact loops_nil)) (fun _ => rfl))
theorem e52 : ∀ (a : Int), runN (rs := [L9]) ⟨[(54, callOrcN [L3, L3] [L9] (fun d => fuseeref07_Two d.1.1 d.2.1.1) (fun r => ((r, ()), ())))], []⟩ Go.Proofs.Tryz.f52 [L2] (fun d => d.1.1) ((a, ()), ()) = fuseeref43_added a := by intros; kernel_rfl
theorem ok52 : CallsTo PT 52 [L2] [L9] (fun d => (fuseeref43_added d.1.1).map (fun r => ((r, ()), ()))) := r52.congr (fun d => congrArg (Option.map _) (e52 d.1.1))
theorem bd52 : Bodied PT 52 := bodied Go.Proofs.Tryz.func52 (by kernel_rfl) (by kernel_rfl)

/-! 23: fuseeref43_Text -/
theorem r23 : CallsTo PT 23 [L86] [L9, L3] (fun d => (runN (rs := [L9, L3]) ⟨[(50, callOrcN [L86] [L4] (fun d => fuseeref43_May (unMoment d.1)) (fun r => ((r, ()), ()))), (21, callOrcN [L2, L2] [L2, L2] (fun d => fuseeref01_Div d.1.1 d.2.1.1) (fun r => ((r.1, ()), (r.2, ()), ()))), (51, callOrcN [L2, L2, L2] [L9, L3] (fun d => fuseeref08_Stamp d.1.1 d.2.1.1 d.2.2.1.1) (fun r => ((r.1, ()), (r.2, ()), ()))), (52, callOrcN [L2] [L9] (fun d => fuseeref43_added d.1.1) (fun r => ((r, ()), ())))], []⟩ Go.Proofs.Tryz.f23 [L86] (fun d => (d.1.1, d.2.1.1)) d).map (fun r => ((r.1, ()), (r.2, ()), ()))) := (runN_ok Go.Proofs.Tryz.func23 rfl (orcN_cons (orcN_cons (orcN_cons (orcN_cons (orc_nil) bd52 (ok52)) bd51 (ok51)) bd21 (ok21)) bd50 (ok50)) (loops_body (by
  have h : bodyLoops Go.Proofs.Tryz.f23 = [] := by kernel_rfl
  rw [h]; exact loops_nil)) (fun _ => rfl))
theorem e23 : ∀ (a : Moment), runN (rs := [L9, L3]) ⟨[(50, callOrcN [L86] [L4] (fun d => fuseeref43_May (unMoment d.1)) (fun r => ((r, ()), ()))), (21, callOrcN [L2, L2] [L2, L2] (fun d => fuseeref01_Div d.1.1 d.2.1.1) (fun r => ((r.1, ()), (r.2, ()), ()))), (51, callOrcN [L2, L2, L2] [L9, L3] (fun d => fuseeref08_Stamp d.1.1 d.2.1.1 d.2.2.1.1) (fun r => ((r.1, ()), (r.2, ()), ()))), (52, callOrcN [L2] [L9] (fun d => fuseeref43_added d.1.1) (fun r => ((r, ()), ())))], []⟩ Go.Proofs.Tryz.f23 [L86] (fun d => (d.1.1, d.2.1.1)) ((flMoment a), ()) = fuseeref43_Text a := by intros; kernel_rfl
theorem ok23 : CallsTo PT 23 [L86] [L9, L3] (fun d => (fuseeref43_Text (unMoment d.1)).map (fun r => ((r.1, ()), (r.2, ()), ()))) := r23.congr (fun d => congrArg (Option.map _) (e23 (unMoment d.1)))
theorem bd23 : Bodied PT 23 := bodied Go.Proofs.Tryz.func23 (by kernel_rfl) (by kernel_rfl)

/-! 53: fuseeref43_digits -/
noncomputable def C_fuseeref43_digits_l2 : Code := (bodyLoops Go.Proofs.Tryz.f53).getD 0 .skip
def H_fuseeref43_digits_l2 : Sch GG := ⟨[(0, false, [.dat (.int .i64)]), (3, false, [.dat .str])], []⟩
def u_fuseeref43_digits_l2 (d : H_fuseeref43_digits_l2.Dat) : Int × (List UInt8) := (d.1.1.1, d.1.2.1.1)
def X_fuseeref43_digits_l2 : List (NX GG) := [⟨.exit 0, ⟨[(3, false, [.dat .str])], []⟩, (List UInt8), fun x => (((x, ()), ()), ()), fun d => d.1.1.1, fun _ => rfl⟩]
theorem t_fuseeref43_digits_l2 : ∀ (a : Int × (List UInt8)), stepN 0 H_fuseeref43_digits_l2 u_fuseeref43_digits_l2 X_fuseeref43_digits_l2 ⟨[], []⟩ 22 C_fuseeref43_digits_l2 ((((a.1, ()), (a.2, ()), ()), ())) = fuseeref43_digits_l2_s a := by intro a; kernel_rfl
theorem s_fuseeref43_digits_l2 : ∀ d, stepN 0 H_fuseeref43_digits_l2 u_fuseeref43_digits_l2 X_fuseeref43_digits_l2 ⟨[], []⟩ 22 C_fuseeref43_digits_l2 d = fuseeref43_digits_l2_s (u_fuseeref43_digits_l2 d) := fun d => t_fuseeref43_digits_l2 (u_fuseeref43_digits_l2 d)
theorem k_fuseeref43_digits_l2 {R : Type} : LoopOk (R := R) PT 0 22 C_fuseeref43_digits_l2 (loopOrcN 0 H_fuseeref43_digits_l2 u_fuseeref43_digits_l2 X_fuseeref43_digits_l2 fuseeref43_digits_l2) := by
  unfold fuseeref43_digits_l2
  exact loopN_ok (orc_nil) (loops_of (by
    have h : loopsOf C_fuseeref43_digits_l2 = [] := by kernel_rfl
    rw [h]; exact loops_nil)) s_fuseeref43_digits_l2 FUEL
theorem r53 : CallsTo PT 53 [L2] [L9] (fun d => (runN (rs := [L9]) ⟨[], [(2, loopOrcN 0 H_fuseeref43_digits_l2 u_fuseeref43_digits_l2 X_fuseeref43_digits_l2 fuseeref43_digits_l2)]⟩ Go.Proofs.Tryz.f53 [L2] (fun d => d.1.1) d).map (fun r => ((r, ()), ()))) := (runN_ok Go.Proofs.Tryz.func53 rfl (orc_nil) (loops_body (by
  have h : bodyLoops Go.Proofs.Tryz.f53 = [C_fuseeref43_digits_l2] := by kernel_rfl
  rw [h]; exact loops_cons (by kernel_rfl) k_fuseeref43_digits_l2 (loops_nil))) (fun _ => rfl))
theorem e53 : ∀ (a : Int), runN (rs := [L9]) ⟨[], [(2, loopOrcN 0 H_fuseeref43_digits_l2 u_fuseeref43_digits_l2 X_fuseeref43_digits_l2 fuseeref43_digits_l2)]⟩ Go.Proofs.Tryz.f53 [L2] (fun d => d.1.1) ((a, ()), ()) = fuseeref43_digits a := by intros; kernel_rfl
theorem ok53 : CallsTo PT 53 [L2] [L9] (fun d => (fuseeref43_digits d.1.1).map (fun r => ((r, ()), ()))) := r53.congr (fun d => congrArg (Option.map _) (e53 d.1.1))
theorem bd53 : Bodied PT 53 := bodied Go.Proofs.Tryz.func53 (by kernel_rfl) (by kernel_rfl)

/-! 24: fuseeref43_Length -/
noncomputable def C_fuseeref43_Length_l5 : Code := (bodyLoops Go.Proofs.Tryz.f24).getD 0 .skip
def H_fuseeref43_Length_l5 : Sch GG := ⟨[(4, false, [.dat .str]), (5, false, [.dat .str])], []⟩
def u_fuseeref43_Length_l5 (d : H_fuseeref43_Length_l5.Dat) : (List UInt8) × (List UInt8) := (d.1.1.1, d.1.2.1.1)
def X_fuseeref43_Length_l5 : List (NX GG) := [⟨.exit 0, ⟨[(4, false, [.dat .str]), (5, false, [.dat .str])], []⟩, (List UInt8) × (List UInt8), fun x => (((x.1, ()), (x.2, ()), ()), ()), fun d => (d.1.1.1, d.1.2.1.1), fun _ => rfl⟩]
theorem t_fuseeref43_Length_l5 : ∀ (a : (List UInt8) × (List UInt8)), stepN 0 H_fuseeref43_Length_l5 u_fuseeref43_Length_l5 X_fuseeref43_Length_l5 ⟨[(53, callOrcN [L2] [L9] (fun d => fuseeref43_digits d.1.1) (fun r => ((r, ()), ()))), (54, callOrcN [L3, L3] [L9] (fun d => fuseeref07_Two d.1.1 d.2.1.1) (fun r => ((r, ()), ())))], []⟩ 38 C_fuseeref43_Length_l5 ((((a.1, ()), (a.2, ()), ()), ())) = fuseeref43_Length_l5_s a := by intro a; kernel_rfl
theorem s_fuseeref43_Length_l5 : ∀ d, stepN 0 H_fuseeref43_Length_l5 u_fuseeref43_Length_l5 X_fuseeref43_Length_l5 ⟨[(53, callOrcN [L2] [L9] (fun d => fuseeref43_digits d.1.1) (fun r => ((r, ()), ()))), (54, callOrcN [L3, L3] [L9] (fun d => fuseeref07_Two d.1.1 d.2.1.1) (fun r => ((r, ()), ())))], []⟩ 38 C_fuseeref43_Length_l5 d = fuseeref43_Length_l5_s (u_fuseeref43_Length_l5 d) := fun d => t_fuseeref43_Length_l5 (u_fuseeref43_Length_l5 d)
theorem k_fuseeref43_Length_l5 {R : Type} : LoopOk (R := R) PT 0 38 C_fuseeref43_Length_l5 (loopOrcN 0 H_fuseeref43_Length_l5 u_fuseeref43_Length_l5 X_fuseeref43_Length_l5 fuseeref43_Length_l5) := by
  unfold fuseeref43_Length_l5
  exact loopN_ok (orcN_cons (orcN_cons (orc_nil) bd54 (ok54)) bd53 (ok53)) (loops_of (by
    have h : loopsOf C_fuseeref43_Length_l5 = [] := by kernel_rfl
    rw [h]; exact loops_nil)) s_fuseeref43_Length_l5 FUEL
theorem r24 : CallsTo PT 24 [L2] [L9, L3] (fun d => (runN (rs := [L9, L3]) ⟨[(53, callOrcN [L2] [L9] (fun d => fuseeref43_digits d.1.1) (fun r => ((r, ()), ()))), (54, callOrcN [L3, L3] [L9] (fun d => fuseeref07_Two d.1.1 d.2.1.1) (fun r => ((r, ()), ())))], [(5, loopOrcN 0 H_fuseeref43_Length_l5 u_fuseeref43_Length_l5 X_fuseeref43_Length_l5 fuseeref43_Length_l5)]⟩ Go.Proofs.Tryz.f24 [L2] (fun d => (d.1.1, d.2.1.1)) d).map (fun r => ((r.1, ()), (r.2, ()), ()))) := (runN_ok Go.Proofs.Tryz.func24 rfl (orcN_cons (orcN_cons (orc_nil) bd54 (ok54)) bd53 (ok53)) (loops_body (by
  have h : bodyLoops Go.Proofs.Tryz.f24 = [C_fuseeref43_Length_l5] := by kernel_rfl
  rw [h]; exact loops_cons (by kernel_rfl) k_fuseeref43_Length_l5 (loops_nil))) (fun _ => rfl))
theorem e24 : ∀ (a : Int), runN (rs := [L9, L3]) ⟨[(53, callOrcN [L2] [L9] (fun d => fuseeref43_digits d.1.1) (fun r => ((r, ()), ()))), (54, callOrcN [L3, L3] [L9] (fun d => fuseeref07_Two d.1.1 d.2.1.1) (fun r => ((r, ()), ())))], [(5, loopOrcN 0 H_fuseeref43_Length_l5 u_fuseeref43_Length_l5 X_fuseeref43_Length_l5 fuseeref43_Length_l5)]⟩ Go.Proofs.Tryz.f24 [L2] (fun d => (d.1.1, d.2.1.1)) ((a, ()), ()) = fuseeref43_Length a := by intros; kernel_rfl
theorem ok24 : CallsTo PT 24 [L2] [L9, L3] (fun d => (fuseeref43_Length d.1.1).map (fun r => ((r.1, ()), (r.2, ()), ()))) := r24.congr (fun d => congrArg (Option.map _) (e24 d.1.1))
theorem bd24 : Bodied PT 24 := bodied Go.Proofs.Tryz.func24 (by kernel_rfl) (by kernel_rfl)

/-! 8: fuseeref43_Reading -/
theorem r8 : CallsTo PT 8 [L37, L61] [L9, L3] (fun d => (runN (rs := [L9, L3]) ⟨[(20, callOrcN [L37] [L4] (fun d => fuseeref29_May (unTenant d.1)) (fun r => ((r, ()), ()))), (21, callOrcN [L2, L2] [L2, L2] (fun d => fuseeref01_Div d.1.1 d.2.1.1) (fun r => ((r.1, ()), (r.2, ()), ()))), (22, callOrcN [L29, L2] [L2, L9] (fun d => fuseeref10_At (unZone d.1) d.2.1.1) (fun r => ((r.1, ()), (r.2, ()), ()))), (23, callOrcN [L86] [L9, L3] (fun d => fuseeref43_Text (unMoment d.1)) (fun r => ((r.1, ()), (r.2, ()), ()))), (24, callOrcN [L2] [L9, L3] (fun d => fuseeref43_Length d.1.1) (fun r => ((r.1, ()), (r.2, ()), ())))], []⟩ Go.Proofs.Tryz.f8 [L37, L61] (fun d => (d.1.1, d.2.1.1)) d).map (fun r => ((r.1, ()), (r.2, ()), ()))) := (runN_ok Go.Proofs.Tryz.func8 rfl (orcN_cons (orcN_cons (orcN_cons (orcN_cons (orcN_cons (orc_nil) bd24 (ok24)) bd23 (ok23)) bd22 (ok22)) bd21 (ok21)) bd20 (ok20)) (loops_body (by
  have h : bodyLoops Go.Proofs.Tryz.f8 = [] := by kernel_rfl
  rw [h]; exact loops_nil)) (fun _ => rfl))
theorem e8 : ∀ (a : Tenant) (b : Reading), runN (rs := [L9, L3]) ⟨[(20, callOrcN [L37] [L4] (fun d => fuseeref29_May (unTenant d.1)) (fun r => ((r, ()), ()))), (21, callOrcN [L2, L2] [L2, L2] (fun d => fuseeref01_Div d.1.1 d.2.1.1) (fun r => ((r.1, ()), (r.2, ()), ()))), (22, callOrcN [L29, L2] [L2, L9] (fun d => fuseeref10_At (unZone d.1) d.2.1.1) (fun r => ((r.1, ()), (r.2, ()), ()))), (23, callOrcN [L86] [L9, L3] (fun d => fuseeref43_Text (unMoment d.1)) (fun r => ((r.1, ()), (r.2, ()), ()))), (24, callOrcN [L2] [L9, L3] (fun d => fuseeref43_Length d.1.1) (fun r => ((r.1, ()), (r.2, ()), ())))], []⟩ Go.Proofs.Tryz.f8 [L37, L61] (fun d => (d.1.1, d.2.1.1)) ((flTenant a), (flReading b), ()) = fuseeref43_Reading a b := by intros; kernel_rfl
theorem ok8 : CallsTo PT 8 [L37, L61] [L9, L3] (fun d => (fuseeref43_Reading (unTenant d.1) (unReading d.2.1)).map (fun r => ((r.1, ()), (r.2, ()), ()))) := r8.congr (fun d => congrArg (Option.map _) (e8 (unTenant d.1) (unReading d.2.1)))
theorem bd8 : Bodied PT 8 := bodied Go.Proofs.Tryz.func8 (by kernel_rfl) (by kernel_rfl)

/-! 3: fuseelaw43_ToldReads -/
theorem r3 : CallsTo PT 3 [L37, L2, L2] [L4] (fun d => (runN (rs := [L4]) ⟨[(4, callOrcN [L37] [L4] (fun d => law_bigTenant (unTenant d.1)) (fun r => ((r, ()), ()))), (5, callOrcN ([] : List (Lay GG)) [L4] (fun d => fuseelaw43_sure ) (fun r => ((r, ()), ()))), (7, callOrcN [L37] [L55] (fun d => law_giveTenant (unTenant d.1)) (fun r => ((flTenant r), ()))), (6, callOrcN [L55, L58] [L9, L41] (fun d => told_Reading (unTenant d.1) (unReading d.2.1)) (fun r => ((r.1, ()), (r.2, ()), ()))), (8, callOrcN [L37, L61] [L9, L3] (fun d => fuseeref43_Reading (unTenant d.1) (unReading d.2.1)) (fun r => ((r.1, ()), (r.2, ()), ()))), (9, callOrcN [L41] [L3] (fun d => law_num d.1.1) (fun r => ((r, ()), ())))], []⟩ Go.Proofs.Tryz.f3 [L37, L2, L2] (fun d => d.1.1) d).map (fun r => ((r, ()), ()))) := (runN_ok Go.Proofs.Tryz.func3 rfl (orcN_cons (orcN_cons (orcN_cons (orcN_cons (orcN_cons (orcN_cons (orc_nil) bd9 (ok9)) bd8 (ok8)) bd6 (ok6)) bd7 (ok7)) bd5 (ok5)) bd4 (ok4)) (loops_body (by
  have h : bodyLoops Go.Proofs.Tryz.f3 = [] := by kernel_rfl
  rw [h]; exact loops_nil)) (fun _ => rfl))
theorem e3 : ∀ (a : Tenant) (b : Int) (c : Int), runN (rs := [L4]) ⟨[(4, callOrcN [L37] [L4] (fun d => law_bigTenant (unTenant d.1)) (fun r => ((r, ()), ()))), (5, callOrcN ([] : List (Lay GG)) [L4] (fun d => fuseelaw43_sure ) (fun r => ((r, ()), ()))), (7, callOrcN [L37] [L55] (fun d => law_giveTenant (unTenant d.1)) (fun r => ((flTenant r), ()))), (6, callOrcN [L55, L58] [L9, L41] (fun d => told_Reading (unTenant d.1) (unReading d.2.1)) (fun r => ((r.1, ()), (r.2, ()), ()))), (8, callOrcN [L37, L61] [L9, L3] (fun d => fuseeref43_Reading (unTenant d.1) (unReading d.2.1)) (fun r => ((r.1, ()), (r.2, ()), ()))), (9, callOrcN [L41] [L3] (fun d => law_num d.1.1) (fun r => ((r, ()), ())))], []⟩ Go.Proofs.Tryz.f3 [L37, L2, L2] (fun d => d.1.1) ((flTenant a), (b, ()), (c, ()), ()) = fuseelaw43_ToldReads a b c := by intros; kernel_rfl
theorem ok3 : CallsTo PT 3 [L37, L2, L2] [L4] (fun d => (fuseelaw43_ToldReads (unTenant d.1) d.2.1.1 d.2.2.1.1).map (fun r => ((r, ()), ()))) := r3.congr (fun d => congrArg (Option.map _) (e3 (unTenant d.1) d.2.1.1 d.2.2.1.1))
theorem bd3 : Bodied PT 3 := bodied Go.Proofs.Tryz.func3 (by kernel_rfl) (by kernel_rfl)

end Vm.Tryz
