/- The row ToldReadsSaid is proved: whatever the input, the call answers true and its arguments read as before; no conditions beyond the row itself. -/
import Derived.Test.YtdkejaijokbinaaGreatDoorRows
import Derived.ProofKit
import Derived.LaidOnce
import Derived.OpenShut
import Derived.Stop.Joined
import Derived.LaidLaws
import Derived.LaidHandle
import Derived.JoinedOf
import Derived.Test.YtdkejaijokbinaaGreatDoorLib
import Derived.Lib.LaidTab
import Derived.Shelf.Vars
import Derived.DataShut
import Derived.Test.YtdkejaijokbinaaGreatDoorGlue
import Derived.Test.YtdkejaijokbinaaGreatDoorWalk
import Derived.Handed
import Derived.HandedShaped
import Derived.Carry
import Derived.ChangeSame
import Derived.ChangeVars
import Derived.RowKitTokens
set_option linter.all false

section
namespace Go.Proofs.YtdkejaijokbinaaGreatDoor
open Go.ChangeShapes Go.WideShapes Go.RowKit
theorem Tryz.own : ownKnob Tryz.prog.godebug = none := by kernel_rfl

def leaf : DataW Unit → Value
  | .lit (.int k n) => .int k n
  | _ => .nilIface
def flat1 : DataW Unit → List Value
  | .agg ds => ds.map leaf
  | d => [leaf d]
def flat2 : DataW Unit → List Value
  | .agg ds => ds.flatMap flat1
  | d => [leaf d]

noncomputable def restHeap : List Obj := (begin Tryz.prog (fun _ _ => 0) default).world.heap.toList.drop 9
def txt (l : List UInt8) : Value := .string ⟨l.toArray⟩
noncomputable def litHeap : Array Obj := ⟨
  .cells #[.iface 190 (.agg #[.pointer (some ⟨9, 41, none⟩)])] 127 (0, 0) ::
  .cells #[.int .i64 0] 3 (0, 0) ::
  .cells #[.iface 251 (.pointer (some ⟨14, 0, none⟩))] 41 (0, 0) ::
  .cells #[.iface 251 (.pointer (some ⟨15, 0, none⟩))] 41 (0, 0) ::
  .cells (flat2 Rows.laid_internal_strconv_uint64pow10).toArray 245 (0, 0) ::
  .cells (flat2 Rows.laid_unicode_utf8_first).toArray 254 (0, 0) ::
  .cells (flat2 Rows.laid_unicode_utf8_acceptRanges).toArray 257 (0, 0) ::
  .cells (flat2 Rows.laid_math_bits_deBruijn32tab).toArray 260 (0, 0) ::
  .cells (flat2 Rows.laid_math_bits_deBruijn64tab).toArray 261 (0, 0) ::
  (restHeap ++ [.cells #[txt [105, 110, 118, 97, 108, 105, 100, 32, 115, 121, 110, 116, 97, 120]] 253 (0, 0), .cells #[txt [118, 97, 108, 117, 101, 32, 111, 117, 116, 32, 111, 102, 32, 114, 97, 110, 103, 101]] 253 (0, 0)])⟩
noncomputable def litWorld (os : Os) : World := { heap := litHeap, tape := fun _ _ => 0, drawn := 0, os := os, output := #[] }

noncomputable def laidData' : List (String × DataW Unit) := [("math/bits.deBruijn32tab", Rows.laid_math_bits_deBruijn32tab), ("math/bits.deBruijn64tab", Rows.laid_math_bits_deBruijn64tab), ("internal/strconv.uint64pow10", Rows.laid_internal_strconv_uint64pow10), ("unicode/utf8.acceptRanges", Rows.laid_unicode_utf8_acceptRanges), ("strconv.ErrRange", Rows.laid_strconv_ErrRange), ("strconv.ErrSyntax", Rows.laid_strconv_ErrSyntax), ("unicode/utf8.first", Rows.laid_unicode_utf8_first)]
theorem lit_run (os : Os) (args : Array Value) : ((DataW.laidRun Tryz.prog ((litWorld os).forCall (fun _ _ => 0) ⟨#[], args, []⟩).memory 8 (laidData'.map (·.1))).bind fun x =>
    if nodupBits 300 x.2 0 && laidRowsB Tryz.prog ((litWorld os).forCall (fun _ _ => 0) ⟨#[], args, []⟩).memory x.2 then some x.1 else none) = some laidData' := by kernel_rfl
theorem lit_handles (os : Os) (args : Array Value) : (Rows.toldReadsRow.laid.filter fun x => x.2.handleName?.isSome && x.2.funcsIn?.isNone).all (handleAtB Tryz.prog ((litWorld os).forCall (fun _ _ => 0) ⟨#[], args, []⟩).memory) = true := by kernel_rfl
theorem lit_met (os : Os) (args : Array Value) : laidMetH Tryz.prog Rows.toldReadsRow.laid ((litWorld os).forCall (fun _ _ => 0) ⟨#[], args, []⟩).memory := by
  refine laidMetH_of_parts3 (fuel := 8) ?_ (lit_handles os args) rfl
  have d := lit_run os args
  simp only [Option.bind_eq_some_iff] at d
  obtain ⟨x, hx, d⟩ := d
  split at d
  · rename_i hb
    simp only [Bool.and_eq_true] at hb
    have e : x.1 = laidData' := Option.some.inj d
    exact laidMet_of_run (l := laidData') (ps := x.2) 8 (by rw [hx, ← e]) (decide_eq_true (nodupBits_sound hb.1).1) hb.2
  · cases d
end Go.Proofs.YtdkejaijokbinaaGreatDoor
end

section
namespace Go.Proofs.YtdkejaijokbinaaGreatDoor
open Go.ChangeShapes Go.WideShapes Go.RowKit

theorem Ry.et : Tryz.prog.globalNamed "errors.errorType" = some 0 := by kernel_rfl
theorem Ry.g1 : Tryz.prog.globalNamed "strconv.ErrSyntax" = some 2 := by kernel_rfl
theorem Ry.g2 : Tryz.prog.globalNamed "strconv.ErrRange" = some 3 := by kernel_rfl
theorem Ry.g3 : Tryz.prog.globalNamed "internal/strconv.uint64pow10" = some 4 := by kernel_rfl
theorem Ry.rt : (Tryz.prog.cutTypes.find? (·.1 == "internal/reflectlite.rtype")).map (·.2) = some 190 := by kernel_rfl
theorem Ry.size : Tryz.prog.types.size = 289 := by kernel_rfl
theorem Ry.oneRow : ((List.range 289).filter fun t => Tryz.prog.rowNamed t [101, 114, 114, 111, 114]) = [41] := by kernel_rfl
theorem Ry.th : typeHandle Tryz.prog 41 = .pointer (some ⟨9, 41, none⟩) := by kernel_rfl

noncomputable def laidData : List (String × DataW Unit) := [("math/bits.deBruijn32tab", Rows.laid_math_bits_deBruijn32tab), ("math/bits.deBruijn64tab", Rows.laid_math_bits_deBruijn64tab), ("internal/strconv.uint64pow10", Rows.laid_internal_strconv_uint64pow10), ("unicode/utf8.acceptRanges", Rows.laid_unicode_utf8_acceptRanges), ("strconv.ErrRange", Rows.laid_strconv_ErrRange), ("strconv.ErrSyntax", Rows.laid_strconv_ErrSyntax), ("unicode/utf8.first", Rows.laid_unicode_utf8_first)]

theorem laid_split {W : World} (h : laidMetH Tryz.prog Rows.toldReadsRow.laid W) : laidMet Tryz.prog laidData W ∧ handlesMet Tryz.prog [("errors.errorType", Rows.laid_errors_errorType)] W := h

theorem heap_of_var {W : World} {n : String} {g : Nat} {cs : Array Value} (hg : Tryz.prog.globalNamed n = some g) (h : W.var? Tryz.prog n = some cs) : ∃ t f, W.heap[g]? = some (.cells cs t f) := by
  unfold World.var? at h
  rw [hg] at h
  simp only [Option.bind_some] at h
  split at h
  · rename_i cs' t f hh
    cases h
    exact ⟨t, f, hh⟩
  · cases h

theorem iface_cell {W : World} {n : String} {d : DataW Unit} {name : String} {g : Nat} {rest : List (String × DataW Unit)} {ps : List MemPlace}
    (hg : Tryz.prog.globalNamed n = some g) (ht : (Tryz.prog.globals[g]?).map (·.type) = some 41) (hu : ∃ ms, Tryz.prog.underlying 41 = some (.interface ms))
    (h : DataW.LaidVars Tryz.prog W ((n, .iface name d) :: rest) ps) : ∃ cs t f, W.heap[g]? = some (.cells cs t f) ∧ ∃ t v, cs[0]? = some (.iface t v) := by
  obtain ⟨g', t', cs, fuel, p, q, hg', ht', hvar, hd, _, _⟩ := h
  obtain rfl := Option.some.inj (hg.symm.trans hg')
  obtain rfl := Option.some.inj (ht.symm.trans ht')
  obtain ⟨ms, hu⟩ := hu
  obtain ⟨_, u, v, hc, _, _⟩ := iface_of_trod hu hd
  obtain ⟨t, f, hh⟩ := heap_of_var hg hvar
  refine ⟨cs, t, f, hh, u, v, ?_⟩
  have : cs.toList[0]? = some (.iface u v) := by rw [hc]; rfl
  simpa using this

theorem glob_of {W : World} (hl : laidMetH Tryz.prog Rows.toldReadsRow.laid W) (hs : W.ShapedOpen Tryz.prog) : Vm.Glob (S := Vm.Tryz.GG) W (fun _ => False) := by
  obtain ⟨h1, h2⟩ := laid_split hl
  obtain ⟨ps, h1, _⟩ := h1
  obtain ⟨_, _, _, _, _, _, _, _, _, _, h1, _⟩ := h1
  obtain ⟨_, _, _, _, _, _, _, _, _, _, h1, _⟩ := h1
  have k4 : ∃ cs t f, W.heap[4]? = some (.cells cs t f) ∧ cs = (Lib.pow10Tab.map fun z => Value.int .u64 z).toArray := by
    obtain ⟨g', t', cs, fuel, p, q, hg', ht', hvar, hd, _, _⟩ := h1
    obtain rfl := Option.some.inj (Ry.g3.symm.trans hg')
    obtain ⟨t, f, hh⟩ := heap_of_var Ry.g3 hvar
    refine ⟨cs, t, f, hh, ?_⟩
    obtain rfl := Option.some.inj ((show (Tryz.prog.globals[4]?).map (·.type) = some 245 by kernel_rfl).symm.trans ht')
    have hd' : DataW.trod (fun _ => ()) Tryz.prog W 0 (fun _ => true) false fuel 245 cs.toList = some (Lib.tabData .u64 Lib.pow10Tab, p) := hd
    have := Lib.cells_of_tab (n := 20) (e := 209) (by kernel_rfl) (by kernel_rfl) (by kernel_rfl) (by kernel_rfl) hd'
    rw [← this]
  obtain ⟨_, _, _, _, _, _, _, _, _, _, h1, _⟩ := h1
  obtain ⟨_, _, _, _, _, _, _, _, _, _, h1, _⟩ := h1
  have k3 := iface_cell Ry.g2 (by kernel_rfl) ⟨_, Tryz.underlying41⟩ h1
  obtain ⟨_, _, _, _, _, _, _, _, _, _, h1, _⟩ := h1
  have k2 := iface_cell Ry.g1 (by kernel_rfl) ⟨_, Tryz.underlying41⟩ h1
  have k0 : ∃ cs t f, W.heap[0]? = some (.cells cs t f) ∧ cs = #[.iface 190 (.agg #[.pointer (some ⟨9, 41, none⟩)])] := by
    obtain ⟨name, u, ty, e1, e2, e3, e4, e5⟩ := h2 _ (List.mem_singleton.2 rfl)
    have en : name = [101, 114, 114, 111, 114] := (Option.some.inj e1).symm
    subst en
    obtain rfl := Option.some.inj (Ry.rt.symm.trans e2)
    have hm : ty ∈ (List.range 289).filter fun t => Tryz.prog.rowNamed t [101, 114, 114, 111, 114] := List.mem_filter.2 ⟨List.mem_range.2 (by rw [← Ry.size]; exact e3), e4⟩
    rw [Ry.oneRow] at hm
    obtain rfl := List.mem_singleton.1 hm
    rw [Ry.th] at e5
    obtain ⟨t, f, hh⟩ := heap_of_var Ry.et e5
    exact ⟨_, t, f, hh, rfl⟩
  have k1 : ∃ cs t f, W.heap[1]? = some (.cells cs t f) ∧ ∃ m, cs[0]? = some (.int .i64 m) := by
    obtain ⟨m, hm⟩ := cell_of_shapedOpen_int (g := 1) (t := 3) (zero := #[.int .i64 0]) (k := .i64) hs (of_decide_eq_true (by kernel_rfl)) (by kernel_rfl) rfl (by kernel_rfl) (by kernel_rfl) Tryz.underlying3
    unfold World.cell? at hm
    split at hm
    · rename_i cs t f hh
      exact ⟨cs, t, f, hh, m, by simpa using hm⟩
    · cases hm
  intro x hx
  have fin : ∀ (b : Nat) (p : Array Value → Prop), (∃ cs t f, W.heap[b]? = some (.cells cs t f) ∧ p cs) → b < W.heap.size ∧ ¬ False ∧ ∃ cs t f, W.heap[b]? = some (.cells cs t f) ∧ p cs := by
    intro b p h
    refine ⟨?_, fun h => h, h⟩
    obtain ⟨cs, t, f, h1, _⟩ := h
    exact (Array.getElem?_eq_some_iff.1 h1).1
  have hx' : x ∈ Vm.Tryz.globs := hx
  simp only [Vm.Tryz.globs, List.mem_cons, List.mem_nil_iff, or_false] at hx'
  rcases hx' with rfl | rfl | rfl | rfl | rfl
  · exact fin 0 _ k0
  · exact fin 1 _ k1
  · exact fin 2 _ k2
  · exact fin 3 _ k3
  · exact fin 4 _ k4
end Go.Proofs.YtdkejaijokbinaaGreatDoor
end

section
namespace Go.Proofs.YtdkejaijokbinaaGreatDoor
open Go.ChangeShapes Go.WideShapes Go.RowKit Vm Vm.Tryz Vm.Fu

theorem keptBut_of_chg {w w' : World} (h : Chg (fun _ => False) w w') (p : MemPlace → Prop) : w.keptBut w' p := by
  refine ⟨h.os, h.output, fun i hi => ?_⟩
  rw [h.block i hi (fun x => x)]
  cases hh : w.heap[i]? with
  | none => rfl
  | some o => cases o <;> first | rfl | exact ⟨rfl, rfl, rfl, fun _ _ => rfl⟩ | exact .inr ⟨rfl, rfl⟩

theorem below_of_chg {w w' : World} (h : Chg (fun _ => False) w w') : Below w.heap.size w w' :=
  ⟨h.os, h.tape, h.output, h.size, fun k hk => h.block k hk (fun x => x)⟩

theorem laidOut : laidOutB Tryz.prog = true := by kernel_rfl
set_option maxRecDepth 100000 in
theorem rec37 : Tryz.prog.readableRec 37 = true := by kernel_rfl
theorem sz37 : 37 < Tryz.prog.types.size := of_decide_eq_true (by kernel_rfl)

theorem formed_struct {P : Program} {t : TypeId} {fs : Array Field} (hu : P.underlying t = some (.struct fs)) {W : World} {r : Reach} {b : Nat} {v : Value} (h : Value.okWide P W r b t v) : v.formed P t = true := by
  unfold Value.okWide at h
  rw [hu] at h
  obtain ⟨cs, rfl, hs, _⟩ := h
  unfold Value.formed
  rw [hu]
  simp [hs]

/-- The call in a world of the row's. -/
theorem called {H : Type} {enc : TypeId × Value → H} {W : World} {t0 : Value} {d0 : DataW H} {p0 : List MemPlace} {a b : Int}
    (hl : laidMetH Tryz.prog Rows.toldReadsRow.laid W) (hs : W.ShapedOpen Tryz.prog)
    (hok : t0.formed Tryz.prog 37 = true) (h0 : DataW.Trod enc Tryz.prog W 0 (fun _ => true) true 37 t0 d0 p0) (ha : (Lit.int .i64 a).wf = true) (hb : (Lit.int .i64 b).wf = true) :
    Calls Tryz.prog 3 #[t0, .int .i64 a, .int .i64 b] W fun e W' => e = .returned (.bool true) ∧ Chg (fun _ => False) W W' := by
  have hg := glob_of hl hs
  obtain ⟨x, hx1, hx2⟩ := rdLay_sound (S := GG) (w := W) (M := fun _ => False) (fun _ h => h) lay37 hok h0
  have hval := tenantV_of x hx2
  have hspec := Vm.Fu.toldReads_true (unTenant x) hval a b (wf_I64 ha) (wf_I64 hb)
  have hF : ((fun (d : DL [L37, L2, L2]) => (Vm.Fu.fuseelaw43_ToldReads (unTenant d.1) d.2.1.1 d.2.2.1.1).map (fun r => (((r, ()), ()) : DL [L4]))) (x, (a, ()), (b, ()), ())) = some ((true, ()), ()) := by
    show (Vm.Fu.fuseelaw43_ToldReads (unTenant x) a b).map _ = _
    rw [hspec]; rfl
  refine (ok3 _ _ hF W (fun _ => False) [t0, .int .i64 a, .int .i64 b] (fun _ h => h.elim) hg ⟨hx1, k_int .i64 a, k_int .i64 b, trivial⟩).mono ?_
  rintro e W' ⟨us, rfl, hc, hr⟩
  refine ⟨?_, hc⟩
  match us, hr with
  | [u], hr =>
    have := hr.1
    obtain ⟨vs, rfl, hl, hv⟩ := this
    cases hv with
    | cons _ _ u1 u2 q1 q2 q3 =>
      cases q3
      cases q2
      rfl
end Go.Proofs.YtdkejaijokbinaaGreatDoor
end

section
namespace Go.Proofs.YtdkejaijokbinaaGreatDoor
open Go.ChangeShapes Go.WideShapes Go.RowKit Vm Vm.Tryz

theorem handed_both {H : Type} {enc : TypeId × Value → H} {a : Assume} {C : Checked} {os : Os} {f : FuncId} {fn : Func} {s : ChangeSpec} {conds : List PathCond} {apart fresh handsOn again : Bool} {X : World → Array Value → Prop}
    (hX : ∀ (w w' : World) (args : Array Value), w.heap = w'.heap → X w args → X w' args)
    (own : ownKnob C.prog.godebug = none) (started : os.Started) (noInit : C.prog.inits.idxOf? f = none) (hfn : C.prog.funcs[f]? = some fn)
    (witness : ∃ (w : World) (tape : Tape) (i : Input), w.os = os ∧ (w.forCall tape i).Shaped C.prog ∧ i.vars = [] ∧ Input.okWide C.prog (w.forCall tape i) .any w.heap.size f i ∧
      ((s.pre enc C.prog fn conds apart (w.forCall tape i).memory i.args ∧ X (w.forCall tape i).memory i.args) ∧ sizedMet enc C.prog fn (OpenSpec.ofChange s) apart (w.forCall tape i).memory i.args) ∧ a.holds C.prog (lone (Frame.enter C.prog f i.args .normal) [] (w.forCall tape i)))
    (contract : ∀ (W : World) (base : Nat) (args : Array Value) (ds gs : List (DataW H)) (before : List MemPlace),
      (∀ (j : Nat) t v, fn.params[j]? = some t → args[j]? = some v → Value.okWide C.prog W .any base t v) →
      DataW.Whole enc C.prog fn.params.toList s.vars apart W args.toList ds gs before →
      X W args → W.ShapedOpen C.prog →
      Calls C.prog f args W fun e W' => ∃ v, e = .returned v ∧ s.post enc C.prog fn apart fresh handsOn again W args v W') :
    ReturnsInHanded a C os f .any (fun w args => (s.pre enc C.prog fn conds apart w args ∧ X w args) ∧ sizedMet enc C.prog fn (OpenSpec.ofChange s) apart w args) (s.post enc C.prog fn apart fresh handsOn again) := by
  refine returnsInHanded_of_calls own started noInit witness ?_
  intro w tape i _ hsh _ hok hpre hholds
  obtain ⟨_, _, _, fn', hfn', _, _, _, _, hval⟩ := hok
  have e : fn' = fn := Option.some.inj (hfn'.symm.trans hfn)
  subst e
  obtain ⟨⟨⟨ds, gs, before, hw, hc⟩, hx⟩, hz⟩ := hpre
  have hw' := DataW.Whole.of_heap (w' := w.forCall tape i) (by rfl) hw
  refine (contract (w.forCall tape i) w.heap.size i.args ds gs before hval hw' (hX _ _ _ (by rfl) hx) hsh).mono fun e W' ⟨v, he, hp⟩ => ?_
  subst he
  exact ChangeSpec.post_blind hp

def wArgs : Array Value := #[.agg #[.string ⟨#[]⟩, .int .u8 0, .int .u8 0, .int .u8 0, .int .u8 0, .int .u8 0, .int .u8 0, .int .u8 0, .int .u8 0, .int .u8 0, .int .u8 0, .int .u8 0, .int .u8 0, .int .u8 0, .int .u8 0, .int .u8 0, .int .u8 0,
  .int .i64 0, .int .i64 0, .int .i64 0, .int .i64 0, .int .i64 0, .int .i64 0, .bool false, .string ⟨#[]⟩, .int .i64 0, .slice none 0 0, .bool false, .int .i64 0, .int .i64 0, .bool false, .int .i64 0, .int .i64 0], .int .i64 0, .int .i64 0]

theorem lit_shaped (os : Os) : ((litWorld os).forCall (fun _ _ => 0) ⟨#[], wArgs, []⟩).Shaped Tryz.prog := World.shaped_of_RefB (by kernel_rfl) (by kernel_rfl)
theorem lit_ok (os : Os) : Input.okWideB Tryz.prog ((litWorld os).forCall (fun _ _ => 0) ⟨#[], wArgs, []⟩) 3 ⟨#[], wArgs, []⟩ = true := by kernel_rfl

set_option maxRecDepth 100000 in
theorem row_lifted (os : Os) (started : os.Started) (H : Type) (enc : TypeId × Value → H) :
    ReturnsInHanded {} Tryz.checked os 3 .any (fun w args => (Rows.toldReadsSpec.pre enc Tryz.prog Tryz.f3 [] false w args ∧ laidMetH Tryz.prog Rows.toldReadsRow.laid w) ∧ sizedMet enc Tryz.prog Tryz.f3 (OpenSpec.ofChange Rows.toldReadsSpec) false w args)
      (Rows.toldReadsSpec.post enc Tryz.prog Tryz.f3 false true false false) := by
  refine handed_both (C := Tryz.checked) (X := fun w _ => laidMetH Tryz.prog Rows.toldReadsRow.laid w) (fun _ _ _ hh h => h.of_heap hh) Tryz.own started (by kernel_rfl) Tryz.func3
    (ChangeSpec.witness_shaped (enc := enc) (C := Tryz.checked) (os := os) (X := fun w _ => laidMetH Tryz.prog Rows.toldReadsRow.laid w) false (litWorld os) wArgs 8 rfl (lit_shaped os) (lit_ok os) (by kernel_rfl) (by kernel_rfl) (lit_met os _)) ?_
  intro W base args ds gs before hval0 hW hL hS
  have hval : ∀ (j : Nat) t v, Tryz.f3.params[j]? = some t → args[j]? = some v → Value.okWide Tryz.prog W .any base t v := hval0
  have hW' := hW
  have hlt : ∀ p, p ∈ before → p.block < W.heap.size := fun p hp => hW.lt p hp
  obtain ⟨p, q, hA0, hV, rfl, hfz, hnd⟩ := hW
  have hA : DataW.TrodAll enc Tryz.prog W 0 (fun _ => true) true Tryz.f3.params.toList args.toList ds p := hA0
  rw [Tryz.params3] at hA hval
  obtain ⟨v0, v1, v2, d0, d1, d2, p0, p1, p2, rfl, rfl, rfl, h0, h1, h2⟩ := trodAll_three hA
  obtain ⟨rfl, rfl⟩ := trodVars_none hV
  obtain ⟨a, rfl, rfl, rfl, wa⟩ := open_int Tryz.underlying2 (hval 1 2 v1 rfl rfl) h1
  obtain ⟨b, rfl, rfl, rfl, wb⟩ := open_int Tryz.underlying2 (hval 2 2 v2 rfl rfl) h2
  have hform := formed_struct Tryz.underlying37 (hval 0 37 v0 rfl rfl)
  refine (called hL hS hform h0 wa wb).mono fun e W' hh => ?_
  obtain ⟨rfl, hc⟩ := hh
  have hp0 : ∀ x, x ∈ p0 → x.block < W.heap.size := fun x hx => hlt x (by simp [hx])
  have k0 := Below.trod laidOut rec37 sz37 h0 (below_of_chg hc) hp0
  refine ⟨_, rfl, _, _, _, [], p0, [], hW', ?_, ?_, ?_, keptBut_of_chg hc _, fun h => by cases h⟩
  · exact trodAll_mk1 (shut_bool Tryz.underlying4 true)
  · have := trodAll_mk3 k0 (shut_int (enc := enc) (w := W') (base := 0) (spare := fun b => decide (b < W.heap.size)) (held := true) Tryz.underlying2 wa) (shut_int (enc := enc) (w := W') (base := 0) (spare := fun b => decide (b < W.heap.size)) (held := true) Tryz.underlying2 wb)
    rw [List.append_nil, List.append_nil] at this
    exact this
  · rfl

theorem row_holds : Rows.ToldReadsSaid :=
  OpenClaim.holds_of_wide 3 Tryz.f3 rfl rfl rfl rfl rfl rfl rfl ⟨rfl, rfl, rfl, rfl, rfl⟩ rfl rfl rfl rfl rfl (by kernel_rfl) Tryz.func3 (by kernel_rfl)
    (of_decide_eq_true (by kernel_rfl)) (by unfold Func.isWrapper; rw [if_neg (of_decide_eq_false (by kernel_rfl))]; exact ⟨rfl, rfl⟩)
    (fun os started H enc _ => row_lifted os started H enc)
end Go.Proofs.YtdkejaijokbinaaGreatDoor
end
