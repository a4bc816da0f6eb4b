/- The machine answers each instruction as the model does (parts L to T); no conditions. -/
import Derived.Test.YtdkejaijokbinaaGreatDoorVmA
import Derived.Laws.Strings
import Derived.Laws.StructEq
import Derived.Laws.Append
import Derived.Laws.Tables
import Derived.DataShut
import Derived.Lib.ConvBytes
import Derived.Laws.BytesString
import Derived.Laws.MakeOwn
import Derived.Laws.Slices
set_option linter.all false

section
namespace Vm
open Go
variable {S : Sig} {R : Type} {P : Program} [Prog S] {st : St S} {o : Oper}

theorem fc_rel {X : Cx S} {c : FC S} {v : Value} (h : RelF X.w X.M c [v]) (hs : (Cell.f c).isSc = true) : RelP X (.e (.sc (.f c))) v := ⟨.f _ _ h, hs⟩

/-- The common end of what yields one pure cell. -/
theorem OpTr.fc {c : FC S} (hs : (Cell.f c).isSc = true)
    (h : ∀ (X : Cx S) (a : Act), WF X → Knows X st (tmpsOf o.op.operands.toList) a → ∃ v, (execOp a.eval o).run P X.w = .ok (.value v) X.w ∧ RelF X.w X.M c [v]) :
    EffOk st (⟨.e (.sc (.f c)), [], [], st.hp, st.nx⟩ : Eff S) ∧ OpTr P st o ⟨.e (.sc (.f c)), [], [], st.hp, st.nx⟩ :=
  OpTr.val fun X a hX hk _ => let ⟨v, h1, h2⟩ := h X a hX hk; ⟨v, h1, fc_rel h2 hs⟩

section bin
variable {op : BinOp} {xt yt : TypeId} {x y : Operand} (ho : o.op = .binOp op xt x y yt)
include ho

theorem ev_x {p : PV S} (hx : ev st x = some p) {X : Cx S} {a : Act} (hk : Knows X st (tmpsOf o.op.operands.toList) a) : RelP X p (a.eval x) :=
  ev_sound hx hk (fun t' e => by rw [ho]; subst e; simp [Op.operands, tmpsOf])
theorem ev_y {p : PV S} (hy : ev st y = some p) {X : Cx S} {a : Act} (hk : Knows X st (tmpsOf o.op.operands.toList) a) : RelP X p (a.eval y) :=
  ev_sound hy hk (fun t' e => by rw [ho]; subst e; exact mem_tmps1 (by simp [Op.operands]) t' rfl)

theorem op_binInt {k : IntKind} {m n : Int} (hx : ev st x = some (.e (.sc (.f (.int k m))))) (hy : ev st y = some (.e (.sc (.f (.int k n))))) (h1 : op ≠ .shl) (h2 : op ≠ .shr) {K : FC S → Option R} {r : R}
    (h : binInt op k m n K = some r) : ∃ c, K c = some r ∧ EffOk st (⟨.e (.sc (.f c)), [], [], st.hp, st.nx⟩ : Eff S) ∧ OpTr P st o ⟨.e (.sc (.f c)), [], [], st.hp, st.nx⟩ := by
  have ex := fun (X : Cx S) (a : Act) hk => rel_int (ev_x (X := X) (a := a) ho hx hk)
  have ey := fun (X : Cx S) (a : Act) hk => rel_int (ev_y (X := X) (a := a) ho hy hk)
  unfold binInt at h
  split at h
  all_goals first
    | exact absurd rfl h1
    | exact absurd rfl h2
    | (simp at h; done)
    | (refine ⟨_, h, OpTr.fc rfl fun X a hX hk => ⟨_, ?_, by first | exact .int _ _ | exact .bool _⟩⟩
       simp [execOp, ho, ex X a hk, ey X a hk, eqGuard, Go.binOp, Op.intArith, Op.intBits, Op.intCmp]; done)
    | (cases hd : decide (n = 0) with
       | true => simp [hd] at h
       | false =>
         simp only [hd, cond_false] at h
         have hd := of_decide_eq_false hd
         refine ⟨_, h, OpTr.fc rfl fun X a hX hk => ⟨_, ?_, .int _ _⟩⟩
         simp [execOp, ho, ex X a hk, ey X a hk, eqGuard, Go.binOp, Op.intDiv, hd])

theorem op_shift {k k' : IntKind} {m n : Int} (hx : ev st x = some (.e (.sc (.f (.int k m))))) (hy : ev st y = some (.e (.sc (.f (.int k' n))))) (h1 : op = .shl ∨ op = .shr) {K : FC S → Option R} {r : R}
    (h : shiftInt op k m n K = some r) : ∃ c, K c = some r ∧ EffOk st (⟨.e (.sc (.f c)), [], [], st.hp, st.nx⟩ : Eff S) ∧ OpTr P st o ⟨.e (.sc (.f c)), [], [], st.hp, st.nx⟩ := by
  have ex := fun (X : Cx S) (a : Act) hk => rel_int (ev_x (X := X) (a := a) ho hx hk)
  have ey := fun (X : Cx S) (a : Act) hk => rel_int (ev_y (X := X) (a := a) ho hy hk)
  unfold shiftInt at h
  cases hd : decide (n < 0) with
  | true => simp [hd] at h
  | false =>
    simp only [hd, cond_false] at h
    have hd := of_decide_eq_false hd
    rcases h1 with rfl | rfl
    · refine ⟨_, h, OpTr.fc rfl fun X a hX hk => ⟨_, ?_, .int _ _⟩⟩
      simp [execOp, ho, ex X a hk, ey X a hk, eqGuard, Go.binOp, Op.shift, hd]
    · refine ⟨_, h, OpTr.fc rfl fun X a hX hk => ⟨_, ?_, .int _ _⟩⟩
      simp [execOp, ho, ex X a hk, ey X a hk, eqGuard, Go.binOp, Op.shift, hd]

theorem op_binStr {m n : List UInt8} (hx : ev st x = some (.e (.sc (.f (.str m))))) (hy : ev st y = some (.e (.sc (.f (.str n))))) {K : FC S → Option R} {r : R}
    (h : binStr op m n K = some r) : ∃ c, K c = some r ∧ EffOk st (⟨.e (.sc (.f c)), [], [], st.hp, st.nx⟩ : Eff S) ∧ OpTr P st o ⟨.e (.sc (.f c)), [], [], st.hp, st.nx⟩ := by
  have ex := fun (X : Cx S) (a : Act) hk => rel_str (ev_x (X := X) (a := a) ho hx hk)
  have ey := fun (X : Cx S) (a : Act) hk => rel_str (ev_y (X := X) (a := a) ho hy hk)
  unfold binStr at h
  split at h
  · cases hd : Nat.ble (m.length + n.length) 9223372036854775807 with
    | false => rw [hd] at h; simp at h
    | true =>
      simp only [hd, cond_true] at h
      have hd := Nat.le_of_ble_eq_true hd
      refine ⟨_, h, OpTr.fc rfl fun X a hX hk => ⟨_, ?_, .str (m ++ n)⟩⟩
      have : ¬ ((m.length : Int) + n.length > 9223372036854775807) := by omega
      have e : (⟨m.toArray⟩ ++ ⟨n.toArray⟩ : ByteArray) = ⟨(m ++ n).toArray⟩ := by
        apply ByteArray.ext; simp
      simp only [execOp, ho, ex X a hk, ey X a hk, eqGuard, Go.binOp, Op.stringOp, ByteArray.size]
      have h64 : IntKind.i64.max = 9223372036854775807 := by decide
      simp [h64, this, e]
  all_goals first
    | (simp at h; done)
    | (refine ⟨_, h, OpTr.fc rfl fun X a hX hk => ⟨_, ?_, .bool _⟩⟩
       simp [execOp, ho, ex X a hk, ey X a hk, eqGuard, Go.binOp, Op.stringOp]; done)


omit ho in
theorem run_equal_bool {t : TypeId} (h : P.underlying t = some .bool) (m n : Bool) (w : World) : (Op.equal t (.bool m) (.bool n)).run P w = .ok (m == n) w := by
  have key : ∀ d, (Op.equalIn (d + 1) t (.bool m) (.bool n)).run P w = .ok (m == n) w := fun d => by simp [Op.equalIn, run_underlying h]
  exact key 9999

omit ho in
theorem run_equal_nilnil {t : TypeId} {ms : Array (String × TypeId)} (h : P.underlying t = some (.interface ms)) (w : World) : (Op.equal t .nilIface .nilIface).run P w = .ok true w := by
  have key : ∀ d, (Op.equalIn (d + 1) t .nilIface .nilIface).run P w = .ok true w := fun d => by simp [Op.equalIn, run_underlying h]
  exact key 9999

omit ho in
theorem run_equal_someNil {t e : TypeId} {v : Value} {ms : Array (String × TypeId)} (h : P.underlying t = some (.interface ms)) (w : World) : (Op.equal t (.iface e v) .nilIface).run P w = .ok false w := by
  have key : ∀ d, (Op.equalIn (d + 1) t (.iface e v) .nilIface).run P w = .ok false w := fun d => by simp [Op.equalIn, run_underlying h]
  exact key 9999

theorem op_binBool {m n : Bool} (hx : ev st x = some (.e (.sc (.f (.bool m))))) (hy : ev st y = some (.e (.sc (.f (.bool n))))) (h4 : P.underlying xt = some .bool) (h : op = .eql ∨ op = .neq) :
    EffOk st (⟨.e (.sc (.f (.bool (if op = .eql then m == n else !(m == n))))), [], [], st.hp, st.nx⟩ : Eff S) ∧ OpTr P st o ⟨.e (.sc (.f (.bool (if op = .eql then m == n else !(m == n))))), [], [], st.hp, st.nx⟩ := by
  have ex := fun (X : Cx S) (a : Act) hk => rel_bool (ev_x (X := X) (a := a) ho hx hk)
  have ey := fun (X : Cx S) (a : Act) hk => rel_bool (ev_y (X := X) (a := a) ho hy hk)
  rcases h with rfl | rfl
  · refine OpTr.fc rfl fun X a hX hk => ⟨_, ?_, .bool _⟩
    simp only [execOp, ho, ex X a hk, ey X a hk, eqGuard, Go.binOp, Sem.run_bind, run_equal_bool h4, Result.andThen_ok, Sem.run_pure, if_true]
    rfl
  · refine OpTr.fc rfl fun X a hX hk => ⟨_, ?_, .bool _⟩
    simp only [execOp, ho, ex X a hk, ey X a hk, eqGuard, Go.binOp, Sem.run_bind, run_equal_bool h4, Result.andThen_ok, Sem.run_pure]
    rfl

theorem op_binErr {e : Option Int} {ms : Array (String × TypeId)} (hx : ev st x = some (.e (.sc (.f (.err e))))) (hy : ev st y = some (.e (.sc (.f (.err none))))) (hc : isConst y = true) (h4 : P.underlying xt = some (.interface ms))
    (h : op = .eql ∨ op = .neq) :
    EffOk st (⟨.e (.sc (.f (.bool (if op = .eql then e.isNone else !e.isNone)))), [], [], st.hp, st.nx⟩ : Eff S) ∧ OpTr P st o ⟨.e (.sc (.f (.bool (if op = .eql then e.isNone else !e.isNone)))), [], [], st.hp, st.nx⟩ := by
  have ex := fun (X : Cx S) (a : Act) hk => rel_err (ev_x (X := X) (a := a) ho hx hk)
  have ey := fun (X : Cx S) (a : Act) hk => rel_err (ev_y (X := X) (a := a) ho hy hk)
  obtain ⟨v, rfl⟩ : ∃ v, y = .const v := by cases y <;> first | exact ⟨_, rfl⟩ | simp [isConst] at hc
  have key : ∀ (X : Cx S) (a : Act), Knows X st (tmpsOf o.op.operands.toList) a → (a.eval (.const v)) = .nilIface ∧ ((Op.equal xt (a.eval x) .nilIface).run P X.w = .ok e.isNone X.w) ∧ (eqGuard op xt x (.const v) (a.eval x) .nilIface).run P X.w = .ok () X.w := by
    intro X a hk
    have h2 : a.eval (.const v) = .nilIface := by
      rcases ey X a hk with ⟨_, h⟩ | ⟨n, t, u, h, _⟩
      · exact h
      · cases h
    refine ⟨h2, ?_⟩
    rcases ex X a hk with ⟨he, h1⟩ | ⟨n, t, u, he, h1⟩
    · subst he
      rw [h1]
      exact ⟨run_equal_nilnil h4 X.w, by cases op <;> simp [eqGuard]⟩
    · subst he
      rw [h1]
      exact ⟨run_equal_someNil h4 X.w, by cases op <;> simp [eqGuard]⟩
  have hb : ∀ (X : Cx S) (a : Act), Knows X st (tmpsOf o.op.operands.toList) a → (a.eval x = .nilIface ∨ ∃ t u, a.eval x = .iface t u) := by
    intro X a hk
    rcases ex X a hk with ⟨_, h1⟩ | ⟨n, t, u, _, h1⟩
    · exact .inl h1
    · exact .inr ⟨t, u, h1⟩
  rcases h with rfl | rfl
  · refine OpTr.fc rfl fun X a hX hk => ⟨_, ?_, .bool _⟩
    obtain ⟨k1, k2, k3⟩ := key X a hk
    rcases hb X a hk with h1 | ⟨t, u, h1⟩ <;> rw [h1] at k2 k3 <;>
      (simp only [execOp, ho, h1, k1, Go.binOp, Sem.run_bind, k3, k2, Result.andThen_ok, Sem.run_pure]; simp)
  · refine OpTr.fc rfl fun X a hX hk => ⟨_, ?_, .bool _⟩
    obtain ⟨k1, k2, k3⟩ := key X a hk
    rcases hb X a hk with h1 | ⟨t, u, h1⟩ <;> rw [h1] at k2 k3 <;>
      (simp only [execOp, ho, h1, k1, Go.binOp, Sem.run_bind, k3, k2, Result.andThen_ok, Sem.run_pure]; simp)

end bin
end Vm
end

section
namespace Vm
open Go
variable {S : Sig} {R : Type} {P : Program} [Prog S] {st : St S} {o : Oper}

theorem op_un {op : UnOp} {t : TypeId} {x : Operand} (ho : o.op = .unOp op t x) {p : PV S} (hx : ev st x = some p) {K : PV S → Option R} {r : R} (h : unK op p K = some r) :
    ∃ q, K q = some r ∧ EffOk st (⟨q, [], [], st.hp, st.nx⟩ : Eff S) ∧ OpTr P st o ⟨q, [], [], st.hp, st.nx⟩ := by
  have ex := fun (X : Cx S) (a : Act) (hk : Knows X st (tmpsOf o.op.operands.toList) a) => ev_sound (X := X) (a := a) hx hk (fun t' e => by rw [ho]; subst e; simp [Op.operands, tmpsOf])
  unfold unK at h
  split at h
  · refine ⟨_, h, OpTr.fc rfl fun X a hX hk => ⟨_, ?_, .bool _⟩⟩
    simp [execOp, ho, rel_bool (ex X a hk), Op.unary]
  · refine ⟨_, h, OpTr.fc rfl fun X a hX hk => ⟨_, ?_, .int _ _⟩⟩
    simp [execOp, ho, rel_int (ex X a hk), Op.unary, Op.intArith]
  · refine ⟨_, h, OpTr.fc rfl fun X a hX hk => ⟨_, ?_, .int _ _⟩⟩
    simp [execOp, ho, rel_int (ex X a hk), Op.unary, Op.intBits]
  · simp at h

theorem op_convInt [TabOk (S := S) P] {s t : TypeId} {x : Operand} (ho : o.op = .convert s t x) {k k' : IntKind} {n : Int} (hx : ev st x = some (.e (.sc (.f (.int k' n))))) (ht : Tab.at (Prog.tab : Tab S) t = .sc (.int k)) (hs : ∃ d, P.underlying s = some d) :
    EffOk st (⟨.e (.sc (.f (.int k (k.wrap n)))), [], [], st.hp, st.nx⟩ : Eff S) ∧ OpTr P st o ⟨.e (.sc (.f (.int k (k.wrap n)))), [], [], st.hp, st.nx⟩ := by
  have hl := TabOk.ok (S := S) (P := P) t
  rw [ht] at hl
  obtain ⟨_, i, d, z, _, _, _, _, _, _, _, hu⟩ := hl
  obtain ⟨ds, hs⟩ := hs
  have hu : P.underlying t = some (.int k) := hu
  refine OpTr.fc rfl fun X a hX hk => ⟨_, ?_, .int _ _⟩
  have ex := rel_int (ev_sound (X := X) (a := a) hx hk (fun t' e => by rw [ho]; subst e; simp [Op.operands, tmpsOf]))
  simp [execOp, ho, ex, convert, run_underlying hu, run_underlying hs, Conv.intToInt]

theorem op_convStr [TabOk (S := S) P] {s t : TypeId} {x : Operand} (ho : o.op = .convert s t x) {l : List UInt8} (hx : ev st x = some (.e (.sc (.f (.str l))))) (ht : Tab.at (Prog.tab : Tab S) t = .sc .str) (hs : ∃ d, P.underlying s = some d) :
    EffOk st (⟨.e (.sc (.f (.str l))), [], [], st.hp, st.nx⟩ : Eff S) ∧ OpTr P st o ⟨.e (.sc (.f (.str l))), [], [], st.hp, st.nx⟩ := by
  have hl := TabOk.ok (S := S) (P := P) t
  rw [ht] at hl
  obtain ⟨_, i, d, z, _, _, _, _, _, _, _, hu⟩ := hl
  obtain ⟨ds, hs⟩ := hs
  have hu : P.underlying t = some .string := hu
  refine OpTr.fc rfl fun X a hX hk => ⟨_, ?_, .str _⟩
  have ex := rel_str (ev_sound (X := X) (a := a) hx hk (fun t' e => by rw [ho]; subst e; simp [Op.operands, tmpsOf]))
  simp [execOp, ho, ex, convert, run_underlying hu, run_underlying hs]

theorem op_mkIface {t : TypeId} {x : Operand} (ho : o.op = .makeInterface t x) {n : Int} (hx : ev st x = some (.e (.sc (.f (.int .i64 n))))) (ht : t = S.errT) (hu : P.underlying t = some (.int .i64)) :
    EffOk st (⟨.e (.sc (.f (.err (some n)))), [], [], st.hp, st.nx⟩ : Eff S) ∧ OpTr P st o ⟨.e (.sc (.f (.err (some n)))), [], [], st.hp, st.nx⟩ := by
  refine OpTr.fc rfl fun X a hX hk => ⟨_, ?_, .err _⟩
  have ex := rel_int (ev_sound (X := X) (a := a) hx hk (fun t' e => by rw [ho]; subst e; simp [Op.operands, tmpsOf]))
  subst ht
  simp [execOp, ho, ex, Instr.makeInterface, run_underlying hu, errV]

theorem ptrsOf_sound {X : Cx S} : ∀ {ps : List (PV S)} {bs : List Nat} {vs : List Value}, ptrsOf ps = some bs → RelPL X ps vs → ptrs X bs vs
  | [], bs, vs, h, hr => by
    simp [ptrsOf] at h; subst h; cases hr; trivial
  | p :: ps, bs, vs, h, hr => by
    unfold ptrsOf at h
    split at h
    · rename_i h0; simp at h0
    · rename_i b ps' heq
      cases heq
      cases h1 : ptrsOf ps with
      | none => simp [h1] at h
      | some l =>
        simp only [h1, Option.some.injEq] at h
        subst h
        cases hr with
        | cons hp hr =>
          obtain ⟨hp, _⟩ := hp
          cases hp with
          | ptr _ _ r n cs z g1 g2 => exact ⟨⟨r, n, cs, z, g1, g2, rfl⟩, ptrsOf_sound h1 hr⟩
    · simp at h

theorem op_mkFunc {f : FuncId} {first caps : Array Operand} (ho : o.op = .makeFunc (.func f) first caps) (hf : first.toList = []) {ps : List (PV S)} (hp : evs st caps.toList = some ps) {bs : List Nat} (hb : ptrsOf ps = some bs) :
    EffOk st (⟨.e (.sc (.clo f bs)), [], [], st.hp, st.nx⟩ : Eff S) ∧ OpTr P st o ⟨.e (.sc (.clo f bs)), [], [], st.hp, st.nx⟩ := by
  refine OpTr.val fun X a hX hk _ => ?_
  have hr := evs_sound (X := X) (a := a) hk hp (fun t ht => by rw [ho]; simp only [Op.operands, Array.toList_append, hf, List.nil_append]; exact ht)
  have hff : first = #[] := by
    cases first; simp at hf; subst hf; rfl
  refine ⟨.func (.func f) #[] (caps.map a.eval), by simp [execOp, ho, Instr.makeFunc, hff], ?_, rfl⟩
  have := RelC.clo f bs _ (ptrsOf_sound hb hr)
  have e : (caps.toList.map a.eval).toArray = caps.map a.eval := by apply Array.ext'; simp
  rwa [e] at this

theorem op_len [TabOk (S := S) P] {c : Call} (ho : o.op = .call c) (hb : c.callee = .builtin .len) {x : Cell S} (hx : evs st c.args.toList = some [.e (.sc x)]) {n : Int} {rd : List Nat}
    (hl : lenC st.hp (match c.argTypes.toList with | t :: _ => Tab.at (Prog.tab : Tab S) t | [] => .none) x = some (n, rd)) :
    EffOk st (⟨intPV n, rd, [], st.hp, st.nx⟩ : Eff S) ∧ OpTr P st o ⟨intPV n, rd, [], st.hp, st.nx⟩ := by
  refine OpTr.val fun X a hX hk hrd => ?_
  have hr := evs_sound (X := X) (a := a) hk hx (fun t ht => by rw [ho]; simp only [Op.operands, Call.operands, hb, Array.toList_append, List.nil_append]; exact ht)
  have hargs : ∃ v, c.args.map a.eval = #[v] ∧ RelC X x [v] := by
    generalize hl' : c.args.toList.map a.eval = vs at hr
    cases hr with
    | cons hp hr =>
      cases hr
      rename_i v
      exact ⟨v, by apply Array.ext'; simpa using hl', hp.1⟩
  obtain ⟨v, hv1, hv2⟩ := hargs
  cases hat : c.argTypes.toList with
  | nil => rw [hat] at hl; simp [lenC] at hl
  | cons t0 ts =>
  rw [hat] at hl
  simp only at hl
  have hget : c.argTypes[0]? = some t0 := by
    rw [← Array.getElem?_toList, hat]; rfl
  have hlay := TabOk.ok (S := S) (P := P) t0
  generalize Tab.at (Prog.tab : Tab S) t0 = l at hl hlay
  have hstr : ∀ s, l = .sc .str → v = .string s → (execOp a.eval o).run P X.w = .ok (.value (.int .i64 s.size)) X.w := by
    intro s e1 e2
    subst e1
    obtain ⟨_, i, d, z, _, _, _, _, _, _, _, hu⟩ := hlay
    have hu : P.underlying t0 = some .string := hu
    simp [execOp, ho, resolve, hb, invoke, builtin, Builtin.len_, hget, hv1, e2, run_underlying hu, goInt]
  have hsl : ∀ k b m q, l = .sl k → v = .slice b m q → (execOp a.eval o).run P X.w = .ok (.value (.int .i64 m)) X.w := by
    intro k b m q e1 e2
    subst e1
    obtain ⟨i, e, ei, ze, _, _, hu, _⟩ := hlay
    simp [execOp, ho, resolve, hb, invoke, builtin, Builtin.len_, hget, hv1, e2, run_underlying hu, goInt]
  have fin : ∀ m : Int, (execOp a.eval o).run P X.w = .ok (.value (.int .i64 m)) X.w → m = n → ∃ v, (execOp a.eval o).run P X.w = .ok (.value v) X.w ∧ RelP X (intPV n) v := by
    intro m h e; subst e; exact ⟨_, h, .f _ _ (.int _ _), rfl⟩
  unfold lenC at hl
  split at hl
  · rename_i s
    obtain ⟨e1, e2⟩ : (s.length : Int) = n ∧ [] = rd := by simpa using hl
    have := rel_str (X := X) ⟨hv2, rfl⟩
    exact fin _ (hstr _ rfl this) (by simpa [ByteArray.size] using e1)
  · rename_i k k' L
    obtain ⟨e1, e2⟩ : (L.length : Int) = n ∧ [] = rd := by simpa using hl
    cases hv2 with
    | f _ _ h =>
      cases h with
      | sl0 => exact fin _ (hsl _ _ _ _ rfl rfl) (by simpa using e1)
      | sl => exact fin _ (hsl _ _ _ _ rfl rfl) e1
  · obtain ⟨e1, e2⟩ : (0 : Int) = n ∧ [] = rd := by simpa using hl
    cases hv2 with
    | nilsl => exact fin _ (hsl _ _ _ _ rfl rfl) e1
  · rename_i k b off k' lo hi
    obtain ⟨e1, e2⟩ : ((hi - lo : Nat) : Int) = n ∧ [] = rd := by simpa using hl
    cases hv2 with
    | asl => exact fin _ (hsl _ _ _ _ rfl rfl) e1
  · rename_i k b ver
    split at hl <;> try (simp at hl; done)
    rename_i k' L ver' z hlk
    cases hv : Nat.beq ver ver' with
    | false => simp [hv] at hl
    | true =>
      simp only [hv, cond_true, Option.some.injEq, Prod.mk.injEq] at hl
      obtain ⟨e1, e2⟩ := hl
      subst e2
      have hv := Nat.eq_of_beq_eq_true hv
      have hb' := (hrd b (by simp)).trans hlk
      cases hv2 with
      | live _ _ k2 L2 v2 z2 _ g1 g2 g3 g4 =>
        rw [hb'] at g1; cases g1
        have g3 := g3 hv
        unfold liveAt at g3
        cases hg : X.g b with
        | none =>
          rw [hg] at g3
          obtain ⟨h1, q, h2⟩ := g3
          subst h1
          exact fin _ (hsl _ _ _ _ rfl h2) (by simpa using e1)
        | some p =>
          obtain ⟨r, cap⟩ := p
          rw [hg] at g3
          exact fin _ (hsl _ _ _ _ rfl g3) e1
  · simp at hl

theorem args2 {X : Cx S} {a : Act} {c : Call} {p q : PV S} (hr : RelPL X [p, q] (c.args.toList.map a.eval)) : ∃ u v, c.args.map a.eval = #[u, v] ∧ RelP X p u ∧ RelP X q v := by
  generalize hl' : c.args.toList.map a.eval = vs at hr
  cases hr with
  | @cons _ u _ _ hp hr =>
    cases hr with
    | @cons _ v _ _ hq hr =>
      cases hr
      exact ⟨u, v, by apply Array.ext'; simpa using hl', hp, hq⟩

theorem call_args {X : Cx S} {a : Act} {c : Call} (ho : o.op = .call c) {b : Builtin} (hb : c.callee = .builtin b) {ps : List (PV S)} (hx : evs st c.args.toList = some ps) (hk : Knows X st (tmpsOf o.op.operands.toList) a) :
    RelPL X ps (c.args.toList.map a.eval) :=
  evs_sound (X := X) (a := a) hk hx (fun t ht => by rw [ho]; simp only [Op.operands, Call.operands, hb, Array.toList_append, List.nil_append]; exact ht)

theorem op_minmax {c : Call} (ho : o.op = .call c) {isMin : Bool} (hb : c.callee = .builtin (if isMin then .min else .max)) {k k' : IntKind} {m n : Int} (hx : evs st c.args.toList = some [.e (.sc (.f (.int k m))), .e (.sc (.f (.int k' n)))]) :
    EffOk st (⟨.e (.sc (.f (.int k (if isMin then (if n < m then n else m) else (if n > m then n else m))))), [], [], st.hp, st.nx⟩ : Eff S) ∧
    OpTr P st o ⟨.e (.sc (.f (.int k (if isMin then (if n < m then n else m) else (if n > m then n else m))))), [], [], st.hp, st.nx⟩ := by
  refine OpTr.fc rfl fun X a hX hk => ⟨_, ?_, .int _ _⟩
  obtain ⟨u, v, h1, h2, h3⟩ := args2 (call_args ho hb hx hk)
  have h2 := rel_int h2
  have h3 := rel_int h3
  subst h2; subst h3
  cases isMin
  · simp [execOp, ho, resolve, hb, invoke, builtin, Builtin.max_, Builtin.max2, h1, List.foldlM]
  · simp [execOp, ho, resolve, hb, invoke, builtin, Builtin.min_, Builtin.min2, h1, List.foldlM]

end Vm
end

section
namespace Vm
open Go
variable {S : Sig} {R : Type} {P : Program} [Prog S] {st : St S} {o : Oper}

theorem cellsAt.add {w : World} {r o : Nat} {us : List Value} (h : cellsAt w r o us) : ∀ j v, us[j]? = some v → w.cell? ((⟨r, o, none⟩ : Addr).add j) = some v := by
  intro j v hj; rw [add_addr]; exact h j v hj

/-- A slice's value, and what lies behind it. -/
def Holds (X : Cx S) (k : S.K) (ys : List (S.Ty k)) (v : Value) : Prop :=
  ∃ us, RelEs X.w X.M k ys us ∧ (lenOf v = ys.length) ∧ ∀ P : Program, (Builtin.firstCells (S.es k) ys.length v).run P X.w = .ok us.toArray X.w
where
  lenOf : Value → Nat
    | .slice _ n _ => n
    | .string s => s.size
    | _ => 0

theorem holds_nil {X : Cx S} {k : S.K} {a : Option Addr} {c : Nat} : Holds X k ([] : List (S.Ty k)) (.slice a 0 c) := by
  refine ⟨[], .nil k, rfl, fun P => ?_⟩
  cases a with
  | none => simp [Builtin.firstCells]
  | some a => simp [Builtin.firstCells, loadCells, loadCellsFrom]

theorem holds_sl {X : Cx S} {k : S.K} {L : List (S.Ty k)} {r o c : Nat} {us : List Value} (h1 : cellsAt X.w r o us) (h2 : RelEs X.w X.M k L us) : Holds X k L (.slice (some ⟨r, o, none⟩) L.length c) := by
  refine ⟨us, h2, rfl, fun P => ?_⟩
  simp only [Builtin.firstCells]
  rw [← h2.len]
  exact run_loadCells_list X.w _ us h1.add

theorem holds_live {X : Cx S} (hX : WF X) {b : Nat} {k : S.K} {L : List (S.Ty k)} {ver : Nat} {z : Bool} {v : Value} (hb : X.hp b = some (.arr k L ver z)) (hv : liveAt X b k L v) : Holds X k L v := by
  unfold liveAt at hv
  cases hg : X.g b with
  | none =>
    rw [hg] at hv
    obtain ⟨rfl, a, rfl⟩ := hv
    exact holds_nil
  | some p =>
    obtain ⟨r, cap⟩ := p
    rw [hg] at hv
    simp only at hv
    subst hv
    have hB := hX.blk b _ hb
    simp only [RelB, hg] at hB
    obtain ⟨el, zz, vs, rest, e2, e3, e4, e5, e6⟩ := hB
    exact holds_sl (cellsAt.heap (a := []) (b := rest) (by simpa using e2) rfl) e4

theorem srcOf_cases (hp : List (Nat × Blk S)) (k : S.K) (x : Cell S) : (∃ l, x = .f (.str l)) ∨ srcOf hp k x = dec1C hp (.sl k) x := by
  cases x with
  | f c => cases c <;> first | exact .inl ⟨_, rfl⟩ | exact .inr rfl
  | _ => exact .inr rfl

theorem src_str [TabOk (S := S) P] {X : Cx S} {k : S.K} {l : List UInt8} {ys : List (S.Ty k)} {v : Value} (h : srcOf st.hp k (.f (.str l)) = some ys) (hr : RelC X (.f (.str l)) [v]) : Holds X k ys v := by
  have h : (if h : Prog.byte = k then some (h ▸ (l.map fun b => Prog.ofB (b.toNat : Int))) else none) = some ys := h
  split at h <;> try (simp at h; done)
  rename_i hk
  subst hk
  obtain rfl := Option.some.inj h
  have := rel_str (X := X) ⟨hr, rfl⟩
  subst this
  refine ⟨l.map fun b => .int .u8 (b.toNat : Int), ?_, by simp [Holds.lenOf, ByteArray.size], fun P => ?_⟩
  · have key : ∀ l : List UInt8, RelEs X.w X.M (Prog.byte (S := S)) (l.map fun b => Prog.ofB (b.toNat : Int)) (l.map fun b => .int .u8 (b.toNat : Int)) := by
      intro l
      induction l with
      | nil => exact .nil _
      | cons b l ih =>
        refine .cons Prog.byte (Prog.ofB (b.toNat : Int)) _ [.int .u8 (b.toNat : Int)] _ (by rw [TabOk.byteEs (S := S) (P := P)]; rfl) ?_ ih
        rw [TabOk.byte (S := S) (P := P), TabOk.byteOf (S := S) (P := P)]
        exact .cons _ _ [_] [] rfl (.int _ _) .nil
    exact key l
  · simp only [Builtin.firstCells, List.length_map, Sem.run_pure]
    congr 1
    have : (⟨l.toArray⟩ : ByteArray).extract 0 l.length = ⟨l.toArray⟩ := by
      apply ByteArray.ext
      simp [ByteArray.data_extract]
    rw [this]
    simp

set_option maxHeartbeats 1000000 in
theorem dec_sound {X : Cx S} (hX : WF X) {k : S.K} {x : Cell S} {ys : List (S.Ty k)} {v : Value} (h : dec1C st.hp (.sl k) x = some ys) (hr : RelC X x [v]) (hb : ∀ b, b ∈ lives [x] → X.hp b = lk b st.hp) : Holds X k ys v := by
  cases x with
  | nilsl =>
    obtain rfl := Option.some.inj (h : some [] = some ys)
    cases hr with | nilsl a => exact holds_nil
  | live b ver =>
    simp only [dec1C] at h
    split at h <;> try (simp at h; done)
    rename_i k' L v' z hlk
    cases hv : Nat.beq ver v' with
    | false => simp [hv] at h
    | true =>
      have hv := Nat.eq_of_beq_eq_true hv
      subst hv
      simp only [Nat.beq_refl, cond_true] at h
      split at h <;> try (simp at h; done)
      rename_i hk
      subst hk
      obtain rfl := Option.some.inj h
      have hx := (hb b (by simp [lives])).trans hlk
      cases hr with
      | live _ _ k2 L2 v2 z2 w h1 h2 h3 h4 =>
        rw [hx] at h1
        cases h1
        exact holds_live hX hx (h3 rfl)
  | asl b off k' lo hi =>
    simp only [dec1C] at h
    split at h <;> try (simp at h; done)
    rename_i cs z hlk
    split at h <;> try (simp at h; done)
    rename_i k2 n2 L rest hs
    split at h <;> try (simp at h; done)
    rename_i hk
    split at h <;> try (simp at h; done)
    rename_i hk'
    subst hk; subst hk'
    cases hle : Nat.ble hi n2 with
    | false => simp [hle] at h
    | true =>
      have hle' := Nat.le_of_ble_eq_true hle
      simp only [hle, cond_true] at h
      obtain rfl := Option.some.inj h
      have hx := (hb b (by simp [lives])).trans hlk
      cases hr with
      | asl _ _ _ _ _ r n cs' z' o c h1 h2 h3 h4 =>
        obtain ⟨el, zz, vs, e1, e2, e3, e4⟩ := cells_var hX hx h1
        obtain ⟨a, q, rfl, e5, e6⟩ := seek_sound e3 hs
        cases e6 with
        | cons _ _ us ws f1 f2 f3 =>
          cases f2 with
          | f _ _ f2 =>
            cases f2 with
            | arr _ _ _ _ f4 f5 =>
              have hlen : ((L.take hi).drop lo).length = hi - lo := by simp; omega
              by_cases hlt : lo < hi
              · have ho := h3 hlt
                have f6 := (f5.take hi).drop lo
                rw [← hlen]
                refine holds_sl ?_ f6
                have g1 := (e4.drop (a := a)).take (a := us)
                rw [← List.take_append_drop (hi * S.es k') us] at g1
                have g1 := g1.take
                rw [← List.take_append_drop (lo * S.es k') (us.take (hi * S.es k'))] at g1
                have g1 := g1.drop
                have hl := f5.len
                have : ((us.take (hi * S.es k')).take (lo * S.es k')).length = lo * S.es k' := by
                  simp only [List.length_take]
                  have : lo * S.es k' ≤ hi * S.es k' := Nat.mul_le_mul_right _ (by omega)
                  have : hi * S.es k' ≤ us.length := by rw [hl]; exact Nat.mul_le_mul_right _ (by omega)
                  omega
                rw [this] at g1
                rw [ho, ← e5]
                simpa using g1
              · have : (L.take hi).drop lo = [] := List.eq_nil_of_length_eq_zero (by omega)
                rw [this, show hi - lo = 0 by omega]
                exact holds_nil
  | f c' =>
    have hd := dec1_sound (.sl k) c' ys (by cases c' <;> exact h)
    cases hr with
    | f _ _ hr =>
      rw [← hd] at hr
      cases hr with
      | sl0 => exact holds_nil
      | sl _ _ b off c vs g1 g2 g3 g4 g5 => exact holds_sl g4 g5
  | _ => simp [dec1C] at h


theorem src_sound [TabOk (S := S) P] {X : Cx S} (hX : WF X) {k : S.K} {x : Cell S} {ys : List (S.Ty k)} {v : Value} (h : srcOf st.hp k x = some ys) (hr : RelC X x [v]) (hb : ∀ b, b ∈ lives [x] → X.hp b = lk b st.hp) : Holds X k ys v := by
  rcases srcOf_cases st.hp k x with ⟨l, rfl⟩ | hs
  · exact src_str (P := P) h hr
  · rw [hs] at h
    exact dec_sound hX h hr hb

end Vm
end

section
namespace Vm
open Go
variable {S : Sig} {R : Type} {P : Program} [Prog S] {st : St S} {o : Oper}

section run
variable {ats : Array TypeId} {t t2 e ty : TypeId} {ei : TypeInfo} {ze : Value} (h0 : ats[0]? = some t) (h1 : ats[1]? = some t2) (hu : P.underlying t = some (.slice e)) (hi : P.info? e = some ei)
  (h2 : (∃ e2, P.underlying t2 = some (.slice e2)) ∨ P.underlying t2 = some .string)
include h0 h1 hu hi h2

theorem run_append_zero (w : World) (a : Option Addr) (v : Value) (hl : (Builtin.lenOf v).run P w = .ok 0 w) (hf : (Builtin.firstCells ei.size 0 v).run P w = .ok #[] w) :
    (Builtin.append_ ats ty #[.slice a 0 0, v]).run P w = .ok (.slice a 0 0) w := by
  rcases h2 with ⟨e2, h2⟩ | h2 <;> cases a <;> simp [Builtin.append_, h0, h1, run_underlying hu, run_underlying h2, run_sizeOf' hi, hl, hf, storeCells]

theorem run_append_stay (w : World) (r sLen sCap n : Nat) (v : Value) (vs us rest : List Value) (el : TypeId) (hl : (Builtin.lenOf v).run P w = .ok n w) (hf : (Builtin.firstCells ei.size n v).run P w = .ok us.toArray w)
    (hg : w.heap[r]? = some (.cells (vs ++ rest).toArray el (0, 0))) (hv : vs.length = sLen * ei.size) (hus : us.length ≤ rest.length) (hn : sLen + n ≤ sCap) (h1c : ∀ v ∈ us, v.oneCell' = true) :
    (Builtin.append_ ats ty #[.slice (some ⟨r, 0, none⟩) sLen sCap, v]).run P w = .ok (.slice (some ⟨r, 0, none⟩) (sLen + n) sCap) (w.setRow r (vs ++ us ++ rest.drop us.length).toArray) := by
  have hst := run_storeCells_at P r (sLen * ei.size) el us 0 (vs ++ rest).toArray w hg (by simp; omega) h1c
  simp only [Nat.add_zero] at hst
  have e1 : (vs ++ rest).take (sLen * ei.size) = vs := by rw [← hv]; simp
  have e2 : (vs ++ rest).drop (sLen * ei.size + us.length) = rest.drop us.length := by rw [← hv, ← List.drop_drop]; simp
  rw [e1, e2] at hst
  rcases h2 with ⟨e2, h2⟩ | h2 <;> simp [Builtin.append_, h0, h1, run_underlying hu, run_underlying h2, run_sizeOf' hi, hl, hf, hn, add_addr, hst]

theorem run_append_grow (w : World) (a : Option Addr) (sLen sCap n : Nat) (v : Value) (us0 us zs : List Value) (hl : (Builtin.lenOf v).run P w = .ok n w)
    (hf : (Builtin.firstCells ei.size n v).run P w.drew = .ok us.toArray w.drew) (hf0 : (Builtin.firstCells ei.size sLen (.slice a sLen sCap)).run P w.drew = .ok us0.toArray w.drew)
    (hn : ¬ sLen + n ≤ sCap) (hb : (sLen + n) * ei.bytes ≤ 140737488355328) (hm : sLen + n ≤ 140737488355328) (hz0 : ei.zero = some ze) (hzs : ze.cells = zs.toArray) :
    ∃ cap rest, sLen + n ≤ cap ∧ rest.length = (cap - (sLen + n)) * zs.length ∧
      (Builtin.append_ ats ty #[.slice a sLen sCap, v]).run P w = .ok (.slice (some ⟨w.heap.size, 0, none⟩) (sLen + n) cap) (w.drew.alloc (.cells (us0 ++ us ++ rest).toArray e)) := by
  have hgrow := growslice_fits (need := sLen + n) (old := sCap) (bytes := ei.bytes) (by omega) hb
  let q : Question := .appendCap (sLen + n) sCap e
  refine ⟨q.cut (w.tape w.drawn q), (Builtin.zeroCells zs.toArray (q.cut (w.tape w.drawn q) - (sLen + n))).toList, ?_, ?_, ?_⟩
  · simp [q, Question.cut]
  · simp [Builtin.zeroCells]
  · have c1 : ¬ (9223372036854775807 < ((sLen : Int) + (n : Int))) := by omega
    have c2 : ¬ (281474976710656 < Builtin.nextslicecap (sLen + n) sCap * ei.bytes) := by omega
    rcases h2 with ⟨e2, h2⟩ | h2
    · simp [Builtin.append_, h0, h1, run_underlying hu, run_underlying h2, run_sizeOf' hi, run_typeInfo hi, run_zeroValue' hi hz0, hl, hf, hf0, hn, c1, c2, Question.forced, newRow, hzs, q]
      congr 2
      apply Array.ext'
      simp
    · simp [Builtin.append_, h0, h1, run_underlying hu, run_underlying h2, run_sizeOf' hi, run_typeInfo hi, run_zeroValue' hi hz0, hl, hf, hf0, hn, c1, c2, Question.forced, newRow, hzs, q]
      congr 2
      apply Array.ext'
      simp

end run

/-- A new block of no elements, of which there is no memory. -/
def Cx.al0 (X : Cx S) (b : Nat) (c : Blk S) : Cx S :=
  { X with g := fun b' => if b' = b then none else X.g b', hp := fun b' => if b' = b then some c else X.hp b' }

theorem Ext.al0 {X : Cx S} {b : Nat} {c : Blk S} (hb : X.hp b = none ∨ ∃ k L v z k' L' v', X.hp b = some (.arr k L v z) ∧ c = .arr k' L' v' false ∧ v < v') : Ext X (X.al0 b c) := by
  refine ⟨Chg.refl _ _, fun r hr => .inl ?_, fun b' c' hc => ?_⟩
  · rcases hr with hr | ⟨b', c', n, h1, h2, h3⟩
    · exact .inl hr
    · by_cases e : b' = b
      · subst e; simp [Cx.al0] at h3
      · simp only [Cx.al0, if_neg e] at h1 h3
        exact .inr ⟨b', c', n, h1, h2, h3⟩
  · by_cases e : b' = b
    · subst e
      rcases hb with hb | ⟨k, L, v, z, k', L', v', hb, rfl, hlt⟩
      · rw [hb] at hc; cases hc
      · rw [hb] at hc; cases hc
        refine ⟨.arr k' L' v' false, by simp [Cx.al0], ?_⟩
        simp only [stepB]
        exact ⟨Nat.le_of_lt hlt, fun e => by omega⟩
    · refine ⟨c', by simp only [Cx.al0, if_neg e]; exact hc, ?_⟩
      cases c' <;> simp [stepB, Cx.al0, if_neg e]

theorem WF.al0 {X : Cx S} (h : WF X) {b : Nat} {k : S.K} {v : Nat} (he : Ext X (X.al0 b (.arr k [] v false))) : WF (X.al0 b (.arr k [] v false)) := by
  refine h.upd he b _ (fun _ => rfl) (fun b' e => by simp [Cx.al0, e]) rfl (by simp [RelB, Cx.al0]) (fun _ _ _ _ _ _ _ => rfl) (fun r n hr => by simp [Cx.al0] at hr)

theorem Ext.al' {X : Cx S} {b : Nat} {k k' : S.K} {L : List (S.Ty k)} {L' : List (S.Ty k')} {v v' : Nat} {z : Bool} (hb : X.hp b = some (.arr k L v z)) (hv : v < v') (o : Obj) (cap : Nat) : Ext X (X.al b (.arr k' L' v' false) o cap) := by
  refine ⟨⟨rfl, rfl, rfl, by simp [Cx.al], fun r hr _ => Go.RowKit.Below.heap_alloc _ _ _ hr⟩, fun r hr => ?_, fun b' c' hc => ?_⟩
  · rcases hr with hr | ⟨b', c', n, h1, h2, h3⟩
    · exact .inl (.inl hr)
    · by_cases e : b' = b
      · subst e
        simp only [Cx.al, if_pos] at h3
        cases h3
        exact .inr (Nat.le_refl _)
      · simp only [Cx.al, if_neg e] at h1 h3
        exact .inl (.inr ⟨b', c', n, h1, h2, h3⟩)
  · by_cases e : b' = b
    · subst e
      rw [hb] at hc; cases hc
      refine ⟨.arr k' L' v' false, by simp [Cx.al], ?_⟩
      simp only [stepB]
      exact ⟨Nat.le_of_lt hv, fun e => by omega⟩
    · refine ⟨c', by simp only [Cx.al, if_neg e]; exact hc, ?_⟩
      cases c' <;> simp [stepB, Cx.al, if_neg e]

theorem WF.al' {X : Cx S} (h : WF X) {b : Nat} (c : Blk S) (o : Obj) (cap : Nat) (he : Ext X (X.al b c o cap)) (hc : RelB (X.al b c o cap) b c) : WF (X.al b c o cap) := by
  refine h.upd he b c (fun _ => rfl) (fun b' e => by simp [Cx.al, e]) rfl hc (fun b' c' r n e h1 h2 => ?_) (fun r n hr => .inl ?_)
  · exact Go.RowKit.Below.heap_alloc _ _ _ (g_lt h h1 h2)
  · simp only [Cx.al, if_pos] at hr; cases hr; exact Nat.le_refl _

/-- A block that has just been laid for a slice. -/
theorem RelB.made {Y : Cx S} {b : Nat} {k : S.K} {L : List (S.Ty k)} {v : Nat} {vs rest : List Value} {e : TypeId} {cap : Nat} {Z : Cx S} (hZ : Z = Y.al b (.arr k L v false) (.cells (vs ++ rest).toArray e) cap)
    (hr : RelEs Z.w Z.M k L vs) (h1 : L.length ≤ cap) (h2 : rest.length = (cap - L.length) * S.es k) : RelB Z b (.arr k L v false) := by
  have hg : Z.g b = some (Y.w.heap.size, cap) := by subst hZ; simp [Cx.al]
  simp only [RelB, hg]
  refine ⟨e, (0, 0), vs, rest, by subst hZ; exact heap_al _ _ _ _ _, fun _ => rfl, hr, h1, ?_⟩
  have := hr.len
  rw [List.length_append, this, h2, ← Nat.add_mul]
  exact Nat.mul_le_mul_right _ (by omega)

theorem lenOf_run {k : S.K} {ys : List (S.Ty k)} {X : Cx S} {v : Value} (h : Holds X k ys v) (w : World) (hv : (∃ a n c, v = .slice a n c) ∨ ∃ s, v = .string s) : (Builtin.lenOf v).run P w = .ok ys.length w := by
  obtain ⟨us, h1, h2, h3⟩ := h
  rcases hv with ⟨a, n, c, rfl⟩ | ⟨s, rfl⟩
  · simp only [Holds.lenOf] at h2
    simp [Builtin.lenOf, h2]
  · simp only [Holds.lenOf] at h2
    simp [Builtin.lenOf, h2]

theorem Holds.form {k : S.K} {ys : List (S.Ty k)} {X : Cx S} {v : Value} (h : Holds X k ys v) (P : Program) : (∃ a n c, v = .slice a n c) ∨ (∃ s, v = .string s) := by
  obtain ⟨us, h1, h2, h3⟩ := h
  have := h3 P
  cases v <;> first | exact .inl ⟨_, _, _, rfl⟩ | exact .inr ⟨_, rfl⟩ | (simp [Builtin.firstCells] at this; done)

theorem RelEs.one' {w : World} {M : Nat → Prop} {k : S.K} {L : List (S.Ty k)} {vs : List Value} (h : RelEs w M k L vs) : ∀ v ∈ vs, v.oneCell' = true := RelF.one.RelEs.one h

theorem op_append [TabOk (S := S) P] {c : Call} (ho : o.op = .call c) (hb : c.callee = .builtin .append) {s x : Cell S} (hx : evs st c.args.toList = some [.e (.sc s), .e (.sc x)]) {t t2 : TypeId} {ts : List TypeId}
    (hat : c.argTypes.toList = t :: t2 :: ts) {k : S.K} (ht : Tab.at (Prog.tab : Tab S) t = .sl k) (ht2 : (∃ k2, Tab.at (Prog.tab : Tab S) t2 = .sl k2) ∨ Tab.at (Prog.tab : Tab S) t2 = .sc .str)
    {K : Eff S → Option R} {r : R} (h : appendK st k s x K = some r) : ∃ e, K e = some r ∧ EffOk st e ∧ OpTr P st o e := by
  have hlay := TabOk.ok (S := S) (P := P) t
  rw [ht] at hlay
  obtain ⟨ti, et, ei, ze, l1, l2, l3, l4, l5, l6, l7, l7', l8, l9, l9', l10⟩ := hlay
  have g0 : c.argTypes[0]? = some t := by rw [← Array.getElem?_toList, hat]; rfl
  have g1 : c.argTypes[1]? = some t2 := by rw [← Array.getElem?_toList, hat]; rfl
  have g2 : (∃ e2, P.underlying t2 = some (.slice e2)) ∨ P.underlying t2 = some .string := by
    have hl2 := TabOk.ok (S := S) (P := P) t2
    rcases ht2 with ⟨k2, ht2⟩ | ht2
    · rw [ht2] at hl2
      obtain ⟨_, e2, _, _, _, _, q, _⟩ := hl2
      exact .inl ⟨e2, q⟩
    · rw [ht2] at hl2
      obtain ⟨_, i, d, z, _, _, _, _, _, _, _, q⟩ := hl2
      exact .inr q
  have hrun : ∀ (X : Cx S) (a : Act) (u v w' : _) (W : World), c.args.map a.eval = #[u, v] → (Builtin.append_ c.argTypes o.type #[u, v]).run P X.w = .ok w' W → (execOp a.eval o).run P X.w = .ok (.value w') W := by
    intro X a u v w' W h1 h2
    simp [execOp, ho, resolve, hb, invoke, builtin, h1, h2]
  unfold appendK at h
  cases hys : srcOf st.hp k x with
  | none => simp [hys] at h
  | some ys =>
  simp only [hys] at h
  split at h
  · -- behind nothing
    cases hle : Nat.ble ys.length (Prog.lim k) with
    | false => simp [hle] at h
    | true =>
    simp only [hle, cond_true] at h
    have hle := Nat.le_of_ble_eq_true hle
    refine ⟨_, h, ⟨Nat.le_succ _, fun b _ hb' => ?_⟩, fun X a next Q hX hk hbf hn => ?_⟩
    · rw [lk_cons, if_neg (fun e => hb' ⟨by omega, by simp only; omega⟩)]
    · obtain ⟨u, v, a1, a2, a3⟩ := args2 (call_args ho hb hx hk)
      have hnew := hbf.new st.nx (Nat.le_refl _) (Nat.lt_succ_self _)
      have hrd : ∀ b, b ∈ lives [x] → X.hp b = lk b st.hp := fun b hm => hbf.rd b hm
      have hsrc := src_sound (P := P) hX hys a3.1 hrd
      have hsrc' := src_sound (P := P) (X := X.dr) hX.dr hys ((Ext.dr X).relC a3.1) hrd
      cases a2.1 with
      | nilsl sa =>
      by_cases h0 : ys = []
      · -- nothing is appended
        subst h0
        obtain ⟨us, e1, e2, e3⟩ := hsrc
        have e4 := e3 P
        cases e1
        have hr := run_append_zero (ty := o.type) g0 g1 l3 l4 g2 X.w sa v (by simpa using lenOf_run (P := P) ⟨[], .nil k, e2, e3⟩ X.w (Holds.form ⟨[], .nil k, e2, e3⟩ P)) (by rw [l5]; exact e4)
        unfold Oper.wp
        rw [hrun X a _ _ _ _ a1 hr]
        have hext : Ext X (X.al0 st.nx (.arr k [] 0 false)) := Ext.al0 (.inl hnew)
        refine hn (X.al0 st.nx (.arr k [] 0 false)) _ hext (hX.al0 hext) rfl ⟨.live _ _ k [] 0 false _ (by simp [Cx.al0]) (Nat.le_refl _) (fun _ => ?_) rfl, rfl⟩ (fun b => ?_)
        · simp only [liveAt, Cx.al0, if_true]
          exact ⟨trivial, sa, rfl⟩
        · simp only [List.not_mem_nil, false_or, Cx.al0, lk_cons]
          by_cases e : b = st.nx
          · subst e; rw [if_pos rfl, if_pos ⟨Nat.le_refl _, Nat.lt_succ_self _⟩, if_pos rfl]
          · rw [if_neg e, if_neg (by omega)]
      · -- a new row
        have hpos : 0 < ys.length := by cases ys with | nil => exact absurd rfl h0 | cons => simp
        obtain ⟨us, e1, e2, e3⟩ := hsrc'
        obtain ⟨cap, rest, c1, c2, c3⟩ := run_append_grow (ty := o.type) g0 g1 l3 l4 g2 X.w sa 0 0 ys.length v [] us ze.cells.toList (by simpa using lenOf_run (P := P) hsrc X.w (Holds.form hsrc P)) (by rw [l5]; exact e3 P)
          (by cases sa <;> simp [Builtin.firstCells, loadCells, loadCellsFrom]) (by omega)
          (by have := Nat.mul_le_mul_left ei.bytes hle; rw [Nat.zero_add, Nat.mul_comm]; omega) (by omega) l7 (by simp)
        simp only [Nat.zero_add, List.nil_append] at c1 c2 c3
        unfold Oper.wp
        rw [hrun X a _ _ _ _ a1 c3]
        have hext : Ext X.dr (X.dr.al st.nx (.arr k ys 0 false) (.cells (us ++ rest).toArray et) cap) := Ext.al (X := X.dr) hnew _ _ _
        have hwf := hX.dr.al (b := st.nx) hnew (.arr k ys 0 false) (.cells (us ++ rest).toArray et) cap (RelB.made rfl (e1.up hext.chgM hext.m) c1 (by rw [c2]; simp [l7']))
        refine hn (X.dr.al st.nx (.arr k ys 0 false) (.cells (us ++ rest).toArray et) cap) _ ((Ext.dr X).comp hext rfl hX.dr) hwf rfl ⟨.live _ _ k ys 0 false _ (by simp [Cx.al]) (Nat.le_refl _) (fun _ => ?_) rfl, rfl⟩ (fun b => ?_)
        · simp only [liveAt, Cx.al, if_true]; rfl
        · simp only [List.not_mem_nil, false_or, Cx.al, lk_cons]
          by_cases e : b = st.nx
          · subst e; rw [if_pos rfl, if_pos ⟨Nat.le_refl _, Nat.lt_succ_self _⟩, if_pos rfl]
          · rw [if_neg e, if_neg (by omega)]; rfl
  · -- behind what is alive
    rename_i b ver
    split at h <;> try (simp at h; done)
    rename_i k' L ver' hlk
    split at h <;> try (simp at h; done)
    rename_i hkk
    subst hkk
    cases hv : Nat.beq ver ver' with
    | false => simp [hv] at h
    | true =>
    cases hle : Nat.ble (L.length + ys.length) (Prog.lim k') with
    | false => simp [hv, hle] at h
    | true =>
    simp only [hv, hle, cond_true] at h
    have hle := Nat.le_of_ble_eq_true hle
    have hv := Nat.eq_of_beq_eq_true hv
    subst hv
    refine ⟨_, h, ⟨Nat.le_refl _, fun b' hb' _ => ?_⟩, fun X a next Q hX hk hbf hn => ?_⟩
    · rw [lk_cons, if_neg (fun e => hb' (by simp [e]))]
    · obtain ⟨u, v, a1, a2, a3⟩ := args2 (call_args ho hb hx hk)
      have hXb : X.hp b = some (.arr k' L ver false) := (hbf.wr b (by simp)).trans hlk
      have hrd : ∀ b, b ∈ lives [x] → X.hp b = lk b st.hp := fun b hm => hbf.rd b (List.mem_cons_of_mem _ hm)
      have hsrc := src_sound (P := P) hX hys a3.1 hrd
      have hsrc' := src_sound (P := P) (X := X.dr) hX.dr hys ((Ext.dr X).relC a3.1) hrd
      have hlen := fun w => lenOf_run (P := P) hsrc w (Holds.form hsrc P)
      have hbytes : (L.length + ys.length) * ei.bytes ≤ 140737488355328 := by
        have := Nat.mul_le_mul_left ei.bytes hle; rw [Nat.mul_comm]; omega
      have hafter : ∀ (Y : Cx S) (c' : Blk S), (Y.hp = fun b' => if b' = b then some c' else X.hp b') → (c' = .arr k' (L ++ ys) (ver + 1) false) →
          After st ⟨.e (.sc (.live b (ver + 1))), b :: lives [x], [b], (b, .arr k' (L ++ ys) (ver + 1) false) :: st.hp, st.nx⟩ X Y := by
        intro Y c' h1 h2 b'
        rw [h1, h2]
        simp only [List.mem_singleton, lk_cons]
        by_cases e : b' = b
        · simp [e]
        · rw [if_neg e, if_neg (by simp only [e, false_or]; omega)]
      have hgrow : ∀ (sa : Option Addr) (sCap : Nat), u = .slice sa L.length sCap → ¬ L.length + ys.length ≤ sCap → Holds X.dr k' L u →
          ∃ Y v', Ext X Y ∧ WF Y ∧ Y.M0 = X.M0 ∧ RelP Y (.e (.sc (.live b (ver + 1)))) v' ∧ (Y.hp = fun b' => if b' = b then some (.arr k' (L ++ ys) (ver + 1) false) else X.hp b') ∧ (execOp a.eval o).run P X.w = .ok (.value v') Y.w := by
        intro sa sCap hu hcap hold
        obtain ⟨us, e1, e2, e3⟩ := hsrc'
        obtain ⟨us0, f1, f2, f3⟩ := hold
        subst hu
        obtain ⟨cap, rest, c1, c2, c3⟩ := run_append_grow (ty := o.type) g0 g1 l3 l4 g2 X.w sa L.length sCap ys.length v us0 us ze.cells.toList (hlen _) (by rw [l5]; exact e3 P)
          (by rw [l5]; exact f3 P) hcap hbytes (by omega) l7 (by simp)
        have hext : Ext X.dr (X.dr.al b (.arr k' (L ++ ys) (ver + 1) false) (.cells (us0 ++ us ++ rest).toArray et) cap) := Ext.al' (X := X.dr) hXb (Nat.lt_succ_self _) _ _
        have hwf := hX.dr.al' (.arr k' (L ++ ys) (ver + 1) false) (.cells (us0 ++ us ++ rest).toArray et) cap hext (RelB.made rfl ((f1.append e1).up hext.chgM hext.m) (by simpa using c1) (by rw [c2]; simp [l7']))
        refine ⟨_, _, (Ext.dr X).comp hext rfl hX.dr, hwf, rfl, ⟨.live _ _ k' (L ++ ys) (ver + 1) false _ (by simp [Cx.al]) (Nat.le_refl _) (fun _ => ?_) rfl, rfl⟩, rfl, hrun X a _ _ _ _ a1 c3⟩
        simp only [liveAt, Cx.al, if_true, List.length_append]; rfl
      have fin : (∃ Y v', Ext X Y ∧ WF Y ∧ Y.M0 = X.M0 ∧ RelP Y (.e (.sc (.live b (ver + 1)))) v' ∧ (Y.hp = fun b' => if b' = b then some (.arr k' (L ++ ys) (ver + 1) false) else X.hp b') ∧ (execOp a.eval o).run P X.w = .ok (.value v') Y.w) →
          o.wp P a X.w next Q := by
        rintro ⟨Y, v', x1, x2, x3, x4, x5, x6⟩
        unfold Oper.wp
        rw [x6]
        exact hn Y v' x1 x2 x3 x4 (hafter Y _ x5 rfl)
      refine fin ?_
      have hold : ∀ {Z : Cx S}, WF Z → Z.hp b = some (.arr k' L ver false) → RelC Z (.live b ver) [u] → liveAt Z b k' L u := by
        intro Z _ hz hr
        cases hr with
        | live _ _ k2 L2 v2 z2 _ h1 h2 h3 h4 =>
          rw [hz] at h1; cases h1
          exact h3 rfl
      have hl := hold hX hXb a2.1
      have hl' := hold hX.dr hXb ((Ext.dr X).relC a2.1)
      have hH := holds_live hX.dr hXb hl'
      unfold liveAt at hl
      cases hg : X.g b with
      | none =>
        rw [hg] at hl
        obtain ⟨rfl, sa, rfl⟩ := hl
        by_cases h0 : ys = []
        · subst h0
          obtain ⟨us, e1, e2, e3⟩ := hsrc
          have e4 := e3 P
          cases e1
          have hr := run_append_zero (ty := o.type) g0 g1 l3 l4 g2 X.w sa v (by simpa using hlen X.w) (by rw [l5]; exact e4)
          have hext : Ext X (X.al0 b (.arr k' [] (ver + 1) false)) := Ext.al0 (.inr ⟨_, _, _, _, _, _, _, hXb, rfl, Nat.lt_succ_self _⟩)
          refine ⟨X.al0 b (.arr k' [] (ver + 1) false), _, hext, hX.al0 hext, rfl, ⟨.live _ _ k' [] (ver + 1) false _ (by simp [Cx.al0]) (Nat.le_refl _) (fun _ => ?_) rfl, rfl⟩, rfl, hrun X a _ _ _ _ a1 hr⟩
          simp only [liveAt, Cx.al0, if_true]
          exact ⟨trivial, sa, rfl⟩
        · have hpos : 0 < ys.length := by cases ys with | nil => exact absurd rfl h0 | cons => simp
          exact hgrow sa 0 rfl (by simp; omega) hH
      | some p =>
        obtain ⟨r0, cap⟩ := p
        rw [hg] at hl
        simp only at hl
        by_cases hc : L.length + ys.length ≤ cap
        · -- in its place
          subst hl
          have hB := hX.blk b _ hXb
          simp only [RelB, hg] at hB
          obtain ⟨el, zz, vs, rest, e2, e3, e4, e5, e6⟩ := hB
          have e3 : zz = (0, 0) := by first | exact e3 rfl | exact e3 trivial
          subst e3
          obtain ⟨us, f1, f2, f3⟩ := hsrc
          have hfit : us.length ≤ rest.length := by
            have h1 := e4.len
            have h2 := f1.len
            have h3 : (L.length + ys.length) * S.es k' ≤ cap * S.es k' := Nat.mul_le_mul_right _ hc
            rw [Nat.add_mul] at h3
            simp only [List.length_append] at e6
            omega
          have hr := run_append_stay (ty := o.type) g0 g1 l3 l4 g2 X.w r0 L.length cap ys.length v vs us rest el (hlen _) (by rw [l5]; exact f3 P) e2 (by rw [l5]; exact e4.len) hfit hc f1.one'
          have hext := Ext.st (c' := .arr k' (L ++ ys) (ver + 1) false) hX hXb rfl hg (vs ++ us ++ rest.drop us.length).toArray (by simp only [stepB]; exact ⟨Nat.le_succ _, fun e => by omega⟩) (by simp [Blk.fz])
          have hg' : (X.st b (.arr k' (L ++ ys) (ver + 1) false) r0 (vs ++ us ++ rest.drop us.length).toArray).g b = some (r0, cap) := hg
          have hwf := hX.st hXb hg (c' := .arr k' (L ++ ys) (ver + 1) false) _ hext (by
            simp only [RelB, hg']
            refine ⟨el, (0, 0), vs ++ us, rest.drop us.length, setRow_heap _ _ _ _ _ _ e2, fun _ => rfl, (e4.append f1).up hext.chgM hext.m, by simpa using hc, ?_⟩
            simp only [List.length_append, List.length_drop] at e6 ⊢
            omega)
          refine ⟨_, _, hext, hwf, rfl, ⟨.live _ _ k' (L ++ ys) (ver + 1) false _ (by simp [Cx.st]) (Nat.le_refl _) (fun _ => ?_) rfl, rfl⟩, rfl, hrun X a _ _ _ _ a1 hr⟩
          simp only [liveAt, hg', List.length_append]
        · exact hgrow _ cap hl hc hH
  · simp at h

end Vm
end

section
namespace Vm
open Go
variable {S : Sig} {R : Type} {P : Program} [Prog S] {st : St S} {o : Oper}

theorem mkPE_false {cs : List (Cell S)} {p : PE S} (h : mkPE false cs = some p) : ∃ c, cs = [c] ∧ c.isSc = true ∧ p = .sc c := by
  match cs, h with
  | [], h => simp [mkPE] at h
  | [c], h =>
    simp only [mkPE] at h
    cases hs : c.isSc with
    | false => simp [hs] at h
    | true => simp only [hs, cond_true, Option.some.injEq] at h; exact ⟨c, rfl, hs, h.symm⟩
  | _ :: _ :: _, h => simp [mkPE] at h

theorem op_indexStr [TabOk (S := S) P] {t : TypeId} {x y : Operand} (ho : o.op = .index t x y) (ht : Tab.at (Prog.tab : Tab S) t = .sc .str) {l : List UInt8} (hx : ev st x = some (.e (.sc (.f (.str l))))) {kk : IntKind} {n : Int}
    (hy : ev st y = some (.e (.sc (.f (.int kk n))))) (h0 : 0 ≤ n) {b : UInt8} (hb : l[n.toNat]? = some b) :
    EffOk st (⟨.e (.sc (.f (.int .u8 (b.toNat : Int)))), [], [], st.hp, st.nx⟩ : Eff S) ∧ OpTr P st o ⟨.e (.sc (.f (.int .u8 (b.toNat : Int)))), [], [], st.hp, st.nx⟩ := by
  have hl := TabOk.ok (S := S) (P := P) t
  rw [ht] at hl
  obtain ⟨_, i, d, z, _, _, _, _, _, _, _, hu⟩ := hl
  have hu : P.underlying t = some .string := hu
  refine OpTr.fc rfl fun X a hX hk => ⟨_, ?_, .int _ _⟩
  have ex := rel_str (ev_sound (X := X) (a := a) hx hk (fun t' e => by rw [ho]; subst e; simp [Op.operands, tmpsOf]))
  have ey := rel_int (ev_sound (X := X) (a := a) hy hk (fun t' e => by rw [ho]; subst e; exact mem_tmps1 (by simp [Op.operands]) t' rfl))
  have hg : (⟨l.toArray⟩ : ByteArray)[n.toNat]? = some b := by
    have hlt : n.toNat < l.length := by
      rcases Nat.lt_or_ge n.toNat l.length with h | h
      · exact h
      · rw [List.getElem?_eq_none h] at hb; cases hb
    rw [List.getElem?_eq_getElem hlt] at hb
    have hs : n.toNat < (⟨l.toArray⟩ : ByteArray).size := by simpa [ByteArray.size] using hlt
    rw [getElem?_pos (⟨l.toArray⟩ : ByteArray) n.toNat hs]
    simp only [Option.some.injEq] at hb ⊢
    rw [← hb]
    simp [ByteArray.getElem_eq_getElem_data]
  simp [execOp, ho, ex, ey, Instr.index, asIntOf, run_underlying hu, h0, hg]

theorem op_indexArr [TabOk (S := S) P] {t : TypeId} {x y : Operand} (ho : o.op = .index t x y) {k : S.K} {m : Nat} (ht : Tab.at (Prog.tab : Tab S) t = .ar k m) {L : List (S.Ty k)} (hx : ev st x = some (.e (.ag [.f (.arr k m L)]))) {kk : IntKind} {n : Int}
    (hy : ev st y = some (.e (.sc (.f (.int kk n))))) (h0 : 0 ≤ n) {e : S.Ty k} (hb : L[n.toNat]? = some e) {p : PE S} (hp : mkPE (Prog.aggK k) ((enc k e).map .f) = some p) :
    EffOk st (⟨.e p, [], [], st.hp, st.nx⟩ : Eff S) ∧ OpTr P st o ⟨.e p, [], [], st.hp, st.nx⟩ := by
  have hl := TabOk.ok (S := S) (P := P) t
  rw [ht] at hl
  obtain ⟨ti, et, ei, zs, h1, h2, h3, h4, h5, h6, h7, h8, h9, d, h10, h11⟩ := hl
  refine OpTr.val fun X a hX hk _ => ?_
  have hr : RelE X (.ag [.f (.arr k m L)]) (a.eval x) := ev_sound (X := X) (a := a) hx hk (fun t' e => by rw [ho]; subst e; simp [Op.operands, tmpsOf])
  have ey := rel_int (ev_sound (X := X) (a := a) hy hk (fun t' e => by rw [ho]; subst e; exact mem_tmps1 (by simp [Op.operands]) t' rfl))
  obtain ⟨vs, ex, hr⟩ := hr
  have hlt : n.toNat < L.length := by
    rcases Nat.lt_or_ge n.toNat L.length with h | h
    · exact h
    · rw [List.getElem?_eq_none h] at hb; cases hb
  cases hr with
  | cons _ _ us ws f1 f2 f3 =>
    cases f3
    cases f2 with
    | f _ _ f2 =>
      cases f2 with
      | arr _ _ _ _ g1 g2 =>
        obtain ⟨pa, ua, qa, rfl, e2, e3, e4⟩ := g2.get _ e hb
        refine ⟨valOf (Prog.aggK k) ua, ?_, mkPE_rel hp e4.toC⟩
        have hin : 0 ≤ n ∧ n < (m : Int) := ⟨h0, by omega⟩
        have hagg := run_isAgg' (P := P) h10 X.w
        rw [h11, Bool.not_not] at hagg
        simp only [List.append_nil] at ex
        have hpart : (part et (pa ++ ua ++ qa).toArray (n.toNat * ei.size)).run P X.w = .ok (valOf (Prog.aggK k) ua) X.w := by
          unfold part
          simp only [Sem.run_bind, hagg, Result.andThen_ok]
          rw [h5, ← e2]
          cases hak : Prog.aggK k with
          | true =>
            simp only [if_true, Sem.run_bind, run_sizeOf' h4, Result.andThen_ok, h5, ← e3, valOf]
            simp
          | false =>
            rw [hak] at hp
            obtain ⟨v, rfl⟩ : ∃ v, ua = [v] := by
              have hc := e4.toC
              obtain ⟨c, heq, hs, _⟩ := mkPE_false hp
              rw [heq] at hc
              cases hc with
              | cons _ _ us vs q1 q2 q3 =>
                cases q3
                have := q2.width1 hs
                cases us with
                | nil => simp at this
                | cons v us => cases us with
                  | nil => exact ⟨v, by simp⟩
                  | cons => simp at this
            simp [valOf]
        simp only [execOp, ho, ex, ey, Instr.index, asIntOf, Sem.run_bind, Sem.run_pure, Result.andThen_ok, run_underlying h3, if_pos hin, run_sizeOf' h4, hpart]

end Vm
end

section
namespace Vm
open Go
variable {S : Sig} {R : Type} {P : Program} [Prog S] {st : St S} {o : Oper}

theorem foldl_set (off : Nat) : ∀ (us : List Value) (k : Nat) (cur : Array Value), off + k + us.length ≤ cur.size →
    (us.zipIdx k).foldl (fun (cs : Array Value) (x : Value × Nat) => cs.setIfInBounds (off + x.2) x.1) cur = (cur.toList.take (off + k) ++ us ++ cur.toList.drop (off + k + us.length)).toArray
  | [], k, cur, _ => by simp
  | u :: us, k, cur, h => by
    simp only [List.zipIdx_cons, List.foldl_cons]
    rw [foldl_set off us (k + 1) _ (by simp at h ⊢; omega)]
    congr 1
    have e := list_seg_step cur.toList (off + k) u us (by simp at h ⊢; omega)
    simpa [Array.toList_setIfInBounds, Nat.add_assoc] using e

theorem fill_one (place : Nat → Option (Nat × Nat)) (cur us : List Value) (i off : Nat) (v : Value) (rest : List (Nat × Value)) (hp : place i = some (off, us.length)) (hv : v.cells = us.toArray) (hf : off + us.length ≤ cur.length) :
    Instr.fill place cur.toArray ((i, v) :: rest) = Instr.fill place (cur.take off ++ us ++ cur.drop (off + us.length)).toArray rest := by
  have := foldl_set off us 0 cur.toArray (by simpa using hf)
  simp only [Nat.add_zero] at this
  simp only [Instr.fill, hp, hv]
  rw [if_neg (by simp; omega)]
  congr 1
  rw [← this]
  simp only [← Array.foldl_toList, Array.toList_zipIdx]

inductive RelParts (X : Cx S) : List (Nat × PE S) → List (Nat × Value) → Prop
  | nil : RelParts X [] []
  | cons (i p v ps vs) : RelE X p v → RelParts X ps vs → RelParts X ((i, p) :: ps) ((i, v) :: vs)

theorem evParts_sound {X : Cx S} {a : Act} {ts : List Nat} (hk : Knows X st ts a) : ∀ {xs : List (Nat × Operand)} {ps : List (Nat × PE S)}, evParts st xs = some ps → (∀ t, t ∈ tmpsOf (xs.map (·.2)) → t ∈ ts) →
    RelParts X ps (xs.map fun x => (x.1, a.eval x.2))
  | [], ps, h, _ => by simp [evParts] at h; subst h; exact .nil
  | (i, x) :: xs, ps, h, ht => by
    simp only [evParts] at h
    cases h1 : ev st x with
    | none => simp [h1] at h
    | some p =>
      cases p with
      | e p =>
        cases h2 : evParts st xs with
        | none => simp [h1, h2] at h
        | some qs =>
          simp only [h1, h2, Option.some.injEq] at h
          subst h
          have hxs : ∀ t, t ∈ tmpsOf (xs.map (·.2)) → t ∈ ts := fun t h => ht t (by cases x <;> simp [tmpsOf, h])
          exact .cons i p _ _ _ (ev_sound h1 hk (fun t e => ht t (by subst e; simp [tmpsOf]))) (evParts_sound hk h2 hxs)
      | tu ps => simp [h1] at h
      | undef => simp [h1] at h

theorem fillK_sound {X : Cx S} {place : Nat → Option (Nat × Nat)} {place' : Nat → Option (Nat × Nat)} (hpl : ∀ i x, place i = some x → place' i = some x) : ∀ {cs cs' : List (Cell S)} {ps : List (Nat × PE S)} {vs : List Value} {pv : List (Nat × Value)},
    fillK cs ps place = some cs' → RelCs X cs vs → RelParts X ps pv → ∃ vs', Instr.fill place' vs.toArray pv = some (List.toArray vs') ∧ RelCs X cs' vs'
  | cs, cs', [], vs, pv, h, hr, hp => by
    simp [fillK] at h; subst h; cases hp
    exact ⟨vs, rfl, hr⟩
  | cs, cs', (i, p) :: ps, vs, pv, h, hr, hp => by
    simp only [fillK] at h
    cases h1 : place i with
    | none => simp [h1] at h
    | some x =>
      obtain ⟨off, w⟩ := x
      cases hw : Nat.beq (widthsC p.cells) w with
      | false => simp [h1, hw] at h
      | true =>
      have hw := Nat.eq_of_beq_eq_true hw
      cases h2 : putW cs off p.cells w with
      | none => simp [h1, hw, h2] at h
      | some cs1 =>
        simp only [h1, hw, Nat.beq_refl, cond_true, h2] at h
        cases hp with
        | cons _ _ v _ pv h3 h4 =>
          obtain ⟨us, e1, e2⟩ := h3.cells
          have hlen : us.length = w := by rw [e2.len]; exact hw
          obtain ⟨f1, f2⟩ := putW_sound hr e2 hlen h2
          rw [fill_one place' vs us i off v pv (by rw [hlen]; exact hpl i _ h1) e1 (by rw [hlen]; exact f1)]
          rw [← hlen] at f2
          exact fillK_sound hpl h f2 h4

/-- The places of a struct's fields. -/
theorem places_of {t : TypeId} {shs : List (Sh S.K)} {offs : List Nat} {w : Nat} (hl : LayOk P t (.st shs offs w : Lay S)) : ∃ fs places, P.underlying t = some (.struct fs) ∧
    fs.toList.mapM (fun f => (P.info? f.type).map fun i => (f.offset, i.size)) = some places ∧ ∀ i x, Vm.fieldAt offs w i = some x → places.toArray[i]? = some x := by
  obtain ⟨ti, fs, zs, h00, h1, h2, h3, h4, h5, h6, h7⟩ := hl
  have hall : ∀ j, j < offs.length → ∃ x, Vm.fieldAt offs w j = some x := by
    intro j hj
    unfold Vm.fieldAt
    rw [List.getElem?_eq_getElem hj]
    cases offs[j + 1]? <;> exact ⟨_, rfl⟩
  refine ⟨fs, (List.range offs.length).map fun j => (Vm.fieldAt offs w j).getD (0, 0), h3, ?_, ?_⟩
  · refine mapM_some_of_get _ _ (by simp [h00]) (fun i f hf => ?_)
    have hi : i < offs.length := by
      rcases Nat.lt_or_ge i fs.toList.length with h | h
      · simpa [h00] using h
      · rw [List.getElem?_eq_none h] at hf; cases hf
    obtain ⟨x, hx⟩ := hall i hi
    obtain ⟨off, n⟩ := x
    obtain ⟨f', fi, g1, g2, g3, g4, g5⟩ := h7 i off n hx
    have : f' = f := by
      rw [← Array.getElem?_toList] at g1
      rw [g1] at hf; exact Option.some.inj hf
    subst this
    simp [hi, hx, g3, g2, g4]
  · intro i x hx
    have hi : i < offs.length := by
      unfold Vm.fieldAt at hx
      rcases Nat.lt_or_ge i offs.length with h | h
      · exact h
      · rw [List.getElem?_eq_none h] at hx; simp at hx
    simp [hi, hx]

theorem parts_tmps {ps : Array (Nat × Operand)} : ∀ t, t ∈ tmpsOf (ps.toList.map (·.2)) → t ∈ tmpsOf ((ps.toList.map (·.2)).toArray).toList := by
  intro t h; simpa using h

theorem op_buildSt [TabOk (S := S) P] {t : TypeId} {parts : Array (Nat × Operand)} (ho : o.op = .build t parts) {shs : List (Sh S.K)} {offs : List Nat} {w : Nat} (ht : Tab.at (Prog.tab : Tab S) t = .st shs offs w) {ps : List (Nat × PE S)}
    (hp : evParts st parts.toList = some ps) {cs : List (Cell S)} (hf : fillK (shs.map zero1) ps (Vm.fieldAt offs w) = some cs) :
    EffOk st (⟨.e (.ag cs), [], [], st.hp, st.nx⟩ : Eff S) ∧ OpTr P st o ⟨.e (.ag cs), [], [], st.hp, st.nx⟩ := by
  have hl := TabOk.ok (S := S) (P := P) t
  rw [ht] at hl
  obtain ⟨fs, places, h1, h2, h3⟩ := places_of hl
  obtain ⟨ti, fs', zs, h00, g1, g2, g3, g4, g5, g6, g7⟩ := hl
  refine OpTr.val fun X a hX hk _ => ?_
  have hr := evParts_sound (X := X) (a := a) hk hp (fun t ht => by rw [ho]; simpa [Op.operands] using ht)
  obtain ⟨vs', e1, e2⟩ := fillK_sound h3 hf (g6 X) hr
  refine ⟨_, ?_, ⟨vs', rfl, e2⟩⟩
  have hb : P.built t ((parts.map fun (i, x) => (i, a.eval x)).toList) = some vs'.toArray := by
    simp only [Program.built, g1, h1, g4, h2, Value.cells, Array.toList_map]
    exact e1
  simp only [execOp, ho, Sem.run_bind, run_build X.w t _ _ hb, Result.andThen_ok]
  rfl

end Vm
end

section
namespace Vm
open Go
variable {S : Sig} {R : Type} {P : Program} [Prog S] {st : St S} {o : Oper}

/-- The world grows, and no block of ours is touched. -/
def Cx.gr (X : Cx S) (w : World) : Cx S := { X with w := w }

theorem Ext.gr {X : Cx S} {w : World} (h : Chg (fun _ => False) X.w w) : Ext X (X.gr w) := by
  refine ⟨⟨h.os, h.tape, h.output, h.size, fun b hb _ => h.block b hb id⟩, fun r hr => .inl hr, fun b c h => ⟨c, h, ?_⟩⟩
  cases c <;> simp [stepB, Cx.gr]

theorem WF.gr {X : Cx S} (h : WF X) {w : World} (hw : Chg (fun _ => False) X.w w) : WF (X.gr w) :=
  ⟨fun b c hc => (Ext.gr hw).relB (h.blk b c hc) rfl (fun r n hr => hw.block r (g_lt h hc hr) id), fun b b' c c' r n n' => h.inj b b' c c' r n n', fun r hr => Nat.lt_of_lt_of_le (h.m0 r hr) hw.size, fun b c r n => h.sep b c r n, (Ext.gr hw).gl h.gl⟩

/-- An operation that leaves all our blocks alone, in a world that grows. -/
theorem OpTr.grow {p : PV S} {rd : List Nat}
    (h : ∀ (X : Cx S) (a : Act), WF X → Knows X st (tmpsOf o.op.operands.toList) a → (∀ b, b ∈ rd → X.hp b = lk b st.hp) →
      ∃ v w, (execOp a.eval o).run P X.w = .ok (.value v) w ∧ Chg (fun _ => False) X.w w ∧ RelP (X.gr w) p v) :
    EffOk st (⟨p, rd, [], st.hp, st.nx⟩ : Eff S) ∧ OpTr P st o ⟨p, rd, [], st.hp, st.nx⟩ := by
  refine ⟨⟨Nat.le_refl _, fun _ _ _ => rfl⟩, fun X a next Q hX hk hb hn => ?_⟩
  obtain ⟨v, w, h1, h2, h3⟩ := h X a hX hk hb.rd
  unfold Oper.wp
  rw [h1]
  exact hn (X.gr w) v (Ext.gr h2) (hX.gr h2) rfl h3 (fun b => by rw [if_neg (by simp only [List.not_mem_nil, false_or]; omega)]; rfl)

theorem sl_of_lay [TabOk (S := S) P] {t : TypeId} {k : S.K} (ht : Tab.at (Prog.tab : Tab S) t = .sl k) : ∃ e ei ze, P.underlying t = some (.slice e) ∧ P.info? e = some ei ∧ ei.size = S.es k ∧ S.es k ≠ 0 ∧ ei.zero = some ze ∧ ze.cells.size = S.es k ∧
    (∀ (w : World) (M : Nat → Prop), RelFs w M (enc k (Zeros.zero k)) ze.cells.toList) ∧ ei.bytes * Prog.lim k ≤ 2 ^ 46 ∧ Prog.lim k ≤ 2 ^ 46 := by
  have h := TabOk.ok (S := S) (P := P) t
  rw [ht] at h
  obtain ⟨i, e, ei, ze, h1, h2, h3, h4, h5, h6, h7, h8, h9, h10, h11, h12⟩ := h
  exact ⟨e, ei, ze, h3, h4, h5, h6, h7, h8, h9, h10, h11⟩

theorem str_of_lay [TabOk (S := S) P] {t : TypeId} (ht : Tab.at (Prog.tab : Tab S) t = .sc .str) : P.underlying t = some .string := by
  have h := TabOk.ok (S := S) (P := P) t
  rw [ht] at h
  obtain ⟨_, i, d, z, _, _, _, _, _, _, _, hu⟩ := h
  exact hu

theorem sc_of_lay [TabOk (S := S) P] {t : TypeId} {s : Sh S.K} (ht : Tab.at (Prog.tab : Tab S) t = .sc s) : ∃ d, P.underlying t = some d := by
  have h := TabOk.ok (S := S) (P := P) t
  rw [ht] at h
  obtain ⟨_, i, d, z, _, _, h3, _⟩ := h
  exact ⟨d, h3⟩

theorem rel_bytes [TabOk (S := S) P] {w : World} {M : Nat → Prop} : ∀ l : List UInt8, RelEs (S := S) w M (Prog.byte (S := S)) (l.map fun b => Prog.ofB (b.toNat : Int)) (l.map fun b => .int .u8 (b.toNat : Int))
  | [] => .nil _
  | b :: l => by
    refine .cons Prog.byte (Prog.ofB (b.toNat : Int)) _ [.int .u8 (b.toNat : Int)] _ (by rw [TabOk.byteEs (S := S) (P := P)]; rfl) ?_ (rel_bytes l)
    rw [TabOk.byte (S := S) (P := P), TabOk.byteOf (S := S) (P := P)]
    exact .cons _ _ [_] [] rfl (.int _ _) .nil

theorem op_convBytes [TabOk (S := S) P] {s t : TypeId} {x : Operand} (ho : o.op = .convert s t x) {l : List UInt8} (hx : ev st x = some (.e (.sc (.f (.str l))))) (ht : Tab.at (Prog.tab : Tab S) t = .sl Prog.byte) (hs : ∃ d, P.underlying s = some d) :
    EffOk st (⟨.e (.sc (.f (.sl Prog.byte (l.map fun b => Prog.ofB (b.toNat : Int))))), [], [], st.hp, st.nx⟩ : Eff S) ∧ OpTr P st o ⟨.e (.sc (.f (.sl Prog.byte (l.map fun b => Prog.ofB (b.toNat : Int))))), [], [], st.hp, st.nx⟩ := by
  obtain ⟨e, ei, ze, h1, h2, h3, h4, h5, h6, h7, h8, h9⟩ := sl_of_lay (P := P) ht
  have he := TabOk.byteEl (S := S) (P := P) t e ht h1
  obtain ⟨d, hs⟩ := hs
  refine OpTr.grow fun X a hX hk _ => ?_
  have ex := rel_str (ev_sound (X := X) (a := a) hx hk (fun t' e => by rw [ho]; subst e; simp [Op.operands, tmpsOf]))
  have hr := Go.Lib.run_convert_string_bytes (P := P) X.w s t e ⟨l.toArray⟩ hs h1 he
  refine ⟨.slice (some ⟨X.w.heap.size, 0, none⟩) (⟨l.toArray⟩ : ByteArray).size (grownCap X.w (⟨l.toArray⟩ : ByteArray).size 0 e), Go.Lib.bytesWorld X.w e ⟨l.toArray⟩, by simp only [execOp, ho, ex, Sem.run_bind, hr]; rfl, ⟨rfl, rfl, rfl, by rw [Go.Lib.bytesWorld_size]; omega, fun b hb _ => Go.Lib.bytesWorld_at_old _ _ _ b hb⟩, ?_, rfl⟩
  have hsz : (⟨l.toArray⟩ : ByteArray).size = (l.map fun b => (Prog.ofB (b.toNat : Int) : S.Ty Prog.byte)).length := by simp [ByteArray.size]
  rw [hsz]
  refine .f _ _ (.sl _ _ _ _ _ _ (fun hm => ?_) (by show _ < (Go.Lib.bytesWorld _ _ _).heap.size; rw [Go.Lib.bytesWorld_size]; omega) ?_ ?_ (rel_bytes (P := P) l))
  · rcases hm with hm | ⟨b, c, n, g1, g2, g3⟩
    · have := hX.m0 _ hm; omega
    · have := g_lt hX g1 g3; omega
  · simp only [grownCap, Question.cut]
    simp [ByteArray.size]
  · intro j v hj
    rw [List.getElem?_map] at hj
    cases hb : l[j]? with
    | none => simp [hb] at hj
    | some b =>
      simp only [hb, Option.map_some, Option.some.injEq] at hj
      have hlt : j < l.length := by
        rcases Nat.lt_or_ge j l.length with h | h
        · exact h
        · rw [List.getElem?_eq_none h] at hb; cases hb
      have := Go.Lib.bytesWorld_cell X.w e ⟨l.toArray⟩ j (by simpa [ByteArray.size] using hlt)
      simp only [Nat.zero_add]
      refine this.trans ?_
      rw [← hj]
      simp [List.getD, hb]

theorem bytes_rel [TabOk (S := S) P] {w : World} {M : Nat → Prop} : ∀ (L : List (S.Ty (Prog.byte (S := S)))) (us : List Value), RelEs w M Prog.byte L us → us = (L.map Prog.toB).map (Value.int .u8)
  | _, _, .nil _ => rfl
  | _, _, .cons _ x L us vs h1 h2 h3 => by
    have ih := bytes_rel L vs h3
    rw [TabOk.byte (S := S) (P := P)] at h2
    cases h2 with
    | cons _ _ us' vs' a b c =>
      cases c; cases b
      simp [ih]

theorem op_convBack [TabOk (S := S) P] {s t : TypeId} {x : Operand} (ho : o.op = .convert s t x) {c : Cell S} (hx : ev st x = some (.e (.sc c))) (hs : Tab.at (Prog.tab : Tab S) s = .sl Prog.byte) (ht : Tab.at (Prog.tab : Tab S) t = .sc .str)
    {L : List (S.Ty Prog.byte)} (hd : dec1C st.hp (.sl (Prog.byte : S.K)) c = some L) :
    EffOk st (⟨.e (.sc (.f (.str (L.map fun x => UInt8.ofNat (Prog.toB x).toNat)))), lives [c], [], st.hp, st.nx⟩ : Eff S) ∧ OpTr P st o ⟨.e (.sc (.f (.str (L.map fun x => UInt8.ofNat (Prog.toB x).toNat)))), lives [c], [], st.hp, st.nx⟩ := by
  obtain ⟨e, ei, ze, h1, h2, h3, h4, h5, h6, h7, h8, h9⟩ := sl_of_lay (P := P) hs
  have he := TabOk.byteEl (S := S) (P := P) s e hs h1
  have hu := str_of_lay (P := P) ht
  refine OpTr.val fun X a hX hk hrd => ?_
  have hr : RelE X (.sc c) (a.eval x) := ev_sound (X := X) (a := a) hx hk (fun t' e => by rw [ho]; subst e; simp [Op.operands, tmpsOf])
  have hh := dec_sound hX hd hr.1 hrd
  have hsl : ∃ b n q, a.eval x = .slice b n q := by
    rcases hh.form P with h | ⟨s, h⟩
    · exact h
    · rw [h] at hr
      exfalso
      have hr1 := hr.1
      cases c with
      | nilsl => cases hr1
      | asl => cases hr1
      | live b v =>
        cases hr1 with | live _ _ _ _ _ _ _ q1 q2 q3 q4 =>
          simp only [dec1C] at hd
          split at hd <;> try (simp at hd; done)
          rename_i k' L' v' z' hlk
          cases hv : Nat.beq v v' with
          | false => simp [hv] at hd
          | true =>
            have hv := Nat.eq_of_beq_eq_true hv
            have := (hrd b (by simp [lives])).trans hlk
            rw [this] at q1; cases q1
            have := q3 hv
            unfold liveAt at this
            split at this
            · obtain ⟨_, _, h⟩ := this; cases h
            · cases this
      | f fc =>
        have := dec1_sound (.sl Prog.byte) fc L (by cases fc <;> exact hd)
        rw [← this] at hr1
        cases hr1 with | f _ _ h => cases h
      | _ => simp [dec1C] at hd
  obtain ⟨b, n, q, hv⟩ := hsl
  rw [hv] at hh hr
  obtain ⟨us, g1, g2, g3⟩ := hh
  have g3 := g3 P
  have g2 : n = L.length := g2
  subst g2
  refine ⟨.string ⟨(L.map fun x => UInt8.ofNat (Prog.toB x).toNat).toArray⟩, ?_, .f _ _ (.str _), rfl⟩
  have hb := bytes_rel (P := P) _ _ g1
  have hc : (convert s t (.slice b L.length q)).run P X.w = .ok (.string ⟨(L.map fun x => UInt8.ofNat (Prog.toB x).toNat).toArray⟩) X.w := by
    rw [run_convert_bytes_string X.w s t e b L.length q h1 he hu]
    cases b with
    | none =>
      simp only [Builtin.firstCells, Sem.run_pure, Result.ok.injEq, and_true] at g3
      have : us = [] := by simpa using congrArg Array.toList g3.symm
      rw [this] at hb
      have : L = [] := by simpa using hb
      subst this
      rfl
    | some ad =>
      simp only [Builtin.firstCells, TabOk.byteEs (S := S) (P := P), Nat.mul_one] at g3
      rw [run_bytesToString X.w ad L.length q (L.map Prog.toB) (by rw [g3, hb])]
      congr 2
      have : ∀ (ns : List Int) (s : ByteArray), ns.foldl (fun r n => r.push (UInt8.ofNat n.toNat)) s = ⟨s.data ++ (ns.map fun n => UInt8.ofNat n.toNat).toArray⟩ := by
        intro ns
        induction ns with
        | nil => intro s; simp
        | cons n ns ih => intro s; rw [List.foldl_cons, ih]; simp [ByteArray.push]
      rw [this]
      simp [Function.comp_def]
  simp only [execOp, ho, hv, Sem.run_bind, hc]; rfl

end Vm
end

section
namespace Vm
open Go
variable {S : Sig} {R : Type} {P : Program} [Prog S] {st : St S} {o : Oper}

def NumV : Option Value → Option Int → Prop
  | none, none => True
  | some v, some n => v = .int .i64 n
  | _, _ => False

theorem within_iff {a b n : Int} (h : within a b n = true) : 0 ≤ a ∧ a ≤ b ∧ b ≤ n := by
  simp only [within, Bool.and_eq_true, decide_eq_true_eq] at h
  exact ⟨h.1.1, h.1.2, h.2⟩

theorem run_bounds (isSlice : Bool) (len cap : Nat) {lo hi : Option Value} {lo' hi' : Option Int} (hl : NumV lo lo') (hh : NumV hi hi') (hw : within (lo'.getD 0) (hi'.getD len) len = true) (hc : len ≤ cap) (w : World) :
    (Instr.sliceBounds isSlice len cap lo hi none).run P w = .ok ((lo'.getD 0).toNat, (hi'.getD len).toNat, cap) w := by
  obtain ⟨h1, h2, h3⟩ := within_iff hw
  cases lo <;> cases lo' <;> simp only [NumV] at hl <;> cases hi <;> cases hi' <;> simp only [NumV] at hh
  · simp [Instr.sliceBounds]
  · subst hh
    simp only [Option.getD_none, Option.getD_some] at *
    rename_i b
    have e : b ≤ (cap : Int) := by omega
    simp [Instr.sliceBounds, run_sliceBound, h2, e]
  · subst hl
    simp only [Option.getD_none, Option.getD_some] at *
    simp [Instr.sliceBounds, run_sliceBound, h1, h2]
  · subst hl; subst hh
    simp only [Option.getD_some] at *
    rename_i a b
    have e : (b.toNat : Int) = b := Int.toNat_of_nonneg (by omega)
    simp [Instr.sliceBounds, run_sliceBound, h1, (by omega : (0:Int) ≤ b), (by omega : b ≤ (cap : Int)), e, h2]

theorem cut_len {α : Type} {s : List α} {a b : Int} (h : within a b s.length = true) : (cut s a b).length = b.toNat - a.toNat := by
  obtain ⟨h1, h2, h3⟩ := within_iff h
  simp [cut]; omega

/-- Part of a slice that is data. -/
theorem rel_cut {X : Cx S} {k : S.K} {s : List (S.Ty k)} {ad : Option Addr} {n q : Nat} {a b : Int} (h : within a b s.length = true) (hr : RelF X.w X.M (.sl k s) [.slice ad n q]) :
    RelF X.w X.M (.sl k (cut s a b)) [sliced ad a.toNat b.toNat q (S.es k)] ∧ n = s.length ∧ n ≤ q := by
  obtain ⟨h1, h2, h3⟩ := within_iff h
  cases hr with
  | sl0 =>
    have ha : a.toNat = 0 := by simp at h3; omega
    have hb : b.toNat = 0 := by simp at h3; omega
    refine ⟨?_, rfl, Nat.zero_le _⟩
    simp only [cut, List.take_nil, List.drop_nil, sliced, ha, hb, Nat.sub_zero]
    exact .sl0 _ _ _
  | sl _ _ r off _ us g1 g2 g3 g4 g5 =>
    refine ⟨?_, rfl, g3⟩
    have hlen := cut_len h
    by_cases h0 : b.toNat - a.toNat = 0
    · have : cut s a b = [] := List.eq_nil_of_length_eq_zero (by omega)
      rw [this]
      simp only [sliced, h0]
      exact .sl0 _ _ _
    · have hne : q ≠ a.toNat := by omega
      simp only [sliced, if_neg hne, Option.map_some, add_addr]
      rw [← hlen]
      have hl := g5.len
      have m1 : a.toNat * S.es k ≤ b.toNat * S.es k := Nat.mul_le_mul_right _ (by omega)
      have m2 : b.toNat * S.es k ≤ us.length := by rw [hl]; exact Nat.mul_le_mul_right _ (by omega)
      refine .sl _ _ r _ _ ((us.take (b.toNat * S.es k)).drop (a.toNat * S.es k)) g1 g2 (by rw [hlen]; omega) ?_ ((g5.take b.toNat).drop a.toNat)
      rw [← List.take_append_drop (b.toNat * S.es k) us] at g4
      have g4 := g4.take
      rw [← List.take_append_drop (a.toNat * S.es k) (us.take (b.toNat * S.es k))] at g4
      have g4 := g4.drop
      have : ((us.take (b.toNat * S.es k)).take (a.toNat * S.es k)).length = a.toNat * S.es k := by
        simp only [List.length_take]; omega
      rwa [this] at g4

/-- A slice's own type. -/
theorem run_sliceAt_sl [TabOk (S := S) P] {t : TypeId} {k : S.K} (ht : Tab.at (Prog.tab : Tab S) t = .sl k) {ad : Option Addr} {n q : Nat} {lo hi : Option Value} {lo' hi' : Option Int} (hl : NumV lo lo') (hh : NumV hi hi')
    (hw : within (lo'.getD 0) (hi'.getD n) n = true) (hc : n ≤ q) (w : World) : (Instr.sliceAt t (.slice ad n q) lo hi none).run P w = .ok (sliced ad (lo'.getD 0).toNat (hi'.getD n).toNat q (S.es k)) w := by
  obtain ⟨e, ei, ze, h1, h2, h3, _⟩ := sl_of_lay (P := P) ht
  simp only [Instr.sliceAt, Sem.run_bind, run_underlying h1, Result.andThen_ok, Instr.slice, run_bounds true n q hl hh hw hc, run_sizeOf' h2, h3]
  simp [sliced]

theorem nothing_iff {hi lo mx : Option Int} (h : nothing hi lo mx = true) : hi = some 0 ∧ lo = none ∧ mx = some 0 := by
  unfold nothing at h
  split at h <;> split at h <;> split at h <;> simp_all

theorem NumV.none {v : Option Value} (h : NumV v none) : v = none := by cases v <;> first | rfl | exact h.elim
theorem NumV.some {v : Option Value} {n : Int} (h : NumV v (some n)) : v = some (.int .i64 n) := by cases v with | none => exact h.elim | some v => exact congrArg _ h

theorem run_sliceAt_nothing [TabOk (S := S) P] {t : TypeId} {k : S.K} (ht : Tab.at (Prog.tab : Tab S) t = .sl k) {ad : Option Addr} {n q : Nat} {lo hi mx : Option Value} {lo' hi' mx' : Option Int} (hl : NumV lo lo') (hh : NumV hi hi') (hm : NumV mx mx')
    (hw : nothing hi' lo' mx' = true) (w : World) : ∃ a, (Instr.sliceAt t (.slice ad n q) lo hi mx).run P w = .ok (.slice a 0 0) w := by
  obtain ⟨rfl, rfl, rfl⟩ := nothing_iff hw
  obtain rfl := hl.none
  obtain rfl := hh.some
  obtain rfl := hm.some
  obtain ⟨e, ei, ze, h1, h2, h3, _⟩ := sl_of_lay (P := P) ht
  refine ⟨ad, ?_⟩
  simp [Instr.sliceAt, run_underlying h1, Instr.slice, Instr.sliceBounds, run_sliceBound, run_sizeOf' h2]

theorem op_slice [TabOk (S := S) P] {t : TypeId} {x : Operand} {lo hi mx : Option Operand} (ho : o.op = .slice t x lo hi mx) {c : Cell S} (hx : ev st x = some (.e (.sc c))) {lo' hi' mx' : Option Int}
    (hn : ∀ (X : Cx S) (a : Act), Knows X st (tmpsOf o.op.operands.toList) a → NumV (lo.map a.eval) lo' ∧ NumV (hi.map a.eval) hi' ∧ NumV (mx.map a.eval) mx')
    {K : Eff S → Option R} {r : R} (h : sliceK (Tab.at (Prog.tab : Tab S) t) st c lo' hi' mx' K = some r) : ∃ e, K e = some r ∧ EffOk st e ∧ OpTr P st o e := by
  have hev : ∀ (X : Cx S) (a : Act), Knows X st (tmpsOf o.op.operands.toList) a → RelC X c [a.eval x] := fun X a hk => (ev_sound hx hk (fun t' e => by rw [ho]; subst e; simp [Op.operands, tmpsOf]) : RelE X (.sc c) (a.eval x)).1
  have hrun : ∀ (X : Cx S) (a : Act) (v : Value), (Instr.sliceAt t (a.eval x) (lo.map a.eval) (hi.map a.eval) (mx.map a.eval)).run P X.w = .ok v X.w → (execOp a.eval o).run P X.w = .ok (.value v) X.w := by
    intro X a v h
    simp [execOp, ho, h]
  unfold sliceK at h
  split at h
  · -- of a slice
    rename_i k' ht
    cases hno : nothing hi' lo' mx' with
    | true =>
      simp only [hno, cond_true] at h
      have key : ∀ rd, (∀ (X : Cx S) (v : Value), RelC X c [v] → (∀ b, b ∈ rd → X.hp b = lk b st.hp) → ∃ ad n q, v = .slice ad n q) → EffOk st (⟨.e (.sc .nilsl), rd, [], st.hp, st.nx⟩ : Eff S) ∧ OpTr P st o ⟨.e (.sc .nilsl), rd, [], st.hp, st.nx⟩ := by
        intro rd hc
        refine OpTr.val fun X a hX hk hrd => ?_
        obtain ⟨ad, n, q, hv⟩ := hc X _ (hev X a hk) hrd
        obtain ⟨n1, n2, n3⟩ := hn X a hk
        obtain ⟨a', hr⟩ := run_sliceAt_nothing (P := P) ht (ad := ad) (n := n) (q := q) n1 n2 n3 hno X.w
        exact ⟨_, hrun X a _ (by rw [hv]; exact hr), .nilsl a', rfl⟩
      split at h <;> try (simp at h; done)
      · refine ⟨_, h, key _ fun X v hr hrd => ?_⟩
        cases hr with | f _ _ hr => cases hr <;> exact ⟨_, _, _, rfl⟩
      · rename_i r0 ver
        split at h <;> try (simp at h; done)
        rename_i k s ver' z hlk
        cases hv : Nat.beq ver ver' with
        | false => simp [hv] at h
        | true =>
        simp only [hv, cond_true] at h
        have hv := Nat.eq_of_beq_eq_true hv
        subst hv
        refine ⟨_, h, key _ fun X v hr hrd => ?_⟩
        have hXb : X.hp r0 = some (.arr k s ver z) := (hrd r0 (by simp)).trans hlk
        cases hr with
        | live _ _ _ _ _ _ _ q1 q2 q3 q4 =>
          rw [hXb] at q1; cases q1
          have := q3 rfl
          unfold liveAt at this
          split at this
          · obtain ⟨_, _, h⟩ := this; exact ⟨_, _, _, h⟩
          · exact ⟨_, _, _, this⟩
      · refine ⟨_, h, key _ fun X v hr hrd => ?_⟩
        cases hr; exact ⟨_, _, _, rfl⟩
    | false =>
      simp only [hno, cond_false] at h
      split at h <;> try (simp at h; done)
      split at h <;> try (simp at h; done)
      · rename_i k s
        split at h <;> try (simp at h; done)
        rename_i hk; subst hk
        cases hw : within (lo'.getD 0) (hi'.getD (s.length : Int)) s.length with
        | false => simp [hw] at h
        | true =>
        simp only [hw, cond_true] at h
        refine ⟨_, h, OpTr.val fun X a hX hk _ => ?_⟩
        obtain ⟨n1, n2, n3⟩ := hn X a hk
        have hr := hev X a hk
        have hsl : ∃ ad n q, a.eval x = .slice ad n q := by
          cases hr with | f _ _ hr => generalize a.eval x = v at hr; cases hr <;> exact ⟨_, _, _, rfl⟩
        obtain ⟨ad, n, q, hv⟩ := hsl
        rw [hv] at hr
        cases hr with | f _ _ hr =>
        obtain ⟨g1, rfl, g3⟩ := rel_cut hw hr
        have hs := run_sliceAt_sl (P := P) ht (ad := ad) (q := q) n1 n2 hw g3 X.w
        rw [← n3.none] at hs
        exact ⟨_, hrun X a _ (by rw [hv]; exact hs), .f _ _ g1, rfl⟩
      · cases hw : within (lo'.getD 0) (hi'.getD 0) 0 with
        | false => simp [hw] at h
        | true =>
        simp only [hw, cond_true] at h
        refine ⟨_, h, OpTr.val fun X a hX hk _ => ?_⟩
        obtain ⟨n1, n2, n3⟩ := hn X a hk
        have hr := hev X a hk
        generalize hv : a.eval x = v at hr
        cases hr with
        | nilsl ad =>
          have hs := run_sliceAt_sl (P := P) ht (ad := ad) (n := 0) (q := 0) n1 n2 (by simpa using hw) (Nat.le_refl _) X.w
          rw [← n3.none] at hs
          refine ⟨_, hrun X a _ (by rw [hv]; exact hs), ?_, rfl⟩
          obtain ⟨w1, w2, w3⟩ := within_iff hw
          have e1 : (lo'.getD 0).toNat = 0 := by omega
          have e2 : (hi'.getD ((0 : Nat) : Int)).toNat = 0 := by simp only [Int.ofNat_eq_natCast, Int.natCast_zero]; omega
          simp only [e1, e2, sliced, if_true, Nat.sub_zero]
          exact .nilsl ad
      · rename_i r0 ver
        split at h <;> try (simp at h; done)
        rename_i k s ver' z hlk
        split at h <;> try (simp at h; done)
        rename_i hk; subst hk
        cases hv : Nat.beq ver ver' with
        | false => simp [hv] at h
        | true =>
        have hv := Nat.eq_of_beq_eq_true hv
        subst hv
        cases hw : within (lo'.getD 0) (hi'.getD (s.length : Int)) s.length with
        | false => simp [hw] at h
        | true =>
        simp only [hw, Nat.beq_refl, cond_true] at h
        refine ⟨_, h, ⟨Nat.le_refl _, fun b' hb' _ => ?_⟩, fun X a next Q hX hk hb hnx => ?_⟩
        · rw [lk_cons, if_neg (fun e => hb' (by simp [e]))]
        · obtain ⟨n1, n2, n3⟩ := hn X a hk
          have hXb : X.hp r0 = some (.arr k s ver z) := (hb.wr r0 (by simp)).trans hlk
          have hr := (Ext.fr (X := X) r0).relC (hev X a hk)
          have hd : RelF (X.fr r0).w (X.fr r0).M (.sl k s) [a.eval x] :=
            dec1C_sound (hX.fr r0) (hp := st.hp) (s := .sl k) (c := .live r0 ver) (d := s) (by simp [dec1C, hlk]) hr (fun b hb => by
              simp only [lives, List.mem_singleton] at hb
              subst hb
              exact ⟨_, hlk, by simp [Cx.fr, hXb]⟩)
          have hsl : ∃ ad n q, a.eval x = .slice ad n q := by
            generalize a.eval x = v at hd; cases hd <;> exact ⟨_, _, _, rfl⟩
          obtain ⟨ad, n, q, hv⟩ := hsl
          rw [hv] at hd
          obtain ⟨g1, rfl, g3⟩ := rel_cut hw hd
          have hs := run_sliceAt_sl (P := P) ht (ad := ad) (q := q) n1 n2 hw g3 X.w
          rw [← n3.none] at hs
          unfold Oper.wp
          rw [hrun X a _ (by rw [hv]; exact hs)]
          refine hnx (X.fr r0) _ (Ext.fr r0) (hX.fr r0) rfl ⟨.f _ _ g1, rfl⟩ (fun b => ?_)
          simp only [Cx.fr, List.mem_singleton, lk_cons]
          by_cases e : b = r0
          · subst e; simp [hXb, Blk.frozen]
          · rw [if_neg e, if_neg (by simp only [e, false_or]; omega)]
  · -- of a string
    rename_i ht
    split at h <;> try (simp at h; done)
    rename_i s
    cases hw : within (lo'.getD 0) (hi'.getD (s.length : Int)) s.length with
    | false => simp [hw] at h
    | true =>
    simp only [hw, cond_true] at h
    refine ⟨_, h, OpTr.fc rfl fun X a hX hk => ⟨_, ?_, .str _⟩⟩
    obtain ⟨n1, n2, n3⟩ := hn X a hk
    have ex := rel_str (X := X) ⟨hev X a hk, rfl⟩
    have hu := str_of_lay (P := P) ht
    have hb := run_bounds (P := P) false s.length s.length n1 n2 hw (Nat.le_refl _) X.w
    refine hrun X a _ ?_
    rw [ex, n3.none]
    have hsz : (⟨s.toArray⟩ : ByteArray).size = s.length := rfl
    simp only [Instr.sliceAt, Sem.run_bind, run_underlying hu, Result.andThen_ok, Instr.slice, hsz, hb, Option.isSome_none, Bool.false_eq_true, if_false]
    simp only [Sem.run_pure, Result.ok.injEq, Value.string.injEq, and_true]
    apply ByteArray.ext
    simp [ByteArray.data_extract, cut, List.drop_take]
  · -- of an array
    rename_i k n ht
    split at h <;> try (simp at h; done)
    rename_i b off
    split at h <;> try (simp at h; done)
    rename_i cs z hlk
    split at h <;> try (simp at h; done)
    rename_i k' n' L tl hs
    split at h <;> try (simp at h; done)
    rename_i hk; subst hk
    cases hn' : Nat.beq n' n with
    | false => simp [hn'] at h
    | true =>
    have hn' := Nat.eq_of_beq_eq_true hn'
    subst hn'
    cases hw : within (lo'.getD 0) (hi'.getD (n' : Int)) n' with
    | false => simp [hw] at h
    | true =>
    simp only [hw, Nat.beq_refl, Bool.and_self, cond_true] at h
    refine ⟨_, h, OpTr.val fun X a hX hk hrd => ?_⟩
    obtain ⟨n1, n2, n3⟩ := hn X a hk
    have hr := hev X a hk
    have hXb : X.hp b = some (.var cs z) := (hrd b (by simp)).trans hlk
    have hl := TabOk.ok (S := S) (P := P) t
    rw [ht] at hl
    obtain ⟨ti, et, ei, zs, h1, h2, h3, h4, h5, h6, _⟩ := hl
    generalize hv : a.eval x = v at hr
    have hb := run_bounds (P := P) false n' n' n1 n2 hw (Nat.le_refl _) X.w
    obtain ⟨w1, w2, w3⟩ := within_iff hw
    cases hr with
    | ptr _ _ r0 q cs' z' g1 g2 =>
      refine ⟨.slice (some (if n' = (lo'.getD 0).toNat then ⟨r0, off, none⟩ else (⟨r0, off, none⟩ : Addr).add ((lo'.getD 0).toNat * S.es k'))) ((hi'.getD (n' : Int)).toNat - (lo'.getD 0).toNat) (n' - (lo'.getD 0).toNat), hrun X a _ ?_, ?_, rfl⟩
      · rw [hv, n3.none]
        simp only [Instr.sliceAt, Sem.run_bind, run_underlying h3, Result.andThen_ok, Instr.sureAddr, hb, run_sizeOf' h4, h5, Sem.run_pure]
      · by_cases hlt : (lo'.getD 0).toNat < (hi'.getD (n' : Int)).toNat
        · rw [if_neg (by omega), add_addr]
          exact .asl _ _ _ _ _ r0 q cs' z' _ _ g1 g2 (fun _ => rfl) (by omega)
        · by_cases he : n' = (lo'.getD 0).toNat
          · rw [if_pos he]
            exact .asl _ _ _ _ _ r0 q cs' z' _ _ g1 g2 (fun h => absurd h hlt) (by omega)
          · rw [if_neg he, add_addr]
            exact .asl _ _ _ _ _ r0 q cs' z' _ _ g1 g2 (fun _ => rfl) (by omega)
  · simp at h

end Vm
end

section
namespace Vm
open Go
variable {S : Sig} {R : Type} {P : Program} [Prog S] {st : St S} {o : Oper}

theorem fill_elems {X Y : Cx S} (hX : WF X) (hY : WF Y) (he : Ext X Y) {hp : List (Nat × Blk S)} {k : S.K} : ∀ {ps : List (Nat × PE S)} {pv : List (Nat × Value)} {L : List (S.Ty k)} {j : Nat} {cur : List Value}, elemsOf hp k ps j = some L →
    RelParts X ps pv → (∀ b, b ∈ livesOf ps → ∃ x, lk b hp = some x ∧ Y.hp b = some x.frozen) → (j + ps.length) * S.es k ≤ cur.length →
    ∃ us, Instr.fill (fun i => some (i * S.es k, S.es k)) cur.toArray pv = some (cur.take (j * S.es k) ++ us ++ cur.drop ((j + ps.length) * S.es k)).toArray ∧ RelEs Y.w Y.M k L us ∧ us.length = ps.length * S.es k ∧ L.length = ps.length
  | [], pv, L, j, cur, h, hr, hz, hl => by
    simp only [elemsOf, Option.some.injEq] at h
    subst h
    cases hr
    exact ⟨[], by simp [Instr.fill], .nil k, by simp, rfl⟩
  | (i, p) :: ps, pv, L, j, cur, h, hr, hz, hl => by
    simp only [elemsOf] at h
    cases hc : Nat.beq i j && Nat.beq (widthsC p.cells) (S.es k) with
    | false => simp [hc] at h
    | true =>
      simp only [hc, cond_true] at h
      simp only [Bool.and_eq_true] at hc
      obtain ⟨hc1, hc2⟩ := hc
      have hc1 := Nat.eq_of_beq_eq_true hc1
      have hc2 := Nat.eq_of_beq_eq_true hc2
      subst hc1
      cases hd : decsC hp (S.sh k) p.cells with
      | none => simp [hd] at h
      | some d =>
        cases hL : elemsOf hp k ps (i + 1) with
        | none => simp [hd, hL] at h
        | some L' =>
          simp only [hd, hL, Option.some.injEq] at h
          subst h
          cases hr with
          | cons _ _ v _ pv' r1 r2 =>
            obtain ⟨u, e1, e2⟩ := r1.cells
            have hu : u.length = S.es k := e2.len.trans hc2
            have hb : i * S.es k + S.es k ≤ cur.length := by
              refine Nat.le_trans ?_ hl
              simp only [List.length_cons]
              rw [show i * S.es k + S.es k = (i + 1) * S.es k by rw [Nat.add_mul]; omega]
              exact Nat.mul_le_mul_right _ (by omega)
            have hone := fill_one (fun i => some (i * S.es k, S.es k)) cur u i (i * S.es k) v pv' (by simp [hu]) e1 (by omega)
            rw [hone]
            have hcl : (cur.take (i * S.es k) ++ u ++ cur.drop (i * S.es k + u.length)).length = cur.length := by simp; omega
            obtain ⟨us, f1, f2, f3, f4⟩ := fill_elems hX hY he hL r2 (fun b hb => hz b (by simp [livesOf, hb])) (cur := cur.take (i * S.es k) ++ u ++ cur.drop (i * S.es k + u.length)) (by
              rw [hcl]; refine Nat.le_trans ?_ hl; simp only [List.length_cons]; exact Nat.mul_le_mul_right _ (by omega))
            refine ⟨u ++ us, ?_, .cons k _ L' u us hu ?_ f2, by simp [hu, f3, Nat.add_mul]; omega, by simp [f4]⟩
            · rw [f1]
              congr 2
              have t1 : (cur.take (i * S.es k) ++ u ++ cur.drop (i * S.es k + u.length)).take ((i + 1) * S.es k) = cur.take (i * S.es k) ++ u := by
                have : (i + 1) * S.es k = (cur.take (i * S.es k) ++ u).length := by simp [hu, Nat.add_mul]; omega
                rw [this, List.take_left]
              have t2 : (cur.take (i * S.es k) ++ u ++ cur.drop (i * S.es k + u.length)).drop ((i + 1 + ps.length) * S.es k) = cur.drop ((i + (ps.length + 1)) * S.es k) := by
                have : (i + 1 + ps.length) * S.es k = (cur.take (i * S.es k) ++ u).length + ps.length * S.es k := by simp [hu, Nat.add_mul]; omega
                rw [this, ← List.drop_drop, List.drop_left, List.drop_drop]
                congr 1
                simp only [hu, Nat.add_mul, Nat.one_mul]
                omega
              rw [t1, t2]
              simp [List.append_assoc]
            · unfold enc; rw [S.toof]
              exact decsC_sound hY hd (he.relCs e2) (fun b hb => hz b (by simp [livesOf, hb]))

theorem RelParts.frz {X : Cx S} {hp : List (Nat × Blk S)} {bs : List Nat} (hX : WF X) (h : ∀ b, b ∈ bs → X.hp b = lk b hp) : ∀ {ps : List (Nat × PE S)} {pv : List (Nat × Value)}, RelParts X ps pv → (∀ b, b ∈ livesOf ps → b ∈ bs) →
    ∀ b, b ∈ livesOf ps → ∃ x, lk b hp = some x ∧ (X.frs bs).hp b = some x.frozen
  | [], _, _, _, b, hm => by simp [livesOf] at hm
  | (i, p) :: ps, _, .cons _ _ v _ pv r1 r2, hb, b, hm => by
    simp only [livesOf, List.mem_append] at hm
    obtain ⟨u, e1, e2⟩ := r1.cells
    rcases hm with hm | hm
    · exact frz_lives hX h e2 (fun b h => hb b (by simp [livesOf, h])) b hm
    · exact RelParts.frz hX h r2 (fun b h => hb b (by simp [livesOf, h])) b hm

theorem ar_of_lay [TabOk (S := S) P] {t : TypeId} {k : S.K} {n : Nat} (ht : Tab.at (Prog.tab : Tab S) t = .ar k n) : ∃ i e ei zs, P.info? t = some i ∧ P.underlying t = some (.array n e) ∧ P.info? e = some ei ∧ ei.size = S.es k ∧
    i.zero = some (.agg (List.toArray zs)) ∧ zs.length = n * S.es k ∧ (∀ X : Cx S, RelCs X [zero1 (.arr k n)] zs) := by
  have h := TabOk.ok (S := S) (P := P) t
  rw [ht] at h
  obtain ⟨i, e, ei, zs, h1, h2, h3, h4, h5, h6, h7, h8, h9, _⟩ := h
  exact ⟨i, e, ei, zs, h1, h3, h4, h5, h7, h8, h9⟩

theorem op_buildArr0 [TabOk (S := S) P] {t : TypeId} {parts : Array (Nat × Operand)} (ho : o.op = .build t parts) {k : S.K} {n : Nat} (ht : Tab.at (Prog.tab : Tab S) t = .ar k n)
    (hp : evParts st parts.toList = some []) :
    EffOk st (⟨.e (.ag [zero1 (.arr k n)]), [], [], st.hp, st.nx⟩ : Eff S) ∧ OpTr P st o ⟨.e (.ag [zero1 (.arr k n)]), [], [], st.hp, st.nx⟩ := by
  obtain ⟨i, e, ei, zs, h1, h2, h3, h4, h5, h6, h7⟩ := ar_of_lay (P := P) ht
  refine OpTr.val fun X a hX hk _ => ?_
  have hr := evParts_sound (X := X) (a := a) hk hp (fun t ht => by rw [ho]; simpa [Op.operands] using ht)
  have hb : P.built t ((parts.map fun (i, x) => (i, a.eval x)).toList) = some zs.toArray := by
    generalize hq : (parts.map fun (i, x) => (i, a.eval x)).toList = q
    have : q = [] := by
      generalize hq' : (parts.toList.map fun x => (x.1, a.eval x.2)) = q' at hr
      cases hr
      have : q = parts.toList.map fun x => (x.1, a.eval x.2) := by rw [← hq]; simp
      rw [this, hq']
    subst this
    simp [Program.built, h1, h2, h3, h5, Instr.fill, Value.cells]
  refine ⟨.agg zs.toArray, ?_, ⟨zs, rfl, h7 X⟩⟩
  simp only [execOp, ho, Sem.run_bind, run_build X.w t _ _ hb, Result.andThen_ok]
  rfl

theorem op_buildArr [TabOk (S := S) P] {t : TypeId} {parts : Array (Nat × Operand)} (ho : o.op = .build t parts) {k : S.K} {n : Nat} (ht : Tab.at (Prog.tab : Tab S) t = .ar k n) {ps : List (Nat × PE S)}
    (hp : evParts st parts.toList = some ps) (hn : ps.length = n) {L : List (S.Ty k)} (hL : elemsOf st.hp k ps 0 = some L) :
    EffOk st (⟨.e (.ag [.f (.arr k n L)]), livesOf ps, livesOf ps, frz st.hp (livesOf ps), st.nx⟩ : Eff S) ∧ OpTr P st o ⟨.e (.ag [.f (.arr k n L)]), livesOf ps, livesOf ps, frz st.hp (livesOf ps), st.nx⟩ := by
  obtain ⟨i, e, ei, zs, h1, h2, h3, h4, h5, h6, h7⟩ := ar_of_lay (P := P) ht
  refine ⟨⟨Nat.le_refl _, fun b hb _ => ?_⟩, fun X a next Q hX hk hb hnx => ?_⟩
  · rw [lk_frz]; simp only [frzAt]; rw [if_neg hb]
  · have hr := evParts_sound (X := X) (a := a) hk hp (fun t ht => by rw [ho]; simpa [Op.operands] using ht)
    obtain ⟨x1, x2, x3, x4, x5⟩ := Ext.frs (livesOf ps) X hX
    have hfz := hr.frz hX (bs := livesOf ps) (fun b h => hb.wr b h) (fun b h => h)
    obtain ⟨us, f1, f2, f3, f4⟩ := fill_elems hX x2 x1 hL hr hfz (cur := zs) (by rw [h6, ← hn]; simp)
    simp only [Nat.zero_mul, List.take_zero, List.nil_append, Nat.zero_add] at f1
    rw [hn, ← h6, List.drop_length, List.append_nil] at f1
    have hbt : P.built t ((parts.map fun (i, x) => (i, a.eval x)).toList) = some us.toArray := by
      simp only [Program.built, h1, h2, h3, h5, h4, Value.cells, Array.toList_map]
      exact f1
    have hrun : (execOp a.eval o).run P X.w = .ok (.value (.agg us.toArray)) X.w := by
      simp only [execOp, ho, Sem.run_bind, run_build X.w t _ _ hbt, Result.andThen_ok]
      rfl
    unfold Oper.wp
    rw [hrun]
    have hc : RelCs (X.frs (livesOf ps)) [.f (.arr k n L)] us := by
      have := RelCs.cons (X := X.frs (livesOf ps)) (.f (.arr k n L)) [] us [] (by rw [f3, hn]; rfl) (.f _ _ (.arr _ _ _ _ (by rw [f4, hn]) f2)) .nil
      simpa using this
    have hfin := hnx (X.frs (livesOf ps)) (.agg us.toArray) x1 x2 x4 ⟨us, rfl, hc⟩ (fun b => ?_)
    · show next _ X.w
      rw [← x3]; exact hfin
    · rw [frs_hp, lk_frz]
      simp only [frzAt]
      by_cases e' : b ∈ livesOf ps
      · simp [e', hb.wr b e']
      · rw [if_neg e', if_neg (by simp only [e', false_or]; omega)]

theorem op_buildSlice [TabOk (S := S) P] {t : TypeId} {n : Nat} {parts : Array (Nat × Operand)} (ho : o.op = .buildSlice t n parts) {k : S.K} (ht : Tab.at (Prog.tab : Tab S) t = .sl k) {ps : List (Nat × PE S)}
    (hp : evParts st parts.toList = some ps) (hn : ps.length = n) (hs : n * S.es k ≤ 16777216) {L : List (S.Ty k)} (hL : elemsOf st.hp k ps 0 = some L) :
    EffOk st (⟨.e (.sc (.live st.nx 0)), livesOf ps, livesOf ps, (st.nx, .arr k L 0 false) :: frz st.hp (livesOf ps), st.nx + 1⟩ : Eff S) ∧ OpTr P st o ⟨.e (.sc (.live st.nx 0)), livesOf ps, livesOf ps, (st.nx, .arr k L 0 false) :: frz st.hp (livesOf ps), st.nx + 1⟩ := by
  obtain ⟨e, ei, ze, h1, h2, h3, h4, h5, h6, h7, h8, h9⟩ := sl_of_lay (P := P) ht
  refine ⟨⟨Nat.le_succ _, fun b hb hb' => ?_⟩, fun X a next Q hX hk hb hnx => ?_⟩
  · rw [lk_cons, if_neg (fun e => hb' ⟨by omega, by simp only; omega⟩), lk_frz]; simp only [frzAt]; rw [if_neg hb]
  · have hr := evParts_sound (X := X) (a := a) hk hp (fun t ht => by rw [ho]; simpa [Op.operands] using ht)
    obtain ⟨x1, x2, x3, x4, x5⟩ := Ext.frs (livesOf ps) X hX
    have hfz := hr.frz hX (bs := livesOf ps) (fun b h => hb.wr b h) (fun b h => h)
    have hnew := hb.new st.nx (Nat.le_refl _) (Nat.lt_succ_self _)
    have hnewY : (X.frs (livesOf ps)).hp st.nx = none := by rw [frs_hp]; simp [frzAt, hnew]
    generalize hYd : X.frs (livesOf ps) = Y at *
    let zs : Array Value := if n * S.es k = 0 then #[] else ze.cells
    obtain ⟨us, f1, f2, f3, f4⟩ := fill_elems hX x2 x1 hL hr hfz (cur := ((Array.range (n * S.es k)).map (zs[· % zs.size]!)).toList) (by simp [hn])
    simp only [Nat.zero_mul, List.take_zero, List.nil_append, Nat.zero_add, Array.toArray_toList] at f1
    rw [List.drop_eq_nil_of_le (by simp [hn]), List.append_nil] at f1
    have hrun : (execOp a.eval o).run P X.w = .ok (.value (.slice (some ⟨X.w.heap.size, 0, none⟩) n n)) (X.w.alloc (.cells us.toArray e)) := by
      simp only [execOp, ho, Instr.buildSlice, Sem.run_bind, run_underlying h1, Result.andThen_ok, run_sizeOf' h2, h3]
      rw [if_neg (by omega)]
      by_cases h0 : n * S.es k = 0
      · have hzs : zs = #[] := if_pos h0
        rw [hzs] at f1
        simp only [if_pos h0, Sem.run_bind, Sem.run_pure, Result.andThen_ok, Array.toList_map]
        rw [f1]
        simp [newRow]
      · have hzs : zs = ze.cells := if_neg h0
        rw [hzs] at f1
        simp only [if_neg h0, Sem.run_bind, Sem.run_pure, run_zeroValue' h2 h5, Result.andThen_ok, Array.toList_map]
        rw [f1]
        simp [newRow]
    unfold Oper.wp
    rw [hrun]
    have hext : Ext Y (Y.al st.nx (.arr k L 0 false) (.cells us.toArray e) n) := Ext.al hnewY _ _ _
    have hwf := x2.al (b := st.nx) hnewY (.arr k L 0 false) (.cells us.toArray e) n (by
      have := RelB.made (Y := Y) (b := st.nx) (L := L) (v := 0) (vs := us) (rest := []) (e := e) (cap := n) rfl (by simpa using f2.up hext.chgM hext.m) (by omega) (by simp [f4, hn])
      simpa using this)
    have hfin := hnx (Y.al st.nx (.arr k L 0 false) (.cells us.toArray e) n) (.slice (some ⟨X.w.heap.size, 0, none⟩) n n) (x1.comp hext x4 x2) hwf x4 ⟨.live _ _ k L 0 false _ (by simp [Cx.al]) (Nat.le_refl _) (fun _ => ?_) rfl, rfl⟩ (fun b => ?_)
    · have hfin : next (a.put o.dst (.slice (some ⟨X.w.heap.size, 0, none⟩) n n)) (Y.w.alloc (.cells us.toArray e)) := hfin
      rw [x3] at hfin; exact hfin
    · simp only [liveAt, Cx.al, if_true, x3, f4, hn]
    · simp only [Cx.al, lk_cons, lk_frz, frzAt]
      by_cases e0 : b = st.nx
      · subst e0; rw [if_pos rfl, if_pos (.inr ⟨Nat.le_refl _, Nat.lt_succ_self _⟩), if_pos rfl]
      · rw [if_neg e0, ← hYd, frs_hp]
        simp only [frzAt, if_neg e0]
        by_cases e' : b ∈ livesOf ps
        · simp [e', hb.wr b e']
        · rw [if_neg e', if_neg (by simp only [e', false_or]; omega)]

theorem rel_madeCells {w : World} {M : Nat → Prop} {k : S.K} {z : S.Ty k} {ze : Array Value} (h0 : S.es k ≠ 0) (hs : ze.size = S.es k) (hz : RelFs w M (enc k z) ze.toList) : ∀ n, RelEs w M k (List.replicate n z) (madeCells ze (n * S.es k)).toList
  | 0 => by simp [madeCells, Array.range_zero']; exact .nil k
  | n + 1 => by
    have ih := rel_madeCells h0 hs hz n
    have e : (madeCells ze ((n + 1) * S.es k)).toList = ze.toList ++ (madeCells ze (n * S.es k)).toList := by
      apply List.ext_getElem
      · simp [madeCells, hs, Nat.add_mul]; omega
      · intro i h1 h2
        simp only [madeCells, Array.getElem_toList, Array.getElem_map, Array.getElem_range, hs]
        by_cases hi : i < S.es k
        · rw [List.getElem_append_left (by simpa [hs] using hi), Nat.mod_eq_of_lt hi]
          simp [hs, hi]
        · rw [List.getElem_append_right (by simpa [hs] using Nat.le_of_not_lt hi)]
          simp only [Array.getElem_toList, Array.getElem_map, Array.getElem_range, Array.length_toList, hs]
          congr 1
          rw [Nat.mod_eq_sub_mod (Nat.le_of_not_lt hi)]
    rw [e, List.replicate_succ]
    exact .cons k z _ _ _ (by simpa using hs) hz ih

theorem op_makeSlice [TabOk (S := S) P] {t : TypeId} {x y : Operand} (ho : o.op = .makeSlice t x y) {k : S.K} (ht : Tab.at (Prog.tab : Tab S) t = .sl k) {n c : Int} (hx : ev st x = some (.e (.sc (.f (.int .i64 n)))))
    (hy : ev st y = some (.e (.sc (.f (.int .i64 c))))) (h0 : 0 ≤ n) (hnc : n ≤ c) (hlim : c ≤ (Prog.lim k : Int)) :
    EffOk st (⟨.e (.sc (.live st.nx 0)), [], [], (st.nx, .arr k (List.replicate n.toNat (Zeros.zero k)) 0 false) :: st.hp, st.nx + 1⟩ : Eff S) ∧
    OpTr P st o ⟨.e (.sc (.live st.nx 0)), [], [], (st.nx, .arr k (List.replicate n.toNat (Zeros.zero k)) 0 false) :: st.hp, st.nx + 1⟩ := by
  obtain ⟨e, ei, ze, h1, h2, h3, h4, h5, h6, h7, h8, h9⟩ := sl_of_lay (P := P) ht
  refine OpTr.alloc fun X a hX hk _ hnew => ?_
  have ex := rel_int (ev_sound (X := X) (a := a) hx hk (fun t' e => by rw [ho]; subst e; simp [Op.operands, tmpsOf]))
  have ey := rel_int (ev_sound (X := X) (a := a) hy hk (fun t' e => by rw [ho]; subst e; exact mem_tmps1 (by simp [Op.operands]) t' rfl))
  have hb : (ei.bytes : Int) * c ≤ 281474976710656 := by
    have h10 : ((ei.bytes * Prog.lim k : Nat) : Int) ≤ 2 ^ 46 := by exact_mod_cast h8
    rw [Int.natCast_mul] at h10
    have := Int.mul_le_mul_of_nonneg_left hlim (Int.natCast_nonneg ei.bytes)
    omega
  have hr := run_make (P := P) X.w t e ei ze h1 h2 h5 .i64 .i64 n c h0 hnc hb (by omega)
  rw [h3] at hr
  refine ⟨X, _, _, c.toNat, Ext.refl X, hX, rfl, rfl, by simp only [execOp, ho, ex, ey, Sem.run_bind, hr]; rfl, ?_, ⟨.live _ _ k _ 0 false _ (by simp [Cx.al]; rfl) (Nat.le_refl _) (fun _ => ?_) rfl, rfl⟩⟩
  · have hz := fun w M => rel_madeCells (w := w) (M := M) h4 h6 (h7 w M)
    have hsplit : (madeCells ze.cells (c.toNat * S.es k)).toList = (madeCells ze.cells (n.toNat * S.es k)).toList ++ (madeCells ze.cells (c.toNat * S.es k)).toList.drop (n.toNat * S.es k) := by
      have : (madeCells ze.cells (n.toNat * S.es k)).toList = (madeCells ze.cells (c.toNat * S.es k)).toList.take (n.toNat * S.es k) := by
        apply List.ext_getElem
        · simp [madeCells]; rw [show min n.toNat c.toNat = n.toNat by omega]
        · intro i g1 g2
          simp [madeCells]
      rw [this, List.take_append_drop]
    have hm := RelB.made (Y := X) (b := st.nx) (k := k) (L := List.replicate n.toNat (Zeros.zero k)) (v := 0) (vs := (madeCells ze.cells (n.toNat * S.es k)).toList) (rest := (madeCells ze.cells (c.toNat * S.es k)).toList.drop (n.toNat * S.es k)) (e := e) (cap := c.toNat) rfl (hz _ _ _) (by simp; omega)
      (by simp [madeCells, ← Nat.sub_mul])
    rw [← hsplit] at hm
    simpa using hm
  · simp [liveAt, Cx.al]

end Vm
end
