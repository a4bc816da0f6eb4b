/- The machine answers whole functions as the model does (parts U to Z); no conditions. -/
import Derived.Test.YtdkejaijokbinaaGreatDoorVmB
import Derived.Conc.MuLone
set_option linter.all false

section
namespace Vm
open Go
variable {S : Sig} {R : Type} {P : Program} [Prog S] {st : St S} {o : Oper}

theorem op_binAgg [TabOk (S := S) P] {op : BinOp} {xt yt : TypeId} {x y : Operand} (ho : o.op = .binOp op xt x y yt) {xs ys : List (Cell S)} (hx : ev st x = some (.e (.ag xs))) (hy : ev st y = some (.e (.ag ys))) {q : EqF S}
    (hq : lk xt (Prog.eqT (S := S)) = some q) {b : Bool} (hb : q xs ys = some b) (h : op = .eql ∨ op = .neq) :
    EffOk st (⟨.e (.sc (.f (.bool (if op = .eql then b else !b)))), [], [], st.hp, st.nx⟩ : Eff S) ∧ OpTr P st o ⟨.e (.sc (.f (.bool (if op = .eql then b else !b)))), [], [], st.hp, st.nx⟩ := by
  obtain ⟨h1, h2⟩ := TabOk.eqT (S := S) (P := P) xt q hq
  refine OpTr.fc rfl fun X a hX hk => ⟨_, ?_, .bool _⟩
  obtain ⟨us, e1, r1⟩ : RelE X (.ag xs) (a.eval x) := ev_x ho hx hk
  obtain ⟨vs, e2, r2⟩ : RelE X (.ag ys) (a.eval y) := ev_y ho hy hk
  have h3 := h2 X xs ys b us vs X.w hb r1 r2
  have hg := run_eqGuard_agg (P := P) X.w op xt x y us.toArray vs.toArray h1
  rcases h with rfl | rfl
  · have := run_eql_struct (P := P) X.w xt us.toArray vs.toArray
    rw [h3] at this
    simp only [execOp, ho, e1, e2, Sem.run_bind, hg, Result.andThen_ok, this, if_true]
    rfl
  · have := run_neq_struct (P := P) X.w xt us.toArray vs.toArray
    rw [h3] at this
    simp only [execOp, ho, e1, e2, Sem.run_bind, hg, Result.andThen_ok, this]
    rfl

theorem ptrs_rel {X : Cx S} : ∀ {bs : List Nat} {vs : List Value}, ptrs X bs vs → RelPL X (bs.map fun b => PV.e (.sc (.ptr b 0))) vs
  | [], [], _ => .nil
  | b :: bs, v :: vs, ⟨⟨r, n, cs, z, h1, h2, h3⟩, h4⟩ => by
    subst h3
    exact .cons ⟨.ptr b 0 r n cs z h1 h2, rfl⟩ (ptrs_rel h4)
  | [], _ :: _, hf => hf.elim
  | _ :: _, [], hf => hf.elim

theorem RelPL.append {X : Cx S} {ps qs : List (PV S)} {us vs : List Value} (h : RelPL X ps us) (k : RelPL X qs vs) : RelPL X (ps ++ qs) (us ++ vs) := by
  induction h with
  | nil => exact k
  | cons h _ ih => exact .cons h ih

theorem op_callF {c : Call} (ho : o.op = .call c) {f : Operand} (hf : c.callee = .value f) {fn : FuncId} (hx : ev st f = some (.e (.sc (.f (.fn fn))))) {ps : List (PV S)} (hp : evs st c.args.toList = some ps)
    (hb : Bodied P fn) {e : Eff S} (he : EffOk st e) (hc : CallTr P fn ps st e) : EffOk st e ∧ OpTr P st o e := by
  refine ⟨he, fun X a next Q hX hk hbf hn => ?_⟩
  have hops : o.op.operands.toList = f :: c.args.toList := by rw [ho]; simp [Op.operands, Call.operands, hf]
  have ef : RelC X (.f (.fn fn)) [a.eval f] := (ev_sound (X := X) (a := a) hx hk (fun t e => by rw [hops]; subst e; simp [tmpsOf]) : RelE X (.sc (.f (.fn fn))) _).1
  have ep := evs_sound (X := X) (a := a) hk hp (fun t ht => by rw [hops]; cases f <;> simp [tmpsOf, ht])
  generalize hv : a.eval f = v at ef
  cases ef with
  | f _ _ h =>
    cases h with
    | fn _ =>
      obtain ⟨func, body, g1, g2, g3⟩ := hb
      have hcalls := hc X _ hX ep hbf
      have hrun : (execOp a.eval o).run P X.w = .ok (.enter fn (c.args.toList.map a.eval).toArray) X.w := by
        have := Go.MuLone.run_callFunc_enter (P := P) g1 g2 g3 (c.args.map a.eval) X.w
        have e2 : (c.args.toList.map a.eval).toArray = c.args.map a.eval := by apply Array.ext'; simp
        rw [e2]
        simp only [execOp, ho, resolve, hf, hv, Deferred.ofValue, Sem.run_bind, Sem.run_pure, Result.andThen_ok, invoke]
        simpa using this
      unfold Oper.wp
      rw [hrun, Oper.upon_enter]
      refine hcalls.mono ?_
      rintro en w' ⟨X', v', rfl, rfl, h1, h2, h3, h4, h5⟩
      exact hn X' v' h1 h2 h3 h4 h5

theorem op_call {c : Call} (ho : o.op = .call c) {f : Operand} (hf : c.callee = .value f) {fn : FuncId} {caps : List Nat} (hx : ev st f = some (.e (.sc (.clo fn caps)))) {ps : List (PV S)} (hp : evs st c.args.toList = some ps)
    (hb : Bodied P fn) {e : Eff S} (he : EffOk st e) (hc : CallTr P fn (ps ++ caps.map fun b => .e (.sc (.ptr b 0))) st e) : EffOk st e ∧ OpTr P st o e := by
  refine ⟨he, fun X a next Q hX hk hbf hn => ?_⟩
  have hops : o.op.operands.toList = f :: c.args.toList := by rw [ho]; simp [Op.operands, Call.operands, hf]
  have ef : RelC X (.clo fn caps) [a.eval f] := (ev_sound (X := X) (a := a) hx hk (fun t e => by rw [hops]; subst e; simp [tmpsOf]) : RelE X (.sc (.clo fn caps)) _).1
  have ep := evs_sound (X := X) (a := a) hk hp (fun t ht => by rw [hops]; cases f <;> simp [tmpsOf, ht])
  generalize hv : a.eval f = v at ef
  cases ef with
  | clo _ _ vs hvs =>
    obtain ⟨func, body, g1, g2, g3⟩ := hb
    have hargs := RelPL.append ep (ptrs_rel hvs)
    have hcalls := hc X _ hX hargs hbf
    have hrun : (execOp a.eval o).run P X.w = .ok (.enter fn (c.args.toList.map a.eval ++ vs).toArray) X.w := by
      have := Go.MuLone.run_callFunc_enter (P := P) g1 g2 g3 (c.args.map a.eval ++ vs.toArray) X.w
      have e2 : (c.args.toList.map a.eval ++ vs).toArray = c.args.map a.eval ++ vs.toArray := by apply Array.ext'; simp
      rw [e2]
      simp only [execOp, ho, resolve, hf, hv, Deferred.ofValue, Sem.run_bind, Sem.run_pure, Result.andThen_ok, invoke]
      simpa using this
    unfold Oper.wp
    rw [hrun, Oper.upon_enter]
    refine hcalls.mono ?_
    rintro en w' ⟨X', v', rfl, rfl, h1, h2, h3, h4, h5⟩
    exact hn X' v' h1 h2 h3 h4 h5

end Vm
end

section
namespace Vm
open Go
variable {S : Sig} {R : Type} {P : Program} [Prog S] {st : St S} {o : Oper}

theorem opK_sound [TabOk (S := S) P] {O : Orc S R} (hO : OrcOk P O) {ty : TypeId} {K : Eff S → Option R} {r : R} (h : opK O st o.op ty K = some r) : ∃ e, K e = some r ∧ EffOk st e ∧ OpTr P st o e := by
  generalize hop : o.op = op at h
  cases op with
  | move x =>
    simp only [opK] at h
    split at h <;> try (simp at h; done)
    rename_i p hp
    exact ⟨_, h, op_move (.inl hop) hp⟩
  | assign x =>
    simp only [opK] at h
    split at h <;> try (simp at h; done)
    rename_i p hp
    exact ⟨_, h, op_move (.inr hop) hp⟩
  | pick c a b =>
    simp only [opK] at h
    split at h <;> try (simp at h; done)
    rename_i t hc
    cases t with
    | true =>
      simp only at h
      split at h <;> try (simp at h; done)
      rename_i p hp
      exact ⟨_, h, op_pick hop hc (by simpa using hp)⟩
    | false =>
      simp only at h
      split at h <;> try (simp at h; done)
      rename_i p hp
      exact ⟨_, h, op_pick hop hc (by simpa using hp)⟩
  | alloc t =>
    simp only [opK] at h
    split at h <;> try (simp at h; done)
    rename_i hl
    exact ⟨_, h, op_alloc hop hl⟩
  | box t x =>
    simp only [opK] at h
    split at h <;> try (simp at h; done)
    rename_i p hp
    exact ⟨_, h, op_box hop hp⟩
  | build t ps =>
    simp only [opK] at h
    split at h <;> try (simp at h; done)
    rename_i qs hq
    split at h <;> try (simp at h; done)
    · rename_i shs offs w ht
      split at h <;> try (simp at h; done)
      rename_i cs hcs
      exact ⟨_, h, op_buildSt hop ht hq hcs⟩
    · rename_i k n ht
      cases hn : Nat.beq qs.length n with
      | true =>
        simp only [hn, cond_true] at h
        split at h <;> try (simp at h; done)
        rename_i L hL
        exact ⟨_, h, op_buildArr hop ht hq (Nat.eq_of_beq_eq_true hn) hL⟩
      | false =>
        simp only [hn, cond_false] at h
        split at h <;> try (simp at h; done)
        exact ⟨_, h, op_buildArr0 hop ht hq⟩
  | buildSlice t n ps =>
    simp only [opK] at h
    split at h <;> try (simp at h; done)
    rename_i qs hq
    split at h <;> try (simp at h; done)
    rename_i k ht
    cases hn : Nat.beq qs.length n && Nat.ble (n * S.es k) 16777216 with
    | false => simp [hn] at h
    | true =>
      simp only [hn, cond_true] at h
      simp only [Bool.and_eq_true] at hn
      split at h <;> try (simp at h; done)
      rename_i L hL
      exact ⟨_, h, op_buildSlice hop ht hq (Nat.eq_of_beq_eq_true hn.1) (Nat.le_of_ble_eq_true hn.2) hL⟩
  | load t x =>
    simp only [opK] at h
    split at h <;> try (simp at h; done)
    rename_i a ha
    obtain ⟨p, rd, h1, h2⟩ := op_load (P := P) hop ha h
    exact ⟨_, h1, h2⟩
  | store t x y =>
    simp only [opK] at h
    split at h <;> try (simp at h; done)
    rename_i a v ha hv
    exact op_store hop ha hv h
  | nilCheck x =>
    simp only [opK] at h
    split at h <;> try (simp at h; done)
    · rename_i hx; exact ⟨_, h, op_nilCheck hop hx (.inl ⟨_, _, rfl⟩)⟩
    · rename_i hx; exact ⟨_, h, op_nilCheck hop hx (.inr (.inl ⟨_, _, _, _, _, rfl⟩))⟩
    · rename_i hx; exact ⟨_, h, op_nilCheck hop hx (.inr (.inr (.inl ⟨_, rfl⟩)))⟩
    · rename_i hx; exact ⟨_, h, op_nilCheck hop hx (.inr (.inr (.inr ⟨_, _, rfl⟩)))⟩
  | binOp op xt x y yt =>
    simp only [opK] at h
    split at h <;> try (simp at h; done)
    rename_i a b ha hb
    unfold binK at h
    split at h
    · rename_i k m k' n
      split at h
      · obtain ⟨c, h1, h2⟩ := op_shift hop ha hb (.inl rfl) h
        exact ⟨_, h1, h2⟩
      · obtain ⟨c, h1, h2⟩ := op_shift hop ha hb (.inr rfl) h
        exact ⟨_, h1, h2⟩
      · rename_i n1 n2
        split at h <;> try (simp at h; done)
        rename_i hk; subst hk
        obtain ⟨c, h1, h2⟩ := op_binInt hop ha hb n1 n2 h
        exact ⟨_, h1, h2⟩
    · obtain ⟨c, h1, h2⟩ := op_binStr hop ha hb h
      exact ⟨_, h1, h2⟩
    · have hl := TabOk.ok (S := S) (P := P) xt
      split at h <;> try (simp at h; done)
      · have ht : Tab.at (Prog.tab : Tab S) xt = .sc .bool := by assumption
        rw [ht] at hl
        obtain ⟨_, i, d, z, _, _, _, _, _, _, _, hu⟩ := hl
        have := op_binBool (P := P) (op := .eql) hop ha hb hu (.inl rfl)
        exact ⟨_, h, by simpa using this⟩
      · have ht : Tab.at (Prog.tab : Tab S) xt = .sc .bool := by assumption
        rw [ht] at hl
        obtain ⟨_, i, d, z, _, _, _, _, _, _, _, hu⟩ := hl
        have := op_binBool (P := P) (op := .neq) hop ha hb hu (.inr rfl)
        exact ⟨_, h, by simpa using this⟩
    · have hl := TabOk.ok (S := S) (P := P) xt
      split at h <;> try (simp at h; done)
      · have ht : Tab.at (Prog.tab : Tab S) xt = .sc .err := by assumption
        have hlit : isConst y = true := by assumption
        rw [ht] at hl
        obtain ⟨_, i, d, z, _, _, _, _, _, _, _, ms, hu⟩ := hl
        have := op_binErr (P := P) (op := .eql) hop ha hb hlit hu (.inl rfl)
        exact ⟨_, h, by simpa using this⟩
      · have ht : Tab.at (Prog.tab : Tab S) xt = .sc .err := by assumption
        have hlit : isConst y = true := by assumption
        rw [ht] at hl
        obtain ⟨_, i, d, z, _, _, _, _, _, _, _, ms, hu⟩ := hl
        have := op_binErr (P := P) (op := .neq) hop ha hb hlit hu (.inr rfl)
        exact ⟨_, h, by simpa using this⟩
    · split at h <;> try (simp at h; done)
      rename_i q hq
      split at h <;> try (simp at h; done)
      rename_i b hb'
      split at h <;> try (simp at h; done)
      · have := op_binAgg (P := P) (op := .eql) hop ha hb hq hb' (.inl rfl)
        exact ⟨_, h, by simpa using this⟩
      · have := op_binAgg (P := P) (op := .neq) hop ha hb hq hb' (.inr rfl)
        exact ⟨_, h, by simpa using this⟩
    · simp at h
  | unOp op t x =>
    simp only [opK] at h
    split at h <;> try (simp at h; done)
    rename_i a ha
    obtain ⟨q, h1, h2⟩ := op_un hop ha h
    exact ⟨_, h1, h2⟩
  | convert s t x =>
    simp only [opK] at h
    split at h <;> try (simp at h; done)
    · rename_i sh hs
      have hsd := sc_of_lay (P := P) hs
      split at h <;> try (simp at h; done)
      · rename_i hx ht; exact ⟨_, h, op_convInt hop hx ht hsd⟩
      · rename_i hx ht; exact ⟨_, h, op_convStr hop hx ht hsd⟩
      · rename_i hx ht
        split at h <;> try (simp at h; done)
        rename_i hk; subst hk
        exact ⟨_, h, op_convBytes hop hx ht hsd⟩
    · rename_i k hs
      split at h <;> try (simp at h; done)
      rename_i hk; subst hk
      split at h <;> try (simp at h; done)
      rename_i hx ht
      split at h <;> try (simp at h; done)
      rename_i L hL
      exact ⟨_, h, op_convBack hop hx hs ht hL⟩
  | makeInterface t x =>
    simp only [opK] at h
    split at h <;> try (simp at h; done)
    rename_i n hx
    cases ht : Nat.beq t S.errT with
    | false => simp [ht] at h
    | true =>
      simp only [ht, cond_true] at h
      have ht := Nat.eq_of_beq_eq_true ht
      exact ⟨_, h, op_mkIface hop hx ht (by rw [ht]; exact TabOk.errT (S := S) (P := P))⟩
  | makeFunc fn first caps =>
    cases fn <;> simp only [opK] at h <;> try (simp at h; done)
    split at h <;> try (simp at h; done)
    rename_i ps hf hp
    split at h <;> try (simp at h; done)
    rename_i bs hb
    exact ⟨_, h, op_mkFunc hop hf hp hb⟩
  | makeSlice t x y =>
    simp only [opK] at h
    split at h <;> try (simp at h; done)
    rename_i k n c ht hx hy
    cases h0 : decide (0 ≤ n) with
    | false => simp [h0] at h
    | true =>
    cases h1 : decide (n ≤ c) with
    | false => simp [h0, h1] at h
    | true =>
    cases h2 : decide (c ≤ (Prog.lim k : Int)) with
    | false => simp [h0, h1, h2] at h
    | true =>
    simp only [h0, h1, h2, cond_true] at h
    exact ⟨_, h, op_makeSlice hop ht hx hy (of_decide_eq_true h0) (of_decide_eq_true h1) (of_decide_eq_true h2)⟩
  | slice t x lo hi mx =>
    simp only [opK] at h
    split at h <;> try (simp at h; done)
    rename_i c hx
    have key : ∀ (oo : Option Operand) (k : Option Int → Option R), numK st oo k = some r → (∀ t', oo = some (.tmp t') → t' ∈ tmpsOf o.op.operands.toList) → ∃ n, k n = some r ∧ ∀ (X : Cx S) (a : Act), Knows X st (tmpsOf o.op.operands.toList) a → NumV (oo.map a.eval) n := by
      intro oo k h ht
      unfold numK at h
      cases oo with
      | none => exact ⟨none, h, fun X a hk => trivial⟩
      | some o =>
        simp only at h
        split at h <;> try (simp at h; done)
        rename_i n hn
        exact ⟨some n, h, fun X a hk => rel_int (ev_sound hn hk (fun t' e => ht t' (by rw [e])))⟩
    obtain ⟨n1, h, g1⟩ := key lo _ h (fun t' e => by rw [hop]; exact mem_tmps1 (x := .tmp t') (by simp [Op.operands, e]) t' rfl)
    obtain ⟨n2, h, g2⟩ := key hi _ h (fun t' e => by rw [hop]; exact mem_tmps1 (x := .tmp t') (by simp [Op.operands, e]) t' rfl)
    obtain ⟨n3, h, g3⟩ := key mx _ h (fun t' e => by rw [hop]; exact mem_tmps1 (x := .tmp t') (by simp [Op.operands, e]) t' rfl)
    exact op_slice hop hx (fun X a hk => ⟨g1 X a hk, g2 X a hk, g3 X a hk⟩) h
  | fieldAddr t x i =>
    simp only [opK] at h
    split at h <;> try (simp at h; done)
    rename_i shs offs w ht
    split at h <;> try (simp at h; done)
    rename_i off n hf
    split at h <;> try (simp at h; done)
    · rename_i hx; exact ⟨_, h, op_fieldAddr hop ht hf hx (.inl ⟨_, _, rfl, rfl⟩)⟩
    · rename_i hx; exact ⟨_, h, op_fieldAddr hop ht hf hx (.inr (.inl ⟨_, _, _, _, _, rfl, rfl⟩))⟩
    · rename_i cs hx
      split at h <;> try (simp at h; done)
      rename_i r1 hs
      split at h <;> try (simp at h; done)
      rename_i r2 hr
      have hd : ∀ (r1 : List (Cell S)) (r2 : List (FC S)), opK.decF r1 = some r2 → r1 = r2.map .f := by
        intro r1
        induction r1 with
        | nil => intro r2 h; simp [opK.decF] at h; subst h; rfl
        | cons c r1 ih =>
          intro r2 h
          cases c <;> simp only [opK.decF] at h <;> try (simp at h; done)
          split at h <;> try (simp at h; done)
          rename_i l hl
          obtain rfl := Option.some.inj h
          simp [ih l hl]
      exact ⟨_, h, op_fieldAddr hop ht hf hx (.inr (.inr ⟨_, _, rfl, by rw [hs, hd _ _ hr], rfl⟩))⟩
  | field t x i =>
    simp only [opK] at h
    split at h <;> try (simp at h; done)
    rename_i shs offs w cs ht hx
    split at h <;> try (simp at h; done)
    rename_i off n ft hf hft
    split at h <;> try (simp at h; done)
    rename_i r1 hs
    split at h <;> try (simp at h; done)
    rename_i r2 htk
    split at h <;> try (simp at h; done)
    rename_i p hp
    exact ⟨_, h, op_field hop ht hf hx hft hs htk hp⟩
  | indexAddr t x i =>
    simp only [opK] at h
    split at h <;> try (simp at h; done)
    rename_i c k n hx hy
    obtain ⟨d, rd, h1, h2⟩ := op_indexAddr (P := P) hop hx hy h
    exact ⟨_, h1, h2⟩
  | index t x i =>
    simp only [opK] at h
    split at h <;> try (simp at h; done)
    · rename_i l k n ht hx hy
      cases h0 : decide (0 ≤ n) with
      | false => simp [h0] at h
      | true =>
      simp only [h0, cond_true] at h
      split at h <;> try (simp at h; done)
      rename_i b hb
      exact ⟨_, h, op_indexStr hop ht hx hy (of_decide_eq_true h0) hb⟩
    · rename_i k' m k n' L kk n ht hx hy
      split at h <;> try (simp at h; done)
      rename_i hk; subst hk
      cases h0 : Nat.beq n' m && decide (0 ≤ n) with
      | false => simp [h0] at h
      | true =>
      simp only [h0, cond_true] at h
      simp only [Bool.and_eq_true] at h0
      have hn := Nat.eq_of_beq_eq_true h0.1
      subst hn
      split at h <;> try (simp at h; done)
      rename_i e he
      split at h <;> try (simp at h; done)
      rename_i p hp
      exact ⟨_, h, op_indexArr hop ht hx hy (of_decide_eq_true h0.2) he hp⟩
  | extract x i =>
    simp only [opK] at h
    split at h <;> try (simp at h; done)
    rename_i ps hx
    split at h <;> try (simp at h; done)
    rename_i p hp
    exact ⟨_, h, op_extract hop hx hp⟩
  | call c =>
    simp only [opK] at h
    split at h
    · rename_i f hf
      split at h <;> try (simp at h; done)
      · rename_i fn caps ps hx hp
        split at h <;> try (simp at h; done)
        rename_i g hg
        obtain ⟨hb, hok⟩ := hO.call _ _ hg
        obtain ⟨e, h1, h2, h3⟩ := hok _ _ _ _ h
        exact ⟨e, h1, op_call hop hf hx hp hb h2 h3⟩
      · rename_i fn ps hx hp
        split at h <;> try (simp at h; done)
        rename_i g hg
        obtain ⟨hb, hok⟩ := hO.call _ _ hg
        obtain ⟨e, h1, h2, h3⟩ := hok _ _ _ _ h
        exact ⟨e, h1, op_callF hop hf hx hp hb h2 h3⟩
    · rename_i b hb
      split at h <;> try (simp at h; done)
      · rename_i x hx
        split at h <;> try (simp at h; done)
        rename_i n rd hl
        exact ⟨_, h, op_len hop hb hx hl⟩
      · rename_i s x hx
        split at h <;> try (simp at h; done)
        rename_i t t2 ts hat
        split at h <;> try (simp at h; done)
        · rename_i k k2 ht ht2
          exact op_append hop hb hx hat ht (.inl ⟨k2, ht2⟩) h
        · rename_i k ht ht2
          exact op_append hop hb hx hat ht (.inr ht2) h
      · rename_i k m k' n hx
        have := op_minmax (P := P) (isMin := true) hop hb hx
        exact ⟨_, h, by simpa using this⟩
      · rename_i k m k' n hx
        have := op_minmax (P := P) (isMin := false) hop hb hx
        exact ⟨_, h, by simpa using this⟩
    · simp at h
  | _ => simp [opK] at h

end Vm
end

section
namespace Vm
open Go
variable {S : Sig} {R : Type} {P : Program} [Prog S]

/-- The state of the machine says what there is. -/
structure Sim (n : Nat) (X : Cx S) (a : Act) (st : St S) : Prop where
  wf : WF X
  size : a.tmps.size = n
  defers : a.defers = []
  tm : ∀ t p, lk t st.tm = some p → RelP X p (a.tmps.getD t undef)
  hp : ∀ b, X.hp b = lk b st.hp
  new : ∀ b, st.nx ≤ b → lk b st.hp = none

def newOf (st : St S) (e : Eff S) : List Nat := List.range' st.nx (e.nx - st.nx) ++ e.wr

/-- One operation of a region, in a state. -/
structure StepOk (P : Program) (ops : Array Oper) (n : Nat) (o : Oper) (st : St S) (d : Bool) (e : Eff S) (l : Log) (st' : St S) : Prop where
  dst : ∀ t, o.dst = some t → t < n
  wanted : wantedP ops o st = some d
  eff : EffOk st e
  run : d = true → OpTr P st o e ∧ (∀ b, b ∈ e.wr → b < st.nx)
  skip : d = false → e = ⟨.undef, [], [], st.hp, st.nx⟩
  next : st' = put o.dst e.val ⟨st.tm, e.hp, e.nx⟩
  log : l = ⟨o.dst, gtmp ops o ++ (if d then tmpsOf o.op.operands.toList else []), e.rd, newOf st e⟩

/-- The steps of a region from 'lo' on. -/
structure Trace (P : Program) (ops : Array Oper) (n lo hi : Nat) (σ : Nat → St S) (δ : Nat → Bool) (ε : Nat → Eff S) (lam : Nat → Log) : Prop where
  step : ∀ i o, lo ≤ i → i < hi → ops[i]? = some o → StepOk P ops n o (σ i) (δ i) (ε i) (lam i) (σ (i + 1))

/-- The logs, the last one first. -/
def logs (lam : Nat → Log) (lo : Nat) : Nat → List Log → List Log
  | 0, lg => lg
  | k + 1, lg => lam (lo + k) :: logs lam lo k lg

theorem logs_shift (lam : Nat → Log) (lo : Nat) : ∀ k lg, logs lam lo (k + 1) lg = logs lam (lo + 1) k (lam lo :: lg)
  | 0, lg => rfl
  | k + 1, lg => by
    rw [logs, logs_shift lam lo k, logs]
    congr 2; omega

theorem logs_congr {lam lam' : Nat → Log} {lo : Nat} : ∀ k lg, (∀ j, lo ≤ j → j < lo + k → lam j = lam' j) → logs lam lo k lg = logs lam' lo k lg
  | 0, _, _ => rfl
  | k + 1, lg, h => by
    rw [logs, logs, h (lo + k) (by omega) (by omega), logs_congr k lg (fun j h1 h2 => h j h1 (by omega))]

theorem regionK_sound [TabOk (S := S) P] {O : Orc S R} (hO : OrcOk P O) {n : Nat} {ops : Array Oper} {K : St S → List Log → Option R} {r : R} : ∀ {l : List Oper} {i : Nat} {st : St S} {lg : List Log},
    regionK O n ops l i st lg K = some r → (∀ j, l[j]? = ops[i + j]?) → (∀ b, st.nx ≤ b → lk b st.hp = none) →
    ∃ σ δ ε lam, Trace P ops n i (i + l.length) σ δ ε lam ∧ σ i = st ∧ K (σ (i + l.length)) (logs lam i l.length lg) = some r
  | [], i, st, lg, h, _, _ => ⟨fun _ => st, fun _ => false, fun _ => ⟨.undef, [], [], st.hp, st.nx⟩, fun _ => ⟨none, [], [], []⟩, ⟨fun j o h1 h2 => by simp at h2; omega⟩, rfl, h⟩
  | o :: rest, i, st, lg, h, hl, hnew => by
    have ho : ops[i]? = some o := (hl 0).symm
    simp only [regionK] at h
    cases hd : dstOk n o.dst with
    | false => simp [hd] at h
    | true =>
    simp only [hd, cond_true] at h
    have hdst : ∀ t, o.dst = some t → t < n := by
      intro t ht
      rw [ht] at hd
      exact Nat.blt_eq.mp hd
    have hl' : ∀ j, rest[j]? = ops[i + 1 + j]? := fun j => by
      have := hl (j + 1)
      rw [show i + 1 + j = i + (j + 1) by omega, ← this]; rfl
    have fin : ∀ (d : Bool) (e : Eff S), wantedP ops o st = some d → EffOk st e → (d = true → OpTr P st o e ∧ (∀ b, b ∈ e.wr → b < st.nx)) → (d = false → e = ⟨.undef, [], [], st.hp, st.nx⟩) →
        regionK O n ops rest (i + 1) (put o.dst e.val ⟨st.tm, e.hp, e.nx⟩) (⟨o.dst, gtmp ops o ++ (if d then tmpsOf o.op.operands.toList else []), e.rd, newOf st e⟩ :: lg) K = some r →
        ∃ σ δ ε lam, Trace P ops n i (i + (rest.length + 1)) σ δ ε lam ∧ σ i = st ∧ K (σ (i + (rest.length + 1))) (logs lam i (rest.length + 1) lg) = some r := by
      intro d e hw he hrun hskip hk
      have hnew' : ∀ b, (put o.dst e.val ⟨st.tm, e.hp, e.nx⟩).nx ≤ b → lk b (put o.dst e.val ⟨st.tm, e.hp, e.nx⟩).hp = none := by
        have e1 : (put o.dst e.val ⟨st.tm, e.hp, e.nx⟩).nx = e.nx := by cases o.dst <;> rfl
        have e2 : (put o.dst e.val ⟨st.tm, e.hp, e.nx⟩).hp = e.hp := by cases o.dst <;> rfl
        intro b hb
        rw [e1] at hb
        rw [e2]
        have hnx := he.nx
        rw [he.same b (fun hm => ?_) (fun hm => by omega)]
        · exact hnew b (by omega)
        · cases d with
          | true => have := (hrun rfl).2 b hm; omega
          | false => rw [hskip rfl] at hm; simp at hm
      obtain ⟨σ, δ, ε, lam, hT, hσ, hK⟩ := regionK_sound hO hk hl' hnew'
      refine ⟨fun j => if j ≤ i then st else σ j, fun j => if j ≤ i then d else δ j, fun j => if j ≤ i then e else ε j, fun j => if j ≤ i then ⟨o.dst, gtmp ops o ++ (if d then tmpsOf o.op.operands.toList else []), e.rd, newOf st e⟩ else lam j, ⟨fun j oj h1 h2 h3 => ?_⟩, by simp, ?_⟩
      · by_cases hj : j = i
        · subst hj
          rw [ho] at h3; cases h3
          simp only [Nat.le_refl, if_true, if_neg (show ¬ (j + 1 ≤ j) by omega)]
          exact ⟨hdst, hw, he, hrun, hskip, hσ, rfl⟩
        · simp only [if_neg (show ¬ j ≤ i by omega), if_neg (show ¬ (j + 1 ≤ i) by omega)]
          exact hT.step j oj (by omega) (by omega) h3
      · rw [logs_shift]
        simp only [if_neg (show ¬ (i + (rest.length + 1) ≤ i) by omega), Nat.le_refl, if_true]
        rw [logs_congr (lam' := lam) _ _ (fun j h1 h2 => if_neg (by omega)), show i + (rest.length + 1) = i + 1 + rest.length by omega]
        exact hK
    split at h
    · rename_i hw
      obtain ⟨e, h1, h2, h3⟩ := opK_sound hO h
      have go : ∀ p, e.val = p → (bif e.wr.all (fun b => Nat.blt b st.nx) then regionK O n ops rest (i + 1) (put o.dst p ⟨st.tm, e.hp, e.nx⟩) (⟨o.dst, gtmp ops o ++ tmpsOf o.op.operands.toList, e.rd, List.range' st.nx (e.nx - st.nx) ++ e.wr⟩ :: lg) K else none) = some r →
          ∃ σ δ ε lam, Trace P ops n i (i + (rest.length + 1)) σ δ ε lam ∧ σ i = st ∧ K (σ (i + (rest.length + 1))) (logs lam i (rest.length + 1) lg) = some r := by
        intro p hp hk
        subst hp
        cases hall : e.wr.all (fun b => Nat.blt b st.nx) with
        | false => simp [hall] at hk
        | true =>
          simp only [hall, cond_true] at hk
          refine fin true e hw h2 (fun _ => ⟨h3, fun b hb => ?_⟩) (fun h => by simp at h) (by simpa [newOf] using hk)
          rw [List.all_eq_true] at hall
          exact Nat.blt_eq.mp (hall b hb)
      split at h1
      · rename_i b hb
        refine go _ hb ?_
        cases hg : guards ops.toList i with
        | false => simpa [hg] using h1
        | true =>
          simp only [hg, cond_true] at h1
          cases b <;> exact h1
      · exact go _ rfl h1
    · rename_i hw
      exact fin false ⟨.undef, [], [], st.hp, st.nx⟩ hw ⟨Nat.le_refl _, fun _ _ _ => rfl⟩ (fun h => by simp at h) (fun _ => rfl) (by simpa [newOf] using h)
    · simp at h

/-! What is wanted. -/
theorem wanted_of {ops : Array Oper} {o : Oper} {st : St S} {d : Bool} {X : Cx S} {a : Act} (hw : wantedP ops o st = some d)
    (hk : ∀ t, t ∈ gtmp ops o → ∀ p, lk t st.tm = some p → RelP X p (a.tmps.getD t undef)) : Region.wanted o (yielded ops a.tmps) = d := by
  unfold wantedP at hw
  unfold Region.wanted
  split at hw
  · rename_i hg
    rw [hg]
    simpa using hw
  · rename_i j want hg
    rw [hg]
    simp only
    split at hw <;> try (simp at hw; done)
    rename_i oj hoj
    split at hw <;> try (simp at hw; done)
    rename_i t ht
    have hmem : t ∈ gtmp ops o := by simp [gtmp, hg, hoj, ht]
    have hrel := hk t hmem
    split at hw <;> try (simp at hw; done)
    · rename_i b hb
      have hv := rel_bool (hrel _ hb)
      obtain rfl := Option.some.inj hw
      have hget : a.tmps[t]? = some (.bool b) := by
        rw [Array.getD_eq_getD_getElem?] at hv
        cases h : a.tmps[t]? with
        | none => rw [h] at hv; cases hv
        | some v => rw [h] at hv; exact congrArg some hv
      simp only [yielded, hoj, ht, Option.bind_some, hget]
      cases b <;> cases want <;> rfl
    · rename_i hb
      have hv : a.tmps.getD t undef = undef := hrel _ hb
      obtain rfl := Option.some.inj hw
      have : yielded ops a.tmps j = none := by
        simp only [yielded, hoj, ht, Option.bind_some]
        rw [Array.getD_eq_getD_getElem?] at hv
        cases h : a.tmps[t]? with
        | none => rfl
        | some v => rw [h] at hv; cases hv; rfl
      rw [this]; rfl

/-! ### The text's own order -/

theorem Sim.step {ops : Array Oper} {n : Nat} {o : Oper} {st st' : St S} {d : Bool} {e : Eff S} {l : Log} (h : StepOk P ops n o st d e l st') {X X' : Cx S} {a : Act} (hs : Sim n X a st) (he : Ext X X') (hw : WF X') {v : Value} (hv : RelP X' e.val v)
    (ha : After st e X X') : Sim n X' (a.put o.dst v) st' := by
  have e1 : st'.nx = e.nx := by rw [h.next]; cases o.dst <;> rfl
  have e2 : st'.hp = e.hp := by rw [h.next]; cases o.dst <;> rfl
  have hnx := h.eff.nx
  refine ⟨hw, ?_, ?_, fun t p hp => ?_, fun b => ?_, fun b hb => ?_⟩
  · rw [← hs.size]; cases o.dst <;> simp [Act.put]
  · rw [← hs.defers]; cases o.dst <;> rfl
  · cases hd : o.dst with
    | none =>
      rw [h.next, hd] at hp
      exact he.relP (hs.tm t p hp)
    | some t' =>
      rw [h.next, hd] at hp
      simp only [put, lk_cons] at hp
      have hlt := h.dst t' hd
      by_cases ht : t = t'
      · subst ht
        rw [if_pos rfl] at hp
        obtain rfl := Option.some.inj hp
        simp only [Act.put]
        rw [Array.getD_eq_getD_getElem?, Array.getElem?_setIfInBounds_self_of_lt (by rw [hs.size]; exact hlt)]
        exact hv
      · rw [if_neg ht] at hp
        have := he.relP (hs.tm t p hp)
        simp only [Act.put]
        rw [Array.getD_eq_getD_getElem?, Array.getElem?_setIfInBounds_ne (fun e => ht e.symm), ← Array.getD_eq_getD_getElem?]
        exact this
  · rw [ha b, e2]
    by_cases hb : b ∈ e.wr ∨ (st.nx ≤ b ∧ b < e.nx)
    · rw [if_pos hb]
    · rw [if_neg hb, hs.hp b, h.eff.same b (fun h => hb (.inl h)) (fun h => hb (.inr h))]
  · rw [e1] at hb
    rw [e2, h.eff.same b (fun hm => ?_) (fun hm => by omega)]
    · exact hs.new b (by omega)
    · cases d with
      | true => have := (h.run rfl).2 b hm; omega
      | false => rw [h.skip rfl] at hm; simp at hm

theorem Ext.put_ok {X X' : Cx S} (h : Ext X X') (hm : X'.M0 = X.M0) {Y : Cx S} (k : Ext Y X) (km : X.M0 = Y.M0) (wf : WF X) : Ext Y X' ∧ X'.M0 = Y.M0 := ⟨k.comp h km wf, hm.trans km⟩

theorem region_seq {ops : Array Oper} {n : Nat} {σ : Nat → St S} {δ : Nat → Bool} {ε : Nat → Eff S} {lam : Nat → Log} (hT : Trace P ops n 0 ops.size σ δ ε lam) {Q : Exit → Act → World → Prop} {X0 : Cx S}
    (hQ : ∀ X' a', Ext X0 X' → X'.M0 = X0.M0 → Sim n X' a' (σ ops.size) → Q .normal a' X'.w) : ∀ (k i : Nat), i + k = ops.size → ∀ (X : Cx S) (a : Act), Ext X0 X → X.M0 = X0.M0 → Sim n X a (σ i) → wpOps P ops Q (List.range' i k) a X.w
  | 0, i, hi, X, a, he, hm, hs => by
    simp only [List.range'_zero, wpOps]
    have : i = ops.size := by omega
    subst this
    exact hQ X a he hm hs
  | k + 1, i, hi, X, a, he, hm, hs => by
    have hlt : i < ops.size := by omega
    have ho : ops[i]? = some ops[i] := Array.getElem?_eq_getElem hlt
    have h := hT.step i ops[i] (Nat.zero_le _) hlt ho
    generalize ops[i] = o at ho h
    have hw := wanted_of h.wanted (X := X) (fun t _ p hp => hs.tm t p hp)
    · simp only [List.range'_succ, wpOps, ho]
      cases hd : δ i with
      | true =>
        rw [hw, hd]
        simp only [if_true]
        refine .inl ((h.run hd).1 X a _ Q hs.wf (fun t _ p hp => hs.tm t p hp) ⟨fun b _ => hs.hp b, fun b _ => hs.hp b, fun b h1 _ => by rw [hs.hp b]; exact hs.new b h1⟩ (fun X' v h1 h2 h3 h4 h5 => ?_))
        exact region_seq hT hQ k (i + 1) (by omega) X' _ (he.comp h1 hm hs.wf) (h3.trans hm) (hs.step h h1 h2 h4 h5)
      | false =>
        rw [hw, hd]
        simp only [Bool.false_eq_true, if_false]
        have hsk := h.skip hd
        refine region_seq hT hQ k (i + 1) (by omega) X _ he hm (hs.step h (Ext.refl X) hs.wf (by rw [hsk]; rfl) (fun b => ?_))
        rw [hsk]
        rw [if_neg (by simp only [List.not_mem_nil, false_or]; omega)]

end Vm
end

section
namespace Vm
open Go
variable {S : Sig} {R : Type} {P : Program} [Prog S]

def lastW (W : Nat → Bool) : Nat → Option Nat
  | 0 => none
  | j + 1 => if W j = true then some j else lastW W j

theorem lastW_congr {W W' : Nat → Bool} : ∀ {i : Nat}, (∀ j, j < i → W j = W' j) → lastW W i = lastW W' i
  | 0, _ => rfl
  | i + 1, h => by
    simp only [lastW]
    rw [h i (by omega), lastW_congr fun j hj => h j (by omega)]

theorem lastW_cut {W W' : Nat → Bool} {i : Nat} (h1 : ∀ j, j < i → W j = W' j) : ∀ {n : Nat}, i ≤ n → (∀ j, i ≤ j → j < n → W j = false) → lastW W n = lastW W' i
  | 0, h, _ => by
    have : i = 0 := by omega
    subst this; rfl
  | n + 1, h, h2 => by
    by_cases hi : i = n + 1
    · subst hi; exact lastW_congr h1
    · simp only [lastW]
      rw [h2 n (by omega) (by omega)]
      simp only [Bool.false_eq_true, if_false]
      exact lastW_cut h1 (by omega) (fun j a b => h2 j a (by omega))

theorem lastW_is {W : Nat → Bool} {i : Nat} (hi : W i = true) : ∀ {n : Nat}, i < n → (∀ j, i < j → j < n → W j = false) → lastW W n = some i
  | 0, h, _ => by omega
  | n + 1, h, h2 => by
    simp only [lastW]
    by_cases e : i = n
    · subst e; rw [if_pos hi]
    · rw [h2 n (by omega) (by omega)]
      simp only [Bool.false_eq_true, if_false]
      exact lastW_is hi (by omega) (fun j a b => h2 j a (by omega))

theorem mem_newOf {st : St S} {e : Eff S} {b : Nat} : b ∈ newOf st e ↔ (st.nx ≤ b ∧ b < e.nx) ∨ b ∈ e.wr := by
  simp only [newOf, List.mem_append, List.mem_range'_1]
  constructor
  · rintro (h | h)
    · exact .inl ⟨h.1, by omega⟩
    · exact .inr h
  · rintro (h | h)
    · exact .inl ⟨h.1, by omega⟩
    · exact .inr h

section
variable {ops : Array Oper} {n : Nat} {σ : Nat → St S} {δ : Nat → Bool} {ε : Nat → Eff S} {lam : Nat → Log} (hT : Trace P ops n 0 ops.size σ δ ε lam)

def tmAt (σ : Nat → St S) (ε : Nat → Eff S) (lam : Nat → Log) (E : Nat → Bool) (N t : Nat) : Option (PV S) :=
  match lastW (fun j => E j && decide ((lam j).dst = some t)) N with
  | some j => some (ε j).val
  | none => lk t (σ 0).tm

def hpAt (σ : Nat → St S) (ε : Nat → Eff S) (lam : Nat → Log) (E : Nat → Bool) (N b : Nat) : Option (Blk S) :=
  match lastW (fun j => E j && decide (b ∈ (lam j).wr)) N with
  | some j => lk b (ε j).hp
  | none => lk b (σ 0).hp

include hT

theorem Trace.at {i : Nat} (hi : i < ops.size) : ∃ o, ops[i]? = some o ∧ StepOk P ops n o (σ i) (δ i) (ε i) (lam i) (σ (i + 1)) :=
  ⟨ops[i], Array.getElem?_eq_getElem hi, hT.step i _ (Nat.zero_le _) hi (Array.getElem?_eq_getElem hi)⟩

theorem lk_tm (t : Nat) : ∀ i, i ≤ ops.size → lk t (σ i).tm = tmAt σ ε lam (fun _ => true) i t
  | 0, _ => rfl
  | i + 1, hi => by
    obtain ⟨o, ho, h⟩ := hT.at (i := i) (by omega)
    have ih := lk_tm t i (by omega)
    simp only [tmAt, lastW, Bool.true_and] at ih ⊢
    rw [h.next]
    have hl : (lam i).dst = o.dst := by rw [h.log]
    cases hd : o.dst with
    | none =>
      rw [if_neg (by rw [hl, hd]; simp)]
      exact ih
    | some d =>
      simp only [put, lk_cons]
      by_cases ht : t = d
      · subst ht
        rw [if_pos rfl, if_pos (by rw [hl, hd]; simp)]
      · rw [if_neg ht, if_neg (by rw [hl, hd]; simp; exact fun e => ht e.symm)]
        exact ih

theorem lk_hp (b : Nat) : ∀ i, i ≤ ops.size → lk b (σ i).hp = hpAt σ ε lam (fun _ => true) i b
  | 0, _ => rfl
  | i + 1, hi => by
    obtain ⟨o, ho, h⟩ := hT.at (i := i) (by omega)
    have ih := lk_hp b i (by omega)
    simp only [hpAt, lastW, Bool.true_and] at ih ⊢
    have e : (σ (i + 1)).hp = (ε i).hp := by rw [h.next]; cases o.dst <;> rfl
    have hl : (lam i).wr = newOf (σ i) (ε i) := by rw [h.log]
    rw [e]
    by_cases hb : b ∈ (lam i).wr
    · rw [if_pos (by simpa using hb)]
    · rw [if_neg (by simpa using hb)]
      rw [hl, mem_newOf] at hb
      rw [h.eff.same b (fun h => hb (.inr h)) (fun h => hb (.inl h))]
      exact ih

theorem nx_mono {i : Nat} : ∀ {j : Nat}, i ≤ j → j ≤ ops.size → (σ i).nx ≤ (σ j).nx
  | 0, h, _ => by
    have : i = 0 := by omega
    subst this; exact Nat.le_refl _
  | j + 1, h, hj => by
    by_cases e : i = j + 1
    · subst e; exact Nat.le_refl _
    · obtain ⟨o, ho, hs⟩ := hT.at (i := j) (by omega)
      have e1 : (σ (j + 1)).nx = (ε j).nx := by rw [hs.next]; cases o.dst <;> rfl
      have := nx_mono (i := i) (j := j) (by omega) (by omega)
      have := hs.eff.nx
      omega

theorem nx_le {j : Nat} (hj : j < ops.size) : (σ (j + 1)).nx = (ε j).nx := by
  obtain ⟨o, ho, hs⟩ := hT.at (i := j) (by omega)
  rw [hs.next]; cases o.dst <;> rfl

end

theorem Trace.fresh {ops : Array Oper} {n : Nat} {σ : Nat → St S} {δ : Nat → Bool} {ε : Nat → Eff S} {lam : Nat → Log} (hT : Trace P ops n 0 ops.size σ δ ε lam) (h0 : ∀ b, (σ 0).nx ≤ b → lk b (σ 0).hp = none) :
    ∀ i, i ≤ ops.size → ∀ b, (σ i).nx ≤ b → lk b (σ i).hp = none := by
  intro i
  induction i with
  | zero => exact fun _ => h0
  | succ i ih =>
    intro hi b hb
    obtain ⟨o, ho, hs⟩ := hT.at (i := i) (by omega)
    have e1 := nx_le hT (j := i) (by omega)
    have e2 : (σ (i + 1)).hp = (ε i).hp := by rw [hs.next]; cases o.dst <;> rfl
    have hnx := hs.eff.nx
    rw [e2, hs.eff.same b (fun hm => ?_) (fun hm => by omega)]
    · exact ih (by omega) b (by omega)
    · cases hd : δ i with
      | true => have := (hs.run hd).2 b hm; omega
      | false => rw [hs.skip hd] at hm; simp at hm

theorem has_iff {b : Nat} : ∀ {l : List Nat}, has b l = true ↔ b ∈ l
  | [] => by simp [has]
  | c :: cs => by
    simp only [has, Bool.or_eq_true, List.mem_cons]
    rw [has_iff (l := cs)]
    constructor
    · rintro (h | h)
      · exact .inl (Nat.eq_of_beq_eq_true h)
      · exact .inr h
    · rintro (h | h)
      · subst h; exact .inl (Nat.beq_refl _)
      · exact .inr h

theorem meets_false {a b : List Nat} (h : meets a b = false) : ∀ x, x ∈ a → x ∉ b := by
  intro x hx hb
  simp only [meets, List.any_eq_false] at h
  exact h x hx (has_iff.2 hb)

structure Apart (a b : Log) : Prop where
  d1 : ∀ t, a.dst = some t → b.dst ≠ some t
  d2 : ∀ t, a.dst = some t → t ∉ b.use
  d3 : ∀ t, b.dst = some t → t ∉ a.use
  w1 : ∀ x, x ∈ a.wr → x ∉ b.rd
  w2 : ∀ x, x ∈ a.wr → x ∉ b.wr
  w3 : ∀ x, x ∈ b.wr → x ∉ a.rd

theorem Log.apart {a b : Log} (h : a.clash b = false) : Apart a b := by
  simp only [Log.clash, Bool.or_eq_false_iff] at h
  obtain ⟨⟨⟨h1, h2⟩, h3⟩, h4⟩ := h
  have h1 := meets_false h1
  have h2 := meets_false h2
  have h3 := meets_false h3
  have h4 := meets_false h4
  refine ⟨fun t ht hb => ?_, fun t ht hb => ?_, fun t ht hb => ?_, fun x hx hb => ?_, fun x hx hb => ?_, h4⟩
  · exact h1 t (by simp [ht]) (by simp [hb])
  · exact h1 t (by simp [ht]) (by simp [hb])
  · exact h2 t (by simp [ht]) hb
  · exact h3 x hx (by simp [hb])
  · exact h3 x hx (by simp [hb])

/-- What the edges order. -/
inductive Bef (ops : Array Oper) : Nat → Nat → Prop
  | edge (i o e) : ops[i]? = some o → e ∈ o.after.toList → Region.binds .any e = true → Bef ops e.on i
  | trans (j i o e) : ops[i]? = some o → e ∈ o.after.toList → Region.binds .any e = true → Bef ops j e.on → Bef ops j i

def Preds (ops : Array Oper) (E : Nat → Bool) (i : Nat) : Prop := ∀ o, ops[i]? = some o → ∀ e, e ∈ o.after.toList → Region.binds .any e = true → E e.on = true

theorem Bef.of_closed {ops : Array Oper} {E : Nat → Bool} (hc : ∀ i, E i = true → Preds ops E i) {j i : Nat} (h : Bef ops j i) : Preds ops E i → E j = true := by
  induction h with
  | edge i o e h1 h2 h3 => exact fun hp => hp o h1 e h2 h3
  | trans j i o e h1 h2 h3 h4 ih => exact fun hp => ih (hc _ (hp o h1 e h2 h3))

/-- What is checked of a region whose order is drawn. -/
structure Fine (ops : Array Oper) (lam : Nat → Log) : Prop where
  back : ∀ i o, ops[i]? = some o → ∀ e, e ∈ o.after.toList → Region.binds .any e = true → e.on < i
  free : ∀ i, i < ops.size → ∀ j, j < i → Bef ops j i ∨ Apart (lam j) (lam i)

structure Inv (n N : Nat) (σ : Nat → St S) (ε : Nat → Eff S) (lam : Nat → Log) (X0 : Cx S) (E : Nat → Bool) (X : Cx S) (a : Act) : Prop where
  wf : WF X
  size : a.tmps.size = n
  defers : a.defers = []
  ext : Ext X0 X
  m0 : X.M0 = X0.M0
  tm : ∀ t p, tmAt σ ε lam E N t = some p → RelP X p (a.tmps.getD t undef)
  hp : ∀ b, X.hp b = hpAt σ ε lam E N b

def addE (E : Nat → Bool) (i : Nat) : Nat → Bool := fun j => E j || decide (j = i)

section
variable {ops : Array Oper} {n : Nat} {σ : Nat → St S} {δ : Nat → Bool} {ε : Nat → Eff S} {lam : Nat → Log} (hT : Trace P ops n 0 ops.size σ δ ε lam) (hF : Fine ops lam)
include hT hF

theorem step_any {X0 : Cx S} (h0 : ∀ b, (σ 0).nx ≤ b → lk b (σ 0).hp = none) {E : Nat → Bool} (hc : ∀ i, E i = true → Preds ops E i) {X : Cx S} {a : Act} (hI : Inv n ops.size σ ε lam X0 E X a) {i : Nat} (hi : i < ops.size) (hE : E i = false) (hp : Preds ops E i)
    {Q : Exit → Act → World → Prop} {K : Act → World → Prop} (hK : ∀ X' a', Inv n ops.size σ ε lam X0 (addE E i) X' a' → K a' X'.w) : wpOp P ops Q i K a X.w := by
  obtain ⟨o, ho, h⟩ := hT.at hi
  have hl : lam i = ⟨o.dst, gtmp ops o ++ (if δ i then tmpsOf o.op.operands.toList else []), (ε i).rd, newOf (σ i) (ε i)⟩ := h.log
  -- what is ahead is done, what is behind is not
  have hb : ∀ j, j < i → E j = true ∨ Apart (lam j) (lam i) := fun j hj => (hF.free i hi j hj).imp (fun hb => hb.of_closed hc hp) id
  have hk : ∀ k, i < k → k < ops.size → E k = false ∨ Apart (lam i) (lam k) := fun k h1 h2 => (hF.free k h2 i h1).imp (fun hb => by
    cases he : E k with
    | false => rfl
    | true => rw [hb.of_closed hc (hc k he)] at hE; cases hE) id
  have htm : ∀ t, t ∈ (lam i).use → tmAt σ ε lam E ops.size t = lk t (σ i).tm := by
    intro t ht
    rw [lk_tm hT t i (by omega)]
    unfold tmAt
    rw [lastW_cut (i := i) (W' := fun j => true && decide ((lam j).dst = some t)) (fun j hj => ?_) (by omega) (fun j h1 h2 => ?_)]
    · rcases hb j hj with h | h
      · rw [h]
      · have : decide ((lam j).dst = some t) = false := by simp; exact fun e => h.d2 t e ht
        rw [this]; simp
    · by_cases e : j = i
      · subst e; rw [hE]; rfl
      · rcases hk j (by omega) h2 with h | h
        · rw [h]; rfl
        · have : decide ((lam j).dst = some t) = false := by simp; exact fun e => h.d3 t e ht
          rw [this]; simp
  have hhp : ∀ b, b ∈ (lam i).rd ∨ b ∈ (lam i).wr → X.hp b = lk b (σ i).hp := by
    intro b hbm
    rw [hI.hp b, lk_hp hT b i (by omega)]
    unfold hpAt
    rw [lastW_cut (i := i) (W' := fun j => true && decide (b ∈ (lam j).wr)) (fun j hj => ?_) (by omega) (fun j h1 h2 => ?_)]
    · rcases hb j hj with h | h
      · rw [h]
      · have : decide (b ∈ (lam j).wr) = false := by
          simp only [decide_eq_false_iff_not]
          exact fun e => hbm.elim (h.w1 b e) (h.w2 b e)
        rw [this]; simp
    · by_cases e : j = i
      · subst e; rw [hE]; rfl
      · rcases hk j (by omega) h2 with h | h
        · rw [h]; rfl
        · have : decide (b ∈ (lam j).wr) = false := by
            simp only [decide_eq_false_iff_not]
            exact fun e => hbm.elim (h.w3 b e) (fun q => h.w2 b q e)
          rw [this]; simp
  have hnone : ∀ i, i ≤ ops.size → ∀ b, (σ i).nx ≤ b → lk b (σ i).hp = none := by
    intro i
    induction i with
    | zero => exact fun _ => h0
    | succ i ih =>
      intro hi b hb
      obtain ⟨o, ho, hs⟩ := hT.at (i := i) (by omega)
      have e1 := nx_le hT (j := i) (by omega)
      have e2 : (σ (i + 1)).hp = (ε i).hp := by rw [hs.next]; cases o.dst <;> rfl
      have hnx := hs.eff.nx
      rw [e2, hs.eff.same b (fun hm => ?_) (fun hm => by omega)]
      · exact ih (by omega) b (by omega)
      · cases hd : δ i with
        | true => have := (hs.run hd).2 b hm; omega
        | false => rw [hs.skip hd] at hm; simp at hm
  -- behind the step
  have hnext : ∀ (X' : Cx S) (v : Value), Ext X X' → WF X' → X'.M0 = X.M0 → RelP X' (ε i).val v → After (σ i) (ε i) X X' → Inv n ops.size σ ε lam X0 (addE E i) X' (a.put o.dst v) := by
    intro X' v he hw hm hv ha
    refine ⟨hw, ?_, ?_, hI.ext.comp he hI.m0 hI.wf, hm.trans hI.m0, fun t p htp => ?_, fun b => ?_⟩
    · rw [← hI.size]; cases o.dst <;> simp [Act.put]
    · rw [← hI.defers]; cases o.dst <;> rfl
    · by_cases hd : o.dst = some t
      · have hlast : lastW (fun j => addE E i j && decide ((lam j).dst = some t)) ops.size = some i := by
          refine lastW_is (by simp [addE, hl, hd]) hi (fun j h1 h2 => ?_)
          rcases hk j h1 h2 with h | h
          · have : addE E i j = false := by simp [addE, h]; omega
            rw [this]; rfl
          · have : decide ((lam j).dst = some t) = false := by simp; exact h.d1 t (by rw [hl]; exact hd)
            rw [this]; simp
        simp only [tmAt, hlast, Option.some.injEq] at htp
        subst htp
        have hlt := h.dst t hd
        rw [hd]
        simp only [Act.put]
        rw [Array.getD_eq_getD_getElem?, Array.getElem?_setIfInBounds_self_of_lt (by rw [hI.size]; exact hlt)]
        exact hv
      · have hsame : tmAt σ ε lam (addE E i) ops.size t = tmAt σ ε lam E ops.size t := by
          unfold tmAt
          rw [lastW_congr (W' := fun j => E j && decide ((lam j).dst = some t)) (fun j _ => ?_)]
          by_cases e : j = i
          · subst e
            have : decide ((lam j).dst = some t) = false := by rw [hl]; simpa using hd
            rw [this]; simp
          · simp [addE, e]
        rw [hsame] at htp
        have := he.relP (hI.tm t p htp)
        cases hdd : o.dst with
        | none => exact this
        | some t' =>
          simp only [Act.put]
          rw [Array.getD_eq_getD_getElem?, Array.getElem?_setIfInBounds_ne (fun e => hd (by rw [hdd, e])), ← Array.getD_eq_getD_getElem?]
          exact this
    · rw [ha b]
      by_cases hbw : b ∈ (lam i).wr
      · have hlast : lastW (fun j => addE E i j && decide (b ∈ (lam j).wr)) ops.size = some i := by
          refine lastW_is (by simp [addE, hbw]) hi (fun j h1 h2 => ?_)
          rcases hk j h1 h2 with h | h
          · have : addE E i j = false := by simp [addE, h]; omega
            rw [this]; rfl
          · have : decide (b ∈ (lam j).wr) = false := by
              simp only [decide_eq_false_iff_not]
              exact h.w2 b hbw
            rw [this]; simp
        rw [hl, mem_newOf] at hbw
        rw [if_pos hbw.symm]
        simp only [hpAt, hlast]
      · have hsame : hpAt σ ε lam (addE E i) ops.size b = hpAt σ ε lam E ops.size b := by
          unfold hpAt
          rw [lastW_congr (W' := fun j => E j && decide (b ∈ (lam j).wr)) (fun j _ => ?_)]
          by_cases e : j = i
          · subst e
            have : decide (b ∈ (lam j).wr) = false := by simpa using hbw
            rw [this]; simp
          · simp [addE, e]
        rw [hsame, ← hI.hp b]
        rw [hl, mem_newOf] at hbw
        rw [if_neg (fun h => hbw h.symm)]
  have hw := wanted_of h.wanted (X := X) (a := a) (fun t ht p hp => hI.tm t p (by rw [htm t (by rw [hl]; simp [ht])]; exact hp))
  unfold wpOp
  simp only [ho]
  cases hd : δ i with
  | true =>
    rw [hw, hd]
    simp only [if_true]
    refine .inl ((h.run hd).1 X a _ Q hI.wf (fun t ht p hp => hI.tm t p (by rw [htm t (by rw [hl]; simp [hd, ht])]; exact hp)) ⟨fun b hbm => hhp b (.inl (by rw [hl]; exact hbm)), fun b hbm => hhp b (.inr (by rw [hl]; exact mem_newOf.2 (.inr hbm))), fun b h1 h2 => ?_⟩ (fun X' v h1 h2 h3 h4 h5 => hK X' _ (hnext X' v h1 h2 h3 h4 h5)))
    rw [hhp b (.inr (by rw [hl]; exact mem_newOf.2 (.inl ⟨h1, h2⟩)))]
    exact hnone i (by omega) b h1
  | false =>
    rw [hw, hd]
    simp only [Bool.false_eq_true, if_false]
    have hsk := h.skip hd
    refine hK X _ (hnext X undef (Ext.refl X) hI.wf rfl (by rw [hsk]; rfl) (fun b => ?_))
    rw [hsk]
    rw [if_neg (by simp only [List.not_mem_nil, false_or]; omega)]

theorem all_listed {listed : Array Bool} (hs : listed.size = ops.size) (hr : Region.ready .any ops listed = []) : ∀ i, i < ops.size → listed.getD i false = true := by
  intro i
  induction i using Nat.strongRecOn with
  | _ i ih =>
    intro hi
    cases hl : listed.getD i false with
    | true => rfl
    | false =>
      exfalso
      have hm : i ∈ Region.ready .any ops listed := by
        rw [mem_ready]
        refine ⟨?_, ops[i], Array.getElem?_eq_getElem hi, fun e he hb => ?_⟩
        · have h' : i < listed.size := by omega
          simp only [Array.getD, h', dif_pos] at hl ⊢
          exact hl
        · exact ih e.on (hF.back i _ (Array.getElem?_eq_getElem hi) e (by simpa using he) hb) (by have := hF.back i _ (Array.getElem?_eq_getElem hi) e (by simpa using he) hb; omega)
      rw [hr] at hm
      cases hm

theorem region_any {X0 : Cx S} (h0 : ∀ b, (σ 0).nx ≤ b → lk b (σ 0).hp = none) {Q : Exit → Act → World → Prop}
    (hQ : ∀ X' a', Ext X0 X' → X'.M0 = X0.M0 → Sim n X' a' (σ ops.size) → Q .normal a' X'.w) : ∀ (fuel : Nat) (listed : Array Bool) (X : Cx S) (a : Act), listed.size = ops.size →
    (∀ i, listed.getD i false = true → Preds ops (fun j => listed.getD j false) i) → Inv n ops.size σ ε lam X0 (fun j => listed.getD j false) X a → (∃ us : List Nat, us.length ≤ fuel ∧ ∀ i, i < ops.size → listed.getD i false = false → i ∈ us) →
    wpAny P .any ops Q fuel listed a X.w := by
  have hfin : ∀ (listed : Array Bool) (X : Cx S) (a : Act), (∀ i, i < ops.size → listed.getD i false = true) → Inv n ops.size σ ε lam X0 (fun j => listed.getD j false) X a → Q .normal a X.w := by
    intro listed X a hall hI
    have hnone : ∀ i, i ≤ ops.size → ∀ b, (σ i).nx ≤ b → lk b (σ i).hp = none := by
      intro i
      induction i with
      | zero => exact fun _ => h0
      | succ i ih =>
        intro hi b hb
        obtain ⟨o, ho, hs⟩ := hT.at (i := i) (by omega)
        have e1 := nx_le hT (j := i) (by omega)
        have e2 : (σ (i + 1)).hp = (ε i).hp := by rw [hs.next]; cases o.dst <;> rfl
        have hnx := hs.eff.nx
        rw [e2, hs.eff.same b (fun hm => ?_) (fun hm => by omega)]
        · exact ih (by omega) b (by omega)
        · cases hd : δ i with
          | true => have := (hs.run hd).2 b hm; omega
          | false => rw [hs.skip hd] at hm; simp at hm
    refine hQ X a hI.ext hI.m0 ⟨hI.wf, hI.size, hI.defers, fun t p hp => hI.tm t p ?_, fun b => ?_, hnone ops.size (Nat.le_refl _)⟩
    · rw [lk_tm hT t _ (Nat.le_refl _)] at hp
      rw [← hp]
      unfold tmAt
      rw [lastW_congr (W' := fun j => true && decide ((lam j).dst = some t)) (fun j hj => by simp only [hall j hj])]
    · rw [hI.hp b, lk_hp hT b _ (Nat.le_refl _)]
      unfold hpAt
      rw [lastW_congr (W' := fun j => true && decide (b ∈ (lam j).wr)) (fun j hj => by simp only [hall j hj])]
  intro fuel
  induction fuel with
  | zero =>
    intro listed X a hs hc hI hus
    obtain ⟨us, hu1, hu2⟩ := hus
    have hall : ∀ i, i < ops.size → listed.getD i false = true := by
      intro i hi
      cases hl : listed.getD i false with
      | true => rfl
      | false =>
        have := hu2 i hi hl
        have hnil : us = [] := List.eq_nil_of_length_eq_zero (by omega)
        rw [hnil] at this; cases this
    refine ⟨?_, hfin listed X a hall hI⟩
    cases hr : Region.ready .any ops listed with
    | nil => rfl
    | cons i is =>
      exfalso
      have hm : i ∈ Region.ready .any ops listed := by rw [hr]; simp
      rw [mem_ready] at hm
      obtain ⟨hm, o, ho, _⟩ := hm
      have hi : i < ops.size := (Array.getElem?_eq_some_iff.1 ho).1
      have h' : i < listed.size := by omega
      have := hall i hi
      simp only [Array.getD, h', dif_pos] at hm this
      rw [hm] at this; cases this
  | succ fuel ih =>
    intro listed X a hs hc hI hus
    refine ⟨fun hr => hfin listed X a (all_listed hT hF hs hr) hI, fun i hm => ?_⟩
    rw [mem_ready] at hm
    obtain ⟨hm, o, ho, hall⟩ := hm
    have hi : i < ops.size := (Array.getElem?_eq_some_iff.1 ho).1
    have h' : i < listed.size := by omega
    have hE : listed.getD i false = false := by
      simp only [Array.getD, h', dif_pos] at hm ⊢
      exact hm
    have hset : ∀ j, (listed.setIfInBounds i true).getD j false = addE (fun j => listed.getD j false) i j := by
      intro j
      unfold addE
      by_cases e : j = i
      · subst e
        simp [Array.getD, h']
      · simp only [e, decide_false, Bool.or_false]
        exact getD_set_ne false (fun h => e h.symm)
    have hp : Preds ops (fun j => listed.getD j false) i := by
      intro o' ho' e he hb
      rw [ho] at ho'; cases ho'
      exact hall e (by simpa using he) hb
    refine step_any hT hF h0 hc hI hi hE hp (fun X' a' hI' => ?_)
    refine ih _ X' a' (by simpa using hs) (fun j hj => ?_) ?_ ?_
    · intro o' ho' e he hb
      rw [hset] at hj
      show (listed.setIfInBounds i true).getD e.on false = true
      rw [hset]
      have hmono : ∀ k, listed.getD k false = true → addE (fun j => listed.getD j false) i k = true := fun k hk => by simp only [addE, hk, Bool.true_or]
      unfold addE at hj
      simp only [Bool.or_eq_true, decide_eq_true_eq] at hj
      rcases hj with hj | hj
      · exact hmono _ (hc j hj o' ho' e he hb)
      · subst hj; exact hmono _ (hp o' ho' e he hb)
    · have : (fun j => (listed.setIfInBounds i true).getD j false) = addE (fun j => listed.getD j false) i := funext hset
      rw [this]; exact hI'
    · obtain ⟨us, hu1, hu2⟩ := hus
      have him := hu2 i hi hE
      refine ⟨us.erase i, ?_, fun j hj hl => ?_⟩
      · rw [List.length_erase_of_mem him]; omega
      · rw [hset] at hl
        simp only [addE, Bool.or_eq_false_iff, decide_eq_false_iff_not] at hl
        exact (List.mem_erase_of_ne hl.2).2 (hu2 j hj hl.1)

end

/-! ### What is checked -/

theorem maskOf_sound {ops : Array Oper} {acc : List Nat} {i : Nat} {o : Oper} (ho : ops[i]? = some o) (hacc : ∀ j k, j < i → acc[i - 1 - j]? = some k → ∀ x, k.testBit x = true → Bef ops x j) :
    ∀ {es : List Edge} {m m' : Nat}, (∀ e, e ∈ es → e ∈ o.after.toList) → maskOf acc i es m = some m' → (∀ x, m.testBit x = true → Bef ops x i) →
    (∀ x, m'.testBit x = true → Bef ops x i) ∧ ∀ e, e ∈ es → Region.binds .any e = true → e.on < i
  | [], m, m', _, h, hm => by
    simp only [maskOf, Option.some.injEq] at h
    subst h
    exact ⟨hm, fun e he => by cases he⟩
  | e :: es, m, m', hes, h, hm => by
    simp only [maskOf] at h
    cases hb : Region.binds .any e with
    | false =>
      simp only [hb, cond_false] at h
      obtain ⟨h1, h2⟩ := maskOf_sound ho hacc (fun e' he' => hes e' (by simp [he'])) h hm
      refine ⟨h1, fun e' he' hb' => ?_⟩
      rcases List.mem_cons.1 he' with rfl | he'
      · rw [hb] at hb'; cases hb'
      · exact h2 e' he' hb'
    | true =>
      simp only [hb, cond_true] at h
      cases hlt : Nat.blt e.on i with
      | false => simp [hlt] at h
      | true =>
        have hlt' : e.on < i := Nat.blt_eq.mp hlt
        simp only [hlt, cond_true] at h
        cases hk : acc[i - 1 - e.on]? with
        | none => simp [hk] at h
        | some k =>
          simp only [hk] at h
          have he : e ∈ o.after.toList := hes e (by simp)
          obtain ⟨h1, h2⟩ := maskOf_sound ho hacc (fun e' he' => hes e' (by simp [he'])) h (fun x hx => by
            rw [Nat.testBit_or, Nat.testBit_or] at hx
            simp only [Bool.or_eq_true] at hx
            rcases hx with (hx | hx) | hx
            · exact hm x hx
            · rw [Nat.testBit_two_pow] at hx
              have : e.on = x := by simpa using hx
              subst this
              exact .edge i o e ho he hb
            · exact .trans x i o e ho he hb (hacc e.on k hlt' hk x hx))
          refine ⟨h1, fun e' he' hb' => ?_⟩
          rcases List.mem_cons.1 he' with rfl | he'
          · exact hlt'
          · exact h2 e' he' hb'

theorem chkAt_sound {m : Nat} {l : Log} : ∀ {ls : List Log} {i : Nat}, chkAt m l ls i = true → ∀ j k, j < i → ls[i - 1 - j]? = some k → m.testBit j = true ∨ k.clash l = false
  | [], i, _, j, k, _, h => by simp at h
  | x :: xs, i, h, j, k, hj, hk => by
    simp only [chkAt, Bool.and_eq_true, Bool.or_eq_true, Bool.not_eq_true'] at h
    by_cases e : j = i - 1
    · subst e
      have : i - 1 - (i - 1) = 0 := by omega
      rw [this] at hk
      simp at hk; subst hk
      exact h.1
    · have : i - 1 - j = (i - 1 - 1 - j) + 1 := by omega
      rw [this] at hk
      exact chkAt_sound h.2 j k (by omega) (by simpa using hk)

theorem chkR_sound {ops : Array Oper} {lam : Nat → Log} : ∀ {os : List Oper} {ls : List Log} {i : Nat} {acc : List Nat} {prev : List Log}, chkR os ls i acc prev = true → (∀ j, os[j]? = ops[i + j]?) → (∀ j l, ls[j]? = some l → lam (i + j) = l) →
    (∀ j k, j < i → acc[i - 1 - j]? = some k → ∀ x, k.testBit x = true → Bef ops x j) → (∀ j, j < i → prev[i - 1 - j]? = some (lam j)) →
    ∀ p, i ≤ p → p < i + os.length → (∀ o, ops[p]? = some o → ∀ e, e ∈ o.after.toList → Region.binds .any e = true → e.on < p) ∧ ∀ j, j < p → Bef ops j p ∨ Apart (lam j) (lam p)
  | [], ls, i, acc, prev, _, _, _, _, _, p, h1, h2 => by simp at h2; omega
  | o :: os, [], i, acc, prev, h, _, _, _, _, _, _, _ => by simp [chkR] at h
  | o :: os, l :: ls, i, acc, prev, h, ho, hl, hacc, hprev, p, h1, h2 => by
    simp only [chkR] at h
    cases hm : maskOf acc i o.after.toList 0 with
    | none => simp [hm] at h
    | some m =>
      simp only [hm, Bool.and_eq_true] at h
      have hoi : ops[i]? = some o := (ho 0).symm
      have hli : lam i = l := hl 0 l rfl
      obtain ⟨g1, g2⟩ := maskOf_sound hoi hacc (fun e he => he) hm (fun x hx => by simp at hx)
      by_cases e : p = i
      · subst e
        refine ⟨fun o' ho' e he hb => ?_, fun j hj => ?_⟩
        · rw [hoi] at ho'; cases ho'; exact g2 e he hb
        · rcases chkAt_sound h.1 j (lam j) hj (hprev j hj) with h | h
          · exact .inl (g1 j h)
          · rw [hli]; exact .inr (Log.apart h)
      · refine chkR_sound h.2 (fun j => ?_) (fun j l' hl' => ?_) (fun j k hj hk => ?_) (fun j hj => ?_) p (by omega) (by simp at h2; omega)
        · have := ho (j + 1)
          rw [show i + 1 + j = i + (j + 1) by omega, ← this]; rfl
        · rw [show i + 1 + j = i + (j + 1) by omega]
          exact hl (j + 1) l' (by simpa using hl')
        · by_cases e : j = i
          · subst e
            have : j + 1 - 1 - j = 0 := by omega
            rw [this] at hk
            simp at hk; subst hk
            exact g1
          · have : i + 1 - 1 - j = (i - 1 - j) + 1 := by omega
            rw [this] at hk
            exact hacc j k (by omega) (by simpa using hk)
        · by_cases e : j = i
          · subst e
            have : j + 1 - 1 - j = 0 := by omega
            rw [this]; simp [hli]
          · have : i + 1 - 1 - j = (i - 1 - j) + 1 := by omega
            rw [this]
            simpa using hprev j (by omega)

theorem logs_get (lam : Nat → Log) : ∀ k j, j < k → (logs lam 0 k []).reverse[j]? = some (lam j)
  | 0, j, h => by omega
  | k + 1, j, h => by
    simp only [logs, List.reverse_cons, Nat.zero_add]
    have hlen : ∀ k, (logs lam 0 k []).length = k := by
      intro k; induction k with
      | zero => rfl
      | succ k ih => simp [logs, ih]
    by_cases e : j = k
    · subst e
      rw [List.getElem?_append_right (by simp [hlen])]
      simp [hlen]
    · rw [List.getElem?_append_left (by simp [hlen]; omega)]
      exact logs_get lam k j (by omega)

theorem chk_sound {ops : Array Oper} {lam : Nat → Log} (h : chk ops (logs lam 0 ops.size []) = true) : Fine ops lam := by
  have hlen : ∀ k, (logs lam 0 k []).length = k := by
    intro k; induction k with
    | zero => rfl
    | succ k ih => simp [logs, ih]
  have := chkR_sound (ops := ops) (lam := lam) h (fun j => by simp) (fun j l hl => ?_) (fun j k hj => by omega) (fun j hj => by omega)
  · refine ⟨fun i o ho => (this i (Nat.zero_le _) (by have := (Array.getElem?_eq_some_iff.1 ho).1; simpa using this)).1 o ho, fun i hi j hj => (this i (Nat.zero_le _) (by simpa using hi)).2 j hj⟩
  · have hj : j < ops.size := by
      rcases Nat.lt_or_ge j ops.size with h' | h'
      · exact h'
      · rw [List.getElem?_eq_none (by simp [hlen]; exact h')] at hl; cases hl
    rw [logs_get lam _ j hj] at hl
    rw [Nat.zero_add]
    exact Option.some.inj hl

end Vm
end

section
namespace Vm
open Go
variable {S : Sig} {R : Type} {P : Program} [Prog S]

def Fresh (st : St S) : Prop := ∀ b, st.nx ≤ b → lk b st.hp = none

/-- A later context, as far as what is outside of a function, and the first 's' variables, go. -/
structure ExtV (s : Nat) (X X' : Cx S) : Prop where
  chg : Chg X.Mo X.w X'.w
  m : ∀ r, X'.M r → X.M r ∨ X.w.heap.size ≤ r
  m0 : X'.M0 = X.M0
  var : ∀ b, b < s → ∀ cs z, X.hp b = some (.var cs z) → ∃ cs' z', X'.hp b = some (.var cs' z') ∧ X'.g b = X.g b

theorem ExtV.of {s : Nat} {X X' : Cx S} (h : Ext X X') (hm : X'.M0 = X.M0) : ExtV s X X' := by
  refine ⟨h.chg, h.m, hm, fun b _ cs z hb => ?_⟩
  obtain ⟨c', h1, h2⟩ := h.hp b _ hb
  cases c' with
  | var cs' z' => exact ⟨cs', z', h1, h2⟩
  | arr => simp [stepB] at h2

theorem ExtV.refl (s : Nat) (X : Cx S) : ExtV s X X := .of (Ext.refl X) rfl

theorem ExtV.trans {s : Nat} {X Y Z : Cx S} (h : ExtV s X Y) (k : ExtV s Y Z) (wf : WF Y) : ExtV s X Z := by
  have hmo : ∀ r, Y.Mo r → X.Mo r ∨ X.w.heap.size ≤ r := by
    intro r hr
    rcases h.m r (.inr hr) with (h1 | h1) | h1
    · obtain ⟨b, blk, n, h2, h3, h4⟩ := hr
      exact absurd (h.m0 ▸ h1) (wf.sep b blk r n h2 h4)
    · exact .inl h1
    · exact .inr h1
  refine ⟨h.chg.trans k.chg hmo, fun r hr => ?_, k.m0.trans h.m0, fun b hb cs z hx => ?_⟩
  · rcases k.m r hr with h' | h'
    · exact h.m r h'
    · exact .inr (Nat.le_trans h.chg.size h')
  · obtain ⟨cs', z', h1, h2⟩ := h.var b hb cs z hx
    obtain ⟨cs'', z'', h3, h4⟩ := k.var b hb cs' z' h1
    exact ⟨cs'', z'', h3, h4.trans h2⟩

/-- What a piece of code does, from a state to a state. -/
def CodeTr (P : Program) (s n : Nat) (c : Code) (st : St S) (ex : Exit) (st' : St S) : Prop :=
  ∀ (X : Cx S) (a : Act) (Q : Exit → Act → World → Prop), Sim n X a st → (∀ X' a', ExtV s X X' → Sim n X' a' st' → Q ex a' X'.w) → c.wp P Q a X.w

def LoopOk (P : Program) (s n : Nat) (b : Code) (g : LoopOrc S R) : Prop :=
  ∀ st K r, g st K = some r → Fresh st → ∃ ex st', K ex st' = some r ∧ Fresh st' ∧ CodeTr P s n (.loop b) st ex st'

def LoopsOk (P : Program) (O : Orc S R) (s n : Nat) : Code → Prop
  | .seq a b => LoopsOk P O s n a ∧ LoopsOk P O s n b
  | .cond _ a b => LoopsOk P O s n a ∧ LoopsOk P O s n b
  | .block _ a => LoopsOk P O s n a
  | .loop b => ∀ g, lk (loopKey b) O.loop = some g → LoopOk P s n b g
  | _ => True

theorem Sim.dr {n : Nat} {X : Cx S} {a : Act} {st : St S} (h : Sim n X a st) : Sim n X.dr a st :=
  ⟨h.wf.dr, h.size, h.defers, fun t p hp => (Ext.dr X).relP (h.tm t p hp), h.hp, h.new⟩

theorem execK_sound [TabOk (S := S) P] {O : Orc S R} (hO : OrcOk P O) {s n : Nat} : ∀ (c : Code) {st : St S} {K : Exit → St S → Option R} {r : R}, execK O n c st K = some r → Fresh st → LoopsOk P O s n c →
    ∃ ex st', K ex st' = some r ∧ Fresh st' ∧ CodeTr P s n c st ex st'
  | .skip, st, K, r, h, hf, _ => ⟨.normal, st, h, hf, fun X a Q hs hq => wp_skip (hq X a (ExtV.refl s X) hs)⟩
  | .exit id, st, K, r, h, hf, _ => ⟨.exit id, st, h, hf, fun X a Q hs hq => wp_exit (hq X a (ExtV.refl s X) hs)⟩
  | .ret, st, K, r, h, hf, _ => ⟨.ret, st, h, hf, fun X a Q hs hq => wp_ret (hq X a (ExtV.refl s X) hs)⟩
  | .region id ops draw, st, K, r, h, hf, _ => by
    simp only [execK] at h
    obtain ⟨σ, δ, ε, lam, hT, hσ, hK⟩ := regionK_sound hO h (fun j => by simp) hf
    simp only [Nat.zero_add, Array.length_toList] at hT hK
    subst hσ
    refine ⟨.normal, σ ops.size, ?_, hT.fresh hf ops.size (Nat.le_refl _), ?_⟩
    · cases draw with
      | false => exact hK
      | true =>
        simp only [cond_true] at hK
        cases hc : chk ops (logs lam 0 ops.size []) with
        | false => simp [hc] at hK
        | true => simpa [hc] using hK
    · cases draw with
      | false =>
        intro X a Q hs hq
        refine wp_region ?_
        rw [List.range_eq_range']
        exact region_seq hT (X0 := X) (fun X' a' h1 h2 h3 => hq X' a' (.of h1 h2) h3) ops.size 0 (by omega) X a (Ext.refl X) rfl hs
      | true =>
        simp only [cond_true] at hK
        cases hc : chk ops (logs lam 0 ops.size []) with
        | false => simp [hc] at hK
        | true =>
          have hfine := chk_sound hc
          intro X a Q hs hq
          refine wp_region_any (TabOk.mixed (S := S) (P := P)) ?_
          have hw : ({ X.w with drawn := X.w.drawn + 1 } : World) = X.dr.w := rfl
          rw [hw]
          have hd := hs.dr
          refine region_any hT hfine hf (X0 := X.dr) (fun X' a' h1 h2 h3 => hq X' a' (.of ((Ext.dr X).comp h1 rfl hs.wf.dr) h2) h3) ops.size _ X.dr a (by simp) (fun i hi => ?_) ⟨hd.wf, hd.size, hd.defers, Ext.refl _, rfl, fun t p hp => ?_, fun b => ?_⟩ ⟨List.range ops.size, by simp, fun i hi _ => by simpa using hi⟩
          · by_cases h : i < ops.size
            · simp [Array.getD, h] at hi
            · simp [Array.getD, h] at hi
          · refine hd.tm t p ?_
            rw [← hp]
            unfold tmAt
            rw [lastW_cut (i := 0) (W' := fun _ => false) (fun j hj => by omega) (by omega) (fun j _ h => by simp [Array.getD])]
            rfl
          · rw [hd.hp b]
            unfold hpAt
            rw [lastW_cut (i := 0) (W' := fun _ => false) (fun j hj => by omega) (by omega) (fun j _ h => by simp [Array.getD])]
            rfl
  | .seq a b, st, K, r, h, hf, hl => by
    simp only [execK] at h
    obtain ⟨ex, st1, h1, hf1, h2⟩ := execK_sound hO a h hf hl.1
    by_cases hex : ex = .normal
    · subst hex
      obtain ⟨ex', st2, h3, hf2, h4⟩ := execK_sound hO b h1 hf1 hl.2
      refine ⟨ex', st2, h3, hf2, fun X ac Q hs hq => wp_seq (h2 X ac _ hs fun X' a' e1 s1 => ?_)⟩
      exact h4 X' a' Q s1 fun X'' a'' e3 s2 => hq X'' a'' (e1.trans e3 s1.wf) s2
    · refine ⟨ex, st1, ?_, hf1, fun X ac Q hs hq => wp_seq (h2 X ac _ hs fun X' a' e1 s1 => ?_)⟩
      · cases ex <;> first | exact absurd rfl hex | exact h1
      · have := hq X' a' e1 s1
        cases ex <;> first | exact absurd rfl hex | exact this
  | .cond c x y, st, K, r, h, hf, hl => by
    simp only [execK] at h
    split at h <;> try (simp at h; done)
    rename_i t hc
    have hev : ∀ (X : Cx S) (a : Act), Sim n X a st → a.eval c = .bool t := fun X a hs =>
      rel_bool (ev_sound hc (ts := tmpsOf [c]) (fun t' _ p hp => hs.tm t' p hp) (fun t' e => by subst e; simp [tmpsOf]))
    cases t with
    | true =>
      obtain ⟨ex, st1, h1, hf1, h2⟩ := execK_sound hO x h hf hl.1
      exact ⟨ex, st1, h1, hf1, fun X a Q hs hq => wp_cond_true (hev X a hs) (h2 X a Q hs hq)⟩
    | false =>
      obtain ⟨ex, st1, h1, hf1, h2⟩ := execK_sound hO y h hf hl.2
      exact ⟨ex, st1, h1, hf1, fun X a Q hs hq => wp_cond_false (hev X a hs) (h2 X a Q hs hq)⟩
  | .block id b, st, K, r, h, hf, hl => by
    simp only [execK] at h
    obtain ⟨ex, st1, h1, hf1, h2⟩ := execK_sound hO b h hf hl
    cases ex with
    | exit id' =>
      simp only at h1
      cases hid : Nat.beq id' id with
      | true =>
        simp only [hid, cond_true] at h1
        have hid := Nat.eq_of_beq_eq_true hid
        subst hid
        exact ⟨.normal, st1, h1, hf1, fun X a Q hs hq => wp_block (h2 X a _ hs fun X' a' e1 s1 => by simpa [Exit.inBlock] using hq X' a' e1 s1)⟩
      | false =>
        simp only [hid, cond_false] at h1
        have hne : id' ≠ id := fun e => by subst e; rw [Nat.beq_refl] at hid; cases hid
        exact ⟨.exit id', st1, h1, hf1, fun X a Q hs hq => wp_block (h2 X a _ hs fun X' a' e1 s1 => by simpa [Exit.inBlock, hne] using hq X' a' e1 s1)⟩
    | normal => exact ⟨_, st1, h1, hf1, fun X a Q hs hq => wp_block (h2 X a _ hs fun X' a' e1 s1 => by simpa [Exit.inBlock] using hq X' a' e1 s1)⟩
    | ret => exact ⟨_, st1, h1, hf1, fun X a Q hs hq => wp_block (h2 X a _ hs fun X' a' e1 s1 => by simpa [Exit.inBlock] using hq X' a' e1 s1)⟩
    | goto l => exact ⟨_, st1, h1, hf1, fun X a Q hs hq => wp_block (h2 X a _ hs fun X' a' e1 s1 => by simpa [Exit.inBlock] using hq X' a' e1 s1)⟩
    | panic ch => exact ⟨_, st1, h1, hf1, fun X a Q hs hq => wp_block (h2 X a _ hs fun X' a' e1 s1 => by simpa [Exit.inBlock] using hq X' a' e1 s1)⟩
    | outgrown => exact ⟨_, st1, h1, hf1, fun X a Q hs hq => wp_block (h2 X a _ hs fun X' a' e1 s1 => by simpa [Exit.inBlock] using hq X' a' e1 s1)⟩
  | .loop b, st, K, r, h, hf, hl => by
    simp only [execK] at h
    split at h <;> try (simp at h; done)
    rename_i g hg
    exact hl g hg st K r h hf
  | .rangeFunc .., _, _, _, h, _, _ => by simp [execK] at h
  | .scope _, _, _, _, h, _, _ => by simp [execK] at h
  | .label _, _, _, _, h, _, _ => by simp [execK] at h
  | .goto _, _, _, _, h, _, _ => by simp [execK] at h
  | .refuse _, _, _, _, h, _, _ => by simp [execK] at h

end Vm
end

section
namespace Vm
open Go
variable {S : Sig} {R : Type} {P : Program} [Prog S]

/-- The data of values of some layouts. -/
def DL : List (Lay S) → Type
  | [] => Unit
  | l :: ls => Ds S.Ty l.shs × DL ls

def RelV (w : World) (M : Nat → Prop) (l : Lay S) (d : Ds S.Ty l.shs) (v : Value) : Prop :=
  ∃ us : List Value, v = valOf l.agg us ∧ (l.agg = false → us.length = 1) ∧ RelFs w M (encs l.shs d) us

def RelVs (w : World) (M : Nat → Prop) : (ls : List (Lay S)) → DL ls → List Value → Prop
  | [], _, [] => True
  | l :: ls, d, v :: vs => RelV w M l d.1 v ∧ RelVs w M ls d.2 vs
  | _, _, _ => False

def retVal : List Value → Value
  | [v] => v
  | vs => .tuple vs.toArray

/-- The package variables stand as they stood. -/
def Glob (w : World) (M : Nat → Prop) : Prop := ∀ x, x ∈ S.glob → x.1 < w.heap.size ∧ ¬ M x.1 ∧ ∃ cs t f, w.heap[x.1]? = some (.cells cs t f) ∧ x.2 cs

/-- A call: data in, data out; nothing that was there is written. -/
def CallsTo (P : Program) (f : FuncId) (ps rs : List (Lay S)) (F : DL ps → Option (DL rs)) : Prop :=
  ∀ d res, F d = some res → ∀ (w : World) (M : Nat → Prop) (vs : List Value), (∀ r, M r → r < w.heap.size) → Glob (S := S) w M → RelVs w M ps d vs →
    Calls P f vs.toArray w fun en w' => ∃ us, en = .returned (retVal us) ∧ Chg (fun _ => False) w w' ∧ RelVs w' M rs res us

def encPE : (l : Lay S) → Ds S.Ty l.shs → PE S
  | .sc s, d => .sc (.f (enc1 s d.1))
  | .sl k, d => .sc (.f (.sl k d.1))
  | .st shs _ _, d => .ag ((encs shs d).map .f)
  | .ar k n, d => .ag [.f (.arr k n d.1)]
  | .none, _ => .ag []

def encPEs : (ls : List (Lay S)) → DL ls → List (PE S)
  | [], _ => []
  | l :: ls, d => encPE l d.1 :: encPEs ls d.2

def encPVs : (ls : List (Lay S)) → DL ls → List (PV S)
  | [], _ => []
  | l :: ls, d => .e (encPE l d.1) :: encPVs ls d.2

def resPV : (ls : List (Lay S)) → DL ls → PV S
  | [l], d => .e (encPE l d.1)
  | ls, d => .tu (encPEs ls d)

def decPE (hp : List (Nat × Blk S)) (l : Lay S) : PE S → Option (Ds S.Ty l.shs)
  | .ag cs => bif l.agg then decsC hp l.shs cs else none
  | .sc c => bif l.agg then none else decsC hp l.shs [c]

def decPL (hp : List (Nat × Blk S)) : (ls : List (Lay S)) → List (PE S) → Option (DL ls)
  | [], [] => some ()
  | l :: ls, p :: ps => match decPE hp l p with
    | some d => match decPL hp ls ps with
      | some ds => some (d, ds)
      | none => none
    | none => none
  | _, _ => none

def pesOf : List (PV S) → Option (List (PE S))
  | [] => some []
  | .e p :: ps => match pesOf ps with
    | some l => some (p :: l)
    | none => none
  | _ => none

def livesL : List (PE S) → List Nat
  | [] => []
  | p :: ps => lives p.cells ++ livesL ps

def flatSh : Sh S.K → Bool
  | .int _ => true
  | .bool => true
  | .str => true
  | .err => true
  | .oth => true
  | .fn => true
  | _ => false

def flatL (ls : List (Lay S)) : Bool := ls.all fun l => l.shs.all flatSh

def goodL : Lay S → Bool
  | .sc (.arr ..) => false
  | .none => false
  | _ => true

def callOrc (ps rs : List (Lay S)) (F : DL ps → Option (DL rs)) : CallOrc S R := fun args st K =>
  match pesOf args with
  | none => none
  | some pes => match decPL st.hp ps pes with
    | none => none
    | some d => bif rs.all goodL then (match F d with
      | none => none
      | some res => bif flatL rs then K ⟨resPV rs res, livesL pes, [], st.hp, st.nx⟩ else K ⟨resPV rs res, livesL pes, livesL pes, frz st.hp (livesL pes), st.nx⟩) else none

/-- A function that the machine runs. -/
def runF {rs : List (Lay S)} (O : Orc S (DL rs)) (fn : Func) (ps : List (Lay S)) (d : DL ps) : Option (DL rs) :=
  funK O fn (encPVs ps d) [] 0 fun pes st => decPL st.hp rs pes

theorem RelV.toE {X : Cx S} {l : Lay S} {d : Ds S.Ty l.shs} {v : Value} (hg : goodL l = true) (h : RelV X.w X.M l d v) : RelE X (encPE l d) v := by
  obtain ⟨us, rfl, h1, h2⟩ := h
  cases l with
  | sc s =>
    have h1 := h1 rfl
    cases h2 with
    | cons c cs us' vs' a b c =>
      cases c
      simp only [List.append_nil] at h1 ⊢
      obtain ⟨v, rfl⟩ : ∃ v, us' = [v] := by
        cases us' with
        | nil => simp at h1
        | cons v us => cases us with
          | nil => exact ⟨v, rfl⟩
          | cons => simp at h1
      refine ⟨.f _ _ b, ?_⟩
      cases s <;> first | rfl | simp [goodL] at hg
  | sl k =>
    have h1 := h1 rfl
    cases h2 with
    | cons c cs us' vs' a b c =>
      cases c
      simp only [List.append_nil] at h1 ⊢
      obtain ⟨v, rfl⟩ : ∃ v, us' = [v] := by
        cases us' with
        | nil => simp at h1
        | cons v us => cases us with
          | nil => exact ⟨v, rfl⟩
          | cons => simp at h1
      exact ⟨.f _ _ b, rfl⟩
  | st shs offs w => exact ⟨us, rfl, h2.toC⟩
  | ar k n => exact ⟨us, rfl, RelFs.toC (cs := [.arr k n d.1]) h2⟩
  | none => simp [goodL] at hg

theorem RelVs.toPL {X : Cx S} : ∀ {ls : List (Lay S)} {d : DL ls} {vs : List Value}, ls.all goodL = true → RelVs X.w X.M ls d vs → RelPL X (encPVs ls d) vs
  | [], _, [], _, _ => .nil
  | l :: ls, d, v :: vs, hg, h => by
    simp only [List.all_cons, Bool.and_eq_true] at hg
    exact .cons (h.1.toE hg.1) (RelVs.toPL hg.2 h.2)
  | [], _, _ :: _, _, h => h.elim
  | _ :: _, _, [], _, h => h.elim

theorem RelVs.toEL {X : Cx S} : ∀ {ls : List (Lay S)} {d : DL ls} {vs : List Value}, ls.all goodL = true → RelVs X.w X.M ls d vs → RelEL X (encPEs ls d) vs
  | [], _, [], _, _ => .nil
  | l :: ls, d, v :: vs, hg, h => by
    simp only [List.all_cons, Bool.and_eq_true] at hg
    exact .cons _ _ _ _ (h.1.toE hg.1) (RelVs.toEL hg.2 h.2)
  | [], _, _ :: _, _, h => h.elim
  | _ :: _, _, [], _, h => h.elim

theorem RelVs.len {w : World} {M : Nat → Prop} : ∀ {ls : List (Lay S)} {d : DL ls} {vs : List Value}, RelVs w M ls d vs → vs.length = ls.length
  | [], _, [], _ => rfl
  | l :: ls, d, v :: vs, h => by simp [h.2.len]
  | [], _, _ :: _, h => h.elim
  | _ :: _, _, [], h => h.elim

theorem RelVs.toRes {X : Cx S} {ls : List (Lay S)} {d : DL ls} {vs : List Value} (hg : ls.all goodL = true) (h : RelVs X.w X.M ls d vs) : RelP X (resPV ls d) (retVal vs) := by
  have hl := h.len
  match ls, vs, d, h, hl with
  | [], [], d, h, _ => exact ⟨[], rfl, .nil⟩
  | [l], [v], d, h, _ =>
    simp only [List.all_cons, Bool.and_eq_true] at hg
    exact h.1.toE hg.1
  | l :: l2 :: ls, v :: v2 :: vs, d, h, _ => exact ⟨v :: v2 :: vs, rfl, h.toEL hg⟩

theorem RelF.err_any {w : World} {M M' : Nat → Prop} {e : Option Int} {us : List Value} (h : RelF (S := S) w M (.err e) us) : RelF (S := S) w M' (.err e) us := by
  cases h with
  | err => exact .err _
  | erro t v => exact .erro t v

theorem RelFs.flat {w : World} {M M' : Nat → Prop} : ∀ {ss : List (Sh S.K)} {d : Ds S.Ty ss} {us : List Value}, ss.all flatSh = true → RelFs w M (encs ss d) us → RelFs w M' (encs ss d) us
  | [], d, us, _, h => by cases h; exact .nil
  | s :: ss, d, us, hf, h => by
    simp only [List.all_cons, Bool.and_eq_true] at hf
    cases h with
    | cons c cs us' vs' h1 h2 h3 =>
      refine .cons _ _ _ _ h1 ?_ (RelFs.flat hf.2 h3)
      have hf := hf.1
      cases s <;> first | (simp [flatSh] at hf; done) | skip
      · cases h2; exact .int _ _
      · cases h2; exact .bool _
      · cases h2; exact .str _
      · exact RelF.err_any h2
      · cases h2 with | oth _ h => exact .oth _ h
      · cases h2; exact .fn _

theorem RelVs.flat {w : World} {M M' : Nat → Prop} : ∀ {ls : List (Lay S)} {d : DL ls} {vs : List Value}, flatL ls = true → RelVs w M ls d vs → RelVs w M' ls d vs
  | [], _, [], _, _ => trivial
  | l :: ls, d, v :: vs, hf, h => by
    simp only [flatL, List.all_cons, Bool.and_eq_true] at hf
    obtain ⟨⟨us, h1, h2, h3⟩, h4⟩ := h
    exact ⟨⟨us, h1, h2, h3.flat hf.1⟩, RelVs.flat (by simpa [flatL] using hf.2) h4⟩
  | [], _, _ :: _, _, h => h.elim
  | _ :: _, _, [], _, h => h.elim

theorem RelVs.mono {w : World} {M M' : Nat → Prop} (hM : ∀ r, M' r → M r) : ∀ {ls : List (Lay S)} {d : DL ls} {vs : List Value}, RelVs w M ls d vs → RelVs w M' ls d vs
  | [], _, [], _ => trivial
  | l :: ls, d, v :: vs, h => by
    obtain ⟨⟨us, h1, h2, h3⟩, h4⟩ := h
    exact ⟨⟨us, h1, h2, h3.up (Chg.refl M w) (fun x hx => .inl (hM x hx))⟩, RelVs.mono hM h4⟩
  | [], _, _ :: _, h => h.elim
  | _ :: _, _, [], h => h.elim

/-- What is taken as data out of a state in which what is alive is frozen. -/
theorem decPE_sound {Y : Cx S} (hY : WF Y) {hp : List (Nat × Blk S)} {l : Lay S} {p : PE S} {d : Ds S.Ty l.shs} {v : Value} (h : decPE hp l p = some d) (hr : RelE Y p v)
    (hz : ∀ b, b ∈ lives p.cells → ∃ x, lk b hp = some x ∧ Y.hp b = some x.frozen) : RelV Y.w Y.M l d v := by
  cases p with
  | sc c =>
    cases ha : l.agg with
    | true => simp [decPE, ha] at h
    | false =>
      simp only [decPE, ha, cond_false] at h
      have hc : RelCs Y [c] [v] := by
        have := RelCs.cons c [] [v] [] (Cell.width_sc hr.2).symm hr.1 (.nil (X := Y))
        simpa using this
      exact ⟨[v], by simp [valOf, ha], fun _ => rfl, decsC_sound hY h hc hz⟩
  | ag cs =>
    cases ha : l.agg with
    | false => simp [decPE, ha] at h
    | true =>
      simp only [decPE, ha, cond_true] at h
      obtain ⟨us, rfl, hc⟩ := hr
      refine ⟨us, by simp [valOf, ha], ?_, decsC_sound hY h hc hz⟩
      intro e; rw [ha] at e; cases e

theorem decPL_sound {Y : Cx S} (hY : WF Y) {hp : List (Nat × Blk S)} : ∀ {ls : List (Lay S)} {ps : List (PE S)} {d : DL ls} {vs : List Value}, decPL hp ls ps = some d → RelEL Y ps vs →
    (∀ b, b ∈ livesL ps → ∃ x, lk b hp = some x ∧ Y.hp b = some x.frozen) → RelVs Y.w Y.M ls d vs
  | [], [], d, vs, _, hr, _ => by cases hr; trivial
  | [], _ :: _, _, _, h, _, _ => by simp [decPL] at h
  | _ :: _, [], _, _, h, _, _ => by simp [decPL] at h
  | l :: ls, p :: ps, d, vs, h, hr, hz => by
    simp only [decPL] at h
    cases h1 : decPE hp l p with
    | none => simp [h1] at h
    | some x =>
      cases h2 : decPL hp ls ps with
      | none => simp [h1, h2] at h
      | some y =>
        simp only [h1, h2] at h
        obtain rfl : (x, y) = d := Option.some.inj h
        cases hr with
        | cons _ _ v vs r1 r2 =>
          exact ⟨decPE_sound hY h1 r1 (fun b hb => hz b (by simp [livesL, hb])), decPL_sound hY h2 r2 (fun b hb => hz b (by simp [livesL, hb]))⟩

theorem frz_livesL {X : Cx S} {hp : List (Nat × Blk S)} {bs : List Nat} (hX : WF X) (h : ∀ b, b ∈ bs → X.hp b = lk b hp) : ∀ {ps : List (PE S)} {vs : List Value}, RelEL X ps vs → (∀ b, b ∈ livesL ps → b ∈ bs) →
    ∀ b, b ∈ livesL ps → ∃ x, lk b hp = some x ∧ (X.frs bs).hp b = some x.frozen
  | [], _, _, _, b, hm => by simp [livesL] at hm
  | p :: ps, _, .cons _ _ v vs r1 r2, hb, b, hm => by
    simp only [livesL, List.mem_append] at hm
    obtain ⟨us, e1, e2⟩ := r1.cells
    rcases hm with hm | hm
    · exact frz_lives hX h e2 (fun b h => hb b (by simp [livesL, h])) b hm
    · exact frz_livesL hX h r2 (fun b h => hb b (by simp [livesL, h])) b hm

theorem pesOf_sound {X : Cx S} : ∀ {ps : List (PV S)} {l : List (PE S)} {vs : List Value}, pesOf ps = some l → RelPL X ps vs → RelEL X l vs
  | [], l, vs, h, hr => by simp [pesOf] at h; subst h; cases hr; exact .nil
  | p :: ps, l, vs, h, hr => by
    cases p with
    | e p =>
      simp only [pesOf] at h
      cases h1 : pesOf ps with
      | none => simp [h1] at h
      | some l' =>
        simp only [h1, Option.some.injEq] at h
        subst h
        cases hr with
        | cons r1 r2 => exact .cons _ _ _ _ r1 (pesOf_sound h1 r2)
    | tu ps => simp [pesOf] at h
    | undef => simp [pesOf] at h

/-- A call whose answer is known may be asked. -/
theorem callOrc_ok {f : FuncId} {ps rs : List (Lay S)} {F : DL ps → Option (DL rs)} (hF : CallsTo P f ps rs F) : CallOk P f (callOrc (R := R) ps rs F) := by
  intro args st K r h
  unfold callOrc at h
  cases h1 : pesOf args with
  | none => simp [h1] at h
  | some pes =>
  simp only [h1] at h
  cases h2 : decPL st.hp ps pes with
  | none => simp [h2] at h
  | some d =>
  simp only [h2] at h
  cases hg : rs.all goodL with
  | false => simp [hg] at h
  | true =>
  simp only [hg, cond_true] at h
  cases h3 : F d with
  | none => simp [h3] at h
  | some res =>
  simp only [h3] at h
  have common : ∀ (X : Cx S) (vs : List Value), WF X → RelPL X args vs → (∀ b, b ∈ livesL pes → X.hp b = lk b st.hp) →
      Calls P f vs.toArray X.w fun en w' => ∃ us, en = .returned (retVal us) ∧ Chg (fun _ => False) X.w w' ∧ RelVs w' (X.frs (livesL pes)).M rs res us := by
    intro X vs hX hr hb
    obtain ⟨x1, x2, x3, x4, x5⟩ := Ext.frs (livesL pes) X hX
    have hel := pesOf_sound h1 hr
    have hz := frz_livesL hX hb hel (fun b h => h)
    have hd := decPL_sound x2 h2 (x1.relEL hel) hz
    rw [x3] at hd
    exact hF d res h3 X.w (X.frs (livesL pes)).M vs (fun r hr => by have := x2.lt hr; rw [x3] at this; exact this) (by have := x2.gl; rw [x3] at this; exact this) hd
  cases hfl : flatL rs with
  | true =>
    simp only [hfl, cond_true] at h
    refine ⟨_, h, ⟨Nat.le_refl _, fun _ _ _ => rfl⟩, fun X vs hX hr hb => ?_⟩
    refine (common X vs hX hr hb.rd).mono ?_
    rintro en w' ⟨us, rfl, hc, hv⟩
    refine ⟨X.gr w', _, rfl, rfl, Ext.gr hc, hX.gr hc, rfl, ?_, fun b => ?_⟩
    · exact RelVs.toRes (X := X.gr w') hg (hv.flat hfl)
    · rw [if_neg (by simp only [List.not_mem_nil, false_or]; omega)]; rfl
  | false =>
    simp only [hfl, cond_false] at h
    refine ⟨_, h, ⟨Nat.le_refl _, fun b hb _ => by rw [lk_frz]; simp only [frzAt]; rw [if_neg hb]⟩, fun X vs hX hr hb => ?_⟩
    refine (common X vs hX hr hb.rd).mono ?_
    rintro en w' ⟨us, rfl, hc, hv⟩
    obtain ⟨x1, x2, x3, x4, x5⟩ := Ext.frs (livesL pes) X hX
    have hc' : Chg (fun _ => False) (X.frs (livesL pes)).w w' := by rw [x3]; exact hc
    refine ⟨(X.frs (livesL pes)).gr w', _, rfl, rfl, x1.comp (Ext.gr hc') x4 x2, x2.gr hc', x4, ?_, fun b => ?_⟩
    · exact RelVs.toRes (X := (X.frs (livesL pes)).gr w') hg hv
    · show (X.frs (livesL pes)).hp b = _
      rw [frs_hp, lk_frz]
      simp only [frzAt]
      by_cases e' : b ∈ livesL pes
      · simp [e', hb.wr b e']
      · rw [if_neg e', if_neg (by simp only [e', false_or]; omega)]

/-! ### The results -/

def resG (tmps : Array Value) : ResultVar → Sem Value
  | .tmp t => pure (tmps.getD t undef)
  | .cell a t => do loadVar t (← asAddr (tmps.getD a undef))

theorem results_eq (fn : Func) (tmps : Array Value) : results fn tmps = (do
    let vs ← fn.results.mapM (resG tmps)
    pure (if h : vs.size = 1 then vs[0] else .tuple vs)) := by
  unfold results
  congr 1

theorem run_results [TabOk (S := S) P] {n : Nat} {X : Cx S} {a : Act} {st : St S} (hs : Sim n X a st) {fn : Func} {pes : List (PE S)} (h : resPEs st fn.results.toList = some pes) :
    ∃ us, (results fn a.tmps).run P X.w = .ok (retVal us) X.w ∧ RelEL X pes us := by
  have one : ∀ (rv : ResultVar) (p : PE S), resPE st rv = some p → ∃ v, (resG a.tmps rv).run P X.w = .ok v X.w ∧ RelE X p v := by
    intro rv p h
    unfold resPE at h
    cases rv with
    | tmp t =>
      simp only at h
      split at h <;> try (simp at h; done)
      rename_i q hq
      obtain rfl := Option.some.inj h
      exact ⟨_, by simp [resG], hs.tm t _ hq⟩
    | cell ad t =>
      simp only at h
      split at h <;> try (simp at h; done)
      rename_i b hb
      split at h <;> try (simp at h; done)
      rename_i cs z hlk
      split at h <;> try (simp at h; done)
      rename_i r ht
      have hptr : RelC X (.ptr b 0) [a.tmps.getD ad undef] := (hs.tm ad _ hb : RelE X (.sc (.ptr b 0)) _).1
      show ∃ v, ((do loadVar t (← asAddr (a.tmps.getD ad undef))) : Sem Value).run P X.w = .ok v X.w ∧ RelE X p v
      generalize a.tmps.getD ad undef = v at hptr ⊢
      cases hptr with
      | ptr _ _ r0 n0 cs' z' g1 g2 =>
        have hXb : X.hp b = some (.var cs z) := (hs.hp b).trans hlk
        obtain ⟨el, zz, vs, e1, e2, e3, e4⟩ := cells_var hs.wf hXb g1
        obtain ⟨us, ws, rfl, e5, e6⟩ := takeW_sound e3 ht
        refine ⟨valOf (Tab.at (Prog.tab : Tab S) t).agg us, ?_, mkPE_rel h e6⟩
        simp only [asAddr, Sem.run_bind, Sem.run_pure, Result.andThen_ok]
        exact run_loadVar' (TabOk.ok (S := S) (P := P) t) (none_of_takeW ht h) e5 e4.take
  have many : ∀ (rvs : List ResultVar) (pes : List (PE S)), resPEs st rvs = some pes → ∃ us, (rvs.mapM (resG a.tmps)).run P X.w = .ok us X.w ∧ RelEL X pes us := by
    intro rvs
    induction rvs with
    | nil =>
      intro pes h
      simp [resPEs] at h; subst h
      exact ⟨[], by simp, .nil⟩
    | cons rv rvs ih =>
      intro pes h
      simp only [resPEs] at h
      cases h1 : resPE st rv with
      | none => simp [h1] at h
      | some p =>
        cases h2 : resPEs st rvs with
        | none => simp [h1, h2] at h
        | some ps =>
          simp only [h1, h2, Option.some.injEq] at h
          subst h
          obtain ⟨v, e1, e2⟩ := one rv p h1
          obtain ⟨us, e3, e4⟩ := ih ps h2
          refine ⟨v :: us, ?_, .cons _ _ _ _ e2 e4⟩
          simp only [List.mapM_cons, Sem.run_bind]
          rw [e1]
          simp only [Result.andThen_ok]
          rw [e3]
          simp
  obtain ⟨us, e1, e2⟩ := many fn.results.toList pes h
  refine ⟨us, ?_, e2⟩
  rw [results_eq, Array.mapM_eq_mapM_toList]
  simp only [Sem.run_bind, Sem.run_map, map_eq_pure_bind]
  rw [e1]
  simp only [Result.andThen_ok, Sem.run_pure]
  match us with
  | [] => simp [retVal]
  | [v] => simp [retVal]
  | v :: v2 :: us => simp [retVal]

theorem lk_args0 : ∀ (ps : List (PV S)) (i t : Nat) (p : PV S), lk t (args0 ps i) = some p → i ≤ t ∧ ps[t - i]? = some p
  | [], i, t, p, h => by simp [args0, lk] at h
  | q :: ps, i, t, p, h => by
    simp only [args0, lk_cons] at h
    by_cases e : t = i
    · subst e
      rw [if_pos rfl] at h
      simpa using h
    · rw [if_neg e] at h
      obtain ⟨h1, h2⟩ := lk_args0 ps (i + 1) t p h
      refine ⟨by omega, ?_⟩
      rw [show t - i = (t - (i + 1)) + 1 by omega]
      simpa using h2

theorem RelPL.get {X : Cx S} {ps : List (PV S)} {vs : List Value} (h : RelPL X ps vs) : ∀ (i : Nat) (p : PV S), ps[i]? = some p → ∃ v, vs[i]? = some v ∧ RelP X p v := by
  induction h with
  | nil => intro i p h; simp at h
  | cons h1 _ ih =>
    intro i p h
    cases i with
    | zero => simp at h; subst h; exact ⟨_, rfl, h1⟩
    | succ i => simpa using ih i p (by simpa using h)

theorem RelPL.len {X : Cx S} {ps : List (PV S)} {vs : List Value} (h : RelPL X ps vs) : ps.length = vs.length := by
  induction h with
  | nil => rfl
  | cons _ _ ih => simp [ih]

/-- What the machine computes, the call answers. -/
theorem runF_ok [TabOk (S := S) P] {f : FuncId} {fn : Func} (hf : P.funcs[f]? = some fn) {ps rs : List (Lay S)} (hps : ps.all goodL = true) {O : Orc S (DL rs)} (hO : OrcOk P O) (hL : ∀ c, fn.body = some c → LoopsOk P O 0 fn.ntmps c) : CallsTo P f ps rs (runF O fn ps) := by
  intro d res h w M vs hM hgl hr
  unfold runF funK at h
  cases hb : fn.body with
  | none => simp [hb] at h
  | some c =>
  simp only [hb] at h
  cases hle : Nat.ble (encPVs ps d).length fn.ntmps with
  | false => simp [hle] at h
  | true =>
  simp only [hle, Bool.not_true, cond_false] at h
  have hle := Nat.le_of_ble_eq_true hle
  obtain ⟨ex, st', h1, hf1, h2⟩ := execK_sound (s := 0) hO c h (fun b _ => rfl) (hL c hb)
  let X : Cx S := { g := fun _ => none, hp := fun _ => none, w := w, M0 := M }
  have hXM : ∀ r, X.M r → M r := fun r hr => hr.elim id (fun ⟨b, blk, n, h, _⟩ => by cases h)
  have hX : WF X := by
    refine ⟨?_, ?_, hM, ?_, fun x hx => ⟨(hgl x hx).1, fun h => (hgl x hx).2.1 (hXM _ h), (hgl x hx).2.2⟩⟩
    · intro b c h; cases h
    · intro b b' c c' r n n' h; cases h
    · intro b c r n h; cases h
  have hpl : RelPL X (encPVs ps d) vs := RelVs.toPL (X := X) hps (hr.mono hXM)
  have hlen := hpl.len
  refine calls_of_wp hf hb (h2 X _ _ ⟨hX, ?_, rfl, fun t p hp => ?_, fun b => rfl, fun b _ => rfl⟩ (fun X' a' he hs => ?_))
  · simp; omega
  · obtain ⟨_, hget⟩ := lk_args0 _ 0 t p hp
    obtain ⟨v, hv, hrel⟩ := hpl.get t p (by simpa using hget)
    have : (vs.toArray ++ Array.replicate (fn.ntmps - vs.toArray.size) undef).getD t undef = v := by
      have ht : t < vs.length := by
        rcases Nat.lt_or_ge t vs.length with h | h
        · exact h
        · rw [List.getElem?_eq_none h] at hv; cases hv
      rw [Array.getD_eq_getD_getElem?, Array.getElem?_append_left (by simpa using ht)]
      simp [hv]
    rw [this]; exact hrel
  · have hfin : ∀ pes, resPEs st' fn.results.toList = some pes → decPL st'.hp rs pes = some res → a'.defers = [] ∧ ∃ v, (results fn a'.tmps).run P X'.w = .ok v X'.w ∧
        ∃ us, Ending.returned v = .returned (retVal us) ∧ Chg (fun _ => False) w X'.w ∧ RelVs X'.w M rs res us := by
      intro pes hp hd
      obtain ⟨us, e1, e2⟩ := run_results (P := P) hs hp
      refine ⟨hs.defers, _, e1, us, rfl, ?_, ?_⟩
      · have hc := he.chg
        exact ⟨hc.os, hc.tape, hc.output, hc.size, fun b hb _ => hc.block b hb (fun ⟨b', blk, n, h, _⟩ => by cases h)⟩
      · obtain ⟨x1, x2, x3, x4, x5⟩ := Ext.frs (livesL pes) X' hs.wf
        have hz := frz_livesL hs.wf (fun b _ => hs.hp b) e2 (fun b h => h)
        have hv := decPL_sound x2 hd (x1.relEL e2) hz
        rw [x3] at hv
        exact hv.mono (fun r hr => .inl (by rw [x4, he.m0]; exact hr))
    cases ex with
    | normal =>
      simp only at h1
      split at h1 <;> try (simp at h1; done)
      rename_i pes hp
      exact hfin pes hp h1
    | ret =>
      simp only at h1
      split at h1 <;> try (simp at h1; done)
      rename_i pes hp
      exact hfin pes hp h1
    | _ => simp at h1

end Vm
end
