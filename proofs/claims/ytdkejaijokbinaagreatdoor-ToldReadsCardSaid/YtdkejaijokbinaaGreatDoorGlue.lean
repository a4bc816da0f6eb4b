/- What the readings of a row give is data of the machine, with its bounds; no conditions. -/
import Derived.Test.YtdkejaijokbinaaGreatDoorVmD
import Derived.OpenShut
import Derived.ChangeArms
import Derived.Test.YtdkejaijokbinaaGreatDoorTab
import Derived.Test.YtdkejaijokbinaaGreatDoorPlainB
set_option linter.all false

section
namespace Vm
open Go
variable {S : Sig} {P : Program}

inductive OkDs (S : Sig) : (ss : List (Sh S.K)) → Ds S.Ty ss → Prop
  | nil : OkDs S [] ()
  | int (k ss) (n : Int) (d : Ds S.Ty ss) : (Lit.int k n).wf = true → OkDs S ss d → OkDs S (.int k :: ss) (n, d)
  | bool (ss) (b : Bool) (d : Ds S.Ty ss) : OkDs S ss d → OkDs S (.bool :: ss) (b, d)
  | str (ss) (l : List UInt8) (d : Ds S.Ty ss) : l.length ≤ Go.maxLen → OkDs S ss d → OkDs S (.str :: ss) (l, d)
  | sl (k ss) (L : List (S.Ty k)) (d : Ds S.Ty ss) : L.length ≤ Go.maxLen → (∀ x, x ∈ L → OkDs S (S.sh k) (S.to k x)) → OkDs S ss d → OkDs S (.sl k :: ss) (L, d)
  | arr (k n ss) (L : List (S.Ty k)) (d : Ds S.Ty ss) : L.length = n → (∀ x, x ∈ L → OkDs S (S.sh k) (S.to k x)) → OkDs S ss d → OkDs S (.arr k n :: ss) (L, d)

/-- Data of shapes, that cells hold. -/
def HoldsD (w : World) (M : Nat → Prop) (ss : List (Sh S.K)) (us : List Value) : Prop := ∃ d : Ds S.Ty ss, RelFs w M (encs ss d) us ∧ OkDs S ss d

theorem RelFs.app {w : World} {M : Nat → Prop} : ∀ {a b : List (FC S)} {us vs : List Value}, RelFs w M a us → RelFs w M b vs → RelFs w M (a ++ b) (us ++ vs)
  | [], b, us, vs, h1, h2 => by cases h1; exact h2
  | c :: a, b, us, vs, h1, h2 => by
    cases h1 with
    | cons _ _ u1 u2 x y z =>
      rw [List.append_assoc]
      exact .cons c (a ++ b) u1 (u2 ++ vs) x y (RelFs.app z h2)

theorem HoldsD.nil {w : World} {M : Nat → Prop} : HoldsD (S := S) w M [] [] := ⟨(), .nil, .nil⟩

theorem OkDs.app : ∀ {a b : List (Sh S.K)} {d : Ds S.Ty a} {e : Ds S.Ty b}, OkDs S a d → OkDs S b e → ∃ f : Ds S.Ty (a ++ b), encs (a ++ b) f = encs a d ++ encs b e ∧ OkDs S (a ++ b) f
  | [], b, d, e, _, h2 => ⟨e, rfl, h2⟩
  | s :: a, b, d, e, h1, h2 => by
    cases h1 with
    | int k _ n d' x y => obtain ⟨f, e1, e2⟩ := OkDs.app y h2; exact ⟨(n, f), congrArg (List.cons _) e1, .int k _ n f x e2⟩
    | bool _ n d' y => obtain ⟨f, e1, e2⟩ := OkDs.app y h2; exact ⟨(n, f), congrArg (List.cons _) e1, .bool _ n f e2⟩
    | str _ n d' x y => obtain ⟨f, e1, e2⟩ := OkDs.app y h2; exact ⟨(n, f), congrArg (List.cons _) e1, .str _ n f x e2⟩
    | sl k _ n d' x z y => obtain ⟨f, e1, e2⟩ := OkDs.app y h2; exact ⟨(n, f), congrArg (List.cons _) e1, .sl k _ n f x z e2⟩
    | arr k m _ n d' x z y => obtain ⟨f, e1, e2⟩ := OkDs.app y h2; exact ⟨(n, f), congrArg (List.cons _) e1, .arr k m _ n f x z e2⟩

theorem HoldsD.app {w : World} {M : Nat → Prop} {a b : List (Sh S.K)} {us vs : List Value} (h : HoldsD (S := S) w M a us) (k : HoldsD (S := S) w M b vs) : HoldsD (S := S) w M (a ++ b) (us ++ vs) := by
  obtain ⟨d, h1, h2⟩ := h
  obtain ⟨e, k1, k2⟩ := k
  obtain ⟨f, f1, f2⟩ := OkDs.app h2 k2
  exact ⟨f, by rw [f1]; exact h1.app k1, f2⟩

/-! A type, by its shapes. -/

def rdFlds (P : Program) (rec : TypeId → List (Sh S.K) → Option (List (Sh S.K))) : List Field → Nat → List (Sh S.K) → Option (List (Sh S.K))
  | [], _, shs => some shs
  | f :: fs, off, shs => bif Nat.beq f.offset off then (match rec f.type shs with
    | some r => rdFlds P rec fs (off + P.cellsOf f.type) r
    | none => none) else none

def rdW (P : Program) : List Field → Nat
  | [] => 0
  | f :: fs => P.cellsOf f.type + rdW P fs

def rdTy1 (P : Program) (rec : TypeId → List (Sh S.K) → Option (List (Sh S.K))) (t : TypeId) (shs : List (Sh S.K)) : Option (List (Sh S.K)) :=
  match P.underlying t with
    | some (.int k) => (match shs with
      | .int k' :: r => bif decide (k' = k) && Nat.beq (P.cellsOf t) 1 then some r else none
      | _ => none)
    | some .bool => (match shs with
      | .bool :: r => bif Nat.beq (P.cellsOf t) 1 then some r else none
      | _ => none)
    | some .string => (match shs with
      | .str :: r => bif Nat.beq (P.cellsOf t) 1 then some r else none
      | _ => none)
    | some (.slice e) => (match shs with
      | .sl k :: r => bif Nat.beq (P.cellsOf t) 1 && Nat.beq (P.cellsOf e) (S.es k) && !(Nat.beq (S.es k) 0) && (match rec e (S.sh k) with | some [] => true | _ => false) then some r else none
      | _ => none)
    | some (.array n e) => (match shs with
      | .arr k n' :: r => bif Nat.beq n' n && Nat.beq (P.cellsOf t) (n * S.es k) && Nat.beq (P.cellsOf e) (S.es k) && (match rec e (S.sh k) with | some [] => true | _ => false) then some r else none
      | _ => none)
    | some (.struct fs) => bif Nat.beq (rdW P fs.toList) (P.cellsOf t) then rdFlds P rec fs.toList 0 shs else none
    | _ => none

def rdTy (P : Program) : Nat → TypeId → List (Sh S.K) → Option (List (Sh S.K))
  | 0 => fun _ _ => none
  | d + 1 => rdTy1 P (rdTy P d)

/-- What a type's reading gives. -/
def Reads (P : Program) (w : World) (M : Nat → Prop) (t : TypeId) (s1 : List (Sh S.K)) : Prop :=
  ∀ {H : Type} (enc : TypeId × Value → H) (spare : Nat → Bool) (held : Bool) (fuel : Nat) (cs : List Value) (x : DataW H × List MemPlace), DataW.trod enc P w 0 spare held fuel t cs = some x → cs.length = P.cellsOf t ∧ HoldsD (S := S) w M s1 cs

theorem RelEs.snoc {w : World} {M : Nat → Prop} {k : S.K} {y : S.Ty k} {us : List Value} (hone : RelEs w M k [y] us) : ∀ (L1 : List (S.Ty k)) (v1 : List Value), RelEs w M k L1 v1 → RelEs w M k (L1 ++ [y]) (v1 ++ us)
  | [], v1, h => by cases h; exact hone
  | x :: L1, v1, h => by
    cases h with
    | cons _ _ _ u1 u2 a1 a2 a3 =>
      rw [List.append_assoc]
      exact .cons k x (L1 ++ [y]) u1 (u2 ++ us) a1 a2 (RelEs.snoc hone L1 u2 a3)

theorem add_add' (a : Addr) (x y : Nat) : (a.add x).add y = a.add (x + y) := by
  simp only [Addr.add]
  by_cases hx : x = 0
  · subst hx; simp
  · by_cases hy : y = 0
    · subst hy; simp [hx]
    · have : ¬ x + y = 0 := by omega
      simp only [if_neg hx, if_neg hy, if_neg this, Nat.add_assoc]

theorem cells_get {w : World} {a : Addr} {n : Nat} {us : List Value} (h : w.cells? 0 a n = some us) : us.length = n ∧ ∀ j, j < n → ∃ v, us[j]? = some v ∧ w.cell? (a.add j) = some v := by
  unfold World.cells? at h
  rw [if_pos (Nat.zero_le _)] at h
  have key : ∀ (l : List Nat) (us : List Value), l.mapM (fun i => w.cell? (a.add i)) = some us → us.length = l.length ∧ ∀ (j i : Nat), l[j]? = some i → ∃ v, us[j]? = some v ∧ w.cell? (a.add i) = some v := by
    intro l
    induction l with
    | nil => intro us h; simp at h; subst h; exact ⟨rfl, fun j i h => by simp at h⟩
    | cons i l ih =>
      intro us h
      simp only [List.mapM_cons, Option.bind_eq_bind, Option.bind_eq_some_iff, Option.pure_def, Option.some.injEq] at h
      obtain ⟨v, hv, us', hus, rfl⟩ := h
      obtain ⟨h1, h2⟩ := ih us' hus
      refine ⟨by simp [h1], fun j i' hj => ?_⟩
      cases j with
      | zero => simp at hj; subst hj; exact ⟨v, rfl, hv⟩
      | succ j => simpa using h2 j i' (by simpa using hj)
  obtain ⟨h1, h2⟩ := key _ _ h
  refine ⟨by simpa using h1, fun j hj => h2 j j (by simp [hj])⟩

theorem rdTy_sound {w : World} {M : Nat → Prop} (hM : ∀ b, ¬ M b) : ∀ (d : Nat) (t : TypeId) (shs r : List (Sh S.K)), rdTy P d t shs = some r → ∃ s1, shs = s1 ++ r ∧ Reads P w M t s1
  | 0, t, shs, r, h => by simp [rdTy] at h
  | d + 1, t, shs, r, h => by
    unfold rdTy rdTy1 at h
    split at h
    · rename_i k hu
      split at h <;> try (cases h; done)
      rename_i k' r'
      cases hc : (decide (k' = k) && Nat.beq (P.cellsOf t) 1) with
      | false => rw [hc] at h; cases h
      | true =>
      rw [hc] at h
      simp only [cond_true, Option.some.injEq] at h
      subst h
      simp only [Bool.and_eq_true, decide_eq_true_eq] at hc
      obtain ⟨rfl, hw⟩ := hc
      have hw := Nat.eq_of_beq_eq_true hw
      refine ⟨[.int k'], rfl, fun enc spare held fuel cs x hx => ?_⟩
      obtain ⟨n, rfl, _, hwf⟩ := DataW.trod_int hu hx
      refine ⟨by rw [hw]; rfl, (n, ()), ?_, .int k' [] n () hwf .nil⟩
      have := RelFs.cons (S := S) (w := w) (M := M) (.int k' n) [] [.int k' n] [] rfl (.int k' n) .nil
      exact this
    · rename_i hu
      split at h <;> try (cases h; done)
      rename_i r'
      cases hc : (Nat.beq (P.cellsOf t) 1) with
      | false => rw [hc] at h; cases h
      | true =>
      rw [hc] at h
      simp only [cond_true, Option.some.injEq] at h
      subst h
      have hw := Nat.eq_of_beq_eq_true hc
      refine ⟨[.bool], rfl, fun enc spare held fuel cs x hx => ?_⟩
      obtain ⟨n, rfl, _⟩ := DataW.trod_bool hu hx
      refine ⟨by rw [hw]; rfl, (n, ()), ?_, .bool [] n () .nil⟩
      have := RelFs.cons (S := S) (w := w) (M := M) (.bool n) [] [.bool n] [] rfl (.bool n) .nil
      exact this
    · rename_i hu
      split at h <;> try (cases h; done)
      rename_i r'
      cases hc : (Nat.beq (P.cellsOf t) 1) with
      | false => rw [hc] at h; cases h
      | true =>
      rw [hc] at h
      simp only [cond_true, Option.some.injEq] at h
      subst h
      have hw := Nat.eq_of_beq_eq_true hc
      refine ⟨[.str], rfl, fun enc spare held fuel cs x hx => ?_⟩
      obtain ⟨s, rfl, _, hsz⟩ := DataW.trod_string hu hx
      refine ⟨by rw [hw]; rfl, (s.data.toList, ()), ?_, .str [] s.data.toList () (Nat.le_trans (Nat.le_of_eq Array.length_toList) hsz) .nil⟩
      have := RelFs.cons (S := S) (w := w) (M := M) (.str s.data.toList) [] [.string ⟨s.data.toList.toArray⟩] [] rfl (.str s.data.toList) .nil
      have e : (⟨s.data.toList.toArray⟩ : ByteArray) = s := by cases s; simp
      rw [e] at this
      exact this
    · rename_i e hu
      split at h <;> try (cases h; done)
      rename_i k r'
      cases hc : (Nat.beq (P.cellsOf t) 1 && Nat.beq (P.cellsOf e) (S.es k) && !(Nat.beq (S.es k) 0) && (match rdTy P d e (S.sh k) with | some [] => true | _ => false)) with
      | false => rw [hc] at h; cases h
      | true =>
      rw [hc] at h
      simp only [cond_true, Option.some.injEq] at h
      subst h
      simp only [Bool.and_eq_true] at hc
      obtain ⟨⟨⟨hw, he⟩, hne⟩, hrec⟩ := hc
      have hw := Nat.eq_of_beq_eq_true hw
      have he := Nat.eq_of_beq_eq_true he
      have hne : S.es k ≠ 0 := by intro h0; rw [h0] at hne; simp at hne
      split at hrec <;> try (cases hrec; done)
      rename_i hrec'
      obtain ⟨s1, hs1, hrd⟩ := rdTy_sound (w := w) hM d e (S.sh k) [] hrec'
      rw [List.append_nil] at hs1
      subst hs1
      refine ⟨[.sl k], rfl, fun {H} enc spare held fuel cs x hx => ?_⟩
      rcases DataW.trod_slice hu hx with ⟨rfl, _⟩ | ⟨a, len, cap, elems, rest, n, _, rfl, _, _, hlc, hcap, hel, hcells, _, _⟩
      · refine ⟨by rw [hw]; rfl, ([], ()), ?_, .sl k [] [] () (by simp) (fun x hx => by cases hx) .nil⟩
        have := RelFs.cons (S := S) (w := w) (M := M) (.sl k []) [] [.slice none 0 0] [] rfl (.sl0 k none 0) .nil
        exact this
      · -- element by element
        have key : ∀ m, m ≤ len → ∃ (L : List (S.Ty k)) (vs : List Value), L.length = m ∧ vs.length = m * S.es k ∧ RelEs w M k L vs ∧ (∀ x, x ∈ L → OkDs S (S.sh k) (S.to k x)) ∧ ∀ j v, vs[j]? = some v → w.cell? (a.add j) = some v := by
          intro m
          induction m with
          | zero => intro _; exact ⟨[], [], rfl, by simp, .nil k, fun x hx => by (cases hx), fun j v hj => by simp at hj⟩
          | succ m ih =>
            intro hm
            obtain ⟨L, vs, h1, h2, h3, h4, h5⟩ := ih (by omega)
            have hb := hcells m (by omega)
            have hx : elems[m]? = some elems[m] := List.getElem?_eq_getElem (by omega)
            rw [hx, Option.bind_eq_some_iff] at hb
            obtain ⟨us, hus, htr⟩ := hb
            obtain ⟨hl, hg⟩ := cells_get hus
            obtain ⟨_, dd, hd1, hd2⟩ := hrd enc spare held n us _ htr
            rw [he] at hl
            have hto : S.to k (S.of k dd) = dd := S.toof k dd
            refine ⟨L ++ [S.of k dd], vs ++ us, by simp [h1], by rw [List.length_append, h2, hl, Nat.succ_mul], ?_, ?_, ?_⟩
            · have hone : RelEs w M k [S.of k dd] us := by
                have := RelEs.cons (S := S) (w := w) (M := M) k (S.of k dd) [] us [] hl (by unfold Vm.enc; rw [hto]; exact hd1) (.nil k)
                rw [List.append_nil] at this
                exact this
              exact RelEs.snoc hone L vs h3
            · intro y hy
              rcases List.mem_append.1 hy with hy | hy
              · exact h4 y hy
              · simp only [List.mem_singleton] at hy
                subst hy
                rw [hto]; exact hd2
            · intro j v hj
              rcases Nat.lt_or_ge j vs.length with hlt | hge
              · rw [List.getElem?_append_left hlt] at hj; exact h5 j v hj
              · rw [List.getElem?_append_right hge] at hj
                have hjl : j - vs.length < P.cellsOf e := by
                  rw [he, ← hl]
                  exact (List.getElem?_eq_some_iff.1 hj).1
                obtain ⟨v', hv1, hv2⟩ := hg (j - vs.length) hjl
                rw [hj] at hv1
                cases hv1
                have : (a.add (m * P.cellsOf e)).add (j - vs.length) = a.add j := by
                  rw [add_add']
                  congr 1
                  rw [he, ← h2]; omega
                rw [this] at hv2
                exact hv2
        obtain ⟨L, vs, h1, h2, h3, h4, h5⟩ := key len (Nat.le_refl _)
        refine ⟨by rw [hw]; rfl, (L, ()), ?_, .sl k [] L () (by rw [h1]; unfold Go.maxLen at *; omega) h4 .nil⟩
        have hrel : RelF w M (.sl k L) [.slice (some a) len cap] := by
          by_cases h0 : len = 0
          · subst h0
            have : L = [] := List.eq_nil_of_length_eq_zero h1
            subst this
            exact .sl0 k (some a) cap
          · have hv0 : 0 < vs.length := by rw [h2]; exact Nat.mul_pos (by omega) (by omega)
            have hc0 := h5 0 vs[0] (List.getElem?_eq_getElem hv0)
            have hsp : a.spot = none := by
              unfold World.cell? at hc0
              split at hc0
              · split at hc0
                · cases hc0
                · rename_i hns
                  cases hsp : a.spot with
                  | none => rfl
                  | some _ => simp [Addr.add, hsp] at hns
              · cases hc0
            have hblk : a.block < w.heap.size := by
              rcases Nat.lt_or_ge a.block w.heap.size with h' | h'
              · exact h'
              · simp [World.cell?, Addr.add, Array.getElem?_eq_none h'] at hc0
            have ha : a = ⟨a.block, a.off, none⟩ := by cases a; simp at hsp; subst hsp; rfl
            have := RelF.sl (S := S) (w := w) (M := M) k L a.block a.off cap vs (hM _) hblk (by rw [h1]; exact hlc) (by
              intro j v hj
              have := h5 j v hj
              rw [ha] at this
              have e0 : (⟨a.block, a.off, none⟩ : Addr).add j = ⟨a.block, a.off + j, none⟩ := by
                simp only [Addr.add]; split
                · rename_i h0; subst h0; rfl
                · rfl
              rw [e0] at this
              exact this) h3
            rw [← ha, h1] at this
            exact this
        have := RelFs.cons (S := S) (w := w) (M := M) (.sl k L) [] [.slice (some a) len cap] [] rfl hrel .nil
        exact this
    · rename_i n e hu
      split at h <;> try (cases h; done)
      rename_i k n' r'
      cases hc : (Nat.beq n' n && Nat.beq (P.cellsOf t) (n * S.es k) && Nat.beq (P.cellsOf e) (S.es k) && (match rdTy P d e (S.sh k) with | some [] => true | _ => false)) with
      | false => rw [hc] at h; cases h
      | true =>
      rw [hc] at h
      simp only [cond_true, Option.some.injEq] at h
      subst h
      simp only [Bool.and_eq_true] at hc
      obtain ⟨⟨⟨hn, hw⟩, he⟩, hrec⟩ := hc
      have hn := Nat.eq_of_beq_eq_true hn
      subst hn
      have hw := Nat.eq_of_beq_eq_true hw
      have he := Nat.eq_of_beq_eq_true he
      split at hrec <;> try (cases hrec; done)
      rename_i hrec'
      obtain ⟨s1, hs1, hrd⟩ := rdTy_sound (w := w) hM d e (S.sh k) [] hrec'
      rw [List.append_nil] at hs1
      subst hs1
      refine ⟨[.arr k n'], rfl, fun {H} enc spare held fuel cs x hx => ?_⟩
      obtain ⟨xs, m0, _, _, hlen, hxl, hel⟩ := DataW.trod_array hu hx
      have key : ∀ m, m ≤ n' → ∃ (L : List (S.Ty k)), L.length = m ∧ RelEs w M k L (cs.take (m * S.es k)) ∧ (∀ x, x ∈ L → OkDs S (S.sh k) (S.to k x)) := by
        intro m
        induction m with
        | zero => intro _; exact ⟨[], rfl, by simpa using RelEs.nil k, fun x hx => by (cases hx)⟩
        | succ m ih =>
          intro hm
          obtain ⟨L, h1, h3, h4⟩ := ih (by omega)
          have hb := hel m (by omega)
          have hxx : xs[m]? = some xs[m] := List.getElem?_eq_getElem (by omega)
          rw [hxx] at hb
          obtain ⟨hl, dd, hd1, hd2⟩ := hrd enc spare held m0 _ _ hb
          rw [he] at hl hd1
          have hto : S.to k (S.of k dd) = dd := S.toof k dd
          refine ⟨L ++ [S.of k dd], by simp [h1], ?_, ?_⟩
          · have hsplit : cs.take ((m + 1) * S.es k) = cs.take (m * S.es k) ++ (cs.drop (m * S.es k)).take (S.es k) := by
              rw [Nat.succ_mul, List.take_add]
            rw [hsplit]
            have hone : RelEs w M k [S.of k dd] ((cs.drop (m * S.es k)).take (S.es k)) := by
              have := RelEs.cons (S := S) (w := w) (M := M) k (S.of k dd) [] _ [] hl (by unfold Vm.enc; rw [hto]; exact hd1) (.nil k)
              rw [List.append_nil] at this
              exact this
            exact RelEs.snoc hone L _ h3
          · intro y hy
            rcases List.mem_append.1 hy with hy | hy
            · exact h4 y hy
            · simp only [List.mem_singleton] at hy
              subst hy
              rw [hto]; exact hd2
      obtain ⟨L, h1, h3, h4⟩ := key n' (Nat.le_refl _)
      rw [List.take_of_length_le (by rw [hlen, hw]; exact Nat.le_refl _)] at h3
      refine ⟨hlen, (L, ()), ?_, .arr k n' [] L () h1 h4 .nil⟩
      have := RelFs.cons (S := S) (w := w) (M := M) (.arr k n' L) [] cs [] (by rw [hlen, hw]; rfl) (.arr k n' L cs h1 h3) .nil
      rw [List.append_nil] at this
      exact this
    · rename_i fs hu
      cases hc : Nat.beq (rdW P fs.toList) (P.cellsOf t) with
      | false => rw [hc] at h; cases h
      | true =>
      rw [hc] at h
      simp only [cond_true] at h
      have hwid := Nat.eq_of_beq_eq_true hc
      have key : ∀ (fl : List Field) (off : Nat) (shs r : List (Sh S.K)), rdFlds P (rdTy P d) fl off shs = some r → ∃ s1, shs = s1 ++ r ∧
          ∀ {H : Type} (enc : TypeId × Value → H) (spare : Nat → Bool) (held : Bool) (n : Nat) (cs : List Value),
            (∀ f, f ∈ fl → ∃ x, DataW.trod enc P w 0 spare held n f.type ((cs.drop f.offset).take (P.cellsOf f.type)) = some x) → HoldsD (S := S) w M s1 ((cs.drop off).take (rdW P fl)) := by
        intro fl
        induction fl with
        | nil =>
          intro off shs r h
          simp only [rdFlds, Option.some.injEq] at h
          subst h
          refine ⟨[], rfl, fun enc spare held n cs _ => ?_⟩
          simpa [rdW] using HoldsD.nil
        | cons f fl ih =>
          intro off shs r h
          simp only [rdFlds] at h
          cases ho : Nat.beq f.offset off with
          | false => rw [ho] at h; cases h
          | true =>
          rw [ho] at h
          simp only [cond_true] at h
          have ho := Nat.eq_of_beq_eq_true ho
          split at h <;> try (cases h; done)
          rename_i r1 hr1
          obtain ⟨s1, rfl, hs1⟩ := rdTy_sound (w := w) hM d f.type shs r1 hr1
          obtain ⟨s2, rfl, hs2⟩ := ih _ _ _ h
          refine ⟨s1 ++ s2, by simp, fun enc spare held n cs hall => ?_⟩
          obtain ⟨x, hx⟩ := hall f (by simp)
          obtain ⟨_, h1⟩ := hs1 enc spare held n _ x hx
          have h2 := hs2 enc spare held n cs (fun g hg => hall g (by simp [hg]))
          have := h1.app h2
          rw [ho] at this
          have hsplit : (cs.drop off).take (rdW P (f :: fl)) = (cs.drop off).take (P.cellsOf f.type) ++ (cs.drop (off + P.cellsOf f.type)).take (rdW P fl) := by
            show (cs.drop off).take (P.cellsOf f.type + rdW P fl) = _
            rw [List.take_add, List.drop_drop]
          rw [hsplit]
          exact this
      obtain ⟨s1, rfl, hs⟩ := key fs.toList 0 shs r h
      refine ⟨s1, rfl, fun enc spare held fuel cs x hx => ?_⟩
      obtain ⟨xs, n, _, _, hlen, hxl, hel⟩ := DataW.trod_struct hu hx
      refine ⟨hlen, ?_⟩
      have := hs enc spare held n cs (fun f hf => by
        obtain ⟨i, hi, rfl⟩ := List.getElem_of_mem hf
        have hi' : i < fs.size := by simpa using hi
        have he := hel i fs[i] (by simp [hi'])
        have hxx : xs[i]? = some xs[i] := List.getElem?_eq_getElem (by omega)
        rw [hxx] at he
        exact ⟨_, by simpa using he⟩)
      rw [List.drop_zero, hwid, ← hlen, List.take_of_length_le (Nat.le_refl _)] at this
      exact this
    · cases h

/-- A layout that a type's reading fills. -/
def rdLay (P : Program) (t : TypeId) (l : Lay S) : Bool := (match rdTy P 20 t l.shs with | some [] => true | _ => false) && (l.agg == isAggT P t) && goodL l

theorem rdLay_sound {w : World} {M : Nat → Prop} (hM : ∀ b, ¬ M b) {t : TypeId} {l : Lay S} (h : rdLay P t l = true) {H : Type} {enc : TypeId × Value → H} {spare : Nat → Bool} {held : Bool} {v : Value} {d : DataW H} {ps : List MemPlace}
    (hv : v.formed P t = true) (ht : DataW.Trod enc P w 0 spare held t v d ps) : ∃ x : Ds S.Ty l.shs, RelV w M l x v ∧ OkDs S l.shs x := by
  unfold rdLay at h
  simp only [Bool.and_eq_true, beq_iff_eq] at h
  obtain ⟨⟨h1, h2⟩, h3⟩ := h
  split at h1 <;> try (cases h1; done)
  rename_i hr
  obtain ⟨s1, hs, hrd⟩ := rdTy_sound (w := w) hM 20 t l.shs [] hr
  rw [List.append_nil] at hs
  subst hs
  obtain ⟨fuel, hf⟩ := ht
  obtain ⟨hl, x, hx1, hx2⟩ := hrd enc spare held fuel _ _ hf
  have hcase : (l.agg = true ∧ ∃ cs, v = .agg cs) ∨ (l.agg = false ∧ v.cells = #[v]) := by
    rw [h2]
    unfold Value.formed at hv
    unfold isAggT
    split at hv
    · rename_i cs
      split at hv
      · rename_i hu; rw [hu]; exact .inl ⟨rfl, cs, rfl⟩
      · rename_i hu; rw [hu]; exact .inl ⟨rfl, cs, rfl⟩
      · cases hv
    · cases hv
    · rename_i hna hnt
      refine .inr ⟨?_, ?_⟩
      · split at hv
        · cases hv
        · cases hv
        · rename_i n1 n2
          cases hu : P.underlying t with
          | none => rfl
          | some d => cases d <;> first | rfl | exact absurd hu (n1 _) | exact absurd hu (n2 _ _)
      · cases v <;> first | rfl | exact absurd rfl (hna _)
  refine ⟨x, ⟨v.cells.toList, ?_, fun ha => ?_, hx1⟩, hx2⟩
  · rcases hcase with ⟨ha, cs, rfl⟩ | ⟨ha, hc⟩
    · rw [ha]; simp [valOf, Value.cells]
    · rw [ha, hc]; simp [valOf]
  · rcases hcase with ⟨hb, _⟩ | ⟨_, hc⟩
    · rw [ha] at hb; cases hb
    · rw [hc]; rfl

end Vm
end

section
namespace Vm.Tryz
open Go Vm Vm.Fu

theorem wf_I64 {n : Int} (h : (Lit.int .i64 n).wf = true) : I64 n := by
  simp only [Lit.wf, Bool.and_eq_true, decide_eq_true_eq] at h
  have h1 : IntKind.i64.min = -9223372036854775808 := by kernel_rfl
  have h2 : IntKind.i64.max = 9223372036854775807 := by kernel_rfl
  rw [h1, h2] at h
  exact h

theorem lay37 : rdLay Go.Proofs.Tryz.prog 37 L37 = true := by kernel_rfl
theorem lay2 : rdLay Go.Proofs.Tryz.prog 2 L2 = true := by kernel_rfl

theorem OkDs.str_inv {ss : List (Sh K)} {d : D Ty (.str : Sh K) × Ds Ty ss} (h : OkDs GG (.str :: ss) d) : StrOk d.1 ∧ OkDs GG ss d.2 := by
  cases h with
  | str _ l d' h1 h2 => exact ⟨h1, h2⟩
theorem OkDs.i64_inv {ss : List (Sh K)} {d : D Ty (.int .i64 : Sh K) × Ds Ty ss} (h : OkDs GG (.int .i64 :: ss) d) : I64 d.1 ∧ OkDs GG ss d.2 := by
  cases h with
  | int _ _ l d' h1 h2 => exact ⟨wf_I64 h1, h2⟩
theorem OkDs.bool_inv {ss : List (Sh K)} {d : D Ty (.bool : Sh K) × Ds Ty ss} (h : OkDs GG (.bool :: ss) d) : OkDs GG ss d.2 := by
  cases h with
  | bool _ l d' h2 => exact h2
theorem OkDs.arr_inv {k : K} {n : Nat} {ss : List (Sh K)} {d : D Ty (.arr k n : Sh K) × Ds Ty ss} (h : OkDs GG (.arr k n :: ss) d) : OkDs GG ss d.2 := by
  cases h with
  | arr _ _ _ L d' _ _ h2 => exact h2
theorem OkDs.sl_inv {k : K} {ss : List (Sh K)} {d : D Ty (.sl k : Sh K) × Ds Ty ss} (h : OkDs GG (.sl k :: ss) d) : @List.length (Ty k) d.1 ≤ 9223372036854775807 ∧ (∀ x : Ty k, @List.Mem (Ty k) x d.1 → OkDs GG (GG.sh k) (GG.to k x)) ∧ OkDs GG ss d.2 := by
  cases h with
  | sl _ _ L d' h1 h2 h3 => exact ⟨h1, h2, h3⟩

theorem tenantV_of (d : Ds Ty shTenant) (h : OkDs GG shTenant d) : TenantV (unTenant d) := by
  obtain ⟨a0, h⟩ := OkDs.str_inv h
  have h := OkDs.arr_inv h
  obtain ⟨a2, h⟩ := OkDs.i64_inv h
  obtain ⟨a3, h⟩ := OkDs.i64_inv h
  obtain ⟨a4, h⟩ := OkDs.i64_inv h
  obtain ⟨a5, h⟩ := OkDs.i64_inv h
  obtain ⟨a6, h⟩ := OkDs.i64_inv h
  obtain ⟨a7, h⟩ := OkDs.i64_inv h
  have h := OkDs.bool_inv h
  obtain ⟨a9, h⟩ := OkDs.str_inv h
  obtain ⟨a10, h⟩ := OkDs.i64_inv h
  obtain ⟨a11, b11, h⟩ := OkDs.sl_inv h
  have h := OkDs.bool_inv h
  obtain ⟨a13, h⟩ := OkDs.i64_inv h
  obtain ⟨a14, h⟩ := OkDs.i64_inv h
  have h := OkDs.bool_inv h
  obtain ⟨a16, h⟩ := OkDs.i64_inv h
  obtain ⟨a17, h⟩ := OkDs.i64_inv h
  have hr : ∀ r : Rule, r ∈ (unTenant d).P.Zone.L → I64 r.At ∧ I64 r.Off ∧ StrOk r.Name := by
    intro r hr
    have := b11 r hr
    have e : OkDs GG shRule (flRule r) := this
    obtain ⟨c0, e⟩ := OkDs.i64_inv e
    obtain ⟨c1, e⟩ := OkDs.i64_inv e
    obtain ⟨c2, e⟩ := OkDs.str_inv e
    exact ⟨c0, c1, c2⟩
  exact ⟨a0, ⟨⟨a9, a10, a11, fun r h => ⟨(hr r h).1, (hr r h).2.1, (hr r h).2.2⟩⟩⟩, ⟨a13, a14⟩, a5, a16, a17⟩
end Vm.Tryz
end
