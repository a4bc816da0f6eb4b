/- Loops, tables, lists of callees and the machine run as a function of plain data; no conditions. -/
import Derived.Test.YtdkejaijokbinaaGreatDoorVmC
import Derived.ChangeKeysEq
set_option linter.all false

section
namespace Vm
open Go
variable {S : Sig} {R : Type} {P : Program}

/-- What a cell looks like at a loop's head. Blocks are numbered by the form. -/
inductive Pat (S : Sig) where
  | dat (s : Sh S.K)
  | lv (j : Nat)
  | ptr (j off : Nat)
  | clo (fn : FuncId) (caps : List Nat)

inductive BPat (S : Sig) where
  | var (ps : List (Pat S))
  | arr (k : S.K)

structure Sch (S : Sig) where
  tm : List (Nat × Bool × List (Pat S))
  hp : List (BPat S)

def Dat1 : Pat S → Type
  | .dat s => D S.Ty s
  | _ => Unit

def DatP : List (Pat S) → Type
  | [] => Unit
  | p :: ps => Dat1 p × DatP ps

def DatT : List (Nat × Bool × List (Pat S)) → Type
  | [] => Unit
  | (_, _, ps) :: ts => DatP ps × DatT ts

def DatH : List (BPat S) → Type
  | [] => Unit
  | .var ps :: bs => DatP ps × DatH bs
  | .arr k :: bs => List (S.Ty k) × DatH bs

def Sch.Dat (H : Sch S) : Type := DatT H.tm × DatH H.hp

def mkC1 : (p : Pat S) → Dat1 p → Cell S
  | .dat s, d => .f (enc1 s d)
  | .lv j, _ => .live j 0
  | .ptr j off, _ => .ptr j off
  | .clo f caps, _ => .clo f caps

def mkCs : (ps : List (Pat S)) → DatP ps → List (Cell S)
  | [], _ => []
  | p :: ps, d => mkC1 p d.1 :: mkCs ps d.2

def mkT : (ts : List (Nat × Bool × List (Pat S))) → DatT ts → List (Nat × PV S)
  | [], _ => []
  | (t, ag, ps) :: ts, d => (match mkPE ag (mkCs ps d.1) with | some p => (t, .e p) :: mkT ts d.2 | none => mkT ts d.2)

def mkH : (bs : List (BPat S)) → DatH bs → Nat → List (Nat × Blk S)
  | [], _, _ => []
  | .var ps :: bs, d, j => (j, .var (mkCs ps d.1) false) :: mkH bs d.2 (j + 1)
  | .arr k :: bs, d, j => (j, .arr k d.1 0 false) :: mkH bs d.2 (j + 1)

def Sch.mk' (H : Sch S) (d : H.Dat) : St S := ⟨mkT H.tm d.1, mkH H.hp d.2 0, H.hp.length⟩

/-- A renaming: from the form's blocks to those there are; none: a slice of no memory. -/
abbrev Ren := List (Nat × Option Nat)

def bind1 (ρ : Ren) (j : Nat) (b : Option Nat) : Option Ren :=
  match lk j ρ with
  | none => some ((j, b) :: ρ)
  | some b' => bif (match b, b' with | some x, some y => Nat.beq x y | none, none => true | _, _ => false) then some ρ else none

def bindAll (ρ : Ren) : List Nat → List Nat → Option Ren
  | [], [] => some ρ
  | j :: js, b :: bs => match bind1 ρ j (some b) with
    | some ρ => bindAll ρ js bs
    | none => none
  | _, _ => none

/-- A cell, by its form. 'fr': the blocks that are taken as data. -/
def decC1 (hp : List (Nat × Blk S)) : (p : Pat S) → Cell S → Ren → List Nat → Option (Dat1 p × Ren × List Nat)
  | .dat s, c, ρ, fr => match dec1C hp s c with
    | some d => some (d, ρ, lives [c] ++ fr)
    | none => none
  | .lv j, .live b v, ρ, fr => match lk b hp with
    | some (.arr _ _ v' _) => bif Nat.beq v v' then (match bind1 ρ j (some b) with
      | some ρ => some ((), ρ, fr)
      | none => none) else none
    | _ => none
  | .lv j, .nilsl, ρ, fr => match bind1 ρ j none with
    | some ρ => some ((), ρ, fr)
    | none => none
  | .ptr j off, .ptr b off', ρ, fr => bif Nat.beq off off' then (match bind1 ρ j (some b) with
    | some ρ => some ((), ρ, fr)
    | none => none) else none
  | .clo f caps, .clo f' bs, ρ, fr => bif Nat.beq f f' then (match bindAll ρ caps bs with
    | some ρ => some ((), ρ, fr)
    | none => none) else none
  | _, _, _, _ => none

def decCs (hp : List (Nat × Blk S)) : (ps : List (Pat S)) → List (Cell S) → Ren → List Nat → Option (DatP ps × Ren × List Nat)
  | [], [], ρ, fr => some ((), ρ, fr)
  | p :: ps, c :: cs, ρ, fr => match decC1 hp p c ρ fr with
    | some (d, ρ, fr) => match decCs hp ps cs ρ fr with
      | some (ds, ρ, fr) => some ((d, ds), ρ, fr)
      | none => none
    | none => none
  | _, _, _, _ => none

def PE.isAg : PE S → Bool
  | .sc _ => false
  | .ag _ => true

def decT (st : St S) : (ts : List (Nat × Bool × List (Pat S))) → Ren → List Nat → Option (DatT ts × Ren × List Nat)
  | [], ρ, fr => some ((), ρ, fr)
  | (t, ag, ps) :: ts, ρ, fr => match lk t st.tm with
    | some (.e p) => bif (p.isAg == ag) then (match decCs st.hp ps p.cells ρ fr with
      | some (d, ρ, fr) => match decT st ts ρ fr with
        | some (ds, ρ, fr) => some ((d, ds), ρ, fr)
        | none => none
      | none => none) else none
    | _ => none

def decH (st : St S) : (bs : List (BPat S)) → Nat → Ren → List Nat → Option (DatH bs × Ren × List Nat)
  | [], _, ρ, fr => some ((), ρ, fr)
  | .var ps :: bs, j, ρ, fr => match lk j ρ with
    | some (some b) => match lk b st.hp with
      | some (.var cs false) => match decCs st.hp ps cs ρ fr with
        | some (d, ρ, fr) => match decH st bs (j + 1) ρ fr with
          | some (ds, ρ, fr) => some ((d, ds), ρ, fr)
          | none => none
        | none => none
      | _ => none
    | _ => none
  | .arr k :: bs, j, ρ, fr => match lk j ρ with
    | some (some b) => match lk b st.hp with
      | some (.arr k' L _ false) => if h : k' = k then (match decH st bs (j + 1) ρ fr with
          | some (ds, ρ, fr) => some ((h ▸ L, ds), ρ, fr)
          | none => none) else none
      | _ => none
    | some none => match decH st bs (j + 1) ρ fr with
      | some (ds, ρ, fr) => some (([], ds), ρ, fr)
      | none => none
    | none => none

/-- Is every one of a form's pointers to a variable, every slice to elements? -/
def fitP (bs : List (BPat S)) : Pat S → Bool
  | .dat _ => true
  | .lv j => match bs[j]? with | some (.arr _) => true | _ => false
  | .ptr j _ => match bs[j]? with | some (.var _) => true | _ => false
  | .clo _ caps => caps.all fun j => match bs[j]? with | some (.var _) => true | _ => false

def Sch.fit (H : Sch S) : Bool :=
  (H.tm.all fun t => t.2.2.all (fitP H.hp)) && (H.hp.all fun b => match b with | .var ps => ps.all (fitP H.hp) | .arr _ => true)

/-- No two of the form's blocks are one. -/
def distinct : Ren → Bool
  | [] => true
  | (_, none) :: ρ => distinct ρ
  | (_, some b) :: ρ => (ρ.all fun x => match x.2 with | some b' => !(Nat.beq b b') | none => true) && distinct ρ

def apartF (ρ : Ren) (fr : List Nat) : Bool := ρ.all fun x => match x.2 with | some b => !(has b fr) | none => true

/-- The blocks that are shared stay what they are. -/
def keeps (ρ : Ren) : Nat → Bool
  | 0 => true
  | s + 1 => (match lk s ρ with | some (some b) => Nat.beq b s | _ => false) && keeps ρ s

def ren0 : Nat → Ren
  | 0 => []
  | s + 1 => (s, some s) :: ren0 s

def Sch.dec (s : Nat) (H : Sch S) (st : St S) : Option H.Dat :=
  match decT st H.tm (ren0 s) [] with
  | some (d, ρ, fr) => match decH st H.hp 0 ρ fr with
    | some (e, ρ, fr) => bif H.fit && distinct ρ && apartF ρ fr && keeps ρ s && Nat.ble s H.hp.length then some (d, e) else none
    | none => none
  | none => none

end Vm
end

section
namespace Vm
open Go
variable {S : Sig} {R : Type} {P : Program}

def RenLe (ρ ρ' : Ren) : Prop := ∀ j x, lk j ρ = some x → lk j ρ' = some x

theorem RenLe.refl (ρ : Ren) : RenLe ρ ρ := fun _ _ h => h
theorem RenLe.trans {a b c : Ren} (h : RenLe a b) (k : RenLe b c) : RenLe a c := fun j x hx => k j x (h j x hx)

theorem bind1_sound {ρ ρ' : Ren} {j : Nat} {b : Option Nat} (h : bind1 ρ j b = some ρ') : RenLe ρ ρ' ∧ lk j ρ' = some b := by
  unfold bind1 at h
  split at h
  · rename_i hn
    obtain rfl := Option.some.inj h
    refine ⟨fun i x hx => ?_, by simp [lk_cons]⟩
    rw [lk_cons]
    by_cases e : i = j
    · subst e; rw [hn] at hx; cases hx
    · rw [if_neg e]; exact hx
  · rename_i b' hb'
    split at h
    · rename_i x y
      cases hxy : Nat.beq x y with
      | false => simp [hxy] at h
      | true =>
        simp only [hxy, cond_true, Option.some.injEq] at h
        subst h
        have := Nat.eq_of_beq_eq_true hxy
        subst this
        exact ⟨RenLe.refl _, hb'⟩
    · simp only [cond_true, Option.some.injEq] at h
      subst h
      exact ⟨RenLe.refl _, hb'⟩
    · simp at h

theorem bindAll_sound {ρ ρ' : Ren} : ∀ {js bs : List Nat}, bindAll ρ js bs = some ρ' → RenLe ρ ρ' ∧ js.length = bs.length ∧ ∀ (i j b : Nat), js[i]? = some j → bs[i]? = some b → lk j ρ' = some (some b) := by
  intro js
  induction js generalizing ρ with
  | nil =>
    intro bs h
    cases bs with
    | nil => simp [bindAll] at h; subst h; exact ⟨RenLe.refl _, rfl, fun i j b h => by simp at h⟩
    | cons => simp [bindAll] at h
  | cons j js ih =>
    intro bs h
    cases bs with
    | nil => simp [bindAll] at h
    | cons b bs =>
      simp only [bindAll] at h
      cases h1 : bind1 ρ j (some b) with
      | none => simp [h1] at h
      | some ρ1 =>
        simp only [h1] at h
        obtain ⟨g1, g2⟩ := bind1_sound h1
        obtain ⟨g3, g4, g5⟩ := ih h
        refine ⟨g1.trans g3, by simp [g4], fun i j' b' hj hb => ?_⟩
        cases i with
        | zero => simp at hj hb; subst hj; subst hb; exact g3 _ _ g2
        | succ i => exact g5 i j' b' (by simpa using hj) (by simpa using hb)

/-- A cell is of a form, by a renaming. -/
inductive Fits (hp : List (Nat × Blk S)) (ρ : Ren) (fr : List Nat) : (p : Pat S) → Dat1 p → Cell S → Prop
  | dat (s c d) : dec1C hp s c = some d → (∀ b, b ∈ lives [c] → b ∈ fr) → Fits hp ρ fr (.dat s) d c
  | lv (j b v k L z) : lk b hp = some (.arr k L v z) → lk j ρ = some (some b) → Fits hp ρ fr (.lv j) () (.live b v)
  | lvn (j) : lk j ρ = some none → Fits hp ρ fr (.lv j) () .nilsl
  | ptr (j b off) : lk j ρ = some (some b) → Fits hp ρ fr (.ptr j off) () (.ptr b off)
  | clo (f caps bs) : caps.length = bs.length → (∀ (i j b : Nat), caps[i]? = some j → bs[i]? = some b → lk j ρ = some (some b)) → Fits hp ρ fr (.clo f caps) () (.clo f bs)

theorem Fits.mono {hp : List (Nat × Blk S)} {ρ ρ' : Ren} {fr fr' : List Nat} {p : Pat S} {d : Dat1 p} {c : Cell S} (h : Fits hp ρ fr p d c) (hr : RenLe ρ ρ') (hf : ∀ b, b ∈ fr → b ∈ fr') : Fits hp ρ' fr' p d c := by
  cases h with
  | dat s c d h1 h2 => exact .dat s c d h1 (fun b hb => hf b (h2 b hb))
  | lv j b v k L z h1 h2 => exact .lv j b v k L z h1 (hr _ _ h2)
  | lvn j h1 => exact .lvn j (hr _ _ h1)
  | ptr j b off h1 => exact .ptr j b off (hr _ _ h1)
  | clo f caps bs h1 h2 => exact .clo f caps bs h1 (fun i j b e1 e2 => hr _ _ (h2 i j b e1 e2))

theorem decC1_sound {hp : List (Nat × Blk S)} {p : Pat S} {c : Cell S} {ρ ρ' : Ren} {fr fr' : List Nat} {d : Dat1 p} (h : decC1 hp p c ρ fr = some (d, ρ', fr')) : RenLe ρ ρ' ∧ (∀ b, b ∈ fr → b ∈ fr') ∧ Fits hp ρ' fr' p d c := by
  cases p with
  | dat s =>
    simp only [decC1] at h
    split at h <;> try (simp at h; done)
    rename_i d0 hd
    cases h
    exact ⟨RenLe.refl _, fun b hb => by simp [hb], .dat _ _ _ hd (fun b hb => by simp [hb])⟩
  | lv j =>
    cases c <;> simp only [decC1] at h <;> try (simp at h; done)
    · rename_i b v
      split at h <;> try (simp at h; done)
      rename_i k L v' z hlk
      cases hv : Nat.beq v v' with
      | false => simp [hv] at h
      | true =>
        have hv' := Nat.eq_of_beq_eq_true hv
        subst hv'
        simp only [hv, cond_true] at h
        split at h <;> try (simp at h; done)
        rename_i ρ1 h1
        cases h
        obtain ⟨g1, g2⟩ := bind1_sound h1
        exact ⟨g1, fun _ h => h, .lv _ _ _ _ _ _ hlk g2⟩
    · split at h <;> try (simp at h; done)
      rename_i ρ1 h1
      cases h
      obtain ⟨g1, g2⟩ := bind1_sound h1
      exact ⟨g1, fun _ h => h, .lvn _ g2⟩
  | ptr j off =>
    cases c <;> simp only [decC1] at h <;> try (simp at h; done)
    rename_i b off'
    cases hv : Nat.beq off off' with
    | false => simp [hv] at h
    | true =>
      have hv' := Nat.eq_of_beq_eq_true hv
      subst hv'
      simp only [hv, cond_true] at h
      split at h <;> try (simp at h; done)
      rename_i ρ1 h1
      cases h
      obtain ⟨g1, g2⟩ := bind1_sound h1
      exact ⟨g1, fun _ h => h, .ptr _ _ _ g2⟩
  | clo f caps =>
    cases c <;> simp only [decC1] at h <;> try (simp at h; done)
    rename_i f' bs
    cases hv : Nat.beq f f' with
    | false => simp [hv] at h
    | true =>
      have hv' := Nat.eq_of_beq_eq_true hv
      subst hv'
      simp only [hv, cond_true] at h
      split at h <;> try (simp at h; done)
      rename_i ρ1 h1
      cases h
      obtain ⟨g1, g2, g3⟩ := bindAll_sound h1
      exact ⟨g1, fun _ h => h, .clo _ _ _ g2 g3⟩

inductive FitsL (hp : List (Nat × Blk S)) (ρ : Ren) (fr : List Nat) : (ps : List (Pat S)) → DatP ps → List (Cell S) → Prop
  | nil : FitsL hp ρ fr [] () []
  | cons (p ps c cs) (d : Dat1 p) (ds : DatP ps) : Fits hp ρ fr p d c → FitsL hp ρ fr ps ds cs → FitsL hp ρ fr (p :: ps) (d, ds) (c :: cs)

theorem FitsL.mono {hp : List (Nat × Blk S)} {ρ ρ' : Ren} {fr fr' : List Nat} (hr : RenLe ρ ρ') (hf : ∀ b, b ∈ fr → b ∈ fr') {ps : List (Pat S)} {d : DatP ps} {cs : List (Cell S)} (h : FitsL hp ρ fr ps d cs) : FitsL hp ρ' fr' ps d cs := by
  induction h with
  | nil => exact .nil
  | cons p ps c cs d ds h1 _ ih => exact .cons _ _ _ _ _ _ (h1.mono hr hf) ih

theorem decCs_sound {hp : List (Nat × Blk S)} : ∀ {ps : List (Pat S)} {cs : List (Cell S)} {ρ ρ' : Ren} {fr fr' : List Nat} {d : DatP ps}, decCs hp ps cs ρ fr = some (d, ρ', fr') → RenLe ρ ρ' ∧ (∀ b, b ∈ fr → b ∈ fr') ∧ FitsL hp ρ' fr' ps d cs
  | [], [], ρ, ρ', fr, fr', d, h => by
    simp only [decCs] at h
    cases h
    exact ⟨RenLe.refl _, fun _ h => h, .nil⟩
  | [], _ :: _, _, _, _, _, _, h => by simp [decCs] at h
  | _ :: _, [], _, _, _, _, _, h => by simp [decCs] at h
  | p :: ps, c :: cs, ρ, ρ', fr, fr', d, h => by
    simp only [decCs] at h
    split at h <;> try (simp at h; done)
    rename_i d1 ρ1 fr1 h1
    split at h <;> try (simp at h; done)
    rename_i d2 ρ2 fr2 h2
    cases h
    obtain ⟨a1, a2, a3⟩ := decC1_sound h1
    obtain ⟨b1, b2, b3⟩ := decCs_sound h2
    exact ⟨a1.trans b1, fun b hb => b2 b (a2 b hb), .cons _ _ _ _ _ _ (a3.mono b1 b2) b3⟩

/-- The temporaries are of a form. -/
inductive FitsT (st : St S) (ρ : Ren) (fr : List Nat) : (ts : List (Nat × Bool × List (Pat S))) → DatT ts → Prop
  | nil : FitsT st ρ fr [] ()
  | cons (t ag ps ts p) (d : DatP ps) (ds : DatT ts) : lk t st.tm = some (.e p) → p.isAg = ag → FitsL st.hp ρ fr ps d p.cells → FitsT st ρ fr ts ds → FitsT st ρ fr ((t, ag, ps) :: ts) (d, ds)

theorem FitsT.mono {st : St S} {ρ ρ' : Ren} {fr fr' : List Nat} (hr : RenLe ρ ρ') (hf : ∀ b, b ∈ fr → b ∈ fr') {ts : List (Nat × Bool × List (Pat S))} {d : DatT ts} (h : FitsT st ρ fr ts d) : FitsT st ρ' fr' ts d := by
  induction h with
  | nil => exact .nil
  | cons t ag ps ts p d ds h1 h2 h3 _ ih => exact .cons _ _ _ _ _ _ _ h1 h2 (h3.mono hr hf) ih

theorem decT_sound {st : St S} : ∀ {ts : List (Nat × Bool × List (Pat S))} {ρ ρ' : Ren} {fr fr' : List Nat} {d : DatT ts}, decT st ts ρ fr = some (d, ρ', fr') → RenLe ρ ρ' ∧ (∀ b, b ∈ fr → b ∈ fr') ∧ FitsT st ρ' fr' ts d
  | [], ρ, ρ', fr, fr', d, h => by
    simp only [decT] at h
    cases h
    exact ⟨RenLe.refl _, fun _ h => h, .nil⟩
  | (t, ag, ps) :: ts, ρ, ρ', fr, fr', d, h => by
    simp only [decT] at h
    split at h <;> try (simp at h; done)
    rename_i p hp
    cases hq : (p.isAg == ag) with
    | false => simp [hq] at h
    | true =>
      simp only [hq, cond_true] at h
      split at h <;> try (simp at h; done)
      rename_i d1 ρ1 fr1 h1
      split at h <;> try (simp at h; done)
      rename_i d2 ρ2 fr2 h2
      cases h
      obtain ⟨a1, a2, a3⟩ := decCs_sound h1
      obtain ⟨b1, b2, b3⟩ := decT_sound h2
      exact ⟨a1.trans b1, fun b hb => b2 b (a2 b hb), .cons _ _ _ _ _ _ _ hp (by simpa using hq) (a3.mono b1 b2) b3⟩

/-- The blocks are of a form. -/
inductive FitsH (st : St S) (ρ : Ren) (fr : List Nat) : (bs : List (BPat S)) → Nat → DatH bs → Prop
  | nil (j) : FitsH st ρ fr [] j ()
  | var (ps bs j b cs) (d : DatP ps) (ds : DatH bs) : lk j ρ = some (some b) → lk b st.hp = some (.var cs false) → FitsL st.hp ρ fr ps d cs → FitsH st ρ fr bs (j + 1) ds → FitsH st ρ fr (.var ps :: bs) j (d, ds)
  | arr (k bs j b L v) (ds : DatH bs) : lk j ρ = some (some b) → lk b st.hp = some (.arr k L v false) → FitsH st ρ fr bs (j + 1) ds → FitsH st ρ fr (.arr k :: bs) j (L, ds)
  | arrn (k bs j) (ds : DatH bs) : lk j ρ = some none → FitsH st ρ fr bs (j + 1) ds → FitsH st ρ fr (.arr k :: bs) j ([], ds)

theorem decH_sound {st : St S} : ∀ {bs : List (BPat S)} {j : Nat} {ρ ρ' : Ren} {fr fr' : List Nat} {d : DatH bs}, decH st bs j ρ fr = some (d, ρ', fr') → RenLe ρ ρ' ∧ (∀ b, b ∈ fr → b ∈ fr') ∧ FitsH st ρ' fr' bs j d
  | [], j, ρ, ρ', fr, fr', d, h => by
    simp only [decH] at h
    cases h
    exact ⟨RenLe.refl _, fun _ h => h, .nil _⟩
  | .var ps :: bs, j, ρ, ρ', fr, fr', d, h => by
    simp only [decH] at h
    split at h <;> try (simp at h; done)
    rename_i b hb
    split at h <;> try (simp at h; done)
    rename_i cs hcs
    split at h <;> try (simp at h; done)
    rename_i d1 ρ1 fr1 h1
    split at h <;> try (simp at h; done)
    rename_i d2 ρ2 fr2 h2
    cases h
    obtain ⟨a1, a2, a3⟩ := decCs_sound h1
    obtain ⟨b1, b2, b3⟩ := decH_sound h2
    exact ⟨a1.trans b1, fun b hb => b2 b (a2 b hb), .var _ _ _ b cs _ _ (b1 _ _ (a1 _ _ hb)) hcs (a3.mono b1 b2) b3⟩
  | .arr k :: bs, j, ρ, ρ', fr, fr', d, h => by
    simp only [decH] at h
    split at h <;> try (simp at h; done)
    · rename_i b hb
      split at h <;> try (simp at h; done)
      rename_i k' L v hL
      split at h <;> try (simp at h; done)
      rename_i hk; subst hk
      split at h <;> try (simp at h; done)
      rename_i d2 ρ2 fr2 h2
      cases h
      obtain ⟨b1, b2, b3⟩ := decH_sound h2
      exact ⟨b1, b2, .arr _ _ _ b L v _ (b1 _ _ hb) hL b3⟩
    · rename_i hb
      split at h <;> try (simp at h; done)
      rename_i d2 ρ2 fr2 h2
      cases h
      obtain ⟨b1, b2, b3⟩ := decH_sound h2
      exact ⟨b1, b2, .arrn _ _ _ _ (b1 _ _ hb) b3⟩

end Vm
end

section
namespace Vm
open Go
variable {S : Sig} {R : Type} {P : Program} [Prog S]

theorem mkH_none : ∀ {bs : List (BPat S)} {d : DatH bs} {j0 j : Nat}, (j < j0 ∨ j0 + bs.length ≤ j) → lk j (mkH bs d j0) = none
  | [], _, _, _, _ => rfl
  | .var ps :: bs, d, j0, j, h => by
    simp only [mkH, lk_cons]
    simp only [List.length_cons] at h
    rw [if_neg (by omega)]
    exact mkH_none (by omega)
  | .arr k :: bs, d, j0, j, h => by
    simp only [mkH, lk_cons]
    simp only [List.length_cons] at h
    rw [if_neg (by omega)]
    exact mkH_none (by omega)

/-- What is known of block j of a form. -/
def BlkFact (st : St S) (ρ : Ren) (fr : List Nat) (hp : List (Nat × Blk S)) (j : Nat) : BPat S → Prop
  | .var ps => ∃ b cs d, lk j ρ = some (some b) ∧ lk b st.hp = some (.var cs false) ∧ FitsL st.hp ρ fr ps d cs ∧ lk j hp = some (.var (mkCs ps d) false)
  | .arr k => (∃ b L v, lk j ρ = some (some b) ∧ lk b st.hp = some (.arr k L v false) ∧ lk j hp = some (.arr k L 0 false)) ∨ (lk j ρ = some none ∧ lk j hp = some (.arr k [] 0 false))

theorem FitsH.facts {st : St S} {ρ : Ren} {fr : List Nat} {bs : List (BPat S)} {j0 : Nat} {d : DatH bs} (h : FitsH st ρ fr bs j0 d) : ∀ (i : Nat) (bp : BPat S), bs[i]? = some bp → BlkFact st ρ fr (mkH bs d j0) (j0 + i) bp := by
  have lift : ∀ {hp hp' : List (Nat × Blk S)} {j : Nat} {bp : BPat S}, lk j hp' = lk j hp → BlkFact st ρ fr hp j bp → BlkFact st ρ fr hp' j bp := by
    intro hp hp' j bp e h
    cases bp with
    | var ps => obtain ⟨b, cs, d, h1, h2, h3, h4⟩ := h; exact ⟨b, cs, d, h1, h2, h3, e.trans h4⟩
    | arr k =>
      rcases h with ⟨b, L, v, h1, h2, h3⟩ | ⟨h1, h2⟩
      · exact .inl ⟨b, L, v, h1, h2, e.trans h3⟩
      · exact .inr ⟨h1, e.trans h2⟩
  induction h with
  | nil j => intro i bp h; simp at h
  | var ps bs j b cs d ds h1 h2 h3 _ ih =>
    intro i bp hi
    cases i with
    | zero => simp at hi; subst hi; exact ⟨b, cs, d, h1, h2, h3, by simp [mkH, lk_cons]⟩
    | succ i =>
      have := ih i bp (by simpa using hi)
      rw [show j + (i + 1) = j + 1 + i by omega]
      exact lift (by simp only [mkH, lk_cons]; rw [if_neg (by omega)]) this
  | arr k bs j b L v ds h1 h2 _ ih =>
    intro i bp hi
    cases i with
    | zero => simp at hi; subst hi; exact .inl ⟨b, L, v, h1, h2, by simp [mkH, lk_cons]⟩
    | succ i =>
      have := ih i bp (by simpa using hi)
      rw [show j + (i + 1) = j + 1 + i by omega]
      exact lift (by simp only [mkH, lk_cons]; rw [if_neg (by omega)]) this
  | arrn k bs j ds h1 _ ih =>
    intro i bp hi
    cases i with
    | zero => simp at hi; subst hi; exact .inr ⟨h1, by simp [mkH, lk_cons]⟩
    | succ i =>
      have := ih i bp (by simpa using hi)
      rw [show j + (i + 1) = j + 1 + i by omega]
      exact lift (by simp only [mkH, lk_cons]; rw [if_neg (by omega)]) this

theorem lk_mem {α : Type} {j : Nat} {x : α} : ∀ {l : List (Nat × α)}, lk j l = some x → (j, x) ∈ l
  | [], h => by simp [lk] at h
  | (i, y) :: l, h => by
    rw [lk_cons] at h
    by_cases e : j = i
    · subst e; rw [if_pos rfl] at h; cases h; simp
    · rw [if_neg e] at h; exact List.mem_cons_of_mem _ (lk_mem h)

theorem distinct_sound : ∀ {ρ : Ren}, distinct ρ = true → ∀ {j1 j2 b : Nat}, (j1, some b) ∈ ρ → (j2, some b) ∈ ρ → j1 = j2
  | [], _, j1, j2, b, h, _ => by cases h
  | (i, none) :: ρ, hd, j1, j2, b, h1, h2 => by
    simp only [distinct] at hd
    simp only [List.mem_cons, Prod.mk.injEq, reduceCtorEq, and_false, false_or] at h1 h2
    exact distinct_sound hd h1 h2
  | (i, some c) :: ρ, hd, j1, j2, b, h1, h2 => by
    simp only [distinct, Bool.and_eq_true, List.all_eq_true] at hd
    obtain ⟨ha, hd⟩ := hd
    simp only [List.mem_cons, Prod.mk.injEq, Option.some.injEq] at h1 h2
    rcases h1 with ⟨rfl, rfl⟩ | h1
    · rcases h2 with ⟨rfl, _⟩ | h2
      · rfl
      · have := ha _ h2; simp at this
    · rcases h2 with ⟨rfl, rfl⟩ | h2
      · have := ha _ h1; simp at this
      · exact distinct_sound hd h1 h2

theorem keeps_sound {ρ : Ren} : ∀ {s : Nat}, keeps ρ s = true → ∀ b, b < s → lk b ρ = some (some b)
  | 0, _, b, h => by omega
  | s + 1, hk, b, h => by
    simp only [keeps, Bool.and_eq_true] at hk
    by_cases e : b = s
    · subst e
      have hk := hk.1
      split at hk
      · rename_i c hc
        have := Nat.eq_of_beq_eq_true hk
        subst this; exact hc
      · cases hk
    · exact keeps_sound hk.2 b (by omega)

theorem apartF_sound {ρ : Ren} {fr : List Nat} (h : apartF ρ fr = true) {j b : Nat} (hj : lk j ρ = some (some b)) : b ∉ fr := by
  simp only [apartF, List.all_eq_true] at h
  have := h _ (lk_mem hj)
  simp only [Bool.not_eq_true'] at this
  exact has_false this

/-- The context, seen by a form. -/
def Cx.ren (X : Cx S) (ρ : Ren) (hp : List (Nat × Blk S)) : Cx S :=
  { g := fun j => match lk j ρ with | some (some b) => X.g b | _ => none, hp := fun j => lk j hp, w := X.w, M0 := X.M0 }

section
variable {n s : Nat} {X : Cx S} {a : Act} {st : St S} (hs : Sim n X a st) {H : Sch S} {ρ : Ren} {fr : List Nat} {d : DatT H.tm} {e : DatH H.hp}
  (hT : FitsT st ρ fr H.tm d) (hH : FitsH st ρ fr H.hp 0 e) (hfit : H.fit = true) (hdis : distinct ρ = true) (hap : apartF ρ fr = true)
include hs hH hap

theorem ren_blk {j : Nat} {c : Blk S} (h : lk j (mkH H.hp e 0) = some c) : ∃ bp, H.hp[j]? = some bp ∧ BlkFact st ρ fr (mkH H.hp e 0) j bp := by
  rcases Nat.lt_or_ge j H.hp.length with hj | hj
  · have hg := List.getElem?_eq_getElem hj
    have := hH.facts j _ hg
    rw [Nat.zero_add] at this
    exact ⟨_, hg, this⟩
  · rw [mkH_none (.inr (by omega))] at h; cases h

/-- A block of the form that lies somewhere. -/
theorem ren_at {j : Nat} {c : Blk S} {r m : Nat} (h : (X.ren ρ (mkH H.hp e 0)).hp j = some c) (hg : (X.ren ρ (mkH H.hp e 0)).g j = some (r, m)) : ∃ b c0, lk j ρ = some (some b) ∧ X.g b = some (r, m) ∧ X.hp b = some c0 ∧ c0.fz = false ∧ b ∉ fr := by
  obtain ⟨bp, h1, h2⟩ := ren_blk hs hH hap h
  have key : ∀ b, lk j ρ = some (some b) → X.g b = some (r, m) := fun b hb => by simpa [Cx.ren, hb] using hg
  cases bp with
  | var ps =>
    obtain ⟨b, cs, d, h3, h4, h5, h6⟩ := h2
    exact ⟨b, _, h3, key b h3, (hs.hp b).trans h4, rfl, apartF_sound hap h3⟩
  | arr k =>
    rcases h2 with ⟨b, L, v, h3, h4, h5⟩ | ⟨h3, h4⟩
    · exact ⟨b, _, h3, key b h3, (hs.hp b).trans h4, rfl, apartF_sound hap h3⟩
    · simp [Cx.ren, h3] at hg

theorem ren_M {r : Nat} (h : (X.ren ρ (mkH H.hp e 0)).M r) : X.M r ∧ (X.frs fr).M r := by
  obtain ⟨x1, x2, x3, x4, x5⟩ := Ext.frs fr X hs.wf
  rcases h with h | ⟨j, c, m, h1, h2, h3⟩
  · exact ⟨.inl h, .inl (by rw [x4]; exact h)⟩
  · obtain ⟨b, c0, g1, g2, g3, g4, g5⟩ := ren_at hs hH hap h1 h3
    refine ⟨.inr ⟨b, c0, m, g3, g4, g2⟩, .inr ⟨b, c0, m, ?_, g4, by rw [x5]; exact g2⟩⟩
    rw [frs_hp]; simp only [frzAt]; rw [if_neg g5]; exact g3

theorem ren_cells : ∀ {ps : List (Pat S)} {dd : DatP ps} {cs : List (Cell S)} {us : List Value}, FitsL st.hp ρ fr ps dd cs → ps.all (fitP H.hp) = true → RelCs X cs us → RelCs (X.ren ρ (mkH H.hp e 0)) (mkCs ps dd) us := by
  intro ps dd cs us hf
  obtain ⟨x1, x2, x3, x4, x5⟩ := Ext.frs fr X hs.wf
  induction hf generalizing us with
  | nil => intro _ hr; cases hr; exact .nil
  | cons p ps c cs d1 ds h1 _ ih =>
    intro hfit hr
    simp only [List.all_cons, Bool.and_eq_true] at hfit
    cases hr with
    | cons _ _ us vs r1 r2 r3 =>
      have hone : RelCs X [c] us := by simpa using RelCs.cons c [] us [] r1 r2 .nil
      have fin : ∀ c', c'.width = c.width → RelC (X.ren ρ (mkH H.hp e 0)) c' us → c' = mkC1 p d1 → RelCs (X.ren ρ (mkH H.hp e 0)) (mkCs (p :: ps) (d1, ds)) (us ++ vs) := by
        intro c' hw hc he
        subst he
        exact .cons _ _ us vs (by rw [hw]; exact r1) hc (ih hfit.2 r3)
      cases h1 with
      | dat s0 c d0 g1 g2 =>
        have hz := frz_lives (bs := fr) hs.wf (fun b _ => hs.hp b) hone (fun b hb => g2 b hb)
        have hrel := dec1C_sound x2 g1 (x1.relC r2) hz
        refine fin _ ?_ (.f _ _ (hrel.up (by rw [x3]; exact Chg.refl _ _) (fun r hr => .inl (ren_M hs hH hap hr).2))) rfl
        show (enc1 s0 d0).width = _
        rw [enc1_width]
        unfold dec1C at g1
        split at g1 <;> try rfl
        · rename_i c'
          have := dec1_sound _ c' d0 g1
          show _ = c'.width
          rw [← this, enc1_width]
        · simp at g1
      | lv j b v k L z g1 g2 =>
        refine fin (.live j 0) rfl ?_ rfl
        have hXb := (hs.hp b).trans g1
        have hp := hfit.1
        simp only [fitP] at hp
        split at hp <;> try (simp at hp; done)
        rename_i k0 hk0
        have hfact := hH.facts j _ hk0
        rw [Nat.zero_add] at hfact
        rcases hfact with ⟨b', L', v', f1, f2, f3⟩ | ⟨f1, f2⟩
        · rw [g2] at f1; cases f1
          rw [g1] at f2; cases f2
          cases r2 with
          | live _ _ k2 L2 v2 z2 val q1 q2 q3 q4 =>
            rw [hXb] at q1; cases q1
            refine .live j 0 k L 0 false val f3 (Nat.le_refl _) (fun _ => ?_) q4
            have := q3 rfl
            unfold liveAt at *
            simp only [Cx.ren, g2]
            exact this
        · rw [g2] at f1; cases f1
      | lvn j g1 =>
        refine fin (.live j 0) rfl ?_ rfl
        have hp := hfit.1
        simp only [fitP] at hp
        split at hp <;> try (simp at hp; done)
        rename_i k0 hk0
        have hfact := hH.facts j _ hk0
        rw [Nat.zero_add] at hfact
        rcases hfact with ⟨b', L', v', f1, f2, f3⟩ | ⟨f1, f2⟩
        · rw [g1] at f1; cases f1
        · cases r2 with
          | nilsl ad =>
            refine .live j 0 k0 [] 0 false _ f2 (Nat.le_refl _) (fun _ => ?_) rfl
            simp only [liveAt, Cx.ren, g1]
            exact ⟨trivial, ad, rfl⟩
      | ptr j b off g1 =>
        refine fin (.ptr j off) rfl ?_ rfl
        have hp := hfit.1
        simp only [fitP] at hp
        split at hp <;> try (simp at hp; done)
        rename_i ps0 hk0
        have hfact := hH.facts j _ hk0
        rw [Nat.zero_add] at hfact
        obtain ⟨b', cs', d', f1, f2, f3, f4⟩ := hfact
        rw [g1] at f1; cases f1
        cases r2 with
        | ptr _ _ r m cs2 z2 q1 q2 =>
          exact .ptr j off r m _ false (by simp only [Cx.ren, g1]; exact q1) f4
      | clo f caps bs g1 g2 =>
        refine fin (.clo f caps) rfl ?_ rfl
        have hp := hfit.1
        simp only [fitP] at hp
        cases r2 with
        | clo _ _ ws q1 =>
          refine .clo f caps ws ?_
          clear fin hone r1 r3 ih
          have key : ∀ (caps bs : List Nat) (ws : List Value), caps.length = bs.length → (∀ (i j b : Nat), caps[i]? = some j → bs[i]? = some b → lk j ρ = some (some b)) → (caps.all fun j => match H.hp[j]? with | some (.var _) => true | _ => false) = true → ptrs X bs ws → ptrs (X.ren ρ (mkH H.hp e 0)) caps ws := by
            intro caps
            induction caps with
            | nil =>
              intro bs ws hl _ _ hpt
              cases bs with
              | nil =>
                cases ws with
                | nil => trivial
                | cons => exact hpt.elim
              | cons => simp at hl
            | cons j caps ihc =>
              intro bs ws hl hg hall hpt
              cases bs with
              | nil => simp at hl
              | cons b bs =>
                cases ws with
                | nil => exact hpt.elim
                | cons v ws =>
                  obtain ⟨⟨r, m, cs2, z2, q2, q3, q4⟩, q5⟩ := hpt
                  simp only [List.all_cons, Bool.and_eq_true] at hall
                  refine ⟨?_, ihc bs ws (by simpa using hl) (fun i j b h1 h2 => hg (i + 1) j b (by simpa using h1) (by simpa using h2)) hall.2 q5⟩
                  have hj := hg 0 j b rfl rfl
                  have hp := hall.1
                  split at hp <;> try (simp at hp; done)
                  rename_i ps0 hk0
                  have hfact := hH.facts j _ hk0
                  rw [Nat.zero_add] at hfact
                  obtain ⟨b', cs', d', f1, f2, f3, f4⟩ := hfact
                  rw [hj] at f1; cases f1
                  exact ⟨r, m, _, false, by simp only [Cx.ren, hj]; exact q2, f4, q4⟩
          exact key caps bs ws g1 g2 hp q1

include hfit hdis in
theorem ren_wf : WF (X.ren ρ (mkH H.hp e 0)) := by
  simp only [Sch.fit, Bool.and_eq_true, List.all_eq_true] at hfit
  refine ⟨fun j c hc => ?_, fun j1 j2 c1 c2 r m m' h1 h2 h3 h4 => ?_, hs.wf.m0, fun j c r m h1 h2 => ?_, fun x hx => ⟨(hs.wf.gl x hx).1, fun h => (hs.wf.gl x hx).2.1 (ren_M hs hH hap h).1, (hs.wf.gl x hx).2.2⟩⟩
  · obtain ⟨bp, h1, h2⟩ := ren_blk hs hH hap hc
    cases bp with
    | var ps =>
      obtain ⟨b, cs, d, h3, h4, h5, h6⟩ := h2
      have hc' : lk j (mkH H.hp e 0) = some c := hc
      rw [h6] at hc'; cases hc'
      obtain ⟨r, m, el, zz, vs, g1, g2, g3, g4⟩ := hs.wf.blk b _ ((hs.hp b).trans h4)
      refine ⟨r, m, el, zz, vs, by simp only [Cx.ren, h3]; exact g1, g2, g3, ren_cells hs hH hap h5 ?_ g4⟩
      have := hfit.2 _ (List.mem_of_getElem? h1)
      simpa using this
    | arr k =>
      rcases h2 with ⟨b, L, v, h3, h4, h5⟩ | ⟨h3, h4⟩
      · have hc' : lk j (mkH H.hp e 0) = some c := hc
        rw [h5] at hc'; cases hc'
        have hB := hs.wf.blk b _ ((hs.hp b).trans h4)
        have hg : (X.ren ρ (mkH H.hp e 0)).g j = X.g b := by simp only [Cx.ren, h3]
        simp only [RelB, hg] at hB ⊢
        cases hgb : X.g b with
        | none => rw [hgb] at hB; exact hB
        | some q =>
          obtain ⟨r, cap⟩ := q
          rw [hgb] at hB
          obtain ⟨el, zz, vs, rest, e2, e3, e4, e5, e6⟩ := hB
          exact ⟨el, zz, vs, rest, e2, e3, e4.up (Chg.refl _ _) (fun r hr => .inl (ren_M hs hH hap hr).1), e5, e6⟩
      · have hc' : lk j (mkH H.hp e 0) = some c := hc
        rw [h4] at hc'; cases hc'
        have hg : (X.ren ρ (mkH H.hp e 0)).g j = none := by simp only [Cx.ren, h3]
        simp only [RelB, hg]
  · obtain ⟨b1, d1, f1, f2, f3, _, _⟩ := ren_at hs hH hap h1 h3
    obtain ⟨b2, d2, g1, g2, g3, _, _⟩ := ren_at hs hH hap h2 h4
    have := hs.wf.inj b1 b2 d1 d2 r m m' f3 g3 f2 g2
    subst this
    exact distinct_sound hdis (lk_mem f1) (lk_mem g1)
  · obtain ⟨b1, d1, f1, f2, f3, _, _⟩ := ren_at hs hH hap h1 h2
    exact hs.wf.sep b1 d1 r m f3 f2

theorem ren_tm {ts : List (Nat × Bool × List (Pat S))} {dd : DatT ts} (hT : FitsT st ρ fr ts dd) : (∀ x, x ∈ ts → x.2.2.all (fitP H.hp) = true) → ∀ {t : Nat} {p : PV S}, lk t (mkT ts dd) = some p → RelP (X.ren ρ (mkH H.hp e 0)) p (a.tmps.getD t undef) := by
  induction hT with
  | nil => intro _ t p hp; simp [mkT, lk] at hp
  | cons t0 ag ps ts q dd ds g1 g2 g3 _ ih =>
    intro hfit t p hp
    have hfit0 := hfit _ (List.mem_cons_self ..)
    have hrest := @ih (fun x hx => hfit x (List.mem_cons_of_mem _ hx)) t p
    simp only [mkT] at hp
    split at hp
    · rename_i p0 hp0
      rw [lk_cons] at hp
      by_cases e : t = t0
      · subst e
        rw [if_pos rfl] at hp
        obtain rfl := Option.some.inj hp
        have hrel : RelE X q (a.tmps.getD t undef) := hs.tm t _ g1
        have hfit0 : ps.all (fitP H.hp) = true := by simpa using hfit0
        cases q with
        | sc c =>
          have : ag = false := g2.symm
          subst this
          have hc : RelCs X [c] [a.tmps.getD t undef] := by
            have := RelCs.cons c [] [a.tmps.getD t undef] [] (Cell.width_sc hrel.2).symm hrel.1 (.nil (X := X))
            simpa using this
          exact mkPE_rel hp0 (ren_cells hs hH hap g3 hfit0 hc)
        | ag cs =>
          have : ag = true := g2.symm
          subst this
          obtain ⟨us, hv, hc⟩ := hrel
          rw [hv]
          exact mkPE_rel hp0 (ren_cells hs hH hap g3 hfit0 hc)
      · rw [if_neg e] at hp
        exact hrest hp
    · exact hrest hp

end

theorem dec_sim {n s : Nat} {X : Cx S} {a : Act} {st : St S} (hs : Sim n X a st) {H : Sch S} {d : H.Dat} (h : H.dec s st = some d) : ∃ X', ExtV s X X' ∧ X'.w = X.w ∧ Sim n X' a (H.mk' d) := by
  unfold Sch.dec at h
  split at h <;> try (simp at h; done)
  rename_i d1 ρ1 fr1 h1
  split at h <;> try (simp at h; done)
  rename_i e ρ fr h2
  cases hc : (H.fit && distinct ρ && apartF ρ fr && keeps ρ s && Nat.ble s H.hp.length) with
  | false => simp [hc] at h
  | true =>
  simp only [hc, cond_true] at h
  obtain rfl := Option.some.inj h
  simp only [Bool.and_eq_true] at hc
  obtain ⟨⟨⟨⟨hfit, hdis⟩, hap⟩, hke⟩, hle⟩ := hc
  have hle := Nat.le_of_ble_eq_true hle
  obtain ⟨_, _, hT⟩ := decT_sound h1
  obtain ⟨m1, m2, hH⟩ := decH_sound h2
  have hT := hT.mono m1 m2
  have hwf := ren_wf hs hH hfit hdis hap
  refine ⟨X.ren ρ (mkH H.hp e 0), ⟨Chg.refl _ _, fun r hr => .inl (ren_M hs hH hap hr).1, rfl, fun b hb cs z hx => ?_⟩, rfl, ⟨hwf, hs.size, hs.defers, fun t p hp => ?_, fun b => rfl, fun b hb => mkH_none (.inr (by simpa [Sch.mk'] using hb))⟩⟩
  · have hk := keeps_sound hke b hb
    have hg := List.getElem?_eq_getElem (show b < H.hp.length by omega)
    have hfact := hH.facts b _ hg
    rw [Nat.zero_add] at hfact
    have hx' : lk b st.hp = some (.var cs z) := by rw [← hs.hp b]; exact hx
    cases hbp : H.hp[b] with
    | var ps =>
      rw [hbp] at hfact
      obtain ⟨b', cs', d', f1, f2, f3, f4⟩ := hfact
      exact ⟨_, false, f4, by simp only [Cx.ren, hk]⟩
    | arr k =>
      rw [hbp] at hfact
      rcases hfact with ⟨b', L, v, f1, f2, f3⟩ | ⟨f1, f2⟩
      · rw [hk] at f1; cases f1
        rw [hx'] at f2; cases f2
      · rw [hk] at f1; cases f1
  · simp only [Sch.fit, Bool.and_eq_true, List.all_eq_true] at hfit
    exact ren_tm hs hH hap hT (fun x hx => by simpa using hfit.1 x hx) hp

end Vm
end

section
namespace Vm
open Go
variable {S : Sig} {R : Type} {P : Program} [Prog S]

/-- What a loop ends in: one of some exits, each of a form. -/
inductive Ex where
  | normal | exit (id : Nat) | ret

def Ex.to : Ex → Exit
  | .normal => .normal
  | .exit i => .exit i
  | .ret => .ret

def Ex.is : Ex → Exit → Bool
  | .exit i, .exit j => Nat.beq i j
  | .ret, .ret => true
  | _, _ => false

def OutT : List (Ex × Sch S) → Type
  | [] => Empty
  | (_, H) :: xs => H.Dat ⊕ OutT xs

def outOf (s : Nat) : (xs : List (Ex × Sch S)) → Exit → St S → Option (OutT xs)
  | [], _, _ => none
  | (e, H) :: xs, ex, st => bif e.is ex then (match H.dec s st with | some d => some (.inl d) | none => none) else (match outOf s xs ex st with | some o => some (.inr o) | none => none)

def outSt : (xs : List (Ex × Sch S)) → OutT xs → Exit × St S
  | (e, H) :: _, .inl d => (e.to, H.mk' d)
  | _ :: xs, .inr o => outSt xs o

/-- A loop's rounds. -/
def loopF (s : Nat) (H : Sch S) (xs : List (Ex × Sch S)) (O : Orc S (OutT xs)) (n : Nat) (b : Code) : Nat → H.Dat → Option (OutT xs)
  | 0, _ => none
  | m + 1, d => execK O n b (H.mk' d) fun ex st => match ex with
    | .normal => (match H.dec s st with | some d' => loopF s H xs O n b m d' | none => none)
    | ex => outOf s xs ex st

/-- What goes on behind a loop: by its exit. -/
def outK : (xs : List (Ex × Sch S)) → OutT xs → (Exit → St S → Option R) → Option R
  | (e, H) :: xs, o, K => match o with
    | .inl d => K e.to (H.mk' d)
    | .inr o => outK xs o K
  | [], o, _ => nomatch o

theorem outK_eq : ∀ (xs : List (Ex × Sch S)) (o : OutT xs) (K : Exit → St S → Option R), outK xs o K = K (outSt xs o).1 (outSt xs o).2
  | (e, H) :: xs, .inl d, K => rfl
  | (e, H) :: xs, .inr o, K => outK_eq xs o K

def loopOrc (s : Nat) (H : Sch S) (xs : List (Ex × Sch S)) (L : H.Dat → Option (OutT xs)) : LoopOrc S R := fun st K =>
  match H.dec s st with
  | some d => match L d with
    | some o => outK xs o K
    | none => none
  | none => none

theorem wp_loop_n {c : Code} {Q : Exit → Act → World → Prop} (J : Nat → Act → World → Prop) (round : ∀ m a w, J m a w → c.wp P (Exit.then (fun a' w' => ∃ m', m' < m ∧ J m' a' w') Q) a w) :
    ∀ (m : Nat) (a : Act) (w : World), J m a w → (Code.loop c).wp P Q a w := by
  intro m a w h₀ b k cs
  have key : ∀ n a w, J n a w →
      ∃ e a' w', Q e a' w' ∧ Arrives P (lone (b.at a (.code c :: .inLoop c :: k)) cs w) b k cs e a' w' := by
    intro n
    induction n using Nat.strongRecOn with
    | _ n ih =>
      intro a w hI
      obtain ⟨e, a₁, w₁, hq, harr⟩ := round n a w hI b (.inLoop c :: k) cs
      cases e with
      | normal =>
        obtain ⟨m', hlt, hI₁⟩ := hq
        obtain ⟨e₂, a₂, w₂, hq₂, harr₂⟩ := ih m' hlt a₁ w₁ hI₁
        exact ⟨e₂, a₂, w₂, hq₂, .of_steps (Steps.trans harr (.one step_inLoop)) harr₂⟩
      | exit id => exact ⟨_, a₁, w₁, hq, .pass (x := .inLoop c) rfl (fun _ _ => .inl (by simp)) harr⟩
      | goto l => exact ⟨_, a₁, w₁, hq, .pass (x := .inLoop c) rfl (fun _ _ => .inl (by simp)) harr⟩
      | ret => exact ⟨_, a₁, w₁, hq, .pass (x := .inLoop c) rfl (fun _ _ => .inl (by simp)) harr⟩
      | panic ch => exact ⟨_, a₁, w₁, hq, .pass (x := .inLoop c) rfl (fun _ _ => .inl (by simp)) harr⟩
      | outgrown => exact ⟨_, a₁, w₁, hq, .pass (x := .inLoop c) rfl (fun _ _ => .inl (by simp)) harr⟩
  obtain ⟨e, a', w', hq, harr⟩ := key m a w h₀
  exact ⟨e, a', w', hq, .of_steps (.one step_loop) harr⟩

theorem mk_fresh (H : Sch S) (d : H.Dat) : Fresh (H.mk' d) := fun b hb => mkH_none (.inr (by simpa [Sch.mk'] using hb))

theorem outSt_fresh : ∀ {xs : List (Ex × Sch S)} (o : OutT xs), Fresh (outSt xs o).2
  | (e, H) :: xs, .inl d => mk_fresh H d
  | _ :: xs, .inr o => outSt_fresh o

/-- An exit of a form. -/
theorem outOf_sound {s n : Nat} {X : Cx S} {a : Act} {st : St S} (hs : Sim n X a st) {ex : Exit} : ∀ {xs : List (Ex × Sch S)} {o : OutT xs}, outOf s xs ex st = some o → ex ≠ .normal ∧ (outSt xs o).1 = ex ∧ ∃ X', ExtV s X X' ∧ X'.w = X.w ∧ Sim n X' a (outSt xs o).2
  | [], o, h => by simp [outOf] at h
  | (e, H) :: xs, o, h => by
    simp only [outOf] at h
    cases hi : e.is ex with
    | true =>
      simp only [hi, cond_true] at h
      split at h <;> try (simp at h; done)
      rename_i d hd
      obtain rfl := Option.some.inj h
      obtain ⟨X', h1, h2, h3⟩ := dec_sim (s := s) hs hd
      have he : ex ≠ .normal ∧ e.to = ex := by
        cases e <;> cases ex <;> simp [Ex.is, Ex.to] at hi ⊢
        exact hi
      exact ⟨he.1, he.2, X', h1, h2, h3⟩
    | false =>
      simp only [hi, cond_false] at h
      split at h <;> try (simp at h; done)
      rename_i o' ho
      obtain rfl := Option.some.inj h
      have ih := outOf_sound hs (xs := xs) (o := o') ho
      exact ih

/-- What the rounds compute, the loop does. -/
theorem loopF_ok [TabOk (S := S) P] {s : Nat} {H : Sch S} {xs : List (Ex × Sch S)} {O : Orc S (OutT xs)} (hO : OrcOk P O) {n : Nat} {b : Code} (hL : LoopsOk P O s n b) (m : Nat) :
    LoopOk P s n b (loopOrc (R := R) s H xs (loopF s H xs O n b m)) := by
  intro st K r h hf
  unfold loopOrc at h
  split at h <;> try (simp at h; done)
  rename_i d hd
  split at h <;> try (simp at h; done)
  rename_i o ho
  rw [outK_eq] at h
  refine ⟨_, _, h, outSt_fresh o, fun X a Q hs hq => ?_⟩
  let J : Nat → Act → World → Prop := fun m a w => ∃ d X', loopF s H xs O n b m d = some o ∧ ExtV s X X' ∧ Sim n X' a (H.mk' d) ∧ X'.w = w
  obtain ⟨X1, e1, e2, e3⟩ := dec_sim (s := s) hs hd
  refine wp_loop_n J (fun m a w hJ => ?_) m a X.w ⟨d, X1, ho, e1, e3, e2⟩
  obtain ⟨d, X', h1, h2, h3, rfl⟩ := hJ
  cases m with
  | zero => simp [loopF] at h1
  | succ m =>
    simp only [loopF] at h1
    obtain ⟨ex, st1, g1, g2, g3⟩ := execK_sound (s := s) hO b h1 (mk_fresh H d) hL
    refine g3 X' a _ h3 (fun X2 a2 k1 k2 => ?_)
    by_cases hex : ex = .normal
    · subst hex
      simp only at g1
      split at g1 <;> try (simp at g1; done)
      rename_i d' hd'
      obtain ⟨X3, j1, j2, j3⟩ := dec_sim (s := s) k2 hd'
      exact ⟨m, Nat.lt_succ_self _, d', X3, g1, (h2.trans k1 h3.wf).trans j1 k2.wf, j3, j2⟩
    · have g1 : outOf s xs ex st1 = some o := by
        cases ex <;> first | exact absurd rfl hex | exact g1
      obtain ⟨q1, q2, X3, j1, j2, j3⟩ := outOf_sound (s := s) k2 g1
      have hfin := hq X3 a2 ((h2.trans k1 h3.wf).trans j1 k2.wf) j3
      rw [j2, q2] at hfin
      cases ex <;> first | exact absurd rfl hex | exact hfin

end Vm
end

section
namespace Vm
open Go
variable {S : Sig} {P : Program}

/-- One pure cell, as it stands anywhere. -/
def relC1 (rec : List (FC S) → List Value → Bool) : FC S → List Value → Bool
  | .int k n, [.int k' n'] => decide (k = k') && decide (n = n')
  | .bool b, [.bool b'] => b == b'
  | .str l, [.string s] => s.data.toList == l
  | .err none, [.nilIface] => true
  | .oth (.pointer none), [.pointer none] => true
  | .oth .nilFunc, [.nilFunc] => true
  | .sl _ [], [.slice none 0 0] => true
  | .arr k n L, us => Nat.beq L.length n && els k L us
  | _, _ => false
where
  els (k : S.K) : List (S.Ty k) → List Value → Bool
    | [], us => us.isEmpty
    | x :: L, us => Nat.beq (us.take (S.es k)).length (S.es k) && rec (enc k x) (us.take (S.es k)) && els k L (us.drop (S.es k))

def relL (rec : List (FC S) → List Value → Bool) : List (FC S) → List Value → Bool
  | [], us => us.isEmpty
  | c :: cs, us => Nat.beq (us.take c.width).length c.width && relC1 rec c (us.take c.width) && relL rec cs (us.drop c.width)

def relChk : Nat → List (FC S) → List Value → Bool
  | 0, _, _ => false
  | n + 1, cs, us => relL (relChk n) cs us

theorem relC1_sound {rec : List (FC S) → List Value → Bool} (hrec : ∀ cs us, rec cs us = true → ∀ w M, RelFs w M cs us) {c : FC S} {us : List Value} (h : relC1 rec c us = true) (w : World) (M : Nat → Prop) : RelF w M c us := by
  unfold relC1 at h
  split at h
  · simp only [Bool.and_eq_true, decide_eq_true_eq] at h
    obtain ⟨rfl, rfl⟩ := h
    exact .int _ _
  · rename_i b b'
    have : b = b' := by simpa using h
    subst this; exact .bool _
  · rename_i l s
    have : s.data.toList = l := by simpa using h
    subst this
    have := RelF.str (S := S) (w := w) (M := M) s.data.toList
    simpa using this
  · exact .err none
  · exact .oth _ rfl
  · exact .oth _ rfl
  · exact .sl0 _ _ _
  · simp only [Bool.and_eq_true] at h
    have key : ∀ (k : S.K) (L : List (S.Ty k)) (us : List Value), relC1.els rec k L us = true → RelEs w M k L us := by
      intro k L
      induction L with
      | nil =>
        intro us h
        have : us = [] := by simpa [relC1.els] using h
        subst this; exact .nil k
      | cons x L ih =>
        intro us h
        simp only [relC1.els, Bool.and_eq_true] at h
        obtain ⟨⟨h1, h2⟩, h3⟩ := h
        have := RelEs.cons (w := w) (M := M) k x L (us.take (S.es k)) (us.drop (S.es k)) (Nat.eq_of_beq_eq_true h1) (hrec _ _ h2 w M) (ih _ h3)
        rwa [List.take_append_drop] at this
    exact .arr _ _ _ _ (Nat.eq_of_beq_eq_true h.1) (key _ _ _ h.2)
  · cases h

theorem relL_sound {rec : List (FC S) → List Value → Bool} (hrec : ∀ cs us, rec cs us = true → ∀ w M, RelFs w M cs us) : ∀ {cs : List (FC S)} {us : List Value}, relL rec cs us = true → ∀ (w : World) (M : Nat → Prop), RelFs w M cs us
  | [], us, h, w, M => by
    have : us = [] := by simpa [relL] using h
    subst this; exact .nil
  | c :: cs, us, h, w, M => by
    simp only [relL, Bool.and_eq_true] at h
    obtain ⟨⟨h1, h2⟩, h3⟩ := h
    have := RelFs.cons (w := w) (M := M) c cs (us.take c.width) (us.drop c.width) (Nat.eq_of_beq_eq_true h1) (relC1_sound hrec h2 w M) (relL_sound hrec h3 w M)
    rwa [List.take_append_drop] at this

theorem relChk_sound : ∀ (n : Nat) (cs : List (FC S)) (us : List Value), relChk n cs us = true → ∀ (w : World) (M : Nat → Prop), RelFs w M cs us
  | 0, _, _, h, _, _ => by cases h
  | n + 1, cs, us, h, w, M => relL_sound (relChk_sound n) h w M

variable [Prog S]

/-- The zero cells of shapes. -/
def zChk (n : Nat) : List (Sh S.K) → List Value → Bool
  | [], us => us.isEmpty
  | .sl _ :: ss, .slice none 0 0 :: us => zChk n ss us
  | s :: ss, us => match (zero1 s : Cell S) with
    | .f c => Nat.beq (us.take c.width).length c.width && relC1 (relChk n) c (us.take c.width) && zChk n ss (us.drop c.width)
    | _ => false

theorem zChk_sound {n : Nat} : ∀ {ss : List (Sh S.K)} {us : List Value}, zChk n ss us = true → ∀ X : Cx S, RelCs X (ss.map zero1) us := by
  intro ss us h X
  fun_induction zChk n ss us with
  | case1 us =>
    have : us = [] := by simpa using h
    subst this; exact .nil
  | case2 k ss us ih => exact .cons .nilsl _ [_] us rfl (.nilsl none) (ih h)
  | case3 s ss us hx c hc ih =>
    simp only [Bool.and_eq_true] at h
    obtain ⟨⟨h1, h2⟩, h3⟩ := h
    have := RelCs.cons (X := X) (zero1 s) (ss.map zero1) (us.take c.width) (us.drop c.width) (by rw [hc]; exact Nat.eq_of_beq_eq_true h1) (by rw [hc]; exact .f _ _ (relC1_sound (relChk_sound n) h2 _ _)) (ih h3)
    rwa [List.take_append_drop] at this
  | case4 => cases h

def scChk (d : TypeDesc) : Sh S.K → Bool
  | .int k => match d with | .int k' => decide (k = k') | _ => false
  | .str => match d with | .string => true | _ => false
  | .bool => match d with | .bool => true | _ => false
  | .err => match d with | .interface _ => true | _ => false
  | .oth => true
  | .fn => true
  | _ => false

def fldChk (P : Program) (fs : Array Field) (offs : List Nat) (w : Nat) : Nat → Bool
  | 0 => true
  | j + 1 => (match Vm.fieldAt offs w j, fs[j]? with
    | some (off, n), some f => Nat.beq f.offset off && (match P.info? f.type with | some fi => Nat.beq fi.size n | none => false) && !(Nat.beq n 0)
    | _, _ => false) && fldChk P fs offs w j

def layChk (P : Program) (t : TypeId) : Lay S → Bool
  | .sc s => (zero1 s : Cell S).isSc && (match P.info? t, P.underlying t with
    | some i, some d => Nat.beq i.size 1 && plainD d && scChk d s && (match i.zero with | some z => z.oneCell' && zChk 1 [s] [z] | none => false)
    | _, _ => false)
  | .st shs offs w => (match P.info? t, P.underlying t with
    | some i, some (.struct fs) => Nat.beq fs.size offs.length && Nat.beq i.size w && fldChk P fs offs w offs.length && (match i.zero with | some (.agg zs) => Nat.beq zs.size w && zChk 4 shs zs.toList | _ => false)
    | _, _ => false)
  | .ar k n => (match P.info? t, P.underlying t with
    | some i, some (.array n' e) => Nat.beq n' n && Nat.beq i.size (n * S.es k) && !(Nat.beq (S.es k) 0) && (match P.info? e, P.underlying e with
      | some ei, some d => Nat.beq ei.size (S.es k) && (plainD d == !(Prog.aggK k))
      | _, _ => false) && (match i.zero with | some (.agg zs) => Nat.beq zs.size (n * S.es k) && zChk 4 [.arr k n] zs.toList | _ => false)
    | _, _ => false)
  | .sl k => (match P.info? t, P.underlying t with
    | some i, some (.slice e) => Nat.beq i.size 1 && !(Nat.beq (S.es k) 0) && (match P.info? e with
      | some ei => Nat.beq ei.size (S.es k) && Nat.ble (ei.bytes * Prog.lim k) (2 ^ 46) && Nat.ble (Prog.lim k) (2 ^ 46) && (match ei.zero with
        | some ze => Nat.beq ze.cells.size (S.es k) && relChk 4 (enc k (Zeros.zero k)) ze.cells.toList
        | none => false)
      | none => false) && (match i.zero with | some (.slice none 0 0) => true | _ => false)
    | _, _ => false)
  | .none => true

theorem RelCs.one1 {X : Cx S} {c : Cell S} {us : List Value} (h : RelCs X [c] us) : RelC X c us := by
  cases h with
  | cons _ _ us vs a b c' => cases c'; simpa using b

theorem fldChk_sound {fs : Array Field} {offs : List Nat} {w : Nat} : ∀ {m : Nat}, fldChk P fs offs w m = true → ∀ j off n, j < m → Vm.fieldAt offs w j = some (off, n) → ∃ f fi, fs[j]? = some f ∧ f.offset = off ∧ P.info? f.type = some fi ∧ fi.size = n ∧ n ≠ 0
  | 0, _, j, _, _, h, _ => by omega
  | m + 1, hc, j, off, n, h, hf => by
    simp only [fldChk, Bool.and_eq_true] at hc
    by_cases e : j = m
    · subst e
      have hc := hc.1
      rw [hf] at hc
      split at hc
      · rename_i off' n' f h1 h2
        cases h1
        simp only [Bool.and_eq_true, Bool.not_eq_true'] at hc
        obtain ⟨⟨a1, a2⟩, a3⟩ := hc
        split at a2
        · rename_i fi hfi
          exact ⟨f, fi, h2, Nat.eq_of_beq_eq_true a1, hfi, Nat.eq_of_beq_eq_true a2, fun e => by subst e; simp at a3⟩
        · cases a2
      · cases hc
    · exact fldChk_sound hc.2 j off n (by omega) hf

theorem layChk_sound {t : TypeId} : ∀ {l : Lay S}, layChk P t l = true → LayOk P t l
  | .sc s, h => by
    simp only [layChk, Bool.and_eq_true] at h
    obtain ⟨h0, h⟩ := h
    split at h <;> try (cases h; done)
    rename_i i d hi hd
    simp only [Bool.and_eq_true] at h
    obtain ⟨⟨⟨h1, h2⟩, h3⟩, h4⟩ := h
    split at h4 <;> try (cases h4; done)
    rename_i z hz
    simp only [Bool.and_eq_true] at h4
    have hrel : ∀ X : Cx S, RelC X (zero1 s) [z] := by
      intro X
      have := zChk_sound h4.2 X
      exact RelCs.one1 this
    refine ⟨h0, i, d, z, hi, Nat.eq_of_beq_eq_true h1, hd, h2, hz, h4.1, hrel, ?_⟩
    cases s <;> simp only [scOk, scChk] at h3 ⊢
    · cases d <;> simp at h3
      subst h3; exact hd
    · split at h3 <;> try (cases h3; done)
      exact hd
    · split at h3 <;> try (cases h3; done)
      exact hd
    · split at h3 <;> try (cases h3; done)
      exact ⟨_, hd⟩
  | .st shs offs w, h => by
    simp only [layChk] at h
    split at h <;> try (cases h; done)
    rename_i i fs hi hd
    simp only [Bool.and_eq_true] at h
    obtain ⟨⟨⟨h1, h2⟩, h3⟩, h4⟩ := h
    split at h4 <;> try (cases h4; done)
    rename_i zs hz
    simp only [Bool.and_eq_true] at h4
    refine ⟨i, fs, zs.toList, Nat.eq_of_beq_eq_true h1, hi, Nat.eq_of_beq_eq_true h2, hd, by simpa using hz, by simpa using Nat.eq_of_beq_eq_true h4.1, zChk_sound h4.2, fun j off n hf => ?_⟩
    refine fldChk_sound h3 j off n ?_ hf
    unfold Vm.fieldAt at hf
    rcases Nat.lt_or_ge j offs.length with h | h
    · exact h
    · rw [List.getElem?_eq_none h] at hf; cases hf
  | .ar k n, h => by
    simp only [layChk] at h
    split at h <;> try (cases h; done)
    rename_i i n' e hi hd
    simp only [Bool.and_eq_true, Bool.not_eq_true'] at h
    obtain ⟨⟨⟨⟨h1, h2⟩, h3⟩, h4⟩, h5⟩ := h
    split at h4 <;> try (cases h4; done)
    rename_i ei d hei hde
    simp only [Bool.and_eq_true] at h4
    split at h5 <;> try (cases h5; done)
    rename_i zs hz
    simp only [Bool.and_eq_true] at h5
    have hn := Nat.eq_of_beq_eq_true h1
    subst hn
    exact ⟨i, e, ei, zs.toList, hi, Nat.eq_of_beq_eq_true h2, hd, hei, Nat.eq_of_beq_eq_true h4.1, fun e => by rw [e] at h3; simp at h3, by simpa using hz, by simpa using Nat.eq_of_beq_eq_true h5.1, zChk_sound h5.2, d, hde, by simpa using h4.2⟩
  | .sl k, h => by
    simp only [layChk] at h
    split at h <;> try (cases h; done)
    rename_i i e hi hd
    simp only [Bool.and_eq_true, Bool.not_eq_true'] at h
    obtain ⟨⟨⟨h1, h2⟩, h3⟩, h4⟩ := h
    split at h3 <;> try (cases h3; done)
    rename_i ei hei
    simp only [Bool.and_eq_true] at h3
    obtain ⟨⟨⟨a1, a2⟩, a3⟩, a4⟩ := h3
    split at a4 <;> try (cases a4; done)
    rename_i ze hze
    simp only [Bool.and_eq_true] at a4
    split at h4 <;> try (cases h4; done)
    rename_i hz
    exact ⟨i, e, ei, ze, hi, Nat.eq_of_beq_eq_true h1, hd, hei, Nat.eq_of_beq_eq_true a1, fun e => by rw [e] at h2; simp at h2, hze, Nat.eq_of_beq_eq_true a4.1, relChk_sound 4 _ _ a4.2, Nat.le_of_ble_eq_true a2, Nat.le_of_ble_eq_true a3, hz⟩
  | .none, _ => trivial

/-- The whole table. -/
def tabChk (P : Program) (T : Tab S) : Bool := T.all fun x => layChk P x.1 x.2

theorem tabChk_sound {T : Tab S} (h : tabChk P T = true) (t : TypeId) : LayOk P t (Tab.at T t) := by
  unfold Tab.at
  cases hl : lk t T with
  | none => trivial
  | some l =>
    simp only [tabChk, List.all_eq_true] at h
    exact layChk_sound (h _ (lk_mem hl))

def ftsChk (P : Program) (F : List (TypeId × List TypeId)) : Bool := F.all fun x => match P.underlying x.1 with
  | some (.struct fs) => fs.toList.map (·.type) == x.2
  | _ => false

theorem ftsChk_sound {F : List (TypeId × List TypeId)} (h : ftsChk P F = true) : ∀ (t i : Nat) (ft : TypeId), (lk t F).bind (·[i]?) = some ft → ∃ (fs : Array Field) (f : Field), P.underlying t = some (.struct fs) ∧ fs[i]? = some f ∧ f.type = ft := by
  intro t i ft hl
  cases hk : lk t F with
  | none => simp [hk] at hl
  | some l =>
    simp only [hk, Option.bind_some] at hl
    simp only [ftsChk, List.all_eq_true] at h
    have := h _ (lk_mem hk)
    split at this <;> try (cases this; done)
    rename_i fs hfs
    have this : fs.toList.map (·.type) = l := by simpa using this
    rw [← this, List.getElem?_map] at hl
    cases hf : fs.toList[i]? with
    | none => simp [hf] at hl
    | some f =>
      simp only [hf, Option.map_some, Option.some.injEq] at hl
      exact ⟨fs, f, hfs, by rw [← Array.getElem?_toList]; exact hf, hl⟩

def isU8 : Option TypeDesc → Bool
  | some (.int .u8) => true
  | _ => false

def byteElChk (P : Program) (T : Tab S) : Bool := T.all fun x => match x.2 with
  | .sl k => if k = Prog.byte then (match P.underlying x.1 with | some (.slice e) => isU8 (P.underlying e) | _ => false) else true
  | _ => true

theorem byteElChk_sound {T : Tab S} (h : byteElChk P T = true) : ∀ t e, Tab.at T t = .sl Prog.byte → P.underlying t = some (.slice e) → P.underlying e = some (.int .u8) := by
  intro t e h1 h2
  unfold Tab.at at h1
  cases hl : lk t T with
  | none => rw [hl] at h1; cases h1
  | some l =>
    rw [hl] at h1
    simp only [Option.getD_some] at h1
    subst h1
    simp only [byteElChk, List.all_eq_true] at h
    have := h _ (lk_mem hl)
    simp only [if_true, h2] at this
    unfold isU8 at this
    split at this
    · assumption
    · cases this

/-! ### Lists of oracles -/

variable {R : Type}

theorem orc_nil {ls : List (Nat × LoopOrc S R)} : OrcOk P (⟨[], ls⟩ : Orc S R) := ⟨fun f g h => by simp [lk] at h⟩

theorem orc_cons {l : List (Nat × CallOrc S R)} {ls : List (Nat × LoopOrc S R)} (h : OrcOk P (⟨l, ls⟩ : Orc S R)) {f : FuncId} (hb : Bodied P f) {ps rs : List (Lay S)} {F : DL ps → Option (DL rs)} (hF : CallsTo P f ps rs F) :
    OrcOk P (⟨(f, callOrc ps rs F) :: l, ls⟩ : Orc S R) := by
  refine ⟨fun f' g hg => ?_⟩
  simp only [lk_cons] at hg
  by_cases e : f' = f
  · subst e
    rw [if_pos rfl] at hg
    obtain rfl := Option.some.inj hg
    exact ⟨hb, callOrc_ok hF⟩
  · rw [if_neg e] at hg
    exact h.call f' g hg

/-! ### Which loops there are -/

def loopsOf : Code → List Code
  | .seq a b => loopsOf a ++ loopsOf b
  | .cond _ a b => loopsOf a ++ loopsOf b
  | .block _ a => loopsOf a
  | .loop b => [b]
  | _ => []

def LoopsL (P : Program) (O : Orc S R) (s n : Nat) (l : List Code) : Prop := ∀ b, b ∈ l → ∀ g, lk (loopKey b) O.loop = some g → LoopOk P s n b g

theorem loops_of {O : Orc S R} {s n : Nat} : ∀ {c : Code}, LoopsL P O s n (loopsOf c) → LoopsOk P O s n c
  | .seq a b, h => ⟨loops_of fun x hx => h x (by simp [loopsOf, hx]), loops_of fun x hx => h x (by simp [loopsOf, hx])⟩
  | .cond _ a b, h => ⟨loops_of fun x hx => h x (by simp [loopsOf, hx]), loops_of fun x hx => h x (by simp [loopsOf, hx])⟩
  | .block _ a, h => loops_of (c := a) h
  | .loop b, h => h b (by simp [loopsOf])
  | .skip, _ => trivial
  | .exit _, _ => trivial
  | .ret, _ => trivial
  | .region .., _ => trivial
  | .rangeFunc .., _ => trivial
  | .scope _, _ => trivial
  | .label _, _ => trivial
  | .goto _, _ => trivial
  | .refuse _, _ => trivial

theorem loops_nil {O : Orc S R} {s n : Nat} : LoopsL P O s n [] := fun b hb => by cases hb

theorem loops_cons {O : Orc S R} {s n : Nat} {b : Code} {l : List Code} {g : LoopOrc S R} (hk : lk (loopKey b) O.loop = some g) (hg : LoopOk P s n b g) (h : LoopsL P O s n l) : LoopsL P O s n (b :: l) := by
  intro b' hb'
  rcases List.mem_cons.1 hb' with e | hb'
  · subst e
    intro g' hg'
    rw [hk] at hg'
    obtain rfl := Option.some.inj hg'
    exact hg
  · exact h b' hb'

/-- The loops of a function's body. -/
def bodyLoops (fn : Func) : List Code := match fn.body with | some c => loopsOf c | none => []

theorem loops_body {O : Orc S R} {s : Nat} {fn : Func} (h : LoopsL P O s fn.ntmps (bodyLoops fn)) : ∀ c, fn.body = some c → LoopsOk P O s fn.ntmps c := by
  intro c hc
  unfold bodyLoops at h
  rw [hc] at h
  exact loops_of h

/-- A function that has a body: by its number. -/
theorem bodied {f : FuncId} {fn : Func} (hf : P.funcs[f]? = some fn) (hn : (fn.name == "runtime.NumGoroutine") = false) (hb : fn.body.isSome = true) : Bodied P f := by
  obtain ⟨c, hc⟩ := Option.isSome_iff_exists.1 hb
  exact ⟨fn, c, hf, hn, hc⟩

end Vm
end

section
namespace Vm
open Go
variable {S : Sig} {P : Program}

def eqInt1 : Cell S → Cell S → Option Bool
  | .f (.int k a), .f (.int k' b) => if k = k' then some (a == b) else none
  | _, _ => none

def eqFlat : EqF S
  | [], [] => some true
  | c :: cs, d :: ds => match eqInt1 c d with
    | some p => match eqFlat cs ds with
      | some r => some (p && r)
      | none => none
    | none => none
  | _, _ => none

/-- All fields are whole numbers, one behind the other. -/
def intFields (P : Program) : Nat → List Field → Bool
  | _, [] => true
  | j, f :: fs => !(f.name == "_") && Nat.beq f.offset j && (match P.underlying f.type with | some (.int _) => true | _ => false) && intFields P (j + 1) fs

theorem run_part_int {t : TypeId} {k : IntKind} (h : P.underlying t = some (.int k)) (xs : Array Value) (j : Nat) (v : Value) (hv : xs[j]? = some v) (w : World) : (part t xs j).run P w = .ok v w := by
  unfold part
  simp only [Sem.run_bind, run_isAgg' h, plainD, Result.andThen_ok]
  simp [hv]

theorem eqFlat_sound {X : Cx S} : ∀ {fs : List Field} {xs ys : List (Cell S)} {b : Bool} {us vs : List Value} {au av : Array Value} {j : Nat} (w : World) (d : Nat), eqFlat xs ys = some b → RelCs X xs us → RelCs X ys vs → fs.length = xs.length → intFields P j fs = true →
    (∀ i v, us[i]? = some v → au[j + i]? = some v) → (∀ i v, vs[i]? = some v → av[j + i]? = some v) → (Op.eqFields (d + 1) au av fs).run P w = .ok b w := by
  intro fs
  induction fs with
  | nil =>
    intro xs ys b us vs au av j w d h hx hy hl hf hu hv
    cases xs with
    | cons => simp at hl
    | nil =>
      cases ys with
      | cons => simp [eqFlat] at h
      | nil => simp [eqFlat] at h; subst h; simp [Op.eqFields]
  | cons f fs ih =>
    intro xs ys b us vs au av j w d h hx hy hl hf hu hv
    simp only [intFields, Bool.and_eq_true, Bool.not_eq_true'] at hf
    obtain ⟨⟨⟨hn, ho⟩, ht⟩, hrest⟩ := hf
    have ho := Nat.eq_of_beq_eq_true ho
    split at ht <;> try (cases ht; done)
    rename_i kt hkt
    have hname : f.name ≠ "_" := by simpa using hn
    cases xs with
    | nil => simp at hl
    | cons x xs =>
      have key : ∀ (k : IntKind) (m n : Int) (ys' : List (Cell S)) (r : Bool), x = .f (.int k m) → ys = .f (.int k n) :: ys' → eqFlat xs ys' = some r → b = (m == n && r) → (Op.eqFields (d + 1) au av (f :: fs)).run P w = .ok b w := by
        intro k m n ys' r e1 e2 hr hb
        subst e1; subst e2
        cases hx with
        | cons _ _ u1 us' a1 a2 a3 =>
          cases hy with
          | cons _ _ v1 vs' b1 b2 b3 =>
            cases a2 with | f _ _ a2 =>
            cases b2 with | f _ _ b2 =>
            cases a2
            cases b2
            have g1 := hu 0 (.int k m) rfl
            have g2 := hv 0 (.int k n) rfl
            have p1 := run_part_int (P := P) hkt au j _ (by simpa using g1) w
            have p2 := run_part_int (P := P) hkt av j _ (by simpa using g2) w
            have ih' := ih (j := j + 1) (au := au) (av := av) w d hr a3 b3 (by simpa using hl) hrest (fun i v hi => by rw [show j + 1 + i = j + (i + 1) by omega]; exact hu (i + 1) v (by simpa using hi)) (fun i v hi => by rw [show j + 1 + i = j + (i + 1) by omega]; exact hv (i + 1) v (by simpa using hi))
            simp only [Op.eqFields, if_pos hname, Sem.run_bind, ho, p1, p2, Result.andThen_ok, run_equalIn_int w d f.type k kt m n hkt]
            cases hmn : (m == n) with
            | true => rw [hmn] at hb; simp at hb; subst hb; simpa using ih'
            | false => rw [hmn] at hb; simp at hb; subst hb; simp
      cases ys with
      | nil => simp [eqFlat] at h
      | cons y ys =>
        simp only [eqFlat] at h
        split at h <;> try (cases h; done)
        rename_i p hp
        split at h <;> try (cases h; done)
        rename_i r hr
        unfold eqInt1 at hp
        split at hp <;> try (cases hp; done)
        rename_i k m k' n
        split at hp <;> try (cases hp; done)
        rename_i hk; subst hk
        obtain rfl := Option.some.inj hp
        exact key k m n ys r rfl rfl hr (Option.some.inj h).symm

/-- A type whose '==' is that of its whole numbers. -/
def eqChk (P : Program) (t : TypeId) : Bool := !(P.eqGuardType P.depth t) && (match P.underlying t with
  | some (.struct fs) => intFields P 0 fs.toList && !(P.stoodInHeld t)
  | _ => false)

/-- '==' of so many whole numbers. -/
def eqN (n : Nat) : EqF S := fun xs ys => bif Nat.beq xs.length n then eqFlat xs ys else none

def eqLen (P : Program) (t n : Nat) : Bool := match P.underlying t with
  | some (.struct fs) => Nat.beq fs.size n
  | _ => false

theorem eqN_sound {t n : Nat} (h : eqChk P t = true) (hn : eqLen P t n = true) : P.eqGuardType P.depth t = false ∧ ∀ (X : Cx S) (xs ys : List (Cell S)) (b : Bool) (us vs : List Value) (w : World), eqN n xs ys = some b → RelCs X xs us → RelCs X ys vs →
    (Op.equalIn 10000 t (.agg us.toArray) (.agg vs.toArray)).run P w = .ok b w := by
  simp only [eqChk, Bool.and_eq_true, Bool.not_eq_true'] at h
  refine ⟨h.1, fun X xs ys b us vs w hb hx hy => ?_⟩
  have h2 := h.2
  split at h2 <;> try (cases h2; done)
  rename_i fs hfs
  simp only [Bool.and_eq_true, Bool.not_eq_true'] at h2
  unfold eqLen at hn
  rw [hfs] at hn
  have hn := Nat.eq_of_beq_eq_true hn
  unfold eqN at hb
  cases hl : Nat.beq xs.length n with
  | false => simp [hl] at hb
  | true =>
    simp only [hl, cond_true] at hb
    have hl := Nat.eq_of_beq_eq_true hl
    have hfo : P.fieldsOf t = fs := by simp [Program.fieldsOf, hfs]
    have := run_equalIn_struct (P := P) w 9999 t us.toArray vs.toArray (by rw [hfo]; exact hfs) h2.2
    rw [hfo] at this
    rw [this]
    exact eqFlat_sound (j := 0) w 9998 hb hx hy (by rw [hl, ← hn]; simp) h2.1 (fun i v hv => by simpa using hv) (fun i v hv => by simpa using hv)

end Vm
end

section
namespace Vm
open Go
variable {S : Sig} {R : Type} {P : Program} [Prog S]

/-- An argument: a function is known by its number. -/
def encPEi : (l : Lay S) → Ds S.Ty l.shs → PE S
  | .sc .fn, d => .sc (.clo d.1 [])
  | l, d => encPE l d

def encPVi : (ls : List (Lay S)) → DL ls → List (PV S)
  | [], _ => []
  | l :: ls, d => .e (encPEi l d.1) :: encPVi ls d.2

theorem RelV.toEi {X : Cx S} {l : Lay S} {d : Ds S.Ty l.shs} {v : Value} (hg : goodL l = true) (h : RelV X.w X.M l d v) : RelE X (encPEi l d) v := by
  by_cases e : l = .sc .fn
  · subst e
    have h' := h.toE hg
    obtain ⟨h1, h2⟩ := h'
    refine ⟨?_, rfl⟩
    cases h1 with
    | f _ _ h1 =>
      cases h1
      have := RelC.clo (X := X) (S := S) d.1 [] [] (by simp [ptrs])
      simpa using this
  · have : encPEi l d = encPE l d := by
      unfold encPEi
      split
      · exact absurd rfl e
      · rfl
    rw [this]
    exact h.toE hg

theorem RelVs.toPLi {X : Cx S} : ∀ {ls : List (Lay S)} {d : DL ls} {vs : List Value}, ls.all goodL = true → RelVs X.w X.M ls d vs → RelPL X (encPVi ls d) vs
  | [], _, [], _, _ => .nil
  | l :: ls, d, v :: vs, hg, h => by
    simp only [List.all_cons, Bool.and_eq_true] at hg
    exact .cons (h.1.toEi hg.1) (RelVs.toPLi hg.2 h.2)
  | [], _, _ :: _, _, h => h.elim
  | _ :: _, _, [], _, h => h.elim

/-- What the machine computes, read as one wants it. -/
def runN {B : Type} {rs : List (Lay S)} (O : Orc S B) (fn : Func) (ps : List (Lay S)) (un : DL rs → B) (d : DL ps) : Option B :=
  funK O fn (encPVi ps d) [] 0 fun pes st => match decPL st.hp rs pes with
    | some r => some (un r)
    | none => none

theorem runN_ok [TabOk (S := S) P] {f : FuncId} {fn : Func} (hf : P.funcs[f]? = some fn) {ps rs : List (Lay S)} (hps : ps.all goodL = true) {B : Type} {O : Orc S B} (hO : OrcOk P O) (hL : ∀ c, fn.body = some c → LoopsOk P O 0 fn.ntmps c)
    {un : DL rs → B} {fl : B → DL rs} (hfl : ∀ d, fl (un d) = d) : CallsTo P f ps rs (fun d => (runN O fn ps un d).map fl) := by
  intro d res h w M vs hM hgl hr
  obtain ⟨x, h0, rfl⟩ := Option.map_eq_some_iff.1 h
  clear h
  have h := h0
  clear h0
  unfold runN funK at h
  cases hb : fn.body with
  | none => simp [hb] at h
  | some c =>
  simp only [hb] at h
  cases hle : Nat.ble (encPVi ps d).length fn.ntmps with
  | false => simp [hle] at h
  | true =>
  simp only [hle, Bool.not_true, cond_false] at h
  have hle := Nat.le_of_ble_eq_true hle
  obtain ⟨ex, st', h1, hf1, h2⟩ := execK_sound (s := 0) hO c h (fun b _ => rfl) (hL c hb)
  let X : Cx S := { g := fun _ => none, hp := fun _ => none, w := w, M0 := M }
  have hXM : ∀ r, X.M r → M r := fun r hr => hr.elim id (fun ⟨b, blk, n, h, _⟩ => by cases h)
  have hX : WF X := by
    refine ⟨?_, ?_, hM, ?_, fun x hx => ⟨(hgl x hx).1, fun h => (hgl x hx).2.1 (hXM _ h), (hgl x hx).2.2⟩⟩
    · intro b c h; cases h
    · intro b b' c c' r n n' h; cases h
    · intro b c r n h; cases h
  have hpl : RelPL X (encPVi ps d) vs := RelVs.toPLi (X := X) hps (hr.mono hXM)
  have hlen := hpl.len
  refine calls_of_wp hf hb (h2 X _ _ ⟨hX, ?_, rfl, fun t p hp => ?_, fun b => rfl, fun b _ => rfl⟩ (fun X' a' he hs => ?_))
  · simp; omega
  · obtain ⟨_, hget⟩ := lk_args0 _ 0 t p hp
    obtain ⟨v, hv, hrel⟩ := hpl.get t p (by simpa using hget)
    have : (vs.toArray ++ Array.replicate (fn.ntmps - vs.toArray.size) undef).getD t undef = v := by
      have ht : t < vs.length := by
        rcases Nat.lt_or_ge t vs.length with h | h
        · exact h
        · rw [List.getElem?_eq_none h] at hv; cases hv
      rw [Array.getD_eq_getD_getElem?, Array.getElem?_append_left (by simpa using ht)]
      simp [hv]
    rw [this]; exact hrel
  · have hfin : ∀ pes, resPEs st' fn.results.toList = some pes → (match decPL st'.hp rs pes with | some r => some (un r) | none => none) = some x → a'.defers = [] ∧ ∃ v, (results fn a'.tmps).run P X'.w = .ok v X'.w ∧
        ∃ us, Ending.returned v = .returned (retVal us) ∧ Chg (fun _ => False) w X'.w ∧ RelVs X'.w M rs (fl x) us := by
      intro pes hp hd
      split at hd <;> try (cases hd; done)
      rename_i r hd'
      obtain rfl := Option.some.inj hd
      rw [hfl]
      obtain ⟨us, e1, e2⟩ := run_results (P := P) hs hp
      refine ⟨hs.defers, _, e1, us, rfl, ?_, ?_⟩
      · have hc := he.chg
        exact ⟨hc.os, hc.tape, hc.output, hc.size, fun b hb _ => hc.block b hb (fun ⟨b', blk, n, h, _⟩ => by cases h)⟩
      · obtain ⟨x1, x2, x3, x4, x5⟩ := Ext.frs (livesL pes) X' hs.wf
        have hz := frz_livesL hs.wf (fun b _ => hs.hp b) e2 (fun b h => h)
        have hv := decPL_sound x2 hd' (x1.relEL e2) hz
        rw [x3] at hv
        exact hv.mono (fun r hr => .inl (by rw [x4, he.m0]; exact hr))
    cases ex with
    | normal =>
      simp only at h1
      split at h1 <;> try (simp at h1; done)
      rename_i pes hp
      exact hfin pes hp h1
    | ret =>
      simp only at h1
      split at h1 <;> try (simp at h1; done)
      rename_i pes hp
      exact hfin pes hp h1
    | _ => simp at h1

omit [Prog S] in
theorem CallsTo.congr {f : FuncId} {ps rs : List (Lay S)} {F G : DL ps → Option (DL rs)} (h : CallsTo P f ps rs F) (e : ∀ d, F d = G d) : CallsTo P f ps rs G := by
  have : F = G := funext e
  rw [← this]; exact h

/-- What is known of some data alone. -/
theorem CallsTo.at {f : FuncId} {ps rs : List (Lay S)} {F : DL ps → Option (DL rs)} (h : CallsTo P f ps rs F) (c : DL ps → Bool) {G : DL ps → Option (DL rs)} (e : ∀ d, c d = true → F d = G d) :
    CallsTo P f ps rs (fun d => bif c d then G d else none) := by
  intro d res hd
  cases hc : c d with
  | false => simp [hc] at hd
  | true =>
    simp only [hc, cond_true] at hd
    exact h d res (by rw [e d hc]; exact hd)

theorem CallsTo.or {f : FuncId} {ps rs : List (Lay S)} {F : DL ps → Option (DL rs)} {c : DL ps → Bool} {G : DL ps → Option (DL rs)} (h : CallsTo P f ps rs F) (k : CallsTo P f ps rs (fun d => bif c d then G d else none)) :
    CallsTo P f ps rs (fun d => bif c d then G d else F d) := by
  intro d res hd
  cases hc : c d with
  | false => simp only [hc, cond_false] at hd; exact h d res hd
  | true => simp only [hc, cond_true] at hd; exact k d res (by simp only [hc, cond_true]; exact hd)

theorem CallsTo.none {f : FuncId} {ps rs : List (Lay S)} : CallsTo P f ps rs (fun _ => none) := by
  intro d res hd; cases hd

/-- A call whose answer is read as one wants it. -/
def callOrcN {B : Type} (ps rs : List (Lay S)) (s : DL ps → Option B) (fl : B → DL rs) : CallOrc S R := fun args st K =>
  match pesOf args with
  | none => none
  | some pes => match decPL st.hp ps pes with
    | none => none
    | some d => bif rs.all goodL then (match s d with
      | none => none
      | some res => bif flatL rs then K ⟨resPV rs (fl res), livesL pes, [], st.hp, st.nx⟩ else K ⟨resPV rs (fl res), livesL pes, livesL pes, frz st.hp (livesL pes), st.nx⟩) else none

theorem callOrcN_ok {B : Type} {f : FuncId} {ps rs : List (Lay S)} {s : DL ps → Option B} {fl : B → DL rs} (h : CallsTo P f ps rs (fun d => (s d).map fl)) : CallOk P f (callOrcN (R := R) ps rs s fl) := by
  have : callOrcN (R := R) ps rs s fl = callOrc ps rs (fun d => (s d).map fl) := by
    funext args st K
    unfold callOrcN callOrc
    cases pesOf args with
    | none => rfl
    | some pes =>
      simp only
      cases decPL st.hp ps pes with
      | none => rfl
      | some d => simp only; cases s d <;> rfl
  rw [this]
  exact callOrc_ok h

theorem orcN_cons {B : Type} {l : List (Nat × CallOrc S R)} {ls : List (Nat × LoopOrc S R)} (h : OrcOk P (⟨l, ls⟩ : Orc S R)) {f : FuncId} (hb : Bodied P f) {ps rs : List (Lay S)} {s : DL ps → Option B} {fl : B → DL rs} (hF : CallsTo P f ps rs (fun d => (s d).map fl)) :
    OrcOk P (⟨(f, callOrcN ps rs s fl) :: l, ls⟩ : Orc S R) := by
  refine ⟨fun f' g hg => ?_⟩
  simp only [lk_cons] at hg
  by_cases e : f' = f
  · subst e
    rw [if_pos rfl] at hg
    obtain rfl := Option.some.inj hg
    exact ⟨hb, callOrcN_ok hF⟩
  · rw [if_neg e] at hg
    exact h.call f' g hg

/-! ### Loops -/

/-- An exit, and the type that its data are read as. -/
structure NX (S : Sig) where
  e : Ex
  H : Sch S
  T : Type
  fl : T → H.Dat
  un : H.Dat → T
  ok : ∀ d, fl (un d) = d

def OutN : List (NX S) → Type
  | [] => Empty
  | [x] => x.T
  | x :: y :: xs => x.T ⊕ OutN (y :: xs)

def outOfN (s : Nat) : (xs : List (NX S)) → Exit → St S → Option (OutN xs)
  | [], _, _ => none
  | [x], ex, st => bif x.e.is ex then (match x.H.dec s st with | some d => some (x.un d) | none => none) else none
  | x :: y :: xs, ex, st => bif x.e.is ex then (match x.H.dec s st with | some d => some (.inl (x.un d)) | none => none) else (match outOfN s (y :: xs) ex st with | some o => some (.inr o) | none => none)

def outKN : (xs : List (NX S)) → OutN xs → (Exit → St S → Option R) → Option R
  | [], o, _ => nomatch o
  | [x], o, K => K x.e.to (x.H.mk' (x.fl o))
  | x :: y :: xs, o, K => match o with
    | .inl d => K x.e.to (x.H.mk' (x.fl d))
    | .inr o => outKN (y :: xs) o K

/-- One round of a loop. -/
def stepN {A : Type} (s : Nat) (H : Sch S) (un : H.Dat → A) (xs : List (NX S)) (O : Orc S (A ⊕ OutN xs)) (n : Nat) (b : Code) (d : H.Dat) : Option (A ⊕ OutN xs) :=
  execK O n b (H.mk' d) fun ex st => match ex with
    | .normal => (match H.dec s st with | some d' => some (.inl (un d')) | none => none)
    | ex => match outOfN s xs ex st with | some o => some (.inr o) | none => none

/-- Rounds, at most so many. -/
def iterN {A B : Type} (step : A → Option (A ⊕ B)) : Nat → A → Option B
  | 0, _ => none
  | m + 1, a => match step a with
    | none => none
    | some (.inl a') => iterN step m a'
    | some (.inr b) => some b

def loopOrcN {A : Type} (s : Nat) (H : Sch S) (un : H.Dat → A) (xs : List (NX S)) (L : A → Option (OutN xs)) : LoopOrc S R := fun st K =>
  match H.dec s st with
  | some d => match L (un d) with
    | some o => outKN xs o K
    | none => none
  | none => none

def outStN : (xs : List (NX S)) → OutN xs → Exit × St S
  | [], o => nomatch o
  | [x], o => (x.e.to, x.H.mk' (x.fl o))
  | x :: y :: xs, o => match o with
    | .inl d => (x.e.to, x.H.mk' (x.fl d))
    | .inr o => outStN (y :: xs) o

theorem outKN_eq : ∀ (xs : List (NX S)) (o : OutN xs) (K : Exit → St S → Option R), outKN xs o K = K (outStN xs o).1 (outStN xs o).2
  | [], o, _ => nomatch o
  | [x], o, K => rfl
  | x :: y :: xs, .inl d, K => rfl
  | x :: y :: xs, .inr o, K => outKN_eq (y :: xs) o K

theorem outStN_fresh : ∀ (xs : List (NX S)) (o : OutN xs), Fresh (outStN xs o).2
  | [], o => nomatch o
  | [x], o => mk_fresh x.H _
  | x :: y :: xs, .inl d => mk_fresh x.H _
  | x :: y :: xs, .inr o => outStN_fresh (y :: xs) o

theorem NX.hit {x : NX S} {ex : Exit} (hi : x.e.is ex = true) : ex ≠ .normal ∧ x.e.to = ex := by
  cases x' : x.e <;> cases ex <;> simp [x', Ex.is, Ex.to] at hi ⊢
  exact hi

/-- An exit of a form. -/
theorem outOfN_sound {s n : Nat} {X : Cx S} {a : Act} {st : St S} (hs : Sim n X a st) {ex : Exit} : ∀ {xs : List (NX S)} {o : OutN xs}, outOfN s xs ex st = some o →
    ex ≠ .normal ∧ (outStN xs o).1 = ex ∧ ∃ X', ExtV s X X' ∧ X'.w = X.w ∧ Sim n X' a (outStN xs o).2
  | [], o, h => by simp [outOfN] at h
  | [x], o, h => by
    simp only [outOfN] at h
    cases hi : x.e.is ex with
    | false => simp [hi] at h
    | true =>
      simp only [hi, cond_true] at h
      split at h <;> try (simp at h; done)
      rename_i d hd
      obtain rfl := Option.some.inj h
      obtain ⟨X', h1, h2, h3⟩ := dec_sim (s := s) hs hd
      have he := NX.hit hi
      refine ⟨he.1, he.2, X', h1, h2, ?_⟩
      show Sim n X' a (x.H.mk' (x.fl (x.un d)))
      rw [x.ok]; exact h3
  | x :: y :: xs, o, h => by
    simp only [outOfN] at h
    cases hi : x.e.is ex with
    | true =>
      simp only [hi, cond_true] at h
      split at h <;> try (simp at h; done)
      rename_i d hd
      obtain rfl := Option.some.inj h
      obtain ⟨X', h1, h2, h3⟩ := dec_sim (s := s) hs hd
      have he := NX.hit hi
      refine ⟨he.1, he.2, X', h1, h2, ?_⟩
      show Sim n X' a (x.H.mk' (x.fl (x.un d)))
      rw [x.ok]; exact h3
    | false =>
      simp only [hi, cond_false] at h
      split at h <;> try (simp at h; done)
      rename_i o' ho
      obtain rfl := Option.some.inj h
      have ih := outOfN_sound hs (xs := y :: xs) (o := o') ho
      exact ih

/-- What the rounds compute, the loop does. -/
theorem loopN_ok [TabOk (S := S) P] {A : Type} {s : Nat} {H : Sch S} {un : H.Dat → A} {xs : List (NX S)} {O : Orc S (A ⊕ OutN xs)} (hO : OrcOk P O) {n : Nat} {b : Code} (hL : LoopsOk P O s n b)
    {step : A → Option (A ⊕ OutN xs)} (hstep : ∀ d, stepN s H un xs O n b d = step (un d)) (m : Nat) :
    LoopOk P s n b (loopOrcN (R := R) s H un xs (iterN step m)) := by
  intro st K r h hf
  unfold loopOrcN at h
  split at h <;> try (simp at h; done)
  rename_i d hd
  split at h <;> try (simp at h; done)
  rename_i o ho
  rw [outKN_eq] at h
  refine ⟨_, _, h, outStN_fresh xs o, fun X a Q hs hq => ?_⟩
  let J : Nat → Act → World → Prop := fun m a w => ∃ d X', iterN step m (un d) = some o ∧ ExtV s X X' ∧ Sim n X' a (H.mk' d) ∧ X'.w = w
  obtain ⟨X1, e1, e2, e3⟩ := dec_sim (s := s) hs hd
  refine wp_loop_n J (fun m a w hJ => ?_) m a X.w ⟨d, X1, ho, e1, e3, e2⟩
  obtain ⟨d, X', h1, h2, h3, rfl⟩ := hJ
  cases m with
  | zero => simp [iterN] at h1
  | succ m =>
    simp only [iterN] at h1
    cases hst : step (un d) with
    | none => simp [hst] at h1
    | some y =>
    rw [hst] at h1
    have hst' := hst
    rw [← hstep] at hst'
    unfold stepN at hst'
    obtain ⟨ex, st1, g1, g2, g3⟩ := execK_sound (s := s) hO b hst' (mk_fresh H d) hL
    refine g3 X' a _ h3 (fun X2 a2 c1 c2 => ?_)
    by_cases hex : ex = .normal
    · subst hex
      simp only at g1
      split at g1 <;> try (cases g1; done)
      rename_i d' hd'
      obtain rfl := Option.some.inj g1
      simp only at h1
      obtain ⟨X3, j1, j2, j3⟩ := dec_sim (s := s) c2 hd'
      exact ⟨m, Nat.lt_succ_self _, d', X3, h1, (h2.trans c1 h3.wf).trans j1 c2.wf, j3, j2⟩
    · have g4 : ∃ o', outOfN s xs ex st1 = some o' ∧ y = .inr o' := by
        cases ex <;> first | exact absurd rfl hex | (simp only at g1; split at g1 <;> first | (cases g1; done) | (rename_i o' ho'; exact ⟨o', ho', (Option.some.inj g1).symm⟩))
      obtain ⟨o', g5, rfl⟩ := g4
      simp only [Option.some.injEq] at h1
      subst h1
      obtain ⟨q1, q2, X3, j1, j2, j3⟩ := outOfN_sound (s := s) c2 g5
      have hfin := hq X3 a2 ((h2.trans c1 h3.wf).trans j1 c2.wf) j3
      rw [j2, q2] at hfin
      cases ex <;> first | exact absurd rfl hex | exact hfin

end Vm
end

section
namespace Vm
open Go Prog
variable {S : Sig} [Prog S] {P : Program}

/-- '==' of two cells of a shape: whole numbers, truth values, strings, arrays of bytes. -/
def eq1S : Sh S.K → Cell S → Cell S → Option Bool
  | .int k, .f (.int k1 a), .f (.int k2 b) => if k1 = k then (if k2 = k then some (a == b) else none) else none
  | .bool, .f (.bool a), .f (.bool b) => some (a == b)
  | .str, .f (.str a), .f (.str b) => some (a == b)
  | .arr k n, .f (.arr k1 n1 L), .f (.arr k2 n2 M) =>
    if k = (byte : S.K) then (if h1 : k1 = (byte : S.K) then (if h2 : k2 = (byte : S.K) then (bif Nat.beq n1 n && Nat.beq n2 n then some ((((h1 ▸ L : List (S.Ty (byte : S.K))).map toB) == ((h2 ▸ M : List (S.Ty (byte : S.K))).map toB))) else none) else none) else none) else none
  | _, _, _ => none

def eqA : List (Sh S.K) → EqF S
  | [], [], [] => some true
  | s :: ss, x :: xs, y :: ys => match eq1S s x y with
    | some p => match eqA ss xs ys with
      | some r => some (p && r)
      | none => none
    | none => none
  | _, _, _ => none

def eqS : List (Sh S.K) → EqF S
  | [], [], [] => some true
  | [s], [x], [y] => eq1S s x y
  | s :: s2 :: ss, x :: xs, y :: ys => match eq1S s x y with
    | some p => match eqS (s2 :: ss) xs ys with
      | some r => some (p && r)
      | none => none
    | none => none
  | _, _, _ => none

theorem eqS_eqA : ∀ (ss : List (Sh S.K)) (xs ys : List (Cell S)) (b : Bool), eqS ss xs ys = some b → eqA ss xs ys = some b
  | [], [], [], b, h => h
  | [s], [x], [y], b, h => by
    simp only [eqS] at h
    simp [eqA, h]
  | s :: s2 :: ss, x :: xs, y :: ys, b, h => by
    simp only [eqS] at h
    split at h <;> try (cases h; done)
    rename_i p hp
    split at h <;> try (cases h; done)
    rename_i r hr
    rw [eqA, hp]
    simp only [eqS_eqA (s2 :: ss) xs ys r hr]
    exact h
  | [], [], _ :: _, b, h => by cases h
  | [], _ :: _, _, b, h => by cases h
  | [_], [], _, b, h => by cases h
  | [_], [_], [], b, h => by cases h
  | [_], [_], _ :: _ :: _, b, h => by cases h
  | [_], _ :: _ :: _, [], b, h => by cases h
  | [_], _ :: _ :: _, _ :: _, b, h => by cases h
  | _ :: _ :: _, [], _, b, h => by cases h
  | _ :: _ :: _, _ :: _, [], b, h => by cases h

theorem eqA_append : ∀ (s1 s2 : List (Sh S.K)) (xs ys : List (Cell S)) (b : Bool), eqA (s1 ++ s2) xs ys = some b →
    ∃ x1 x2 y1 y2 b1 b2, xs = x1 ++ x2 ∧ ys = y1 ++ y2 ∧ eqA s1 x1 y1 = some b1 ∧ eqA s2 x2 y2 = some b2 ∧ b = (b1 && b2)
  | [], s2, xs, ys, b, h => ⟨[], xs, [], ys, true, b, rfl, rfl, rfl, h, by simp⟩
  | s :: s1, s2, [], ys, b, h => by simp [eqA] at h
  | s :: s1, s2, x :: xs, [], b, h => by simp [eqA] at h
  | s :: s1, s2, x :: xs, y :: ys, b, h => by
    simp only [List.cons_append, eqA] at h
    split at h <;> try (cases h; done)
    rename_i p hp
    split at h <;> try (cases h; done)
    rename_i r hr
    obtain rfl := Option.some.inj h
    obtain ⟨x1, x2, y1, y2, b1, b2, rfl, rfl, e1, e2, rfl⟩ := eqA_append s1 s2 xs ys r hr
    exact ⟨x :: x1, x2, y :: y1, y2, p && b1, b2, rfl, rfl, by simp [eqA, hp, e1], e2, by rw [Bool.and_assoc]⟩

def shW : List (Sh S.K) → Nat
  | [] => 0
  | s :: ss => s.width S.es + shW ss

theorem shW_append : ∀ (a b : List (Sh S.K)), shW (a ++ b) = shW a + shW b
  | [], b => by simp [shW]
  | s :: a, b => by simp [shW, shW_append a b, Nat.add_assoc]

theorem eq1S_width {s : Sh S.K} {x y : Cell S} {b : Bool} (h : eq1S s x y = some b) : x.width = s.width S.es ∧ y.width = s.width S.es := by
  unfold eq1S at h
  split at h
  · exact ⟨rfl, rfl⟩
  · exact ⟨rfl, rfl⟩
  · exact ⟨rfl, rfl⟩
  · split at h <;> try (cases h; done)
    rename_i hk
    split at h <;> try (cases h; done)
    rename_i h1
    split at h <;> try (cases h; done)
    rename_i h2
    rename_i k n k1 n1 L k2 n2 M
    cases hb : (Nat.beq n1 n && Nat.beq n2 n) with
    | false => rw [hb] at h; cases h
    | true =>
      simp only [Bool.and_eq_true] at hb
      have e1 := Nat.eq_of_beq_eq_true hb.1
      have e2 := Nat.eq_of_beq_eq_true hb.2
      subst e1; subst e2; subst hk; subst h1; subst h2
      exact ⟨rfl, rfl⟩
  · cases h

theorem eqA_width : ∀ {s : List (Sh S.K)} {xs ys : List (Cell S)} {b : Bool}, eqA s xs ys = some b → widthsC xs = shW s ∧ widthsC ys = shW s
  | [], [], [], b, h => ⟨rfl, rfl⟩
  | s :: ss, x :: xs, y :: ys, b, h => by
    simp only [eqA] at h
    split at h <;> try (cases h; done)
    rename_i p hp
    split at h <;> try (cases h; done)
    rename_i r hr
    obtain ⟨a1, a2⟩ := eq1S_width hp
    obtain ⟨c1, c2⟩ := eqA_width hr
    simp only [widthsC, shW]
    omega
  | [], [], _ :: _, b, h => by cases h
  | [], _ :: _, _, b, h => by cases h
  | _ :: _, [], _, b, h => by cases h
  | _ :: _, _ :: _, [], b, h => by cases h

def isAggD : TypeDesc → Bool
  | .struct _ => true
  | .array _ _ => true
  | _ => false

def isAggT (P : Program) (t : TypeId) : Bool := match P.underlying t with
  | some d => isAggD d
  | none => false

/-- The fields' shapes, one behind the other. -/
def eqFlds (P : Program) (rec : TypeId → List (Sh S.K) → Option (List (Sh S.K))) : List Field → Nat → List (Sh S.K) → Option (List (Sh S.K))
  | [], _, shs => some shs
  | f :: fs, off, shs => bif !(f.name == "_") && Nat.beq f.offset off then (match rec f.type shs with
    | some r => bif Nat.ble r.length shs.length && (match P.info? f.type with | some i => Nat.beq i.size (shW (shs.take (shs.length - r.length))) | none => false) then eqFlds P rec fs (off + shW (shs.take (shs.length - r.length))) r else none
    | none => none) else none

/-- One step of the shapes of a type that '==' may be asked of: what is left of a list of shapes behind it. -/
def eqTy1 (P : Program) (d : Nat) (rec : TypeId → List (Sh S.K) → Option (List (Sh S.K))) (t : TypeId) (shs : List (Sh S.K)) : Option (List (Sh S.K)) :=
  match P.underlying t with
    | some (.int k) => (match shs with
      | .int k' :: r => if k' = k then some r else none
      | _ => none)
    | some .bool => (match shs with
      | .bool :: r => some r
      | _ => none)
    | some .string => (match shs with
      | .str :: r => some r
      | _ => none)
    | some (.array n e) => (match shs with
      | .arr k n' :: r => if k = (byte : S.K) then (bif Nat.beq n' n && Nat.beq (P.cellsOf e) 1 && (P.info? e).isSome && isU8 (P.underlying e) && Nat.blt 0 d then some r else none) else none
      | _ => none)
    | some (.struct fs) => bif P.stoodInHeld t then none else eqFlds P rec fs.toList 0 shs
    | _ => none

def eqTy (P : Program) : Nat → TypeId → List (Sh S.K) → Option (List (Sh S.K))
  | 0 => fun _ _ => none
  | d + 1 => eqTy1 P d (eqTy P d)

/-- What '==' answers at a type, by its cells. -/
def EqAtT (P : Program) (d : Nat) (t : TypeId) (s : List (Sh S.K)) : Prop :=
  ∀ (X : Cx S) (xs ys : List (Cell S)) (b : Bool) (us vs : List Value) (w : World), eqA s xs ys = some b → RelCs X xs us → RelCs X ys vs →
    (Op.equalIn d t (valOf (isAggT P t) us) (valOf (isAggT P t) vs)).run P w = .ok b w

theorem valOf_one (v : Value) : valOf false [v] = v := rfl

theorem part_agg {e : TypeId} (hagg : isAggT P e = true) {i : TypeInfo} (hi : P.info? e = some i) (xs : Array Value) (off : Nat) (w : World) : (part e xs off).run P w = .ok (.agg (xs.extract off (off + i.size))) w := by
  unfold isAggT at hagg
  cases hu : P.underlying e with
  | none => simp [hu] at hagg
  | some kd =>
    rw [hu] at hagg
    have : P.cellsOf e = i.size := by simp [Program.cellsOf, hi]
    cases kd <;> simp [isAggD] at hagg
    · simp [part, isAgg, run_underlying hu, run_sizeOf w hi, this]
    · simp [part, isAgg, run_underlying hu, run_sizeOf w hi, this]

theorem part_plain {e : TypeId} {d : TypeDesc} (hu : P.underlying e = some d) (hd : plainD d = true) (xs : Array Value) (off : Nat) (v : Value) (hv : xs[off]? = some v) (w : World) : (part e xs off).run P w = .ok v w := by
  unfold part
  simp only [Sem.run_bind, run_isAgg' hu, hd, Result.andThen_ok]
  simp [hv]

theorem RelCs.splitW {X : Cx S} : ∀ {c1 c2 : List (Cell S)} {us : List Value}, RelCs X (c1 ++ c2) us → ∃ u1 u2, us = u1 ++ u2 ∧ RelCs X c1 u1 ∧ RelCs X c2 u2
  | [], c2, us, h => ⟨[], us, rfl, .nil, h⟩
  | c :: c1, c2, us, h => by
    cases h with
    | cons _ _ us' vs' a b d =>
      obtain ⟨u1, u2, rfl, e1, e2⟩ := RelCs.splitW (c1 := c1) d
      exact ⟨us' ++ u1, u2, by simp, .cons _ _ _ _ a b e1, e2⟩

theorem RelEs.bytes (hB : ∀ x : S.Ty (byte : S.K), enc (byte : S.K) x = [.int .u8 (toB x)]) {w : World} {M : Nat → Prop} : ∀ {L : List (S.Ty (byte : S.K))} {us : List Value}, RelEs w M (byte : S.K) L us → us = L.map fun x => Value.int .u8 (toB x)
  | [], us, h => by
    cases h; rfl
  | x :: L, us, h => by
    cases h with
    | cons k x L us vs h1 h2 h3 =>
      have ih := RelEs.bytes hB h3
      rw [hB x] at h2
      cases h2 with
      | cons c cs u1 u2 a b c' =>
        cases c'
        cases b
        simp [ih]

theorem eqA_one {s : Sh S.K} {xs ys : List (Cell S)} {b : Bool} (h : eqA [s] xs ys = some b) : ∃ x y, xs = [x] ∧ ys = [y] ∧ eq1S s x y = some b := by
  match xs, ys, h with
  | [x], [y], he =>
    simp only [eqA] at he
    split at he <;> try (cases he; done)
    rename_i p hp
    simp only [Bool.and_true, Option.some.injEq] at he
    subst he
    exact ⟨x, y, rfl, rfl, hp⟩
  | [], _, he => simp [eqA] at he
  | [_], [], he => simp [eqA] at he
  | [_], _ :: _ :: _, he => simp [eqA] at he; split at he <;> simp at he
  | _ :: _ :: _, [], he => simp [eqA] at he
  | _ :: _ :: _, [_], he => simp [eqA] at he; split at he <;> simp at he
  | _ :: _ :: _, _ :: _ :: _, he => simp [eqA] at he; split at he <;> simp at he

theorem eq1_int {X : Cx S} {k : IntKind} {x y : Cell S} {b : Bool} {us vs : List Value} (h : eq1S (.int k) x y = some b) (hx : RelC X x us) (hy : RelC X y vs) : ∃ m n, us = [.int k m] ∧ vs = [.int k n] ∧ b = (m == n) := by
  cases hx with
  | f c us hx =>
    cases hy with
    | f d vs hy =>
      cases hx with
      | int k1 m =>
        cases hy with
        | int k2 n =>
          simp only [eq1S] at h
          split at h <;> try (cases h; done)
          split at h <;> try (cases h; done)
          rename_i e1 e2
          subst e1; subst e2
          exact ⟨m, n, rfl, rfl, (Option.some.inj h).symm⟩
        | _ => simp [eq1S] at h
      | _ => simp [eq1S] at h
    | _ => cases hx <;> simp [eq1S] at h
  | _ => cases hy <;> simp [eq1S] at h

theorem eq1_bool {X : Cx S} {x y : Cell S} {b : Bool} {us vs : List Value} (h : eq1S .bool x y = some b) (hx : RelC X x us) (hy : RelC X y vs) : ∃ m n, us = [.bool m] ∧ vs = [.bool n] ∧ b = (m == n) := by
  cases hx with
  | f c us hx =>
    cases hy with
    | f d vs hy =>
      cases hx with
      | bool m =>
        cases hy with
        | bool n =>
          simp only [eq1S] at h
          exact ⟨m, n, rfl, rfl, (Option.some.inj h).symm⟩
        | _ => simp [eq1S] at h
      | _ => simp [eq1S] at h
    | _ => cases hx <;> simp [eq1S] at h
  | _ => cases hy <;> simp [eq1S] at h

theorem eq1_str {X : Cx S} {x y : Cell S} {b : Bool} {us vs : List Value} (h : eq1S .str x y = some b) (hx : RelC X x us) (hy : RelC X y vs) : ∃ m n : List UInt8, us = [.string ⟨m.toArray⟩] ∧ vs = [.string ⟨n.toArray⟩] ∧ b = (m == n) := by
  cases hx with
  | f c us hx =>
    cases hy with
    | f d vs hy =>
      cases hx with
      | str m =>
        cases hy with
        | str n =>
          simp only [eq1S] at h
          exact ⟨m, n, rfl, rfl, (Option.some.inj h).symm⟩
        | _ => simp [eq1S] at h
      | _ => simp [eq1S] at h
    | _ => cases hx <;> simp [eq1S] at h
  | _ => cases hy <;> simp [eq1S] at h

theorem eq1_agg (hB : ∀ x : S.Ty (byte : S.K), enc (byte : S.K) x = [.int .u8 (toB x)]) {X : Cx S} {k : S.K} {n : Nat} {x y : Cell S} {b : Bool} {us vs : List Value} (h : eq1S (.arr k n) x y = some b) (hx : RelC X x us) (hy : RelC X y vs) :
    ∃ p q : List Int, us = p.map (fun a => Value.int .u8 a) ∧ vs = q.map (fun a => Value.int .u8 a) ∧ p.length = n ∧ q.length = n ∧ b = (p == q) := by
  cases hx with
  | f c us hx =>
    cases hy with
    | f d vs hy =>
      cases hx with
      | arr k1 n1 L us l1 r1 =>
        cases hy with
        | arr k2 n2 M vs l2 r2 =>
          simp only [eq1S] at h
          split at h <;> try (cases h; done)
          rename_i hk
          split at h <;> try (cases h; done)
          rename_i h1
          split at h <;> try (cases h; done)
          rename_i h2
          subst h1; subst h2
          cases hb : (Nat.beq n1 n && Nat.beq n2 n) with
          | false => rw [hb] at h; cases h
          | true =>
            rw [hb] at h
            simp only [Bool.and_eq_true] at hb
            have e1 := Nat.eq_of_beq_eq_true hb.1
            have e2 := Nat.eq_of_beq_eq_true hb.2
            simp only [cond_true, Option.some.injEq] at h
            refine ⟨L.map toB, M.map toB, ?_, ?_, by simp [l1, e1], by simp [l2, e2], h.symm⟩
            · rw [RelEs.bytes hB r1]; simp
            · rw [RelEs.bytes hB r2]; simp
        | _ => simp [eq1S] at h
      | _ => simp [eq1S] at h
    | _ => cases hx <;> simp [eq1S] at h
  | _ => cases hy <;> simp [eq1S] at h

theorem run_eqItems_bytes {e : TypeId} (he : P.underlying e = some (.int .u8)) (d : Nat) (p q : List Int) (w : World) : ∀ (m j : Nat), j + m ≤ p.length → j + m ≤ q.length →
    (Op.eqItems (d + 1) e 1 (p.map fun a => Value.int .u8 a).toArray (q.map fun a => Value.int .u8 a).toArray (List.range' j m)).run P w = .ok ((p.drop j).take m == (q.drop j).take m) w
  | 0, j, _, _ => by simp [Op.eqItems]
  | m + 1, j, h1, h2 => by
    have ih := run_eqItems_bytes he d p q w m (j + 1) (by omega) (by omega)
    have a1 : p[j]? = some p[j] := List.getElem?_eq_getElem (by omega)
    have a2 : q[j]? = some q[j] := List.getElem?_eq_getElem (by omega)
    have b1 := part_plain (P := P) he rfl (p.map fun a => Value.int .u8 a).toArray j (.int .u8 p[j]) (by simp [a1]) w
    have b2 := part_plain (P := P) he rfl (q.map fun a => Value.int .u8 a).toArray j (.int .u8 q[j]) (by simp [a2]) w
    have c1 : (p.drop j).take (m + 1) = p[j] :: (p.drop (j + 1)).take m := by
      rw [List.drop_eq_getElem_cons (by omega), List.take_succ_cons]
    have c2 : (q.drop j).take (m + 1) = q[j] :: (q.drop (j + 1)).take m := by
      rw [List.drop_eq_getElem_cons (by omega), List.take_succ_cons]
    simp only [List.range'_succ, Op.eqItems, Nat.mul_one, Sem.run_bind, b1, b2, Result.andThen_ok, run_equalIn_int w d e .u8 .u8 p[j] q[j] he]
    rw [c1, c2]
    show _ = Result.ok ((p[j] == q[j]) && _) w
    cases hpq : (p[j] == q[j]) with
    | true => simp only [Bool.not_true, Bool.false_eq_true, if_false, Bool.true_and]; exact ih
    | false => simp

theorem take1 {s1 r : List (Sh S.K)} {z : Sh S.K} (h : s1 ++ r = z :: r) : s1 = [z] := by
  have hl := congrArg List.length h
  simp only [List.length_append, List.length_cons] at hl
  match s1, hl, h with
  | [], hl, _ => simp at hl
  | [y], _, h => simp only [List.cons_append, List.nil_append, List.cons.injEq, and_true] at h; rw [h]
  | _ :: _ :: _, hl, _ => simp only [List.length_cons] at hl; omega

theorem eqTy_one {d : Nat} {t : TypeId} {s1 r : List (Sh S.K)} (h : eqTy P d t (s1 ++ r) = some r) (hag : isAggT P t = false) : shW s1 = 1 := by
  cases d with
  | zero => simp [eqTy] at h
  | succ d =>
    unfold isAggT at hag
    generalize he : s1 ++ r = e at h
    unfold eqTy eqTy1 at h
    cases hu : P.underlying t with
    | none => simp [hu] at h
    | some kd =>
      rw [hu] at hag h
      cases kd <;> first | (cases hag; done) | (cases h; done) | skip
      all_goals
        dsimp only at h
        split at h <;> try (cases h; done)
        try (split at h <;> try (cases h; done))
        obtain rfl := Option.some.inj h
        rw [take1 he]
        rfl

theorem part_pa {d : Nat} {e : TypeId} {s1 r : List (Sh S.K)} (h : eqTy P d e (s1 ++ r) = some r) {i : TypeInfo} (hi : P.info? e = some i) (hsz : i.size = shW s1) {off fo : Nat} (ho : fo = off)
    (z1 z2 : List Value) (az : Array Value) (hl : z1.length = shW s1) (hz : ∀ i v, (z1 ++ z2)[i]? = some v → az[off + i]? = some v) (h1 : isAggT P e = false → z1.length = 1) (w : World) :
    (part e az fo).run P w = .ok (valOf (isAggT P e) z1) w := by
  subst ho
  cases hag : isAggT P e with
  | true =>
    rw [part_agg hag hi, hsz]
    have : az.extract fo (fo + shW s1) = z1.toArray := by
      apply Array.ext'
      rw [Array.toList_extract]
      simp only [List.extract]
      apply List.ext_getElem?
      intro j
      rw [List.getElem?_take]
      split
      · rename_i hj
        have hj' : j < z1.length := by omega
        rw [List.getElem?_drop]
        have g : z1[j]? = some z1[j] := List.getElem?_eq_getElem hj'
        have g2 := hz j z1[j] (by rw [List.getElem?_append_left hj']; exact g)
        rw [Array.getElem?_toList, g2]
        exact g.symm
      · rename_i hj
        exact (List.getElem?_eq_none (by omega)).symm
    rw [this]; rfl
  | false =>
    have h1 := h1 hag
    match z1, h1 with
    | [v], _ =>
      obtain ⟨du, hdu⟩ : ∃ du, P.underlying e = some du := by
        cases d with
        | zero => simp [eqTy] at h
        | succ d =>
          cases hx : P.underlying e with
          | none => unfold eqTy eqTy1 at h; rw [hx] at h; cases h
          | some du => exact ⟨du, rfl⟩
      have hpl : plainD du = true := by
        unfold isAggT at hag
        rw [hdu] at hag
        cases du <;> simp_all [isAggD, plainD]
      exact part_plain hdu hpl az fo v (by simpa using hz 0 v rfl) w

theorem eqTy_sound (hB : ∀ x : S.Ty (byte : S.K), enc (byte : S.K) x = [.int .u8 (toB x)]) : ∀ (d : Nat) (t : TypeId) (shs r : List (Sh S.K)), eqTy P d t shs = some r → ∃ s1, shs = s1 ++ r ∧ ∀ dd, EqAtT P (dd + d) t s1
  | 0, t, shs, r, h => by simp [eqTy] at h
  | d + 1, t, shs, r, h => by
    unfold eqTy eqTy1 at h
    split at h
    · rename_i k hu
      split at h <;> try (cases h; done)
      rename_i k' r'
      split at h <;> try (cases h; done)
      rename_i hk; subst hk
      obtain rfl := Option.some.inj h
      refine ⟨[.int k'], rfl, fun dd X xs ys b us vs w he hx hy => ?_⟩
      have hag : isAggT P t = false := by simp [isAggT, hu, isAggD]
      rw [hag]
      obtain ⟨x, y, rfl, rfl, he1⟩ := eqA_one he
      obtain ⟨m, n, rfl, rfl, rfl⟩ := eq1_int he1 hx.one1 hy.one1
      exact run_equalIn_int w (dd + d) t _ _ m n hu
    · rename_i hu
      split at h <;> try (cases h; done)
      rename_i r'
      obtain rfl := Option.some.inj h
      refine ⟨[.bool], rfl, fun dd X xs ys b us vs w he hx hy => ?_⟩
      have hag : isAggT P t = false := by simp [isAggT, hu, isAggD]
      rw [hag]
      obtain ⟨x, y, rfl, rfl, he1⟩ := eqA_one he
      obtain ⟨m, n, rfl, rfl, rfl⟩ := eq1_bool he1 hx.one1 hy.one1
      exact run_equalIn_bool w (dd + d) t m n hu
    · rename_i hu
      split at h <;> try (cases h; done)
      rename_i r'
      obtain rfl := Option.some.inj h
      refine ⟨[.str], rfl, fun dd X xs ys b us vs w he hx hy => ?_⟩
      have hag : isAggT P t = false := by simp [isAggT, hu, isAggD]
      rw [hag]
      obtain ⟨x, y, rfl, rfl, he1⟩ := eqA_one he
      obtain ⟨m, n, rfl, rfl, rfl⟩ := eq1_str he1 hx.one1 hy.one1
      show (Op.equalIn (dd + d + 1) t (Value.string ⟨m.toArray⟩) (Value.string ⟨n.toArray⟩)).run P w = _
      rw [run_equalIn_string w (dd + d) t _ _ hu, ByteArray.toList_eq, ByteArray.toList_eq]
    · rename_i n e hu
      split at h <;> try (cases h; done)
      rename_i k n' r'
      split at h <;> try (cases h; done)
      rename_i hk
      cases hc : (Nat.beq n' n && Nat.beq (P.cellsOf e) 1 && (P.info? e).isSome && isU8 (P.underlying e) && Nat.blt 0 d) with
      | false => rw [hc] at h; cases h
      | true =>
      rw [hc] at h
      simp only [cond_true, Option.some.injEq] at h
      subst h
      simp only [Bool.and_eq_true] at hc
      obtain ⟨⟨⟨⟨hn, hce⟩, hie⟩, hu8⟩, hd⟩ := hc
      have hn := Nat.eq_of_beq_eq_true hn
      subst hn
      have hce := Nat.eq_of_beq_eq_true hce
      obtain ⟨ie, hie⟩ := Option.isSome_iff_exists.1 hie
      have hu8 : P.underlying e = some (.int .u8) := by
        unfold isU8 at hu8
        split at hu8
        · assumption
        · cases hu8
      have hd : 0 < d := Nat.le_of_ble_eq_true hd
      refine ⟨[.arr k n'], rfl, fun dd X xs ys b us vs w he hx hy => ?_⟩
      have hag : isAggT P t = true := by simp [isAggT, hu, isAggD]
      rw [hag]
      obtain ⟨x, y, rfl, rfl, he1⟩ := eqA_one he
      obtain ⟨p1, q1, rfl, rfl, l1, l2, rfl⟩ := eq1_agg hB he1 hx.one1 hy.one1
      show (Op.equalIn (dd + d + 1) t (.agg _) (.agg _)).run P w = _
      rw [run_equalIn_array w (dd + d) _ _ hu hie, hce]
      obtain ⟨d', rfl⟩ : ∃ d', d = d' + 1 := ⟨d - 1, by omega⟩
      have := run_eqItems_bytes (P := P) hu8 (dd + d') p1 q1 w n' 0 (by omega) (by omega)
      rw [List.range_eq_range']
      rw [show dd + (d' + 1) = dd + d' + 1 by omega, this]
      simp only [List.drop_zero, List.take_of_length_le (Nat.le_of_eq l1), List.take_of_length_le (Nat.le_of_eq l2)]
    · rename_i fs hu
      cases hst : P.stoodInHeld t with
      | true => rw [hst] at h; cases h
      | false =>
      rw [hst] at h
      simp only [cond_false] at h
      -- the fields
      have key : ∀ (fl : List Field) (off : Nat) (shs r : List (Sh S.K)), eqFlds P (eqTy P d) fl off shs = some r → ∃ s1, shs = s1 ++ r ∧
          ∀ dd (X : Cx S) (xs ys : List (Cell S)) (b : Bool) (us vs : List Value) (w : World) (au av : Array Value), eqA s1 xs ys = some b → RelCs X xs us → RelCs X ys vs →
            (∀ i v, us[i]? = some v → au[off + i]? = some v) → (∀ i v, vs[i]? = some v → av[off + i]? = some v) →
            (Op.eqFields (dd + d) au av fl).run P w = .ok b w := by
        intro fl
        induction fl with
        | nil =>
          intro off shs r h
          simp only [eqFlds, Option.some.injEq] at h
          subst h
          refine ⟨[], rfl, fun dd X xs ys b us vs w au av he hx hy _ _ => ?_⟩
          match xs, ys, he with
          | [], [], he => simp [eqA] at he; subst he; simp [Op.eqFields]
          | _ :: _, _, he => simp [eqA] at he
          | [], _ :: _, he => simp [eqA] at he
        | cons f fl ih =>
          intro off shs r h
          simp only [eqFlds] at h
          cases hc : (!(f.name == "_") && Nat.beq f.offset off) with
          | false => rw [hc] at h; cases h
          | true =>
          rw [hc] at h
          simp only [cond_true] at h
          simp only [Bool.and_eq_true, Bool.not_eq_true'] at hc
          have ho := Nat.eq_of_beq_eq_true hc.2
          have hname : f.name ≠ "_" := by simpa using hc.1
          split at h <;> try (cases h; done)
          rename_i r1 hr1
          obtain ⟨s1, rfl, hs1⟩ := eqTy_sound hB d f.type shs r1 hr1
          have htk : (s1 ++ r1).take ((s1 ++ r1).length - r1.length) = s1 := by simp
          rw [htk] at h
          cases hc2 : (Nat.ble r1.length (s1 ++ r1).length && (match P.info? f.type with | some i => Nat.beq i.size (shW s1) | none => false)) with
          | false => rw [hc2] at h; cases h
          | true =>
          rw [hc2] at h
          simp only [cond_true] at h
          simp only [Bool.and_eq_true] at hc2
          have hc3 := hc2.2
          split at hc3 <;> try (cases hc3; done)
          rename_i i hi
          have hsz := Nat.eq_of_beq_eq_true hc3
          obtain ⟨s2, rfl, hs2⟩ := ih (off + shW s1) r1 r h
          refine ⟨s1 ++ s2, by simp, fun dd X xs ys b us vs w au av he hx hy hu hv => ?_⟩
          obtain ⟨x1, x2, y1, y2, b1, b2, rfl, rfl, e1, e2, rfl⟩ := eqA_append s1 s2 xs ys b he
          obtain ⟨u1, u2, rfl, hx1, hx2⟩ := RelCs.splitW hx
          obtain ⟨v1, v2, rfl, hy1, hy2⟩ := RelCs.splitW hy
          have lu : u1.length = shW s1 := by rw [hx1.len, (eqA_width e1).1]
          have lv : v1.length = shW s1 := by rw [hy1.len, (eqA_width e1).2]
          have rest := hs2 dd X x2 y2 b2 u2 v2 w au av e2 hx2 hy2
            (fun i v hi => by rw [Nat.add_assoc]; exact hu (shW s1 + i) v (by rw [List.getElem?_append_right (by omega)]; simpa [lu] using hi))
            (fun i v hi => by rw [Nat.add_assoc]; exact hv (shW s1 + i) v (by rw [List.getElem?_append_right (by omega)]; simpa [lv] using hi))
          have one := hs1 dd X x1 y1 b1 u1 v1 w e1 hx1 hy1
          have hone : isAggT P f.type = false → shW s1 = 1 := eqTy_one hr1
          have p1 := part_pa hr1 hi hsz ho u1 u2 au lu hu (fun h => by rw [lu]; exact hone h) w
          have p2 := part_pa hr1 hi hsz ho v1 v2 av lv hv (fun h => by rw [lv]; exact hone h) w
          simp only [Op.eqFields, if_pos hname, Sem.run_bind, p1, p2, Result.andThen_ok, one]
          cases b1 with
          | true => simpa using rest
          | false => simp
      obtain ⟨s1, rfl, hs⟩ := key fs.toList 0 shs r h
      refine ⟨s1, rfl, fun dd X xs ys b us vs w he hx hy => ?_⟩
      have hag : isAggT P t = true := by simp [isAggT, hu, isAggD]
      rw [hag]
      show (Op.equalIn (dd + d + 1) t (.agg us.toArray) (.agg vs.toArray)).run P w = _
      have hfo : P.fieldsOf t = fs := by simp [Program.fieldsOf, hu]
      rw [run_equalIn_struct (P := P) w (dd + d) t us.toArray vs.toArray (by rw [hfo]; exact hu) hst, hfo]
      exact hs dd X xs ys b us vs w _ _ he hx hy (fun i v hv => by simpa using hv) (fun i v hv => by simpa using hv)
    · cases h
  termination_by d => d

/-- What is checked of a type whose '==' is asked. -/
def eqOk (P : Program) (t : TypeId) (shs : List (Sh S.K)) : Bool := !(P.eqGuardType P.depth t) && isAggT P t && (match eqTy P 20 t shs with | some [] => true | _ => false)

theorem eqS_sound (hB : ∀ x : S.Ty (byte : S.K), enc (byte : S.K) x = [.int .u8 (toB x)]) {t : TypeId} {shs : List (Sh S.K)} (h : eqOk P t shs = true) : P.eqGuardType P.depth t = false ∧ ∀ (X : Cx S) (xs ys : List (Cell S)) (b : Bool) (us vs : List Value) (w : World), eqS shs xs ys = some b → RelCs X xs us → RelCs X ys vs →
    (Op.equalIn 10000 t (.agg us.toArray) (.agg vs.toArray)).run P w = .ok b w := by
  simp only [eqOk, Bool.and_eq_true, Bool.not_eq_true'] at h
  obtain ⟨⟨h1, h2⟩, h3⟩ := h
  refine ⟨h1, fun X xs ys b us vs w hb hx hy => ?_⟩
  split at h3 <;> try (cases h3; done)
  rename_i ht
  obtain ⟨s1, e, hs⟩ := eqTy_sound hB 20 t shs [] ht
  rw [List.append_nil] at e
  subst e
  have := hs 9980 X xs ys b us vs w (eqS_eqA _ _ _ _ hb) hx hy
  rw [h2] at this
  exact this

end Vm
end
