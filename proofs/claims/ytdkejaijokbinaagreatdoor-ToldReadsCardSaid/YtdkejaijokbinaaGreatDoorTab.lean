/- The tables of this program, and helpers on data and cells; no conditions. -/
import Derived.Test.YtdkejaijokbinaaGreatDoorKinds
import Derived.Lib.ItoaNum
import Derived.Test.YtdkejaijokbinaaGreatDoorProg
import Derived.Deep.Draws
import Derived.Sort.Grow
import Derived.Lib.LaidTab
import Derived.Lib.ConvBytes
set_option linter.all false

section
namespace Vm.Tryz
open Go Vm Vm.Fu

/-- What is known of the package variables. -/
def globs : List (Nat × (Array Value → Prop)) := [(0, fun cs => cs = #[.iface 190 (.agg #[.pointer (some ⟨9, 41, none⟩)])]),
  (1, fun cs => ∃ m, cs[0]? = some (.int .i64 m)),
  (2, fun cs => ∃ t v, cs[0]? = some (.iface t v)),
  (3, fun cs => ∃ t v, cs[0]? = some (.iface t v)),
  (4, fun cs => cs = (Lib.pow10Tab.map fun z => Value.int .u64 z).toArray)]

abbrev GG : Sig := G 74 globs

def tabs : Tab GG := [
  (2, .sc (.int .i64)),
  (4, .sc .bool),
  (3, .sc (.int .i64)),
  (9, .sc .str),
  (41, .sc .err),
  (139, .st shDate [0, 1, 2] 3),
  (67, .st shMoment [0, 1] 2),
  (5, .sc (.int .u8)),
  (135, .st shTime [0, 1, 2] 3),
  (74, .sc (.int .i64)),
  (27, .sl .kRule),
  (49, .st shZone [0, 1, 2] 3),
  (29, .st shZone [0, 1, 2] 3),
  (37, .st shTenant [0, 1, 17, 27, 30, 32] 33),
  (47, .sl .kRule),
  (183, .st shDate [0, 1, 2] 3),
  (55, .st shTenant [0, 1, 17, 27, 30, 32] 33),
  (31, .st shPolicy [0, 3, 4, 6, 7] 10),
  (112, .st shRule [0, 1, 2] 3),
  (51, .st shPolicy [0, 3, 4, 6, 7] 10),
  (91, .st shRule [0, 1, 2] 3),
  (147, .sl .str),
  (24, .st shSmear [0, 1, 2] 3),
  (86, .st shMoment [0, 1] 2),
  (186, .st shTime [0, 1, 2] 3),
  (33, .st shPause [0, 1, 2] 3),
  (45, .st shSmear [0, 1, 2] 3),
  (26, .st shFuzz [0, 1] 2),
  (52, .st shPause [0, 1, 2] 3),
  (46, .st shFuzz [0, 1] 2),
  (58, .st shReading [0, 1, 2, 3] 4),
  (61, .st shReading [0, 1, 2, 3] 4),
  (53, .st shFloor [0, 1] 2),
  (151, .sc (.int .u64)),
  (204, .ar .int 3),
  (35, .st shFloor [0, 1] 2),
  (174, .ar .err 4),
  (180, .sc .fn),
  (248, .sl .int),
  (22, .ar .byte 16),
  (44, .ar .byte 16)]

def ftab : List (TypeId × List TypeId) := [
  (29, [9, 2, 27]),
  (91, [2, 2, 9]),
  (37, [9, 22, 31, 33, 35, 2]),
  (31, [24, 2, 26, 4, 29]),
  (67, [2, 2]),
  (135, [3, 3, 3]),
  (139, [3, 3, 3]),
  (49, [9, 2, 47]),
  (51, [45, 2, 46, 4, 49]),
  (24, [3, 2, 2]),
  (26, [2, 2]),
  (55, [9, 44, 51, 52, 53, 2]),
  (33, [4, 2, 2]),
  (35, [4, 2]),
  (45, [3, 2, 2]),
  (46, [2, 2]),
  (112, [2, 2, 9]),
  (52, [4, 2, 2]),
  (53, [4, 2]),
  (58, [2, 2, 2, 2]),
  (86, [2, 2]),
  (183, [3, 3, 3]),
  (186, [3, 3, 3]),
  (61, [2, 2, 2, 2])]

abbrev P0 : Prog GG where
  zero := zeroK
  eqT := []
  tab := tabs
  fts := ftab
  byte := K.byte
  toB := fun (x : Int) => x
  ofB := fun (x : Int) => x
  aggK := aggKinds
  lim := limK

instance : Prog GG := { P0 with eqT := [(67, @eqS GG P0 [.int .i64, .int .i64]), (135, @eqS GG P0 [.int .i64, .int .i64, .int .i64])] }

noncomputable abbrev PT : Program := Go.Proofs.Tryz.prog

set_option maxRecDepth 100000 in
theorem tab_ok : tabChk PT tabs = true := by kernel_rfl
theorem byte_ok : byteElChk PT tabs = true := by kernel_rfl
theorem fts_ok : ftsChk PT ftab = true := by kernel_rfl

instance : TabOk (S := GG) PT where
  ok := fun t => tabChk_sound tab_ok t
  mixed := by kernel_rfl
  byte := fun x => rfl
  byteOf := fun n => rfl
  byteEs := rfl
  byteEl := byteElChk_sound byte_ok
  eqT := fun t q h => by
    simp only [Prog.eqT, lk_cons] at h
    split at h
    · rename_i e; subst e; obtain rfl := Option.some.inj h; exact @eqS_sound GG P0 PT (fun _ => rfl) _ _ (by kernel_rfl)
    split at h
    · rename_i e; subst e; obtain rfl := Option.some.inj h; exact @eqS_sound GG P0 PT (fun _ => rfl) _ _ (by kernel_rfl)
    simp [lk] at h
  errT := by kernel_rfl
  fts := ftsChk_sound fts_ok

abbrev L2 : Lay GG := .sc (.int .i64)
abbrev L3 : Lay GG := .sc (.int .i64)
abbrev L4 : Lay GG := .sc .bool
abbrev L9 : Lay GG := .sc .str
abbrev L24 : Lay GG := .st shSmear [0, 1, 2] 3
abbrev L26 : Lay GG := .st shFuzz [0, 1] 2
abbrev L29 : Lay GG := .st shZone [0, 1, 2] 3
abbrev L31 : Lay GG := .st shPolicy [0, 3, 4, 6, 7] 10
abbrev L33 : Lay GG := .st shPause [0, 1, 2] 3
abbrev L37 : Lay GG := .st shTenant [0, 1, 17, 27, 30, 32] 33
abbrev L41 : Lay GG := .sc .err
abbrev L45 : Lay GG := .st shSmear [0, 1, 2] 3
abbrev L46 : Lay GG := .st shFuzz [0, 1] 2
abbrev L47 : Lay GG := .sl .kRule
abbrev L49 : Lay GG := .st shZone [0, 1, 2] 3
abbrev L51 : Lay GG := .st shPolicy [0, 3, 4, 6, 7] 10
abbrev L52 : Lay GG := .st shPause [0, 1, 2] 3
abbrev L53 : Lay GG := .st shFloor [0, 1] 2
abbrev L55 : Lay GG := .st shTenant [0, 1, 17, 27, 30, 32] 33
abbrev L58 : Lay GG := .st shReading [0, 1, 2, 3] 4
abbrev L61 : Lay GG := .st shReading [0, 1, 2, 3] 4
abbrev L67 : Lay GG := .st shMoment [0, 1] 2
abbrev L86 : Lay GG := .st shMoment [0, 1] 2
abbrev L112 : Lay GG := .st shRule [0, 1, 2] 3
abbrev L135 : Lay GG := .st shTime [0, 1, 2] 3
abbrev L139 : Lay GG := .st shDate [0, 1, 2] 3
abbrev L147 : Lay GG := .sl .str
abbrev L180 : Lay GG := .sc .fn
abbrev L183 : Lay GG := .st shDate [0, 1, 2] 3
abbrev L186 : Lay GG := .st shTime [0, 1, 2] 3

end Vm.Tryz
end

section
namespace Vm
open Go Fu
variable {e : TypeId} {g : List (Nat × (Array Value → Prop))} {w : World} {M : Nat → Prop}

theorem q_fs {S : Sig} {w : World} {M : Nat → Prop} {c : FC S} {us : List Value} (h : RelFs w M [c] us) : RelF w M c us := by
  cases h with
  | cons c cs us' vs' a b c' => cases c'; simpa using b

theorem q_of {S : Sig} {w : World} {M : Nat → Prop} {c : FC S} {us : List Value} (h : RelF w M c us) (hl : us.length = c.width) : RelFs w M [c] us := by
  have := RelFs.cons (w := w) (M := M) c [] us [] hl h .nil
  simpa using this

theorem q_str {d : Ds Ty [.str]} {v : Value} (h : RelV (S := G e g) w M (.sc .str) d v) : v = .string ⟨d.1.toArray⟩ := by
  obtain ⟨us, rfl, h1, h2⟩ := h
  have h3 : RelF (S := G e g) w M (.str d.1) us := q_fs h2
  cases h3; rfl
theorem q_int {k : IntKind} {d : Ds Ty [.int k]} {v : Value} (h : RelV (S := G e g) w M (.sc (.int k)) d v) : v = .int k d.1 := by
  obtain ⟨us, rfl, h1, h2⟩ := h
  have h3 : RelF (S := G e g) w M (.int k d.1) us := q_fs h2
  cases h3; rfl
theorem q_err {d : Ds Ty [.err]} {v : Value} (h : RelV (S := G e g) w M (.sc .err) d v) : v = errV (G e g) d.1 ∨ d.1 = some foreign ∧ ∃ t u, v = .iface t u := by
  obtain ⟨us, rfl, h1, h2⟩ := h
  have h3 : RelF (S := G e g) w M (.err d.1) us := q_fs h2
  generalize hd : d.1 = x at h3
  cases h3 with
  | err => exact .inl rfl
  | erro t u => exact .inr ⟨rfl, t, u, rfl⟩
theorem k_str (l : List UInt8) : RelV (S := G e g) w M (.sc .str) (l, ()) (.string ⟨l.toArray⟩) := ⟨[_], rfl, fun _ => rfl, q_of (.str l) rfl⟩
theorem k_int (k : IntKind) (n : Int) : RelV (S := G e g) w M (.sc (.int k)) (n, ()) (.int k n) := ⟨[_], rfl, fun _ => rfl, q_of (.int k n) rfl⟩
theorem k_bool (b : Bool) : RelV (S := G e g) w M (.sc .bool) (b, ()) (.bool b) := ⟨[_], rfl, fun _ => rfl, q_of (.bool b) rfl⟩
theorem k_nil : RelV (S := G e g) w M (.sc .err) (none, ()) .nilIface := ⟨[_], rfl, fun _ => rfl, q_of (.err none) rfl⟩
theorem k_foreign (t : TypeId) (v : Value) : RelV (S := G e g) w M (.sc .err) (some foreign, ()) (.iface t v) := ⟨[_], rfl, fun _ => rfl, q_of (.erro t v) rfl⟩

theorem strs_cells : ∀ (L : List (List UInt8)), RelEs (S := G e g) w M K.str L (L.map fun l => Value.string ⟨l.toArray⟩)
  | [] => .nil _
  | l :: L => by
    have h : RelFs (S := G e g) w M (enc (S := G e g) K.str l) [Value.string ⟨l.toArray⟩] := q_of (S := G e g) (.str l) rfl
    exact RelEs.cons (S := G e g) K.str l L [Value.string ⟨l.toArray⟩] (L.map fun l => Value.string ⟨l.toArray⟩) rfl h (strs_cells L)

theorem k_strs {b : Nat} {t : TypeId} {f : Nat × Nat} (L : List (List UInt8)) (hb : ¬ M b) (h : w.heap[b]? = some (.cells (L.map fun l => Value.string ⟨l.toArray⟩).toArray t f)) (c : Nat) (hc : L.length ≤ c) :
    RelV (S := G e g) w M (.sl K.str) (L, ()) (.slice (some ⟨b, 0, none⟩) L.length c) := by
  refine ⟨[.slice (some ⟨b, 0, none⟩) L.length c], rfl, fun _ => rfl, ?_⟩
  have hlt : b < w.heap.size := by
    rcases Nat.lt_or_ge b w.heap.size with h' | h'
    · exact h'
    · rw [Array.getElem?_eq_none h'] at h; cases h
  have hc' : cellsAt w b 0 (L.map fun l => Value.string ⟨l.toArray⟩) := by
    intro j v hj
    simp only [World.cell?, h, Nat.zero_add]
    simpa using hj
  have hr : RelF (S := G e g) w M (.sl K.str L) [.slice (some ⟨b, 0, none⟩) L.length c] := RelF.sl (S := G e g) K.str L b 0 c (L.map fun l => Value.string ⟨l.toArray⟩) hb hlt hc hc' (strs_cells L)
  exact q_of hr rfl

theorem chg_below {w w' : World} (h : RowKit.Below w.heap.size w w') : Chg (fun _ => False) w w' := ⟨h.os, h.tape, h.output, h.size, fun b hb _ => h.block b hb⟩
theorem chg_drewN (w : World) (n : Nat) : Chg (fun _ => False) w (w.drewN n) := ⟨rfl, rfl, rfl, Nat.le_refl _, fun _ _ _ => rfl⟩
theorem chg_grow (w : World) (os : Array Obj) : Chg (fun _ => False) w (Go.Sort.grow w os) :=
  ⟨rfl, rfl, rfl, by simp, fun b hb _ => by unfold Go.Sort.grow; exact Array.getElem?_append_left hb⟩
theorem chg_alloc (w : World) (o : Obj) : Chg (fun _ => False) w (w.alloc o) := by
  rw [Go.Sort.alloc_eq_grow]; exact chg_grow w _
theorem chg_bytes (w : World) (t : TypeId) (s : ByteArray) : Chg (fun _ => False) w (Lib.bytesWorld w t s) := by
  have h1 : Chg (fun _ => False) w (w.drew.alloc (.cells (Lib.bytesCells w t s) t)) := by
    have := chg_alloc w.drew (.cells (Lib.bytesCells w t s) t)
    exact ⟨this.os, this.tape, this.output, this.size, this.block⟩
  unfold Lib.bytesWorld
  generalize w.drew.alloc (.cells (Lib.bytesCells w t s) t) = w1 at *
  unfold World.freeze
  rw [if_neg (by omega)]
  refine ⟨h1.os, h1.tape, h1.output, by simpa using h1.size, fun b hb hm => ?_⟩
  rw [← h1.block b hb hm]
  show (w1.heap.modify w.heap.size _)[b]? = _
  rw [Array.getElem?_modify, if_neg (by omega)]

/-- What is known of a variable, in a world. -/
theorem glob_at {w : World} {M : Nat → Prop} (h : Glob (S := G e g) w M) {x : Nat × (Array Value → Prop)} (hx : x ∈ g) : ∃ cs t f, w.heap[x.1]? = some (.cells cs t f) ∧ x.2 cs := (h x hx).2.2

theorem cell_of {w : World} {b : Nat} {cs : Array Value} {t : TypeId} {f : Nat × Nat} {v : Value} (h : w.heap[b]? = some (.cells cs t f)) (hv : cs[0]? = some v) : w.cell? ⟨b, 0, none⟩ = some v := by
  simp [World.cell?, h, hv]
end Vm
end
