/- What each function of the program computes, as plain Lean; no conditions. -/
import Derived.Test.YtdkejaijokbinaaGreatDoorKinds
set_option linter.all false

namespace Vm.Fu
open Go

noncomputable def law_bigZone_l2_s (a : Int × Zone) : Option ((Int × Zone) ⊕ ((Zone) ⊕ (Bool))) :=
  bif decide (a.fst < (↑(List.length a.snd.L) : Int)) then
    bif decide (a.fst < (60 : Int)) then
      bif decide ((0 : Int) ≤ a.fst) then
        match a.snd.L[Int.toNat a.fst]? with
        | .none =>
          .none
        | .some x0 =>
          bif decide ((↑(List.length x0.Name) : Int) > (200 : Int)) then
            .some (Sum.inr (Sum.inr true))
          else
            .some (Sum.inl (wi64 (a.fst + (1 : Int)), a.snd))
      else
        .none
    else
      .some (Sum.inr (Sum.inl a.snd))
  else
    .some (Sum.inr (Sum.inl a.snd))

noncomputable def law_bigZone_l2 : (Int × Zone) → Option ((Zone) ⊕ (Bool)) := Vm.iterN law_bigZone_l2_s FUEL

noncomputable def law_bigZone (a : Zone) : Option (Bool) :=
  match law_bigZone_l2 ((0 : Int), a) with
  | .none =>
    .none
  | .some x0 =>
    match x0 with
    | .inl l1 =>
      bif decide ((↑(List.length l1.L) : Int) > (60 : Int)) then
        .some (true)
      else
        .some (decide ((↑(List.length l1.Name) : Int) > (200 : Int)))
    | .inr r2 =>
      .some (r2)

noncomputable def law_bigTenant (a : Tenant) : Option (Bool) :=
  match law_bigZone a.P.Zone with
  | .none =>
    .none
  | .some x0 =>
    bif x0 then
      .some (true)
    else
      .some (decide ((↑(List.length a.Name) : Int) > (100 : Int)))

noncomputable def num_Sub (a : Int) (b : Int) : Option (Int × (Option Int)) :=
  let v0 := wi64 (a - b)
  bif !decide (v0 > a) == decide (b < (0 : Int)) then
    .some (((0 : Int), some (2 : Int)))
  else
    .some ((v0, none))

noncomputable def num_edge (a : Bool) : Option (Int) :=
  bif a then
    .some ((-9223372036854775808 : Int))
  else
    .some ((9223372036854775807 : Int))

noncomputable def num_SubSat (a : Int) (b : Int) : Option (Int) :=
  match num_Sub a b with
  | .none =>
    .none
  | .some x0 =>
    bif !Option.isNone x0.snd then
      match num_edge (decide (b > (0 : Int))) with
      | .none =>
        .none
      | .some x1 =>
        .some (x1)
    else
      .some (x0.fst)

noncomputable def num_Size (a : Int) : Option (Int) :=
  bif decide (a < (0 : Int)) then
    match num_SubSat (0 : Int) a with
    | .none =>
      .none
    | .some x0 =>
      .some (x0)
  else
    .some (a)

noncomputable def told_Check (a : Moment) : Option ((Option Int)) :=
  match num_Size a.Nano with
  | .none =>
    .none
  | .some x0 =>
    bif decide (x0 ≥ (4611686018427387904 : Int)) then
      .some (some (1 : Int))
    else
      match num_Size a.Off with
      | .none =>
        .none
      | .some x1 =>
        bif decide (x1 > (86399 : Int)) then
          .some (some (1 : Int))
        else
          .some (none)

noncomputable def num_Div (a : Int) (b : Int) : Option (Int × Int × (Option Int)) :=
  bif decide (b < (1 : Int)) then
    .some (((0 : Int), (0 : Int), some (1 : Int)))
  else
    let v0 := decide (b = (0 : Int))
    bif v0 then
      .none
    else
      bif v0 then
        .none
      else
        let v1 := wi64 (Int.tdiv a b)
        bif decide (Int.tmod a b < (0 : Int)) then
          .some ((wi64 (v1 - (1 : Int)), wi64 (Int.tmod a b + b), none))
        else
          .some ((v1, Int.tmod a b, none))

noncomputable def daytime_Of (a : Int) : Option (Time × (Option Int)) :=
  bif decide (a < (0 : Int)) then
    .some ((Time.mk (0 : Int) (0 : Int) (0 : Int), some (1 : Int)))
  else
    bif decide (a > (86400 : Int)) then
      .some ((Time.mk (0 : Int) (0 : Int) (0 : Int), some (1 : Int)))
    else
      bif a == (86400 : Int) then
        .some ((Time.mk (23 : Int) (59 : Int) (60 : Int), none))
      else
        .some ((Time.mk (wi64 (Int.tdiv a (3600 : Int))) (Int.tmod (wi64 (Int.tdiv a (60 : Int))) (60 : Int)) (Int.tmod a (60 : Int)), none))

noncomputable def num_Add (a : Int) (b : Int) : Option (Int × (Option Int)) :=
  let v0 := wi64 (a + b)
  bif !decide (v0 < a) == decide (b < (0 : Int)) then
    .some (((0 : Int), some (2 : Int)))
  else
    .some ((v0, none))

noncomputable def civil_Leap (a : Int) : Option (Bool) :=
  bif Int.tmod a (4 : Int) == (0 : Int) then
    bif Int.tmod a (100 : Int) != (0 : Int) then
      .some (true)
    else
      .some (Int.tmod a (400 : Int) == (0 : Int))
  else
    .some (false)

noncomputable def civil_Month (a : Int) (b : Int) : Option (Int) :=
  bif b == (1 : Int) then
    bif b == (1 : Int) then
      .some ((31 : Int))
    else
      bif b == (4 : Int) then
        bif b == (4 : Int) then
          .some ((30 : Int))
        else
          bif b == (2 : Int) then
            match civil_Leap a with
            | .none =>
              .none
            | .some x0 =>
              bif x0 then
                .some ((29 : Int))
              else
                .some ((28 : Int))
          else
            .some ((0 : Int))
      else
        bif b == (6 : Int) then
          bif b == (6 : Int) then
            .some ((30 : Int))
          else
            bif b == (2 : Int) then
              match civil_Leap a with
              | .none =>
                .none
              | .some x1 =>
                bif x1 then
                  .some ((29 : Int))
                else
                  .some ((28 : Int))
            else
              .some ((0 : Int))
        else
          bif b == (9 : Int) then
            bif b == (9 : Int) then
              .some ((30 : Int))
            else
              bif b == (2 : Int) then
                match civil_Leap a with
                | .none =>
                  .none
                | .some x2 =>
                  bif x2 then
                    .some ((29 : Int))
                  else
                    .some ((28 : Int))
              else
                .some ((0 : Int))
          else
            bif b == (11 : Int) then
              .some ((30 : Int))
            else
              bif b == (2 : Int) then
                match civil_Leap a with
                | .none =>
                  .none
                | .some x3 =>
                  bif x3 then
                    .some ((29 : Int))
                  else
                    .some ((28 : Int))
              else
                .some ((0 : Int))
  else
    bif b == (3 : Int) then
      bif b == (3 : Int) then
        .some ((31 : Int))
      else
        bif b == (4 : Int) then
          bif b == (4 : Int) then
            .some ((30 : Int))
          else
            bif b == (2 : Int) then
              match civil_Leap a with
              | .none =>
                .none
              | .some x4 =>
                bif x4 then
                  .some ((29 : Int))
                else
                  .some ((28 : Int))
            else
              .some ((0 : Int))
        else
          bif b == (6 : Int) then
            bif b == (6 : Int) then
              .some ((30 : Int))
            else
              bif b == (2 : Int) then
                match civil_Leap a with
                | .none =>
                  .none
                | .some x5 =>
                  bif x5 then
                    .some ((29 : Int))
                  else
                    .some ((28 : Int))
              else
                .some ((0 : Int))
          else
            bif b == (9 : Int) then
              bif b == (9 : Int) then
                .some ((30 : Int))
              else
                bif b == (2 : Int) then
                  match civil_Leap a with
                  | .none =>
                    .none
                  | .some x6 =>
                    bif x6 then
                      .some ((29 : Int))
                    else
                      .some ((28 : Int))
                else
                  .some ((0 : Int))
            else
              bif b == (11 : Int) then
                .some ((30 : Int))
              else
                bif b == (2 : Int) then
                  match civil_Leap a with
                  | .none =>
                    .none
                  | .some x7 =>
                    bif x7 then
                      .some ((29 : Int))
                    else
                      .some ((28 : Int))
                else
                  .some ((0 : Int))
    else
      bif b == (5 : Int) then
        bif b == (5 : Int) then
          .some ((31 : Int))
        else
          bif b == (4 : Int) then
            bif b == (4 : Int) then
              .some ((30 : Int))
            else
              bif b == (2 : Int) then
                match civil_Leap a with
                | .none =>
                  .none
                | .some x8 =>
                  bif x8 then
                    .some ((29 : Int))
                  else
                    .some ((28 : Int))
              else
                .some ((0 : Int))
          else
            bif b == (6 : Int) then
              bif b == (6 : Int) then
                .some ((30 : Int))
              else
                bif b == (2 : Int) then
                  match civil_Leap a with
                  | .none =>
                    .none
                  | .some x9 =>
                    bif x9 then
                      .some ((29 : Int))
                    else
                      .some ((28 : Int))
                else
                  .some ((0 : Int))
            else
              bif b == (9 : Int) then
                bif b == (9 : Int) then
                  .some ((30 : Int))
                else
                  bif b == (2 : Int) then
                    match civil_Leap a with
                    | .none =>
                      .none
                    | .some x10 =>
                      bif x10 then
                        .some ((29 : Int))
                      else
                        .some ((28 : Int))
                  else
                    .some ((0 : Int))
              else
                bif b == (11 : Int) then
                  .some ((30 : Int))
                else
                  bif b == (2 : Int) then
                    match civil_Leap a with
                    | .none =>
                      .none
                    | .some x11 =>
                      bif x11 then
                        .some ((29 : Int))
                      else
                        .some ((28 : Int))
                  else
                    .some ((0 : Int))
      else
        bif b == (7 : Int) then
          bif b == (7 : Int) then
            .some ((31 : Int))
          else
            bif b == (4 : Int) then
              bif b == (4 : Int) then
                .some ((30 : Int))
              else
                bif b == (2 : Int) then
                  match civil_Leap a with
                  | .none =>
                    .none
                  | .some x12 =>
                    bif x12 then
                      .some ((29 : Int))
                    else
                      .some ((28 : Int))
                else
                  .some ((0 : Int))
            else
              bif b == (6 : Int) then
                bif b == (6 : Int) then
                  .some ((30 : Int))
                else
                  bif b == (2 : Int) then
                    match civil_Leap a with
                    | .none =>
                      .none
                    | .some x13 =>
                      bif x13 then
                        .some ((29 : Int))
                      else
                        .some ((28 : Int))
                  else
                    .some ((0 : Int))
              else
                bif b == (9 : Int) then
                  bif b == (9 : Int) then
                    .some ((30 : Int))
                  else
                    bif b == (2 : Int) then
                      match civil_Leap a with
                      | .none =>
                        .none
                      | .some x14 =>
                        bif x14 then
                          .some ((29 : Int))
                        else
                          .some ((28 : Int))
                    else
                      .some ((0 : Int))
                else
                  bif b == (11 : Int) then
                    .some ((30 : Int))
                  else
                    bif b == (2 : Int) then
                      match civil_Leap a with
                      | .none =>
                        .none
                      | .some x15 =>
                        bif x15 then
                          .some ((29 : Int))
                        else
                          .some ((28 : Int))
                    else
                      .some ((0 : Int))
        else
          bif b == (8 : Int) then
            bif b == (8 : Int) then
              .some ((31 : Int))
            else
              bif b == (4 : Int) then
                bif b == (4 : Int) then
                  .some ((30 : Int))
                else
                  bif b == (2 : Int) then
                    match civil_Leap a with
                    | .none =>
                      .none
                    | .some x16 =>
                      bif x16 then
                        .some ((29 : Int))
                      else
                        .some ((28 : Int))
                  else
                    .some ((0 : Int))
              else
                bif b == (6 : Int) then
                  bif b == (6 : Int) then
                    .some ((30 : Int))
                  else
                    bif b == (2 : Int) then
                      match civil_Leap a with
                      | .none =>
                        .none
                      | .some x17 =>
                        bif x17 then
                          .some ((29 : Int))
                        else
                          .some ((28 : Int))
                    else
                      .some ((0 : Int))
                else
                  bif b == (9 : Int) then
                    bif b == (9 : Int) then
                      .some ((30 : Int))
                    else
                      bif b == (2 : Int) then
                        match civil_Leap a with
                        | .none =>
                          .none
                        | .some x18 =>
                          bif x18 then
                            .some ((29 : Int))
                          else
                            .some ((28 : Int))
                      else
                        .some ((0 : Int))
                  else
                    bif b == (11 : Int) then
                      .some ((30 : Int))
                    else
                      bif b == (2 : Int) then
                        match civil_Leap a with
                        | .none =>
                          .none
                        | .some x19 =>
                          bif x19 then
                            .some ((29 : Int))
                          else
                            .some ((28 : Int))
                      else
                        .some ((0 : Int))
          else
            bif b == (10 : Int) then
              bif b == (10 : Int) then
                .some ((31 : Int))
              else
                bif b == (4 : Int) then
                  bif b == (4 : Int) then
                    .some ((30 : Int))
                  else
                    bif b == (2 : Int) then
                      match civil_Leap a with
                      | .none =>
                        .none
                      | .some x20 =>
                        bif x20 then
                          .some ((29 : Int))
                        else
                          .some ((28 : Int))
                    else
                      .some ((0 : Int))
                else
                  bif b == (6 : Int) then
                    bif b == (6 : Int) then
                      .some ((30 : Int))
                    else
                      bif b == (2 : Int) then
                        match civil_Leap a with
                        | .none =>
                          .none
                        | .some x21 =>
                          bif x21 then
                            .some ((29 : Int))
                          else
                            .some ((28 : Int))
                      else
                        .some ((0 : Int))
                  else
                    bif b == (9 : Int) then
                      bif b == (9 : Int) then
                        .some ((30 : Int))
                      else
                        bif b == (2 : Int) then
                          match civil_Leap a with
                          | .none =>
                            .none
                          | .some x22 =>
                            bif x22 then
                              .some ((29 : Int))
                            else
                              .some ((28 : Int))
                        else
                          .some ((0 : Int))
                    else
                      bif b == (11 : Int) then
                        .some ((30 : Int))
                      else
                        bif b == (2 : Int) then
                          match civil_Leap a with
                          | .none =>
                            .none
                          | .some x23 =>
                            bif x23 then
                              .some ((29 : Int))
                            else
                              .some ((28 : Int))
                        else
                          .some ((0 : Int))
            else
              bif b == (12 : Int) then
                .some ((31 : Int))
              else
                bif b == (4 : Int) then
                  bif b == (4 : Int) then
                    .some ((30 : Int))
                  else
                    bif b == (2 : Int) then
                      match civil_Leap a with
                      | .none =>
                        .none
                      | .some x24 =>
                        bif x24 then
                          .some ((29 : Int))
                        else
                          .some ((28 : Int))
                    else
                      .some ((0 : Int))
                else
                  bif b == (6 : Int) then
                    bif b == (6 : Int) then
                      .some ((30 : Int))
                    else
                      bif b == (2 : Int) then
                        match civil_Leap a with
                        | .none =>
                          .none
                        | .some x25 =>
                          bif x25 then
                            .some ((29 : Int))
                          else
                            .some ((28 : Int))
                      else
                        .some ((0 : Int))
                  else
                    bif b == (9 : Int) then
                      bif b == (9 : Int) then
                        .some ((30 : Int))
                      else
                        bif b == (2 : Int) then
                          match civil_Leap a with
                          | .none =>
                            .none
                          | .some x26 =>
                            bif x26 then
                              .some ((29 : Int))
                            else
                              .some ((28 : Int))
                        else
                          .some ((0 : Int))
                    else
                      bif b == (11 : Int) then
                        .some ((30 : Int))
                      else
                        bif b == (2 : Int) then
                          match civil_Leap a with
                          | .none =>
                            .none
                          | .some x27 =>
                            bif x27 then
                              .some ((29 : Int))
                            else
                              .some ((28 : Int))
                        else
                          .some ((0 : Int))

noncomputable def civil_Check (a : Date) : Option ((Option Int)) :=
  bif decide (a.Y < (1 : Int)) then
    .some (some (1 : Int))
  else
    bif decide (a.Y > (9999 : Int)) then
      .some (some (1 : Int))
    else
      bif decide (a.D < (1 : Int)) then
        .some (some (1 : Int))
      else
        match civil_Month a.Y a.M with
        | .none =>
          .none
        | .some x0 =>
          bif decide (a.D > x0) then
            .some (some (1 : Int))
          else
            .some (none)

noncomputable def civil_Of (a : Int) : Option (Date × (Option Int)) :=
  match num_Add a (719468 : Int) with
  | .none =>
    .none
  | .some x0 =>
    bif !Option.isNone x0.snd then
      .some ((Date.mk (0 : Int) (0 : Int) (0 : Int), some (2 : Int)))
    else
      match num_Div x0.fst (146097 : Int) with
      | .none =>
        .none
      | .some x1 =>
        bif !Option.isNone x1.snd.snd then
          .some ((Date.mk (0 : Int) (0 : Int) (0 : Int), some (2 : Int)))
        else
          bif decide (x1.fst > (9999 : Int)) then
            .some ((Date.mk (0 : Int) (0 : Int) (0 : Int), some (2 : Int)))
          else
            let v3 := wi64 (Int.tdiv (wi64 (wi64 (wi64 (x1.snd.fst - wi64 (Int.tdiv x1.snd.fst (1460 : Int))) + wi64 (Int.tdiv x1.snd.fst (36524 : Int))) - wi64 (Int.tdiv x1.snd.fst (146096 : Int)))) (365 : Int))
            let v4 := wi64 (x1.snd.fst - wi64 (wi64 (wi64 ((365 : Int) * v3) + wi64 (Int.tdiv v3 (4 : Int))) - wi64 (Int.tdiv v3 (100 : Int))))
            let v5 := wi64 (Int.tdiv (wi64 (wi64 ((5 : Int) * v4) + (2 : Int))) (153 : Int))
            let v6 := wi64 (wi64 (wi64 ((400 : Int) * x1.fst) + v3) + wi64 (Int.tdiv v5 (10 : Int)))
            let v7 := wi64 (Int.tmod (wi64 (v5 + (2 : Int))) (12 : Int) + (1 : Int))
            let v8 := wi64 (wi64 (v4 - wi64 (Int.tdiv (wi64 (wi64 ((153 : Int) * v5) + (2 : Int))) (5 : Int))) + (1 : Int))
            match civil_Check (Date.mk v6 v7 v8) with
            | .none =>
              .none
            | .some x2 =>
              bif !Option.isNone x2 then
                .some ((Date.mk (0 : Int) (0 : Int) (0 : Int), some (2 : Int)))
              else
                .some ((Date.mk v6 v7 v8, none))

noncomputable def civil_digits (a : Int) (b : Int) : Option ((List UInt8)) :=
  match strconv_Itoa a with
  | .none =>
    .none
  | .some x0 =>
    match strings_Repeat [(48 : UInt8)] (wi64 (b - (↑(List.length x0) : Int))) with
    | .none =>
      .none
    | .some x1 =>
      bif Nat.ble (List.length x1 + List.length x0) (9223372036854775807 : Nat) then
        .some (x1 ++ x0)
      else
        .none

noncomputable def civil_Text (a : Date) : Option ((List UInt8) × (Option Int)) :=
  match civil_Check a with
  | .none =>
    .none
  | .some x0 =>
    bif !Option.isNone x0 then
      .some (([], x0))
    else
      match civil_digits a.Y (4 : Int) with
      | .none =>
        .none
      | .some x1 =>
        bif Nat.ble (List.length x1 + (1 : Nat)) (9223372036854775807 : Nat) then
          match civil_digits a.M (2 : Int) with
          | .none =>
            .none
          | .some x2 =>
            bif Nat.ble (List.length (x1 ++ [(45 : UInt8)]) + List.length x2) (9223372036854775807 : Nat) then
              bif Nat.ble (List.length (x1 ++ [(45 : UInt8)] ++ x2) + (1 : Nat)) (9223372036854775807 : Nat) then
                match civil_digits a.D (2 : Int) with
                | .none =>
                  .none
                | .some x3 =>
                  bif Nat.ble (List.length (x1 ++ [(45 : UInt8)] ++ x2 ++ [(45 : UInt8)]) + List.length x3) (9223372036854775807 : Nat) then
                    .some ((x1 ++ [(45 : UInt8)] ++ x2 ++ [(45 : UInt8)] ++ x3, none))
                  else
                    .none
              else
                .none
            else
              .none
        else
          .none

noncomputable def daytime_digits (a : Int) (b : Int) : Option ((List UInt8)) :=
  match strconv_FormatInt a (10 : Int) with
  | .none =>
    .none
  | .some x0 =>
    let v2 := wi64 (b - (↑(List.length x0) : Int))
    match strings_Repeat [(48 : UInt8)] (if v2 > (0 : Int) then v2 else (0 : Int)) with
    | .none =>
      .none
    | .some x1 =>
      bif Nat.ble (List.length x1 + List.length x0) (9223372036854775807 : Nat) then
        .some (x1 ++ x0)
      else
        .none

noncomputable def daytime_Stamp (a : Int) (b : Int) (c : Int) : Option ((List UInt8) × (Option Int)) :=
  match daytime_Of b with
  | .none =>
    .none
  | .some x0 =>
    bif !Option.isNone x0.snd then
      .some (([], some (1 : Int)))
    else
      bif decide (c < (0 : Int)) then
        .some (([], some (1 : Int)))
      else
        bif decide (c ≥ (1000000000 : Int)) then
          .some (([], some (1 : Int)))
        else
          match civil_Of a with
          | .none =>
            .none
          | .some x1 =>
            bif !Option.isNone x1.snd then
              .some (([], x1.snd))
            else
              match civil_Text x1.fst with
              | .none =>
                .none
              | .some x2 =>
                bif !Option.isNone x2.snd then
                  .some (([], x2.snd))
                else
                  bif Nat.ble (List.length x2.fst + (1 : Nat)) (9223372036854775807 : Nat) then
                    match daytime_digits x0.fst.H (2 : Int) with
                    | .none =>
                      .none
                    | .some x3 =>
                      bif Nat.ble (List.length (x2.fst ++ [(84 : UInt8)]) + List.length x3) (9223372036854775807 : Nat) then
                        bif Nat.ble (List.length (x2.fst ++ [(84 : UInt8)] ++ x3) + (1 : Nat)) (9223372036854775807 : Nat) then
                          match daytime_digits x0.fst.M (2 : Int) with
                          | .none =>
                            .none
                          | .some x4 =>
                            bif Nat.ble (List.length (x2.fst ++ [(84 : UInt8)] ++ x3 ++ [(58 : UInt8)]) + List.length x4) (9223372036854775807 : Nat) then
                              bif Nat.ble (List.length (x2.fst ++ [(84 : UInt8)] ++ x3 ++ [(58 : UInt8)] ++ x4) + (1 : Nat)) (9223372036854775807 : Nat) then
                                match daytime_digits x0.fst.S (2 : Int) with
                                | .none =>
                                  .none
                                | .some x5 =>
                                  bif Nat.ble (List.length (x2.fst ++ [(84 : UInt8)] ++ x3 ++ [(58 : UInt8)] ++ x4 ++ [(58 : UInt8)]) + List.length x5) (9223372036854775807 : Nat) then
                                    bif Nat.ble (List.length (x2.fst ++ [(84 : UInt8)] ++ x3 ++ [(58 : UInt8)] ++ x4 ++ [(58 : UInt8)] ++ x5) + (1 : Nat)) (9223372036854775807 : Nat) then
                                      match daytime_digits c (9 : Int) with
                                      | .none =>
                                        .none
                                      | .some x6 =>
                                        bif Nat.ble (List.length (x2.fst ++ [(84 : UInt8)] ++ x3 ++ [(58 : UInt8)] ++ x4 ++ [(58 : UInt8)] ++ x5 ++ [(46 : UInt8)]) + List.length x6) (9223372036854775807 : Nat) then
                                          .some ((x2.fst ++ [(84 : UInt8)] ++ x3 ++ [(58 : UInt8)] ++ x4 ++ [(58 : UInt8)] ++ x5 ++ [(46 : UInt8)] ++ x6, none))
                                        else
                                          .none
                                    else
                                      .none
                                  else
                                    .none
                              else
                                .none
                            else
                              .none
                        else
                          .none
                      else
                        .none
                  else
                    .none

noncomputable def told_two (a : Int) : Option ((List UInt8)) :=
  match strconv_FormatInt (wi64 (Int.tdiv a (10 : Int))) (10 : Int) with
  | .none =>
    .none
  | .some x0 =>
    match strconv_FormatInt (Int.tmod a (10 : Int)) (10 : Int) with
    | .none =>
      .none
    | .some x1 =>
      bif Nat.ble (List.length x0 + List.length x1) (9223372036854775807 : Nat) then
        .some (x0 ++ x1)
      else
        .none

noncomputable def told_added (a : Int) : Option ((List UInt8)) :=
  match num_Size a with
  | .none =>
    .none
  | .some x0 =>
    let v7 := Int.tmod x0 (60 : Int)
    let v8 := told_two (wi64 (Int.tdiv x0 (3600 : Int)))
    let v9 := told_two (Int.tmod (wi64 (Int.tdiv x0 (60 : Int))) (60 : Int))
    let v10 := told_two v7
    let v11 := decide (v7 > (0 : Int))
    bif decide (a < (0 : Int)) then
      match v8 with
      | .none =>
        .none
      | .some x1 =>
        bif Nat.ble ((1 : Nat) + List.length x1) (9223372036854775807 : Nat) then
          bif Nat.ble (List.length ([(45 : UInt8)] ++ x1) + (1 : Nat)) (9223372036854775807 : Nat) then
            match v9 with
            | .none =>
              .none
            | .some x2 =>
              bif Nat.ble (List.length ([(45 : UInt8)] ++ x1 ++ [(58 : UInt8)]) + List.length x2) (9223372036854775807 : Nat) then
                bif v11 then
                  match v10 with
                  | .none =>
                    .none
                  | .some x3 =>
                    bif Nat.ble ((1 : Nat) + List.length x3) (9223372036854775807 : Nat) then
                      bif Nat.ble (List.length ([(45 : UInt8)] ++ x1 ++ [(58 : UInt8)] ++ x2) + List.length ([(58 : UInt8)] ++ x3)) (9223372036854775807 : Nat) then
                        .some ([(45 : UInt8)] ++ x1 ++ [(58 : UInt8)] ++ x2 ++ ([(58 : UInt8)] ++ x3))
                      else
                        .none
                    else
                      .none
                else
                  .some ([(45 : UInt8)] ++ x1 ++ [(58 : UInt8)] ++ x2)
              else
                .none
          else
            .none
        else
          .none
    else
      match v8 with
      | .none =>
        .none
      | .some x4 =>
        bif Nat.ble ((1 : Nat) + List.length x4) (9223372036854775807 : Nat) then
          bif Nat.ble (List.length ([(43 : UInt8)] ++ x4) + (1 : Nat)) (9223372036854775807 : Nat) then
            match v9 with
            | .none =>
              .none
            | .some x5 =>
              bif Nat.ble (List.length ([(43 : UInt8)] ++ x4 ++ [(58 : UInt8)]) + List.length x5) (9223372036854775807 : Nat) then
                bif v11 then
                  match v10 with
                  | .none =>
                    .none
                  | .some x6 =>
                    bif Nat.ble ((1 : Nat) + List.length x6) (9223372036854775807 : Nat) then
                      bif Nat.ble (List.length ([(43 : UInt8)] ++ x4 ++ [(58 : UInt8)] ++ x5) + List.length ([(58 : UInt8)] ++ x6)) (9223372036854775807 : Nat) then
                        .some ([(43 : UInt8)] ++ x4 ++ [(58 : UInt8)] ++ x5 ++ ([(58 : UInt8)] ++ x6))
                      else
                        .none
                    else
                      .none
                else
                  .some ([(43 : UInt8)] ++ x4 ++ [(58 : UInt8)] ++ x5)
              else
                .none
          else
            .none
        else
          .none

noncomputable def told_Text (a : Moment) : Option ((List UInt8) × (Option Int)) :=
  match told_Check a with
  | .none =>
    .none
  | .some x0 =>
    bif !Option.isNone x0 then
      .some (([], x0))
    else
      match num_Div a.Nano (1000000000 : Int) with
      | .none =>
        .none
      | .some x1 =>
        bif !Option.isNone x1.snd.snd then
          .some (([], x1.snd.snd))
        else
          match num_Div (wi64 (x1.fst + a.Off)) (86400 : Int) with
          | .none =>
            .none
          | .some x2 =>
            bif !Option.isNone x2.snd.snd then
              .some (([], x2.snd.snd))
            else
              match daytime_Stamp x2.fst x2.snd.fst x1.snd.fst with
              | .none =>
                .none
              | .some x3 =>
                bif !Option.isNone x3.snd then
                  .some (([], x3.snd))
                else
                  match told_added a.Off with
                  | .none =>
                    .none
                  | .some x4 =>
                    bif Nat.ble (List.length x3.fst + List.length x4) (9223372036854775807 : Nat) then
                      .some ((x3.fst ++ x4, none))
                    else
                      .none

noncomputable def told_length (a : Int) : Option ((List UInt8)) :=
  match strconv_FormatInt (wi64 (Int.tdiv a (1000000000 : Int))) (10 : Int) with
  | .none =>
    .none
  | .some x0 =>
    match strconv_FormatInt (Int.tmod a (1000000000 : Int)) (10 : Int) with
    | .none =>
      .none
    | .some x1 =>
      match strings_Repeat [(48 : UInt8)] (wi64 ((9 : Int) - (↑(List.length x1) : Int))) with
      | .none =>
        .none
      | .some x2 =>
        bif Nat.ble (List.length x2 + List.length x1) (9223372036854775807 : Nat) then
          match strings_TrimRight (x2 ++ x1) [(48 : UInt8)] with
          | .none =>
            .none
          | .some x3 =>
            let v4 := Nat.ble (List.length x0 + (1 : Nat)) (9223372036854775807 : Nat)
            bif x3 == [] then
              bif v4 then
                .some (x0 ++ [(115 : UInt8)])
              else
                .none
            else
              bif v4 then
                bif Nat.ble (List.length (x0 ++ [(46 : UInt8)]) + List.length x3) (9223372036854775807 : Nat) then
                  bif Nat.ble (List.length (x0 ++ [(46 : UInt8)] ++ x3) + (1 : Nat)) (9223372036854775807 : Nat) then
                    .some (x0 ++ [(46 : UInt8)] ++ x3 ++ [(115 : UInt8)])
                  else
                    .none
                else
                  .none
              else
                .none
        else
          .none

noncomputable def told_Length (a : Int) : Option ((List UInt8) × (Option Int)) :=
  bif decide (a < (0 : Int)) then
    .some (([], some (1 : Int)))
  else
    match told_length a with
    | .none =>
      .none
    | .some x0 =>
      .some ((x0, none))

noncomputable def civil_Parse_l6_s (a : List UInt8 × List (List UInt8) × Int × Date × List Int) : Option (((List UInt8) × (List (List UInt8)) × Int × Date × (List (Int))) ⊕ (((List UInt8) × Date × (List (Int))) ⊕ ((Option Int) × Date))) :=
  bif decide (a.snd.snd.fst < (3 : Int)) then
    let v3 := decide ((0 : Int) ≤ a.snd.snd.fst)
    bif v3 then
      let v4 := Int.toNat a.snd.snd.fst
      match a.snd.fst[v4]? with
      | .none =>
        .none
      | .some x0 =>
        match strconv_Atoi x0 with
        | .none =>
          .none
        | .some x1 =>
          bif !Option.isNone x1.snd then
            .some (Sum.inr (Sum.inr (some (3 : Int), Date.mk (0 : Int) (0 : Int) (0 : Int))))
          else
            bif v3 then
              bif decide (a.snd.snd.fst < (↑(3 : Nat) : Int)) then
                match a.snd.snd.snd.snd[v4]? with
                | .none =>
                  .none
                | .some x2 =>
                  .some (Sum.inl (a.fst, a.snd.fst, wi64 (a.snd.snd.fst + (1 : Int)), a.snd.snd.snd.fst, List.set a.snd.snd.snd.snd v4 x1.fst))
              else
                .none
            else
              .none
    else
      .none
  else
    .some (Sum.inr (Sum.inl (a.fst, a.snd.snd.snd)))

noncomputable def civil_Parse_l6 : ((List UInt8) × (List (List UInt8)) × Int × Date × (List (Int))) → Option (((List UInt8) × Date × (List (Int))) ⊕ ((Option Int) × Date)) := Vm.iterN civil_Parse_l6_s FUEL

noncomputable def civil_Parse (a : List UInt8) : Option (Date × (Option Int)) :=
  match strings_Split a [(45 : UInt8)] with
  | .none =>
    .none
  | .some x0 =>
    bif (↑(List.length x0) : Int) != (3 : Int) then
      .some ((Date.mk (0 : Int) (0 : Int) (0 : Int), some (3 : Int)))
    else
      match civil_Parse_l6 (a, x0, (0 : Int), Date.mk (0 : Int) (0 : Int) (0 : Int), List.replicate (3 : Nat) (0 : Int)) with
      | .none =>
        .none
      | .some x1 =>
        match x1 with
        | .inl l2 =>
          match l2.snd.snd[(0 : Nat)]? with
          | .none =>
            .none
          | .some x4 =>
            match l2.snd.snd[(1 : Nat)]? with
            | .none =>
              .none
            | .some x5 =>
              match l2.snd.snd[(2 : Nat)]? with
              | .none =>
                .none
              | .some x6 =>
                match civil_Text (Date.mk x4 x5 x6) with
                | .none =>
                  .none
                | .some x7 =>
                  bif !Option.isNone x7.snd then
                    .some ((Date.mk (0 : Int) (0 : Int) (0 : Int), some (3 : Int)))
                  else
                    bif !x7.fst == l2.fst then
                      .some ((Date.mk (0 : Int) (0 : Int) (0 : Int), some (3 : Int)))
                    else
                      .some ((Date.mk x4 x5 x6, none))
        | .inr r3 =>
          .some ((r3.snd, r3.fst))

noncomputable def civil_Days (a : Date) : Option (Int × (Option Int)) :=
  match civil_Check a with
  | .none =>
    .none
  | .some x0 =>
    bif !Option.isNone x0 then
      .some (((0 : Int), x0))
    else
      let v3 := wi64 (a.M - (3 : Int))
      bif decide (v3 < (0 : Int)) then
        match num_Div (wi64 (a.Y - (1 : Int))) (400 : Int) with
        | .none =>
          .none
        | .some x1 =>
          bif !Option.isNone x1.snd.snd then
            .some (((0 : Int), x1.snd.snd))
          else
            .some ((wi64 (wi64 (wi64 (wi64 (wi64 (wi64 (wi64 (wi64 (x1.fst * (146097 : Int)) + wi64 (x1.snd.fst * (365 : Int))) + wi64 (Int.tdiv x1.snd.fst (4 : Int))) - wi64 (Int.tdiv x1.snd.fst (100 : Int))) + wi64 (Int.tdiv (wi64 (wi64 ((153 : Int) * wi64 (v3 + (12 : Int))) + (2 : Int))) (5 : Int))) + a.D) - (1 : Int)) - (719468 : Int)), none))
      else
        match num_Div a.Y (400 : Int) with
        | .none =>
          .none
        | .some x2 =>
          bif !Option.isNone x2.snd.snd then
            .some (((0 : Int), x2.snd.snd))
          else
            .some ((wi64 (wi64 (wi64 (wi64 (wi64 (wi64 (wi64 (wi64 (x2.fst * (146097 : Int)) + wi64 (x2.snd.fst * (365 : Int))) + wi64 (Int.tdiv x2.snd.fst (4 : Int))) - wi64 (Int.tdiv x2.snd.fst (100 : Int))) + wi64 (Int.tdiv (wi64 (wi64 ((153 : Int) * v3) + (2 : Int))) (5 : Int))) + a.D) - (1 : Int)) - (719468 : Int)), none))

noncomputable def daytime_number (a : List UInt8) : Option (Int) :=
  match strconv_ParseInt a (10 : Int) (64 : Int) with
  | .none =>
    .none
  | .some x0 =>
    bif !Option.isNone x0.snd then
      .some ((-1 : Int))
    else
      .some (x0.fst)

noncomputable def daytime_Check (a : Time) : Option ((Option Int)) :=
  bif a.H == (23 : Int) && (a.M == (59 : Int) && a.S == (60 : Int)) then
    .some (none)
  else
    bif decide (a.H < (0 : Int)) then
      .some (some (1 : Int))
    else
      bif decide (a.H > (23 : Int)) then
        .some (some (1 : Int))
      else
        bif decide (a.M < (0 : Int)) then
          .some (some (1 : Int))
        else
          bif decide (a.M > (59 : Int)) then
            .some (some (1 : Int))
          else
            bif decide (a.S < (0 : Int)) then
              .some (some (1 : Int))
            else
              bif decide (a.S > (59 : Int)) then
                .some (some (1 : Int))
              else
                .some (none)

noncomputable def daytime_Seconds (a : Time) : Option (Int × (Option Int)) :=
  match daytime_Check a with
  | .none =>
    .none
  | .some x0 =>
    bif !Option.isNone x0 then
      .some (((0 : Int), x0))
    else
      .some ((wi64 (wi64 (wi64 (a.H * (3600 : Int)) + wi64 (a.M * (60 : Int))) + a.S), none))

noncomputable def daytime_Parse (a : List UInt8) : Option (Int × Int × Int × (Option Int)) :=
  bif (↑(List.length a) : Int) != (29 : Int) then
    .some (((0 : Int), (0 : Int), (0 : Int), some (3 : Int)))
  else
    bif Vm.within (0 : Int) (10 : Int) (↑(List.length a) : Int) then
      match civil_Parse (Vm.cut a (0 : Int) (10 : Int)) with
      | .none =>
        .none
      | .some x0 =>
        bif !Option.isNone x0.snd then
          .some (((0 : Int), (0 : Int), (0 : Int), x0.snd))
        else
          match civil_Days x0.fst with
          | .none =>
            .none
          | .some x1 =>
            bif !Option.isNone x1.snd then
              .some (((0 : Int), (0 : Int), (0 : Int), some (3 : Int)))
            else
              bif Vm.within (11 : Int) (13 : Int) (↑(List.length a) : Int) then
                match daytime_number (Vm.cut a (11 : Int) (13 : Int)) with
                | .none =>
                  .none
                | .some x2 =>
                  bif Vm.within (14 : Int) (16 : Int) (↑(List.length a) : Int) then
                    match daytime_number (Vm.cut a (14 : Int) (16 : Int)) with
                    | .none =>
                      .none
                    | .some x3 =>
                      bif Vm.within (17 : Int) (19 : Int) (↑(List.length a) : Int) then
                        match daytime_number (Vm.cut a (17 : Int) (19 : Int)) with
                        | .none =>
                          .none
                        | .some x4 =>
                          match daytime_Seconds (Time.mk x2 x3 x4) with
                          | .none =>
                            .none
                          | .some x5 =>
                            bif !Option.isNone x5.snd then
                              .some (((0 : Int), (0 : Int), (0 : Int), some (3 : Int)))
                            else
                              bif Vm.within (20 : Int) (↑(List.length a) : Int) (↑(List.length a) : Int) then
                                match daytime_number (Vm.cut a (20 : Int) (↑(List.length a) : Int)) with
                                | .none =>
                                  .none
                                | .some x6 =>
                                  match daytime_Stamp x1.fst x5.fst x6 with
                                  | .none =>
                                    .none
                                  | .some x7 =>
                                    bif !Option.isNone x7.snd then
                                      .some (((0 : Int), (0 : Int), (0 : Int), some (3 : Int)))
                                    else
                                      bif !x7.fst == a then
                                        .some (((0 : Int), (0 : Int), (0 : Int), some (3 : Int)))
                                      else
                                        .some ((x1.fst, x5.fst, x6, none))
                              else
                                .none
                      else
                        .none
                  else
                    .none
              else
                .none
    else
      .none

noncomputable def told_offset_l8_s (a : List UInt8 × Int × Int × List (List UInt8) × Int × Int) : Option (((List UInt8) × Int × Int × (List (List UInt8)) × Int × Int) ⊕ (((List UInt8) × Int) ⊕ (Int × Bool))) :=
  bif decide (a.snd.snd.snd.snd.snd < a.snd.snd.snd.snd.fst) then
    bif decide ((0 : Int) ≤ a.snd.snd.snd.snd.snd) then
      match a.snd.snd.snd.fst[Int.toNat a.snd.snd.snd.snd.snd]? with
      | .none =>
        .none
      | .some x0 =>
        match strconv_ParseInt x0 (10 : Int) (8 : Int) with
        | .none =>
          .none
        | .some x1 =>
          bif !Option.isNone x1.snd then
            .some (Sum.inr (Sum.inr ((0 : Int), false)))
          else
            .some (Sum.inl (a.fst, wi64 (a.snd.fst + wi64 (x1.fst * a.snd.snd.fst)), wi64 (Int.tdiv a.snd.snd.fst (60 : Int)), a.snd.snd.snd.fst, a.snd.snd.snd.snd.fst, wi64 (a.snd.snd.snd.snd.snd + (1 : Int))))
    else
      .none
  else
    .some (Sum.inr (Sum.inl (a.fst, a.snd.fst)))

noncomputable def told_offset_l8 : ((List UInt8) × Int × Int × (List (List UInt8)) × Int × Int) → Option (((List UInt8) × Int) ⊕ (Int × Bool)) := Vm.iterN told_offset_l8_s FUEL

noncomputable def told_offset (a : List UInt8) : Option (Int × Bool) :=
  bif a == [] then
    .some (((0 : Int), false))
  else
    bif Vm.within (1 : Int) (↑(List.length a) : Int) (↑(List.length a) : Int) then
      match strings_Split (Vm.cut a (1 : Int) (↑(List.length a) : Int)) [(58 : UInt8)] with
      | .none =>
        .none
      | .some x0 =>
        bif decide ((↑(List.length x0) : Int) < (2 : Int)) then
          .some (((0 : Int), false))
        else
          bif decide ((↑(List.length x0) : Int) > (3 : Int)) then
            .some (((0 : Int), false))
          else
            match told_offset_l8 (a, (0 : Int), (3600 : Int), x0, (↑(List.length x0) : Int), (0 : Int)) with
            | .none =>
              .none
            | .some x1 =>
              match x1 with
              | .inl l2 =>
                bif Vm.within (0 : Int) (1 : Int) (↑(List.length l2.fst) : Int) then
                  bif Vm.cut l2.fst (0 : Int) (1 : Int) == [(45 : UInt8)] then
                    .some ((wi64 ((0 : Int) - l2.snd), true))
                  else
                    .some ((l2.snd, true))
                else
                  .none
              | .inr r3 =>
                .some (r3)
    else
      .none

noncomputable def num_Mul (a : Int) (b : Int) : Option (Int × (Option Int)) :=
  bif a == (0 : Int) then
    .some (((0 : Int), none))
  else
    bif b == (0 : Int) then
      .some (((0 : Int), none))
    else
      let v0 := wi64 (a * b)
      let v1 := decide (b = (0 : Int))
      let v2 := wi64 (Int.tdiv v0 b) != a
      bif a == (-1 : Int) then
        bif b == (-9223372036854775808 : Int) then
          .some (((0 : Int), some (2 : Int)))
        else
          bif b == (-1 : Int) then
            bif a == (-9223372036854775808 : Int) then
              .some (((0 : Int), some (2 : Int)))
            else
              bif v1 then
                .none
              else
                bif v2 then
                  .some (((0 : Int), some (2 : Int)))
                else
                  .some ((v0, none))
          else
            bif v1 then
              .none
            else
              bif v2 then
                .some (((0 : Int), some (2 : Int)))
              else
                .some ((v0, none))
      else
        bif b == (-1 : Int) then
          bif a == (-9223372036854775808 : Int) then
            .some (((0 : Int), some (2 : Int)))
          else
            bif v1 then
              .none
            else
              bif v2 then
                .some (((0 : Int), some (2 : Int)))
              else
                .some ((v0, none))
        else
          bif v1 then
            .none
          else
            bif v2 then
              .some (((0 : Int), some (2 : Int)))
            else
              .some ((v0, none))

noncomputable def num_AddSat (a : Int) (b : Int) : Option (Int) :=
  match num_Add a b with
  | .none =>
    .none
  | .some x0 =>
    bif !Option.isNone x0.snd then
      match num_edge (decide (b < (0 : Int))) with
      | .none =>
        .none
      | .some x1 =>
        .some (x1)
    else
      .some (x0.fst)

noncomputable def told_Parse (a : List UInt8) : Option (Moment × (Option Int)) :=
  bif decide ((↑(List.length a) : Int) < (29 : Int)) then
    .some ((Moment.mk (0 : Int) (0 : Int), some (3 : Int)))
  else
    bif Vm.within (0 : Int) (29 : Int) (↑(List.length a) : Int) then
      match daytime_Parse (Vm.cut a (0 : Int) (29 : Int)) with
      | .none =>
        .none
      | .some x0 =>
        bif Vm.within (29 : Int) (↑(List.length a) : Int) (↑(List.length a) : Int) then
          match told_offset (Vm.cut a (29 : Int) (↑(List.length a) : Int)) with
          | .none =>
            .none
          | .some x1 =>
            bif !Option.isNone x0.snd.snd.snd then
              .some ((Moment.mk (0 : Int) (0 : Int), some (3 : Int)))
            else
              bif !x1.snd then
                .some ((Moment.mk (0 : Int) (0 : Int), some (3 : Int)))
              else
                match num_Mul (wi64 (wi64 (wi64 (x0.fst * (86400 : Int)) + x0.snd.fst) - x1.fst)) (1000000000 : Int) with
                | .none =>
                  .none
                | .some x2 =>
                  bif !Option.isNone x2.snd then
                    .some ((Moment.mk (0 : Int) (0 : Int), some (3 : Int)))
                  else
                    match num_AddSat x2.fst x0.snd.snd.fst with
                    | .none =>
                      .none
                    | .some x3 =>
                      match told_Text (Moment.mk x3 x1.fst) with
                      | .none =>
                        .none
                      | .some x4 =>
                        bif !Option.isNone x4.snd then
                          .some ((Moment.mk (0 : Int) (0 : Int), some (3 : Int)))
                        else
                          bif !x4.fst == a then
                            .some ((Moment.mk (0 : Int) (0 : Int), some (3 : Int)))
                          else
                            .some ((Moment.mk x3 x1.fst, none))
        else
          .none
    else
      .none

noncomputable def i_stringslite_HasSuffix (a : List UInt8) (b : List UInt8) : Option (Bool) :=
  bif decide ((↑(List.length a) : Int) ≥ (↑(List.length b) : Int)) then
    let v0 := wi64 ((↑(List.length a) : Int) - (↑(List.length b) : Int))
    bif Vm.within v0 (↑(List.length a) : Int) (↑(List.length a) : Int) then
      .some (Vm.cut a v0 (↑(List.length a) : Int) == b)
    else
      .none
  else
    .some (false)

noncomputable def i_stringslite_CutSuffix (a : List UInt8) (b : List UInt8) : Option ((List UInt8) × Bool) :=
  match i_stringslite_HasSuffix a b with
  | .none =>
    .none
  | .some x0 =>
    bif !x0 then
      .some ((a, false))
    else
      let v1 := wi64 ((↑(List.length a) : Int) - (↑(List.length b) : Int))
      bif Vm.within (0 : Int) v1 (↑(List.length a) : Int) then
        .some ((Vm.cut a (0 : Int) v1, true))
      else
        .none

noncomputable def strings_CutSuffix (a : List UInt8) (b : List UInt8) : Option ((List UInt8) × Bool) :=
  match i_stringslite_CutSuffix a b with
  | .none =>
    .none
  | .some x0 =>
    .some (x0)

noncomputable def told_Long (a : List UInt8) : Option (Int × (Option Int)) :=
  match strings_CutSuffix a [(115 : UInt8)] with
  | .none =>
    .none
  | .some x0 =>
    match strings_Cut x0.fst [(46 : UInt8)] with
    | .none =>
      .none
    | .some x1 =>
      bif !x0.snd then
        .some (((0 : Int), some (3 : Int)))
      else
        let v8 := List.length x1.snd.fst
        bif decide ((↑v8 : Int) > (9 : Int)) then
          .some (((0 : Int), some (3 : Int)))
        else
          match strconv_ParseInt x1.fst (10 : Int) (64 : Int) with
          | .none =>
            .none
          | .some x2 =>
            bif !Option.isNone x2.snd then
              .some (((0 : Int), some (3 : Int)))
            else
              bif Nat.ble ((1 : Nat) + v8) (9223372036854775807 : Nat) then
                match strings_Repeat [(48 : UInt8)] (wi64 ((9 : Int) - (↑v8 : Int))) with
                | .none =>
                  .none
                | .some x3 =>
                  bif Nat.ble (List.length ([(48 : UInt8)] ++ x1.snd.fst) + List.length x3) (9223372036854775807 : Nat) then
                    match strconv_ParseInt ([(48 : UInt8)] ++ x1.snd.fst ++ x3) (10 : Int) (64 : Int) with
                    | .none =>
                      .none
                    | .some x4 =>
                      bif !Option.isNone x4.snd then
                        .some (((0 : Int), some (3 : Int)))
                      else
                        match num_Mul x2.fst (1000000000 : Int) with
                        | .none =>
                          .none
                        | .some x5 =>
                          bif !Option.isNone x5.snd then
                            .some (((0 : Int), some (3 : Int)))
                          else
                            match num_Add x5.fst x4.fst with
                            | .none =>
                              .none
                            | .some x6 =>
                              bif !Option.isNone x6.snd then
                                .some (((0 : Int), some (3 : Int)))
                              else
                                bif decide (x6.fst < (0 : Int)) then
                                  .some (((0 : Int), some (3 : Int)))
                                else
                                  match told_length x6.fst with
                                  | .none =>
                                    .none
                                  | .some x7 =>
                                    bif !x7 == a then
                                      .some (((0 : Int), some (3 : Int)))
                                    else
                                      .some ((x6.fst, none))
                  else
                    .none
              else
                .none

noncomputable def fuseelaw43_sure : Option (Bool) :=
  match told_Text (Moment.mk (0 : Int) (3600 : Int)) with
  | .none =>
    .none
  | .some x0 =>
    match told_Length (1500000000 : Int) with
    | .none =>
      .none
    | .some x1 =>
      match told_Parse [(49 : UInt8), (57 : UInt8), (55 : UInt8), (48 : UInt8), (45 : UInt8), (48 : UInt8), (49 : UInt8), (45 : UInt8), (48 : UInt8), (49 : UInt8), (84 : UInt8), (48 : UInt8), (48 : UInt8), (58 : UInt8), (48 : UInt8), (48 : UInt8), (58 : UInt8), (48 : UInt8), (48 : UInt8), (46 : UInt8), (48 : UInt8), (48 : UInt8), (48 : UInt8), (48 : UInt8), (48 : UInt8), (48 : UInt8), (48 : UInt8), (48 : UInt8), (49 : UInt8), (45 : UInt8), (48 : UInt8), (48 : UInt8), (58 : UInt8), (48 : UInt8), (48 : UInt8), (58 : UInt8), (48 : UInt8), (49 : UInt8)] with
      | .none =>
        .none
      | .some x2 =>
        match told_Long [(48 : UInt8), (46 : UInt8), (48 : UInt8), (48 : UInt8), (48 : UInt8), (48 : UInt8), (48 : UInt8), (48 : UInt8), (48 : UInt8), (48 : UInt8), (49 : UInt8), (115 : UInt8)] with
        | .none =>
          .none
        | .some x3 =>
          match told_Parse [(120 : UInt8)] with
          | .none =>
            .none
          | .some x4 =>
            bif Option.isNone x0.snd then
              bif Option.isNone x1.snd then
                bif Option.isNone x2.snd then
                  bif Option.isNone x3.snd then
                    bif x0.fst == [(49 : UInt8), (57 : UInt8), (55 : UInt8), (48 : UInt8), (45 : UInt8), (48 : UInt8), (49 : UInt8), (45 : UInt8), (48 : UInt8), (49 : UInt8), (84 : UInt8), (48 : UInt8), (49 : UInt8), (58 : UInt8), (48 : UInt8), (48 : UInt8), (58 : UInt8), (48 : UInt8), (48 : UInt8), (46 : UInt8), (48 : UInt8), (48 : UInt8), (48 : UInt8), (48 : UInt8), (48 : UInt8), (48 : UInt8), (48 : UInt8), (48 : UInt8), (48 : UInt8), (43 : UInt8), (48 : UInt8), (49 : UInt8), (58 : UInt8), (48 : UInt8), (48 : UInt8)] then
                      bif x1.fst == [(49 : UInt8), (46 : UInt8), (53 : UInt8), (115 : UInt8)] then
                        bif x2.fst.Nano == (1000000001 : Int) && x2.fst.Off == (-1 : Int) then
                          bif x3.fst == (1 : Int) then
                            match law_num x4.snd with
                            | .none =>
                              .none
                            | .some x5 =>
                              .some (x5 == (3 : Int))
                          else
                            .some (false)
                        else
                          .some (false)
                      else
                        .some (false)
                    else
                      .some (false)
                  else
                    .some (false)
                else
                  .some (false)
              else
                .some (false)
            else
              .some (false)

noncomputable def law_giveZone_l3_s (a : Int × Zone × Zone × List UInt8 × Int × List Rule) : Option ((Int × Zone × Zone × (List UInt8) × Int × (List (Rule))) ⊕ (Zone × Zone)) :=
  bif decide (a.fst < (↑(List.length a.snd.fst.L) : Int)) then
    bif decide ((0 : Int) ≤ a.fst) then
      match a.snd.fst.L[Int.toNat a.fst]? with
      | .none =>
        .none
      | .some x0 =>
        bif Nat.ble (List.length a.snd.snd.snd.snd.snd + List.length [x0]) (4294967296 : Nat) then
          .some (Sum.inl (wi64 (a.fst + (1 : Int)), a.snd.fst, a.snd.snd.fst, a.snd.snd.snd.fst, a.snd.snd.snd.snd.fst, a.snd.snd.snd.snd.snd ++ [x0]))
        else
          .none
    else
      .none
  else
    .some (Sum.inr (a.snd.snd.fst, Zone.mk a.snd.snd.snd.fst a.snd.snd.snd.snd.fst a.snd.snd.snd.snd.snd))

noncomputable def law_giveZone_l3 : (Int × Zone × Zone × (List UInt8) × Int × (List (Rule))) → Option (Zone × Zone) := Vm.iterN law_giveZone_l3_s FUEL

noncomputable def law_giveZone (a : Zone) : Option (Zone) :=
  match law_giveZone_l3 ((0 : Int), a, Zone.mk [] (0 : Int) [], a.Name, a.First, []) with
  | .none =>
    .none
  | .some x0 =>
    .some (x0.snd)

noncomputable def law_givePolicy (a : Policy) : Option (Policy) :=
  match law_giveZone a.Zone with
  | .none =>
    .none
  | .some x0 =>
    .some (Policy.mk a.Smear a.Quantum a.Fuzz a.Jump x0)

noncomputable def law_giveTenant (a : Tenant) : Option (Tenant) :=
  match law_givePolicy a.P with
  | .none =>
    .none
  | .some x0 =>
    .some (Tenant.mk a.Name a.Key x0 a.Pause a.Floor a.Epoch)

noncomputable def smear_Check (a : Smear) : Option ((Option Int)) :=
  bif decide (a.Before < (0 : Int)) then
    .some (some (1 : Int))
  else
    bif decide (a.Before > (43200 : Int)) then
      .some (some (1 : Int))
    else
      bif decide (a.After < (0 : Int)) then
        .some (some (1 : Int))
      else
        bif decide (a.After > (43200 : Int)) then
          .some (some (1 : Int))
        else
          let v0 := wi64 (a.Before + a.After)
          bif a.Kind == (0 : Int) then
            bif v0 == (0 : Int) then
              .some (none)
            else
              .some (some (1 : Int))
          else
            bif a.Kind == (1 : Int) then
              bif decide (v0 > (0 : Int)) then
                .some (none)
              else
                .some (some (1 : Int))
            else
              bif a.Kind == (2 : Int) then
                bif decide (v0 ≥ (3600 : Int)) then
                  .some (none)
                else
                  .some (some (1 : Int))
              else
                .some (some (1 : Int))

noncomputable def quant_Check (a : Int) : Option ((Option Int)) :=
  bif decide (a < (1 : Int)) then
    .some (some (1 : Int))
  else
    bif decide (a > (68719476736 : Int)) then
      .some (some (1 : Int))
    else
      .some (none)

noncomputable def fuzz_Check (a : Fuzz) : Option ((Option Int)) :=
  bif decide (a.Width < (0 : Int)) then
    .some (some (1 : Int))
  else
    bif decide (a.Width > (1099511627776 : Int)) then
      .some (some (1 : Int))
    else
      bif decide (a.Cell < (1 : Int)) then
        .some (some (1 : Int))
      else
        bif decide (a.Cell > (1125899906842624 : Int)) then
          .some (some (1 : Int))
        else
          .some (none)

noncomputable def zone_named (a : List UInt8) : Option (Bool) :=
  bif !a == [] then
    bif decide ((↑(List.length a) : Int) ≤ (12 : Int)) then
      match strings_TrimLeft a [(65 : UInt8), (66 : UInt8), (67 : UInt8), (68 : UInt8), (69 : UInt8), (70 : UInt8), (71 : UInt8), (72 : UInt8), (73 : UInt8), (74 : UInt8), (75 : UInt8), (76 : UInt8), (77 : UInt8), (78 : UInt8), (79 : UInt8), (80 : UInt8), (81 : UInt8), (82 : UInt8), (83 : UInt8), (84 : UInt8), (85 : UInt8), (86 : UInt8), (87 : UInt8), (88 : UInt8), (89 : UInt8), (90 : UInt8), (97 : UInt8), (98 : UInt8), (99 : UInt8), (100 : UInt8), (101 : UInt8), (102 : UInt8), (103 : UInt8), (104 : UInt8), (105 : UInt8), (106 : UInt8), (107 : UInt8), (108 : UInt8), (109 : UInt8), (110 : UInt8), (111 : UInt8), (112 : UInt8), (113 : UInt8), (114 : UInt8), (115 : UInt8), (116 : UInt8), (117 : UInt8), (118 : UInt8), (119 : UInt8), (120 : UInt8), (121 : UInt8), (122 : UInt8), (48 : UInt8), (49 : UInt8), (50 : UInt8), (51 : UInt8), (52 : UInt8), (53 : UInt8), (54 : UInt8), (55 : UInt8), (56 : UInt8), (57 : UInt8), (47 : UInt8), (95 : UInt8), (43 : UInt8), (45 : UInt8)] with
      | .none =>
        .none
      | .some x0 =>
        .some (x0 == [])
    else
      .some (false)
  else
    .some (false)

noncomputable def zone_added (a : Int) : Option (Bool) :=
  bif decide (a ≥ (-86399 : Int)) then
    .some (decide (a ≤ (86399 : Int)))
  else
    .some (false)

noncomputable def zone_Check_l4_s (a : List Rule × Int × Int × Zone) : Option (((List (Rule)) × Int × Int × Zone) ⊕ ((Unit) ⊕ ((Option Int)))) :=
  bif decide (a.snd.snd.fst < a.snd.fst) then
    bif decide ((0 : Int) ≤ a.snd.snd.fst) then
      match a.fst[Int.toNat a.snd.snd.fst]? with
      | .none =>
        .none
      | .some x0 =>
        match zone_named x0.Name with
        | .none =>
          .none
        | .some x1 =>
          bif !x1 then
            .some (Sum.inr (Sum.inr (some (1 : Int))))
          else
            match zone_added x0.Off with
            | .none =>
              .none
            | .some x2 =>
              bif !x2 then
                .some (Sum.inr (Sum.inr (some (1 : Int))))
              else
                bif decide (x0.At < (-1099511627776 : Int)) then
                  .some (Sum.inr (Sum.inr (some (1 : Int))))
                else
                  bif decide (x0.At > (1099511627776 : Int)) then
                    .some (Sum.inr (Sum.inr (some (1 : Int))))
                  else
                    let v4 := wi64 (a.snd.snd.fst + (1 : Int))
                    bif decide (a.snd.snd.fst > (0 : Int)) then
                      let v5 := wi64 (a.snd.snd.fst - (1 : Int))
                      bif decide ((0 : Int) ≤ v5) then
                        match a.snd.snd.snd.L[Int.toNat v5]? with
                        | .none =>
                          .none
                        | .some x3 =>
                          bif decide (x3.At ≥ x0.At) then
                            .some (Sum.inr (Sum.inr (some (1 : Int))))
                          else
                            .some (Sum.inl (a.fst, a.snd.fst, v4, a.snd.snd.snd))
                      else
                        .none
                    else
                      .some (Sum.inl (a.fst, a.snd.fst, v4, a.snd.snd.snd))
    else
      .none
  else
    .some (Sum.inr (Sum.inl ()))

noncomputable def zone_Check_l4 : ((List (Rule)) × Int × Int × Zone) → Option ((Unit) ⊕ ((Option Int))) := Vm.iterN zone_Check_l4_s FUEL

noncomputable def zone_Check (a : Zone) : Option ((Option Int)) :=
  match zone_named a.Name with
  | .none =>
    .none
  | .some x0 =>
    bif !x0 then
      .some (some (1 : Int))
    else
      match zone_added a.First with
      | .none =>
        .none
      | .some x1 =>
        bif !x1 then
          .some (some (1 : Int))
        else
          let v5 := List.length a.L
          bif decide ((↑v5 : Int) > (32 : Int)) then
            .some (some (1 : Int))
          else
            match zone_Check_l4 (a.L, (↑v5 : Int), (0 : Int), a) with
            | .none =>
              .none
            | .some x2 =>
              match x2 with
              | .inl l3 =>
                .some (none)
              | .inr r4 =>
                .some (r4)

noncomputable def policy_Check_l2_s (a : List (Option Int) × Int) : Option (((List (Option Int)) × Int) ⊕ ((Unit) ⊕ ((Option Int)))) :=
  bif decide (a.snd < (4 : Int)) then
    bif true && decide ((0 : Int) ≤ a.snd) then
      match a.fst[Int.toNat a.snd]? with
      | .none =>
        .none
      | .some x0 =>
        bif !Option.isNone x0 then
          .some (Sum.inr (Sum.inr (some (1 : Int))))
        else
          .some (Sum.inl (a.fst, wi64 (a.snd + (1 : Int))))
    else
      .none
  else
    .some (Sum.inr (Sum.inl ()))

noncomputable def policy_Check_l2 : ((List (Option Int)) × Int) → Option ((Unit) ⊕ ((Option Int))) := Vm.iterN policy_Check_l2_s FUEL

noncomputable def policy_Check (a : Policy) : Option ((Option Int)) :=
  match smear_Check a.Smear with
  | .none =>
    .none
  | .some x0 =>
    match quant_Check a.Quantum with
    | .none =>
      .none
    | .some x1 =>
      match fuzz_Check a.Fuzz with
      | .none =>
        .none
      | .some x2 =>
        match zone_Check a.Zone with
        | .none =>
          .none
        | .some x3 =>
          match policy_Check_l2 ([x0, x1, x2, x3], (0 : Int)) with
          | .none =>
            .none
          | .some x4 =>
            match x4 with
            | .inl l5 =>
              .some (none)
            | .inr r6 =>
              .some (r6)

noncomputable def pause_time (a : Int) : Option (Bool) :=
  match num_Size a with
  | .none =>
    .none
  | .some x0 =>
    .some (decide (x0 < (4611686018427387904 : Int)))

noncomputable def pause_Check (a : Pause) : Option ((Option Int)) :=
  match pause_time a.At with
  | .none =>
    .none
  | .some x0 =>
    bif !x0 then
      .some (some (1 : Int))
    else
      let v1 := decide (a.Lost > (2305843009213693952 : Int))
      let v2 := decide (a.Lost < (0 : Int))
      bif !a.On then
        bif a.At != (0 : Int) then
          .some (some (1 : Int))
        else
          bif v2 then
            .some (some (1 : Int))
          else
            bif v1 then
              .some (some (1 : Int))
            else
              .some (none)
      else
        bif v2 then
          .some (some (1 : Int))
        else
          bif v1 then
            .some (some (1 : Int))
          else
            .some (none)

noncomputable def quant_Is (a : Int) (b : Int) : Option (Bool) :=
  match quant_Check b with
  | .none =>
    .none
  | .some x0 =>
    bif Option.isNone x0 then
      bif decide (b = (0 : Int)) then
        .none
      else
        .some (Int.tmod a b == (0 : Int))
    else
      .some (false)

noncomputable def tenant_floored (a : Floor) (b : Int) : Option (Bool) :=
  bif !a.Set then
    .some (a.At == (0 : Int))
  else
    match quant_Is a.At b with
    | .none =>
      .none
    | .some x0 =>
      .some (x0)

noncomputable def tenant_Check (a : Tenant) : Option ((Option Int)) :=
  bif a.Name == [] then
    .some (some (1 : Int))
  else
    bif decide ((↑(List.length a.Name) : Int) > (12 : Int)) then
      .some (some (1 : Int))
    else
      match strings_TrimLeft a.Name [(97 : UInt8), (98 : UInt8), (99 : UInt8), (100 : UInt8), (101 : UInt8), (102 : UInt8), (103 : UInt8), (104 : UInt8), (105 : UInt8), (106 : UInt8), (107 : UInt8), (108 : UInt8), (109 : UInt8), (110 : UInt8), (111 : UInt8), (112 : UInt8), (113 : UInt8), (114 : UInt8), (115 : UInt8), (116 : UInt8), (117 : UInt8), (118 : UInt8), (119 : UInt8), (120 : UInt8), (121 : UInt8), (122 : UInt8), (48 : UInt8), (49 : UInt8), (50 : UInt8), (51 : UInt8), (52 : UInt8), (53 : UInt8), (54 : UInt8), (55 : UInt8), (56 : UInt8), (57 : UInt8)] with
      | .none =>
        .none
      | .some x0 =>
        bif !x0 == [] then
          .some (some (1 : Int))
        else
          match policy_Check a.P with
          | .none =>
            .none
          | .some x1 =>
            bif !Option.isNone x1 then
              .some (some (1 : Int))
            else
              match pause_Check a.Pause with
              | .none =>
                .none
              | .some x2 =>
                bif !Option.isNone x2 then
                  .some (some (1 : Int))
                else
                  match tenant_floored a.Floor a.P.Quantum with
                  | .none =>
                    .none
                  | .some x3 =>
                    bif !x3 then
                      .some (some (1 : Int))
                    else
                      bif decide (a.Epoch < (0 : Int)) then
                        .some (some (1 : Int))
                      else
                        bif decide (a.Epoch > (1099511627776 : Int)) then
                          .some (some (1 : Int))
                        else
                          .some (none)

noncomputable def cmp_isNaN_int64 (a : Int) : Option (Bool) :=
  .some (a != a)

noncomputable def cmp_Compare_int64 (a : Int) (b : Int) : Option (Int) :=
  match cmp_isNaN_int64 a with
  | .none =>
    .none
  | .some x0 =>
    match cmp_isNaN_int64 b with
    | .none =>
      .none
    | .some x1 =>
      bif x0 then
        bif x1 then
          .some ((0 : Int))
        else
          .some ((-1 : Int))
      else
        bif x1 then
          .some ((1 : Int))
        else
          bif decide (a < b) then
            .some ((-1 : Int))
          else
            bif decide (a > b) then
              .some ((1 : Int))
            else
              .some ((0 : Int))

noncomputable def zone_behind_c1 (a : Rule) (b : Int) : Option (Int) :=
  match cmp_Compare_int64 a.At b with
  | .none =>
    .none
  | .some x0 =>
    .some (x0)

noncomputable def slices_BinarySearchFunc_zone_Rule_zone_Rule_int64__zone_behind_c1_l3_s (a : List Rule × Int × Int × Int × Int) : Option (((List (Rule)) × Int × Int × Int × Int) ⊕ ((List (Rule)) × Int × Int × Int)) :=
  bif decide (a.snd.snd.snd.fst < a.snd.snd.snd.snd) then
    let v2 := wi64 (Int.fdiv (wu64 (wi64 (a.snd.snd.snd.fst + a.snd.snd.snd.snd))) (2 : Int))
    bif decide ((0 : Int) ≤ v2) then
      match a.fst[Int.toNat v2]? with
      | .none =>
        .none
      | .some x0 =>
        match zone_behind_c1 x0 a.snd.fst with
        | .none =>
          .none
        | .some x1 =>
          bif decide (x1 < (0 : Int)) then
            .some (Sum.inl (a.fst, a.snd.fst, a.snd.snd.fst, wi64 (v2 + (1 : Int)), a.snd.snd.snd.snd))
          else
            .some (Sum.inl (a.fst, a.snd.fst, a.snd.snd.fst, a.snd.snd.snd.fst, v2))
    else
      .none
  else
    .some (Sum.inr (a.fst, a.snd.fst, a.snd.snd.fst, a.snd.snd.snd.fst))

noncomputable def slices_BinarySearchFunc_zone_Rule_zone_Rule_int64__zone_behind_c1_l3 : ((List (Rule)) × Int × Int × Int × Int) → Option ((List (Rule)) × Int × Int × Int) := Vm.iterN slices_BinarySearchFunc_zone_Rule_zone_Rule_int64__zone_behind_c1_l3_s FUEL

noncomputable def slices_BinarySearchFunc_zone_Rule_zone_Rule_int64__zone_behind_c1 (a : List Rule) (b : Int) : Option (Int × Bool) :=
  match slices_BinarySearchFunc_zone_Rule_zone_Rule_int64__zone_behind_c1_l3 (a, b, (↑(List.length a) : Int), (0 : Int), (↑(List.length a) : Int)) with
  | .none =>
    .none
  | .some x0 =>
    bif decide (x0.snd.snd.snd < x0.snd.snd.fst) then
      bif decide ((0 : Int) ≤ x0.snd.snd.snd) then
        match x0.fst[Int.toNat x0.snd.snd.snd]? with
        | .none =>
          .none
        | .some x1 =>
          match zone_behind_c1 x1 x0.snd.fst with
          | .none =>
            .none
          | .some x2 =>
            .some ((x0.snd.snd.snd, x2 == (0 : Int)))
      else
        .none
    else
      .some ((x0.snd.snd.snd, false))

noncomputable def zone_behind (a : Zone) (b : Int) : Option (Int) :=
  match slices_BinarySearchFunc_zone_Rule_zone_Rule_int64__zone_behind_c1 a.L b with
  | .none =>
    .none
  | .some x0 =>
    bif x0.snd then
      .some (wi64 (x0.fst + (1 : Int)))
    else
      .some (x0.fst)

noncomputable def zone_At (a : Zone) (b : Int) : Option (Int × (List UInt8) × (Option Int)) :=
  match zone_Check a with
  | .none =>
    .none
  | .some x0 =>
    bif !Option.isNone x0 then
      .some (((0 : Int), [], x0))
    else
      match zone_behind a b with
      | .none =>
        .none
      | .some x1 =>
        bif x1 == (0 : Int) then
          .some ((a.First, a.Name, none))
        else
          let v4 := wi64 (x1 - (1 : Int))
          let v5 := decide ((0 : Int) ≤ v4)
          bif v5 then
            let v6 := Int.toNat v4
            match a.L[v6]? with
            | .none =>
              .none
            | .some x2 =>
              bif v5 then
                match a.L[v6]? with
                | .none =>
                  .none
                | .some x3 =>
                  .some ((x2.Off, x3.Name, none))
              else
                .none
          else
            .none

noncomputable def told_Reading (a : Tenant) (b : Reading) : Option ((List UInt8) × (Option Int)) :=
  match tenant_Check a with
  | .none =>
    .none
  | .some x0 =>
    bif !Option.isNone x0 then
      .some (([], some (1 : Int)))
    else
      bif decide (b.Bound < (0 : Int)) then
        .some (([], some (1 : Int)))
      else
        match num_Div b.Value (1000000000 : Int) with
        | .none =>
          .none
        | .some x1 =>
          bif !Option.isNone x1.snd.snd then
            .some (([], x1.snd.snd))
          else
            match zone_At a.P.Zone x1.fst with
            | .none =>
              .none
            | .some x2 =>
              bif !Option.isNone x2.snd.snd then
                .some (([], x2.snd.snd))
              else
                match told_Text (Moment.mk b.Value x2.fst) with
                | .none =>
                  .none
                | .some x3 =>
                  bif !Option.isNone x3.snd then
                    .some (([], x3.snd))
                  else
                    bif Nat.ble (List.length x3.fst + (4 : Nat)) (9223372036854775807 : Nat) then
                      match told_length b.Bound with
                      | .none =>
                        .none
                      | .some x4 =>
                        bif Nat.ble (List.length (x3.fst ++ [(32 : UInt8), (43 : UInt8), (45 : UInt8), (32 : UInt8)]) + List.length x4) (9223372036854775807 : Nat) then
                          .some ((x3.fst ++ [(32 : UInt8), (43 : UInt8), (45 : UInt8), (32 : UInt8)] ++ x4, none))
                        else
                          .none
                    else
                      .none

noncomputable def fuseeref29_Name_l2_s (a : List UInt8 × Int) : Option (((List UInt8) × Int) ⊕ (((List UInt8)) ⊕ (Bool))) :=
  bif decide (a.snd < (↑(List.length a.fst) : Int)) then
    let v6 := decide ((0 : Int) ≤ a.snd)
    bif v6 then
      let v7 := Int.toNat a.snd
      match a.fst[v7]? with
      | .none =>
        .none
      | .some x0 =>
        let v8 := wi64 (a.snd + (1 : Int))
        bif decide ((↑(UInt8.toNat x0) : Int) ≥ (97 : Int)) then
          bif v6 then
            match a.fst[v7]? with
            | .none =>
              .none
            | .some x1 =>
              bif decide ((↑(UInt8.toNat x1) : Int) ≤ (122 : Int)) then
                .some (Sum.inl (a.fst, v8))
              else
                bif v6 then
                  match a.fst[v7]? with
                  | .none =>
                    .none
                  | .some x2 =>
                    bif decide ((↑(UInt8.toNat x2) : Int) ≥ (48 : Int)) then
                      bif v6 then
                        match a.fst[v7]? with
                        | .none =>
                          .none
                        | .some x3 =>
                          bif !decide ((↑(UInt8.toNat x3) : Int) ≤ (57 : Int)) then
                            .some (Sum.inr (Sum.inr false))
                          else
                            .some (Sum.inl (a.fst, v8))
                      else
                        .none
                    else
                      .some (Sum.inr (Sum.inr false))
                else
                  .none
          else
            .none
        else
          bif v6 then
            match a.fst[v7]? with
            | .none =>
              .none
            | .some x4 =>
              bif decide ((↑(UInt8.toNat x4) : Int) ≥ (48 : Int)) then
                bif v6 then
                  match a.fst[v7]? with
                  | .none =>
                    .none
                  | .some x5 =>
                    bif !decide ((↑(UInt8.toNat x5) : Int) ≤ (57 : Int)) then
                      .some (Sum.inr (Sum.inr false))
                    else
                      .some (Sum.inl (a.fst, v8))
                else
                  .none
              else
                .some (Sum.inr (Sum.inr false))
          else
            .none
    else
      .none
  else
    .some (Sum.inr (Sum.inl a.fst))

noncomputable def fuseeref29_Name_l2 : ((List UInt8) × Int) → Option (((List UInt8)) ⊕ (Bool)) := Vm.iterN fuseeref29_Name_l2_s FUEL

noncomputable def fuseeref29_Name (a : List UInt8) : Option (Bool) :=
  match fuseeref29_Name_l2 (a, (0 : Int)) with
  | .none =>
    .none
  | .some x0 =>
    match x0 with
    | .inl l1 =>
      bif decide ((↑(List.length l1) : Int) ≥ (1 : Int)) then
        .some (decide ((↑(List.length l1) : Int) ≤ (12 : Int)))
      else
        .some (false)
    | .inr r2 =>
      .some (r2)

noncomputable def fuseeref12_May (a : Smear) : Option (Bool) :=
  bif decide (a.Before < (0 : Int)) then
    .some (false)
  else
    bif decide (a.Before > (43200 : Int)) then
      .some (false)
    else
      bif decide (a.After < (0 : Int)) then
        .some (false)
      else
        bif decide (a.After > (43200 : Int)) then
          .some (false)
        else
          let v0 := wi64 (a.Before + a.After)
          let v1 := decide (v0 ≥ (1 : Int))
          let v2 := decide (v0 ≥ (3600 : Int))
          bif a.Kind == (0 : Int) then
            bif v0 == (0 : Int) then
              .some (true)
            else
              bif a.Kind == (1 : Int) then
                bif v1 then
                  .some (true)
                else
                  bif a.Kind == (2 : Int) then
                    .some (v2)
                  else
                    .some (false)
              else
                bif a.Kind == (2 : Int) then
                  .some (v2)
                else
                  .some (false)
          else
            bif a.Kind == (1 : Int) then
              bif v1 then
                .some (true)
              else
                bif a.Kind == (2 : Int) then
                  .some (v2)
                else
                  .some (false)
            else
              bif a.Kind == (2 : Int) then
                .some (v2)
              else
                .some (false)

noncomputable def fuseeref24_May (a : Int) : Option (Bool) :=
  bif decide (a ≥ (1 : Int)) then
    .some (decide (a ≤ (68719476736 : Int)))
  else
    .some (false)

noncomputable def fuseeref25_May (a : Fuzz) : Option (Bool) :=
  bif decide (a.Width ≥ (0 : Int)) then
    bif decide (a.Width ≤ (1099511627776 : Int)) then
      bif decide (a.Cell ≥ (1 : Int)) then
        .some (decide (a.Cell ≤ (1125899906842624 : Int)))
      else
        .some (false)
    else
      .some (false)
  else
    .some (false)

noncomputable def fuseeref10_Name_l2_s (a : List UInt8 × Int) : Option (((List UInt8) × Int) ⊕ (((List UInt8)) ⊕ (Bool))) :=
  bif decide (a.snd < (↑(List.length a.fst) : Int)) then
    bif decide ((0 : Int) ≤ a.snd) then
      match a.fst[Int.toNat a.snd]? with
      | .none =>
        .none
      | .some x0 =>
        let v1 := !(↑(UInt8.toNat x0) : Int) == (45 : Int)
        let v2 := wi64 (a.snd + (1 : Int))
        let v3 := decide ((↑(UInt8.toNat x0) : Int) ≥ (48 : Int))
        let v4 := decide ((↑(UInt8.toNat x0) : Int) ≤ (57 : Int))
        let v5 := decide ((↑(UInt8.toNat x0) : Int) ≥ (65 : Int))
        let v6 := decide ((↑(UInt8.toNat x0) : Int) ≤ (90 : Int))
        bif decide ((↑(UInt8.toNat x0) : Int) ≥ (97 : Int)) then
          bif decide ((↑(UInt8.toNat x0) : Int) ≤ (122 : Int)) then
            .some (Sum.inl (a.fst, v2))
          else
            bif v5 then
              bif v6 then
                .some (Sum.inl (a.fst, v2))
              else
                bif v3 then
                  bif v4 then
                    .some (Sum.inl (a.fst, v2))
                  else
                    bif (↑(UInt8.toNat x0) : Int) == (47 : Int) then
                      .some (Sum.inl (a.fst, v2))
                    else
                      bif (↑(UInt8.toNat x0) : Int) == (95 : Int) then
                        .some (Sum.inl (a.fst, v2))
                      else
                        bif (↑(UInt8.toNat x0) : Int) == (43 : Int) then
                          .some (Sum.inl (a.fst, v2))
                        else
                          bif v1 then
                            .some (Sum.inr (Sum.inr false))
                          else
                            .some (Sum.inl (a.fst, v2))
                else
                  bif (↑(UInt8.toNat x0) : Int) == (47 : Int) then
                    .some (Sum.inl (a.fst, v2))
                  else
                    bif (↑(UInt8.toNat x0) : Int) == (95 : Int) then
                      .some (Sum.inl (a.fst, v2))
                    else
                      bif (↑(UInt8.toNat x0) : Int) == (43 : Int) then
                        .some (Sum.inl (a.fst, v2))
                      else
                        bif v1 then
                          .some (Sum.inr (Sum.inr false))
                        else
                          .some (Sum.inl (a.fst, v2))
            else
              bif v3 then
                bif v4 then
                  .some (Sum.inl (a.fst, v2))
                else
                  bif (↑(UInt8.toNat x0) : Int) == (47 : Int) then
                    .some (Sum.inl (a.fst, v2))
                  else
                    bif (↑(UInt8.toNat x0) : Int) == (95 : Int) then
                      .some (Sum.inl (a.fst, v2))
                    else
                      bif (↑(UInt8.toNat x0) : Int) == (43 : Int) then
                        .some (Sum.inl (a.fst, v2))
                      else
                        bif v1 then
                          .some (Sum.inr (Sum.inr false))
                        else
                          .some (Sum.inl (a.fst, v2))
              else
                bif (↑(UInt8.toNat x0) : Int) == (47 : Int) then
                  .some (Sum.inl (a.fst, v2))
                else
                  bif (↑(UInt8.toNat x0) : Int) == (95 : Int) then
                    .some (Sum.inl (a.fst, v2))
                  else
                    bif (↑(UInt8.toNat x0) : Int) == (43 : Int) then
                      .some (Sum.inl (a.fst, v2))
                    else
                      bif v1 then
                        .some (Sum.inr (Sum.inr false))
                      else
                        .some (Sum.inl (a.fst, v2))
        else
          bif v5 then
            bif v6 then
              .some (Sum.inl (a.fst, v2))
            else
              bif v3 then
                bif v4 then
                  .some (Sum.inl (a.fst, v2))
                else
                  bif (↑(UInt8.toNat x0) : Int) == (47 : Int) then
                    .some (Sum.inl (a.fst, v2))
                  else
                    bif (↑(UInt8.toNat x0) : Int) == (95 : Int) then
                      .some (Sum.inl (a.fst, v2))
                    else
                      bif (↑(UInt8.toNat x0) : Int) == (43 : Int) then
                        .some (Sum.inl (a.fst, v2))
                      else
                        bif v1 then
                          .some (Sum.inr (Sum.inr false))
                        else
                          .some (Sum.inl (a.fst, v2))
              else
                bif (↑(UInt8.toNat x0) : Int) == (47 : Int) then
                  .some (Sum.inl (a.fst, v2))
                else
                  bif (↑(UInt8.toNat x0) : Int) == (95 : Int) then
                    .some (Sum.inl (a.fst, v2))
                  else
                    bif (↑(UInt8.toNat x0) : Int) == (43 : Int) then
                      .some (Sum.inl (a.fst, v2))
                    else
                      bif v1 then
                        .some (Sum.inr (Sum.inr false))
                      else
                        .some (Sum.inl (a.fst, v2))
          else
            bif v3 then
              bif v4 then
                .some (Sum.inl (a.fst, v2))
              else
                bif (↑(UInt8.toNat x0) : Int) == (47 : Int) then
                  .some (Sum.inl (a.fst, v2))
                else
                  bif (↑(UInt8.toNat x0) : Int) == (95 : Int) then
                    .some (Sum.inl (a.fst, v2))
                  else
                    bif (↑(UInt8.toNat x0) : Int) == (43 : Int) then
                      .some (Sum.inl (a.fst, v2))
                    else
                      bif v1 then
                        .some (Sum.inr (Sum.inr false))
                      else
                        .some (Sum.inl (a.fst, v2))
            else
              bif (↑(UInt8.toNat x0) : Int) == (47 : Int) then
                .some (Sum.inl (a.fst, v2))
              else
                bif (↑(UInt8.toNat x0) : Int) == (95 : Int) then
                  .some (Sum.inl (a.fst, v2))
                else
                  bif (↑(UInt8.toNat x0) : Int) == (43 : Int) then
                    .some (Sum.inl (a.fst, v2))
                  else
                    bif v1 then
                      .some (Sum.inr (Sum.inr false))
                    else
                      .some (Sum.inl (a.fst, v2))
    else
      .none
  else
    .some (Sum.inr (Sum.inl a.fst))

noncomputable def fuseeref10_Name_l2 : ((List UInt8) × Int) → Option (((List UInt8)) ⊕ (Bool)) := Vm.iterN fuseeref10_Name_l2_s FUEL

noncomputable def fuseeref10_Name (a : List UInt8) : Option (Bool) :=
  match fuseeref10_Name_l2 (a, (0 : Int)) with
  | .none =>
    .none
  | .some x0 =>
    match x0 with
    | .inl l1 =>
      bif decide ((↑(List.length l1) : Int) ≥ (1 : Int)) then
        .some (decide ((↑(List.length l1) : Int) ≤ (12 : Int)))
      else
        .some (false)
    | .inr r2 =>
      .some (r2)

noncomputable def fuseeref10_off (a : Int) : Option (Bool) :=
  bif decide (a > (-86400 : Int)) then
    .some (decide (a < (86400 : Int)))
  else
    .some (false)

noncomputable def fuseeref10_May_l2_s (a : Int × Zone) : Option ((Int × Zone) ⊕ ((Zone) ⊕ (Bool))) :=
  bif decide (a.fst < (↑(List.length a.snd.L) : Int)) then
    bif decide ((0 : Int) ≤ a.fst) then
      match a.snd.L[Int.toNat a.fst]? with
      | .none =>
        .none
      | .some x0 =>
        match fuseeref10_Name x0.Name with
        | .none =>
          .none
        | .some x1 =>
          bif !x1 then
            .some (Sum.inr (Sum.inr false))
          else
            match fuseeref10_off x0.Off with
            | .none =>
              .none
            | .some x2 =>
              bif !x2 then
                .some (Sum.inr (Sum.inr false))
              else
                bif decide (x0.At < (-1099511627776 : Int)) then
                  .some (Sum.inr (Sum.inr false))
                else
                  bif decide (x0.At > (1099511627776 : Int)) then
                    .some (Sum.inr (Sum.inr false))
                  else
                    let v4 := wi64 (a.fst + (1 : Int))
                    bif decide (a.fst > (0 : Int)) then
                      let v5 := wi64 (a.fst - (1 : Int))
                      bif decide ((0 : Int) ≤ v5) then
                        match a.snd.L[Int.toNat v5]? with
                        | .none =>
                          .none
                        | .some x3 =>
                          bif decide (x0.At ≤ x3.At) then
                            .some (Sum.inr (Sum.inr false))
                          else
                            .some (Sum.inl (v4, a.snd))
                      else
                        .none
                    else
                      .some (Sum.inl (v4, a.snd))
    else
      .none
  else
    .some (Sum.inr (Sum.inl a.snd))

noncomputable def fuseeref10_May_l2 : (Int × Zone) → Option ((Zone) ⊕ (Bool)) := Vm.iterN fuseeref10_May_l2_s FUEL

noncomputable def fuseeref10_May (a : Zone) : Option (Bool) :=
  match fuseeref10_May_l2 ((0 : Int), a) with
  | .none =>
    .none
  | .some x0 =>
    match x0 with
    | .inl l1 =>
      match fuseeref10_Name l1.Name with
      | .none =>
        .none
      | .some x3 =>
        bif x3 then
          match fuseeref10_off l1.First with
          | .none =>
            .none
          | .some x4 =>
            bif x4 then
              .some (decide ((↑(List.length l1.L) : Int) ≤ (32 : Int)))
            else
              .some (false)
        else
          .some (false)
    | .inr r2 =>
      .some (r2)

noncomputable def fuseeref28_May (a : Policy) : Option (Bool) :=
  match fuseeref12_May a.Smear with
  | .none =>
    .none
  | .some x0 =>
    bif x0 then
      match fuseeref24_May a.Quantum with
      | .none =>
        .none
      | .some x1 =>
        bif x1 then
          match fuseeref25_May a.Fuzz with
          | .none =>
            .none
          | .some x2 =>
            bif x2 then
              match fuseeref10_May a.Zone with
              | .none =>
                .none
              | .some x3 =>
                .some (x3)
            else
              .some (false)
        else
          .some (false)
    else
      .some (false)

noncomputable def fuseeref27_Time (a : Int) : Option (Bool) :=
  bif decide (a > (-4611686018427387904 : Int)) then
    .some (decide (a < (4611686018427387904 : Int)))
  else
    .some (false)

noncomputable def fuseeref27_May (a : Pause) : Option (Bool) :=
  match fuseeref27_Time a.At with
  | .none =>
    .none
  | .some x0 =>
    bif x0 then
      let v1 := decide (a.Lost ≥ (0 : Int))
      let v2 := decide (a.Lost ≤ (2305843009213693952 : Int))
      bif a.On then
        bif v1 then
          .some (v2)
        else
          .some (false)
      else
        bif a.At == (0 : Int) then
          bif v1 then
            .some (v2)
          else
            .some (false)
        else
          .some (false)
    else
      .some (false)

noncomputable def fuseeref01_Div (a : Int) (b : Int) : Option (Int × Int) :=
  bif decide (b = (0 : Int)) then
    .none
  else
    let v0 := wi64 (Int.tdiv a b)
    let v1 := wi64 (v0 * b)
    let v2 := wi64 (a - v1)
    bif decide (a < (0 : Int)) then
      bif v1 != a then
        let v3 := wi64 (v0 - (1 : Int))
        .some ((v3, wi64 (a - wi64 (v3 * b))))
      else
        .some ((v0, v2))
    else
      .some ((v0, v2))

noncomputable def fuseeref29_May (a : Tenant) : Option (Bool) :=
  match fuseeref29_Name a.Name with
  | .none =>
    .none
  | .some x0 =>
    bif !x0 then
      .some (false)
    else
      match fuseeref28_May a.P with
      | .none =>
        .none
      | .some x1 =>
        bif !x1 then
          .some (false)
        else
          match fuseeref27_May a.Pause with
          | .none =>
            .none
          | .some x2 =>
            bif !x2 then
              .some (false)
            else
              bif decide (a.Epoch < (0 : Int)) then
                .some (false)
              else
                bif decide (a.Epoch > (1099511627776 : Int)) then
                  .some (false)
                else
                  bif !a.Floor.Set then
                    .some (a.Floor.At == (0 : Int))
                  else
                    match fuseeref01_Div a.Floor.At a.P.Quantum with
                    | .none =>
                      .none
                    | .some x3 =>
                      .some (x3.snd == (0 : Int))

noncomputable def fuseeref10_At_l3_s (a : Int × Int × List UInt8 × Int × Zone) : Option ((Int × Int × (List UInt8) × Int × Zone) ⊕ (Int × (List UInt8))) :=
  bif decide (a.snd.snd.snd.fst < (↑(List.length a.snd.snd.snd.snd.L) : Int)) then
    let v3 := decide ((0 : Int) ≤ a.snd.snd.snd.fst)
    bif v3 then
      let v4 := Int.toNat a.snd.snd.snd.fst
      match a.snd.snd.snd.snd.L[v4]? with
      | .none =>
        .none
      | .some x0 =>
        let v5 := wi64 (a.snd.snd.snd.fst + (1 : Int))
        bif decide (x0.At ≤ a.fst) then
          bif v3 then
            match a.snd.snd.snd.snd.L[v4]? with
            | .none =>
              .none
            | .some x1 =>
              bif v3 then
                match a.snd.snd.snd.snd.L[v4]? with
                | .none =>
                  .none
                | .some x2 =>
                  .some (Sum.inl (a.fst, x1.Off, x2.Name, v5, a.snd.snd.snd.snd))
              else
                .none
          else
            .none
        else
          .some (Sum.inl (a.fst, a.snd.fst, a.snd.snd.fst, v5, a.snd.snd.snd.snd))
    else
      .none
  else
    .some (Sum.inr (a.snd.fst, a.snd.snd.fst))

noncomputable def fuseeref10_At_l3 : (Int × Int × (List UInt8) × Int × Zone) → Option (Int × (List UInt8)) := Vm.iterN fuseeref10_At_l3_s FUEL

noncomputable def fuseeref10_At (a : Zone) (b : Int) : Option (Int × (List UInt8)) :=
  match fuseeref10_At_l3 (b, a.First, a.Name, (0 : Int), a) with
  | .none =>
    .none
  | .some x0 =>
    .some (x0)

noncomputable def fuseeref43_May (a : Moment) : Option (Bool) :=
  bif decide (a.Nano > (-4611686018427387904 : Int)) then
    bif decide (a.Nano < (4611686018427387904 : Int)) then
      bif decide (a.Off ≥ (-86399 : Int)) then
        .some (decide (a.Off ≤ (86399 : Int)))
      else
        .some (false)
    else
      .some (false)
  else
    .some (false)

noncomputable def fuseeref07_Leap (a : Int) : Option (Bool) :=
  bif Int.tmod a (400 : Int) == (0 : Int) then
    .some (true)
  else
    bif Int.tmod a (4 : Int) == (0 : Int) then
      .some (Int.tmod a (100 : Int) != (0 : Int))
    else
      .some (false)

noncomputable def fuseeref07_Month (a : Int) (b : Int) : Option (Int) :=
  bif decide (b < (1 : Int)) then
    .some ((0 : Int))
  else
    bif decide (b > (12 : Int)) then
      .some ((0 : Int))
    else
      let v3 := wi64 (b - (1 : Int))
      let v4 := Int.toNat v3
      let v5 := decide ((0 : Int) ≤ v3)
      let v6 := decide (v3 < (↑(12 : Nat) : Int))
      bif b == (2 : Int) then
        match fuseeref07_Leap a with
        | .none =>
          .none
        | .some x0 =>
          bif x0 then
            .some ((29 : Int))
          else
            bif v5 then
              bif v6 then
                match [(31 : Int), (28 : Int), (31 : Int), (30 : Int), (31 : Int), (30 : Int), (31 : Int), (31 : Int), (30 : Int), (31 : Int), (30 : Int), (31 : Int)][v4]? with
                | .none =>
                  .none
                | .some x1 =>
                  .some (x1)
              else
                .none
            else
              .none
      else
        bif v5 then
          bif v6 then
            match [(31 : Int), (28 : Int), (31 : Int), (30 : Int), (31 : Int), (30 : Int), (31 : Int), (31 : Int), (30 : Int), (31 : Int), (30 : Int), (31 : Int)][v4]? with
            | .none =>
              .none
            | .some x2 =>
              .some (x2)
          else
            .none
        else
          .none

noncomputable def fuseeref07_Of_l11_s (a : Int × Date × Date) : Option ((Int × Date × Date) ⊕ (Int × Date × Date)) :=
  let v2 := fuseeref07_Month a.snd.snd.Y a.snd.snd.M
  match v2 with
  | .none =>
    .none
  | .some x0 =>
    bif decide (a.fst ≥ x0) then
      match v2 with
      | .none =>
        .none
      | .some x1 =>
        .some (Sum.inl (wi64 (a.fst - x1), a.snd.fst, Date.mk a.snd.snd.Y (wi64 (a.snd.snd.M + (1 : Int))) a.snd.snd.D))
    else
      .some (Sum.inr a)

noncomputable def fuseeref07_Of_l11 : (Int × Date × Date) → Option (Int × Date × Date) := Vm.iterN fuseeref07_Of_l11_s FUEL

noncomputable def fuseeref07_Of_l5_s (a : Int × Date × Date) : Option ((Int × Date × Date) ⊕ (Int × Date × Date)) :=
  match fuseeref07_Leap a.snd.snd.Y with
  | .none =>
    .none
  | .some x0 =>
    let v1 := wi64 (a.snd.snd.Y + (1 : Int))
    bif x0 then
      bif decide (a.fst < (366 : Int)) then
        .some (Sum.inr a)
      else
        .some (Sum.inl (wi64 (a.fst - (366 : Int)), a.snd.fst, Date.mk v1 a.snd.snd.M a.snd.snd.D))
    else
      bif decide (a.fst < (365 : Int)) then
        .some (Sum.inr a)
      else
        .some (Sum.inl (wi64 (a.fst - (365 : Int)), a.snd.fst, Date.mk v1 a.snd.snd.M a.snd.snd.D))

noncomputable def fuseeref07_Of_l5 : (Int × Date × Date) → Option (Int × Date × Date) := Vm.iterN fuseeref07_Of_l5_s FUEL

noncomputable def fuseeref07_Of (a : Int) : Option (Date × Int) :=
  bif decide (a < (-719162 : Int)) then
    .some ((Date.mk (0 : Int) (0 : Int) (0 : Int), (2 : Int)))
  else
    bif decide (a > (2932896 : Int)) then
      .some ((Date.mk (0 : Int) (0 : Int) (0 : Int), (2 : Int)))
    else
      match fuseeref07_Of_l5 (wi64 (a + (719162 : Int)), Date.mk (0 : Int) (0 : Int) (0 : Int), Date.mk (1 : Int) (1 : Int) (1 : Int)) with
      | .none =>
        .none
      | .some x0 =>
        match fuseeref07_Of_l11 x0 with
        | .none =>
          .none
        | .some x1 =>
          .some ((Date.mk x1.snd.snd.Y x1.snd.snd.M (wi64 ((1 : Int) + x1.fst)), (0 : Int)))

noncomputable def fuseeref08_Of (a : Int) : Option (Time) :=
  bif a == (86400 : Int) then
    .some (Time.mk (23 : Int) (59 : Int) (60 : Int))
  else
    let v0 := wi64 (Int.tdiv a (60 : Int))
    .some (Time.mk (wi64 (Int.tdiv v0 (60 : Int))) (Int.tmod v0 (60 : Int)) (Int.tmod a (60 : Int)))

noncomputable def fuseeref07_Two_l3_s (a : Int × Int × List UInt8 × Int) : Option ((Int × Int × (List UInt8) × Int) ⊕ ((List UInt8))) :=
  bif decide (a.snd.snd.snd < a.snd.fst) then
    let v0 := Int.tmod a.fst (10 : Int)
    let v1 := wi64 (v0 + (1 : Int))
    bif Vm.within v0 v1 (↑(10 : Nat) : Int) then
      let v2 := Vm.cut [(48 : UInt8), (49 : UInt8), (50 : UInt8), (51 : UInt8), (52 : UInt8), (53 : UInt8), (54 : UInt8), (55 : UInt8), (56 : UInt8), (57 : UInt8)] v0 v1
      bif Nat.ble (List.length v2 + List.length a.snd.snd.fst) (9223372036854775807 : Nat) then
        .some (Sum.inl (wi64 (Int.tdiv a.fst (10 : Int)), a.snd.fst, v2 ++ a.snd.snd.fst, wi64 (a.snd.snd.snd + (1 : Int))))
      else
        .none
    else
      .none
  else
    .some (Sum.inr a.snd.snd.fst)

noncomputable def fuseeref07_Two_l3 : (Int × Int × (List UInt8) × Int) → Option ((List UInt8)) := Vm.iterN fuseeref07_Two_l3_s FUEL

noncomputable def fuseeref07_Two (a : Int) (b : Int) : Option ((List UInt8)) :=
  match fuseeref07_Two_l3 (a, b, [], (0 : Int)) with
  | .none =>
    .none
  | .some x0 =>
    .some (x0)

noncomputable def fuseeref07_Text (a : Date) : Option ((List UInt8)) :=
  match fuseeref07_Two a.Y (4 : Int) with
  | .none =>
    .none
  | .some x0 =>
    bif Nat.ble (List.length x0 + (1 : Nat)) (9223372036854775807 : Nat) then
      match fuseeref07_Two a.M (2 : Int) with
      | .none =>
        .none
      | .some x1 =>
        bif Nat.ble (List.length (x0 ++ [(45 : UInt8)]) + List.length x1) (9223372036854775807 : Nat) then
          bif Nat.ble (List.length (x0 ++ [(45 : UInt8)] ++ x1) + (1 : Nat)) (9223372036854775807 : Nat) then
            match fuseeref07_Two a.D (2 : Int) with
            | .none =>
              .none
            | .some x2 =>
              bif Nat.ble (List.length (x0 ++ [(45 : UInt8)] ++ x1 ++ [(45 : UInt8)]) + List.length x2) (9223372036854775807 : Nat) then
                .some (x0 ++ [(45 : UInt8)] ++ x1 ++ [(45 : UInt8)] ++ x2)
              else
                .none
          else
            .none
        else
          .none
    else
      .none

noncomputable def fuseeref08_Stamp (a : Int) (b : Int) (c : Int) : Option ((List UInt8) × Int) :=
  bif decide (b < (0 : Int)) then
    .some (([], (1 : Int)))
  else
    bif decide (b > (86400 : Int)) then
      .some (([], (1 : Int)))
    else
      bif decide (c < (0 : Int)) then
        .some (([], (1 : Int)))
      else
        bif decide (c > (999999999 : Int)) then
          .some (([], (1 : Int)))
        else
          match fuseeref07_Of a with
          | .none =>
            .none
          | .some x0 =>
            bif x0.snd != (0 : Int) then
              .some (([], x0.snd))
            else
              match fuseeref08_Of b with
              | .none =>
                .none
              | .some x1 =>
                match fuseeref07_Text x0.fst with
                | .none =>
                  .none
                | .some x2 =>
                  bif Nat.ble (List.length x2 + (1 : Nat)) (9223372036854775807 : Nat) then
                    match fuseeref07_Two x1.H (2 : Int) with
                    | .none =>
                      .none
                    | .some x3 =>
                      bif Nat.ble (List.length (x2 ++ [(84 : UInt8)]) + List.length x3) (9223372036854775807 : Nat) then
                        bif Nat.ble (List.length (x2 ++ [(84 : UInt8)] ++ x3) + (1 : Nat)) (9223372036854775807 : Nat) then
                          match fuseeref07_Two x1.M (2 : Int) with
                          | .none =>
                            .none
                          | .some x4 =>
                            bif Nat.ble (List.length (x2 ++ [(84 : UInt8)] ++ x3 ++ [(58 : UInt8)]) + List.length x4) (9223372036854775807 : Nat) then
                              bif Nat.ble (List.length (x2 ++ [(84 : UInt8)] ++ x3 ++ [(58 : UInt8)] ++ x4) + (1 : Nat)) (9223372036854775807 : Nat) then
                                match fuseeref07_Two x1.S (2 : Int) with
                                | .none =>
                                  .none
                                | .some x5 =>
                                  bif Nat.ble (List.length (x2 ++ [(84 : UInt8)] ++ x3 ++ [(58 : UInt8)] ++ x4 ++ [(58 : UInt8)]) + List.length x5) (9223372036854775807 : Nat) then
                                    bif Nat.ble (List.length (x2 ++ [(84 : UInt8)] ++ x3 ++ [(58 : UInt8)] ++ x4 ++ [(58 : UInt8)] ++ x5) + (1 : Nat)) (9223372036854775807 : Nat) then
                                      match fuseeref07_Two c (9 : Int) with
                                      | .none =>
                                        .none
                                      | .some x6 =>
                                        bif Nat.ble (List.length (x2 ++ [(84 : UInt8)] ++ x3 ++ [(58 : UInt8)] ++ x4 ++ [(58 : UInt8)] ++ x5 ++ [(46 : UInt8)]) + List.length x6) (9223372036854775807 : Nat) then
                                          .some ((x2 ++ [(84 : UInt8)] ++ x3 ++ [(58 : UInt8)] ++ x4 ++ [(58 : UInt8)] ++ x5 ++ [(46 : UInt8)] ++ x6, (0 : Int)))
                                        else
                                          .none
                                    else
                                      .none
                                  else
                                    .none
                              else
                                .none
                            else
                              .none
                        else
                          .none
                      else
                        .none
                  else
                    .none

noncomputable def fuseeref43_added (a : Int) : Option ((List UInt8)) :=
  bif decide (a < (0 : Int)) then
    let v6 := wi64 ((0 : Int) - a)
    match fuseeref07_Two (wi64 (Int.tdiv v6 (3600 : Int))) (2 : Int) with
    | .none =>
      .none
    | .some x0 =>
      bif Nat.ble ((1 : Nat) + List.length x0) (9223372036854775807 : Nat) then
        bif Nat.ble (List.length ([(45 : UInt8)] ++ x0) + (1 : Nat)) (9223372036854775807 : Nat) then
          match fuseeref07_Two (Int.tmod (wi64 (Int.tdiv v6 (60 : Int))) (60 : Int)) (2 : Int) with
          | .none =>
            .none
          | .some x1 =>
            bif Nat.ble (List.length ([(45 : UInt8)] ++ x0 ++ [(58 : UInt8)]) + List.length x1) (9223372036854775807 : Nat) then
              let v7 := Int.tmod v6 (60 : Int)
              bif decide (v7 > (0 : Int)) then
                bif Nat.ble (List.length ([(45 : UInt8)] ++ x0 ++ [(58 : UInt8)] ++ x1) + (1 : Nat)) (9223372036854775807 : Nat) then
                  match fuseeref07_Two v7 (2 : Int) with
                  | .none =>
                    .none
                  | .some x2 =>
                    bif Nat.ble (List.length ([(45 : UInt8)] ++ x0 ++ [(58 : UInt8)] ++ x1 ++ [(58 : UInt8)]) + List.length x2) (9223372036854775807 : Nat) then
                      .some ([(45 : UInt8)] ++ x0 ++ [(58 : UInt8)] ++ x1 ++ [(58 : UInt8)] ++ x2)
                    else
                      .none
                else
                  .none
              else
                .some ([(45 : UInt8)] ++ x0 ++ [(58 : UInt8)] ++ x1)
            else
              .none
        else
          .none
      else
        .none
  else
    match fuseeref07_Two (wi64 (Int.tdiv a (3600 : Int))) (2 : Int) with
    | .none =>
      .none
    | .some x3 =>
      bif Nat.ble ((1 : Nat) + List.length x3) (9223372036854775807 : Nat) then
        bif Nat.ble (List.length ([(43 : UInt8)] ++ x3) + (1 : Nat)) (9223372036854775807 : Nat) then
          match fuseeref07_Two (Int.tmod (wi64 (Int.tdiv a (60 : Int))) (60 : Int)) (2 : Int) with
          | .none =>
            .none
          | .some x4 =>
            bif Nat.ble (List.length ([(43 : UInt8)] ++ x3 ++ [(58 : UInt8)]) + List.length x4) (9223372036854775807 : Nat) then
              let v8 := Int.tmod a (60 : Int)
              bif decide (v8 > (0 : Int)) then
                bif Nat.ble (List.length ([(43 : UInt8)] ++ x3 ++ [(58 : UInt8)] ++ x4) + (1 : Nat)) (9223372036854775807 : Nat) then
                  match fuseeref07_Two v8 (2 : Int) with
                  | .none =>
                    .none
                  | .some x5 =>
                    bif Nat.ble (List.length ([(43 : UInt8)] ++ x3 ++ [(58 : UInt8)] ++ x4 ++ [(58 : UInt8)]) + List.length x5) (9223372036854775807 : Nat) then
                      .some ([(43 : UInt8)] ++ x3 ++ [(58 : UInt8)] ++ x4 ++ [(58 : UInt8)] ++ x5)
                    else
                      .none
                else
                  .none
              else
                .some ([(43 : UInt8)] ++ x3 ++ [(58 : UInt8)] ++ x4)
            else
              .none
        else
          .none
      else
        .none

noncomputable def fuseeref43_Text (a : Moment) : Option ((List UInt8) × Int) :=
  match fuseeref43_May a with
  | .none =>
    .none
  | .some x0 =>
    bif !x0 then
      .some (([], (1 : Int)))
    else
      match fuseeref01_Div a.Nano (1000000000 : Int) with
      | .none =>
        .none
      | .some x1 =>
        match fuseeref01_Div (wi64 (x1.fst + a.Off)) (86400 : Int) with
        | .none =>
          .none
        | .some x2 =>
          match fuseeref08_Stamp x2.fst x2.snd x1.snd with
          | .none =>
            .none
          | .some x3 =>
            match fuseeref43_added a.Off with
            | .none =>
              .none
            | .some x4 =>
              bif Nat.ble (List.length x3.fst + List.length x4) (9223372036854775807 : Nat) then
                .some ((x3.fst ++ x4, (0 : Int)))
              else
                .none

noncomputable def fuseeref43_digits_l2_s (a : Int × List UInt8) : Option ((Int × (List UInt8)) ⊕ ((List UInt8))) :=
  let v0 := Int.tmod a.fst (10 : Int)
  let v1 := wi64 (Int.tdiv a.fst (10 : Int))
  let v2 := wi64 (v0 + (1 : Int))
  let v3 := Vm.within v0 v2 (↑(10 : Nat) : Int)
  let v4 := Vm.cut [(48 : UInt8), (49 : UInt8), (50 : UInt8), (51 : UInt8), (52 : UInt8), (53 : UInt8), (54 : UInt8), (55 : UInt8), (56 : UInt8), (57 : UInt8)] v0 v2
  let v5 := Nat.ble (List.length v4 + List.length a.snd) (9223372036854775807 : Nat)
  bif decide (a.fst > (0 : Int)) then
    bif v3 then
      bif v5 then
        .some (Sum.inl (v1, v4 ++ a.snd))
      else
        .none
    else
      .none
  else
    bif a.snd == [] then
      bif v3 then
        bif v5 then
          .some (Sum.inl (v1, v4 ++ a.snd))
        else
          .none
      else
        .none
    else
      .some (Sum.inr a.snd)

noncomputable def fuseeref43_digits_l2 : (Int × (List UInt8)) → Option ((List UInt8)) := Vm.iterN fuseeref43_digits_l2_s FUEL

noncomputable def fuseeref43_digits (a : Int) : Option ((List UInt8)) :=
  match fuseeref43_digits_l2 (a, []) with
  | .none =>
    .none
  | .some x0 =>
    .some (x0)

noncomputable def fuseeref43_Length_l5_s (a : List UInt8 × List UInt8) : Option (((List UInt8) × (List UInt8)) ⊕ ((List UInt8) × (List UInt8))) :=
  let v1 := List.length a.snd
  bif decide ((↑v1 : Int) > (0 : Int)) then
    let v2 := wi64 ((↑v1 : Int) - (1 : Int))
    bif decide ((0 : Int) ≤ v2) then
      match a.snd[Int.toNat v2]? with
      | .none =>
        .none
      | .some x0 =>
        bif (↑(UInt8.toNat x0) : Int) == (48 : Int) then
          bif Vm.within (0 : Int) v2 (↑v1 : Int) then
            .some (Sum.inl (a.fst, Vm.cut a.snd (0 : Int) v2))
          else
            .none
        else
          .some (Sum.inr a)
    else
      .none
  else
    .some (Sum.inr a)

noncomputable def fuseeref43_Length_l5 : ((List UInt8) × (List UInt8)) → Option ((List UInt8) × (List UInt8)) := Vm.iterN fuseeref43_Length_l5_s FUEL

noncomputable def fuseeref43_Length (a : Int) : Option ((List UInt8) × Int) :=
  bif decide (a < (0 : Int)) then
    .some (([], (1 : Int)))
  else
    match fuseeref43_digits (wi64 (Int.tdiv a (1000000000 : Int))) with
    | .none =>
      .none
    | .some x0 =>
      match fuseeref07_Two (Int.tmod a (1000000000 : Int)) (9 : Int) with
      | .none =>
        .none
      | .some x1 =>
        match fuseeref43_Length_l5 (x0, x1) with
        | .none =>
          .none
        | .some x2 =>
          let v3 := Nat.ble (List.length x2.fst + (1 : Nat)) (9223372036854775807 : Nat)
          bif !x2.snd == [] then
            bif v3 then
              bif Nat.ble (List.length (x2.fst ++ [(46 : UInt8)]) + List.length x2.snd) (9223372036854775807 : Nat) then
                bif Nat.ble (List.length (x2.fst ++ [(46 : UInt8)] ++ x2.snd) + (1 : Nat)) (9223372036854775807 : Nat) then
                  .some ((x2.fst ++ [(46 : UInt8)] ++ x2.snd ++ [(115 : UInt8)], (0 : Int)))
                else
                  .none
              else
                .none
            else
              .none
          else
            bif v3 then
              .some ((x2.fst ++ [(115 : UInt8)], (0 : Int)))
            else
              .none

noncomputable def fuseeref43_Reading (a : Tenant) (b : Reading) : Option ((List UInt8) × Int) :=
  match fuseeref29_May a with
  | .none =>
    .none
  | .some x0 =>
    bif !x0 then
      .some (([], (1 : Int)))
    else
      bif decide (b.Bound < (0 : Int)) then
        .some (([], (1 : Int)))
      else
        match fuseeref01_Div b.Value (1000000000 : Int) with
        | .none =>
          .none
        | .some x1 =>
          match fuseeref10_At a.P.Zone x1.fst with
          | .none =>
            .none
          | .some x2 =>
            match fuseeref43_Text (Moment.mk b.Value x2.fst) with
            | .none =>
              .none
            | .some x3 =>
              bif x3.snd != (0 : Int) then
                .some (([], x3.snd))
              else
                match fuseeref43_Length b.Bound with
                | .none =>
                  .none
                | .some x4 =>
                  bif Nat.ble (List.length x3.fst + (4 : Nat)) (9223372036854775807 : Nat) then
                    bif Nat.ble (List.length (x3.fst ++ [(32 : UInt8), (43 : UInt8), (45 : UInt8), (32 : UInt8)]) + List.length x4.fst) (9223372036854775807 : Nat) then
                      .some ((x3.fst ++ [(32 : UInt8), (43 : UInt8), (45 : UInt8), (32 : UInt8)] ++ x4.fst, (0 : Int)))
                    else
                      .none
                  else
                    .none

noncomputable def fuseelaw43_ToldReads (a : Tenant) (b : Int) (c : Int) : Option (Bool) :=
  match law_bigTenant a with
  | .none =>
    .none
  | .some x0 =>
    bif x0 then
      match fuseelaw43_sure with
      | .none =>
        .none
      | .some x1 =>
        .some (x1)
    else
      match law_giveTenant a with
      | .none =>
        .none
      | .some x2 =>
        match told_Reading x2 (Reading.mk b c (0 : Int) (0 : Int)) with
        | .none =>
          .none
        | .some x3 =>
          match fuseeref43_Reading a (Reading.mk b c (0 : Int) (0 : Int)) with
          | .none =>
            .none
          | .some x4 =>
            bif x3.fst == x4.fst then
              match law_num x3.snd with
              | .none =>
                .none
              | .some x5 =>
                bif x5 == x4.snd then
                  match fuseelaw43_sure with
                  | .none =>
                    .none
                  | .some x6 =>
                    .some (x6)
                else
                  .some (false)
            else
              .some (false)

end Vm.Fu
