/- burnishlaw16.DecimalBack at a number that is not 0: the walk, by what the text's parts are. Conditions: as each theorem states. -/
import Derived.Test.YtbjengfoaobdbaaGreatDoorDeK
namespace Go.Proofs.YtbjengfoaobdbaaGreatDoor.lawd
open Go.RowKit
open Go.Proofs.YtbjengfoaobdbaaGreatDoor.nodew
open Go.Proofs.YtbjengfoaobdbaaGreatDoor.rdf
open Go.Proofs.YtbjengfoaobdbaaGreatDoor.prnw
open Go.Proofs.YtbjengfoaobdbaaGreatDoor.fpm
open Go.Proofs.YtbjengfoaobdbaaGreatDoor.dmx
open Go.Proofs.YtbjengfoaobdbaaGreatDoor.flatm
open Go.Proofs.YtbjengfoaobdbaaGreatDoor.dirw
attribute [local go_sem] nodew.fo_eq

set_option maxRecDepth 100000 in
set_option maxHeartbeats 2000000 in
theorem core_no (B x y X : Nat) (S S2 T HS' PS RS GS : ByteArray) (bl : Bool) (w : World) (hE : LE B w)
    (P1 : RowKit.Hid (∀ v : World, LE B v → Calls Tryz.prog 14 #[.float .f64 x] v (Bel v (.tuple #[.string S, .int .i64 0]))))
    (P2 : RowKit.Hid (∀ v : World, LE B v → Calls Tryz.prog 14 #[.float .f64 y] v (Bel v (.tuple #[.string S2, .int .i64 0]))))
    (HR : RowKit.Hid (∀ v : World, Calls Tryz.prog 8 #[.float .f64 x] v fun e w' => e = .returned (.bool true) ∧ w' = v))
    (HA : RowKit.Hid (∀ v : World, Calls Tryz.prog 15 #[.float .f64 x] v fun e w' => e = .returned (.float .f64 X) ∧ w' = v))
    (HS : RowKit.Hid (∀ v : World, LE B v → Calls Tryz.prog 9 #[.string S, .float .f64 x] v (Bel v (.bool true))))
    (T1 : RowKit.Hid (∀ v : World, Calls Tryz.prog 16 #[.string (⟨#[45]⟩ ++ S2), .string ⟨#[45, 45]⟩] v fun e w' => e = .returned (.string S) ∧ w' = v))
    (T2 : RowKit.Hid (∀ v : World, Calls Tryz.prog 16 #[.string S, .string ⟨#[45]⟩] v fun e w' => e = .returned (.string T) ∧ w' = v))
    (HC : RowKit.Hid (∀ v : World, LE B v → Calls Tryz.prog 17 #[.string T, .string ⟨#[101]⟩] v (Bel v (.tuple #[.string HS', .string PS, .bool bl]))))
    (HP : RowKit.Hid (∀ v : World, LE B v → Calls Tryz.prog 19 #[.string HS', .string ⟨#[46]⟩, .string ⟨#[]⟩, .int .i64 1] v (Bel v (.string RS))))
    (TL : RowKit.Hid (∀ v : World, Calls Tryz.prog 18 #[.string RS, .string ⟨#[48]⟩] v fun e w' => e = .returned (.string GS) ∧ w' = v))
    (AW : RowKit.Hid (∀ v : World, LE B v → Calls Tryz.prog 10 #[] v (Bel v (.bool true))))
    (hun : ∀ W : World, (Op.unary .neg (.float .f64 x)).run Tryz.prog W = .ok (.float .f64 y) W)
    (f1 : (fo X 4742290407621132288 == some .gt) = false) (f2 : (fo x 0 == some .eq) = false) (s1 : S.size ≤ 24) (s2 : S2.size ≤ 24)
    (CT : RowKit.Hid (∀ v : World, LE B v → Calls Tryz.prog 20 #[.string HS', .string ⟨#[46]⟩] v fun e w' => e = .returned (.bool false) ∧ w' = v))
    (G2 : ByteArray) (TR : RowKit.Hid (∀ v : World, Calls Tryz.prog 21 #[.string GS, .string ⟨#[48]⟩] v fun e w' => e = .returned (.string G2) ∧ w' = v)) (g2 : G2.size ≤ 17) :
    Calls Tryz.prog 5 #[.float .f64 x] w (Bel w (.bool true)) := by
  have E0 := Lib.hid hE
  have B0 := Lib.hid (Below.refl w.heap.size w)
  clear hE
  have g3 : (G2.size : Int) ≤ 17 := by omega
  by_cases h2 : G2.size < 2
  · have h3 : (G2.size : Int) < 2 := by omega
    clear h2
    go_enter Tryz.func5, Tryz.ntmps5
    go_wp2_with (first
      | (go_at_call 14; (with_reducible refine (P1.out _ E0.out).mono ?_); rintro e v ⟨rfl, hb⟩; have EN := Lib.hid (E0.out.below hb); have BN := Lib.hid (B0.out.trans (hb.mono B0.out.size)); clear hb E0 B0; have E0 := EN; have B0 := BN; clear EN BN)
      | (go_at_call 14; (with_reducible refine (P2.out _ E0.out).mono ?_); rintro e v ⟨rfl, hb⟩; have EN := Lib.hid (E0.out.below hb); have BN := Lib.hid (B0.out.trans (hb.mono B0.out.size)); clear hb E0 B0; have E0 := EN; have B0 := BN; clear EN BN)
      | (go_at_call 8; (with_reducible refine (HR.out _).mono ?_); rintro e v ⟨rfl, rfl⟩)
      | (go_at_call 15; (with_reducible refine (HA.out _).mono ?_); rintro e v ⟨rfl, rfl⟩)
      | (go_at_call 9; (with_reducible refine (HS.out _ E0.out).mono ?_); rintro e v ⟨rfl, hb⟩; have EN := Lib.hid (E0.out.below hb); have BN := Lib.hid (B0.out.trans (hb.mono B0.out.size)); clear hb E0 B0; have E0 := EN; have B0 := BN; clear EN BN)
      | (go_at_call 16; (with_reducible refine (T1.out _).mono ?_); rintro e v ⟨rfl, rfl⟩)
      | (go_at_call 16; (with_reducible refine (T2.out _).mono ?_); rintro e v ⟨rfl, rfl⟩)
      | (go_at_call 17; (with_reducible refine (HC.out _ E0.out).mono ?_); rintro e v ⟨rfl, hb⟩; have EN := Lib.hid (E0.out.below hb); have BN := Lib.hid (B0.out.trans (hb.mono B0.out.size)); clear hb E0 B0; have E0 := EN; have B0 := BN; clear EN BN)
      | (go_at_call 19; (with_reducible refine (HP.out _ E0.out).mono ?_); rintro e v ⟨rfl, hb⟩; have EN := Lib.hid (E0.out.below hb); have BN := Lib.hid (B0.out.trans (hb.mono B0.out.size)); clear hb E0 B0; have E0 := EN; have B0 := BN; clear EN BN)
      | (go_at_call 18; (with_reducible refine (TL.out _).mono ?_); rintro e v ⟨rfl, rfl⟩)
      | (go_at_call 21; (with_reducible refine (TR.out _).mono ?_); rintro e v ⟨rfl, rfl⟩)
      | (go_at_call 20; (with_reducible refine (CT.out _ E0.out).mono ?_); rintro e v ⟨rfl, rfl⟩)
      | (go_at_call 10; (with_reducible refine (AW.out _ E0.out).mono ?_); rintro e v ⟨rfl, hb⟩; have EN := Lib.hid (E0.out.below hb); have BN := Lib.hid (B0.out.trans (hb.mono B0.out.size)); clear hb E0 B0; have E0 := EN; have B0 := BN; clear EN BN))
    go_ret
    exact ⟨rfl, B0.out⟩
  · have h3 : (2 : Int) ≤ (G2.size : Int) := by omega
    clear h2
    go_enter Tryz.func5, Tryz.ntmps5
    go_wp2_with (first
      | (go_at_call 14; (with_reducible refine (P1.out _ E0.out).mono ?_); rintro e v ⟨rfl, hb⟩; have EN := Lib.hid (E0.out.below hb); have BN := Lib.hid (B0.out.trans (hb.mono B0.out.size)); clear hb E0 B0; have E0 := EN; have B0 := BN; clear EN BN)
      | (go_at_call 14; (with_reducible refine (P2.out _ E0.out).mono ?_); rintro e v ⟨rfl, hb⟩; have EN := Lib.hid (E0.out.below hb); have BN := Lib.hid (B0.out.trans (hb.mono B0.out.size)); clear hb E0 B0; have E0 := EN; have B0 := BN; clear EN BN)
      | (go_at_call 8; (with_reducible refine (HR.out _).mono ?_); rintro e v ⟨rfl, rfl⟩)
      | (go_at_call 15; (with_reducible refine (HA.out _).mono ?_); rintro e v ⟨rfl, rfl⟩)
      | (go_at_call 9; (with_reducible refine (HS.out _ E0.out).mono ?_); rintro e v ⟨rfl, hb⟩; have EN := Lib.hid (E0.out.below hb); have BN := Lib.hid (B0.out.trans (hb.mono B0.out.size)); clear hb E0 B0; have E0 := EN; have B0 := BN; clear EN BN)
      | (go_at_call 16; (with_reducible refine (T1.out _).mono ?_); rintro e v ⟨rfl, rfl⟩)
      | (go_at_call 16; (with_reducible refine (T2.out _).mono ?_); rintro e v ⟨rfl, rfl⟩)
      | (go_at_call 17; (with_reducible refine (HC.out _ E0.out).mono ?_); rintro e v ⟨rfl, hb⟩; have EN := Lib.hid (E0.out.below hb); have BN := Lib.hid (B0.out.trans (hb.mono B0.out.size)); clear hb E0 B0; have E0 := EN; have B0 := BN; clear EN BN)
      | (go_at_call 19; (with_reducible refine (HP.out _ E0.out).mono ?_); rintro e v ⟨rfl, hb⟩; have EN := Lib.hid (E0.out.below hb); have BN := Lib.hid (B0.out.trans (hb.mono B0.out.size)); clear hb E0 B0; have E0 := EN; have B0 := BN; clear EN BN)
      | (go_at_call 18; (with_reducible refine (TL.out _).mono ?_); rintro e v ⟨rfl, rfl⟩)
      | (go_at_call 21; (with_reducible refine (TR.out _).mono ?_); rintro e v ⟨rfl, rfl⟩)
      | (go_at_call 20; (with_reducible refine (CT.out _ E0.out).mono ?_); rintro e v ⟨rfl, rfl⟩)
      | (go_at_call 10; (with_reducible refine (AW.out _ E0.out).mono ?_); rintro e v ⟨rfl, hb⟩; have EN := Lib.hid (E0.out.below hb); have BN := Lib.hid (B0.out.trans (hb.mono B0.out.size)); clear hb E0 B0; have E0 := EN; have B0 := BN; clear EN BN))
    go_ret
    exact ⟨rfl, B0.out⟩
set_option maxRecDepth 100000 in
set_option maxHeartbeats 2000000 in
theorem core_few (B x y X : Nat) (S S2 T HS' PS RS GS : ByteArray) (bl : Bool) (w : World) (hE : LE B w)
    (P1 : RowKit.Hid (∀ v : World, LE B v → Calls Tryz.prog 14 #[.float .f64 x] v (Bel v (.tuple #[.string S, .int .i64 0]))))
    (P2 : RowKit.Hid (∀ v : World, LE B v → Calls Tryz.prog 14 #[.float .f64 y] v (Bel v (.tuple #[.string S2, .int .i64 0]))))
    (HR : RowKit.Hid (∀ v : World, Calls Tryz.prog 8 #[.float .f64 x] v fun e w' => e = .returned (.bool true) ∧ w' = v))
    (HA : RowKit.Hid (∀ v : World, Calls Tryz.prog 15 #[.float .f64 x] v fun e w' => e = .returned (.float .f64 X) ∧ w' = v))
    (HS : RowKit.Hid (∀ v : World, LE B v → Calls Tryz.prog 9 #[.string S, .float .f64 x] v (Bel v (.bool true))))
    (T1 : RowKit.Hid (∀ v : World, Calls Tryz.prog 16 #[.string (⟨#[45]⟩ ++ S2), .string ⟨#[45, 45]⟩] v fun e w' => e = .returned (.string S) ∧ w' = v))
    (T2 : RowKit.Hid (∀ v : World, Calls Tryz.prog 16 #[.string S, .string ⟨#[45]⟩] v fun e w' => e = .returned (.string T) ∧ w' = v))
    (HC : RowKit.Hid (∀ v : World, LE B v → Calls Tryz.prog 17 #[.string T, .string ⟨#[101]⟩] v (Bel v (.tuple #[.string HS', .string PS, .bool bl]))))
    (HP : RowKit.Hid (∀ v : World, LE B v → Calls Tryz.prog 19 #[.string HS', .string ⟨#[46]⟩, .string ⟨#[]⟩, .int .i64 1] v (Bel v (.string RS))))
    (TL : RowKit.Hid (∀ v : World, Calls Tryz.prog 18 #[.string RS, .string ⟨#[48]⟩] v fun e w' => e = .returned (.string GS) ∧ w' = v))
    (AW : RowKit.Hid (∀ v : World, LE B v → Calls Tryz.prog 10 #[] v (Bel v (.bool true))))
    (hun : ∀ W : World, (Op.unary .neg (.float .f64 x)).run Tryz.prog W = .ok (.float .f64 y) W)
    (f1 : (fo X 4742290407621132288 == some .gt) = false) (f2 : (fo x 0 == some .eq) = false) (s1 : S.size ≤ 24) (s2 : S2.size ≤ 24)
    (CT : RowKit.Hid (∀ v : World, LE B v → Calls Tryz.prog 20 #[.string HS', .string ⟨#[46]⟩] v fun e w' => e = .returned (.bool true) ∧ w' = v)) (g2 : GS.size < 2) :
    Calls Tryz.prog 5 #[.float .f64 x] w (Bel w (.bool true)) := by
  have E0 := Lib.hid hE
  have B0 := Lib.hid (Below.refl w.heap.size w)
  clear hE
  have g3 : (GS.size : Int) < 2 := by omega
  go_enter Tryz.func5, Tryz.ntmps5
  go_wp2_with (first
    | (go_at_call 14; (with_reducible refine (P1.out _ E0.out).mono ?_); rintro e v ⟨rfl, hb⟩; have EN := Lib.hid (E0.out.below hb); have BN := Lib.hid (B0.out.trans (hb.mono B0.out.size)); clear hb E0 B0; have E0 := EN; have B0 := BN; clear EN BN)
    | (go_at_call 14; (with_reducible refine (P2.out _ E0.out).mono ?_); rintro e v ⟨rfl, hb⟩; have EN := Lib.hid (E0.out.below hb); have BN := Lib.hid (B0.out.trans (hb.mono B0.out.size)); clear hb E0 B0; have E0 := EN; have B0 := BN; clear EN BN)
    | (go_at_call 8; (with_reducible refine (HR.out _).mono ?_); rintro e v ⟨rfl, rfl⟩)
    | (go_at_call 15; (with_reducible refine (HA.out _).mono ?_); rintro e v ⟨rfl, rfl⟩)
    | (go_at_call 9; (with_reducible refine (HS.out _ E0.out).mono ?_); rintro e v ⟨rfl, hb⟩; have EN := Lib.hid (E0.out.below hb); have BN := Lib.hid (B0.out.trans (hb.mono B0.out.size)); clear hb E0 B0; have E0 := EN; have B0 := BN; clear EN BN)
    | (go_at_call 16; (with_reducible refine (T1.out _).mono ?_); rintro e v ⟨rfl, rfl⟩)
    | (go_at_call 16; (with_reducible refine (T2.out _).mono ?_); rintro e v ⟨rfl, rfl⟩)
    | (go_at_call 17; (with_reducible refine (HC.out _ E0.out).mono ?_); rintro e v ⟨rfl, hb⟩; have EN := Lib.hid (E0.out.below hb); have BN := Lib.hid (B0.out.trans (hb.mono B0.out.size)); clear hb E0 B0; have E0 := EN; have B0 := BN; clear EN BN)
    | (go_at_call 19; (with_reducible refine (HP.out _ E0.out).mono ?_); rintro e v ⟨rfl, hb⟩; have EN := Lib.hid (E0.out.below hb); have BN := Lib.hid (B0.out.trans (hb.mono B0.out.size)); clear hb E0 B0; have E0 := EN; have B0 := BN; clear EN BN)
    | (go_at_call 18; (with_reducible refine (TL.out _).mono ?_); rintro e v ⟨rfl, rfl⟩)
    | (go_at_call 20; (with_reducible refine (CT.out _ E0.out).mono ?_); rintro e v ⟨rfl, rfl⟩)
    | (go_at_call 10; (with_reducible refine (AW.out _ E0.out).mono ?_); rintro e v ⟨rfl, hb⟩; have EN := Lib.hid (E0.out.below hb); have BN := Lib.hid (B0.out.trans (hb.mono B0.out.size)); clear hb E0 B0; have E0 := EN; have B0 := BN; clear EN BN))
  go_ret
  exact ⟨rfl, B0.out⟩
set_option maxRecDepth 100000 in
set_option maxHeartbeats 2000000 in
theorem core_whole (B x y X : Nat) (S S2 T HS' PS RS GS : ByteArray) (bl : Bool) (w : World) (hE : LE B w)
    (P1 : RowKit.Hid (∀ v : World, LE B v → Calls Tryz.prog 14 #[.float .f64 x] v (Bel v (.tuple #[.string S, .int .i64 0]))))
    (P2 : RowKit.Hid (∀ v : World, LE B v → Calls Tryz.prog 14 #[.float .f64 y] v (Bel v (.tuple #[.string S2, .int .i64 0]))))
    (HR : RowKit.Hid (∀ v : World, Calls Tryz.prog 8 #[.float .f64 x] v fun e w' => e = .returned (.bool true) ∧ w' = v))
    (HA : RowKit.Hid (∀ v : World, Calls Tryz.prog 15 #[.float .f64 x] v fun e w' => e = .returned (.float .f64 X) ∧ w' = v))
    (HS : RowKit.Hid (∀ v : World, LE B v → Calls Tryz.prog 9 #[.string S, .float .f64 x] v (Bel v (.bool true))))
    (T1 : RowKit.Hid (∀ v : World, Calls Tryz.prog 16 #[.string (⟨#[45]⟩ ++ S2), .string ⟨#[45, 45]⟩] v fun e w' => e = .returned (.string S) ∧ w' = v))
    (T2 : RowKit.Hid (∀ v : World, Calls Tryz.prog 16 #[.string S, .string ⟨#[45]⟩] v fun e w' => e = .returned (.string T) ∧ w' = v))
    (HC : RowKit.Hid (∀ v : World, LE B v → Calls Tryz.prog 17 #[.string T, .string ⟨#[101]⟩] v (Bel v (.tuple #[.string HS', .string PS, .bool bl]))))
    (HP : RowKit.Hid (∀ v : World, LE B v → Calls Tryz.prog 19 #[.string HS', .string ⟨#[46]⟩, .string ⟨#[]⟩, .int .i64 1] v (Bel v (.string RS))))
    (TL : RowKit.Hid (∀ v : World, Calls Tryz.prog 18 #[.string RS, .string ⟨#[48]⟩] v fun e w' => e = .returned (.string GS) ∧ w' = v))
    (AW : RowKit.Hid (∀ v : World, LE B v → Calls Tryz.prog 10 #[] v (Bel v (.bool true))))
    (hun : ∀ W : World, (Op.unary .neg (.float .f64 x)).run Tryz.prog W = .ok (.float .f64 y) W)
    (f1 : (fo X 4742290407621132288 == some .gt) = false) (f2 : (fo x 0 == some .eq) = false) (s1 : S.size ≤ 24) (s2 : S2.size ≤ 24)
    (CT : RowKit.Hid (∀ v : World, LE B v → Calls Tryz.prog 20 #[.string HS', .string ⟨#[46]⟩] v fun e w' => e = .returned (.bool true) ∧ w' = v))
    (g2 : 2 ≤ GS.size) (g4 : GS.size ≤ 17) (Y : Nat) (hh : 1 ≤ HS'.size) (h9 : HS'.size ≤ 30) (p9 : PS.size ≤ 30) (f3 : (fo Y X == some .eq) = false)
    (AD : RowKit.Hid (∀ v : World, Calls Tryz.prog 22 #[.float .f64 Y, .float .f64 0, .bool true] v (Bel v (.tuple #[.float .f64 Y, .int .i64 0]))))
    (PA : RowKit.Hid (∀ v : World, LE B v → Calls Tryz.prog 7 #[.string (HS'.extract 0 (HS'.size - 1) ++ PS)] v (Bel v (.tuple #[.float .f64 Y, .int .i64 0])))) (hp : (PS.toList.isEmpty) = true) :
    Calls Tryz.prog 5 #[.float .f64 x] w (Bel w (.bool true)) := by
  have E0 := Lib.hid hE
  have B0 := Lib.hid (Below.refl w.heap.size w)
  clear hE
  have g3 : (2 : Int) ≤ (GS.size : Int) := by omega
  have g5 : (GS.size : Int) ≤ 17 := by omega
  have h1 : (1 : Int) ≤ (HS'.size : Int) := by omega
  have h2 : (HS'.size : Int) - 1 = ((HS'.size - 1 : Nat) : Int) := by omega
  have h3 : ((HS'.size - 1 : Nat) : Int) ≤ (HS'.size : Int) := by omega
  have f4 : (fo Y X != some .eq) = true := by unfold bne; rw [f3]; rfl
  go_enter Tryz.func5, Tryz.ntmps5
  go_wp2_with (first
    | (go_at_call 14; (with_reducible refine (P1.out _ E0.out).mono ?_); rintro e v ⟨rfl, hb⟩; have EN := Lib.hid (E0.out.below hb); have BN := Lib.hid (B0.out.trans (hb.mono B0.out.size)); clear hb E0 B0; have E0 := EN; have B0 := BN; clear EN BN)
    | (go_at_call 14; (with_reducible refine (P2.out _ E0.out).mono ?_); rintro e v ⟨rfl, hb⟩; have EN := Lib.hid (E0.out.below hb); have BN := Lib.hid (B0.out.trans (hb.mono B0.out.size)); clear hb E0 B0; have E0 := EN; have B0 := BN; clear EN BN)
    | (go_at_call 8; (with_reducible refine (HR.out _).mono ?_); rintro e v ⟨rfl, rfl⟩)
    | (go_at_call 15; (with_reducible refine (HA.out _).mono ?_); rintro e v ⟨rfl, rfl⟩)
    | (go_at_call 9; (with_reducible refine (HS.out _ E0.out).mono ?_); rintro e v ⟨rfl, hb⟩; have EN := Lib.hid (E0.out.below hb); have BN := Lib.hid (B0.out.trans (hb.mono B0.out.size)); clear hb E0 B0; have E0 := EN; have B0 := BN; clear EN BN)
    | (go_at_call 16; (with_reducible refine (T1.out _).mono ?_); rintro e v ⟨rfl, rfl⟩)
    | (go_at_call 16; (with_reducible refine (T2.out _).mono ?_); rintro e v ⟨rfl, rfl⟩)
    | (go_at_call 17; (with_reducible refine (HC.out _ E0.out).mono ?_); rintro e v ⟨rfl, hb⟩; have EN := Lib.hid (E0.out.below hb); have BN := Lib.hid (B0.out.trans (hb.mono B0.out.size)); clear hb E0 B0; have E0 := EN; have B0 := BN; clear EN BN)
    | (go_at_call 19; (with_reducible refine (HP.out _ E0.out).mono ?_); rintro e v ⟨rfl, hb⟩; have EN := Lib.hid (E0.out.below hb); have BN := Lib.hid (B0.out.trans (hb.mono B0.out.size)); clear hb E0 B0; have E0 := EN; have B0 := BN; clear EN BN)
    | (go_at_call 18; (with_reducible refine (TL.out _).mono ?_); rintro e v ⟨rfl, rfl⟩)
    | (go_at_call 20; (with_reducible refine (CT.out _ E0.out).mono ?_); rintro e v ⟨rfl, rfl⟩)
    | (go_at_call 7; (with_reducible refine (PA.out _ E0.out).mono ?_); rintro e v ⟨rfl, hb⟩; have EN := Lib.hid (E0.out.below hb); have BN := Lib.hid (B0.out.trans (hb.mono B0.out.size)); clear hb E0 B0; have E0 := EN; have B0 := BN; clear EN BN)
    | (go_at_call 22; (with_reducible refine (AD.out _).mono ?_); rintro e v ⟨rfl, hb⟩; have EN := Lib.hid (E0.out.below hb); have BN := Lib.hid (B0.out.trans (hb.mono B0.out.size)); clear hb E0 B0; have E0 := EN; have B0 := BN; clear EN BN)
    | (go_at_call 10; (with_reducible refine (AW.out _ E0.out).mono ?_); rintro e v ⟨rfl, hb⟩; have EN := Lib.hid (E0.out.below hb); have BN := Lib.hid (B0.out.trans (hb.mono B0.out.size)); clear hb E0 B0; have E0 := EN; have B0 := BN; clear EN BN))
  go_ret
  exact ⟨rfl, B0.out⟩
set_option maxRecDepth 100000 in
set_option maxHeartbeats 2000000 in
theorem core_exp (B x y X : Nat) (S S2 T HS' PS RS GS : ByteArray) (bl : Bool) (w : World) (hE : LE B w)
    (P1 : RowKit.Hid (∀ v : World, LE B v → Calls Tryz.prog 14 #[.float .f64 x] v (Bel v (.tuple #[.string S, .int .i64 0]))))
    (P2 : RowKit.Hid (∀ v : World, LE B v → Calls Tryz.prog 14 #[.float .f64 y] v (Bel v (.tuple #[.string S2, .int .i64 0]))))
    (HR : RowKit.Hid (∀ v : World, Calls Tryz.prog 8 #[.float .f64 x] v fun e w' => e = .returned (.bool true) ∧ w' = v))
    (HA : RowKit.Hid (∀ v : World, Calls Tryz.prog 15 #[.float .f64 x] v fun e w' => e = .returned (.float .f64 X) ∧ w' = v))
    (HS : RowKit.Hid (∀ v : World, LE B v → Calls Tryz.prog 9 #[.string S, .float .f64 x] v (Bel v (.bool true))))
    (T1 : RowKit.Hid (∀ v : World, Calls Tryz.prog 16 #[.string (⟨#[45]⟩ ++ S2), .string ⟨#[45, 45]⟩] v fun e w' => e = .returned (.string S) ∧ w' = v))
    (T2 : RowKit.Hid (∀ v : World, Calls Tryz.prog 16 #[.string S, .string ⟨#[45]⟩] v fun e w' => e = .returned (.string T) ∧ w' = v))
    (HC : RowKit.Hid (∀ v : World, LE B v → Calls Tryz.prog 17 #[.string T, .string ⟨#[101]⟩] v (Bel v (.tuple #[.string HS', .string PS, .bool bl]))))
    (HP : RowKit.Hid (∀ v : World, LE B v → Calls Tryz.prog 19 #[.string HS', .string ⟨#[46]⟩, .string ⟨#[]⟩, .int .i64 1] v (Bel v (.string RS))))
    (TL : RowKit.Hid (∀ v : World, Calls Tryz.prog 18 #[.string RS, .string ⟨#[48]⟩] v fun e w' => e = .returned (.string GS) ∧ w' = v))
    (AW : RowKit.Hid (∀ v : World, LE B v → Calls Tryz.prog 10 #[] v (Bel v (.bool true))))
    (hun : ∀ W : World, (Op.unary .neg (.float .f64 x)).run Tryz.prog W = .ok (.float .f64 y) W)
    (f1 : (fo X 4742290407621132288 == some .gt) = false) (f2 : (fo x 0 == some .eq) = false) (s1 : S.size ≤ 24) (s2 : S2.size ≤ 24)
    (CT : RowKit.Hid (∀ v : World, LE B v → Calls Tryz.prog 20 #[.string HS', .string ⟨#[46]⟩] v fun e w' => e = .returned (.bool true) ∧ w' = v))
    (g2 : 2 ≤ GS.size) (g4 : GS.size ≤ 17) (Y : Nat) (hh : 1 ≤ HS'.size) (h9 : HS'.size ≤ 30) (p9 : PS.size ≤ 30) (f3 : (fo Y X == some .eq) = false)
    (AD : RowKit.Hid (∀ v : World, Calls Tryz.prog 22 #[.float .f64 Y, .float .f64 0, .bool true] v (Bel v (.tuple #[.float .f64 Y, .int .i64 0]))))
    (PA : RowKit.Hid (∀ v : World, LE B v → Calls Tryz.prog 7 #[.string (HS'.extract 0 (HS'.size - 1) ++ (⟨#[101]⟩ ++ PS))] v (Bel v (.tuple #[.float .f64 Y, .int .i64 0])))) (hp : (PS.toList.isEmpty) = false) :
    Calls Tryz.prog 5 #[.float .f64 x] w (Bel w (.bool true)) := by
  have E0 := Lib.hid hE
  have B0 := Lib.hid (Below.refl w.heap.size w)
  clear hE
  have g3 : (2 : Int) ≤ (GS.size : Int) := by omega
  have g5 : (GS.size : Int) ≤ 17 := by omega
  have h1 : (1 : Int) ≤ (HS'.size : Int) := by omega
  have h2 : (HS'.size : Int) - 1 = ((HS'.size - 1 : Nat) : Int) := by omega
  have h3 : ((HS'.size - 1 : Nat) : Int) ≤ (HS'.size : Int) := by omega
  have f4 : (fo Y X != some .eq) = true := by unfold bne; rw [f3]; rfl
  go_enter Tryz.func5, Tryz.ntmps5
  go_wp2_with (first
    | (go_at_call 14; (with_reducible refine (P1.out _ E0.out).mono ?_); rintro e v ⟨rfl, hb⟩; have EN := Lib.hid (E0.out.below hb); have BN := Lib.hid (B0.out.trans (hb.mono B0.out.size)); clear hb E0 B0; have E0 := EN; have B0 := BN; clear EN BN)
    | (go_at_call 14; (with_reducible refine (P2.out _ E0.out).mono ?_); rintro e v ⟨rfl, hb⟩; have EN := Lib.hid (E0.out.below hb); have BN := Lib.hid (B0.out.trans (hb.mono B0.out.size)); clear hb E0 B0; have E0 := EN; have B0 := BN; clear EN BN)
    | (go_at_call 8; (with_reducible refine (HR.out _).mono ?_); rintro e v ⟨rfl, rfl⟩)
    | (go_at_call 15; (with_reducible refine (HA.out _).mono ?_); rintro e v ⟨rfl, rfl⟩)
    | (go_at_call 9; (with_reducible refine (HS.out _ E0.out).mono ?_); rintro e v ⟨rfl, hb⟩; have EN := Lib.hid (E0.out.below hb); have BN := Lib.hid (B0.out.trans (hb.mono B0.out.size)); clear hb E0 B0; have E0 := EN; have B0 := BN; clear EN BN)
    | (go_at_call 16; (with_reducible refine (T1.out _).mono ?_); rintro e v ⟨rfl, rfl⟩)
    | (go_at_call 16; (with_reducible refine (T2.out _).mono ?_); rintro e v ⟨rfl, rfl⟩)
    | (go_at_call 17; (with_reducible refine (HC.out _ E0.out).mono ?_); rintro e v ⟨rfl, hb⟩; have EN := Lib.hid (E0.out.below hb); have BN := Lib.hid (B0.out.trans (hb.mono B0.out.size)); clear hb E0 B0; have E0 := EN; have B0 := BN; clear EN BN)
    | (go_at_call 19; (with_reducible refine (HP.out _ E0.out).mono ?_); rintro e v ⟨rfl, hb⟩; have EN := Lib.hid (E0.out.below hb); have BN := Lib.hid (B0.out.trans (hb.mono B0.out.size)); clear hb E0 B0; have E0 := EN; have B0 := BN; clear EN BN)
    | (go_at_call 18; (with_reducible refine (TL.out _).mono ?_); rintro e v ⟨rfl, rfl⟩)
    | (go_at_call 20; (with_reducible refine (CT.out _ E0.out).mono ?_); rintro e v ⟨rfl, rfl⟩)
    | (go_at_call 7; (with_reducible refine (PA.out _ E0.out).mono ?_); rintro e v ⟨rfl, hb⟩; have EN := Lib.hid (E0.out.below hb); have BN := Lib.hid (B0.out.trans (hb.mono B0.out.size)); clear hb E0 B0; have E0 := EN; have B0 := BN; clear EN BN)
    | (go_at_call 22; (with_reducible refine (AD.out _).mono ?_); rintro e v ⟨rfl, hb⟩; have EN := Lib.hid (E0.out.below hb); have BN := Lib.hid (B0.out.trans (hb.mono B0.out.size)); clear hb E0 B0; have E0 := EN; have B0 := BN; clear EN BN)
    | (go_at_call 10; (with_reducible refine (AW.out _ E0.out).mono ?_); rintro e v ⟨rfl, hb⟩; have EN := Lib.hid (E0.out.below hb); have BN := Lib.hid (B0.out.trans (hb.mono B0.out.size)); clear hb E0 B0; have E0 := EN; have B0 := BN; clear EN BN))
  go_ret
  exact ⟨rfl, B0.out⟩
end Go.Proofs.YtbjengfoaobdbaaGreatDoor.lawd
