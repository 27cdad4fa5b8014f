/- The functions of the program that the law reaches, printed as predicates, with the proofs that they are the code. No conditions of its own. -/
import Derived.Test.YthbmhdlbphkljaaGreatDoorZb
import Derived.Test.YthbmhdlbphkljaaGreatDoorYh
import Derived.KernelRfl
namespace Go.Proofs.YthbmhdlbphkljaaGreatDoor
open Go Go.X
set_option maxRecDepth 1000000
theorem sz0 : EE.size 0 = some 1 := by kernel_rfl
theorem by0 : (EE.info 0).map (·.bytes) = some 0 := by kernel_rfl
theorem sz1 : EE.size 1 = some 1 := by kernel_rfl
theorem by1 : (EE.info 1).map (·.bytes) = some 8 := by kernel_rfl
theorem zc1 : EE.zcells 1 = some [.nilFunc] := by kernel_rfl
theorem un2 : EE.under 2 = some (.int .i64) := by kernel_rfl
theorem sz2 : EE.size 2 = some 1 := by kernel_rfl
theorem by2 : (EE.info 2).map (·.bytes) = some 8 := by kernel_rfl
theorem zc2 : EE.zcells 2 = some [.int .i64 0] := by kernel_rfl
theorem un3 : EE.under 3 = some (.int .i64) := by kernel_rfl
theorem sz3 : EE.size 3 = some 1 := by kernel_rfl
theorem by3 : (EE.info 3).map (·.bytes) = some 8 := by kernel_rfl
theorem zc3 : EE.zcells 3 = some [.int .i64 0] := by kernel_rfl
theorem sz4 : EE.size 4 = some 1 := by kernel_rfl
theorem by4 : (EE.info 4).map (·.bytes) = some 1 := by kernel_rfl
theorem zc4 : EE.zcells 4 = some [.bool false] := by kernel_rfl
theorem un5 : EE.under 5 = some (.int .u8) := by kernel_rfl
theorem sz5 : EE.size 5 = some 1 := by kernel_rfl
theorem by5 : (EE.info 5).map (·.bytes) = some 1 := by kernel_rfl
theorem zc5 : EE.zcells 5 = some [.int .u8 0] := by kernel_rfl
theorem un6 : EE.under 6 = some (.int .u8) := by kernel_rfl
theorem sz6 : EE.size 6 = some 1 := by kernel_rfl
theorem by6 : (EE.info 6).map (·.bytes) = some 1 := by kernel_rfl
theorem zc6 : EE.zcells 6 = some [.int .u8 0] := by kernel_rfl
theorem sz7 : EE.size 7 = some 4 := by kernel_rfl
theorem by7 : (EE.info 7).map (·.bytes) = some 24 := by kernel_rfl
theorem zc7 : EE.zcells 7 = some [.int .i64 0, .int .i64 0, .bool false, .int .u8 0] := by kernel_rfl
theorem sz8 : EE.size 8 = some 4 := by kernel_rfl
theorem by8 : (EE.info 8).map (·.bytes) = some 24 := by kernel_rfl
theorem zc8 : EE.zcells 8 = some [.int .i64 0, .int .i64 0, .bool false, .int .u8 0] := by kernel_rfl
theorem un9 : EE.under 9 = some .string := by kernel_rfl
theorem sz9 : EE.size 9 = some 1 := by kernel_rfl
theorem by9 : (EE.info 9).map (·.bytes) = some 16 := by kernel_rfl
theorem zc9 : EE.zcells 9 = some [.string ⟨⟨[]⟩⟩] := by kernel_rfl
theorem un10 : EE.under 10 = some .string := by kernel_rfl
theorem sz10 : EE.size 10 = some 1 := by kernel_rfl
theorem by10 : (EE.info 10).map (·.bytes) = some 16 := by kernel_rfl
theorem zc10 : EE.zcells 10 = some [.string ⟨⟨[]⟩⟩] := by kernel_rfl
theorem un11 : EE.under 11 = some .string := by kernel_rfl
theorem sz11 : EE.size 11 = some 1 := by kernel_rfl
theorem by11 : (EE.info 11).map (·.bytes) = some 16 := by kernel_rfl
theorem zc11 : EE.zcells 11 = some [.string ⟨⟨[]⟩⟩] := by kernel_rfl
theorem un12 : EE.under 12 = some (.int .u64) := by kernel_rfl
theorem sz12 : EE.size 12 = some 1 := by kernel_rfl
theorem by12 : (EE.info 12).map (·.bytes) = some 8 := by kernel_rfl
theorem zc12 : EE.zcells 12 = some [.int .u64 0] := by kernel_rfl
theorem sz13 : EE.size 13 = some 2 := by kernel_rfl
theorem by13 : (EE.info 13).map (·.bytes) = some 24 := by kernel_rfl
theorem zc13 : EE.zcells 13 = some [.string ⟨⟨[]⟩⟩, .int .u64 0] := by kernel_rfl
theorem sz14 : EE.size 14 = some 2 := by kernel_rfl
theorem by14 : (EE.info 14).map (·.bytes) = some 24 := by kernel_rfl
theorem zc14 : EE.zcells 14 = some [.string ⟨⟨[]⟩⟩, .int .u64 0] := by kernel_rfl
theorem sz15 : EE.size 15 = some 1 := by kernel_rfl
theorem by15 : (EE.info 15).map (·.bytes) = some 8 := by kernel_rfl
theorem zc15 : EE.zcells 15 = some [.pointer none] := by kernel_rfl
theorem sz16 : EE.size 16 = some 1 := by kernel_rfl
theorem by16 : (EE.info 16).map (·.bytes) = some 8 := by kernel_rfl
theorem zc16 : EE.zcells 16 = some [.pointer none] := by kernel_rfl
theorem sz17 : EE.size 17 = some 1 := by kernel_rfl
theorem by17 : (EE.info 17).map (·.bytes) = some 8 := by kernel_rfl
theorem zc17 : EE.zcells 17 = some [.pointer none] := by kernel_rfl
theorem sz18 : EE.size 18 = some 1 := by kernel_rfl
theorem by18 : (EE.info 18).map (·.bytes) = some 8 := by kernel_rfl
theorem zc18 : EE.zcells 18 = some [.pointer none] := by kernel_rfl
theorem sz19 : EE.size 19 = some 1 := by kernel_rfl
theorem by19 : (EE.info 19).map (·.bytes) = some 8 := by kernel_rfl
theorem zc19 : EE.zcells 19 = some [.pointer none] := by kernel_rfl
theorem sz20 : EE.size 20 = some 1 := by kernel_rfl
theorem by20 : (EE.info 20).map (·.bytes) = some 16 := by kernel_rfl
theorem zc20 : EE.zcells 20 = some [.nilIface] := by kernel_rfl
theorem un21 : EE.under 21 = some (.int .i32) := by kernel_rfl
theorem sz21 : EE.size 21 = some 1 := by kernel_rfl
theorem by21 : (EE.info 21).map (·.bytes) = some 4 := by kernel_rfl
theorem zc21 : EE.zcells 21 = some [.int .i32 0] := by kernel_rfl
theorem un22 : EE.under 22 = some (.slice 30) := by kernel_rfl
theorem sz22 : EE.size 22 = some 1 := by kernel_rfl
theorem by22 : (EE.info 22).map (·.bytes) = some 24 := by kernel_rfl
theorem zc22 : EE.zcells 22 = some [.slice none 0 0] := by kernel_rfl
theorem sz23 : EE.size 23 = some 3 := by kernel_rfl
theorem by23 : (EE.info 23).map (·.bytes) = some 24 := by kernel_rfl
theorem zc23 : EE.zcells 23 = some [.int .i64 0, .int .i64 0, .int .i64 0] := by kernel_rfl
theorem sz24 : EE.size 24 = some 3 := by kernel_rfl
theorem by24 : (EE.info 24).map (·.bytes) = some 24 := by kernel_rfl
theorem zc24 : EE.zcells 24 = some [.int .i64 0, .int .i64 0, .int .i64 0] := by kernel_rfl
theorem eq24 (a0 : Int) (a1 : Int) (a2 : Int) (b0 : Int) (b1 : Int) (b2 : Int) : X.binOp EE .eql 24 (.agg ⟨[.int .i64 a0, .int .i64 a1, .int .i64 a2]⟩) (.agg ⟨[.int .i64 b0, .int .i64 b1, .int .i64 b2]⟩) = some (.bool (decide (a0 = b0 ∧ a1 = b1 ∧ a2 = b2))) := by
  have e : X.binOp EE .eql 24 (.agg ⟨[.int .i64 a0, .int .i64 a1, .int .i64 a2]⟩) (.agg ⟨[.int .i64 b0, .int .i64 b1, .int .i64 b2]⟩) = (thenB (thenB (thenB (some true) (intBeq a2 b2)) (intBeq a1 b1)) (intBeq a0 b0)).bind fun b => some (.bool b) := by kernel_rfl
  rw [e]; simp [thenB_some, intBeq_dec, listBeq_dec, beq_dec, and_assoc, Bool.and_assoc, Bool.or_assoc]
theorem ne24 (a0 : Int) (a1 : Int) (a2 : Int) (b0 : Int) (b1 : Int) (b2 : Int) : X.binOp EE .neq 24 (.agg ⟨[.int .i64 a0, .int .i64 a1, .int .i64 a2]⟩) (.agg ⟨[.int .i64 b0, .int .i64 b1, .int .i64 b2]⟩) = some (.bool (!decide (a0 = b0 ∧ a1 = b1 ∧ a2 = b2))) := by
  have e : X.binOp EE .neq 24 (.agg ⟨[.int .i64 a0, .int .i64 a1, .int .i64 a2]⟩) (.agg ⟨[.int .i64 b0, .int .i64 b1, .int .i64 b2]⟩) = (thenB (thenB (thenB (some true) (intBeq a2 b2)) (intBeq a1 b1)) (intBeq a0 b0)).bind fun b => some (.bool !b) := by kernel_rfl
  rw [e]; simp [thenB_some, intBeq_dec, listBeq_dec, beq_dec, and_assoc, Bool.and_assoc, Bool.or_assoc]
theorem sz25 : EE.size 25 = some 3 := by kernel_rfl
theorem by25 : (EE.info 25).map (·.bytes) = some 40 := by kernel_rfl
theorem zc25 : EE.zcells 25 = some [.bool false, .string ⟨⟨[]⟩⟩, .string ⟨⟨[]⟩⟩] := by kernel_rfl
theorem sz26 : EE.size 26 = some 3 := by kernel_rfl
theorem by26 : (EE.info 26).map (·.bytes) = some 40 := by kernel_rfl
theorem zc26 : EE.zcells 26 = some [.bool false, .string ⟨⟨[]⟩⟩, .string ⟨⟨[]⟩⟩] := by kernel_rfl
theorem sz27 : EE.size 27 = some 7 := by kernel_rfl
theorem by27 : (EE.info 27).map (·.bytes) = some 80 := by kernel_rfl
theorem zc27 : EE.zcells 27 = some [.int .i64 0, .bool false, .string ⟨⟨[]⟩⟩, .string ⟨⟨[]⟩⟩, .string ⟨⟨[]⟩⟩, .bool false, .int .i64 0] := by kernel_rfl
theorem sz28 : EE.size 28 = some 7 := by kernel_rfl
theorem by28 : (EE.info 28).map (·.bytes) = some 80 := by kernel_rfl
theorem zc28 : EE.zcells 28 = some [.int .i64 0, .bool false, .string ⟨⟨[]⟩⟩, .string ⟨⟨[]⟩⟩, .string ⟨⟨[]⟩⟩, .bool false, .int .i64 0] := by kernel_rfl
theorem sz29 : EE.size 29 = some 11 := by kernel_rfl
theorem by29 : (EE.info 29).map (·.bytes) = some 120 := by kernel_rfl
theorem zc29 : EE.zcells 29 = some [.int .i64 0, .int .i64 0, .int .i64 0, .string ⟨⟨[]⟩⟩, .int .i64 0, .bool false, .string ⟨⟨[]⟩⟩, .string ⟨⟨[]⟩⟩, .string ⟨⟨[]⟩⟩, .bool false, .int .i64 0] := by kernel_rfl
theorem sz30 : EE.size 30 = some 11 := by kernel_rfl
theorem by30 : (EE.info 30).map (·.bytes) = some 120 := by kernel_rfl
theorem zc30 : EE.zcells 30 = some [.int .i64 0, .int .i64 0, .int .i64 0, .string ⟨⟨[]⟩⟩, .int .i64 0, .bool false, .string ⟨⟨[]⟩⟩, .string ⟨⟨[]⟩⟩, .string ⟨⟨[]⟩⟩, .bool false, .int .i64 0] := by kernel_rfl
theorem eq30 (a0 : Int) (a1 : Int) (a2 : Int) (a3 : List UInt8) (a4 : Int) (a5 : Bool) (a6 : List UInt8) (a7 : List UInt8) (a8 : List UInt8) (a9 : Bool) (a10 : Int) (b0 : Int) (b1 : Int) (b2 : Int) (b3 : List UInt8) (b4 : Int) (b5 : Bool) (b6 : List UInt8) (b7 : List UInt8) (b8 : List UInt8) (b9 : Bool) (b10 : Int) : X.binOp EE .eql 30 (.agg ⟨[.int .i64 a0, .int .i64 a1, .int .i64 a2, .string ⟨⟨a3⟩⟩, .int .i64 a4, .bool a5, .string ⟨⟨a6⟩⟩, .string ⟨⟨a7⟩⟩, .string ⟨⟨a8⟩⟩, .bool a9, .int .i64 a10]⟩) (.agg ⟨[.int .i64 b0, .int .i64 b1, .int .i64 b2, .string ⟨⟨b3⟩⟩, .int .i64 b4, .bool b5, .string ⟨⟨b6⟩⟩, .string ⟨⟨b7⟩⟩, .string ⟨⟨b8⟩⟩, .bool b9, .int .i64 b10]⟩) = some (.bool (decide (a0 = b0 ∧ a1 = b1 ∧ a2 = b2 ∧ a3 = b3 ∧ a4 = b4 ∧ a5 = b5 ∧ a6 = b6 ∧ a7 = b7 ∧ a8 = b8 ∧ a9 = b9 ∧ a10 = b10))) := by
  have e : X.binOp EE .eql 30 (.agg ⟨[.int .i64 a0, .int .i64 a1, .int .i64 a2, .string ⟨⟨a3⟩⟩, .int .i64 a4, .bool a5, .string ⟨⟨a6⟩⟩, .string ⟨⟨a7⟩⟩, .string ⟨⟨a8⟩⟩, .bool a9, .int .i64 a10]⟩) (.agg ⟨[.int .i64 b0, .int .i64 b1, .int .i64 b2, .string ⟨⟨b3⟩⟩, .int .i64 b4, .bool b5, .string ⟨⟨b6⟩⟩, .string ⟨⟨b7⟩⟩, .string ⟨⟨b8⟩⟩, .bool b9, .int .i64 b10]⟩) = ((thenB (thenB (thenB (some true) (intBeq a2 b2)) (intBeq a1 b1)) (intBeq a0 b0)).bind (thenB (thenB ((thenB ((thenB (thenB (thenB (some true) (listBeq a7 b7)) (listBeq a6 b6)) (a5 == b5)).bind (thenB (thenB (thenB (thenB (some true) (intBeq a10 b10)) (a9 == b9)) (listBeq a8 b8)))) (intBeq a4 b4)).bind (thenB (some true))) (listBeq a3 b3)))).bind fun b => some (.bool b) := by kernel_rfl
  rw [e]; simp [thenB_some, intBeq_dec, listBeq_dec, beq_dec, and_assoc, Bool.and_assoc, Bool.or_assoc]
theorem ne30 (a0 : Int) (a1 : Int) (a2 : Int) (a3 : List UInt8) (a4 : Int) (a5 : Bool) (a6 : List UInt8) (a7 : List UInt8) (a8 : List UInt8) (a9 : Bool) (a10 : Int) (b0 : Int) (b1 : Int) (b2 : Int) (b3 : List UInt8) (b4 : Int) (b5 : Bool) (b6 : List UInt8) (b7 : List UInt8) (b8 : List UInt8) (b9 : Bool) (b10 : Int) : X.binOp EE .neq 30 (.agg ⟨[.int .i64 a0, .int .i64 a1, .int .i64 a2, .string ⟨⟨a3⟩⟩, .int .i64 a4, .bool a5, .string ⟨⟨a6⟩⟩, .string ⟨⟨a7⟩⟩, .string ⟨⟨a8⟩⟩, .bool a9, .int .i64 a10]⟩) (.agg ⟨[.int .i64 b0, .int .i64 b1, .int .i64 b2, .string ⟨⟨b3⟩⟩, .int .i64 b4, .bool b5, .string ⟨⟨b6⟩⟩, .string ⟨⟨b7⟩⟩, .string ⟨⟨b8⟩⟩, .bool b9, .int .i64 b10]⟩) = some (.bool (!decide (a0 = b0 ∧ a1 = b1 ∧ a2 = b2 ∧ a3 = b3 ∧ a4 = b4 ∧ a5 = b5 ∧ a6 = b6 ∧ a7 = b7 ∧ a8 = b8 ∧ a9 = b9 ∧ a10 = b10))) := by
  have e : X.binOp EE .neq 30 (.agg ⟨[.int .i64 a0, .int .i64 a1, .int .i64 a2, .string ⟨⟨a3⟩⟩, .int .i64 a4, .bool a5, .string ⟨⟨a6⟩⟩, .string ⟨⟨a7⟩⟩, .string ⟨⟨a8⟩⟩, .bool a9, .int .i64 a10]⟩) (.agg ⟨[.int .i64 b0, .int .i64 b1, .int .i64 b2, .string ⟨⟨b3⟩⟩, .int .i64 b4, .bool b5, .string ⟨⟨b6⟩⟩, .string ⟨⟨b7⟩⟩, .string ⟨⟨b8⟩⟩, .bool b9, .int .i64 b10]⟩) = ((thenB (thenB (thenB (some true) (intBeq a2 b2)) (intBeq a1 b1)) (intBeq a0 b0)).bind (thenB (thenB ((thenB ((thenB (thenB (thenB (some true) (listBeq a7 b7)) (listBeq a6 b6)) (a5 == b5)).bind (thenB (thenB (thenB (thenB (some true) (intBeq a10 b10)) (a9 == b9)) (listBeq a8 b8)))) (intBeq a4 b4)).bind (thenB (some true))) (listBeq a3 b3)))).bind fun b => some (.bool !b) := by kernel_rfl
  rw [e]; simp [thenB_some, intBeq_dec, listBeq_dec, beq_dec, and_assoc, Bool.and_assoc, Bool.or_assoc]
theorem sz31 : EE.size 31 = some 1 := by kernel_rfl
theorem by31 : (EE.info 31).map (·.bytes) = some 8 := by kernel_rfl
theorem zc31 : EE.zcells 31 = some [.nilFunc] := by kernel_rfl
theorem sz32 : EE.size 32 = some 1 := by kernel_rfl
theorem by32 : (EE.info 32).map (·.bytes) = some 0 := by kernel_rfl
theorem sz33 : EE.size 33 = some 1 := by kernel_rfl
theorem by33 : (EE.info 33).map (·.bytes) = some 8 := by kernel_rfl
theorem zc33 : EE.zcells 33 = some [.nilFunc] := by kernel_rfl
theorem sz34 : EE.size 34 = some 1 := by kernel_rfl
theorem by34 : (EE.info 34).map (·.bytes) = some 8 := by kernel_rfl
theorem zc34 : EE.zcells 34 = some [.nilFunc] := by kernel_rfl
theorem sz35 : EE.size 35 = some 1 := by kernel_rfl
theorem by35 : (EE.info 35).map (·.bytes) = some 8 := by kernel_rfl
theorem zc35 : EE.zcells 35 = some [.nilFunc] := by kernel_rfl
theorem sz36 : EE.size 36 = some 1 := by kernel_rfl
theorem by36 : (EE.info 36).map (·.bytes) = some 8 := by kernel_rfl
theorem zc36 : EE.zcells 36 = some [.nilFunc] := by kernel_rfl
theorem sz37 : EE.size 37 = some 1 := by kernel_rfl
theorem by37 : (EE.info 37).map (·.bytes) = some 8 := by kernel_rfl
theorem zc37 : EE.zcells 37 = some [.nilFunc] := by kernel_rfl
theorem sz38 : EE.size 38 = some 1 := by kernel_rfl
theorem by38 : (EE.info 38).map (·.bytes) = some 8 := by kernel_rfl
theorem zc38 : EE.zcells 38 = some [.nilFunc] := by kernel_rfl
theorem un39 : EE.under 39 = some (.slice 24) := by kernel_rfl
theorem sz39 : EE.size 39 = some 1 := by kernel_rfl
theorem by39 : (EE.info 39).map (·.bytes) = some 24 := by kernel_rfl
theorem zc39 : EE.zcells 39 = some [.slice none 0 0] := by kernel_rfl
theorem sz40 : EE.size 40 = some 1 := by kernel_rfl
theorem by40 : (EE.info 40).map (·.bytes) = some 8 := by kernel_rfl
theorem zc40 : EE.zcells 40 = some [.nilFunc] := by kernel_rfl
theorem un41 : EE.under 41 = some (.slice 95) := by kernel_rfl
theorem sz41 : EE.size 41 = some 1 := by kernel_rfl
theorem by41 : (EE.info 41).map (·.bytes) = some 24 := by kernel_rfl
theorem zc41 : EE.zcells 41 = some [.slice none 0 0] := by kernel_rfl
theorem un42 : EE.under 42 = some (.slice 3) := by kernel_rfl
theorem sz42 : EE.size 42 = some 1 := by kernel_rfl
theorem by42 : (EE.info 42).map (·.bytes) = some 24 := by kernel_rfl
theorem zc42 : EE.zcells 42 = some [.slice none 0 0] := by kernel_rfl
theorem sz43 : EE.size 43 = some 2 := by kernel_rfl
theorem by43 : (EE.info 43).map (·.bytes) = some 48 := by kernel_rfl
theorem zc43 : EE.zcells 43 = some [.slice none 0 0, .slice none 0 0] := by kernel_rfl
theorem sz44 : EE.size 44 = some 2 := by kernel_rfl
theorem by44 : (EE.info 44).map (·.bytes) = some 48 := by kernel_rfl
theorem zc44 : EE.zcells 44 = some [.slice none 0 0, .slice none 0 0] := by kernel_rfl
theorem sz45 : EE.size 45 = some 11 := by kernel_rfl
theorem by45 : (EE.info 45).map (·.bytes) = some 152 := by kernel_rfl
theorem zc45 : EE.zcells 45 = some [.string ⟨⟨[]⟩⟩, .bool false, .slice none 0 0, .slice none 0 0, .int .i64 0, .bool false, .string ⟨⟨[]⟩⟩, .string ⟨⟨[]⟩⟩, .string ⟨⟨[]⟩⟩, .bool false, .int .i64 0] := by kernel_rfl
theorem sz46 : EE.size 46 = some 11 := by kernel_rfl
theorem by46 : (EE.info 46).map (·.bytes) = some 152 := by kernel_rfl
theorem zc46 : EE.zcells 46 = some [.string ⟨⟨[]⟩⟩, .bool false, .slice none 0 0, .slice none 0 0, .int .i64 0, .bool false, .string ⟨⟨[]⟩⟩, .string ⟨⟨[]⟩⟩, .string ⟨⟨[]⟩⟩, .bool false, .int .i64 0] := by kernel_rfl
theorem un47 : EE.under 47 = some (.int .i64) := by kernel_rfl
theorem sz47 : EE.size 47 = some 1 := by kernel_rfl
theorem by47 : (EE.info 47).map (·.bytes) = some 8 := by kernel_rfl
theorem zc47 : EE.zcells 47 = some [.int .i64 0] := by kernel_rfl
theorem sz48 : EE.size 48 = some 1 := by kernel_rfl
theorem by48 : (EE.info 48).map (·.bytes) = some 0 := by kernel_rfl
theorem sz49 : EE.size 49 = some 1 := by kernel_rfl
theorem by49 : (EE.info 49).map (·.bytes) = some 8 := by kernel_rfl
theorem zc49 : EE.zcells 49 = some [.nilFunc] := by kernel_rfl
theorem sz50 : EE.size 50 = some 1 := by kernel_rfl
theorem by50 : (EE.info 50).map (·.bytes) = some 8 := by kernel_rfl
theorem zc50 : EE.zcells 50 = some [.nilFunc] := by kernel_rfl
theorem sz51 : EE.size 51 = some 1 := by kernel_rfl
theorem by51 : (EE.info 51).map (·.bytes) = some 8 := by kernel_rfl
theorem zc51 : EE.zcells 51 = some [.nilFunc] := by kernel_rfl
theorem sz52 : EE.size 52 = some 1 := by kernel_rfl
theorem by52 : (EE.info 52).map (·.bytes) = some 8 := by kernel_rfl
theorem zc52 : EE.zcells 52 = some [.nilFunc] := by kernel_rfl
theorem sz53 : EE.size 53 = some 1 := by kernel_rfl
theorem by53 : (EE.info 53).map (·.bytes) = some 8 := by kernel_rfl
theorem zc53 : EE.zcells 53 = some [.nilFunc] := by kernel_rfl
theorem sz54 : EE.size 54 = some 1 := by kernel_rfl
theorem by54 : (EE.info 54).map (·.bytes) = some 8 := by kernel_rfl
theorem zc54 : EE.zcells 54 = some [.nilFunc] := by kernel_rfl
theorem sz55 : EE.size 55 = some 1 := by kernel_rfl
theorem by55 : (EE.info 55).map (·.bytes) = some 8 := by kernel_rfl
theorem zc55 : EE.zcells 55 = some [.nilFunc] := by kernel_rfl
theorem sz56 : EE.size 56 = some 1 := by kernel_rfl
theorem by56 : (EE.info 56).map (·.bytes) = some 8 := by kernel_rfl
theorem zc56 : EE.zcells 56 = some [.nilFunc] := by kernel_rfl
theorem sz57 : EE.size 57 = some 1 := by kernel_rfl
theorem by57 : (EE.info 57).map (·.bytes) = some 0 := by kernel_rfl
theorem sz58 : EE.size 58 = some 1 := by kernel_rfl
theorem by58 : (EE.info 58).map (·.bytes) = some 8 := by kernel_rfl
theorem zc58 : EE.zcells 58 = some [.nilFunc] := by kernel_rfl
theorem sz59 : EE.size 59 = some 1 := by kernel_rfl
theorem by59 : (EE.info 59).map (·.bytes) = some 0 := by kernel_rfl
theorem sz60 : EE.size 60 = some 1 := by kernel_rfl
theorem by60 : (EE.info 60).map (·.bytes) = some 8 := by kernel_rfl
theorem zc60 : EE.zcells 60 = some [.nilFunc] := by kernel_rfl
theorem sz61 : EE.size 61 = some 1 := by kernel_rfl
theorem by61 : (EE.info 61).map (·.bytes) = some 0 := by kernel_rfl
theorem sz62 : EE.size 62 = some 1 := by kernel_rfl
theorem by62 : (EE.info 62).map (·.bytes) = some 8 := by kernel_rfl
theorem zc62 : EE.zcells 62 = some [.nilFunc] := by kernel_rfl
theorem sz63 : EE.size 63 = some 1 := by kernel_rfl
theorem by63 : (EE.info 63).map (·.bytes) = some 8 := by kernel_rfl
theorem zc63 : EE.zcells 63 = some [.nilFunc] := by kernel_rfl
theorem sz64 : EE.size 64 = some 1 := by kernel_rfl
theorem by64 : (EE.info 64).map (·.bytes) = some 8 := by kernel_rfl
theorem zc64 : EE.zcells 64 = some [.nilFunc] := by kernel_rfl
theorem sz65 : EE.size 65 = some 1 := by kernel_rfl
theorem by65 : (EE.info 65).map (·.bytes) = some 0 := by kernel_rfl
theorem sz66 : EE.size 66 = some 1 := by kernel_rfl
theorem by66 : (EE.info 66).map (·.bytes) = some 8 := by kernel_rfl
theorem zc66 : EE.zcells 66 = some [.nilFunc] := by kernel_rfl
theorem sz67 : EE.size 67 = some 1 := by kernel_rfl
theorem by67 : (EE.info 67).map (·.bytes) = some 8 := by kernel_rfl
theorem zc67 : EE.zcells 67 = some [.nilFunc] := by kernel_rfl
theorem sz68 : EE.size 68 = some 1 := by kernel_rfl
theorem by68 : (EE.info 68).map (·.bytes) = some 8 := by kernel_rfl
theorem zc68 : EE.zcells 68 = some [.nilFunc] := by kernel_rfl
theorem sz69 : EE.size 69 = some 1 := by kernel_rfl
theorem by69 : (EE.info 69).map (·.bytes) = some 8 := by kernel_rfl
theorem zc69 : EE.zcells 69 = some [.nilFunc] := by kernel_rfl
theorem sz70 : EE.size 70 = some 1 := by kernel_rfl
theorem by70 : (EE.info 70).map (·.bytes) = some 8 := by kernel_rfl
theorem zc70 : EE.zcells 70 = some [.nilFunc] := by kernel_rfl
theorem sz71 : EE.size 71 = some 1 := by kernel_rfl
theorem by71 : (EE.info 71).map (·.bytes) = some 0 := by kernel_rfl
theorem sz72 : EE.size 72 = some 1 := by kernel_rfl
theorem by72 : (EE.info 72).map (·.bytes) = some 8 := by kernel_rfl
theorem zc72 : EE.zcells 72 = some [.nilFunc] := by kernel_rfl
theorem sz73 : EE.size 73 = some 1 := by kernel_rfl
theorem by73 : (EE.info 73).map (·.bytes) = some 8 := by kernel_rfl
theorem zc73 : EE.zcells 73 = some [.nilFunc] := by kernel_rfl
theorem sz74 : EE.size 74 = some 1 := by kernel_rfl
theorem by74 : (EE.info 74).map (·.bytes) = some 8 := by kernel_rfl
theorem zc74 : EE.zcells 74 = some [.nilFunc] := by kernel_rfl
theorem sz75 : EE.size 75 = some 1 := by kernel_rfl
theorem by75 : (EE.info 75).map (·.bytes) = some 8 := by kernel_rfl
theorem zc75 : EE.zcells 75 = some [.nilFunc] := by kernel_rfl
theorem sz76 : EE.size 76 = some 1 := by kernel_rfl
theorem by76 : (EE.info 76).map (·.bytes) = some 8 := by kernel_rfl
theorem zc76 : EE.zcells 76 = some [.nilFunc] := by kernel_rfl
theorem sz77 : EE.size 77 = some 1 := by kernel_rfl
theorem by77 : (EE.info 77).map (·.bytes) = some 8 := by kernel_rfl
theorem zc77 : EE.zcells 77 = some [.nilFunc] := by kernel_rfl
theorem sz78 : EE.size 78 = some 1 := by kernel_rfl
theorem by78 : (EE.info 78).map (·.bytes) = some 8 := by kernel_rfl
theorem zc78 : EE.zcells 78 = some [.nilFunc] := by kernel_rfl
theorem un79 : EE.under 79 = some (.slice 87) := by kernel_rfl
theorem sz79 : EE.size 79 = some 1 := by kernel_rfl
theorem by79 : (EE.info 79).map (·.bytes) = some 24 := by kernel_rfl
theorem zc79 : EE.zcells 79 = some [.slice none 0 0] := by kernel_rfl
theorem sz80 : EE.size 80 = some 1 := by kernel_rfl
theorem by80 : (EE.info 80).map (·.bytes) = some 0 := by kernel_rfl
theorem sz81 : EE.size 81 = some 1 := by kernel_rfl
theorem by81 : (EE.info 81).map (·.bytes) = some 8 := by kernel_rfl
theorem zc81 : EE.zcells 81 = some [.nilFunc] := by kernel_rfl
theorem sz82 : EE.size 82 = some 1 := by kernel_rfl
theorem by82 : (EE.info 82).map (·.bytes) = some 8 := by kernel_rfl
theorem zc82 : EE.zcells 82 = some [.pointer none] := by kernel_rfl
theorem sz83 : EE.size 83 = some 6 := by kernel_rfl
theorem by83 : (EE.info 83).map (·.bytes) = some 96 := by kernel_rfl
theorem zc83 : EE.zcells 83 = some [.slice none 0 0, .slice none 0 0, .slice none 0 0, .int .i64 0, .int .i64 0, .int .i64 0] := by kernel_rfl
theorem sz84 : EE.size 84 = some 6 := by kernel_rfl
theorem by84 : (EE.info 84).map (·.bytes) = some 96 := by kernel_rfl
theorem zc84 : EE.zcells 84 = some [.slice none 0 0, .slice none 0 0, .slice none 0 0, .int .i64 0, .int .i64 0, .int .i64 0] := by kernel_rfl
theorem sz85 : EE.size 85 = some 1 := by kernel_rfl
theorem by85 : (EE.info 85).map (·.bytes) = some 8 := by kernel_rfl
theorem zc85 : EE.zcells 85 = some [.nilFunc] := by kernel_rfl
theorem sz86 : EE.size 86 = some 6 := by kernel_rfl
theorem by86 : (EE.info 86).map (·.bytes) = some 72 := by kernel_rfl
theorem zc86 : EE.zcells 86 = some [.int .i64 0, .string ⟨⟨[]⟩⟩, .int .i64 0, .bool false, .string ⟨⟨[]⟩⟩, .string ⟨⟨[]⟩⟩] := by kernel_rfl
theorem sz87 : EE.size 87 = some 6 := by kernel_rfl
theorem by87 : (EE.info 87).map (·.bytes) = some 72 := by kernel_rfl
theorem zc87 : EE.zcells 87 = some [.int .i64 0, .string ⟨⟨[]⟩⟩, .int .i64 0, .bool false, .string ⟨⟨[]⟩⟩, .string ⟨⟨[]⟩⟩] := by kernel_rfl
theorem sz88 : EE.size 88 = some 1 := by kernel_rfl
theorem by88 : (EE.info 88).map (·.bytes) = some 8 := by kernel_rfl
theorem zc88 : EE.zcells 88 = some [.nilFunc] := by kernel_rfl
theorem sz89 : EE.size 89 = some 1 := by kernel_rfl
theorem by89 : (EE.info 89).map (·.bytes) = some 8 := by kernel_rfl
theorem zc89 : EE.zcells 89 = some [.nilFunc] := by kernel_rfl
theorem un90 : EE.under 90 = some (.slice 9) := by kernel_rfl
theorem sz90 : EE.size 90 = some 1 := by kernel_rfl
theorem by90 : (EE.info 90).map (·.bytes) = some 24 := by kernel_rfl
theorem zc90 : EE.zcells 90 = some [.slice none 0 0] := by kernel_rfl
theorem sz91 : EE.size 91 = some 1 := by kernel_rfl
theorem by91 : (EE.info 91).map (·.bytes) = some 8 := by kernel_rfl
theorem zc91 : EE.zcells 91 = some [.nilFunc] := by kernel_rfl
theorem sz92 : EE.size 92 = some 5 := by kernel_rfl
theorem by92 : (EE.info 92).map (·.bytes) = some 40 := by kernel_rfl
theorem zc92 : EE.zcells 92 = some [.string ⟨⟨[]⟩⟩, .int .i64 0, .int .i64 0, .bool false, .bool false] := by kernel_rfl
theorem sz93 : EE.size 93 = some 5 := by kernel_rfl
theorem by93 : (EE.info 93).map (·.bytes) = some 40 := by kernel_rfl
theorem zc93 : EE.zcells 93 = some [.string ⟨⟨[]⟩⟩, .int .i64 0, .int .i64 0, .bool false, .bool false] := by kernel_rfl
theorem sz94 : EE.size 94 = some 19 := by kernel_rfl
theorem by94 : (EE.info 94).map (·.bytes) = some 176 := by kernel_rfl
theorem zc94 : EE.zcells 94 = some [.int .i64 0, .int .i64 0, .int .i64 0, .int .i64 0, .bool false, .string ⟨⟨[]⟩⟩, .string ⟨⟨[]⟩⟩, .string ⟨⟨[]⟩⟩, .bool false, .string ⟨⟨[]⟩⟩, .int .i64 0, .int .i64 0, .bool false, .bool false, .string ⟨⟨[]⟩⟩, .int .i64 0, .int .i64 0, .bool false, .bool false] := by kernel_rfl
theorem sz95 : EE.size 95 = some 19 := by kernel_rfl
theorem by95 : (EE.info 95).map (·.bytes) = some 176 := by kernel_rfl
theorem zc95 : EE.zcells 95 = some [.int .i64 0, .int .i64 0, .int .i64 0, .int .i64 0, .bool false, .string ⟨⟨[]⟩⟩, .string ⟨⟨[]⟩⟩, .string ⟨⟨[]⟩⟩, .bool false, .string ⟨⟨[]⟩⟩, .int .i64 0, .int .i64 0, .bool false, .bool false, .string ⟨⟨[]⟩⟩, .int .i64 0, .int .i64 0, .bool false, .bool false] := by kernel_rfl
theorem un96 : EE.under 96 = some (.array 8 9) := by kernel_rfl
theorem sz96 : EE.size 96 = some 8 := by kernel_rfl
theorem by96 : (EE.info 96).map (·.bytes) = some 128 := by kernel_rfl
theorem zc96 : EE.zcells 96 = some [.string ⟨⟨[]⟩⟩, .string ⟨⟨[]⟩⟩, .string ⟨⟨[]⟩⟩, .string ⟨⟨[]⟩⟩, .string ⟨⟨[]⟩⟩, .string ⟨⟨[]⟩⟩, .string ⟨⟨[]⟩⟩, .string ⟨⟨[]⟩⟩] := by kernel_rfl
theorem sz97 : EE.size 97 = some 1 := by kernel_rfl
theorem by97 : (EE.info 97).map (·.bytes) = some 8 := by kernel_rfl
theorem zc97 : EE.zcells 97 = some [.nilFunc] := by kernel_rfl
theorem sz98 : EE.size 98 = some 1 := by kernel_rfl
theorem by98 : (EE.info 98).map (·.bytes) = some 8 := by kernel_rfl
theorem zc98 : EE.zcells 98 = some [.nilFunc] := by kernel_rfl
theorem sz99 : EE.size 99 = some 1 := by kernel_rfl
theorem by99 : (EE.info 99).map (·.bytes) = some 0 := by kernel_rfl
theorem sz100 : EE.size 100 = some 1 := by kernel_rfl
theorem by100 : (EE.info 100).map (·.bytes) = some 8 := by kernel_rfl
theorem zc100 : EE.zcells 100 = some [.nilFunc] := by kernel_rfl
theorem sz101 : EE.size 101 = some 1 := by kernel_rfl
theorem by101 : (EE.info 101).map (·.bytes) = some 8 := by kernel_rfl
theorem zc101 : EE.zcells 101 = some [.nilFunc] := by kernel_rfl
theorem sz102 : EE.size 102 = some 1 := by kernel_rfl
theorem by102 : (EE.info 102).map (·.bytes) = some 8 := by kernel_rfl
theorem zc102 : EE.zcells 102 = some [.nilFunc] := by kernel_rfl
theorem sz103 : EE.size 103 = some 1 := by kernel_rfl
theorem by103 : (EE.info 103).map (·.bytes) = some 8 := by kernel_rfl
theorem zc103 : EE.zcells 103 = some [.nilFunc] := by kernel_rfl
theorem sz104 : EE.size 104 = some 1 := by kernel_rfl
theorem by104 : (EE.info 104).map (·.bytes) = some 8 := by kernel_rfl
theorem zc104 : EE.zcells 104 = some [.nilFunc] := by kernel_rfl
theorem un105 : EE.under 105 = some (.slice 5) := by kernel_rfl
theorem sz105 : EE.size 105 = some 1 := by kernel_rfl
theorem by105 : (EE.info 105).map (·.bytes) = some 24 := by kernel_rfl
theorem zc105 : EE.zcells 105 = some [.slice none 0 0] := by kernel_rfl
theorem sz106 : EE.size 106 = some 1 := by kernel_rfl
theorem by106 : (EE.info 106).map (·.bytes) = some 8 := by kernel_rfl
theorem zc106 : EE.zcells 106 = some [.nilFunc] := by kernel_rfl
theorem sz107 : EE.size 107 = some 1 := by kernel_rfl
theorem by107 : (EE.info 107).map (·.bytes) = some 8 := by kernel_rfl
theorem zc107 : EE.zcells 107 = some [.nilFunc] := by kernel_rfl
theorem sz108 : EE.size 108 = some 1 := by kernel_rfl
theorem by108 : (EE.info 108).map (·.bytes) = some 0 := by kernel_rfl
theorem sz109 : EE.size 109 = some 1 := by kernel_rfl
theorem by109 : (EE.info 109).map (·.bytes) = some 8 := by kernel_rfl
theorem zc109 : EE.zcells 109 = some [.nilFunc] := by kernel_rfl
theorem sz110 : EE.size 110 = some 1 := by kernel_rfl
theorem by110 : (EE.info 110).map (·.bytes) = some 8 := by kernel_rfl
theorem zc110 : EE.zcells 110 = some [.nilFunc] := by kernel_rfl
theorem sz111 : EE.size 111 = some 1 := by kernel_rfl
theorem by111 : (EE.info 111).map (·.bytes) = some 8 := by kernel_rfl
theorem zc111 : EE.zcells 111 = some [.nilFunc] := by kernel_rfl
theorem sz112 : EE.size 112 = some 1 := by kernel_rfl
theorem by112 : (EE.info 112).map (·.bytes) = some 8 := by kernel_rfl
theorem zc112 : EE.zcells 112 = some [.nilFunc] := by kernel_rfl
theorem sz113 : EE.size 113 = some 4 := by kernel_rfl
theorem by113 : (EE.info 113).map (·.bytes) = some 32 := by kernel_rfl
theorem zc113 : EE.zcells 113 = some [.int .i64 0, .int .i64 0, .int .i64 0, .int .i64 0] := by kernel_rfl
theorem sz114 : EE.size 114 = some 4 := by kernel_rfl
theorem by114 : (EE.info 114).map (·.bytes) = some 32 := by kernel_rfl
theorem zc114 : EE.zcells 114 = some [.int .i64 0, .int .i64 0, .int .i64 0, .int .i64 0] := by kernel_rfl
theorem sz115 : EE.size 115 = some 1 := by kernel_rfl
theorem by115 : (EE.info 115).map (·.bytes) = some 0 := by kernel_rfl
theorem sz116 : EE.size 116 = some 1 := by kernel_rfl
theorem by116 : (EE.info 116).map (·.bytes) = some 8 := by kernel_rfl
theorem zc116 : EE.zcells 116 = some [.nilFunc] := by kernel_rfl
theorem sz117 : EE.size 117 = some 1 := by kernel_rfl
theorem by117 : (EE.info 117).map (·.bytes) = some 8 := by kernel_rfl
theorem zc117 : EE.zcells 117 = some [.nilFunc] := by kernel_rfl
theorem sz118 : EE.size 118 = some 1 := by kernel_rfl
theorem by118 : (EE.info 118).map (·.bytes) = some 8 := by kernel_rfl
theorem zc118 : EE.zcells 118 = some [.nilFunc] := by kernel_rfl
theorem sz119 : EE.size 119 = some 1 := by kernel_rfl
theorem by119 : (EE.info 119).map (·.bytes) = some 8 := by kernel_rfl
theorem zc119 : EE.zcells 119 = some [.nilFunc] := by kernel_rfl
theorem sz120 : EE.size 120 = some 1 := by kernel_rfl
theorem by120 : (EE.info 120).map (·.bytes) = some 8 := by kernel_rfl
theorem zc120 : EE.zcells 120 = some [.nilFunc] := by kernel_rfl
theorem sz121 : EE.size 121 = some 1 := by kernel_rfl
theorem by121 : (EE.info 121).map (·.bytes) = some 8 := by kernel_rfl
theorem zc121 : EE.zcells 121 = some [.nilFunc] := by kernel_rfl
theorem sz122 : EE.size 122 = some 1 := by kernel_rfl
theorem by122 : (EE.info 122).map (·.bytes) = some 8 := by kernel_rfl
theorem zc122 : EE.zcells 122 = some [.nilFunc] := by kernel_rfl
theorem sz123 : EE.size 123 = some 2 := by kernel_rfl
theorem by123 : (EE.info 123).map (·.bytes) = some 24 := by kernel_rfl
theorem zc123 : EE.zcells 123 = some [.bool false, .string ⟨⟨[]⟩⟩] := by kernel_rfl
theorem sz124 : EE.size 124 = some 2 := by kernel_rfl
theorem by124 : (EE.info 124).map (·.bytes) = some 24 := by kernel_rfl
theorem zc124 : EE.zcells 124 = some [.bool false, .string ⟨⟨[]⟩⟩] := by kernel_rfl
theorem sz125 : EE.size 125 = some 1 := by kernel_rfl
theorem by125 : (EE.info 125).map (·.bytes) = some 8 := by kernel_rfl
theorem zc125 : EE.zcells 125 = some [.nilFunc] := by kernel_rfl
theorem sz126 : EE.size 126 = some 1 := by kernel_rfl
theorem by126 : (EE.info 126).map (·.bytes) = some 8 := by kernel_rfl
theorem zc126 : EE.zcells 126 = some [.nilFunc] := by kernel_rfl
theorem un127 : EE.under 127 = some (.int .u64) := by kernel_rfl
theorem sz127 : EE.size 127 = some 1 := by kernel_rfl
theorem by127 : (EE.info 127).map (·.bytes) = some 8 := by kernel_rfl
theorem zc127 : EE.zcells 127 = some [.int .u64 0] := by kernel_rfl
theorem sz128 : EE.size 128 = some 1 := by kernel_rfl
theorem by128 : (EE.info 128).map (·.bytes) = some 8 := by kernel_rfl
theorem zc128 : EE.zcells 128 = some [.nilFunc] := by kernel_rfl
theorem sz129 : EE.size 129 = some 1 := by kernel_rfl
theorem by129 : (EE.info 129).map (·.bytes) = some 8 := by kernel_rfl
theorem zc129 : EE.zcells 129 = some [.nilFunc] := by kernel_rfl
theorem sz130 : EE.size 130 = some 1 := by kernel_rfl
theorem by130 : (EE.info 130).map (·.bytes) = some 8 := by kernel_rfl
theorem zc130 : EE.zcells 130 = some [.nilFunc] := by kernel_rfl
theorem sz131 : EE.size 131 = some 1 := by kernel_rfl
theorem by131 : (EE.info 131).map (·.bytes) = some 8 := by kernel_rfl
theorem zc131 : EE.zcells 131 = some [.nilFunc] := by kernel_rfl
theorem sz132 : EE.size 132 = some 1 := by kernel_rfl
theorem by132 : (EE.info 132).map (·.bytes) = some 8 := by kernel_rfl
theorem zc132 : EE.zcells 132 = some [.nilFunc] := by kernel_rfl
theorem sz133 : EE.size 133 = some 1 := by kernel_rfl
theorem by133 : (EE.info 133).map (·.bytes) = some 8 := by kernel_rfl
theorem zc133 : EE.zcells 133 = some [.nilFunc] := by kernel_rfl
theorem sz134 : EE.size 134 = some 1 := by kernel_rfl
theorem by134 : (EE.info 134).map (·.bytes) = some 8 := by kernel_rfl
theorem zc134 : EE.zcells 134 = some [.nilFunc] := by kernel_rfl
theorem sz135 : EE.size 135 = some 1 := by kernel_rfl
theorem by135 : (EE.info 135).map (·.bytes) = some 0 := by kernel_rfl
theorem sz136 : EE.size 136 = some 1 := by kernel_rfl
theorem by136 : (EE.info 136).map (·.bytes) = some 8 := by kernel_rfl
theorem zc136 : EE.zcells 136 = some [.nilFunc] := by kernel_rfl
theorem un137 : EE.under 137 = some (.array 15 9) := by kernel_rfl
theorem sz137 : EE.size 137 = some 15 := by kernel_rfl
theorem by137 : (EE.info 137).map (·.bytes) = some 240 := by kernel_rfl
theorem zc137 : EE.zcells 137 = some [.string ⟨⟨[]⟩⟩, .string ⟨⟨[]⟩⟩, .string ⟨⟨[]⟩⟩, .string ⟨⟨[]⟩⟩, .string ⟨⟨[]⟩⟩, .string ⟨⟨[]⟩⟩, .string ⟨⟨[]⟩⟩, .string ⟨⟨[]⟩⟩, .string ⟨⟨[]⟩⟩, .string ⟨⟨[]⟩⟩, .string ⟨⟨[]⟩⟩, .string ⟨⟨[]⟩⟩, .string ⟨⟨[]⟩⟩, .string ⟨⟨[]⟩⟩, .string ⟨⟨[]⟩⟩] := by kernel_rfl
theorem sz138 : EE.size 138 = some 1 := by kernel_rfl
theorem by138 : (EE.info 138).map (·.bytes) = some 8 := by kernel_rfl
theorem zc138 : EE.zcells 138 = some [.nilFunc] := by kernel_rfl
theorem sz139 : EE.size 139 = some 1 := by kernel_rfl
theorem by139 : (EE.info 139).map (·.bytes) = some 8 := by kernel_rfl
theorem zc139 : EE.zcells 139 = some [.pointer none] := by kernel_rfl
theorem sz140 : EE.size 140 = some 2 := by kernel_rfl
theorem by140 : (EE.info 140).map (·.bytes) = some 32 := by kernel_rfl
theorem zc140 : EE.zcells 140 = some [.pointer none, .slice none 0 0] := by kernel_rfl
theorem sz141 : EE.size 141 = some 2 := by kernel_rfl
theorem by141 : (EE.info 141).map (·.bytes) = some 32 := by kernel_rfl
theorem zc141 : EE.zcells 141 = some [.pointer none, .slice none 0 0] := by kernel_rfl
theorem sz142 : EE.size 142 = some 1 := by kernel_rfl
theorem by142 : (EE.info 142).map (·.bytes) = some 8 := by kernel_rfl
theorem zc142 : EE.zcells 142 = some [.nilFunc] := by kernel_rfl
theorem sz143 : EE.size 143 = some 1 := by kernel_rfl
theorem by143 : (EE.info 143).map (·.bytes) = some 16 := by kernel_rfl
theorem zc143 : EE.zcells 143 = some [.nilIface] := by kernel_rfl
theorem sz144 : EE.size 144 = some 1 := by kernel_rfl
theorem by144 : (EE.info 144).map (·.bytes) = some 16 := by kernel_rfl
theorem zc144 : EE.zcells 144 = some [.nilIface] := by kernel_rfl
theorem sz145 : EE.size 145 = some 1 := by kernel_rfl
theorem by145 : (EE.info 145).map (·.bytes) = some 0 := by kernel_rfl
theorem sz146 : EE.size 146 = some 1 := by kernel_rfl
theorem by146 : (EE.info 146).map (·.bytes) = some 8 := by kernel_rfl
theorem zc146 : EE.zcells 146 = some [.nilFunc] := by kernel_rfl
theorem sz147 : EE.size 147 = some 1 := by kernel_rfl
theorem by147 : (EE.info 147).map (·.bytes) = some 8 := by kernel_rfl
theorem zc147 : EE.zcells 147 = some [.nilFunc] := by kernel_rfl
theorem sz148 : EE.size 148 = some 1 := by kernel_rfl
theorem by148 : (EE.info 148).map (·.bytes) = some 8 := by kernel_rfl
theorem zc148 : EE.zcells 148 = some [.nilFunc] := by kernel_rfl
theorem sz149 : EE.size 149 = some 1 := by kernel_rfl
theorem by149 : (EE.info 149).map (·.bytes) = some 8 := by kernel_rfl
theorem zc149 : EE.zcells 149 = some [.nilFunc] := by kernel_rfl
theorem sz150 : EE.size 150 = some 1 := by kernel_rfl
theorem by150 : (EE.info 150).map (·.bytes) = some 8 := by kernel_rfl
theorem zc150 : EE.zcells 150 = some [.nilFunc] := by kernel_rfl
theorem sz151 : EE.size 151 = some 1 := by kernel_rfl
theorem by151 : (EE.info 151).map (·.bytes) = some 0 := by kernel_rfl
theorem sz152 : EE.size 152 = some 1 := by kernel_rfl
theorem by152 : (EE.info 152).map (·.bytes) = some 8 := by kernel_rfl
theorem zc152 : EE.zcells 152 = some [.nilFunc] := by kernel_rfl
theorem sz153 : EE.size 153 = some 1 := by kernel_rfl
theorem by153 : (EE.info 153).map (·.bytes) = some 8 := by kernel_rfl
theorem zc153 : EE.zcells 153 = some [.nilFunc] := by kernel_rfl
theorem sz154 : EE.size 154 = some 1 := by kernel_rfl
theorem by154 : (EE.info 154).map (·.bytes) = some 8 := by kernel_rfl
theorem zc154 : EE.zcells 154 = some [.nilFunc] := by kernel_rfl
theorem sz155 : EE.size 155 = some 1 := by kernel_rfl
theorem by155 : (EE.info 155).map (·.bytes) = some 0 := by kernel_rfl
theorem sz156 : EE.size 156 = some 1 := by kernel_rfl
theorem by156 : (EE.info 156).map (·.bytes) = some 8 := by kernel_rfl
theorem zc156 : EE.zcells 156 = some [.nilFunc] := by kernel_rfl
theorem sz157 : EE.size 157 = some 1 := by kernel_rfl
theorem by157 : (EE.info 157).map (·.bytes) = some 8 := by kernel_rfl
theorem zc157 : EE.zcells 157 = some [.nilFunc] := by kernel_rfl
theorem sz158 : EE.size 158 = some 1 := by kernel_rfl
theorem by158 : (EE.info 158).map (·.bytes) = some 8 := by kernel_rfl
theorem zc158 : EE.zcells 158 = some [.nilFunc] := by kernel_rfl
theorem un159 : EE.under 159 = some (.slice 114) := by kernel_rfl
theorem sz159 : EE.size 159 = some 1 := by kernel_rfl
theorem by159 : (EE.info 159).map (·.bytes) = some 24 := by kernel_rfl
theorem zc159 : EE.zcells 159 = some [.slice none 0 0] := by kernel_rfl
theorem sz160 : EE.size 160 = some 1 := by kernel_rfl
theorem by160 : (EE.info 160).map (·.bytes) = some 8 := by kernel_rfl
theorem zc160 : EE.zcells 160 = some [.nilFunc] := by kernel_rfl
theorem sz161 : EE.size 161 = some 1 := by kernel_rfl
theorem by161 : (EE.info 161).map (·.bytes) = some 0 := by kernel_rfl
theorem sz162 : EE.size 162 = some 1 := by kernel_rfl
theorem by162 : (EE.info 162).map (·.bytes) = some 8 := by kernel_rfl
theorem zc162 : EE.zcells 162 = some [.nilFunc] := by kernel_rfl
theorem sz163 : EE.size 163 = some 1 := by kernel_rfl
theorem by163 : (EE.info 163).map (·.bytes) = some 8 := by kernel_rfl
theorem zc163 : EE.zcells 163 = some [.nilFunc] := by kernel_rfl
theorem sz164 : EE.size 164 = some 1 := by kernel_rfl
theorem by164 : (EE.info 164).map (·.bytes) = some 8 := by kernel_rfl
theorem zc164 : EE.zcells 164 = some [.pointer none] := by kernel_rfl
theorem sz165 : EE.size 165 = some 1 := by kernel_rfl
theorem by165 : (EE.info 165).map (·.bytes) = some 8 := by kernel_rfl
theorem zc165 : EE.zcells 165 = some [.nilFunc] := by kernel_rfl
theorem sz166 : EE.size 166 = some 1 := by kernel_rfl
theorem by166 : (EE.info 166).map (·.bytes) = some 8 := by kernel_rfl
theorem zc166 : EE.zcells 166 = some [.nilFunc] := by kernel_rfl
theorem sz167 : EE.size 167 = some 1 := by kernel_rfl
theorem by167 : (EE.info 167).map (·.bytes) = some 8 := by kernel_rfl
theorem zc167 : EE.zcells 167 = some [.nilFunc] := by kernel_rfl
theorem un168 : EE.under 168 = some (.int .u64) := by kernel_rfl
theorem sz168 : EE.size 168 = some 1 := by kernel_rfl
theorem by168 : (EE.info 168).map (·.bytes) = some 8 := by kernel_rfl
theorem zc168 : EE.zcells 168 = some [.int .u64 0] := by kernel_rfl
theorem un169 : EE.under 169 = some (.slice 173) := by kernel_rfl
theorem sz169 : EE.size 169 = some 1 := by kernel_rfl
theorem by169 : (EE.info 169).map (·.bytes) = some 24 := by kernel_rfl
theorem zc169 : EE.zcells 169 = some [.slice none 0 0] := by kernel_rfl
theorem un170 : EE.under 170 = some (.slice 173) := by kernel_rfl
theorem sz170 : EE.size 170 = some 1 := by kernel_rfl
theorem by170 : (EE.info 170).map (·.bytes) = some 24 := by kernel_rfl
theorem zc170 : EE.zcells 170 = some [.slice none 0 0] := by kernel_rfl
theorem sz171 : EE.size 171 = some 1 := by kernel_rfl
theorem by171 : (EE.info 171).map (·.bytes) = some 8 := by kernel_rfl
theorem zc171 : EE.zcells 171 = some [.nilFunc] := by kernel_rfl
theorem sz172 : EE.size 172 = some 1 := by kernel_rfl
theorem by172 : (EE.info 172).map (·.bytes) = some 8 := by kernel_rfl
theorem zc172 : EE.zcells 172 = some [.nilFunc] := by kernel_rfl
theorem un173 : EE.under 173 = some (.int .u32) := by kernel_rfl
theorem sz173 : EE.size 173 = some 1 := by kernel_rfl
theorem by173 : (EE.info 173).map (·.bytes) = some 4 := by kernel_rfl
theorem zc173 : EE.zcells 173 = some [.int .u32 0] := by kernel_rfl
theorem un174 : EE.under 174 = some (.slice 173) := by kernel_rfl
theorem sz174 : EE.size 174 = some 1 := by kernel_rfl
theorem by174 : (EE.info 174).map (·.bytes) = some 24 := by kernel_rfl
theorem zc174 : EE.zcells 174 = some [.slice none 0 0] := by kernel_rfl
theorem sz175 : EE.size 175 = some 1 := by kernel_rfl
theorem by175 : (EE.info 175).map (·.bytes) = some 8 := by kernel_rfl
theorem zc175 : EE.zcells 175 = some [.nilFunc] := by kernel_rfl
theorem sz176 : EE.size 176 = some 1 := by kernel_rfl
theorem by176 : (EE.info 176).map (·.bytes) = some 0 := by kernel_rfl
theorem sz177 : EE.size 177 = some 1 := by kernel_rfl
theorem by177 : (EE.info 177).map (·.bytes) = some 8 := by kernel_rfl
theorem zc177 : EE.zcells 177 = some [.nilFunc] := by kernel_rfl
theorem sz178 : EE.size 178 = some 1 := by kernel_rfl
theorem by178 : (EE.info 178).map (·.bytes) = some 8 := by kernel_rfl
theorem zc178 : EE.zcells 178 = some [.nilFunc] := by kernel_rfl
theorem sz179 : EE.size 179 = some 1 := by kernel_rfl
theorem by179 : (EE.info 179).map (·.bytes) = some 8 := by kernel_rfl
theorem zc179 : EE.zcells 179 = some [.nilFunc] := by kernel_rfl
theorem sz180 : EE.size 180 = some 1 := by kernel_rfl
theorem by180 : (EE.info 180).map (·.bytes) = some 8 := by kernel_rfl
theorem zc180 : EE.zcells 180 = some [.nilFunc] := by kernel_rfl
theorem sz181 : EE.size 181 = some 1 := by kernel_rfl
theorem by181 : (EE.info 181).map (·.bytes) = some 0 := by kernel_rfl
theorem sz182 : EE.size 182 = some 1 := by kernel_rfl
theorem by182 : (EE.info 182).map (·.bytes) = some 8 := by kernel_rfl
theorem zc182 : EE.zcells 182 = some [.nilFunc] := by kernel_rfl
theorem sz183 : EE.size 183 = some 1 := by kernel_rfl
theorem by183 : (EE.info 183).map (·.bytes) = some 8 := by kernel_rfl
theorem zc183 : EE.zcells 183 = some [.nilFunc] := by kernel_rfl
theorem un184 : EE.under 184 = some (.array 256 4) := by kernel_rfl
theorem sz184 : EE.size 184 = some 256 := by kernel_rfl
theorem by184 : (EE.info 184).map (·.bytes) = some 256 := by kernel_rfl
theorem un185 : EE.under 185 = some (.array 256 4) := by kernel_rfl
theorem sz185 : EE.size 185 = some 256 := by kernel_rfl
theorem by185 : (EE.info 185).map (·.bytes) = some 256 := by kernel_rfl
theorem sz186 : EE.size 186 = some 1 := by kernel_rfl
theorem by186 : (EE.info 186).map (·.bytes) = some 0 := by kernel_rfl
theorem sz187 : EE.size 187 = some 1 := by kernel_rfl
theorem by187 : (EE.info 187).map (·.bytes) = some 8 := by kernel_rfl
theorem zc187 : EE.zcells 187 = some [.nilFunc] := by kernel_rfl
theorem sz188 : EE.size 188 = some 1 := by kernel_rfl
theorem by188 : (EE.info 188).map (·.bytes) = some 8 := by kernel_rfl
theorem zc188 : EE.zcells 188 = some [.nilFunc] := by kernel_rfl
theorem sz189 : EE.size 189 = some 1 := by kernel_rfl
theorem by189 : (EE.info 189).map (·.bytes) = some 8 := by kernel_rfl
theorem zc189 : EE.zcells 189 = some [.pointer none] := by kernel_rfl
theorem sz190 : EE.size 190 = some 1 := by kernel_rfl
theorem by190 : (EE.info 190).map (·.bytes) = some 8 := by kernel_rfl
theorem zc190 : EE.zcells 190 = some [.nilFunc] := by kernel_rfl
theorem sz191 : EE.size 191 = some 1 := by kernel_rfl
theorem by191 : (EE.info 191).map (·.bytes) = some 8 := by kernel_rfl
theorem zc191 : EE.zcells 191 = some [.pointer none] := by kernel_rfl
theorem sz192 : EE.size 192 = some 1 := by kernel_rfl
theorem by192 : (EE.info 192).map (·.bytes) = some 8 := by kernel_rfl
theorem zc192 : EE.zcells 192 = some [.nilFunc] := by kernel_rfl
theorem sz193 : EE.size 193 = some 1 := by kernel_rfl
theorem by193 : (EE.info 193).map (·.bytes) = some 8 := by kernel_rfl
theorem zc193 : EE.zcells 193 = some [.nilFunc] := by kernel_rfl
theorem sz194 : EE.size 194 = some 1 := by kernel_rfl
theorem by194 : (EE.info 194).map (·.bytes) = some 8 := by kernel_rfl
theorem zc194 : EE.zcells 194 = some [.nilFunc] := by kernel_rfl
theorem sz195 : EE.size 195 = some 1 := by kernel_rfl
theorem by195 : (EE.info 195).map (·.bytes) = some 8 := by kernel_rfl
theorem zc195 : EE.zcells 195 = some [.nilFunc] := by kernel_rfl
theorem sz196 : EE.size 196 = some 1 := by kernel_rfl
theorem by196 : (EE.info 196).map (·.bytes) = some 0 := by kernel_rfl
theorem sz197 : EE.size 197 = some 1 := by kernel_rfl
theorem by197 : (EE.info 197).map (·.bytes) = some 8 := by kernel_rfl
theorem zc197 : EE.zcells 197 = some [.nilFunc] := by kernel_rfl
theorem sz198 : EE.size 198 = some 1 := by kernel_rfl
theorem by198 : (EE.info 198).map (·.bytes) = some 8 := by kernel_rfl
theorem zc198 : EE.zcells 198 = some [.nilFunc] := by kernel_rfl
theorem sz199 : EE.size 199 = some 1 := by kernel_rfl
theorem by199 : (EE.info 199).map (·.bytes) = some 8 := by kernel_rfl
theorem zc199 : EE.zcells 199 = some [.nilFunc] := by kernel_rfl
theorem sz200 : EE.size 200 = some 1 := by kernel_rfl
theorem by200 : (EE.info 200).map (·.bytes) = some 8 := by kernel_rfl
theorem zc200 : EE.zcells 200 = some [.nilFunc] := by kernel_rfl
theorem sz201 : EE.size 201 = some 1 := by kernel_rfl
theorem by201 : (EE.info 201).map (·.bytes) = some 8 := by kernel_rfl
theorem zc201 : EE.zcells 201 = some [.nilFunc] := by kernel_rfl
theorem sz202 : EE.size 202 = some 1 := by kernel_rfl
theorem by202 : (EE.info 202).map (·.bytes) = some 8 := by kernel_rfl
theorem zc202 : EE.zcells 202 = some [.nilFunc] := by kernel_rfl
theorem sz203 : EE.size 203 = some 1 := by kernel_rfl
theorem by203 : (EE.info 203).map (·.bytes) = some 8 := by kernel_rfl
theorem zc203 : EE.zcells 203 = some [.nilFunc] := by kernel_rfl
theorem sz204 : EE.size 204 = some 1 := by kernel_rfl
theorem by204 : (EE.info 204).map (·.bytes) = some 8 := by kernel_rfl
theorem zc204 : EE.zcells 204 = some [.nilFunc] := by kernel_rfl
theorem sz205 : EE.size 205 = some 1 := by kernel_rfl
theorem by205 : (EE.info 205).map (·.bytes) = some 8 := by kernel_rfl
theorem zc205 : EE.zcells 205 = some [.nilFunc] := by kernel_rfl
theorem sz206 : EE.size 206 = some 1 := by kernel_rfl
theorem by206 : (EE.info 206).map (·.bytes) = some 8 := by kernel_rfl
theorem zc206 : EE.zcells 206 = some [.nilFunc] := by kernel_rfl
theorem sz207 : EE.size 207 = some 1 := by kernel_rfl
theorem by207 : (EE.info 207).map (·.bytes) = some 8 := by kernel_rfl
theorem zc207 : EE.zcells 207 = some [.nilFunc] := by kernel_rfl
theorem sz208 : EE.size 208 = some 1 := by kernel_rfl
theorem by208 : (EE.info 208).map (·.bytes) = some 8 := by kernel_rfl
theorem zc208 : EE.zcells 208 = some [.nilFunc] := by kernel_rfl
theorem sz209 : EE.size 209 = some 1 := by kernel_rfl
theorem by209 : (EE.info 209).map (·.bytes) = some 8 := by kernel_rfl
theorem zc209 : EE.zcells 209 = some [.nilFunc] := by kernel_rfl
theorem sz210 : EE.size 210 = some 1 := by kernel_rfl
theorem by210 : (EE.info 210).map (·.bytes) = some 8 := by kernel_rfl
theorem zc210 : EE.zcells 210 = some [.nilFunc] := by kernel_rfl
theorem sz211 : EE.size 211 = some 1 := by kernel_rfl
theorem by211 : (EE.info 211).map (·.bytes) = some 0 := by kernel_rfl
theorem sz212 : EE.size 212 = some 1 := by kernel_rfl
theorem by212 : (EE.info 212).map (·.bytes) = some 8 := by kernel_rfl
theorem zc212 : EE.zcells 212 = some [.nilFunc] := by kernel_rfl
theorem sz213 : EE.size 213 = some 1 := by kernel_rfl
theorem by213 : (EE.info 213).map (·.bytes) = some 0 := by kernel_rfl
theorem sz214 : EE.size 214 = some 1 := by kernel_rfl
theorem by214 : (EE.info 214).map (·.bytes) = some 8 := by kernel_rfl
theorem zc214 : EE.zcells 214 = some [.nilFunc] := by kernel_rfl
theorem sz215 : EE.size 215 = some 1 := by kernel_rfl
theorem by215 : (EE.info 215).map (·.bytes) = some 8 := by kernel_rfl
theorem zc215 : EE.zcells 215 = some [.nilFunc] := by kernel_rfl
theorem sz216 : EE.size 216 = some 1 := by kernel_rfl
theorem by216 : (EE.info 216).map (·.bytes) = some 8 := by kernel_rfl
theorem zc216 : EE.zcells 216 = some [.nilFunc] := by kernel_rfl
theorem sz217 : EE.size 217 = some 4 := by kernel_rfl
theorem by217 : (EE.info 217).map (·.bytes) = some 32 := by kernel_rfl
theorem zc217 : EE.zcells 217 = some [.int .i64 0, .int .i64 0, .int .i64 0, .int .i64 0] := by kernel_rfl
theorem sz218 : EE.size 218 = some 4 := by kernel_rfl
theorem by218 : (EE.info 218).map (·.bytes) = some 32 := by kernel_rfl
theorem zc218 : EE.zcells 218 = some [.int .i64 0, .int .i64 0, .int .i64 0, .int .i64 0] := by kernel_rfl
theorem sz219 : EE.size 219 = some 1 := by kernel_rfl
theorem by219 : (EE.info 219).map (·.bytes) = some 8 := by kernel_rfl
theorem zc219 : EE.zcells 219 = some [.nilFunc] := by kernel_rfl
theorem sz220 : EE.size 220 = some 1 := by kernel_rfl
theorem by220 : (EE.info 220).map (·.bytes) = some 8 := by kernel_rfl
theorem zc220 : EE.zcells 220 = some [.nilFunc] := by kernel_rfl
theorem sz221 : EE.size 221 = some 1 := by kernel_rfl
theorem by221 : (EE.info 221).map (·.bytes) = some 8 := by kernel_rfl
theorem zc221 : EE.zcells 221 = some [.nilFunc] := by kernel_rfl
theorem sz222 : EE.size 222 = some 1 := by kernel_rfl
theorem by222 : (EE.info 222).map (·.bytes) = some 8 := by kernel_rfl
theorem zc222 : EE.zcells 222 = some [.nilFunc] := by kernel_rfl
theorem sz223 : EE.size 223 = some 1 := by kernel_rfl
theorem by223 : (EE.info 223).map (·.bytes) = some 8 := by kernel_rfl
theorem zc223 : EE.zcells 223 = some [.nilFunc] := by kernel_rfl
theorem sz224 : EE.size 224 = some 1 := by kernel_rfl
theorem by224 : (EE.info 224).map (·.bytes) = some 8 := by kernel_rfl
theorem zc224 : EE.zcells 224 = some [.nilFunc] := by kernel_rfl
theorem un225 : EE.under 225 = some (.array 256 5) := by kernel_rfl
theorem sz225 : EE.size 225 = some 256 := by kernel_rfl
theorem by225 : (EE.info 225).map (·.bytes) = some 256 := by kernel_rfl
theorem sz226 : EE.size 226 = some 2 := by kernel_rfl
theorem by226 : (EE.info 226).map (·.bytes) = some 2 := by kernel_rfl
theorem zc226 : EE.zcells 226 = some [.int .u8 0, .int .u8 0] := by kernel_rfl
theorem sz227 : EE.size 227 = some 2 := by kernel_rfl
theorem by227 : (EE.info 227).map (·.bytes) = some 2 := by kernel_rfl
theorem zc227 : EE.zcells 227 = some [.int .u8 0, .int .u8 0] := by kernel_rfl
theorem un228 : EE.under 228 = some (.array 16 227) := by kernel_rfl
theorem sz228 : EE.size 228 = some 32 := by kernel_rfl
theorem by228 : (EE.info 228).map (·.bytes) = some 32 := by kernel_rfl
theorem zc228 : EE.zcells 228 = some [.int .u8 0, .int .u8 0, .int .u8 0, .int .u8 0, .int .u8 0, .int .u8 0, .int .u8 0, .int .u8 0, .int .u8 0, .int .u8 0, .int .u8 0, .int .u8 0, .int .u8 0, .int .u8 0, .int .u8 0, .int .u8 0, .int .u8 0, .int .u8 0, .int .u8 0, .int .u8 0, .int .u8 0, .int .u8 0, .int .u8 0, .int .u8 0, .int .u8 0, .int .u8 0, .int .u8 0, .int .u8 0, .int .u8 0, .int .u8 0, .int .u8 0, .int .u8 0] := by kernel_rfl
theorem sz229 : EE.size 229 = some 1 := by kernel_rfl
theorem by229 : (EE.info 229).map (·.bytes) = some 8 := by kernel_rfl
theorem zc229 : EE.zcells 229 = some [.nilFunc] := by kernel_rfl
theorem sz230 : EE.size 230 = some 1 := by kernel_rfl
theorem by230 : (EE.info 230).map (·.bytes) = some 8 := by kernel_rfl
theorem zc230 : EE.zcells 230 = some [.nilFunc] := by kernel_rfl
theorem sz231 : EE.size 231 = some 1 := by kernel_rfl
theorem by231 : (EE.info 231).map (·.bytes) = some 0 := by kernel_rfl
theorem sz232 : EE.size 232 = some 1 := by kernel_rfl
theorem by232 : (EE.info 232).map (·.bytes) = some 8 := by kernel_rfl
theorem zc232 : EE.zcells 232 = some [.nilFunc] := by kernel_rfl
theorem sz233 : EE.size 233 = some 1 := by kernel_rfl
theorem by233 : (EE.info 233).map (·.bytes) = some 0 := by kernel_rfl
theorem sz234 : EE.size 234 = some 1 := by kernel_rfl
theorem by234 : (EE.info 234).map (·.bytes) = some 8 := by kernel_rfl
theorem zc234 : EE.zcells 234 = some [.nilFunc] := by kernel_rfl
theorem un235 : EE.under 235 = some (.array 24 5) := by kernel_rfl
theorem sz235 : EE.size 235 = some 24 := by kernel_rfl
theorem by235 : (EE.info 235).map (·.bytes) = some 24 := by kernel_rfl
theorem zc235 : EE.zcells 235 = some [.int .u8 0, .int .u8 0, .int .u8 0, .int .u8 0, .int .u8 0, .int .u8 0, .int .u8 0, .int .u8 0, .int .u8 0, .int .u8 0, .int .u8 0, .int .u8 0, .int .u8 0, .int .u8 0, .int .u8 0, .int .u8 0, .int .u8 0, .int .u8 0, .int .u8 0, .int .u8 0, .int .u8 0, .int .u8 0, .int .u8 0, .int .u8 0] := by kernel_rfl
theorem sz236 : EE.size 236 = some 1 := by kernel_rfl
theorem by236 : (EE.info 236).map (·.bytes) = some 8 := by kernel_rfl
theorem zc236 : EE.zcells 236 = some [.nilFunc] := by kernel_rfl
theorem sz237 : EE.size 237 = some 1 := by kernel_rfl
theorem by237 : (EE.info 237).map (·.bytes) = some 0 := by kernel_rfl
theorem sz238 : EE.size 238 = some 1 := by kernel_rfl
theorem by238 : (EE.info 238).map (·.bytes) = some 8 := by kernel_rfl
theorem zc238 : EE.zcells 238 = some [.nilFunc] := by kernel_rfl
theorem sz239 : EE.size 239 = some 1 := by kernel_rfl
theorem by239 : (EE.info 239).map (·.bytes) = some 0 := by kernel_rfl
theorem sz240 : EE.size 240 = some 1 := by kernel_rfl
theorem by240 : (EE.info 240).map (·.bytes) = some 8 := by kernel_rfl
theorem zc240 : EE.zcells 240 = some [.nilFunc] := by kernel_rfl
theorem un241 : EE.under 241 = some (.array 20 127) := by kernel_rfl
theorem sz241 : EE.size 241 = some 20 := by kernel_rfl
theorem by241 : (EE.info 241).map (·.bytes) = some 160 := by kernel_rfl
theorem zc241 : EE.zcells 241 = some [.int .u64 0, .int .u64 0, .int .u64 0, .int .u64 0, .int .u64 0, .int .u64 0, .int .u64 0, .int .u64 0, .int .u64 0, .int .u64 0, .int .u64 0, .int .u64 0, .int .u64 0, .int .u64 0, .int .u64 0, .int .u64 0, .int .u64 0, .int .u64 0, .int .u64 0, .int .u64 0] := by kernel_rfl
theorem un242 : EE.under 242 = some (.array 65 5) := by kernel_rfl
theorem sz242 : EE.size 242 = some 65 := by kernel_rfl
theorem by242 : (EE.info 242).map (·.bytes) = some 65 := by kernel_rfl
theorem sz243 : EE.size 243 = some 1 := by kernel_rfl
theorem by243 : (EE.info 243).map (·.bytes) = some 0 := by kernel_rfl
theorem sz244 : EE.size 244 = some 1 := by kernel_rfl
theorem by244 : (EE.info 244).map (·.bytes) = some 8 := by kernel_rfl
theorem zc244 : EE.zcells 244 = some [.nilFunc] := by kernel_rfl
theorem sz245 : EE.size 245 = some 1 := by kernel_rfl
theorem by245 : (EE.info 245).map (·.bytes) = some 0 := by kernel_rfl
theorem sz246 : EE.size 246 = some 1 := by kernel_rfl
theorem by246 : (EE.info 246).map (·.bytes) = some 8 := by kernel_rfl
theorem zc246 : EE.zcells 246 = some [.nilFunc] := by kernel_rfl
theorem un247 : EE.under 247 = some (.array 32 5) := by kernel_rfl
theorem sz247 : EE.size 247 = some 32 := by kernel_rfl
theorem by247 : (EE.info 247).map (·.bytes) = some 32 := by kernel_rfl
theorem zc247 : EE.zcells 247 = some [.int .u8 0, .int .u8 0, .int .u8 0, .int .u8 0, .int .u8 0, .int .u8 0, .int .u8 0, .int .u8 0, .int .u8 0, .int .u8 0, .int .u8 0, .int .u8 0, .int .u8 0, .int .u8 0, .int .u8 0, .int .u8 0, .int .u8 0, .int .u8 0, .int .u8 0, .int .u8 0, .int .u8 0, .int .u8 0, .int .u8 0, .int .u8 0, .int .u8 0, .int .u8 0, .int .u8 0, .int .u8 0, .int .u8 0, .int .u8 0, .int .u8 0, .int .u8 0] := by kernel_rfl
theorem un248 : EE.under 248 = some (.array 64 5) := by kernel_rfl
theorem sz248 : EE.size 248 = some 64 := by kernel_rfl
theorem by248 : (EE.info 248).map (·.bytes) = some 64 := by kernel_rfl
theorem sz249 : EE.size 249 = some 4 := by kernel_rfl
theorem by249 : (EE.info 249).map (·.bytes) = some 40 := by kernel_rfl
theorem zc249 : EE.zcells 249 = some [.pointer none, .pointer none, .pointer none, .string ⟨⟨[]⟩⟩] := by kernel_rfl
theorem sz250 : EE.size 250 = some 4 := by kernel_rfl
theorem by250 : (EE.info 250).map (·.bytes) = some 40 := by kernel_rfl
theorem zc250 : EE.zcells 250 = some [.pointer none, .pointer none, .pointer none, .string ⟨⟨[]⟩⟩] := by kernel_rfl
theorem un251 : EE.under 251 = some (.array 0 16) := by kernel_rfl
theorem sz251 : EE.size 251 = some 0 := by kernel_rfl
theorem by251 : (EE.info 251).map (·.bytes) = some 0 := by kernel_rfl
theorem zc251 : EE.zcells 251 = some [] := by kernel_rfl
theorem sz252 : EE.size 252 = some 0 := by kernel_rfl
theorem by252 : (EE.info 252).map (·.bytes) = some 0 := by kernel_rfl
theorem zc252 : EE.zcells 252 = some [] := by kernel_rfl
theorem sz253 : EE.size 253 = some 0 := by kernel_rfl
theorem by253 : (EE.info 253).map (·.bytes) = some 0 := by kernel_rfl
theorem zc253 : EE.zcells 253 = some [] := by kernel_rfl
theorem un254 : EE.under 254 = some (.int .u8) := by kernel_rfl
theorem sz254 : EE.size 254 = some 1 := by kernel_rfl
theorem by254 : (EE.info 254).map (·.bytes) = some 1 := by kernel_rfl
theorem zc254 : EE.zcells 254 = some [.int .u8 0] := by kernel_rfl
theorem un255 : EE.under 255 = some (.int .u8) := by kernel_rfl
theorem sz255 : EE.size 255 = some 1 := by kernel_rfl
theorem by255 : (EE.info 255).map (·.bytes) = some 1 := by kernel_rfl
theorem zc255 : EE.zcells 255 = some [.int .u8 0] := by kernel_rfl
theorem sz256 : EE.size 256 = some 1 := by kernel_rfl
theorem by256 : (EE.info 256).map (·.bytes) = some 8 := by kernel_rfl
theorem zc256 : EE.zcells 256 = some [.nilFunc] := by kernel_rfl
theorem un257 : EE.under 257 = some (.int .i32) := by kernel_rfl
theorem sz257 : EE.size 257 = some 1 := by kernel_rfl
theorem by257 : (EE.info 257).map (·.bytes) = some 4 := by kernel_rfl
theorem zc257 : EE.zcells 257 = some [.int .i32 0] := by kernel_rfl
theorem un258 : EE.under 258 = some (.int .i32) := by kernel_rfl
theorem sz258 : EE.size 258 = some 1 := by kernel_rfl
theorem by258 : (EE.info 258).map (·.bytes) = some 4 := by kernel_rfl
theorem zc258 : EE.zcells 258 = some [.int .i32 0] := by kernel_rfl
theorem sz259 : EE.size 259 = some 11 := by kernel_rfl
theorem by259 : (EE.info 259).map (·.bytes) = some 48 := by kernel_rfl
theorem zc259 : EE.zcells 259 = some [.int .u64 0, .int .u64 0, .int .u32 0, .int .u8 0, .int .u8 0, .int .u8 0, .int .u8 0, .nilFunc, .pointer none, .int .i32 0, .int .i32 0] := by kernel_rfl
theorem sz260 : EE.size 260 = some 11 := by kernel_rfl
theorem by260 : (EE.info 260).map (·.bytes) = some 48 := by kernel_rfl
theorem zc260 : EE.zcells 260 = some [.int .u64 0, .int .u64 0, .int .u32 0, .int .u8 0, .int .u8 0, .int .u8 0, .int .u8 0, .nilFunc, .pointer none, .int .i32 0, .int .i32 0] := by kernel_rfl
attribute [simp] sz0 sz1 zc1 un2 sz2 zc2 un3 sz3 zc3 sz4 zc4 un5 sz5 zc5 un6 sz6 zc6 sz7 zc7 sz8 zc8 un9 sz9 zc9 un10 sz10 zc10 un11 sz11 zc11 un12 sz12 zc12 sz13 zc13 sz14 zc14 sz15 zc15 sz16 zc16 sz17 zc17 sz18 zc18 sz19 zc19 sz20 zc20 un21 sz21 zc21 un22 sz22 zc22 sz23 zc23 sz24 zc24 ne24 eq24 sz25 zc25 sz26 zc26 sz27 zc27 sz28 zc28 sz29 zc29 sz30 zc30 ne30 eq30 sz31 zc31 sz32 sz33 zc33 sz34 zc34 sz35 zc35 sz36 zc36 sz37 zc37 sz38 zc38 un39 sz39 zc39 sz40 zc40 un41 sz41 zc41 un42 sz42 zc42 sz43 zc43 sz44 zc44 sz45 zc45 sz46 zc46 un47 sz47 zc47 sz48 sz49 zc49 sz50 zc50 sz51 zc51 sz52 zc52 sz53 zc53 sz54 zc54 sz55 zc55 sz56 zc56 sz57 sz58 zc58 sz59 sz60 zc60 sz61 sz62 zc62 sz63 zc63 sz64 zc64 sz65 sz66 zc66 sz67 zc67 sz68 zc68 sz69 zc69 sz70 zc70 sz71 sz72 zc72 sz73 zc73 sz74 zc74 sz75 zc75 sz76 zc76 sz77 zc77 sz78 zc78 un79 sz79 zc79 sz80 sz81 zc81 sz82 zc82 sz83 zc83 sz84 zc84 sz85 zc85 sz86 zc86 sz87 zc87 sz88 zc88 sz89 zc89 un90 sz90 zc90 sz91 zc91 sz92 zc92 sz93 zc93 sz94 zc94 sz95 zc95 un96 sz96 zc96 sz97 zc97 sz98 zc98 sz99 sz100 zc100 sz101 zc101 sz102 zc102 sz103 zc103 sz104 zc104 un105 sz105 zc105 sz106 zc106 sz107 zc107 sz108 sz109 zc109 sz110 zc110 sz111 zc111 sz112 zc112 sz113 zc113 sz114 zc114 sz115 sz116 zc116 sz117 zc117 sz118 zc118 sz119 zc119 sz120 zc120 sz121 zc121 sz122 zc122 sz123 zc123 sz124 zc124 sz125 zc125 sz126 zc126 un127 sz127 zc127 sz128 zc128 sz129 zc129 sz130 zc130 sz131 zc131 sz132 zc132 sz133 zc133 sz134 zc134 sz135 sz136 zc136 un137 sz137 zc137 sz138 zc138 sz139 zc139 sz140 zc140 sz141 zc141 sz142 zc142 sz143 zc143 sz144 zc144 sz145 sz146 zc146 sz147 zc147 sz148 zc148 sz149 zc149 sz150 zc150 sz151 sz152 zc152 sz153 zc153 sz154 zc154 sz155 sz156 zc156 sz157 zc157 sz158 zc158 un159 sz159 zc159 sz160 zc160 sz161 sz162 zc162 sz163 zc163 sz164 zc164 sz165 zc165 sz166 zc166 sz167 zc167 un168 sz168 zc168 un169 sz169 zc169 un170 sz170 zc170 sz171 zc171 sz172 zc172 un173 sz173 zc173 un174 sz174 zc174 sz175 zc175 sz176 sz177 zc177 sz178 zc178 sz179 zc179 sz180 zc180 sz181 sz182 zc182 sz183 zc183 un184 sz184 un185 sz185 sz186 sz187 zc187 sz188 zc188 sz189 zc189 sz190 zc190 sz191 zc191 sz192 zc192 sz193 zc193 sz194 zc194 sz195 zc195 sz196 sz197 zc197 sz198 zc198 sz199 zc199 sz200 zc200 sz201 zc201 sz202 zc202 sz203 zc203 sz204 zc204 sz205 zc205 sz206 zc206 sz207 zc207 sz208 zc208 sz209 zc209 sz210 zc210 sz211 sz212 zc212 sz213 sz214 zc214 sz215 zc215 sz216 zc216 sz217 zc217 sz218 zc218 sz219 zc219 sz220 zc220 sz221 zc221 sz222 zc222 sz223 zc223 sz224 zc224 un225 sz225 sz226 zc226 sz227 zc227 un228 sz228 zc228 sz229 zc229 sz230 zc230 sz231 sz232 zc232 sz233 sz234 zc234 un235 sz235 zc235 sz236 zc236 sz237 sz238 zc238 sz239 sz240 zc240 un241 sz241 zc241 un242 sz242 sz243 sz244 zc244 sz245 sz246 zc246 un247 sz247 zc247 un248 sz248 sz249 zc249 sz250 zc250 un251 sz251 zc251 sz252 zc252 sz253 zc253 un254 sz254 zc254 un255 sz255 zc255 sz256 zc256 un257 sz257 zc257 un258 sz258 zc258 sz259 zc259 sz260 zc260
end Go.Proofs.YthbmhdlbphkljaaGreatDoor
