/- The resolved codes of functions, each with its equation. Written by rfs.sh. -/
import Derived.Test.YtmgkffdnnjpmpaaHkDrv
import Derived.Test.YtmgkffdnnjpmpaaProg
import Derived.KernelRfl
namespace Hk
open Go Go.Proofs
set_option maxRecDepth 100000
/-- hackle/hacklelaw17.CrcTable -/
def rf3 : RFn := ⟨0, 16, [.tmp 0],
 .seq (.ops [
   ⟨none, (some 0), .mov (.c (.b false))⟩])
 (.seq (.seq (.ops [
    ⟨none, (some 3), .call 16 []⟩,
    ⟨none, (some 4), .un .not (.t 3)⟩])
  (.cond (.t 4)
   (.seq (.ops [
     ⟨none, (some 0), .mov (.c (.b false))⟩])
   (.ret))
   (.skip)))
 (.seq (.ops [
   ⟨none, (some 5), .call 17 []⟩,
   ⟨none, (some 1), .alloc true (List.replicate 256 (.int .u32 0))⟩,
   ⟨none, none, .store (.t 1) (.t 5) 256⟩])
 (.seq (.seq (.ops [
    ⟨none, (some 2), .mov (.c (.int .i64 0))⟩])
  (.block 0 (.loop [1, 2] (
   .seq (.seq (.ops [
      ⟨none, (some 6), .mov (.t 2)⟩,
      ⟨none, (some 7), .bin .lss (.t 6) (.c (.int .i64 256))⟩])
    (.cond (.t 7)
     (.skip)
     (.exit 0)))
   (.seq (.block 1 (.seq (.draw (
      .take ⟨none, (some 10), .mov (.t 2)⟩ <|
      .take ⟨none, (some 11), .idxA (.t 1) (.t 10) 256 1⟩ <|
      .take ⟨none, (some 12), .load (.t 11) 1 false⟩ <|
      .take ⟨none, (some 13), .mov (.t 2)⟩ <|
      .alt ⟨none, (some 14), .call 18 [(.t 13)]⟩ false (
       .take ⟨none, (some 15), .bin .neq (.t 12) (.t 14)⟩ <|
       .done)
       (.noalt)))
    (.cond (.t 15)
     (.seq (.ops [
       ⟨none, (some 0), .mov (.c (.b false))⟩])
     (.ret))
     (.skip))))
   (.ops [
    ⟨none, (some 8), .mov (.t 2)⟩,
    ⟨none, (some 9), .bin .add (.t 8) (.c (.int .i64 1))⟩,
    ⟨none, (some 2), .mov (.t 9)⟩]))))))
 (.seq (.ops [
   ⟨none, (some 0), .mov (.c (.b true))⟩])
 (.ret)))))⟩
theorem rf3_eq : cfnAt Try.prog 3 [[1, 2]] = some rf3 := by kernel_rfl
/-- hackle/hacklelaw17.CrcTurned -/
def rf4 : RFn := ⟨3, 56, [.tmp 6],
 .seq (.ops [
   ⟨none, (some 5), .box true (.t 2) 4⟩,
   ⟨none, (some 6), .mov (.c (.b false))⟩])
 (.seq (.seq (.ops [
    ⟨none, (some 9), .call 16 []⟩,
    ⟨none, (some 10), .un .not (.t 9)⟩])
  (.cond (.t 10)
   (.seq (.ops [
     ⟨none, (some 6), .mov (.c (.b false))⟩])
   (.ret))
   (.skip)))
 (.seq (.seq (.ops [
    ⟨none, (some 11), .mov (.t 0)⟩,
    ⟨none, (some 12), .lenStr (.t 11)⟩,
    ⟨none, (some 13), .bin .gtr (.t 12) (.c (.int .i64 2000))⟩,
    ⟨none, (some 14), .mov (.t 13)⟩,
    ⟨(some (14, false)), (some 15), .mov (.t 1)⟩,
    ⟨(some (14, false)), (some 16), .bin .lss (.t 15) (.c (.int .i64 0))⟩,
    ⟨none, (some 17), .pick (.t 14) (.c (.b true)) (.t 16)⟩,
    ⟨none, (some 18), .mov (.t 17)⟩,
    ⟨(some (18, false)), (some 19), .mov (.t 1)⟩,
    ⟨(some (18, false)), (some 20), .mov (.t 0)⟩,
    ⟨(some (18, false)), (some 21), .lenStr (.t 20)⟩,
    ⟨(some (18, false)), (some 22), .bin .sub (.t 21) (.c (.int .i64 4))⟩,
    ⟨(some (18, false)), (some 23), .bin .gtr (.t 19) (.t 22)⟩,
    ⟨none, (some 24), .pick (.t 18) (.c (.b true)) (.t 23)⟩])
  (.cond (.t 24)
   (.seq (.ops [
     ⟨none, (some 6), .mov (.c (.b true))⟩])
   (.ret))
   (.skip)))
 (.seq (.ops [
   ⟨none, (some 25), .mov (.t 0)⟩,
   ⟨none, (some 26), .bytesOf (.t 25)⟩,
   ⟨none, (some 7), .mov (.t 26)⟩])
 (.seq (.seq (.ops [
    ⟨none, (some 8), .mov (.c (.int .i64 0))⟩])
  (.block 0 (.loop [0, 1, 5, 7, 8] (
   .seq (.seq (.ops [
      ⟨none, (some 27), .mov (.t 8)⟩,
      ⟨none, (some 28), .bin .lss (.t 27) (.c (.int .i64 4))⟩])
    (.cond (.t 28)
     (.skip)
     (.exit 0)))
   (.seq (.block 1 (.draw (
     .take ⟨none, (some 31), .mov (.t 7)⟩ <|
     .take ⟨none, (some 32), .mov (.t 1)⟩ <|
     .take ⟨none, (some 33), .mov (.t 8)⟩ <|
     .take ⟨none, (some 34), .bin .add (.t 32) (.t 33)⟩ <|
     .take ⟨none, (some 35), .mov (.t 7)⟩ <|
     .take ⟨none, (some 36), .mov (.t 1)⟩ <|
     .take ⟨none, (some 37), .mov (.t 8)⟩ <|
     .take ⟨none, (some 38), .bin .add (.t 36) (.t 37)⟩ <|
     .take ⟨none, (some 39), .idxS (.t 35) (.t 38) 1⟩ <|
     .take ⟨none, (some 40), .load (.t 39) 1 false⟩ <|
     .take ⟨none, (some 41), .mov (.t 8)⟩ <|
     .take ⟨none, (some 42), .idxA (.t 5) (.t 41) 4 1⟩ <|
     .take ⟨none, (some 43), .load (.t 42) 1 false⟩ <|
     .take ⟨none, (some 44), .bin .xor (.t 40) (.t 43)⟩ <|
     .take ⟨none, (some 45), .idxS (.t 31) (.t 34) 1⟩ <|
     .alt ⟨none, none, .store (.t 45) (.t 44) 1⟩ true (
      .done)
      (.noalt))))
   (.ops [
    ⟨none, (some 29), .mov (.t 8)⟩,
    ⟨none, (some 30), .bin .add (.t 29) (.c (.int .i64 1))⟩,
    ⟨none, (some 8), .mov (.t 30)⟩]))))))
 (.seq (.draw (
   .take ⟨none, (some 46), .mov (.t 7)⟩ <|
   .take ⟨none, (some 47), .strOf (.t 46)⟩ <|
   .take ⟨none, (some 49), .mov (.t 0)⟩ <|
   .take ⟨none, (some 52), .load (.t 5) 4 true⟩ <|
   .take ⟨none, (some 53), .build [(.int .u8 0), (.int .u8 0), (.int .u8 0), (.int .u8 0)] []⟩ <|
   .take ⟨none, (some 54), .cmpa false [(.int .u8), (.int .u8), (.int .u8), (.int .u8)] (.t 52) (.t 53)⟩ <|
   .alt ⟨none, (some 48), .call 19 [(.t 47)]⟩ false (
    .alt ⟨none, (some 50), .call 19 [(.t 49)]⟩ false (
     .take ⟨none, (some 51), .bin .eql (.t 48) (.t 50)⟩ <|
     .take ⟨none, (some 55), .cmpb false (.t 51) (.t 54)⟩ <|
     .take ⟨none, (some 6), .mov (.t 55)⟩ <|
     .done)
     (.noalt))
    (.noalt)))
 (.ret))))))⟩
theorem rf4_eq : cfnAt Try.prog 4 [[0, 1, 5, 7, 8]] = some rf4 := by kernel_rfl
/-- hackle/hacklelaw17.CrcAround -/
def rf5 : RFn := ⟨3, 54, [.tmp 6],
 .seq (.ops [
   ⟨none, (some 5), .box true (.t 2) 2⟩,
   ⟨none, (some 6), .mov (.c (.b false))⟩])
 (.seq (.seq (.ops [
    ⟨none, (some 7), .call 16 []⟩,
    ⟨none, (some 8), .un .not (.t 7)⟩])
  (.cond (.t 8)
   (.seq (.ops [
     ⟨none, (some 6), .mov (.c (.b false))⟩])
   (.ret))
   (.skip)))
 (.seq (.seq (.ops [
    ⟨none, (some 9), .mov (.t 0)⟩,
    ⟨none, (some 10), .lenStr (.t 9)⟩,
    ⟨none, (some 11), .mov (.t 1)⟩,
    ⟨none, (some 12), .lenStr (.t 11)⟩,
    ⟨none, (some 13), .bin .neq (.t 10) (.t 12)⟩,
    ⟨none, (some 14), .mov (.t 13)⟩,
    ⟨(some (14, false)), (some 15), .mov (.t 0)⟩,
    ⟨(some (14, false)), (some 16), .lenStr (.t 15)⟩,
    ⟨(some (14, false)), (some 17), .bin .gtr (.t 16) (.c (.int .i64 2000))⟩,
    ⟨none, (some 18), .pick (.t 14) (.c (.b true)) (.t 17)⟩,
    ⟨none, (some 19), .mov (.t 18)⟩,
    ⟨(some (19, false)), (some 20), .idxA (.t 5) (.c (.int .i64 0)) 2 1⟩,
    ⟨(some (19, false)), (some 21), .load (.t 20) 1 false⟩,
    ⟨(some (19, false)), (some 22), .lenStr (.t 21)⟩,
    ⟨(some (19, false)), (some 23), .bin .gtr (.t 22) (.c (.int .i64 2000))⟩,
    ⟨none, (some 24), .pick (.t 19) (.c (.b true)) (.t 23)⟩,
    ⟨none, (some 25), .mov (.t 24)⟩,
    ⟨(some (25, false)), (some 26), .idxA (.t 5) (.c (.int .i64 1)) 2 1⟩,
    ⟨(some (25, false)), (some 27), .load (.t 26) 1 false⟩,
    ⟨(some (25, false)), (some 28), .lenStr (.t 27)⟩,
    ⟨(some (25, false)), (some 29), .bin .gtr (.t 28) (.c (.int .i64 2000))⟩,
    ⟨none, (some 30), .pick (.t 25) (.c (.b true)) (.t 29)⟩])
  (.cond (.t 30)
   (.seq (.ops [
     ⟨none, (some 6), .mov (.c (.b true))⟩])
   (.ret))
   (.skip)))
 (.seq (.draw (
   .take ⟨none, (some 31), .mov (.t 0)⟩ <|
   .take ⟨none, (some 33), .mov (.t 1)⟩ <|
   .take ⟨none, (some 36), .idxA (.t 5) (.c (.int .i64 0)) 2 1⟩ <|
   .take ⟨none, (some 37), .load (.t 36) 1 false⟩ <|
   .take ⟨none, (some 38), .mov (.t 0)⟩ <|
   .take ⟨none, (some 39), .bin .add (.t 37) (.t 38)⟩ <|
   .take ⟨none, (some 40), .idxA (.t 5) (.c (.int .i64 1)) 2 1⟩ <|
   .take ⟨none, (some 41), .load (.t 40) 1 false⟩ <|
   .take ⟨none, (some 42), .bin .add (.t 39) (.t 41)⟩ <|
   .take ⟨none, (some 44), .idxA (.t 5) (.c (.int .i64 0)) 2 1⟩ <|
   .take ⟨none, (some 45), .load (.t 44) 1 false⟩ <|
   .take ⟨none, (some 46), .mov (.t 1)⟩ <|
   .take ⟨none, (some 47), .bin .add (.t 45) (.t 46)⟩ <|
   .take ⟨none, (some 48), .idxA (.t 5) (.c (.int .i64 1)) 2 1⟩ <|
   .take ⟨none, (some 49), .load (.t 48) 1 false⟩ <|
   .take ⟨none, (some 50), .bin .add (.t 47) (.t 49)⟩ <|
   .alt ⟨none, (some 32), .call 19 [(.t 31)]⟩ false (
    .alt ⟨none, (some 34), .call 19 [(.t 33)]⟩ false (
     .take ⟨none, (some 35), .bin .eql (.t 32) (.t 34)⟩ <|
     .alt ⟨none, (some 43), .call 19 [(.t 42)]⟩ false (
      .alt ⟨none, (some 51), .call 19 [(.t 50)]⟩ false (
       .take ⟨none, (some 52), .bin .eql (.t 43) (.t 51)⟩ <|
       .take ⟨none, (some 53), .cmpb false (.t 35) (.t 52)⟩ <|
       .take ⟨none, (some 6), .mov (.t 53)⟩ <|
       .done)
       (.noalt))
      (.noalt))
     (.noalt))
    (.noalt)))
 (.ret))))⟩
theorem rf5_eq : cfnAt Try.prog 5 [] = some rf5 := by kernel_rfl
/-- hackle/hacklelaw17.CrcSums -/
def rf6 : RFn := ⟨2, 31, [.tmp 4],
 .seq (.ops [
   ⟨none, (some 4), .mov (.c (.b false))⟩])
 (.seq (.seq (.ops [
    ⟨none, (some 5), .call 16 []⟩,
    ⟨none, (some 6), .un .not (.t 5)⟩])
  (.cond (.t 6)
   (.seq (.ops [
     ⟨none, (some 4), .mov (.c (.b false))⟩])
   (.ret))
   (.skip)))
 (.seq (.seq (.ops [
    ⟨none, (some 7), .mov (.t 0)⟩,
    ⟨none, (some 8), .lenStr (.t 7)⟩,
    ⟨none, (some 9), .bin .gtr (.t 8) (.c (.int .i64 2000))⟩])
  (.cond (.t 9)
   (.seq (.ops [
     ⟨none, (some 4), .mov (.c (.b true))⟩])
   (.ret))
   (.skip)))
 (.seq (.ops [
   ⟨none, (some 10), .mov (.t 0)⟩,
   ⟨none, (some 11), .call 19 [(.t 10)]⟩,
   ⟨none, (some 12), .mov (.t 0)⟩,
   ⟨none, (some 13), .call 20 [(.t 12)]⟩,
   ⟨none, (some 14), .bin .eql (.t 11) (.t 13)⟩,
   ⟨none, (some 15), .mov (.t 14)⟩,
   ⟨(some (15, true)), (some 16), .mov (.t 1)⟩,
   ⟨(some (15, true)), (some 17), .mov (.t 0)⟩,
   ⟨(some (15, true)), (some 18), .call 21 [(.t 16), (.t 17)]⟩,
   ⟨(some (15, true)), (some 19), .mov (.t 1)⟩,
   ⟨(some (15, true)), (some 20), .mov (.t 0)⟩,
   ⟨(some (15, true)), (some 21), .call 22 [(.t 19), (.t 20)]⟩,
   ⟨(some (15, true)), (some 22), .bin .eql (.t 18) (.t 21)⟩,
   ⟨none, (some 23), .pick (.t 15) (.t 22) (.c (.b false))⟩,
   ⟨none, (some 24), .mov (.t 23)⟩,
   ⟨(some (24, true)), (some 25), .mov (.t 1)⟩,
   ⟨(some (24, true)), (some 26), .call 23 [(.t 25)]⟩,
   ⟨(some (24, true)), (some 27), .mov (.t 1)⟩,
   ⟨(some (24, true)), (some 28), .call 24 [(.t 27)]⟩,
   ⟨(some (24, true)), (some 29), .bin .eql (.t 26) (.t 28)⟩,
   ⟨none, (some 30), .pick (.t 24) (.t 29) (.c (.b false))⟩,
   ⟨none, (some 4), .mov (.t 30)⟩])
 (.ret))))⟩
theorem rf6_eq : cfnAt Try.prog 6 [] = some rf6 := by kernel_rfl
/-- hackle/hacklelaw17.CrcJoins -/
def rf7 : RFn := ⟨2, 45, [.tmp 4],
 .seq (.ops [
   ⟨none, (some 4), .mov (.c (.b false))⟩])
 (.seq (.seq (.ops [
    ⟨none, (some 6), .call 16 []⟩,
    ⟨none, (some 7), .un .not (.t 6)⟩])
  (.cond (.t 7)
   (.seq (.ops [
     ⟨none, (some 4), .mov (.c (.b false))⟩])
   (.ret))
   (.skip)))
 (.seq (.seq (.ops [
    ⟨none, (some 8), .mov (.t 0)⟩,
    ⟨none, (some 9), .lenStr (.t 8)⟩,
    ⟨none, (some 10), .bin .gtr (.t 9) (.c (.int .i64 2000))⟩,
    ⟨none, (some 11), .mov (.t 10)⟩,
    ⟨(some (11, false)), (some 12), .mov (.t 1)⟩,
    ⟨(some (11, false)), (some 13), .lenStr (.t 12)⟩,
    ⟨(some (11, false)), (some 14), .bin .gtr (.t 13) (.c (.int .i64 2000))⟩,
    ⟨none, (some 15), .pick (.t 11) (.c (.b true)) (.t 14)⟩])
  (.cond (.t 15)
   (.seq (.ops [
     ⟨none, (some 4), .mov (.c (.b true))⟩])
   (.ret))
   (.skip)))
 (.seq (.ops [
   ⟨none, (some 16), .mov (.t 0)⟩,
   ⟨none, (some 17), .mov (.t 1)⟩,
   ⟨none, (some 18), .bin .add (.t 16) (.t 17)⟩,
   ⟨none, (some 19), .call 20 [(.t 18)]⟩,
   ⟨none, (some 5), .mov (.t 19)⟩])
 (.seq (.ops [
   ⟨none, (some 20), .mov (.t 0)⟩,
   ⟨none, (some 21), .call 19 [(.t 20)]⟩,
   ⟨none, (some 22), .mov (.t 1)⟩,
   ⟨none, (some 23), .call 19 [(.t 22)]⟩,
   ⟨none, (some 24), .mov (.t 1)⟩,
   ⟨none, (some 25), .lenStr (.t 24)⟩,
   ⟨none, (some 26), .call 25 [(.t 21), (.t 23), (.t 25)]⟩,
   ⟨none, (some 27), .mov (.t 5)⟩,
   ⟨none, (some 28), .bin .eql (.t 26) (.t 27)⟩,
   ⟨none, (some 29), .mov (.t 28)⟩,
   ⟨(some (29, true)), (some 30), .mov (.t 0)⟩,
   ⟨(some (29, true)), (some 31), .call 19 [(.t 30)]⟩,
   ⟨(some (29, true)), (some 32), .mov (.t 1)⟩,
   ⟨(some (29, true)), (some 33), .call 21 [(.t 31), (.t 32)]⟩,
   ⟨(some (29, true)), (some 34), .mov (.t 5)⟩,
   ⟨(some (29, true)), (some 35), .bin .eql (.t 33) (.t 34)⟩,
   ⟨none, (some 36), .pick (.t 29) (.t 35) (.c (.b false))⟩,
   ⟨none, (some 37), .mov (.t 36)⟩,
   ⟨(some (37, true)), (some 38), .mov (.t 0)⟩,
   ⟨(some (37, true)), (some 39), .mov (.t 1)⟩,
   ⟨(some (37, true)), (some 40), .bin .add (.t 38) (.t 39)⟩,
   ⟨(some (37, true)), (some 41), .call 19 [(.t 40)]⟩,
   ⟨(some (37, true)), (some 42), .mov (.t 5)⟩,
   ⟨(some (37, true)), (some 43), .bin .eql (.t 41) (.t 42)⟩,
   ⟨none, (some 44), .pick (.t 37) (.t 43) (.c (.b false))⟩,
   ⟨none, (some 4), .mov (.t 44)⟩])
 (.ret)))))⟩
theorem rf7_eq : cfnAt Try.prog 7 [] = some rf7 := by kernel_rfl
/-- hackle/hacklelaw17.CrcRaw -/
def rf8 : RFn := ⟨3, 30, [.tmp 6],
 .seq (.ops [
   ⟨none, (some 6), .mov (.c (.b false))⟩])
 (.seq (.seq (.ops [
    ⟨none, (some 8), .call 16 []⟩,
    ⟨none, (some 9), .un .not (.t 8)⟩])
  (.cond (.t 9)
   (.seq (.ops [
     ⟨none, (some 6), .mov (.c (.b false))⟩])
   (.ret))
   (.skip)))
 (.seq (.seq (.ops [
    ⟨none, (some 10), .mov (.t 2)⟩,
    ⟨none, (some 11), .bin .gtr (.t 10) (.c (.int .i64 5000))⟩])
  (.cond (.t 11)
   (.seq (.ops [
     ⟨none, (some 6), .mov (.c (.b true))⟩])
   (.ret))
   (.skip)))
 (.seq (.ops [
   ⟨none, (some 7), .mov (.c (.str []))⟩])
 (.seq (.seq (.ops [
    ⟨none, (some 12), .mov (.t 2)⟩,
    ⟨none, (some 13), .bin .gtr (.t 12) (.c (.int .i64 0))⟩])
  (.cond (.t 13)
   (.ops [
    ⟨none, (some 14), .mov (.t 2)⟩,
    ⟨none, (some 15), .mksl [(.int .u8 0)] 1 1 (.t 14) (.t 14)⟩,
    ⟨none, (some 16), .strOf (.t 15)⟩,
    ⟨none, (some 7), .mov (.t 16)⟩])
   (.skip)))
 (.seq (.ops [
   ⟨none, (some 17), .mov (.t 0)⟩,
   ⟨none, (some 18), .mov (.t 1)⟩,
   ⟨none, (some 19), .mov (.t 2)⟩,
   ⟨none, (some 20), .call 25 [(.t 17), (.t 18), (.t 19)]⟩,
   ⟨none, (some 21), .mov (.t 0)⟩,
   ⟨none, (some 22), .mov (.t 7)⟩,
   ⟨none, (some 23), .call 22 [(.t 21), (.t 22)]⟩,
   ⟨none, (some 24), .mov (.t 1)⟩,
   ⟨none, (some 25), .bin .xor (.t 23) (.t 24)⟩,
   ⟨none, (some 26), .mov (.t 7)⟩,
   ⟨none, (some 27), .call 20 [(.t 26)]⟩,
   ⟨none, (some 28), .bin .xor (.t 25) (.t 27)⟩,
   ⟨none, (some 29), .bin .eql (.t 20) (.t 28)⟩,
   ⟨none, (some 6), .mov (.t 29)⟩])
 (.ret))))))⟩
theorem rf8_eq : cfnAt Try.prog 8 [] = some rf8 := by kernel_rfl
/-- hackle/hacklelaw17.alive -/
def rf16 : RFn := ⟨0, 7, [.tmp 0],
 .seq (.ops [
   ⟨none, (some 0), .mov (.c (.b false))⟩])
 (.seq (.ops [
   ⟨none, (some 1), .call 19 [(.c (.str [49, 50, 51, 52, 53, 54, 55, 56, 57]))]⟩,
   ⟨none, (some 2), .bin .eql (.t 1) (.c (.int .u32 3808858755))⟩,
   ⟨none, (some 3), .mov (.t 2)⟩,
   ⟨(some (3, true)), (some 4), .call 19 [(.c (.str []))]⟩,
   ⟨(some (3, true)), (some 5), .bin .eql (.t 4) (.c (.int .u32 0))⟩,
   ⟨none, (some 6), .pick (.t 3) (.t 5) (.c (.b false))⟩,
   ⟨none, (some 0), .mov (.t 6)⟩])
 (.ret))⟩
theorem rf16_eq : cfnAt Try.prog 16 [] = some rf16 := by kernel_rfl
/-- hackle/crc.Table -/
def rf17 : RFn := ⟨0, 19, [.cell 0 256 true],
 .seq (.ops [
   ⟨none, (some 0), .alloc true (List.replicate 256 (.int .u32 0))⟩])
 (.seq (.ops [
   ⟨none, (some 1), .alloc true (List.replicate 256 (.int .u32 0))⟩])
 (.seq (.seq (.ops [
    ⟨none, (some 4), .mov (.c (.int .i64 0))⟩])
  (.block 0 (.loop [0, 1, 4] (
   .seq (.ops [
     ⟨none, (some 5), .bin .lss (.t 4) (.c (.int .i64 256))⟩])
   (.seq (.cond (.t 5)
     (.skip)
     (.exit 0))
   (.seq (.block 1 (.seq (.ops [
      ⟨none, (some 6), .mov (.t 4)⟩,
      ⟨none, (some 2), .mov (.t 6)⟩])
    (.seq (.ops [
      ⟨none, (some 7), .mov (.t 2)⟩,
      ⟨none, (some 8), .convI .u32 (.t 7)⟩,
      ⟨none, (some 3), .mov (.t 8)⟩])
    (.seq (.seq (.ops [
       ⟨none, (some 9), .mov (.c (.int .i64 0))⟩])
     (.block 2 (.loop [0, 1, 2, 3, 4, 9] (
      .seq (.ops [
        ⟨none, (some 10), .bin .lss (.t 9) (.c (.int .i64 8))⟩])
      (.seq (.cond (.t 10)
        (.skip)
        (.exit 2))
      (.seq (.block 3 (.ops [
        ⟨none, (some 11), .mov (.t 3)⟩,
        ⟨none, (some 12), .call 61 [(.t 11)]⟩,
        ⟨none, (some 3), .mov (.t 12)⟩]))
      (.ops [
       ⟨none, (some 13), .bin .add (.t 9) (.c (.int .i64 1))⟩,
       ⟨none, (some 9), .mov (.t 13)⟩])))))))
    (.ops [
     ⟨none, (some 14), .mov (.t 2)⟩,
     ⟨none, (some 15), .mov (.t 3)⟩,
     ⟨none, (some 16), .idxA (.t 1) (.t 14) 256 1⟩,
     ⟨none, none, .store (.t 16) (.t 15) 1⟩])))))
   (.ops [
    ⟨none, (some 17), .bin .add (.t 4) (.c (.int .i64 1))⟩,
    ⟨none, (some 4), .mov (.t 17)⟩])))))))
 (.seq (.ops [
   ⟨none, (some 18), .load (.t 1) 256 true⟩,
   ⟨none, none, .store (.t 0) (.t 18) 256⟩])
 (.ret))))⟩
theorem rf17_eq : cfnAt Try.prog 17 [[0, 1, 4], [0, 1, 2, 3, 4, 9]] = some rf17 := by kernel_rfl
/-- hackle/hackleref17.Word -/
def rf18 : RFn := ⟨1, 14, [.tmp 2],
 .seq (.ops [
   ⟨none, (some 2), .mov (.c (.int .u32 0))⟩])
 (.seq (.ops [
   ⟨none, (some 5), .mov (.t 0)⟩,
   ⟨none, (some 6), .convI .u32 (.t 5)⟩,
   ⟨none, (some 3), .mov (.t 6)⟩])
 (.seq (.seq (.ops [
    ⟨none, (some 4), .mov (.c (.int .i64 0))⟩])
  (.block 0 (.loop [3, 4] (
   .seq (.seq (.ops [
      ⟨none, (some 7), .mov (.t 4)⟩,
      ⟨none, (some 8), .bin .lss (.t 7) (.c (.int .i64 8))⟩])
    (.cond (.t 8)
     (.skip)
     (.exit 0)))
   (.seq (.block 1 (.ops [
     ⟨none, (some 11), .mov (.t 3)⟩,
     ⟨none, (some 12), .call 62 [(.t 11)]⟩,
     ⟨none, (some 3), .mov (.t 12)⟩]))
   (.ops [
    ⟨none, (some 9), .mov (.t 4)⟩,
    ⟨none, (some 10), .bin .add (.t 9) (.c (.int .i64 1))⟩,
    ⟨none, (some 4), .mov (.t 10)⟩]))))))
 (.seq (.ops [
   ⟨none, (some 13), .mov (.t 3)⟩,
   ⟨none, (some 2), .mov (.t 13)⟩])
 (.ret))))⟩
theorem rf18_eq : cfnAt Try.prog 18 [[3, 4]] = some rf18 := by kernel_rfl
/-- hackle/crc.Sum -/
def rf19 : RFn := ⟨1, 5, [.tmp 2],
 .seq (.ops [
   ⟨none, (some 2), .mov (.c (.int .u32 0))⟩])
 (.seq (.ops [
   ⟨none, (some 3), .mov (.t 0)⟩,
   ⟨none, (some 4), .call 21 [(.c (.int .u32 0)), (.t 3)]⟩,
   ⟨none, (some 2), .mov (.t 4)⟩])
 (.ret))⟩
theorem rf19_eq : cfnAt Try.prog 19 [] = some rf19 := by kernel_rfl
/-- hackle/hackleref17.Sum -/
def rf20 : RFn := ⟨1, 5, [.tmp 2],
 .seq (.ops [
   ⟨none, (some 2), .mov (.c (.int .u32 0))⟩])
 (.seq (.ops [
   ⟨none, (some 3), .mov (.t 0)⟩,
   ⟨none, (some 4), .call 22 [(.c (.int .u32 0)), (.t 3)]⟩,
   ⟨none, (some 2), .mov (.t 4)⟩])
 (.ret))⟩
theorem rf20_eq : cfnAt Try.prog 20 [] = some rf20 := by kernel_rfl
/-- hackle/crc.More -/
def rf21 : RFn := ⟨2, 30, [.tmp 4],
 .seq (.ops [
   ⟨none, (some 4), .mov (.c (.int .u32 0))⟩])
 (.seq (.ops [
   ⟨none, (some 8), .call 17 []⟩,
   ⟨none, (some 5), .alloc true (List.replicate 256 (.int .u32 0))⟩,
   ⟨none, none, .store (.t 5) (.t 8) 256⟩])
 (.seq (.ops [
   ⟨none, (some 9), .mov (.t 0)⟩,
   ⟨none, (some 10), .un .xor (.t 9)⟩,
   ⟨none, (some 6), .mov (.t 10)⟩])
 (.seq (.seq (.ops [
    ⟨none, (some 11), .mov (.t 1)⟩,
    ⟨none, (some 12), .lenStr (.t 11)⟩,
    ⟨none, (some 13), .mov (.c (.int .i64 0))⟩])
  (.block 0 (.loop [1, 5, 6, 12, 13] (
   .seq (.ops [
     ⟨none, (some 14), .bin .lss (.t 13) (.t 12)⟩])
   (.seq (.cond (.t 14)
     (.skip)
     (.exit 0))
   (.seq (.block 1 (.seq (.ops [
      ⟨none, (some 15), .mov (.t 13)⟩,
      ⟨none, (some 7), .mov (.t 15)⟩])
    (.ops [
     ⟨none, (some 16), .mov (.t 6)⟩,
     ⟨none, (some 17), .convI .u8 (.t 16)⟩,
     ⟨none, (some 18), .mov (.t 1)⟩,
     ⟨none, (some 19), .mov (.t 7)⟩,
     ⟨none, (some 20), .idxStr (.t 18) (.t 19)⟩,
     ⟨none, (some 21), .bin .xor (.t 17) (.t 20)⟩,
     ⟨none, (some 22), .idxA (.t 5) (.t 21) 256 1⟩,
     ⟨none, (some 23), .load (.t 22) 1 false⟩,
     ⟨none, (some 24), .mov (.t 6)⟩,
     ⟨none, (some 25), .bin .shr (.t 24) (.c (.int .u64 8))⟩,
     ⟨none, (some 26), .bin .xor (.t 23) (.t 25)⟩,
     ⟨none, (some 6), .mov (.t 26)⟩])))
   (.ops [
    ⟨none, (some 27), .bin .add (.t 13) (.c (.int .i64 1))⟩,
    ⟨none, (some 13), .mov (.t 27)⟩])))))))
 (.seq (.ops [
   ⟨none, (some 28), .mov (.t 6)⟩,
   ⟨none, (some 29), .un .xor (.t 28)⟩,
   ⟨none, (some 4), .mov (.t 29)⟩])
 (.ret)))))⟩
theorem rf21_eq : cfnAt Try.prog 21 [[1, 5, 6, 12, 13]] = some rf21 := by kernel_rfl
/-- hackle/hackleref17.More -/
def rf22 : RFn := ⟨2, 30, [.tmp 4],
 .seq (.ops [
   ⟨none, (some 4), .mov (.c (.int .u32 0))⟩])
 (.seq (.ops [
   ⟨none, (some 8), .mov (.t 0)⟩,
   ⟨none, (some 9), .bin .sub (.c (.int .u32 4294967295)) (.t 8)⟩,
   ⟨none, (some 5), .mov (.t 9)⟩])
 (.seq (.seq (.ops [
    ⟨none, (some 6), .mov (.c (.int .i64 0))⟩])
  (.block 0 (.loop [1, 5, 6] (
   .seq (.seq (.ops [
      ⟨none, (some 10), .mov (.t 6)⟩,
      ⟨none, (some 11), .mov (.t 1)⟩,
      ⟨none, (some 12), .lenStr (.t 11)⟩,
      ⟨none, (some 13), .bin .lss (.t 10) (.t 12)⟩])
    (.cond (.t 13)
     (.skip)
     (.exit 0)))
   (.seq (.block 1 (.seq (.ops [
      ⟨none, (some 16), .mov (.t 5)⟩,
      ⟨none, (some 17), .mov (.t 1)⟩,
      ⟨none, (some 18), .mov (.t 6)⟩,
      ⟨none, (some 19), .idxStr (.t 17) (.t 18)⟩,
      ⟨none, (some 20), .convI .u32 (.t 19)⟩,
      ⟨none, (some 21), .bin .xor (.t 16) (.t 20)⟩,
      ⟨none, (some 5), .mov (.t 21)⟩])
    (.seq (.ops [
      ⟨none, (some 7), .mov (.c (.int .i64 0))⟩])
    (.block 2 (.loop [1, 5, 6, 7] (
     .seq (.seq (.ops [
        ⟨none, (some 22), .mov (.t 7)⟩,
        ⟨none, (some 23), .bin .lss (.t 22) (.c (.int .i64 8))⟩])
      (.cond (.t 23)
       (.skip)
       (.exit 2)))
     (.seq (.block 3 (.ops [
       ⟨none, (some 26), .mov (.t 5)⟩,
       ⟨none, (some 27), .call 62 [(.t 26)]⟩,
       ⟨none, (some 5), .mov (.t 27)⟩]))
     (.ops [
      ⟨none, (some 24), .mov (.t 7)⟩,
      ⟨none, (some 25), .bin .add (.t 24) (.c (.int .i64 1))⟩,
      ⟨none, (some 7), .mov (.t 25)⟩]))))))))
   (.ops [
    ⟨none, (some 14), .mov (.t 6)⟩,
    ⟨none, (some 15), .bin .add (.t 14) (.c (.int .i64 1))⟩,
    ⟨none, (some 6), .mov (.t 15)⟩]))))))
 (.seq (.ops [
   ⟨none, (some 28), .mov (.t 5)⟩,
   ⟨none, (some 29), .bin .sub (.c (.int .u32 4294967295)) (.t 28)⟩,
   ⟨none, (some 4), .mov (.t 29)⟩])
 (.ret))))⟩
theorem rf22_eq : cfnAt Try.prog 22 [[1, 5, 6], [1, 5, 6, 7]] = some rf22 := by kernel_rfl
/-- hackle/crc.Put -/
def rf23 : RFn := ⟨1, 16, [.tmp 2],
 .seq (.ops [
   ⟨none, (some 2), .mov (.c (.str []))⟩])
 (.seq (.ops [
   ⟨none, (some 3), .mov (.t 0)⟩,
   ⟨none, (some 4), .convI .u8 (.t 3)⟩,
   ⟨none, (some 5), .mov (.t 0)⟩,
   ⟨none, (some 6), .bin .shr (.t 5) (.c (.int .u64 8))⟩,
   ⟨none, (some 7), .convI .u8 (.t 6)⟩,
   ⟨none, (some 8), .mov (.t 0)⟩,
   ⟨none, (some 9), .bin .shr (.t 8) (.c (.int .u64 16))⟩,
   ⟨none, (some 10), .convI .u8 (.t 9)⟩,
   ⟨none, (some 11), .mov (.t 0)⟩,
   ⟨none, (some 12), .bin .shr (.t 11) (.c (.int .u64 24))⟩,
   ⟨none, (some 13), .convI .u8 (.t 12)⟩,
   ⟨none, (some 14), .bslice 1 [(.t 4), (.t 7), (.t 10), (.t 13)]⟩,
   ⟨none, (some 15), .strOf (.t 14)⟩,
   ⟨none, (some 2), .mov (.t 15)⟩])
 (.ret))⟩
theorem rf23_eq : cfnAt Try.prog 23 [] = some rf23 := by kernel_rfl
/-- hackle/hackleref17.Put -/
def rf24 : RFn := ⟨1, 19, [.tmp 2],
 .seq (.ops [
   ⟨none, (some 2), .mov (.c (.str []))⟩])
 (.seq (.ops [
   ⟨none, (some 3), .mov (.t 0)⟩,
   ⟨none, (some 4), .bin .rem (.t 3) (.c (.int .u32 256))⟩,
   ⟨none, (some 5), .convI .u8 (.t 4)⟩,
   ⟨none, (some 6), .mov (.t 0)⟩,
   ⟨none, (some 7), .bin .quo (.t 6) (.c (.int .u32 256))⟩,
   ⟨none, (some 8), .bin .rem (.t 7) (.c (.int .u32 256))⟩,
   ⟨none, (some 9), .convI .u8 (.t 8)⟩,
   ⟨none, (some 10), .mov (.t 0)⟩,
   ⟨none, (some 11), .bin .quo (.t 10) (.c (.int .u32 65536))⟩,
   ⟨none, (some 12), .bin .rem (.t 11) (.c (.int .u32 256))⟩,
   ⟨none, (some 13), .convI .u8 (.t 12)⟩,
   ⟨none, (some 14), .mov (.t 0)⟩,
   ⟨none, (some 15), .bin .quo (.t 14) (.c (.int .u32 16777216))⟩,
   ⟨none, (some 16), .convI .u8 (.t 15)⟩,
   ⟨none, (some 17), .bslice 1 [(.t 5), (.t 9), (.t 13), (.t 16)]⟩,
   ⟨none, (some 18), .strOf (.t 17)⟩,
   ⟨none, (some 2), .mov (.t 18)⟩])
 (.ret))⟩
theorem rf24_eq : cfnAt Try.prog 24 [] = some rf24 := by kernel_rfl
/-- hackle/crc.Join -/
def rf25 : RFn := ⟨3, 12, [.tmp 6],
 .seq (.ops [
   ⟨none, (some 6), .mov (.c (.int .u32 0))⟩])
 (.seq (.ops [
   ⟨none, (some 7), .mov (.t 0)⟩,
   ⟨none, (some 8), .mov (.t 2)⟩,
   ⟨none, (some 9), .call 63 [(.t 7), (.t 8)]⟩,
   ⟨none, (some 10), .mov (.t 1)⟩,
   ⟨none, (some 11), .bin .xor (.t 9) (.t 10)⟩,
   ⟨none, (some 6), .mov (.t 11)⟩])
 (.ret))⟩
theorem rf25_eq : cfnAt Try.prog 25 [] = some rf25 := by kernel_rfl
/-- hackle/crc.step -/
def rf61 : RFn := ⟨1, 10, [.tmp 2],
 .seq (.ops [
   ⟨none, (some 2), .mov (.c (.int .u32 0))⟩])
 (.seq (.ops [
   ⟨none, (some 3), .mov (.t 0)⟩,
   ⟨none, (some 4), .bin .shr (.t 3) (.c (.int .u64 1))⟩,
   ⟨none, (some 5), .mov (.t 0)⟩,
   ⟨none, (some 6), .bin .and (.t 5) (.c (.int .u32 1))⟩,
   ⟨none, (some 7), .un .neg (.t 6)⟩,
   ⟨none, (some 8), .bin .and (.c (.int .u32 2197175160)) (.t 7)⟩,
   ⟨none, (some 9), .bin .xor (.t 4) (.t 8)⟩,
   ⟨none, (some 2), .mov (.t 9)⟩])
 (.ret))⟩
theorem rf61_eq : cfnAt Try.prog 61 [] = some rf61 := by kernel_rfl
/-- hackle/hackleref17.Step -/
def rf62 : RFn := ⟨1, 11, [.tmp 2],
 .seq (.ops [
   ⟨none, (some 2), .mov (.c (.int .u32 0))⟩])
 (.seq (.seq (.ops [
    ⟨none, (some 3), .mov (.t 0)⟩,
    ⟨none, (some 4), .bin .rem (.t 3) (.c (.int .u32 2))⟩,
    ⟨none, (some 5), .bin .eql (.t 4) (.c (.int .u32 1))⟩])
  (.cond (.t 5)
   (.seq (.ops [
     ⟨none, (some 6), .mov (.t 0)⟩,
     ⟨none, (some 7), .bin .quo (.t 6) (.c (.int .u32 2))⟩,
     ⟨none, (some 8), .bin .xor (.t 7) (.c (.int .u32 2197175160))⟩,
     ⟨none, (some 2), .mov (.t 8)⟩])
   (.ret))
   (.skip)))
 (.seq (.ops [
   ⟨none, (some 9), .mov (.t 0)⟩,
   ⟨none, (some 10), .bin .quo (.t 9) (.c (.int .u32 2))⟩,
   ⟨none, (some 2), .mov (.t 10)⟩])
 (.ret)))⟩
theorem rf62_eq : cfnAt Try.prog 62 [] = some rf62 := by kernel_rfl
/-- hackle/crc.zeros -/
def rf63 : RFn := ⟨2, 31, [.tmp 4],
 .seq (.ops [
   ⟨none, (some 4), .mov (.c (.int .u32 0))⟩])
 (.seq (.ops [
   ⟨none, (some 5), .alloc true (List.replicate 32 (.int .u32 0))⟩])
 (.seq (.seq (.ops [
    ⟨none, (some 7), .mov (.c (.int .i64 0))⟩])
  (.block 0 (.loop [0, 1, 5, 7] (
   .seq (.ops [
     ⟨none, (some 8), .bin .lss (.t 7) (.c (.int .i64 32))⟩])
   (.seq (.cond (.t 8)
     (.skip)
     (.exit 0))
   (.seq (.block 1 (.seq (.ops [
      ⟨none, (some 9), .mov (.t 7)⟩,
      ⟨none, (some 6), .mov (.t 9)⟩])
    (.ops [
     ⟨none, (some 10), .mov (.t 6)⟩,
     ⟨none, (some 11), .mov (.t 6)⟩,
     ⟨none, (some 12), .bin .shl (.c (.int .u32 1)) (.t 11)⟩,
     ⟨none, (some 13), .call 61 [(.t 12)]⟩,
     ⟨none, (some 14), .idxA (.t 5) (.t 10) 32 1⟩,
     ⟨none, none, .store (.t 14) (.t 13) 1⟩])))
   (.ops [
    ⟨none, (some 15), .bin .add (.t 7) (.c (.int .i64 1))⟩,
    ⟨none, (some 7), .mov (.t 15)⟩])))))))
 (.seq (.seq (.ops [
    ⟨none, (some 16), .mov (.c (.int .i64 0))⟩])
  (.block 2 (.loop [0, 1, 5, 16] (
   .seq (.ops [
     ⟨none, (some 17), .bin .lss (.t 16) (.c (.int .i64 3))⟩])
   (.seq (.cond (.t 17)
     (.skip)
     (.exit 2))
   (.seq (.block 3 (.ops [
     ⟨none, (some 18), .call 83 [(.t 5)]⟩,
     ⟨none, none, .store (.t 5) (.t 18) 32⟩]))
   (.ops [
    ⟨none, (some 19), .bin .add (.t 16) (.c (.int .i64 1))⟩,
    ⟨none, (some 16), .mov (.t 19)⟩])))))))
 (.seq (.block 4 (.loop [0, 1, 5] (
   .seq (.seq (.ops [
      ⟨none, (some 20), .mov (.t 1)⟩,
      ⟨none, (some 21), .bin .gtr (.t 20) (.c (.int .i64 0))⟩])
    (.cond (.t 21)
     (.skip)
     (.exit 4)))
   (.block 5 (.seq (.seq (.ops [
      ⟨none, (some 22), .mov (.t 1)⟩,
      ⟨none, (some 23), .bin .and (.t 22) (.c (.int .i64 1))⟩,
      ⟨none, (some 24), .bin .eql (.t 23) (.c (.int .i64 1))⟩])
    (.cond (.t 24)
     (.ops [
      ⟨none, (some 25), .mov (.t 0)⟩,
      ⟨none, (some 26), .call 84 [(.t 5), (.t 25)]⟩,
      ⟨none, (some 0), .mov (.t 26)⟩])
     (.skip)))
   (.seq (.ops [
     ⟨none, (some 27), .call 83 [(.t 5)]⟩,
     ⟨none, none, .store (.t 5) (.t 27) 32⟩])
   (.ops [
    ⟨none, (some 28), .mov (.t 1)⟩,
    ⟨none, (some 29), .bin .shr (.t 28) (.c (.int .u64 1))⟩,
    ⟨none, (some 1), .mov (.t 29)⟩])))))))
 (.seq (.ops [
   ⟨none, (some 30), .mov (.t 0)⟩,
   ⟨none, (some 4), .mov (.t 30)⟩])
 (.ret))))))⟩
theorem rf63_eq : cfnAt Try.prog 63 [[0, 1, 5, 7], [0, 1, 5, 16], [0, 1, 5]] = some rf63 := by kernel_rfl
/-- (*hackle/crc.matrix).square -/
def rf83 : RFn := ⟨1, 19, [.cell 2 32 true],
 .seq (.ops [
   ⟨none, (some 2), .alloc true (List.replicate 32 (.int .u32 0))⟩])
 (.seq (.ops [
   ⟨none, (some 3), .alloc true (List.replicate 32 (.int .u32 0))⟩])
 (.seq (.seq (.ops [
    ⟨none, (some 5), .mov (.c (.int .i64 0))⟩])
  (.block 0 (.loop [0, 2, 3, 5] (
   .seq (.ops [
     ⟨none, (some 6), .bin .lss (.t 5) (.c (.int .i64 32))⟩])
   (.seq (.cond (.t 6)
     (.skip)
     (.exit 0))
   (.seq (.block 1 (.seq (.ops [
      ⟨none, (some 7), .mov (.t 5)⟩,
      ⟨none, (some 4), .mov (.t 7)⟩])
    (.ops [
     ⟨none, (some 8), .mov (.t 4)⟩,
     ⟨none, (some 9), .mov (.t 0)⟩,
     ⟨none, (some 10), .mov (.t 0)⟩,
     ⟨none, (some 11), .mov (.t 4)⟩,
     ⟨none, (some 12), .nilchk (.t 10)⟩,
     ⟨none, (some 13), .idxA (.t 12) (.t 11) 32 1⟩,
     ⟨none, (some 14), .load (.t 13) 1 false⟩,
     ⟨none, (some 15), .call 84 [(.t 9), (.t 14)]⟩,
     ⟨none, (some 16), .idxA (.t 3) (.t 8) 32 1⟩,
     ⟨none, none, .store (.t 16) (.t 15) 1⟩])))
   (.ops [
    ⟨none, (some 17), .bin .add (.t 5) (.c (.int .i64 1))⟩,
    ⟨none, (some 5), .mov (.t 17)⟩])))))))
 (.seq (.ops [
   ⟨none, (some 18), .load (.t 3) 32 true⟩,
   ⟨none, none, .store (.t 2) (.t 18) 32⟩])
 (.ret))))⟩
theorem rf83_eq : cfnAt Try.prog 83 [[0, 2, 3, 5]] = some rf83 := by kernel_rfl
/-- (*hackle/crc.matrix).times -/
def rf84 : RFn := ⟨2, 25, [.tmp 4],
 .seq (.ops [
   ⟨none, (some 4), .mov (.c (.int .u32 0))⟩])
 (.seq (.ops [
   ⟨none, (some 5), .mov (.c (.int .u32 0))⟩])
 (.seq (.seq (.ops [
    ⟨none, (some 7), .mov (.c (.int .i64 0))⟩])
  (.block 0 (.loop [0, 1, 5, 7] (
   .seq (.ops [
     ⟨none, (some 8), .bin .lss (.t 7) (.c (.int .i64 32))⟩])
   (.seq (.cond (.t 8)
     (.skip)
     (.exit 0))
   (.seq (.block 1 (.seq (.ops [
      ⟨none, (some 9), .mov (.t 7)⟩,
      ⟨none, (some 6), .mov (.t 9)⟩])
    (.draw (
     .take ⟨none, (some 10), .mov (.t 5)⟩ <|
     .take ⟨none, (some 11), .mov (.t 0)⟩ <|
     .take ⟨none, (some 12), .mov (.t 6)⟩ <|
     .take ⟨none, (some 13), .nilchk (.t 11)⟩ <|
     .take ⟨none, (some 14), .idxA (.t 13) (.t 12) 32 1⟩ <|
     .take ⟨none, (some 15), .load (.t 14) 1 false⟩ <|
     .take ⟨none, (some 16), .mov (.t 1)⟩ <|
     .take ⟨none, (some 17), .mov (.t 6)⟩ <|
     .take ⟨none, (some 18), .bin .shr (.t 16) (.t 17)⟩ <|
     .take ⟨none, (some 19), .bin .and (.t 18) (.c (.int .u32 1))⟩ <|
     .take ⟨none, (some 20), .un .neg (.t 19)⟩ <|
     .take ⟨none, (some 21), .bin .and (.t 15) (.t 20)⟩ <|
     .take ⟨none, (some 22), .bin .xor (.t 10) (.t 21)⟩ <|
     .take ⟨none, (some 5), .mov (.t 22)⟩ <|
     .done))))
   (.ops [
    ⟨none, (some 23), .bin .add (.t 7) (.c (.int .i64 1))⟩,
    ⟨none, (some 7), .mov (.t 23)⟩])))))))
 (.seq (.ops [
   ⟨none, (some 24), .mov (.t 5)⟩,
   ⟨none, (some 4), .mov (.t 24)⟩])
 (.ret))))⟩
theorem rf84_eq : cfnAt Try.prog 84 [[0, 1, 5, 7]] = some rf84 := by kernel_rfl
end Hk
