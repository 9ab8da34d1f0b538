/- The resolved codes of functions, each with its equation. Written by rfs.sh. -/
import Derived.Test.YtmgkffdnnjpmpaaHkDrv
import Derived.Test.YtmgkffdnnjpmpaaProg
import Derived.KernelRfl
namespace Hk
open Go Go.Proofs
set_option maxRecDepth 100000
/-- hackle/hacklelaw04.RxFirst -/
def rf11 : RFn := ⟨1, 34, [.tmp 2],
 .seq (.ops [
   ⟨none, (some 1), .box false (.t 0) 8⟩,
   ⟨none, (some 2), .mov (.c (.b false))⟩])
 (.seq (.seq (.ops [
    ⟨none, (some 6), .call 34 []⟩,
    ⟨none, (some 7), .un .not (.t 6)⟩])
  (.cond (.t 7)
   (.seq (.ops [
     ⟨none, (some 2), .mov (.c (.b false))⟩])
   (.ret))
   (.skip)))
 (.seq (.seq (.ops [
    ⟨none, (some 8), .load (.t 1) 8 true⟩,
    ⟨none, (some 9), .call 35 [(.t 8)]⟩,
    ⟨none, (some 10), .mov (.t 9)⟩,
    ⟨(some (10, false)), (some 11), .load (.t 1) 8 true⟩,
    ⟨(some (10, false)), (some 12), .call 36 [(.t 11)]⟩,
    ⟨(some (10, false)), (some 13), .un .not (.t 12)⟩,
    ⟨none, (some 14), .pick (.t 10) (.c (.b true)) (.t 13)⟩])
  (.cond (.t 14)
   (.seq (.ops [
     ⟨none, (some 2), .mov (.c (.b true))⟩])
   (.ret))
   (.skip)))
 (.seq (.ops [
   ⟨none, (some 15), .load (.t 1) 8 true⟩,
   ⟨none, (some 16), .call 37 [(.t 15)]⟩,
   ⟨none, (some 3), .alloc true [(.int .u64 0), (.int .u64 0), (.int .u64 0), (.int .u64 0)]⟩,
   ⟨none, none, .store (.t 3) (.t 16) 4⟩])
 (.seq (.seq (.ops [
    ⟨none, (some 4), .mov (.c (.int .i64 0))⟩])
  (.block 0 (.loop [1, 3, 4] (
   .seq (.seq (.ops [
      ⟨none, (some 17), .mov (.t 4)⟩,
      ⟨none, (some 18), .bin .lss (.t 17) (.c (.int .i64 256))⟩])
    (.cond (.t 18)
     (.skip)
     (.exit 0)))
   (.seq (.block 1 (.seq (.ops [
      ⟨none, (some 21), .mov (.t 4)⟩,
      ⟨none, (some 22), .convI .u8 (.t 21)⟩,
      ⟨none, (some 23), .bslice 1 [(.t 22)]⟩,
      ⟨none, (some 24), .strOf (.t 23)⟩,
      ⟨none, (some 5), .mov (.t 24)⟩])
    (.seq (.draw (
      .take ⟨none, (some 25), .load (.t 3) 4 true⟩ <|
      .take ⟨none, (some 26), .mov (.t 4)⟩ <|
      .take ⟨none, (some 28), .load (.t 1) 8 true⟩ <|
      .take ⟨none, (some 29), .mov (.t 5)⟩ <|
      .take ⟨none, (some 30), .mov (.t 5)⟩ <|
      .alt ⟨none, (some 27), .call 38 [(.t 25), (.t 26)]⟩ false (
       .alt ⟨none, (some 31), .call 40 [(.t 30), (.c (.int .i64 0))]⟩ false (
        .alt ⟨none, (some 32), .call 39 [(.t 28), (.t 29), (.t 31)]⟩ true (
         .take ⟨none, (some 33), .cmpb true (.t 27) (.t 32)⟩ <|
         .done)
         (.noalt))
        (.noalt))
       (.noalt)))
    (.cond (.t 33)
     (.seq (.ops [
       ⟨none, (some 2), .mov (.c (.b false))⟩])
     (.ret))
     (.skip)))))
   (.ops [
    ⟨none, (some 19), .mov (.t 4)⟩,
    ⟨none, (some 20), .bin .add (.t 19) (.c (.int .i64 1))⟩,
    ⟨none, (some 4), .mov (.t 20)⟩]))))))
 (.seq (.ops [
   ⟨none, (some 2), .mov (.c (.b true))⟩])
 (.ret))))))⟩
theorem rf11_eq : cfnAt Try.prog 11 [[1, 3, 4]] = some rf11 := by kernel_rfl
/-- hackle/hacklelaw04.RxMakes -/
def rf12 : RFn := ⟨3, 140, [.tmp 6],
 .seq (.ops [
   ⟨none, (some 5), .box true (.t 2) 2⟩,
   ⟨none, (some 6), .mov (.c (.b false))⟩])
 (.seq (.seq (.ops [
    ⟨none, (some 15), .call 34 []⟩,
    ⟨none, (some 16), .un .not (.t 15)⟩])
  (.cond (.t 16)
   (.seq (.ops [
     ⟨none, (some 6), .mov (.c (.b false))⟩])
   (.ret))
   (.skip)))
 (.seq (.seq (.ops [
    ⟨none, (some 17), .mov (.t 0)⟩,
    ⟨none, (some 18), .len (.t 17)⟩,
    ⟨none, (some 19), .bin .gtr (.t 18) (.c (.int .i64 6))⟩,
    ⟨none, (some 20), .mov (.t 19)⟩,
    ⟨(some (20, false)), (some 21), .mov (.t 1)⟩,
    ⟨(some (20, false)), (some 22), .lenStr (.t 21)⟩,
    ⟨(some (20, false)), (some 23), .bin .gtr (.t 22) (.c (.int .i64 40))⟩,
    ⟨none, (some 24), .pick (.t 20) (.c (.b true)) (.t 23)⟩])
  (.cond (.t 24)
   (.seq (.ops [
     ⟨none, (some 6), .mov (.c (.b true))⟩])
   (.ret))
   (.skip)))
 (.seq (.ops [
   ⟨none, (some 7), .mov (.c (.b true))⟩])
 (.seq (.seq (.ops [
    ⟨none, (some 8), .mov (.c (.int .i64 0))⟩])
  (.block 0 (.loop [0, 1, 5, 7, 8, 38, 39, 40, 41, 42, 57, 58, 59, 60, 61, 62, 89, 90, 91, 92, 95, 96, 97, 98, 99, 100, 103, 104, 105, 106, 107, 108, 109, 110, 111, 116, 117, 118, 128, 129, 130, 131, 132, 133] (
   .seq (.seq (.ops [
      ⟨none, (some 25), .mov (.t 8)⟩,
      ⟨none, (some 26), .mov (.t 0)⟩,
      ⟨none, (some 27), .len (.t 26)⟩,
      ⟨none, (some 28), .bin .lss (.t 25) (.t 27)⟩])
    (.cond (.t 28)
     (.skip)
     (.exit 0)))
   (.seq (.block 1 (.seq (.seq (.ops [
       ⟨none, (some 31), .mov (.t 0)⟩,
       ⟨none, (some 32), .mov (.t 8)⟩,
       ⟨none, (some 33), .idxS (.t 31) (.t 32) 8⟩,
       ⟨none, (some 34), .load (.t 33) 8 true⟩,
       ⟨none, (some 35), .call 35 [(.t 34)]⟩])
     (.cond (.t 35)
      (.seq (.ops [
        ⟨none, (some 6), .mov (.c (.b true))⟩])
      (.ret))
      (.skip)))
    (.ops [
     ⟨none, (some 36), .mov (.t 7)⟩,
     ⟨none, (some 37), .mov (.t 36)⟩,
     ⟨(some (37, true)), (some 38), .mov (.t 0)⟩,
     ⟨(some (37, true)), (some 39), .mov (.t 8)⟩,
     ⟨(some (37, true)), (some 40), .idxS (.t 38) (.t 39) 8⟩,
     ⟨(some (37, true)), (some 41), .load (.t 40) 8 true⟩,
     ⟨(some (37, true)), (some 42), .call 36 [(.t 41)]⟩,
     ⟨none, (some 43), .pick (.t 37) (.t 42) (.c (.b false))⟩,
     ⟨none, (some 7), .mov (.t 43)⟩])))
   (.ops [
    ⟨none, (some 29), .mov (.t 8)⟩,
    ⟨none, (some 30), .bin .add (.t 29) (.c (.int .i64 1))⟩,
    ⟨none, (some 8), .mov (.t 30)⟩]))))))
 (.seq (.ops [
   ⟨none, (some 44), .mov (.t 0)⟩,
   ⟨none, (some 45), .call 41 [(.t 44)]⟩,
   ⟨none, (some 46), .mov (.t 0)⟩,
   ⟨none, (some 47), .call 42 [(.t 46)]⟩,
   ⟨none, (some 48), .mov (.t 1)⟩,
   ⟨none, (some 49), .call 43 [(.t 48)]⟩,
   ⟨none, (some 9), .alloc false [(.int .i64 0), (.int .u64 0), (.int .u64 0), (.int .u64 0), (.int .u64 0), (.isl 0 [] (some 0)), (.int .i64 0), (.int .i64 0)]⟩,
   ⟨none, (some 10), .alloc false [(.int .i64 0), (.int .u64 0), (.int .u64 0), (.int .u64 0), (.int .u64 0), (.isl 0 [] (some 0)), (.int .i64 0), (.int .i64 0)]⟩,
   ⟨none, (some 11), .alloc false [(.int .i64 0), (.int .u64 0), (.int .u64 0), (.int .u64 0), (.int .u64 0), (.isl 0 [] (some 0)), (.int .i64 0), (.int .i64 0)]⟩,
   ⟨none, none, .store (.t 9) (.t 45) 8⟩,
   ⟨none, none, .store (.t 10) (.t 47) 8⟩,
   ⟨none, none, .store (.t 11) (.t 49) 8⟩])
 (.seq (.seq (.draw (
    .take ⟨none, (some 50), .load (.t 9) 8 true⟩ <|
    .take ⟨none, (some 51), .build [(.int .i64 0), (.int .u64 0), (.int .u64 0), (.int .u64 0), (.int .u64 0), (.isl 0 [] (some 0)), (.int .i64 0), (.int .i64 0)] []⟩ <|
    .take ⟨none, (some 52), .mov (.t 0)⟩ <|
    .alt ⟨none, (some 53), .call 45 [(.c (.int .i64 2)), (.t 51), (.t 52)]⟩ false (
     .alt ⟨none, (some 54), .call 44 [(.t 50), (.t 53)]⟩ true (
      .take ⟨none, (some 55), .un .not (.t 54)⟩ <|
      .take ⟨none, (some 56), .mov (.t 55)⟩ <|
      .take ⟨(some (56, false)), (some 57), .load (.t 10) 8 true⟩ <|
      .take ⟨(some (56, false)), (some 58), .build [(.int .i64 0), (.int .u64 0), (.int .u64 0), (.int .u64 0), (.int .u64 0), (.isl 0 [] (some 0)), (.int .i64 0), (.int .i64 0)] [(0, 1, (.c (.int .i64 1)))]⟩ <|
      .take ⟨(some (56, false)), (some 59), .mov (.t 0)⟩ <|
      .alt ⟨(some (56, false)), (some 60), .call 45 [(.c (.int .i64 3)), (.t 58), (.t 59)]⟩ false (
       .alt ⟨(some (56, false)), (some 61), .call 44 [(.t 57), (.t 60)]⟩ true (
        .take ⟨(some (56, false)), (some 62), .un .not (.t 61)⟩ <|
        .take ⟨none, (some 63), .pick (.t 56) (.c (.b true)) (.t 62)⟩ <|
        .done)
        (.noalt))
       (.noalt))
      (.noalt))
     (.noalt)))
  (.cond (.t 63)
   (.seq (.ops [
     ⟨none, (some 6), .mov (.c (.b false))⟩])
   (.ret))
   (.skip)))
 (.seq (.seq (.ops [
    ⟨none, (some 64), .mov (.t 0)⟩,
    ⟨none, (some 65), .len (.t 64)⟩,
    ⟨none, (some 66), .bin .gtr (.t 65) (.c (.int .i64 0))⟩])
  (.cond (.t 66)
   (.seq (.draw (
     .take ⟨none, (some 67), .mov (.t 0)⟩ <|
     .take ⟨none, (some 68), .slcS (.t 67) none (some (.c (.int .i64 1))) none 8⟩ <|
     .take ⟨none, (some 69), .idxA (.t 5) (.c (.int .i64 0)) 2 1⟩ <|
     .take ⟨none, (some 70), .load (.t 69) 1 false⟩ <|
     .take ⟨none, (some 71), .idxA (.t 5) (.c (.int .i64 1)) 2 1⟩ <|
     .take ⟨none, (some 72), .load (.t 71) 1 false⟩ <|
     .take ⟨none, (some 73), .build [(.int .i64 0), (.int .u64 0), (.int .u64 0), (.int .u64 0), (.int .u64 0), (.isl 0 [] (some 0)), (.int .i64 0), (.int .i64 0)] [(0, 1, (.c (.int .i64 4))), (5, 1, (.t 68)), (6, 1, (.t 70)), (7, 1, (.t 72))]⟩ <|
     .alt ⟨none, (some 12), .alloc false [(.int .i64 0), (.int .u64 0), (.int .u64 0), (.int .u64 0), (.int .u64 0), (.isl 0 [] (some 0)), (.int .i64 0), (.int .i64 0)]⟩ false (
      .alt ⟨none, none, .store (.t 12) (.t 73) 8⟩ true (
       .done)
       (.noalt))
      (.noalt)))
   (.seq (.draw (
     .take ⟨none, (some 74), .mov (.t 0)⟩ <|
     .take ⟨none, (some 75), .idxS (.t 74) (.c (.int .i64 0)) 8⟩ <|
     .take ⟨none, (some 76), .load (.t 75) 8 true⟩ <|
     .take ⟨none, (some 77), .idxA (.t 5) (.c (.int .i64 0)) 2 1⟩ <|
     .take ⟨none, (some 78), .load (.t 77) 1 false⟩ <|
     .take ⟨none, (some 79), .idxA (.t 5) (.c (.int .i64 1)) 2 1⟩ <|
     .take ⟨none, (some 80), .load (.t 79) 1 false⟩ <|
     .take ⟨none, (some 82), .load (.t 12) 8 true⟩ <|
     .alt ⟨none, (some 81), .call 46 [(.t 76), (.t 78), (.t 80)]⟩ false (
      .alt ⟨none, (some 83), .call 44 [(.t 81), (.t 82)]⟩ true (
       .take ⟨none, (some 84), .un .not (.t 83)⟩ <|
       .done)
       (.noalt))
      (.noalt)))
   (.cond (.t 84)
    (.seq (.ops [
      ⟨none, (some 6), .mov (.c (.b false))⟩])
    (.ret))
    (.skip))))
   (.skip)))
 (.seq (.seq (.draw (
    .take ⟨none, (some 85), .load (.t 11) 8 true⟩ <|
    .alt ⟨none, (some 86), .call 36 [(.t 85)]⟩ false (
     .take ⟨none, (some 87), .un .not (.t 86)⟩ <|
     .take ⟨none, (some 88), .mov (.t 87)⟩ <|
     .take ⟨(some (88, false)), (some 89), .load (.t 11) 8 true⟩ <|
     .take ⟨(some (88, false)), (some 90), .mov (.t 1)⟩ <|
     .alt ⟨(some (88, false)), (some 91), .call 47 [(.t 89), (.t 90)]⟩ true (
      .take ⟨(some (88, false)), (some 92), .un .not (.t 91)⟩ <|
      .take ⟨none, (some 93), .pick (.t 88) (.c (.b true)) (.t 92)⟩ <|
      .take ⟨none, (some 94), .mov (.t 93)⟩ <|
      .take ⟨(some (94, false)), (some 95), .load (.t 11) 8 true⟩ <|
      .take ⟨(some (94, false)), (some 97), .mov (.t 1)⟩ <|
      .take ⟨(some (94, false)), (some 98), .lenStr (.t 97)⟩ <|
      .take ⟨(some (94, false)), (some 99), .bin .add (.t 98) (.c (.int .i64 1))⟩ <|
      .alt ⟨(some (94, false)), (some 96), .call 48 [(.t 95)]⟩ false (
       .take ⟨(some (94, false)), (some 100), .bin .gtr (.t 96) (.t 99)⟩ <|
       .take ⟨none, (some 101), .pick (.t 94) (.c (.b true)) (.t 100)⟩ <|
       .take ⟨none, (some 102), .mov (.t 101)⟩ <|
       .take ⟨(some (102, false)), (some 103), .mov (.t 1)⟩ <|
       .take ⟨(some (102, false)), (some 104), .lenStr (.t 103)⟩ <|
       .take ⟨(some (102, false)), (some 105), .bin .gtr (.t 104) (.c (.int .i64 0))⟩ <|
       .take ⟨(some (102, false)), (some 106), .mov (.t 105)⟩ <|
       .take ⟨(some (106, true)), (some 107), .load (.t 11) 8 true⟩ <|
       .take ⟨(some (106, true)), (some 108), .mov (.t 1)⟩ <|
       .take ⟨(some (106, true)), (some 109), .slcStr (.t 108) (some (.c (.int .i64 1))) none⟩ <|
       .alt ⟨(some (106, true)), (some 110), .call 47 [(.t 107), (.t 109)]⟩ false (
        .take ⟨(some (102, false)), (some 111), .pick (.t 106) (.t 110) (.c (.b false))⟩ <|
        .take ⟨none, (some 112), .pick (.t 102) (.c (.b true)) (.t 111)⟩ <|
        .done)
        (.noalt))
       (.noalt))
      (.noalt))
     (.noalt)))
  (.cond (.t 112)
   (.seq (.ops [
     ⟨none, (some 6), .mov (.c (.b false))⟩])
   (.ret))
   (.skip)))
 (.seq (.seq (.ops [
    ⟨none, (some 113), .mov (.t 7)⟩,
    ⟨none, (some 114), .un .not (.t 113)⟩,
    ⟨none, (some 115), .mov (.t 114)⟩,
    ⟨(some (115, false)), (some 116), .load (.t 10) 8 true⟩,
    ⟨(some (115, false)), (some 117), .call 36 [(.t 116)]⟩,
    ⟨(some (115, false)), (some 118), .un .not (.t 117)⟩,
    ⟨none, (some 119), .pick (.t 115) (.c (.b true)) (.t 118)⟩])
  (.cond (.t 119)
   (.seq (.ops [
     ⟨none, (some 6), .mov (.c (.b true))⟩])
   (.ret))
   (.skip)))
 (.seq (.ops [
   ⟨none, (some 13), .mov (.c (.b false))⟩])
 (.seq (.seq (.ops [
    ⟨none, (some 14), .mov (.c (.int .i64 0))⟩])
  (.block 2 (.loop [0, 1, 10, 13, 14, 128, 129, 130, 131, 132, 133] (
   .seq (.seq (.ops [
      ⟨none, (some 120), .mov (.t 14)⟩,
      ⟨none, (some 121), .mov (.t 0)⟩,
      ⟨none, (some 122), .len (.t 121)⟩,
      ⟨none, (some 123), .bin .lss (.t 120) (.t 122)⟩])
    (.cond (.t 123)
     (.skip)
     (.exit 2)))
   (.seq (.block 3 (.ops [
     ⟨none, (some 126), .mov (.t 13)⟩,
     ⟨none, (some 127), .mov (.t 126)⟩,
     ⟨(some (127, false)), (some 128), .mov (.t 0)⟩,
     ⟨(some (127, false)), (some 129), .mov (.t 14)⟩,
     ⟨(some (127, false)), (some 130), .idxS (.t 128) (.t 129) 8⟩,
     ⟨(some (127, false)), (some 131), .load (.t 130) 8 true⟩,
     ⟨(some (127, false)), (some 132), .mov (.t 1)⟩,
     ⟨(some (127, false)), (some 133), .call 47 [(.t 131), (.t 132)]⟩,
     ⟨none, (some 134), .pick (.t 127) (.c (.b true)) (.t 133)⟩,
     ⟨none, (some 13), .mov (.t 134)⟩]))
   (.ops [
    ⟨none, (some 124), .mov (.t 14)⟩,
    ⟨none, (some 125), .bin .add (.t 124) (.c (.int .i64 1))⟩,
    ⟨none, (some 14), .mov (.t 125)⟩]))))))
 (.seq (.ops [
   ⟨none, (some 135), .load (.t 10) 8 true⟩,
   ⟨none, (some 136), .mov (.t 1)⟩,
   ⟨none, (some 137), .call 47 [(.t 135), (.t 136)]⟩,
   ⟨none, (some 138), .mov (.t 13)⟩,
   ⟨none, (some 139), .cmpb false (.t 137) (.t 138)⟩,
   ⟨none, (some 6), .mov (.t 139)⟩])
 (.ret)))))))))))))⟩
theorem rf12_eq : cfnAt Try.prog 12 [[0, 1, 5, 7, 8, 38, 39, 40, 41, 42, 57, 58, 59, 60, 61, 62, 89, 90, 91, 92, 95, 96, 97, 98, 99, 100, 103, 104, 105, 106, 107, 108, 109, 110, 111, 116, 117, 118, 128, 129, 130, 131, 132, 133], [0, 1, 10, 13, 14, 128, 129, 130, 131, 132, 133]] = some rf12 := by kernel_rfl
/-- hackle/hacklelaw04.RxLast -/
def rf13 : RFn := ⟨2, 52, [.tmp 4],
 .seq (.ops [
   ⟨none, (some 2), .box false (.t 0) 8⟩,
   ⟨none, (some 4), .mov (.c (.b false))⟩])
 (.seq (.seq (.ops [
    ⟨none, (some 5), .call 34 []⟩,
    ⟨none, (some 6), .un .not (.t 5)⟩])
  (.cond (.t 6)
   (.seq (.ops [
     ⟨none, (some 4), .mov (.c (.b false))⟩])
   (.ret))
   (.skip)))
 (.seq (.seq (.ops [
    ⟨none, (some 7), .load (.t 2) 8 true⟩,
    ⟨none, (some 8), .call 35 [(.t 7)]⟩,
    ⟨none, (some 9), .mov (.t 8)⟩,
    ⟨(some (9, false)), (some 10), .load (.t 2) 8 true⟩,
    ⟨(some (9, false)), (some 11), .call 36 [(.t 10)]⟩,
    ⟨(some (9, false)), (some 12), .un .not (.t 11)⟩,
    ⟨none, (some 13), .pick (.t 9) (.c (.b true)) (.t 12)⟩,
    ⟨none, (some 14), .mov (.t 13)⟩,
    ⟨(some (14, false)), (some 15), .mov (.t 1)⟩,
    ⟨(some (14, false)), (some 16), .lenStr (.t 15)⟩,
    ⟨(some (14, false)), (some 17), .bin .gtr (.t 16) (.c (.int .i64 60))⟩,
    ⟨none, (some 18), .pick (.t 14) (.c (.b true)) (.t 17)⟩,
    ⟨none, (some 19), .mov (.t 18)⟩,
    ⟨(some (19, false)), (some 20), .mov (.t 1)⟩,
    ⟨(some (19, false)), (some 21), .lenStr (.t 20)⟩,
    ⟨(some (19, false)), (some 22), .bin .eql (.t 21) (.c (.int .i64 0))⟩,
    ⟨none, (some 23), .pick (.t 19) (.c (.b true)) (.t 22)⟩,
    ⟨none, (some 24), .mov (.t 23)⟩,
    ⟨(some (24, false)), (some 25), .load (.t 2) 8 true⟩,
    ⟨(some (24, false)), (some 26), .mov (.t 1)⟩,
    ⟨(some (24, false)), (some 27), .call 47 [(.t 25), (.t 26)]⟩,
    ⟨(some (24, false)), (some 28), .un .not (.t 27)⟩,
    ⟨none, (some 29), .pick (.t 24) (.c (.b true)) (.t 28)⟩])
  (.cond (.t 29)
   (.seq (.ops [
     ⟨none, (some 4), .mov (.c (.b true))⟩])
   (.ret))
   (.skip)))
 (.seq (.draw (
   .take ⟨none, (some 30), .load (.t 2) 8 true⟩ <|
   .take ⟨none, (some 32), .mov (.t 1)⟩ <|
   .take ⟨none, (some 33), .idxStr (.t 32) (.c (.int .i64 0))⟩ <|
   .take ⟨none, (some 34), .convI .i64 (.t 33)⟩ <|
   .alt ⟨none, (some 31), .call 37 [(.t 30)]⟩ false (
    .alt ⟨none, (some 35), .call 38 [(.t 31), (.t 34)]⟩ true (
     .take ⟨none, (some 36), .mov (.t 35)⟩ <|
     .take ⟨(some (36, true)), (some 37), .load (.t 2) 8 true⟩ <|
     .take ⟨(some (36, true)), (some 39), .mov (.t 1)⟩ <|
     .take ⟨(some (36, true)), (some 40), .mov (.t 1)⟩ <|
     .take ⟨(some (36, true)), (some 41), .lenStr (.t 40)⟩ <|
     .take ⟨(some (36, true)), (some 42), .bin .sub (.t 41) (.c (.int .i64 1))⟩ <|
     .take ⟨(some (36, true)), (some 43), .idxStr (.t 39) (.t 42)⟩ <|
     .take ⟨(some (36, true)), (some 44), .convI .i64 (.t 43)⟩ <|
     .alt ⟨(some (36, true)), (some 38), .call 49 [(.t 37)]⟩ false (
      .alt ⟨(some (36, true)), (some 45), .call 38 [(.t 38), (.t 44)]⟩ true (
       .take ⟨none, (some 46), .pick (.t 36) (.t 45) (.c (.b false))⟩ <|
       .take ⟨none, (some 47), .mov (.t 46)⟩ <|
       .take ⟨(some (47, true)), (some 48), .load (.t 2) 8 true⟩ <|
       .alt ⟨(some (47, true)), (some 49), .call 50 [(.t 48)]⟩ false (
        .take ⟨(some (47, true)), (some 50), .un .not (.t 49)⟩ <|
        .take ⟨none, (some 51), .pick (.t 47) (.t 50) (.c (.b false))⟩ <|
        .take ⟨none, (some 4), .mov (.t 51)⟩ <|
        .done)
        (.noalt))
       (.noalt))
      (.noalt))
     (.noalt))
    (.noalt)))
 (.ret))))⟩
theorem rf13_eq : cfnAt Try.prog 13 [] = some rf13 := by kernel_rfl
/-- hackle/hacklelaw04.RxMay -/
def rf14 : RFn := ⟨2, 46, [.tmp 4],
 .seq (.ops [
   ⟨none, (some 2), .box false (.t 0) 8⟩,
   ⟨none, (some 3), .box false (.t 1) 8⟩,
   ⟨none, (some 4), .mov (.c (.b false))⟩])
 (.seq (.seq (.ops [
    ⟨none, (some 5), .call 34 []⟩,
    ⟨none, (some 6), .un .not (.t 5)⟩])
  (.cond (.t 6)
   (.seq (.ops [
     ⟨none, (some 4), .mov (.c (.b false))⟩])
   (.ret))
   (.skip)))
 (.seq (.seq (.ops [
    ⟨none, (some 7), .load (.t 2) 8 true⟩,
    ⟨none, (some 8), .call 51 [(.t 7)]⟩,
    ⟨none, (some 9), .mov (.t 8)⟩,
    ⟨(some (9, false)), (some 10), .load (.t 3) 8 true⟩,
    ⟨(some (9, false)), (some 11), .call 51 [(.t 10)]⟩,
    ⟨none, (some 12), .pick (.t 9) (.c (.b true)) (.t 11)⟩])
  (.cond (.t 12)
   (.seq (.ops [
     ⟨none, (some 4), .mov (.c (.b true))⟩])
   (.ret))
   (.skip)))
 (.seq (.draw (
   .take ⟨none, (some 13), .load (.t 2) 8 true⟩ <|
   .take ⟨none, (some 15), .load (.t 2) 8 true⟩ <|
   .alt ⟨none, (some 14), .call 52 [(.t 13)]⟩ false (
    .alt ⟨none, (some 16), .call 36 [(.t 15)]⟩ false (
     .take ⟨none, (some 17), .cmpb false (.t 14) (.t 16)⟩ <|
     .take ⟨none, (some 18), .mov (.t 17)⟩ <|
     .take ⟨(some (18, true)), (some 19), .load (.t 2) 8 true⟩ <|
     .take ⟨(some (18, true)), (some 21), .load (.t 2) 8 true⟩ <|
     .alt ⟨(some (18, true)), (some 20), .call 53 [(.t 19)]⟩ false (
      .alt ⟨(some (18, true)), (some 22), .call 48 [(.t 21)]⟩ false (
       .take ⟨(some (18, true)), (some 23), .bin .eql (.t 20) (.t 22)⟩ <|
       .take ⟨none, (some 24), .pick (.t 18) (.t 23) (.c (.b false))⟩ <|
       .take ⟨none, (some 25), .mov (.t 24)⟩ <|
       .take ⟨(some (25, true)), (some 26), .load (.t 2) 8 true⟩ <|
       .take ⟨(some (25, true)), (some 28), .load (.t 2) 8 true⟩ <|
       .alt ⟨(some (25, true)), (some 27), .call 54 [(.t 26)]⟩ false (
        .alt ⟨(some (25, true)), (some 29), .call 55 [(.t 28)]⟩ false (
         .take ⟨(some (25, true)), (some 30), .bin .eql (.t 27) (.t 29)⟩ <|
         .take ⟨none, (some 31), .pick (.t 25) (.t 30) (.c (.b false))⟩ <|
         .take ⟨none, (some 32), .mov (.t 31)⟩ <|
         .take ⟨(some (32, true)), (some 33), .load (.t 2) 8 true⟩ <|
         .take ⟨(some (32, true)), (some 34), .load (.t 3) 8 true⟩ <|
         .take ⟨(some (32, true)), (some 36), .load (.t 2) 8 true⟩ <|
         .take ⟨(some (32, true)), (some 37), .load (.t 3) 8 true⟩ <|
         .alt ⟨(some (32, true)), (some 35), .call 56 [(.t 33), (.t 34)]⟩ false (
          .alt ⟨(some (32, true)), (some 38), .call 44 [(.t 36), (.t 37)]⟩ false (
           .take ⟨(some (32, true)), (some 39), .cmpb false (.t 35) (.t 38)⟩ <|
           .take ⟨none, (some 40), .pick (.t 32) (.t 39) (.c (.b false))⟩ <|
           .take ⟨none, (some 41), .mov (.t 40)⟩ <|
           .take ⟨(some (41, true)), (some 42), .load (.t 2) 8 true⟩ <|
           .take ⟨(some (41, true)), (some 43), .load (.t 2) 8 true⟩ <|
           .alt ⟨(some (41, true)), (some 44), .call 56 [(.t 42), (.t 43)]⟩ false (
            .take ⟨none, (some 45), .pick (.t 41) (.t 44) (.c (.b false))⟩ <|
            .take ⟨none, (some 4), .mov (.t 45)⟩ <|
            .done)
            (.noalt))
           (.noalt))
          (.noalt))
         (.noalt))
        (.noalt))
       (.noalt))
      (.noalt))
     (.noalt))
    (.noalt)))
 (.ret))))⟩
theorem rf14_eq : cfnAt Try.prog 14 [] = some rf14 := by kernel_rfl
/-- hackle/hacklelaw04.RxFacts -/
def rf15 : RFn := ⟨1, 76, [.tmp 2],
 .seq (.ops [
   ⟨none, (some 1), .box false (.t 0) 8⟩,
   ⟨none, (some 2), .mov (.c (.b false))⟩])
 (.seq (.seq (.ops [
    ⟨none, (some 6), .call 34 []⟩,
    ⟨none, (some 7), .un .not (.t 6)⟩])
  (.cond (.t 7)
   (.seq (.ops [
     ⟨none, (some 2), .mov (.c (.b false))⟩])
   (.ret))
   (.skip)))
 (.seq (.seq (.ops [
    ⟨none, (some 8), .load (.t 1) 8 true⟩,
    ⟨none, (some 9), .call 35 [(.t 8)]⟩])
  (.cond (.t 9)
   (.seq (.ops [
     ⟨none, (some 2), .mov (.c (.b true))⟩])
   (.ret))
   (.skip)))
 (.seq (.ops [
   ⟨none, (some 10), .load (.t 1) 8 true⟩,
   ⟨none, (some 11), .call 57 [(.t 10)]⟩,
   ⟨none, (some 3), .mov (.t 11)⟩])
 (.seq (.seq (.ops [
    ⟨none, (some 12), .load (.t 1) 8 true⟩,
    ⟨none, (some 13), .call 36 [(.t 12)]⟩,
    ⟨none, (some 14), .un .not (.t 13)⟩])
  (.cond (.t 14)
   (.seq (.ops [
     ⟨none, (some 15), .load (.t 1) 8 true⟩,
     ⟨none, (some 16), .call 50 [(.t 15)]⟩,
     ⟨none, (some 17), .un .not (.t 16)⟩,
     ⟨none, (some 18), .mov (.t 17)⟩,
     ⟨(some (18, true)), (some 19), .load (.t 1) 8 true⟩,
     ⟨(some (18, true)), (some 20), .call 58 [(.t 19)]⟩,
     ⟨(some (18, true)), (some 21), .un .not (.t 20)⟩,
     ⟨none, (some 22), .pick (.t 18) (.t 21) (.c (.b false))⟩,
     ⟨none, (some 23), .mov (.t 22)⟩,
     ⟨(some (23, true)), (some 24), .load (.t 1) 8 true⟩,
     ⟨(some (23, true)), (some 25), .call 37 [(.t 24)]⟩,
     ⟨(some (23, true)), (some 26), .build [(.int .u64 0), (.int .u64 0), (.int .u64 0), (.int .u64 0)] []⟩,
     ⟨(some (23, true)), (some 27), .cmpa false [(.int .u64), (.int .u64), (.int .u64), (.int .u64)] (.t 25) (.t 26)⟩,
     ⟨none, (some 28), .pick (.t 23) (.t 27) (.c (.b false))⟩,
     ⟨none, (some 29), .mov (.t 28)⟩,
     ⟨(some (29, true)), (some 30), .load (.t 1) 8 true⟩,
     ⟨(some (29, true)), (some 31), .call 49 [(.t 30)]⟩,
     ⟨(some (29, true)), (some 32), .build [(.int .u64 0), (.int .u64 0), (.int .u64 0), (.int .u64 0)] []⟩,
     ⟨(some (29, true)), (some 33), .cmpa false [(.int .u64), (.int .u64), (.int .u64), (.int .u64)] (.t 31) (.t 32)⟩,
     ⟨none, (some 34), .pick (.t 29) (.t 33) (.c (.b false))⟩,
     ⟨none, (some 35), .mov (.t 34)⟩,
     ⟨(some (35, true)), (some 36), .mov (.t 3)⟩,
     ⟨(some (35, true)), (some 37), .len (.t 36)⟩,
     ⟨(some (35, true)), (some 38), .bin .eql (.t 37) (.c (.int .i64 0))⟩,
     ⟨none, (some 39), .pick (.t 35) (.t 38) (.c (.b false))⟩,
     ⟨none, (some 2), .mov (.t 39)⟩])
   (.ret))
   (.skip)))
 (.seq (.ops [
   ⟨none, (some 40), .load (.t 1) 8 true⟩,
   ⟨none, (some 41), .call 59 [(.t 40)]⟩,
   ⟨none, (some 4), .mov (.t 41)⟩])
 (.seq (.seq (.draw (
    .take ⟨none, (some 42), .load (.t 1) 8 true⟩ <|
    .take ⟨none, (some 44), .load (.t 1) 8 true⟩ <|
    .alt ⟨none, (some 43), .call 50 [(.t 42)]⟩ false (
     .alt ⟨none, (some 45), .call 60 [(.t 44)]⟩ true (
      .take ⟨none, (some 46), .cmpb true (.t 43) (.t 45)⟩ <|
      .take ⟨none, (some 47), .mov (.t 46)⟩ <|
      .take ⟨(some (47, false)), (some 48), .load (.t 1) 8 true⟩ <|
      .take ⟨(some (47, false)), (some 50), .load (.t 1) 8 true⟩ <|
      .alt ⟨(some (47, false)), (some 49), .call 58 [(.t 48)]⟩ false (
       .alt ⟨(some (47, false)), (some 51), .call 47 [(.t 50), (.c (.str []))]⟩ true (
        .take ⟨(some (47, false)), (some 52), .cmpb true (.t 49) (.t 51)⟩ <|
        .take ⟨none, (some 53), .pick (.t 47) (.c (.b true)) (.t 52)⟩ <|
        .take ⟨none, (some 54), .mov (.t 53)⟩ <|
        .take ⟨(some (54, false)), (some 55), .mov (.t 3)⟩ <|
        .take ⟨(some (54, false)), (some 56), .len (.t 55)⟩ <|
        .take ⟨(some (54, false)), (some 57), .mov (.t 4)⟩ <|
        .take ⟨(some (54, false)), (some 58), .len (.t 57)⟩ <|
        .take ⟨(some (54, false)), (some 59), .bin .neq (.t 56) (.t 58)⟩ <|
        .take ⟨none, (some 60), .pick (.t 54) (.c (.b true)) (.t 59)⟩ <|
        .done)
        (.noalt))
       (.noalt))
      (.noalt))
     (.noalt)))
  (.cond (.t 60)
   (.seq (.ops [
     ⟨none, (some 2), .mov (.c (.b false))⟩])
   (.ret))
   (.skip)))
 (.seq (.seq (.ops [
    ⟨none, (some 5), .mov (.c (.int .i64 0))⟩])
  (.block 0 (.loop [3, 4, 5] (
   .seq (.seq (.ops [
      ⟨none, (some 61), .mov (.t 5)⟩,
      ⟨none, (some 62), .mov (.t 3)⟩,
      ⟨none, (some 63), .len (.t 62)⟩,
      ⟨none, (some 64), .bin .lss (.t 61) (.t 63)⟩])
    (.cond (.t 64)
     (.skip)
     (.exit 0)))
   (.seq (.block 1 (.seq (.draw (
      .take ⟨none, (some 67), .mov (.t 3)⟩ <|
      .take ⟨none, (some 68), .mov (.t 5)⟩ <|
      .take ⟨none, (some 69), .idxS (.t 67) (.t 68) 4⟩ <|
      .take ⟨none, (some 70), .load (.t 69) 4 true⟩ <|
      .take ⟨none, (some 71), .mov (.t 4)⟩ <|
      .take ⟨none, (some 72), .mov (.t 5)⟩ <|
      .take ⟨none, (some 73), .idxS (.t 71) (.t 72) 4⟩ <|
      .take ⟨none, (some 74), .load (.t 73) 4 true⟩ <|
      .take ⟨none, (some 75), .cmpa true [(.int .u64), (.int .u64), (.int .u64), (.int .u64)] (.t 70) (.t 74)⟩ <|
      .done))
    (.cond (.t 75)
     (.seq (.ops [
       ⟨none, (some 2), .mov (.c (.b false))⟩])
     (.ret))
     (.skip))))
   (.ops [
    ⟨none, (some 65), .mov (.t 5)⟩,
    ⟨none, (some 66), .bin .add (.t 65) (.c (.int .i64 1))⟩,
    ⟨none, (some 5), .mov (.t 66)⟩]))))))
 (.seq (.ops [
   ⟨none, (some 2), .mov (.c (.b true))⟩])
 (.ret)))))))))⟩
theorem rf15_eq : cfnAt Try.prog 15 [[3, 4, 5]] = some rf15 := by kernel_rfl
/-- hackle/hacklelaw04.alive -/
def rf34 : RFn := ⟨0, 32, [.tmp 0],
 .seq (.ops [
   ⟨none, (some 0), .mov (.c (.b false))⟩])
 (.seq (.ops [
   ⟨none, (some 2), .call 43 [(.c (.str [97, 98]))]⟩,
   ⟨none, (some 3), .call 71 [(.c (.int .i64 48)), (.c (.int .i64 57))]⟩,
   ⟨none, (some 4), .call 70 [(.t 3)]⟩,
   ⟨none, (some 5), .call 46 [(.t 4), (.c (.int .i64 0)), (.c (.int .i64 (-1)))]⟩,
   ⟨none, (some 6), .bslice 8 [(.t 2), (.t 5)]⟩,
   ⟨none, (some 7), .call 41 [(.t 6)]⟩,
   ⟨none, (some 1), .alloc false [(.int .i64 0), (.int .u64 0), (.int .u64 0), (.int .u64 0), (.int .u64 0), (.isl 0 [] (some 0)), (.int .i64 0), (.int .i64 0)]⟩,
   ⟨none, none, .store (.t 1) (.t 7) 8⟩])
 (.seq (.ops [
   ⟨none, (some 8), .load (.t 1) 8 true⟩,
   ⟨none, (some 9), .call 53 [(.t 8)]⟩,
   ⟨none, (some 10), .bin .eql (.t 9) (.c (.int .i64 6))⟩,
   ⟨none, (some 11), .mov (.t 10)⟩,
   ⟨(some (11, true)), (some 12), .load (.t 1) 8 true⟩,
   ⟨(some (11, true)), (some 13), .call 54 [(.t 12)]⟩,
   ⟨(some (11, true)), (some 14), .bin .eql (.t 13) (.c (.int .i64 3))⟩,
   ⟨none, (some 15), .pick (.t 11) (.t 14) (.c (.b false))⟩,
   ⟨none, (some 16), .mov (.t 15)⟩,
   ⟨(some (16, true)), (some 17), .load (.t 1) 8 true⟩,
   ⟨(some (16, true)), (some 18), .call 37 [(.t 17)]⟩,
   ⟨(some (16, true)), (some 19), .call 71 [(.c (.int .i64 97)), (.c (.int .i64 97))]⟩,
   ⟨(some (16, true)), (some 20), .cmpa false [(.int .u64), (.int .u64), (.int .u64), (.int .u64)] (.t 18) (.t 19)⟩,
   ⟨none, (some 21), .pick (.t 16) (.t 20) (.c (.b false))⟩,
   ⟨none, (some 22), .mov (.t 21)⟩,
   ⟨(some (22, true)), (some 23), .load (.t 1) 8 true⟩,
   ⟨(some (22, true)), (some 24), .call 49 [(.t 23)]⟩,
   ⟨(some (22, true)), (some 25), .call 38 [(.t 24), (.c (.int .i64 98))]⟩,
   ⟨none, (some 26), .pick (.t 22) (.t 25) (.c (.b false))⟩,
   ⟨none, (some 27), .mov (.t 26)⟩,
   ⟨(some (27, true)), (some 28), .load (.t 1) 8 true⟩,
   ⟨(some (27, true)), (some 29), .call 49 [(.t 28)]⟩,
   ⟨(some (27, true)), (some 30), .call 38 [(.t 29), (.c (.int .i64 53))]⟩,
   ⟨none, (some 31), .pick (.t 27) (.t 30) (.c (.b false))⟩,
   ⟨none, (some 0), .mov (.t 31)⟩])
 (.ret)))⟩
theorem rf34_eq : cfnAt Try.prog 34 [] = some rf34 := by kernel_rfl
/-- hackle/hacklelaw04.slow -/
def rf35 : RFn := ⟨1, 10, [.tmp 2],
 .seq (.ops [
   ⟨none, (some 1), .box false (.t 0) 8⟩,
   ⟨none, (some 2), .mov (.c (.b false))⟩])
 (.seq (.ops [
   ⟨none, (some 3), .load (.t 1) 8 true⟩,
   ⟨none, (some 4), .call 51 [(.t 3)]⟩,
   ⟨none, (some 5), .mov (.t 4)⟩,
   ⟨(some (5, false)), (some 6), .load (.t 1) 8 true⟩,
   ⟨(some (5, false)), (some 7), .call 72 [(.t 6)]⟩,
   ⟨(some (5, false)), (some 8), .bin .gtr (.t 7) (.c (.int .i64 20000))⟩,
   ⟨none, (some 9), .pick (.t 5) (.c (.b true)) (.t 8)⟩,
   ⟨none, (some 2), .mov (.t 9)⟩])
 (.ret))⟩
theorem rf35_eq : cfnAt Try.prog 35 [] = some rf35 := by kernel_rfl
/-- hackle/hackleref04.May -/
def rf36 : RFn := ⟨1, 15, [.tmp 2],
 .seq (.ops [
   ⟨none, (some 1), .box false (.t 0) 8⟩,
   ⟨none, (some 2), .mov (.c (.b false))⟩])
 (.seq (.ops [
   ⟨none, (some 3), .load (.t 1) 8 true⟩,
   ⟨none, (some 4), .call 48 [(.t 3)]⟩,
   ⟨none, (some 5), .bin .leq (.t 4) (.c (.int .i64 300))⟩,
   ⟨none, (some 6), .mov (.t 5)⟩,
   ⟨(some (6, true)), (some 7), .load (.t 1) 8 true⟩,
   ⟨(some (6, true)), (some 8), .call 55 [(.t 7)]⟩,
   ⟨(some (6, true)), (some 9), .bin .leq (.t 8) (.c (.int .i64 30))⟩,
   ⟨none, (some 10), .pick (.t 6) (.t 9) (.c (.b false))⟩,
   ⟨none, (some 11), .mov (.t 10)⟩,
   ⟨(some (11, true)), (some 12), .load (.t 1) 8 true⟩,
   ⟨(some (11, true)), (some 13), .call 73 [(.t 12)]⟩,
   ⟨none, (some 14), .pick (.t 11) (.t 13) (.c (.b false))⟩,
   ⟨none, (some 2), .mov (.t 14)⟩])
 (.ret))⟩
theorem rf36_eq : cfnAt Try.prog 36 [] = some rf36 := by kernel_rfl
/-- hackle/rx.First -/
def rf37 : RFn := ⟨1, 12, [.cell 2 4 true],
 .seq (.ops [
   ⟨none, (some 1), .box false (.t 0) 8⟩,
   ⟨none, (some 2), .alloc true [(.int .u64 0), (.int .u64 0), (.int .u64 0), (.int .u64 0)]⟩])
 (.seq (.ops [
   ⟨none, (some 6), .load (.t 1) 8 true⟩,
   ⟨none, (some 7), .call 74 [(.t 6)]⟩,
   ⟨none, (some 5), .mov (.t 7)⟩,
   ⟨none, (some 8), .ext (.t 5) 0⟩,
   ⟨none, (some 9), .ext (.t 5) 1⟩,
   ⟨none, (some 3), .alloc false [(.b false), (.b false), (.int .u64 0), (.int .u64 0), (.int .u64 0), (.int .u64 0), (.int .u64 0), (.int .u64 0), (.int .u64 0), (.int .u64 0)]⟩,
   ⟨none, none, .store (.t 3) (.t 8) 10⟩,
   ⟨none, (some 4), .mov (.t 9)⟩])
 (.seq (.ops [
   ⟨none, (some 10), .fadr (.t 3) 2⟩,
   ⟨none, (some 11), .load (.t 10) 4 true⟩,
   ⟨none, none, .store (.t 2) (.t 11) 4⟩])
 (.ret)))⟩
theorem rf37_eq : cfnAt Try.prog 37 [] = some rf37 := by kernel_rfl
/-- hackle/hackleref01.Has -/
def rf38 : RFn := ⟨2, 22, [.tmp 4],
 .seq (.ops [
   ⟨none, (some 2), .box true (.t 0) 4⟩,
   ⟨none, (some 4), .mov (.c (.b false))⟩])
 (.seq (.ops [
   ⟨none, (some 7), .mov (.t 1)⟩,
   ⟨none, (some 8), .bin .quo (.t 7) (.c (.int .i64 64))⟩,
   ⟨none, (some 9), .idxA (.t 2) (.t 8) 4 1⟩,
   ⟨none, (some 10), .load (.t 9) 1 false⟩,
   ⟨none, (some 5), .mov (.t 10)⟩])
 (.seq (.seq (.ops [
    ⟨none, (some 6), .mov (.c (.int .i64 0))⟩])
  (.block 0 (.loop [1, 5, 6] (
   .seq (.seq (.ops [
      ⟨none, (some 11), .mov (.t 6)⟩,
      ⟨none, (some 12), .mov (.t 1)⟩,
      ⟨none, (some 13), .bin .rem (.t 12) (.c (.int .i64 64))⟩,
      ⟨none, (some 14), .bin .lss (.t 11) (.t 13)⟩])
    (.cond (.t 14)
     (.skip)
     (.exit 0)))
   (.seq (.block 1 (.ops [
     ⟨none, (some 17), .mov (.t 5)⟩,
     ⟨none, (some 18), .bin .quo (.t 17) (.c (.int .u64 2))⟩,
     ⟨none, (some 5), .mov (.t 18)⟩]))
   (.ops [
    ⟨none, (some 15), .mov (.t 6)⟩,
    ⟨none, (some 16), .bin .add (.t 15) (.c (.int .i64 1))⟩,
    ⟨none, (some 6), .mov (.t 16)⟩]))))))
 (.seq (.ops [
   ⟨none, (some 19), .mov (.t 5)⟩,
   ⟨none, (some 20), .bin .rem (.t 19) (.c (.int .u64 2))⟩,
   ⟨none, (some 21), .bin .eql (.t 20) (.c (.int .u64 1))⟩,
   ⟨none, (some 4), .mov (.t 21)⟩])
 (.ret))))⟩
theorem rf38_eq : cfnAt Try.prog 38 [[1, 5, 6]] = some rf38 := by kernel_rfl
/-- hackle/hackleref04.Begins -/
def rf39 : RFn := ⟨3, 139, [.tmp 6],
 .seq (.ops [
   ⟨none, (some 3), .box false (.t 0) 8⟩,
   ⟨none, (some 6), .mov (.c (.b false))⟩])
 (.seq (.ops [
   ⟨none, (some 12), .mov (.t 1)⟩,
   ⟨none, (some 13), .lenStr (.t 12)⟩,
   ⟨none, (some 7), .mov (.t 13)⟩])
 (.seq (.seq (.ops [
    ⟨none, (some 14), .fadr (.t 3) 0⟩,
    ⟨none, (some 15), .load (.t 14) 1 false⟩])
  (.block 0 (.seq (.ops [
    ⟨none, (some 17), .bin .eql (.t 15) (.c (.int .i64 0))⟩,
    ⟨none, (some 16), .mov (.t 17)⟩])
  (.cond (.t 16)
   (.seq (.ops [
     ⟨none, (some 18), .mov (.t 2)⟩,
     ⟨none, (some 19), .mov (.t 7)⟩,
     ⟨none, (some 20), .idxS (.t 18) (.t 19) 1⟩,
     ⟨none, (some 21), .load (.t 20) 1 false⟩,
     ⟨none, (some 6), .mov (.t 21)⟩])
   (.ret))
   (.seq (.ops [
     ⟨none, (some 23), .bin .eql (.t 15) (.c (.int .i64 1))⟩,
     ⟨none, (some 22), .mov (.t 23)⟩])
   (.cond (.t 22)
    (.seq (.seq (.ops [
       ⟨none, (some 24), .fadr (.t 3) 1⟩,
       ⟨none, (some 25), .load (.t 24) 4 true⟩,
       ⟨none, (some 26), .build [(.int .u64 0), (.int .u64 0), (.int .u64 0), (.int .u64 0)] []⟩,
       ⟨none, (some 27), .cmpa false [(.int .u64), (.int .u64), (.int .u64), (.int .u64)] (.t 25) (.t 26)⟩])
     (.cond (.t 27)
      (.seq (.ops [
        ⟨none, (some 6), .mov (.c (.b false))⟩])
      (.ret))
      (.skip)))
    (.seq (.draw (
      .take ⟨none, (some 28), .mov (.t 2)⟩ <|
      .take ⟨none, (some 29), .mov (.t 7)⟩ <|
      .take ⟨none, (some 30), .idxS (.t 28) (.t 29) 1⟩ <|
      .take ⟨none, (some 31), .load (.t 30) 1 false⟩ <|
      .take ⟨none, (some 32), .mov (.t 31)⟩ <|
      .take ⟨(some (32, false)), (some 33), .mov (.t 7)⟩ <|
      .take ⟨(some (32, false)), (some 34), .bin .gtr (.t 33) (.c (.int .i64 0))⟩ <|
      .take ⟨(some (32, false)), (some 35), .mov (.t 34)⟩ <|
      .take ⟨(some (35, true)), (some 36), .mov (.t 2)⟩ <|
      .take ⟨(some (35, true)), (some 37), .mov (.t 7)⟩ <|
      .take ⟨(some (35, true)), (some 38), .bin .sub (.t 37) (.c (.int .i64 1))⟩ <|
      .take ⟨(some (35, true)), (some 39), .idxS (.t 36) (.t 38) 1⟩ <|
      .take ⟨(some (35, true)), (some 40), .load (.t 39) 1 false⟩ <|
      .take ⟨(some (32, false)), (some 41), .pick (.t 35) (.t 40) (.c (.b false))⟩ <|
      .take ⟨(some (32, false)), (some 42), .mov (.t 41)⟩ <|
      .take ⟨(some (42, true)), (some 43), .fadr (.t 3) 1⟩ <|
      .take ⟨(some (42, true)), (some 44), .load (.t 43) 4 true⟩ <|
      .take ⟨(some (42, true)), (some 45), .mov (.t 1)⟩ <|
      .take ⟨(some (42, true)), (some 46), .mov (.t 7)⟩ <|
      .take ⟨(some (42, true)), (some 47), .bin .sub (.t 46) (.c (.int .i64 1))⟩ <|
      .take ⟨(some (42, true)), (some 48), .idxStr (.t 45) (.t 47)⟩ <|
      .take ⟨(some (42, true)), (some 49), .convI .i64 (.t 48)⟩ <|
      .alt ⟨(some (42, true)), (some 50), .call 38 [(.t 44), (.t 49)]⟩ false (
       .take ⟨(some (32, false)), (some 51), .pick (.t 42) (.t 50) (.c (.b false))⟩ <|
       .take ⟨none, (some 52), .pick (.t 32) (.c (.b true)) (.t 51)⟩ <|
       .take ⟨none, (some 6), .mov (.t 52)⟩ <|
       .done)
       (.noalt)))
    (.ret)))
    (.seq (.ops [
      ⟨none, (some 54), .bin .eql (.t 15) (.c (.int .i64 2))⟩,
      ⟨none, (some 53), .mov (.t 54)⟩])
    (.cond (.t 53)
     (.seq (.seq (.ops [
        ⟨none, (some 55), .load (.t 3) 8 true⟩,
        ⟨none, (some 56), .call 60 [(.t 55)]⟩])
      (.cond (.t 56)
       (.seq (.ops [
         ⟨none, (some 6), .mov (.c (.b false))⟩])
       (.ret))
       (.skip)))
     (.seq (.seq (.ops [
        ⟨none, (some 8), .mov (.c (.int .i64 0))⟩])
      (.block 1 (.loop [1, 2, 3, 7, 8] (
       .seq (.seq (.ops [
          ⟨none, (some 57), .mov (.t 8)⟩,
          ⟨none, (some 58), .fadr (.t 3) 5⟩,
          ⟨none, (some 59), .load (.t 58) 1 false⟩,
          ⟨none, (some 60), .len (.t 59)⟩,
          ⟨none, (some 61), .bin .lss (.t 57) (.t 60)⟩])
        (.cond (.t 61)
         (.skip)
         (.exit 1)))
       (.seq (.block 2 (.seq (.seq (.ops [
           ⟨none, (some 64), .fadr (.t 3) 5⟩,
           ⟨none, (some 65), .load (.t 64) 1 false⟩,
           ⟨none, (some 66), .mov (.t 8)⟩,
           ⟨none, (some 67), .idxS (.t 65) (.t 66) 8⟩,
           ⟨none, (some 68), .load (.t 67) 8 true⟩,
           ⟨none, (some 69), .mov (.t 1)⟩,
           ⟨none, (some 70), .mov (.t 2)⟩,
           ⟨none, (some 71), .call 39 [(.t 68), (.t 69), (.t 70)]⟩])
         (.cond (.t 71)
          (.seq (.ops [
            ⟨none, (some 6), .mov (.c (.b true))⟩])
          (.ret))
          (.skip)))
        (.ops [
         ⟨none, (some 72), .fadr (.t 3) 5⟩,
         ⟨none, (some 73), .load (.t 72) 1 false⟩,
         ⟨none, (some 74), .mov (.t 8)⟩,
         ⟨none, (some 75), .idxS (.t 73) (.t 74) 8⟩,
         ⟨none, (some 76), .load (.t 75) 8 true⟩,
         ⟨none, (some 77), .mov (.t 1)⟩,
         ⟨none, (some 78), .mov (.t 2)⟩,
         ⟨none, (some 79), .call 75 [(.t 76), (.t 77), (.t 78)]⟩,
         ⟨none, (some 2), .mov (.t 79)⟩])))
       (.ops [
        ⟨none, (some 62), .mov (.t 8)⟩,
        ⟨none, (some 63), .bin .add (.t 62) (.c (.int .i64 1))⟩,
        ⟨none, (some 8), .mov (.t 63)⟩]))))))
     (.seq (.ops [
       ⟨none, (some 80), .mov (.t 2)⟩,
       ⟨none, (some 81), .mov (.t 7)⟩,
       ⟨none, (some 82), .idxS (.t 80) (.t 81) 1⟩,
       ⟨none, (some 83), .load (.t 82) 1 false⟩,
       ⟨none, (some 6), .mov (.t 83)⟩])
     (.ret))))
     (.seq (.ops [
       ⟨none, (some 85), .bin .eql (.t 15) (.c (.int .i64 3))⟩,
       ⟨none, (some 84), .mov (.t 85)⟩])
     (.cond (.t 84)
      (.seq (.seq (.ops [
         ⟨none, (some 9), .mov (.c (.int .i64 0))⟩])
       (.block 3 (.loop [1, 2, 3, 9] (
        .seq (.seq (.ops [
           ⟨none, (some 86), .mov (.t 9)⟩,
           ⟨none, (some 87), .fadr (.t 3) 5⟩,
           ⟨none, (some 88), .load (.t 87) 1 false⟩,
           ⟨none, (some 89), .len (.t 88)⟩,
           ⟨none, (some 90), .bin .lss (.t 86) (.t 89)⟩])
         (.cond (.t 90)
          (.skip)
          (.exit 3)))
        (.seq (.block 4 (.seq (.ops [
           ⟨none, (some 93), .fadr (.t 3) 5⟩,
           ⟨none, (some 94), .load (.t 93) 1 false⟩,
           ⟨none, (some 95), .mov (.t 9)⟩,
           ⟨none, (some 96), .idxS (.t 94) (.t 95) 8⟩,
           ⟨none, (some 97), .load (.t 96) 8 true⟩,
           ⟨none, (some 98), .mov (.t 1)⟩,
           ⟨none, (some 99), .mov (.t 2)⟩,
           ⟨none, (some 100), .call 39 [(.t 97), (.t 98), (.t 99)]⟩])
         (.cond (.t 100)
          (.seq (.ops [
            ⟨none, (some 6), .mov (.c (.b true))⟩])
          (.ret))
          (.skip))))
        (.ops [
         ⟨none, (some 91), .mov (.t 9)⟩,
         ⟨none, (some 92), .bin .add (.t 91) (.c (.int .i64 1))⟩,
         ⟨none, (some 9), .mov (.t 92)⟩]))))))
      (.seq (.ops [
        ⟨none, (some 6), .mov (.c (.b false))⟩])
      (.ret)))
      (.skip)))))))))))
 (.seq (.seq (.ops [
    ⟨none, (some 101), .load (.t 3) 8 true⟩,
    ⟨none, (some 102), .call 60 [(.t 101)]⟩])
  (.cond (.t 102)
   (.seq (.ops [
     ⟨none, (some 6), .mov (.c (.b false))⟩])
   (.ret))
   (.skip)))
 (.seq (.seq (.ops [
    ⟨none, (some 103), .mov (.t 2)⟩,
    ⟨none, (some 104), .mov (.t 7)⟩,
    ⟨none, (some 105), .idxS (.t 103) (.t 104) 1⟩,
    ⟨none, (some 106), .load (.t 105) 1 false⟩])
  (.cond (.t 106)
   (.seq (.ops [
     ⟨none, (some 6), .mov (.c (.b true))⟩])
   (.ret))
   (.skip)))
 (.seq (.ops [
   ⟨none, (some 107), .fadr (.t 3) 7⟩,
   ⟨none, (some 108), .load (.t 107) 1 false⟩,
   ⟨none, (some 10), .mov (.t 108)⟩])
 (.seq (.seq (.ops [
    ⟨none, (some 109), .mov (.t 10)⟩,
    ⟨none, (some 110), .bin .lss (.t 109) (.c (.int .i64 0))⟩])
  (.cond (.t 110)
   (.ops [
    ⟨none, (some 111), .fadr (.t 3) 6⟩,
    ⟨none, (some 112), .load (.t 111) 1 false⟩,
    ⟨none, (some 113), .mov (.t 7)⟩,
    ⟨none, (some 114), .bin .add (.t 112) (.t 113)⟩,
    ⟨none, (some 115), .bin .add (.t 114) (.c (.int .i64 1))⟩,
    ⟨none, (some 10), .mov (.t 115)⟩])
   (.skip)))
 (.seq (.seq (.ops [
    ⟨none, (some 11), .mov (.c (.int .i64 0))⟩])
  (.block 5 (.loop [1, 2, 3, 7, 10, 11] (
   .seq (.seq (.ops [
      ⟨none, (some 116), .mov (.t 11)⟩,
      ⟨none, (some 117), .mov (.t 10)⟩,
      ⟨none, (some 118), .bin .lss (.t 116) (.t 117)⟩])
    (.cond (.t 118)
     (.skip)
     (.exit 5)))
   (.seq (.block 6 (.seq (.seq (.ops [
       ⟨none, (some 121), .fadr (.t 3) 5⟩,
       ⟨none, (some 122), .load (.t 121) 1 false⟩,
       ⟨none, (some 123), .idxS (.t 122) (.c (.int .i64 0)) 8⟩,
       ⟨none, (some 124), .load (.t 123) 8 true⟩,
       ⟨none, (some 125), .mov (.t 1)⟩,
       ⟨none, (some 126), .mov (.t 2)⟩,
       ⟨none, (some 127), .call 39 [(.t 124), (.t 125), (.t 126)]⟩])
     (.cond (.t 127)
      (.seq (.ops [
        ⟨none, (some 6), .mov (.c (.b true))⟩])
      (.ret))
      (.skip)))
    (.ops [
     ⟨none, (some 128), .fadr (.t 3) 5⟩,
     ⟨none, (some 129), .load (.t 128) 1 false⟩,
     ⟨none, (some 130), .idxS (.t 129) (.c (.int .i64 0)) 8⟩,
     ⟨none, (some 131), .load (.t 130) 8 true⟩,
     ⟨none, (some 132), .mov (.t 1)⟩,
     ⟨none, (some 133), .mov (.t 2)⟩,
     ⟨none, (some 134), .call 75 [(.t 131), (.t 132), (.t 133)]⟩,
     ⟨none, (some 2), .mov (.t 134)⟩])))
   (.ops [
    ⟨none, (some 119), .mov (.t 11)⟩,
    ⟨none, (some 120), .bin .add (.t 119) (.c (.int .i64 1))⟩,
    ⟨none, (some 11), .mov (.t 120)⟩]))))))
 (.seq (.ops [
   ⟨none, (some 135), .mov (.t 2)⟩,
   ⟨none, (some 136), .mov (.t 7)⟩,
   ⟨none, (some 137), .idxS (.t 135) (.t 136) 1⟩,
   ⟨none, (some 138), .load (.t 137) 1 false⟩,
   ⟨none, (some 6), .mov (.t 138)⟩])
 (.ret)))))))))⟩
theorem rf39_eq : cfnAt Try.prog 39 [[1, 2, 3, 7, 8], [1, 2, 3, 9], [1, 2, 3, 7, 10, 11]] = some rf39 := by kernel_rfl
/-- hackle/hackleref04.At -/
def rf40 : RFn := ⟨2, 14, [.tmp 4],
 .seq (.ops [
   ⟨none, (some 4), .mov (.c (.isl 0 [] (some 0)))⟩])
 (.seq (.ops [
   ⟨none, (some 6), .mov (.t 0)⟩,
   ⟨none, (some 7), .lenStr (.t 6)⟩,
   ⟨none, (some 8), .bin .add (.t 7) (.c (.int .i64 1))⟩,
   ⟨none, (some 9), .mksl [(.b false)] 1 1 (.t 8) (.t 8)⟩,
   ⟨none, (some 5), .mov (.t 9)⟩])
 (.seq (.ops [
   ⟨none, (some 10), .mov (.t 5)⟩,
   ⟨none, (some 11), .mov (.t 1)⟩,
   ⟨none, (some 12), .idxS (.t 10) (.t 11) 1⟩,
   ⟨none, none, .store (.t 12) (.c (.b true)) 1⟩])
 (.seq (.ops [
   ⟨none, (some 13), .mov (.t 5)⟩,
   ⟨none, (some 4), .mov (.t 13)⟩])
 (.ret))))⟩
theorem rf40_eq : cfnAt Try.prog 40 [] = some rf40 := by kernel_rfl
/-- hackle/rx.Cat -/
def rf41 : RFn := ⟨1, 6, [.cell 2 8 true],
 .seq (.ops [
   ⟨none, (some 2), .alloc false [(.int .i64 0), (.int .u64 0), (.int .u64 0), (.int .u64 0), (.int .u64 0), (.isl 0 [] (some 0)), (.int .i64 0), (.int .i64 0)]⟩])
 (.seq (.ops [
   ⟨none, (some 3), .build [(.int .i64 0), (.int .u64 0), (.int .u64 0), (.int .u64 0), (.int .u64 0), (.isl 0 [] (some 0)), (.int .i64 0), (.int .i64 0)] []⟩,
   ⟨none, (some 4), .mov (.t 0)⟩,
   ⟨none, (some 5), .call 76 [(.c (.int .i64 2)), (.t 3), (.t 4)]⟩,
   ⟨none, none, .store (.t 2) (.t 5) 8⟩])
 (.ret))⟩
theorem rf41_eq : cfnAt Try.prog 41 [] = some rf41 := by kernel_rfl
/-- hackle/rx.Alt -/
def rf42 : RFn := ⟨1, 7, [.cell 2 8 true],
 .seq (.ops [
   ⟨none, (some 2), .alloc false [(.int .i64 0), (.int .u64 0), (.int .u64 0), (.int .u64 0), (.int .u64 0), (.isl 0 [] (some 0)), (.int .i64 0), (.int .i64 0)]⟩])
 (.seq (.ops [
   ⟨none, (some 3), .build [(.int .u64 0), (.int .u64 0), (.int .u64 0), (.int .u64 0)] []⟩,
   ⟨none, (some 4), .call 70 [(.t 3)]⟩,
   ⟨none, (some 5), .mov (.t 0)⟩,
   ⟨none, (some 6), .call 76 [(.c (.int .i64 3)), (.t 4), (.t 5)]⟩,
   ⟨none, none, .store (.t 2) (.t 6) 8⟩])
 (.ret))⟩
theorem rf42_eq : cfnAt Try.prog 42 [] = some rf42 := by kernel_rfl
/-- hackle/rx.Text -/
def rf43 : RFn := ⟨1, 22, [.cell 2 8 true],
 .seq (.ops [
   ⟨none, (some 2), .alloc false [(.int .i64 0), (.int .u64 0), (.int .u64 0), (.int .u64 0), (.int .u64 0), (.isl 0 [] (some 0)), (.int .i64 0), (.int .i64 0)]⟩])
 (.seq (.ops [
   ⟨none, (some 3), .mov (.c (.isl 0 [] (some 0)))⟩])
 (.seq (.seq (.ops [
    ⟨none, (some 5), .mov (.t 0)⟩,
    ⟨none, (some 6), .lenStr (.t 5)⟩,
    ⟨none, (some 7), .mov (.c (.int .i64 0))⟩])
  (.block 0 (.loop [0, 2, 3, 6, 7] (
   .seq (.ops [
     ⟨none, (some 8), .bin .lss (.t 7) (.t 6)⟩])
   (.seq (.cond (.t 8)
     (.skip)
     (.exit 0))
   (.seq (.block 1 (.seq (.ops [
      ⟨none, (some 9), .mov (.t 7)⟩,
      ⟨none, (some 4), .mov (.t 9)⟩])
    (.ops [
     ⟨none, (some 10), .mov (.t 3)⟩,
     ⟨none, (some 11), .mov (.t 0)⟩,
     ⟨none, (some 12), .mov (.t 4)⟩,
     ⟨none, (some 13), .idxStr (.t 11) (.t 12)⟩,
     ⟨none, (some 14), .bslice 1 [(.t 13)]⟩,
     ⟨none, (some 15), .call 77 [(.t 14)]⟩,
     ⟨none, (some 16), .call 70 [(.t 15)]⟩,
     ⟨none, (some 17), .bslice 8 [(.t 16)]⟩,
     ⟨none, (some 18), .app (.t 10) (.t 17) 8 80⟩,
     ⟨none, (some 3), .mov (.t 18)⟩])))
   (.ops [
    ⟨none, (some 19), .bin .add (.t 7) (.c (.int .i64 1))⟩,
    ⟨none, (some 7), .mov (.t 19)⟩])))))))
 (.seq (.ops [
   ⟨none, (some 20), .mov (.t 3)⟩,
   ⟨none, (some 21), .call 41 [(.t 20)]⟩,
   ⟨none, none, .store (.t 2) (.t 21) 8⟩])
 (.ret))))⟩
theorem rf43_eq : cfnAt Try.prog 43 [[0, 2, 3, 6, 7]] = some rf43 := by kernel_rfl
/-- hackle/hackleref04.Same -/
def rf44 : RFn := ⟨2, 60, [.tmp 4],
 .seq (.ops [
   ⟨none, (some 2), .box false (.t 0) 8⟩,
   ⟨none, (some 3), .box false (.t 1) 8⟩,
   ⟨none, (some 4), .mov (.c (.b false))⟩])
 (.seq (.seq (.ops [
    ⟨none, (some 6), .fadr (.t 2) 0⟩,
    ⟨none, (some 7), .load (.t 6) 1 false⟩,
    ⟨none, (some 8), .fadr (.t 3) 0⟩,
    ⟨none, (some 9), .load (.t 8) 1 false⟩,
    ⟨none, (some 10), .bin .neq (.t 7) (.t 9)⟩,
    ⟨none, (some 11), .mov (.t 10)⟩,
    ⟨(some (11, false)), (some 12), .fadr (.t 2) 1⟩,
    ⟨(some (11, false)), (some 13), .load (.t 12) 4 true⟩,
    ⟨(some (11, false)), (some 14), .fadr (.t 3) 1⟩,
    ⟨(some (11, false)), (some 15), .load (.t 14) 4 true⟩,
    ⟨(some (11, false)), (some 16), .cmpa true [(.int .u64), (.int .u64), (.int .u64), (.int .u64)] (.t 13) (.t 15)⟩,
    ⟨none, (some 17), .pick (.t 11) (.c (.b true)) (.t 16)⟩,
    ⟨none, (some 18), .mov (.t 17)⟩,
    ⟨(some (18, false)), (some 19), .fadr (.t 2) 6⟩,
    ⟨(some (18, false)), (some 20), .load (.t 19) 1 false⟩,
    ⟨(some (18, false)), (some 21), .fadr (.t 3) 6⟩,
    ⟨(some (18, false)), (some 22), .load (.t 21) 1 false⟩,
    ⟨(some (18, false)), (some 23), .bin .neq (.t 20) (.t 22)⟩,
    ⟨none, (some 24), .pick (.t 18) (.c (.b true)) (.t 23)⟩,
    ⟨none, (some 25), .mov (.t 24)⟩,
    ⟨(some (25, false)), (some 26), .fadr (.t 2) 7⟩,
    ⟨(some (25, false)), (some 27), .load (.t 26) 1 false⟩,
    ⟨(some (25, false)), (some 28), .fadr (.t 3) 7⟩,
    ⟨(some (25, false)), (some 29), .load (.t 28) 1 false⟩,
    ⟨(some (25, false)), (some 30), .bin .neq (.t 27) (.t 29)⟩,
    ⟨none, (some 31), .pick (.t 25) (.c (.b true)) (.t 30)⟩,
    ⟨none, (some 32), .mov (.t 31)⟩,
    ⟨(some (32, false)), (some 33), .fadr (.t 2) 5⟩,
    ⟨(some (32, false)), (some 34), .load (.t 33) 1 false⟩,
    ⟨(some (32, false)), (some 35), .len (.t 34)⟩,
    ⟨(some (32, false)), (some 36), .fadr (.t 3) 5⟩,
    ⟨(some (32, false)), (some 37), .load (.t 36) 1 false⟩,
    ⟨(some (32, false)), (some 38), .len (.t 37)⟩,
    ⟨(some (32, false)), (some 39), .bin .neq (.t 35) (.t 38)⟩,
    ⟨none, (some 40), .pick (.t 32) (.c (.b true)) (.t 39)⟩])
  (.cond (.t 40)
   (.seq (.ops [
     ⟨none, (some 4), .mov (.c (.b false))⟩])
   (.ret))
   (.skip)))
 (.seq (.seq (.ops [
    ⟨none, (some 5), .mov (.c (.int .i64 0))⟩])
  (.block 0 (.loop [2, 3, 5] (
   .seq (.seq (.ops [
      ⟨none, (some 41), .mov (.t 5)⟩,
      ⟨none, (some 42), .fadr (.t 2) 5⟩,
      ⟨none, (some 43), .load (.t 42) 1 false⟩,
      ⟨none, (some 44), .len (.t 43)⟩,
      ⟨none, (some 45), .bin .lss (.t 41) (.t 44)⟩])
    (.cond (.t 45)
     (.skip)
     (.exit 0)))
   (.seq (.block 1 (.seq (.draw (
      .take ⟨none, (some 48), .fadr (.t 2) 5⟩ <|
      .take ⟨none, (some 49), .load (.t 48) 1 false⟩ <|
      .take ⟨none, (some 50), .mov (.t 5)⟩ <|
      .take ⟨none, (some 51), .idxS (.t 49) (.t 50) 8⟩ <|
      .take ⟨none, (some 52), .load (.t 51) 8 true⟩ <|
      .take ⟨none, (some 53), .fadr (.t 3) 5⟩ <|
      .take ⟨none, (some 54), .load (.t 53) 1 false⟩ <|
      .take ⟨none, (some 55), .mov (.t 5)⟩ <|
      .take ⟨none, (some 56), .idxS (.t 54) (.t 55) 8⟩ <|
      .take ⟨none, (some 57), .load (.t 56) 8 true⟩ <|
      .alt ⟨none, (some 58), .call 44 [(.t 52), (.t 57)]⟩ true (
       .take ⟨none, (some 59), .un .not (.t 58)⟩ <|
       .done)
       (.noalt)))
    (.cond (.t 59)
     (.seq (.ops [
       ⟨none, (some 4), .mov (.c (.b false))⟩])
     (.ret))
     (.skip))))
   (.ops [
    ⟨none, (some 46), .mov (.t 5)⟩,
    ⟨none, (some 47), .bin .add (.t 46) (.c (.int .i64 1))⟩,
    ⟨none, (some 5), .mov (.t 47)⟩]))))))
 (.seq (.ops [
   ⟨none, (some 4), .mov (.c (.b true))⟩])
 (.ret))))⟩
theorem rf44_eq : cfnAt Try.prog 44 [[2, 3, 5]] = some rf44 := by kernel_rfl
/-- hackle/hacklelaw04.made -/
def rf45 : RFn := ⟨3, 20, [.cell 6 8 true],
 .seq (.ops [
   ⟨none, (some 4), .box false (.t 1) 8⟩,
   ⟨none, (some 6), .alloc false [(.int .i64 0), (.int .u64 0), (.int .u64 0), (.int .u64 0), (.int .u64 0), (.isl 0 [] (some 0)), (.int .i64 0), (.int .i64 0)]⟩])
 (.seq (.seq (.ops [
    ⟨none, (some 7), .mov (.t 2)⟩,
    ⟨none, (some 8), .len (.t 7)⟩,
    ⟨none, (some 9), .bin .eql (.t 8) (.c (.int .i64 0))⟩])
  (.cond (.t 9)
   (.seq (.ops [
     ⟨none, (some 10), .load (.t 4) 8 true⟩,
     ⟨none, none, .store (.t 6) (.t 10) 8⟩])
   (.ret))
   (.skip)))
 (.seq (.seq (.ops [
    ⟨none, (some 11), .mov (.t 2)⟩,
    ⟨none, (some 12), .len (.t 11)⟩,
    ⟨none, (some 13), .bin .eql (.t 12) (.c (.int .i64 1))⟩])
  (.cond (.t 13)
   (.seq (.ops [
     ⟨none, (some 14), .mov (.t 2)⟩,
     ⟨none, (some 15), .idxS (.t 14) (.c (.int .i64 0)) 8⟩,
     ⟨none, (some 16), .load (.t 15) 8 true⟩,
     ⟨none, none, .store (.t 6) (.t 16) 8⟩])
   (.ret))
   (.skip)))
 (.seq (.ops [
   ⟨none, (some 17), .mov (.t 0)⟩,
   ⟨none, (some 18), .mov (.t 2)⟩,
   ⟨none, (some 19), .build [(.int .i64 0), (.int .u64 0), (.int .u64 0), (.int .u64 0), (.int .u64 0), (.isl 0 [] (some 0)), (.int .i64 0), (.int .i64 0)] [(0, 1, (.t 17)), (5, 1, (.t 18))]⟩,
   ⟨none, none, .store (.t 6) (.t 19) 8⟩])
 (.ret))))⟩
theorem rf45_eq : cfnAt Try.prog 45 [] = some rf45 := by kernel_rfl
/-- hackle/rx.Rep -/
def rf46 : RFn := ⟨3, 13, [.cell 6 8 true],
 .seq (.ops [
   ⟨none, (some 3), .box false (.t 0) 8⟩,
   ⟨none, (some 6), .alloc false [(.int .i64 0), (.int .u64 0), (.int .u64 0), (.int .u64 0), (.int .u64 0), (.isl 0 [] (some 0)), (.int .i64 0), (.int .i64 0)]⟩])
 (.seq (.ops [
   ⟨none, (some 7), .load (.t 3) 8 true⟩,
   ⟨none, (some 8), .bslice 8 [(.t 7)]⟩,
   ⟨none, (some 9), .mov (.t 1)⟩,
   ⟨none, (some 10), .mov (.t 2)⟩,
   ⟨none, (some 11), .build [(.int .i64 0), (.int .u64 0), (.int .u64 0), (.int .u64 0), (.int .u64 0), (.isl 0 [] (some 0)), (.int .i64 0), (.int .i64 0)] [(0, 1, (.c (.int .i64 4))), (5, 1, (.t 8)), (6, 1, (.t 9)), (7, 1, (.t 10))]⟩,
   ⟨none, (some 12), .call 78 [(.t 11)]⟩,
   ⟨none, none, .store (.t 6) (.t 12) 8⟩])
 (.ret))⟩
theorem rf46_eq : cfnAt Try.prog 46 [] = some rf46 := by kernel_rfl
/-- hackle/hackleref04.Takes -/
def rf47 : RFn := ⟨2, 14, [.tmp 4],
 .seq (.ops [
   ⟨none, (some 2), .box false (.t 0) 8⟩,
   ⟨none, (some 4), .mov (.c (.b false))⟩])
 (.seq (.draw (
   .take ⟨none, (some 5), .load (.t 2) 8 true⟩ <|
   .take ⟨none, (some 6), .mov (.t 1)⟩ <|
   .take ⟨none, (some 7), .mov (.t 1)⟩ <|
   .take ⟨none, (some 10), .mov (.t 1)⟩ <|
   .take ⟨none, (some 11), .lenStr (.t 10)⟩ <|
   .alt ⟨none, (some 8), .call 40 [(.t 7), (.c (.int .i64 0))]⟩ false (
    .alt ⟨none, (some 9), .call 75 [(.t 5), (.t 6), (.t 8)]⟩ false (
     .take ⟨none, (some 12), .idxS (.t 9) (.t 11) 1⟩ <|
     .take ⟨none, (some 13), .load (.t 12) 1 false⟩ <|
     .take ⟨none, (some 4), .mov (.t 13)⟩ <|
     .done)
     (.noalt))
    (.noalt)))
 (.ret))⟩
theorem rf47_eq : cfnAt Try.prog 47 [] = some rf47 := by kernel_rfl
/-- hackle/hackleref04.Nodes -/
def rf48 : RFn := ⟨1, 21, [.tmp 2],
 .seq (.ops [
   ⟨none, (some 1), .box false (.t 0) 8⟩,
   ⟨none, (some 2), .mov (.c (.int .i64 0))⟩])
 (.seq (.ops [
   ⟨none, (some 3), .mov (.c (.int .i64 1))⟩])
 (.seq (.seq (.ops [
    ⟨none, (some 4), .mov (.c (.int .i64 0))⟩])
  (.block 0 (.loop [1, 3, 4] (
   .seq (.seq (.ops [
      ⟨none, (some 5), .mov (.t 4)⟩,
      ⟨none, (some 6), .fadr (.t 1) 5⟩,
      ⟨none, (some 7), .load (.t 6) 1 false⟩,
      ⟨none, (some 8), .len (.t 7)⟩,
      ⟨none, (some 9), .bin .lss (.t 5) (.t 8)⟩])
    (.cond (.t 9)
     (.skip)
     (.exit 0)))
   (.seq (.block 1 (.ops [
     ⟨none, (some 12), .mov (.t 3)⟩,
     ⟨none, (some 13), .fadr (.t 1) 5⟩,
     ⟨none, (some 14), .load (.t 13) 1 false⟩,
     ⟨none, (some 15), .mov (.t 4)⟩,
     ⟨none, (some 16), .idxS (.t 14) (.t 15) 8⟩,
     ⟨none, (some 17), .load (.t 16) 8 true⟩,
     ⟨none, (some 18), .call 48 [(.t 17)]⟩,
     ⟨none, (some 19), .bin .add (.t 12) (.t 18)⟩,
     ⟨none, (some 3), .mov (.t 19)⟩]))
   (.ops [
    ⟨none, (some 10), .mov (.t 4)⟩,
    ⟨none, (some 11), .bin .add (.t 10) (.c (.int .i64 1))⟩,
    ⟨none, (some 4), .mov (.t 11)⟩]))))))
 (.seq (.ops [
   ⟨none, (some 20), .mov (.t 3)⟩,
   ⟨none, (some 2), .mov (.t 20)⟩])
 (.ret))))⟩
theorem rf48_eq : cfnAt Try.prog 48 [[1, 3, 4]] = some rf48 := by kernel_rfl
/-- hackle/rx.Last -/
def rf49 : RFn := ⟨1, 12, [.cell 2 4 true],
 .seq (.ops [
   ⟨none, (some 1), .box false (.t 0) 8⟩,
   ⟨none, (some 2), .alloc true [(.int .u64 0), (.int .u64 0), (.int .u64 0), (.int .u64 0)]⟩])
 (.seq (.ops [
   ⟨none, (some 6), .load (.t 1) 8 true⟩,
   ⟨none, (some 7), .call 74 [(.t 6)]⟩,
   ⟨none, (some 5), .mov (.t 7)⟩,
   ⟨none, (some 8), .ext (.t 5) 0⟩,
   ⟨none, (some 9), .ext (.t 5) 1⟩,
   ⟨none, (some 3), .alloc false [(.b false), (.b false), (.int .u64 0), (.int .u64 0), (.int .u64 0), (.int .u64 0), (.int .u64 0), (.int .u64 0), (.int .u64 0), (.int .u64 0)]⟩,
   ⟨none, none, .store (.t 3) (.t 8) 10⟩,
   ⟨none, (some 4), .mov (.t 9)⟩])
 (.seq (.ops [
   ⟨none, (some 10), .fadr (.t 3) 6⟩,
   ⟨none, (some 11), .load (.t 10) 4 true⟩,
   ⟨none, none, .store (.t 2) (.t 11) 4⟩])
 (.ret)))⟩
theorem rf49_eq : cfnAt Try.prog 49 [] = some rf49 := by kernel_rfl
/-- hackle/rx.Void -/
def rf50 : RFn := ⟨1, 12, [.tmp 2],
 .seq (.ops [
   ⟨none, (some 1), .box false (.t 0) 8⟩,
   ⟨none, (some 2), .mov (.c (.b false))⟩])
 (.seq (.ops [
   ⟨none, (some 6), .load (.t 1) 8 true⟩,
   ⟨none, (some 7), .call 74 [(.t 6)]⟩,
   ⟨none, (some 5), .mov (.t 7)⟩,
   ⟨none, (some 8), .ext (.t 5) 0⟩,
   ⟨none, (some 9), .ext (.t 5) 1⟩,
   ⟨none, (some 3), .alloc false [(.b false), (.b false), (.int .u64 0), (.int .u64 0), (.int .u64 0), (.int .u64 0), (.int .u64 0), (.int .u64 0), (.int .u64 0), (.int .u64 0)]⟩,
   ⟨none, none, .store (.t 3) (.t 8) 10⟩,
   ⟨none, (some 4), .mov (.t 9)⟩])
 (.seq (.ops [
   ⟨none, (some 10), .fadr (.t 3) 0⟩,
   ⟨none, (some 11), .load (.t 10) 1 false⟩,
   ⟨none, (some 2), .mov (.t 11)⟩])
 (.ret)))⟩
theorem rf50_eq : cfnAt Try.prog 50 [] = some rf50 := by kernel_rfl
/-- hackle/hacklelaw04.Great -/
def rf51 : RFn := ⟨1, 6, [.tmp 2],
 .seq (.ops [
   ⟨none, (some 1), .box false (.t 0) 8⟩,
   ⟨none, (some 2), .mov (.c (.b false))⟩])
 (.seq (.ops [
   ⟨none, (some 3), .load (.t 1) 8 true⟩,
   ⟨none, (some 4), .call 48 [(.t 3)]⟩,
   ⟨none, (some 5), .bin .gtr (.t 4) (.c (.int .i64 400))⟩,
   ⟨none, (some 2), .mov (.t 5)⟩])
 (.ret))⟩
theorem rf51_eq : cfnAt Try.prog 51 [] = some rf51 := by kernel_rfl
/-- hackle/rx.May -/
def rf52 : RFn := ⟨1, 18, [.tmp 2],
 .seq (.ops [
   ⟨none, (some 1), .box false (.t 0) 8⟩,
   ⟨none, (some 2), .mov (.c (.b false))⟩])
 (.seq (.ops [
   ⟨none, (some 4), .load (.t 1) 8 true⟩,
   ⟨none, (some 5), .call 79 [(.t 4)]⟩,
   ⟨none, (some 3), .alloc false [(.int .i64 0), (.int .i64 0)]⟩,
   ⟨none, none, .store (.t 3) (.t 5) 2⟩])
 (.seq (.ops [
   ⟨none, (some 6), .fadr (.t 3) 0⟩,
   ⟨none, (some 7), .load (.t 6) 1 false⟩,
   ⟨none, (some 8), .bin .leq (.t 7) (.c (.int .i64 300))⟩,
   ⟨none, (some 9), .mov (.t 8)⟩,
   ⟨(some (9, true)), (some 10), .fadr (.t 3) 1⟩,
   ⟨(some (9, true)), (some 11), .load (.t 10) 1 false⟩,
   ⟨(some (9, true)), (some 12), .bin .leq (.t 11) (.c (.int .i64 30))⟩,
   ⟨none, (some 13), .pick (.t 9) (.t 12) (.c (.b false))⟩,
   ⟨none, (some 14), .mov (.t 13)⟩,
   ⟨(some (14, true)), (some 15), .load (.t 1) 8 true⟩,
   ⟨(some (14, true)), (some 16), .call 80 [(.t 15)]⟩,
   ⟨none, (some 17), .pick (.t 14) (.t 16) (.c (.b false))⟩,
   ⟨none, (some 2), .mov (.t 17)⟩])
 (.ret)))⟩
theorem rf52_eq : cfnAt Try.prog 52 [] = some rf52 := by kernel_rfl
/-- hackle/rx.Nodes -/
def rf53 : RFn := ⟨1, 6, [.tmp 2],
 .seq (.ops [
   ⟨none, (some 1), .box false (.t 0) 8⟩,
   ⟨none, (some 2), .mov (.c (.int .i64 0))⟩])
 (.seq (.ops [
   ⟨none, (some 3), .load (.t 1) 8 true⟩,
   ⟨none, (some 4), .call 79 [(.t 3)]⟩,
   ⟨none, (some 5), .fld (.t 4) 0 1 false⟩,
   ⟨none, (some 2), .mov (.t 5)⟩])
 (.ret))⟩
theorem rf53_eq : cfnAt Try.prog 53 [] = some rf53 := by kernel_rfl
/-- hackle/rx.Deep -/
def rf54 : RFn := ⟨1, 6, [.tmp 2],
 .seq (.ops [
   ⟨none, (some 1), .box false (.t 0) 8⟩,
   ⟨none, (some 2), .mov (.c (.int .i64 0))⟩])
 (.seq (.ops [
   ⟨none, (some 3), .load (.t 1) 8 true⟩,
   ⟨none, (some 4), .call 79 [(.t 3)]⟩,
   ⟨none, (some 5), .fld (.t 4) 1 1 false⟩,
   ⟨none, (some 2), .mov (.t 5)⟩])
 (.ret))⟩
theorem rf54_eq : cfnAt Try.prog 54 [] = some rf54 := by kernel_rfl
/-- hackle/hackleref04.Deep -/
def rf55 : RFn := ⟨1, 25, [.tmp 2],
 .seq (.ops [
   ⟨none, (some 1), .box false (.t 0) 8⟩,
   ⟨none, (some 2), .mov (.c (.int .i64 0))⟩])
 (.seq (.ops [
   ⟨none, (some 3), .mov (.c (.int .i64 0))⟩])
 (.seq (.seq (.ops [
    ⟨none, (some 4), .mov (.c (.int .i64 0))⟩])
  (.block 0 (.loop [1, 3, 4] (
   .seq (.seq (.ops [
      ⟨none, (some 6), .mov (.t 4)⟩,
      ⟨none, (some 7), .fadr (.t 1) 5⟩,
      ⟨none, (some 8), .load (.t 7) 1 false⟩,
      ⟨none, (some 9), .len (.t 8)⟩,
      ⟨none, (some 10), .bin .lss (.t 6) (.t 9)⟩])
    (.cond (.t 10)
     (.skip)
     (.exit 0)))
   (.seq (.block 1 (.seq (.ops [
      ⟨none, (some 13), .fadr (.t 1) 5⟩,
      ⟨none, (some 14), .load (.t 13) 1 false⟩,
      ⟨none, (some 15), .mov (.t 4)⟩,
      ⟨none, (some 16), .idxS (.t 14) (.t 15) 8⟩,
      ⟨none, (some 17), .load (.t 16) 8 true⟩,
      ⟨none, (some 18), .call 55 [(.t 17)]⟩,
      ⟨none, (some 5), .mov (.t 18)⟩])
    (.seq (.ops [
      ⟨none, (some 19), .mov (.t 5)⟩,
      ⟨none, (some 20), .mov (.t 3)⟩,
      ⟨none, (some 21), .bin .gtr (.t 19) (.t 20)⟩])
    (.cond (.t 21)
     (.ops [
      ⟨none, (some 22), .mov (.t 5)⟩,
      ⟨none, (some 3), .mov (.t 22)⟩])
     (.skip)))))
   (.ops [
    ⟨none, (some 11), .mov (.t 4)⟩,
    ⟨none, (some 12), .bin .add (.t 11) (.c (.int .i64 1))⟩,
    ⟨none, (some 4), .mov (.t 12)⟩]))))))
 (.seq (.ops [
   ⟨none, (some 23), .mov (.t 3)⟩,
   ⟨none, (some 24), .bin .add (.t 23) (.c (.int .i64 1))⟩,
   ⟨none, (some 2), .mov (.t 24)⟩])
 (.ret))))⟩
theorem rf55_eq : cfnAt Try.prog 55 [[1, 3, 4]] = some rf55 := by kernel_rfl
/-- hackle/rx.Same -/
def rf56 : RFn := ⟨2, 17, [.tmp 4],
 .seq (.ops [
   ⟨none, (some 2), .box false (.t 0) 8⟩,
   ⟨none, (some 3), .box false (.t 1) 8⟩,
   ⟨none, (some 4), .mov (.c (.b false))⟩])
 (.seq (.draw (
   .take ⟨none, (some 5), .load (.t 2) 8 true⟩ <|
   .take ⟨none, (some 7), .load (.t 3) 8 true⟩ <|
   .alt ⟨none, (some 6), .call 81 [(.t 5)]⟩ false (
    .alt ⟨none, (some 8), .call 81 [(.t 7)]⟩ true (
     .take ⟨none, (some 9), .cmpa false [(.int .i64), (.int .i64), (.int .i64), (.int .i64), (.int .u64), (.int .u64), (.int .u64), (.int .u64)] (.t 6) (.t 8)⟩ <|
     .take ⟨none, (some 10), .mov (.t 9)⟩ <|
     .take ⟨(some (10, true)), (some 11), .fadr (.t 2) 5⟩ <|
     .take ⟨(some (10, true)), (some 12), .load (.t 11) 1 false⟩ <|
     .take ⟨(some (10, true)), (some 13), .fadr (.t 3) 5⟩ <|
     .take ⟨(some (10, true)), (some 14), .load (.t 13) 1 false⟩ <|
     .alt ⟨(some (10, true)), (some 15), .call 82 [(.t 12), (.t 14), (.c (.fn 56 [] []))]⟩ true (
      .take ⟨none, (some 16), .pick (.t 10) (.t 15) (.c (.b false))⟩ <|
      .take ⟨none, (some 4), .mov (.t 16)⟩ <|
      .done)
      (.noalt))
     (.noalt))
    (.noalt)))
 (.ret))⟩
theorem rf56_eq : cfnAt Try.prog 56 [] = some rf56 := by kernel_rfl
/-- hackle/rx.Sets -/
def rf57 : RFn := ⟨1, 28, [.tmp 2],
 .seq (.ops [
   ⟨none, (some 1), .box false (.t 0) 8⟩,
   ⟨none, (some 2), .mov (.c (.isl 0 [] (some 0)))⟩])
 (.seq (.seq (.ops [
    ⟨none, (some 6), .load (.t 1) 8 true⟩,
    ⟨none, (some 7), .call 52 [(.t 6)]⟩,
    ⟨none, (some 8), .un .not (.t 7)⟩])
  (.cond (.t 8)
   (.seq (.ops [
     ⟨none, (some 2), .mov (.c (.isl 0 [] (some 0)))⟩])
   (.ret))
   (.skip)))
 (.seq (.seq (.ops [
    ⟨none, (some 9), .fadr (.t 1) 0⟩,
    ⟨none, (some 10), .load (.t 9) 1 false⟩,
    ⟨none, (some 11), .bin .eql (.t 10) (.c (.int .i64 1))⟩])
  (.cond (.t 11)
   (.seq (.ops [
     ⟨none, (some 12), .fadr (.t 1) 1⟩,
     ⟨none, (some 13), .load (.t 12) 4 true⟩,
     ⟨none, (some 14), .bslice 4 [(.t 13)]⟩,
     ⟨none, (some 2), .mov (.t 14)⟩])
   (.ret))
   (.skip)))
 (.seq (.ops [
   ⟨none, (some 3), .mov (.c (.isl 0 [] (some 0)))⟩])
 (.seq (.seq (.ops [
    ⟨none, (some 15), .fadr (.t 1) 5⟩,
    ⟨none, (some 16), .load (.t 15) 1 false⟩,
    ⟨none, (some 17), .len (.t 16)⟩,
    ⟨none, (some 18), .mov (.c (.int .i64 0))⟩])
  (.block 0 (.loop [3, 16, 17, 18] (
   .seq (.ops [
     ⟨none, (some 19), .bin .lss (.t 18) (.t 17)⟩])
   (.seq (.cond (.t 19)
     (.skip)
     (.exit 0))
   (.seq (.block 1 (.seq (.ops [
      ⟨none, (some 20), .idxS (.t 16) (.t 18) 8⟩,
      ⟨none, (some 21), .load (.t 20) 8 true⟩,
      ⟨none, (some 5), .alloc false [(.int .i64 0), (.int .u64 0), (.int .u64 0), (.int .u64 0), (.int .u64 0), (.isl 0 [] (some 0)), (.int .i64 0), (.int .i64 0)]⟩,
      ⟨none, none, .store (.t 5) (.t 21) 8⟩])
    (.ops [
     ⟨none, (some 22), .mov (.t 3)⟩,
     ⟨none, (some 23), .load (.t 5) 8 true⟩,
     ⟨none, (some 24), .call 57 [(.t 23)]⟩,
     ⟨none, (some 25), .app (.t 22) (.t 24) 4 32⟩,
     ⟨none, (some 3), .mov (.t 25)⟩])))
   (.ops [
    ⟨none, (some 26), .bin .add (.t 18) (.c (.int .i64 1))⟩,
    ⟨none, (some 18), .mov (.t 26)⟩])))))))
 (.seq (.ops [
   ⟨none, (some 27), .mov (.t 3)⟩,
   ⟨none, (some 2), .mov (.t 27)⟩])
 (.ret))))))⟩
theorem rf57_eq : cfnAt Try.prog 57 [[3, 16, 17, 18]] = some rf57 := by kernel_rfl
/-- hackle/rx.Empty -/
def rf58 : RFn := ⟨1, 12, [.tmp 2],
 .seq (.ops [
   ⟨none, (some 1), .box false (.t 0) 8⟩,
   ⟨none, (some 2), .mov (.c (.b false))⟩])
 (.seq (.ops [
   ⟨none, (some 6), .load (.t 1) 8 true⟩,
   ⟨none, (some 7), .call 74 [(.t 6)]⟩,
   ⟨none, (some 5), .mov (.t 7)⟩,
   ⟨none, (some 8), .ext (.t 5) 0⟩,
   ⟨none, (some 9), .ext (.t 5) 1⟩,
   ⟨none, (some 3), .alloc false [(.b false), (.b false), (.int .u64 0), (.int .u64 0), (.int .u64 0), (.int .u64 0), (.int .u64 0), (.int .u64 0), (.int .u64 0), (.int .u64 0)]⟩,
   ⟨none, none, .store (.t 3) (.t 8) 10⟩,
   ⟨none, (some 4), .mov (.t 9)⟩])
 (.seq (.ops [
   ⟨none, (some 10), .fadr (.t 3) 1⟩,
   ⟨none, (some 11), .load (.t 10) 1 false⟩,
   ⟨none, (some 2), .mov (.t 11)⟩])
 (.ret)))⟩
theorem rf58_eq : cfnAt Try.prog 58 [] = some rf58 := by kernel_rfl
/-- hackle/hackleref04.Sets -/
def rf59 : RFn := ⟨1, 27, [.tmp 2],
 .seq (.ops [
   ⟨none, (some 1), .box false (.t 0) 8⟩,
   ⟨none, (some 2), .mov (.c (.isl 0 [] (some 0)))⟩])
 (.seq (.seq (.ops [
    ⟨none, (some 5), .fadr (.t 1) 0⟩,
    ⟨none, (some 6), .load (.t 5) 1 false⟩,
    ⟨none, (some 7), .bin .eql (.t 6) (.c (.int .i64 1))⟩])
  (.cond (.t 7)
   (.seq (.ops [
     ⟨none, (some 8), .fadr (.t 1) 1⟩,
     ⟨none, (some 9), .load (.t 8) 4 true⟩,
     ⟨none, (some 10), .bslice 4 [(.t 9)]⟩,
     ⟨none, (some 2), .mov (.t 10)⟩])
   (.ret))
   (.skip)))
 (.seq (.ops [
   ⟨none, (some 3), .mov (.c (.isl 0 [] (some 0)))⟩])
 (.seq (.seq (.ops [
    ⟨none, (some 4), .mov (.c (.int .i64 0))⟩])
  (.block 0 (.loop [1, 3, 4] (
   .seq (.seq (.ops [
      ⟨none, (some 11), .mov (.t 4)⟩,
      ⟨none, (some 12), .fadr (.t 1) 5⟩,
      ⟨none, (some 13), .load (.t 12) 1 false⟩,
      ⟨none, (some 14), .len (.t 13)⟩,
      ⟨none, (some 15), .bin .lss (.t 11) (.t 14)⟩])
    (.cond (.t 15)
     (.skip)
     (.exit 0)))
   (.seq (.block 1 (.ops [
     ⟨none, (some 18), .mov (.t 3)⟩,
     ⟨none, (some 19), .fadr (.t 1) 5⟩,
     ⟨none, (some 20), .load (.t 19) 1 false⟩,
     ⟨none, (some 21), .mov (.t 4)⟩,
     ⟨none, (some 22), .idxS (.t 20) (.t 21) 8⟩,
     ⟨none, (some 23), .load (.t 22) 8 true⟩,
     ⟨none, (some 24), .call 59 [(.t 23)]⟩,
     ⟨none, (some 25), .app (.t 18) (.t 24) 4 32⟩,
     ⟨none, (some 3), .mov (.t 25)⟩]))
   (.ops [
    ⟨none, (some 16), .mov (.t 4)⟩,
    ⟨none, (some 17), .bin .add (.t 16) (.c (.int .i64 1))⟩,
    ⟨none, (some 4), .mov (.t 17)⟩]))))))
 (.seq (.ops [
   ⟨none, (some 26), .mov (.t 3)⟩,
   ⟨none, (some 2), .mov (.t 26)⟩])
 (.ret)))))⟩
theorem rf59_eq : cfnAt Try.prog 59 [[1, 3, 4]] = some rf59 := by kernel_rfl
/-- hackle/hackleref04.Void -/
def rf60 : RFn := ⟨1, 56, [.tmp 2],
 .seq (.ops [
   ⟨none, (some 1), .box false (.t 0) 8⟩,
   ⟨none, (some 2), .mov (.c (.b false))⟩])
 (.seq (.seq (.ops [
    ⟨none, (some 5), .fadr (.t 1) 0⟩,
    ⟨none, (some 6), .load (.t 5) 1 false⟩])
  (.block 0 (.seq (.ops [
    ⟨none, (some 8), .bin .eql (.t 6) (.c (.int .i64 0))⟩,
    ⟨none, (some 7), .mov (.t 8)⟩])
  (.cond (.t 7)
   (.seq (.ops [
     ⟨none, (some 2), .mov (.c (.b false))⟩])
   (.ret))
   (.seq (.ops [
     ⟨none, (some 10), .bin .eql (.t 6) (.c (.int .i64 1))⟩,
     ⟨none, (some 9), .mov (.t 10)⟩])
   (.cond (.t 9)
    (.seq (.ops [
      ⟨none, (some 11), .fadr (.t 1) 1⟩,
      ⟨none, (some 12), .load (.t 11) 4 true⟩,
      ⟨none, (some 13), .build [(.int .u64 0), (.int .u64 0), (.int .u64 0), (.int .u64 0)] []⟩,
      ⟨none, (some 14), .cmpa false [(.int .u64), (.int .u64), (.int .u64), (.int .u64)] (.t 12) (.t 13)⟩,
      ⟨none, (some 2), .mov (.t 14)⟩])
    (.ret))
    (.seq (.ops [
      ⟨none, (some 16), .bin .eql (.t 6) (.c (.int .i64 2))⟩,
      ⟨none, (some 15), .mov (.t 16)⟩])
    (.cond (.t 15)
     (.seq (.seq (.ops [
        ⟨none, (some 3), .mov (.c (.int .i64 0))⟩])
      (.block 1 (.loop [1, 3] (
       .seq (.seq (.ops [
          ⟨none, (some 17), .mov (.t 3)⟩,
          ⟨none, (some 18), .fadr (.t 1) 5⟩,
          ⟨none, (some 19), .load (.t 18) 1 false⟩,
          ⟨none, (some 20), .len (.t 19)⟩,
          ⟨none, (some 21), .bin .lss (.t 17) (.t 20)⟩])
        (.cond (.t 21)
         (.skip)
         (.exit 1)))
       (.seq (.block 2 (.seq (.ops [
          ⟨none, (some 24), .fadr (.t 1) 5⟩,
          ⟨none, (some 25), .load (.t 24) 1 false⟩,
          ⟨none, (some 26), .mov (.t 3)⟩,
          ⟨none, (some 27), .idxS (.t 25) (.t 26) 8⟩,
          ⟨none, (some 28), .load (.t 27) 8 true⟩,
          ⟨none, (some 29), .call 60 [(.t 28)]⟩])
        (.cond (.t 29)
         (.seq (.ops [
           ⟨none, (some 2), .mov (.c (.b true))⟩])
         (.ret))
         (.skip))))
       (.ops [
        ⟨none, (some 22), .mov (.t 3)⟩,
        ⟨none, (some 23), .bin .add (.t 22) (.c (.int .i64 1))⟩,
        ⟨none, (some 3), .mov (.t 23)⟩]))))))
     (.seq (.ops [
       ⟨none, (some 2), .mov (.c (.b false))⟩])
     (.ret)))
     (.seq (.ops [
       ⟨none, (some 31), .bin .eql (.t 6) (.c (.int .i64 3))⟩,
       ⟨none, (some 30), .mov (.t 31)⟩])
     (.cond (.t 30)
      (.seq (.seq (.ops [
         ⟨none, (some 4), .mov (.c (.int .i64 0))⟩])
       (.block 3 (.loop [1, 4] (
        .seq (.seq (.ops [
           ⟨none, (some 32), .mov (.t 4)⟩,
           ⟨none, (some 33), .fadr (.t 1) 5⟩,
           ⟨none, (some 34), .load (.t 33) 1 false⟩,
           ⟨none, (some 35), .len (.t 34)⟩,
           ⟨none, (some 36), .bin .lss (.t 32) (.t 35)⟩])
         (.cond (.t 36)
          (.skip)
          (.exit 3)))
        (.seq (.block 4 (.seq (.ops [
           ⟨none, (some 39), .fadr (.t 1) 5⟩,
           ⟨none, (some 40), .load (.t 39) 1 false⟩,
           ⟨none, (some 41), .mov (.t 4)⟩,
           ⟨none, (some 42), .idxS (.t 40) (.t 41) 8⟩,
           ⟨none, (some 43), .load (.t 42) 8 true⟩,
           ⟨none, (some 44), .call 60 [(.t 43)]⟩,
           ⟨none, (some 45), .un .not (.t 44)⟩])
         (.cond (.t 45)
          (.seq (.ops [
            ⟨none, (some 2), .mov (.c (.b false))⟩])
          (.ret))
          (.skip))))
        (.ops [
         ⟨none, (some 37), .mov (.t 4)⟩,
         ⟨none, (some 38), .bin .add (.t 37) (.c (.int .i64 1))⟩,
         ⟨none, (some 4), .mov (.t 38)⟩]))))))
      (.seq (.ops [
        ⟨none, (some 2), .mov (.c (.b true))⟩])
      (.ret)))
      (.skip)))))))))))
 (.seq (.ops [
   ⟨none, (some 46), .fadr (.t 1) 6⟩,
   ⟨none, (some 47), .load (.t 46) 1 false⟩,
   ⟨none, (some 48), .bin .gtr (.t 47) (.c (.int .i64 0))⟩,
   ⟨none, (some 49), .mov (.t 48)⟩,
   ⟨(some (49, true)), (some 50), .fadr (.t 1) 5⟩,
   ⟨(some (49, true)), (some 51), .load (.t 50) 1 false⟩,
   ⟨(some (49, true)), (some 52), .idxS (.t 51) (.c (.int .i64 0)) 8⟩,
   ⟨(some (49, true)), (some 53), .load (.t 52) 8 true⟩,
   ⟨(some (49, true)), (some 54), .call 60 [(.t 53)]⟩,
   ⟨none, (some 55), .pick (.t 49) (.t 54) (.c (.b false))⟩,
   ⟨none, (some 2), .mov (.t 55)⟩])
 (.ret)))⟩
theorem rf60_eq : cfnAt Try.prog 60 [[1, 3], [1, 4]] = some rf60 := by kernel_rfl
/-- hackle/rx.Byte -/
def rf70 : RFn := ⟨1, 5, [.cell 2 8 true],
 .seq (.ops [
   ⟨none, (some 1), .box true (.t 0) 4⟩,
   ⟨none, (some 2), .alloc false [(.int .i64 0), (.int .u64 0), (.int .u64 0), (.int .u64 0), (.int .u64 0), (.isl 0 [] (some 0)), (.int .i64 0), (.int .i64 0)]⟩])
 (.seq (.ops [
   ⟨none, (some 3), .load (.t 1) 4 true⟩,
   ⟨none, (some 4), .build [(.int .i64 0), (.int .u64 0), (.int .u64 0), (.int .u64 0), (.int .u64 0), (.isl 0 [] (some 0)), (.int .i64 0), (.int .i64 0)] [(0, 1, (.c (.int .i64 1))), (1, 4, (.t 3))]⟩,
   ⟨none, none, .store (.t 2) (.t 4) 8⟩])
 (.ret))⟩
theorem rf70_eq : cfnAt Try.prog 70 [] = some rf70 := by kernel_rfl
/-- hackle/hackleref01.Range -/
def rf71 : RFn := ⟨2, 17, [.cell 4 4 true],
 .seq (.ops [
   ⟨none, (some 4), .alloc true [(.int .u64 0), (.int .u64 0), (.int .u64 0), (.int .u64 0)]⟩])
 (.seq (.ops [
   ⟨none, (some 5), .alloc true (List.replicate 256 (.b false))⟩])
 (.seq (.seq (.ops [
    ⟨none, (some 7), .mov (.t 0)⟩,
    ⟨none, (some 6), .mov (.t 7)⟩])
  (.block 0 (.loop [1, 4, 5, 6] (
   .seq (.seq (.ops [
      ⟨none, (some 8), .mov (.t 6)⟩,
      ⟨none, (some 9), .mov (.t 1)⟩,
      ⟨none, (some 10), .bin .leq (.t 8) (.t 9)⟩])
    (.cond (.t 10)
     (.skip)
     (.exit 0)))
   (.seq (.block 1 (.ops [
     ⟨none, (some 13), .mov (.t 6)⟩,
     ⟨none, (some 14), .idxA (.t 5) (.t 13) 256 1⟩,
     ⟨none, none, .store (.t 14) (.c (.b true)) 1⟩]))
   (.ops [
    ⟨none, (some 11), .mov (.t 6)⟩,
    ⟨none, (some 12), .bin .add (.t 11) (.c (.int .i64 1))⟩,
    ⟨none, (some 6), .mov (.t 12)⟩]))))))
 (.seq (.ops [
   ⟨none, (some 15), .load (.t 5) 256 true⟩,
   ⟨none, (some 16), .call 86 [(.t 15)]⟩,
   ⟨none, none, .store (.t 4) (.t 16) 4⟩])
 (.ret))))⟩
theorem rf71_eq : cfnAt Try.prog 71 [[1, 4, 5, 6]] = some rf71 := by kernel_rfl
/-- hackle/hacklelaw04.weight -/
def rf72 : RFn := ⟨1, 51, [.tmp 2],
 .seq (.ops [
   ⟨none, (some 1), .box false (.t 0) 8⟩,
   ⟨none, (some 2), .mov (.c (.int .i64 0))⟩])
 (.seq (.ops [
   ⟨none, (some 3), .mov (.c (.int .i64 1))⟩])
 (.seq (.seq (.ops [
    ⟨none, (some 4), .mov (.c (.int .i64 0))⟩])
  (.block 0 (.loop [1, 3, 4, 25, 26, 27, 30, 31, 32, 43, 44, 45] (
   .seq (.seq (.ops [
      ⟨none, (some 5), .mov (.t 4)⟩,
      ⟨none, (some 6), .fadr (.t 1) 5⟩,
      ⟨none, (some 7), .load (.t 6) 1 false⟩,
      ⟨none, (some 8), .len (.t 7)⟩,
      ⟨none, (some 9), .bin .lss (.t 5) (.t 8)⟩])
    (.cond (.t 9)
     (.skip)
     (.exit 0)))
   (.seq (.block 1 (.ops [
     ⟨none, (some 12), .mov (.t 3)⟩,
     ⟨none, (some 13), .fadr (.t 1) 5⟩,
     ⟨none, (some 14), .load (.t 13) 1 false⟩,
     ⟨none, (some 15), .mov (.t 4)⟩,
     ⟨none, (some 16), .idxS (.t 14) (.t 15) 8⟩,
     ⟨none, (some 17), .load (.t 16) 8 true⟩,
     ⟨none, (some 18), .call 72 [(.t 17)]⟩,
     ⟨none, (some 19), .bin .add (.t 12) (.t 18)⟩,
     ⟨none, (some 20), .mm false (.t 19) (.c (.int .i64 1000000))⟩,
     ⟨none, (some 3), .mov (.t 20)⟩]))
   (.ops [
    ⟨none, (some 10), .mov (.t 4)⟩,
    ⟨none, (some 11), .bin .add (.t 10) (.c (.int .i64 1))⟩,
    ⟨none, (some 4), .mov (.t 11)⟩]))))))
 (.seq (.seq (.ops [
    ⟨none, (some 21), .fadr (.t 1) 0⟩,
    ⟨none, (some 22), .load (.t 21) 1 false⟩,
    ⟨none, (some 23), .bin .eql (.t 22) (.c (.int .i64 4))⟩,
    ⟨none, (some 24), .mov (.t 23)⟩,
    ⟨(some (24, true)), (some 25), .fadr (.t 1) 7⟩,
    ⟨(some (24, true)), (some 26), .load (.t 25) 1 false⟩,
    ⟨(some (24, true)), (some 27), .bin .gtr (.t 26) (.c (.int .i64 1))⟩,
    ⟨none, (some 28), .pick (.t 24) (.t 27) (.c (.b false))⟩,
    ⟨none, (some 29), .mov (.t 28)⟩,
    ⟨(some (29, true)), (some 30), .fadr (.t 1) 7⟩,
    ⟨(some (29, true)), (some 31), .load (.t 30) 1 false⟩,
    ⟨(some (29, true)), (some 32), .bin .leq (.t 31) (.c (.int .i64 64))⟩,
    ⟨none, (some 33), .pick (.t 29) (.t 32) (.c (.b false))⟩])
  (.cond (.t 33)
   (.ops [
    ⟨none, (some 34), .mov (.t 3)⟩,
    ⟨none, (some 35), .fadr (.t 1) 7⟩,
    ⟨none, (some 36), .load (.t 35) 1 false⟩,
    ⟨none, (some 37), .bin .mul (.t 34) (.t 36)⟩,
    ⟨none, (some 38), .mm false (.t 37) (.c (.int .i64 1000000))⟩,
    ⟨none, (some 3), .mov (.t 38)⟩])
   (.skip)))
 (.seq (.seq (.ops [
    ⟨none, (some 39), .fadr (.t 1) 0⟩,
    ⟨none, (some 40), .load (.t 39) 1 false⟩,
    ⟨none, (some 41), .bin .eql (.t 40) (.c (.int .i64 4))⟩,
    ⟨none, (some 42), .mov (.t 41)⟩,
    ⟨(some (42, true)), (some 43), .fadr (.t 1) 7⟩,
    ⟨(some (42, true)), (some 44), .load (.t 43) 1 false⟩,
    ⟨(some (42, true)), (some 45), .bin .lss (.t 44) (.c (.int .i64 0))⟩,
    ⟨none, (some 46), .pick (.t 42) (.t 45) (.c (.b false))⟩])
  (.cond (.t 46)
   (.ops [
    ⟨none, (some 47), .mov (.t 3)⟩,
    ⟨none, (some 48), .bin .mul (.t 47) (.c (.int .i64 70))⟩,
    ⟨none, (some 49), .mm false (.t 48) (.c (.int .i64 1000000))⟩,
    ⟨none, (some 3), .mov (.t 49)⟩])
   (.skip)))
 (.seq (.ops [
   ⟨none, (some 50), .mov (.t 3)⟩,
   ⟨none, (some 2), .mov (.t 50)⟩])
 (.ret))))))⟩
theorem rf72_eq : cfnAt Try.prog 72 [[1, 3, 4, 25, 26, 27, 30, 31, 32, 43, 44, 45]] = some rf72 := by kernel_rfl
/-- hackle/hackleref04.node -/
def rf73 : RFn := ⟨1, 89, [.tmp 2],
 .seq (.ops [
   ⟨none, (some 1), .box false (.t 0) 8⟩,
   ⟨none, (some 2), .mov (.c (.b false))⟩])
 (.seq (.seq (.ops [
    ⟨none, (some 3), .mov (.c (.int .i64 0))⟩])
  (.block 0 (.loop [1, 3, 26, 27, 28, 29, 32, 33, 34, 35, 36, 37, 38, 39, 40, 41, 42, 43, 44, 63, 64, 65, 68, 69, 70, 73, 74, 75, 76, 77, 78, 79, 80, 81, 82, 83, 84, 85, 86, 87] (
   .seq (.seq (.ops [
      ⟨none, (some 5), .mov (.t 3)⟩,
      ⟨none, (some 6), .fadr (.t 1) 5⟩,
      ⟨none, (some 7), .load (.t 6) 1 false⟩,
      ⟨none, (some 8), .len (.t 7)⟩,
      ⟨none, (some 9), .bin .lss (.t 5) (.t 8)⟩])
    (.cond (.t 9)
     (.skip)
     (.exit 0)))
   (.seq (.block 1 (.seq (.ops [
      ⟨none, (some 12), .fadr (.t 1) 5⟩,
      ⟨none, (some 13), .load (.t 12) 1 false⟩,
      ⟨none, (some 14), .mov (.t 3)⟩,
      ⟨none, (some 15), .idxS (.t 13) (.t 14) 8⟩,
      ⟨none, (some 16), .load (.t 15) 8 true⟩,
      ⟨none, (some 17), .call 73 [(.t 16)]⟩,
      ⟨none, (some 18), .un .not (.t 17)⟩])
    (.cond (.t 18)
     (.seq (.ops [
       ⟨none, (some 2), .mov (.c (.b false))⟩])
     (.ret))
     (.skip))))
   (.ops [
    ⟨none, (some 10), .mov (.t 3)⟩,
    ⟨none, (some 11), .bin .add (.t 10) (.c (.int .i64 1))⟩,
    ⟨none, (some 3), .mov (.t 11)⟩]))))))
 (.seq (.ops [
   ⟨none, (some 19), .fadr (.t 1) 5⟩,
   ⟨none, (some 20), .load (.t 19) 1 false⟩,
   ⟨none, (some 21), .len (.t 20)⟩,
   ⟨none, (some 4), .mov (.t 21)⟩])
 (.seq (.seq (.ops [
    ⟨none, (some 22), .fadr (.t 1) 0⟩,
    ⟨none, (some 23), .load (.t 22) 1 false⟩,
    ⟨none, (some 24), .bin .neq (.t 23) (.c (.int .i64 1))⟩,
    ⟨none, (some 25), .mov (.t 24)⟩,
    ⟨(some (25, true)), (some 26), .fadr (.t 1) 1⟩,
    ⟨(some (25, true)), (some 27), .load (.t 26) 4 true⟩,
    ⟨(some (25, true)), (some 28), .build [(.int .u64 0), (.int .u64 0), (.int .u64 0), (.int .u64 0)] []⟩,
    ⟨(some (25, true)), (some 29), .cmpa true [(.int .u64), (.int .u64), (.int .u64), (.int .u64)] (.t 27) (.t 28)⟩,
    ⟨none, (some 30), .pick (.t 25) (.t 29) (.c (.b false))⟩,
    ⟨none, (some 31), .mov (.t 30)⟩,
    ⟨(some (31, false)), (some 32), .fadr (.t 1) 0⟩,
    ⟨(some (31, false)), (some 33), .load (.t 32) 1 false⟩,
    ⟨(some (31, false)), (some 34), .bin .neq (.t 33) (.c (.int .i64 4))⟩,
    ⟨(some (31, false)), (some 35), .mov (.t 34)⟩,
    ⟨(some (35, true)), (some 36), .fadr (.t 1) 6⟩,
    ⟨(some (35, true)), (some 37), .load (.t 36) 1 false⟩,
    ⟨(some (35, true)), (some 38), .bin .neq (.t 37) (.c (.int .i64 0))⟩,
    ⟨(some (35, true)), (some 39), .mov (.t 38)⟩,
    ⟨(some (39, false)), (some 40), .fadr (.t 1) 7⟩,
    ⟨(some (39, false)), (some 41), .load (.t 40) 1 false⟩,
    ⟨(some (39, false)), (some 42), .bin .neq (.t 41) (.c (.int .i64 0))⟩,
    ⟨(some (35, true)), (some 43), .pick (.t 39) (.c (.b true)) (.t 42)⟩,
    ⟨(some (31, false)), (some 44), .pick (.t 35) (.t 43) (.c (.b false))⟩,
    ⟨none, (some 45), .pick (.t 31) (.c (.b true)) (.t 44)⟩])
  (.cond (.t 45)
   (.seq (.ops [
     ⟨none, (some 2), .mov (.c (.b false))⟩])
   (.ret))
   (.skip)))
 (.seq (.seq (.ops [
    ⟨none, (some 46), .fadr (.t 1) 0⟩,
    ⟨none, (some 47), .load (.t 46) 1 false⟩])
  (.block 2 (.seq (.seq (.ops [
     ⟨none, (some 49), .bin .eql (.t 47) (.c (.int .i64 0))⟩,
     ⟨none, (some 48), .mov (.t 49)⟩])
   (.cond (.t 48)
    (.skip)
    (.ops [
     ⟨none, (some 50), .bin .eql (.t 47) (.c (.int .i64 1))⟩,
     ⟨none, (some 48), .mov (.t 50)⟩])))
  (.cond (.t 48)
   (.seq (.ops [
     ⟨none, (some 51), .mov (.t 4)⟩,
     ⟨none, (some 52), .bin .eql (.t 51) (.c (.int .i64 0))⟩,
     ⟨none, (some 2), .mov (.t 52)⟩])
   (.ret))
   (.seq (.seq (.ops [
      ⟨none, (some 54), .bin .eql (.t 47) (.c (.int .i64 2))⟩,
      ⟨none, (some 53), .mov (.t 54)⟩])
    (.cond (.t 53)
     (.skip)
     (.ops [
      ⟨none, (some 55), .bin .eql (.t 47) (.c (.int .i64 3))⟩,
      ⟨none, (some 53), .mov (.t 55)⟩])))
   (.cond (.t 53)
    (.seq (.ops [
      ⟨none, (some 56), .mov (.t 4)⟩,
      ⟨none, (some 57), .bin .geq (.t 56) (.c (.int .i64 2))⟩,
      ⟨none, (some 2), .mov (.t 57)⟩])
    (.ret))
    (.seq (.ops [
      ⟨none, (some 59), .bin .eql (.t 47) (.c (.int .i64 4))⟩,
      ⟨none, (some 58), .mov (.t 59)⟩])
    (.cond (.t 58)
     (.seq (.ops [
       ⟨none, (some 60), .mov (.t 4)⟩,
       ⟨none, (some 61), .bin .eql (.t 60) (.c (.int .i64 1))⟩,
       ⟨none, (some 62), .mov (.t 61)⟩,
       ⟨(some (62, true)), (some 63), .fadr (.t 1) 6⟩,
       ⟨(some (62, true)), (some 64), .load (.t 63) 1 false⟩,
       ⟨(some (62, true)), (some 65), .bin .geq (.t 64) (.c (.int .i64 0))⟩,
       ⟨none, (some 66), .pick (.t 62) (.t 65) (.c (.b false))⟩,
       ⟨none, (some 67), .mov (.t 66)⟩,
       ⟨(some (67, true)), (some 68), .fadr (.t 1) 6⟩,
       ⟨(some (67, true)), (some 69), .load (.t 68) 1 false⟩,
       ⟨(some (67, true)), (some 70), .bin .leq (.t 69) (.c (.int .i64 64))⟩,
       ⟨none, (some 71), .pick (.t 67) (.t 70) (.c (.b false))⟩,
       ⟨none, (some 72), .mov (.t 71)⟩,
       ⟨(some (72, true)), (some 73), .fadr (.t 1) 7⟩,
       ⟨(some (72, true)), (some 74), .load (.t 73) 1 false⟩,
       ⟨(some (72, true)), (some 75), .bin .eql (.t 74) (.c (.int .i64 (-1)))⟩,
       ⟨(some (72, true)), (some 76), .mov (.t 75)⟩,
       ⟨(some (76, false)), (some 77), .fadr (.t 1) 7⟩,
       ⟨(some (76, false)), (some 78), .load (.t 77) 1 false⟩,
       ⟨(some (76, false)), (some 79), .fadr (.t 1) 6⟩,
       ⟨(some (76, false)), (some 80), .load (.t 79) 1 false⟩,
       ⟨(some (76, false)), (some 81), .bin .geq (.t 78) (.t 80)⟩,
       ⟨(some (76, false)), (some 82), .mov (.t 81)⟩,
       ⟨(some (82, true)), (some 83), .fadr (.t 1) 7⟩,
       ⟨(some (82, true)), (some 84), .load (.t 83) 1 false⟩,
       ⟨(some (82, true)), (some 85), .bin .leq (.t 84) (.c (.int .i64 64))⟩,
       ⟨(some (76, false)), (some 86), .pick (.t 82) (.t 85) (.c (.b false))⟩,
       ⟨(some (72, true)), (some 87), .pick (.t 76) (.c (.b true)) (.t 86)⟩,
       ⟨none, (some 88), .pick (.t 72) (.t 87) (.c (.b false))⟩,
       ⟨none, (some 2), .mov (.t 88)⟩])
     (.ret))
     (.skip)))))))))
 (.seq (.ops [
   ⟨none, (some 2), .mov (.c (.b false))⟩])
 (.ret))))))⟩
theorem rf73_eq : cfnAt Try.prog 73 [[1, 3, 26, 27, 28, 29, 32, 33, 34, 35, 36, 37, 38, 39, 40, 41, 42, 43, 44, 63, 64, 65, 68, 69, 70, 73, 74, 75, 76, 77, 78, 79, 80, 81, 82, 83, 84, 85, 86, 87]] = some rf73 := by kernel_rfl
/-- hackle/rx.asked -/
def rf74 : RFn := ⟨1, 10, [.cell 2 10 true, .tmp 3],
 .seq (.ops [
   ⟨none, (some 1), .box false (.t 0) 8⟩,
   ⟨none, (some 2), .alloc false [(.b false), (.b false), (.int .u64 0), (.int .u64 0), (.int .u64 0), (.int .u64 0), (.int .u64 0), (.int .u64 0), (.int .u64 0), (.int .u64 0)]⟩,
   ⟨none, (some 3), .mov (.c (.b false))⟩])
 (.seq (.seq (.ops [
    ⟨none, (some 4), .load (.t 1) 8 true⟩,
    ⟨none, (some 5), .call 52 [(.t 4)]⟩,
    ⟨none, (some 6), .un .not (.t 5)⟩])
  (.cond (.t 6)
   (.seq (.ops [
     ⟨none, (some 7), .build [(.b false), (.b false), (.int .u64 0), (.int .u64 0), (.int .u64 0), (.int .u64 0), (.int .u64 0), (.int .u64 0), (.int .u64 0), (.int .u64 0)] []⟩,
     ⟨none, none, .store (.t 2) (.t 7) 10⟩,
     ⟨none, (some 3), .mov (.c (.b false))⟩])
   (.ret))
   (.skip)))
 (.seq (.ops [
   ⟨none, (some 8), .load (.t 1) 8 true⟩,
   ⟨none, (some 9), .call 87 [(.t 8)]⟩,
   ⟨none, none, .store (.t 2) (.t 9) 10⟩,
   ⟨none, (some 3), .mov (.c (.b true))⟩])
 (.ret)))⟩
theorem rf74_eq : cfnAt Try.prog 74 [] = some rf74 := by kernel_rfl
/-- hackle/hackleref04.Ends -/
def rf75 : RFn := ⟨3, 159, [.tmp 6],
 .seq (.ops [
   ⟨none, (some 3), .box false (.t 0) 8⟩,
   ⟨none, (some 6), .mov (.c (.isl 0 [] (some 0)))⟩])
 (.seq (.ops [
   ⟨none, (some 17), .mov (.t 1)⟩,
   ⟨none, (some 18), .lenStr (.t 17)⟩,
   ⟨none, (some 19), .bin .add (.t 18) (.c (.int .i64 1))⟩,
   ⟨none, (some 20), .mksl [(.b false)] 1 1 (.t 19) (.t 19)⟩,
   ⟨none, (some 7), .mov (.t 20)⟩])
 (.seq (.seq (.ops [
    ⟨none, (some 21), .fadr (.t 3) 0⟩,
    ⟨none, (some 22), .load (.t 21) 1 false⟩])
  (.block 0 (.seq (.ops [
    ⟨none, (some 73), .bin .eql (.t 22) (.c (.int .i64 0))⟩,
    ⟨none, (some 72), .mov (.t 73)⟩])
  (.cond (.t 72)
   (.ops [
    ⟨none, (some 74), .mov (.t 7)⟩,
    ⟨none, (some 75), .mov (.t 2)⟩,
    ⟨none, (some 76), .copy (.t 74) (.t 75) 1⟩])
   (.seq (.ops [
     ⟨none, (some 78), .bin .eql (.t 22) (.c (.int .i64 1))⟩,
     ⟨none, (some 77), .mov (.t 78)⟩])
   (.cond (.t 77)
    (.seq (.ops [
      ⟨none, (some 8), .mov (.c (.int .i64 0))⟩])
    (.block 5 (.loop [1, 2, 3, 7, 8, 93, 94, 95, 96, 97, 98, 99] (
     .seq (.seq (.ops [
        ⟨none, (some 79), .mov (.t 8)⟩,
        ⟨none, (some 80), .mov (.t 1)⟩,
        ⟨none, (some 81), .lenStr (.t 80)⟩,
        ⟨none, (some 82), .bin .lss (.t 79) (.t 81)⟩])
      (.cond (.t 82)
       (.skip)
       (.exit 5)))
     (.seq (.block 6 (.draw (
       .take ⟨none, (some 85), .mov (.t 7)⟩ <|
       .take ⟨none, (some 86), .mov (.t 8)⟩ <|
       .take ⟨none, (some 87), .bin .add (.t 86) (.c (.int .i64 1))⟩ <|
       .take ⟨none, (some 88), .mov (.t 2)⟩ <|
       .take ⟨none, (some 89), .mov (.t 8)⟩ <|
       .take ⟨none, (some 90), .idxS (.t 88) (.t 89) 1⟩ <|
       .take ⟨none, (some 91), .load (.t 90) 1 false⟩ <|
       .take ⟨none, (some 92), .mov (.t 91)⟩ <|
       .take ⟨(some (92, true)), (some 93), .fadr (.t 3) 1⟩ <|
       .take ⟨(some (92, true)), (some 94), .load (.t 93) 4 true⟩ <|
       .take ⟨(some (92, true)), (some 95), .mov (.t 1)⟩ <|
       .take ⟨(some (92, true)), (some 96), .mov (.t 8)⟩ <|
       .take ⟨(some (92, true)), (some 97), .idxStr (.t 95) (.t 96)⟩ <|
       .take ⟨(some (92, true)), (some 98), .convI .i64 (.t 97)⟩ <|
       .alt ⟨(some (92, true)), (some 99), .call 38 [(.t 94), (.t 98)]⟩ false (
        .take ⟨none, (some 100), .pick (.t 92) (.t 99) (.c (.b false))⟩ <|
        .take ⟨none, (some 101), .idxS (.t 85) (.t 87) 1⟩ <|
        .alt ⟨none, none, .store (.t 101) (.t 100) 1⟩ true (
         .done)
         (.noalt))
        (.noalt))))
     (.ops [
      ⟨none, (some 83), .mov (.t 8)⟩,
      ⟨none, (some 84), .bin .add (.t 83) (.c (.int .i64 1))⟩,
      ⟨none, (some 8), .mov (.t 84)⟩]))))))
    (.seq (.ops [
      ⟨none, (some 103), .bin .eql (.t 22) (.c (.int .i64 2))⟩,
      ⟨none, (some 102), .mov (.t 103)⟩])
    (.cond (.t 102)
     (.seq (.ops [
       ⟨none, (some 104), .mov (.t 7)⟩,
       ⟨none, (some 105), .mov (.t 2)⟩,
       ⟨none, (some 106), .copy (.t 104) (.t 105) 1⟩])
     (.seq (.ops [
       ⟨none, (some 9), .mov (.c (.int .i64 0))⟩])
     (.block 7 (.loop [1, 3, 7, 9] (
      .seq (.seq (.ops [
         ⟨none, (some 107), .mov (.t 9)⟩,
         ⟨none, (some 108), .fadr (.t 3) 5⟩,
         ⟨none, (some 109), .load (.t 108) 1 false⟩,
         ⟨none, (some 110), .len (.t 109)⟩,
         ⟨none, (some 111), .bin .lss (.t 107) (.t 110)⟩])
       (.cond (.t 111)
        (.skip)
        (.exit 7)))
      (.seq (.block 8 (.ops [
        ⟨none, (some 114), .fadr (.t 3) 5⟩,
        ⟨none, (some 115), .load (.t 114) 1 false⟩,
        ⟨none, (some 116), .mov (.t 9)⟩,
        ⟨none, (some 117), .idxS (.t 115) (.t 116) 8⟩,
        ⟨none, (some 118), .load (.t 117) 8 true⟩,
        ⟨none, (some 119), .mov (.t 1)⟩,
        ⟨none, (some 120), .mov (.t 7)⟩,
        ⟨none, (some 121), .call 75 [(.t 118), (.t 119), (.t 120)]⟩,
        ⟨none, (some 7), .mov (.t 121)⟩]))
      (.ops [
       ⟨none, (some 112), .mov (.t 9)⟩,
       ⟨none, (some 113), .bin .add (.t 112) (.c (.int .i64 1))⟩,
       ⟨none, (some 9), .mov (.t 113)⟩])))))))
     (.seq (.ops [
       ⟨none, (some 123), .bin .eql (.t 22) (.c (.int .i64 3))⟩,
       ⟨none, (some 122), .mov (.t 123)⟩])
     (.cond (.t 122)
      (.seq (.ops [
        ⟨none, (some 10), .mov (.c (.int .i64 0))⟩])
      (.block 9 (.loop [1, 2, 3, 7, 10, 152, 153, 154, 155] (
       .seq (.seq (.ops [
          ⟨none, (some 124), .mov (.t 10)⟩,
          ⟨none, (some 125), .fadr (.t 3) 5⟩,
          ⟨none, (some 126), .load (.t 125) 1 false⟩,
          ⟨none, (some 127), .len (.t 126)⟩,
          ⟨none, (some 128), .bin .lss (.t 124) (.t 127)⟩])
        (.cond (.t 128)
         (.skip)
         (.exit 9)))
       (.seq (.block 10 (.seq (.ops [
          ⟨none, (some 131), .fadr (.t 3) 5⟩,
          ⟨none, (some 132), .load (.t 131) 1 false⟩,
          ⟨none, (some 133), .mov (.t 10)⟩,
          ⟨none, (some 134), .idxS (.t 132) (.t 133) 8⟩,
          ⟨none, (some 135), .load (.t 134) 8 true⟩,
          ⟨none, (some 136), .mov (.t 1)⟩,
          ⟨none, (some 137), .mov (.t 2)⟩,
          ⟨none, (some 138), .call 75 [(.t 135), (.t 136), (.t 137)]⟩,
          ⟨none, (some 11), .mov (.t 138)⟩])
        (.seq (.ops [
          ⟨none, (some 12), .mov (.c (.int .i64 0))⟩])
        (.block 11 (.loop [1, 2, 3, 7, 10, 11, 12, 152, 153, 154, 155] (
         .seq (.seq (.ops [
            ⟨none, (some 139), .mov (.t 12)⟩,
            ⟨none, (some 140), .mov (.t 7)⟩,
            ⟨none, (some 141), .len (.t 140)⟩,
            ⟨none, (some 142), .bin .lss (.t 139) (.t 141)⟩])
          (.cond (.t 142)
           (.skip)
           (.exit 11)))
         (.seq (.block 12 (.ops [
           ⟨none, (some 145), .mov (.t 7)⟩,
           ⟨none, (some 146), .mov (.t 12)⟩,
           ⟨none, (some 147), .mov (.t 7)⟩,
           ⟨none, (some 148), .mov (.t 12)⟩,
           ⟨none, (some 149), .idxS (.t 147) (.t 148) 1⟩,
           ⟨none, (some 150), .load (.t 149) 1 false⟩,
           ⟨none, (some 151), .mov (.t 150)⟩,
           ⟨(some (151, false)), (some 152), .mov (.t 11)⟩,
           ⟨(some (151, false)), (some 153), .mov (.t 12)⟩,
           ⟨(some (151, false)), (some 154), .idxS (.t 152) (.t 153) 1⟩,
           ⟨(some (151, false)), (some 155), .load (.t 154) 1 false⟩,
           ⟨none, (some 156), .pick (.t 151) (.c (.b true)) (.t 155)⟩,
           ⟨none, (some 157), .idxS (.t 145) (.t 146) 1⟩,
           ⟨none, none, .store (.t 157) (.t 156) 1⟩]))
         (.ops [
          ⟨none, (some 143), .mov (.t 12)⟩,
          ⟨none, (some 144), .bin .add (.t 143) (.c (.int .i64 1))⟩,
          ⟨none, (some 12), .mov (.t 144)⟩]))))))))
       (.ops [
        ⟨none, (some 129), .mov (.t 10)⟩,
        ⟨none, (some 130), .bin .add (.t 129) (.c (.int .i64 1))⟩,
        ⟨none, (some 10), .mov (.t 130)⟩]))))))
      (.seq (.ops [
        ⟨none, (some 23), .mov (.t 2)⟩,
        ⟨none, (some 13), .mov (.t 23)⟩])
      (.seq (.ops [
        ⟨none, (some 24), .fadr (.t 3) 7⟩,
        ⟨none, (some 25), .load (.t 24) 1 false⟩,
        ⟨none, (some 14), .mov (.t 25)⟩])
      (.seq (.seq (.ops [
         ⟨none, (some 26), .mov (.t 14)⟩,
         ⟨none, (some 27), .bin .lss (.t 26) (.c (.int .i64 0))⟩])
       (.cond (.t 27)
        (.ops [
         ⟨none, (some 28), .fadr (.t 3) 6⟩,
         ⟨none, (some 29), .load (.t 28) 1 false⟩,
         ⟨none, (some 30), .mov (.t 1)⟩,
         ⟨none, (some 31), .lenStr (.t 30)⟩,
         ⟨none, (some 32), .bin .add (.t 29) (.t 31)⟩,
         ⟨none, (some 33), .bin .add (.t 32) (.c (.int .i64 1))⟩,
         ⟨none, (some 14), .mov (.t 33)⟩])
        (.skip)))
      (.seq (.ops [
        ⟨none, (some 15), .mov (.c (.int .i64 0))⟩])
      (.block 1 (.loop [1, 3, 7, 13, 14, 15, 56, 57, 58, 59] (
       .seq (.seq (.ops [
          ⟨none, (some 34), .mov (.t 15)⟩,
          ⟨none, (some 35), .mov (.t 14)⟩,
          ⟨none, (some 36), .bin .leq (.t 34) (.t 35)⟩])
        (.cond (.t 36)
         (.skip)
         (.exit 1)))
       (.seq (.block 2 (.seq (.seq (.ops [
           ⟨none, (some 39), .mov (.t 15)⟩,
           ⟨none, (some 40), .fadr (.t 3) 6⟩,
           ⟨none, (some 41), .load (.t 40) 1 false⟩,
           ⟨none, (some 42), .bin .geq (.t 39) (.t 41)⟩])
         (.cond (.t 42)
          (.seq (.ops [
            ⟨none, (some 16), .mov (.c (.int .i64 0))⟩])
          (.block 3 (.loop [1, 3, 7, 13, 14, 15, 16, 56, 57, 58, 59] (
           .seq (.seq (.ops [
              ⟨none, (some 43), .mov (.t 16)⟩,
              ⟨none, (some 44), .mov (.t 7)⟩,
              ⟨none, (some 45), .len (.t 44)⟩,
              ⟨none, (some 46), .bin .lss (.t 43) (.t 45)⟩])
            (.cond (.t 46)
             (.skip)
             (.exit 3)))
           (.seq (.block 4 (.ops [
             ⟨none, (some 49), .mov (.t 7)⟩,
             ⟨none, (some 50), .mov (.t 16)⟩,
             ⟨none, (some 51), .mov (.t 7)⟩,
             ⟨none, (some 52), .mov (.t 16)⟩,
             ⟨none, (some 53), .idxS (.t 51) (.t 52) 1⟩,
             ⟨none, (some 54), .load (.t 53) 1 false⟩,
             ⟨none, (some 55), .mov (.t 54)⟩,
             ⟨(some (55, false)), (some 56), .mov (.t 13)⟩,
             ⟨(some (55, false)), (some 57), .mov (.t 16)⟩,
             ⟨(some (55, false)), (some 58), .idxS (.t 56) (.t 57) 1⟩,
             ⟨(some (55, false)), (some 59), .load (.t 58) 1 false⟩,
             ⟨none, (some 60), .pick (.t 55) (.c (.b true)) (.t 59)⟩,
             ⟨none, (some 61), .idxS (.t 49) (.t 50) 1⟩,
             ⟨none, none, .store (.t 61) (.t 60) 1⟩]))
           (.ops [
            ⟨none, (some 47), .mov (.t 16)⟩,
            ⟨none, (some 48), .bin .add (.t 47) (.c (.int .i64 1))⟩,
            ⟨none, (some 16), .mov (.t 48)⟩]))))))
          (.skip)))
        (.seq (.ops [
          ⟨none, (some 62), .mov (.t 15)⟩,
          ⟨none, (some 63), .mov (.t 14)⟩,
          ⟨none, (some 64), .bin .lss (.t 62) (.t 63)⟩])
        (.cond (.t 64)
         (.ops [
          ⟨none, (some 65), .fadr (.t 3) 5⟩,
          ⟨none, (some 66), .load (.t 65) 1 false⟩,
          ⟨none, (some 67), .idxS (.t 66) (.c (.int .i64 0)) 8⟩,
          ⟨none, (some 68), .load (.t 67) 8 true⟩,
          ⟨none, (some 69), .mov (.t 1)⟩,
          ⟨none, (some 70), .mov (.t 13)⟩,
          ⟨none, (some 71), .call 75 [(.t 68), (.t 69), (.t 70)]⟩,
          ⟨none, (some 13), .mov (.t 71)⟩])
         (.skip)))))
       (.ops [
        ⟨none, (some 37), .mov (.t 15)⟩,
        ⟨none, (some 38), .bin .add (.t 37) (.c (.int .i64 1))⟩,
        ⟨none, (some 15), .mov (.t 38)⟩])))))))))))))))))))
 (.seq (.ops [
   ⟨none, (some 158), .mov (.t 7)⟩,
   ⟨none, (some 6), .mov (.t 158)⟩])
 (.ret))))⟩
theorem rf75_eq : cfnAt Try.prog 75 [[1, 2, 3, 7, 8, 93, 94, 95, 96, 97, 98, 99], [1, 3, 7, 9], [1, 2, 3, 7, 10, 152, 153, 154, 155], [1, 2, 3, 7, 10, 11, 12, 152, 153, 154, 155], [1, 3, 7, 13, 14, 15, 56, 57, 58, 59], [1, 3, 7, 13, 14, 15, 16, 56, 57, 58, 59]] = some rf75 := by kernel_rfl
/-- hackle/rx.several -/
def rf76 : RFn := ⟨3, 22, [.cell 6 8 true],
 .seq (.ops [
   ⟨none, (some 4), .box false (.t 1) 8⟩,
   ⟨none, (some 6), .alloc false [(.int .i64 0), (.int .u64 0), (.int .u64 0), (.int .u64 0), (.int .u64 0), (.isl 0 [] (some 0)), (.int .i64 0), (.int .i64 0)]⟩])
 (.seq (.seq (.ops [
    ⟨none, (some 7), .mov (.t 2)⟩,
    ⟨none, (some 8), .len (.t 7)⟩])
  (.block 0 (.seq (.ops [
    ⟨none, (some 10), .bin .eql (.t 8) (.c (.int .i64 0))⟩,
    ⟨none, (some 9), .mov (.t 10)⟩])
  (.cond (.t 9)
   (.seq (.ops [
     ⟨none, (some 11), .load (.t 4) 8 true⟩,
     ⟨none, none, .store (.t 6) (.t 11) 8⟩])
   (.ret))
   (.seq (.ops [
     ⟨none, (some 13), .bin .eql (.t 8) (.c (.int .i64 1))⟩,
     ⟨none, (some 12), .mov (.t 13)⟩])
   (.cond (.t 12)
    (.seq (.ops [
      ⟨none, (some 14), .mov (.t 2)⟩,
      ⟨none, (some 15), .idxS (.t 14) (.c (.int .i64 0)) 8⟩,
      ⟨none, (some 16), .load (.t 15) 8 true⟩,
      ⟨none, (some 17), .call 78 [(.t 16)]⟩,
      ⟨none, none, .store (.t 6) (.t 17) 8⟩])
    (.ret))
    (.skip)))))))
 (.seq (.ops [
   ⟨none, (some 18), .mov (.t 0)⟩,
   ⟨none, (some 19), .mov (.t 2)⟩,
   ⟨none, (some 20), .build [(.int .i64 0), (.int .u64 0), (.int .u64 0), (.int .u64 0), (.int .u64 0), (.isl 0 [] (some 0)), (.int .i64 0), (.int .i64 0)] [(0, 1, (.t 18)), (5, 1, (.t 19))]⟩,
   ⟨none, (some 21), .call 78 [(.t 20)]⟩,
   ⟨none, none, .store (.t 6) (.t 21) 8⟩])
 (.ret)))⟩
theorem rf76_eq : cfnAt Try.prog 76 [] = some rf76 := by kernel_rfl
/-- hackle/octs.Of -/
def rf77 : RFn := ⟨1, 23, [.cell 2 4 true],
 .seq (.ops [
   ⟨none, (some 2), .alloc true [(.int .u64 0), (.int .u64 0), (.int .u64 0), (.int .u64 0)]⟩])
 (.seq (.ops [
   ⟨none, (some 3), .alloc true [(.int .u64 0), (.int .u64 0), (.int .u64 0), (.int .u64 0)]⟩])
 (.seq (.seq (.ops [
    ⟨none, (some 6), .mov (.t 0)⟩,
    ⟨none, (some 7), .len (.t 6)⟩,
    ⟨none, (some 8), .mov (.c (.int .i64 0))⟩])
  (.block 0 (.loop [2, 3, 6, 7, 8] (
   .seq (.ops [
     ⟨none, (some 9), .bin .lss (.t 8) (.t 7)⟩])
   (.seq (.cond (.t 9)
     (.skip)
     (.exit 0))
   (.seq (.block 1 (.seq (.ops [
      ⟨none, (some 10), .idxS (.t 6) (.t 8) 1⟩,
      ⟨none, (some 11), .load (.t 10) 1 false⟩,
      ⟨none, (some 5), .mov (.t 11)⟩])
    (.ops [
     ⟨none, (some 12), .mov (.t 5)⟩,
     ⟨none, (some 13), .bin .quo (.t 12) (.c (.int .u8 64))⟩,
     ⟨none, (some 14), .idxA (.t 3) (.t 13) 4 1⟩,
     ⟨none, (some 15), .load (.t 14) 1 false⟩,
     ⟨none, (some 16), .mov (.t 5)⟩,
     ⟨none, (some 17), .bin .rem (.t 16) (.c (.int .u8 64))⟩,
     ⟨none, (some 18), .bin .shl (.c (.int .u64 1)) (.t 17)⟩,
     ⟨none, (some 19), .bin .or (.t 15) (.t 18)⟩,
     ⟨none, (some 20), .idxA (.t 3) (.t 13) 4 1⟩,
     ⟨none, none, .store (.t 20) (.t 19) 1⟩])))
   (.ops [
    ⟨none, (some 21), .bin .add (.t 8) (.c (.int .i64 1))⟩,
    ⟨none, (some 8), .mov (.t 21)⟩])))))))
 (.seq (.ops [
   ⟨none, (some 22), .load (.t 3) 4 true⟩,
   ⟨none, none, .store (.t 2) (.t 22) 4⟩])
 (.ret))))⟩
theorem rf77_eq : cfnAt Try.prog 77 [[2, 3, 6, 7, 8]] = some rf77 := by kernel_rfl
/-- hackle/rx.copied -/
def rf78 : RFn := ⟨1, 28, [.cell 2 8 true],
 .seq (.ops [
   ⟨none, (some 1), .box false (.t 0) 8⟩,
   ⟨none, (some 2), .alloc false [(.int .i64 0), (.int .u64 0), (.int .u64 0), (.int .u64 0), (.int .u64 0), (.isl 0 [] (some 0)), (.int .i64 0), (.int .i64 0)]⟩])
 (.seq (.ops [
   ⟨none, (some 5), .fadr (.t 1) 5⟩,
   ⟨none, (some 6), .load (.t 5) 1 false⟩,
   ⟨none, (some 7), .len (.t 6)⟩,
   ⟨none, (some 8), .mksl [(.int .i64 0), (.int .u64 0), (.int .u64 0), (.int .u64 0), (.int .u64 0), (.isl 0 [] (some 0)), (.int .i64 0), (.int .i64 0)] 8 80 (.t 7) (.t 7)⟩,
   ⟨none, (some 3), .mov (.t 8)⟩])
 (.seq (.seq (.ops [
    ⟨none, (some 9), .fadr (.t 1) 5⟩,
    ⟨none, (some 10), .load (.t 9) 1 false⟩,
    ⟨none, (some 11), .len (.t 10)⟩,
    ⟨none, (some 12), .mov (.c (.int .i64 0))⟩])
  (.block 0 (.loop [1, 2, 3, 11, 12] (
   .seq (.ops [
     ⟨none, (some 13), .bin .lss (.t 12) (.t 11)⟩])
   (.seq (.cond (.t 13)
     (.skip)
     (.exit 0))
   (.seq (.block 1 (.seq (.ops [
      ⟨none, (some 14), .mov (.t 12)⟩,
      ⟨none, (some 4), .mov (.t 14)⟩])
    (.ops [
     ⟨none, (some 15), .mov (.t 3)⟩,
     ⟨none, (some 16), .mov (.t 4)⟩,
     ⟨none, (some 17), .fadr (.t 1) 5⟩,
     ⟨none, (some 18), .load (.t 17) 1 false⟩,
     ⟨none, (some 19), .mov (.t 4)⟩,
     ⟨none, (some 20), .idxS (.t 18) (.t 19) 8⟩,
     ⟨none, (some 21), .load (.t 20) 8 true⟩,
     ⟨none, (some 22), .call 78 [(.t 21)]⟩,
     ⟨none, (some 23), .idxS (.t 15) (.t 16) 8⟩,
     ⟨none, none, .store (.t 23) (.t 22) 8⟩])))
   (.ops [
    ⟨none, (some 24), .bin .add (.t 12) (.c (.int .i64 1))⟩,
    ⟨none, (some 12), .mov (.t 24)⟩])))))))
 (.seq (.ops [
   ⟨none, (some 25), .mov (.t 3)⟩,
   ⟨none, (some 26), .fadr (.t 1) 5⟩,
   ⟨none, none, .store (.t 26) (.t 25) 1⟩])
 (.seq (.ops [
   ⟨none, (some 27), .load (.t 1) 8 true⟩,
   ⟨none, none, .store (.t 2) (.t 27) 8⟩])
 (.ret)))))⟩
theorem rf78_eq : cfnAt Try.prog 78 [[1, 2, 3, 11, 12]] = some rf78 := by kernel_rfl
/-- hackle/rx.walked -/
def rf79 : RFn := ⟨1, 10, [.cell 2 2 true],
 .seq (.ops [
   ⟨none, (some 1), .box false (.t 0) 8⟩,
   ⟨none, (some 2), .alloc false [(.int .i64 0), (.int .i64 0)]⟩])
 (.seq (.ops [
   ⟨none, (some 3), .alloc false [(.int .i64 0), (.int .i64 0)]⟩])
 (.seq (.ops [
   ⟨none, (some 5), .mkfn 88 [(.t 3)] []⟩,
   ⟨none, (some 4), .mov (.t 5)⟩])
 (.seq (.ops [
   ⟨none, (some 6), .mov (.t 4)⟩,
   ⟨none, (some 7), .load (.t 1) 8 true⟩,
   ⟨none, (some 8), .callv (.t 6) [(.t 7), (.c (.int .i64 1))]⟩])
 (.seq (.ops [
   ⟨none, (some 9), .load (.t 3) 2 true⟩,
   ⟨none, none, .store (.t 2) (.t 9) 2⟩])
 (.ret)))))⟩
theorem rf79_eq : cfnAt Try.prog 79 [] = some rf79 := by kernel_rfl
/-- hackle/rx.nodes -/
def rf80 : RFn := ⟨1, 11, [.tmp 2],
 .seq (.ops [
   ⟨none, (some 1), .box false (.t 0) 8⟩,
   ⟨none, (some 2), .mov (.c (.b false))⟩])
 (.seq (.ops [
   ⟨none, (some 3), .load (.t 1) 8 true⟩,
   ⟨none, (some 4), .call 89 [(.t 3)]⟩,
   ⟨none, (some 5), .mov (.t 4)⟩,
   ⟨(some (5, true)), (some 6), .fadr (.t 1) 5⟩,
   ⟨(some (5, true)), (some 7), .load (.t 6) 1 false⟩,
   ⟨(some (5, true)), (some 8), .call 90 [(.t 7), (.c (.fn 91 [] []))]⟩,
   ⟨(some (5, true)), (some 9), .un .not (.t 8)⟩,
   ⟨none, (some 10), .pick (.t 5) (.t 9) (.c (.b false))⟩,
   ⟨none, (some 2), .mov (.t 10)⟩])
 (.ret))⟩
theorem rf80_eq : cfnAt Try.prog 80 [] = some rf80 := by kernel_rfl
/-- hackle/rx.bareOf -/
def rf81 : RFn := ⟨1, 15, [.cell 2 8 true],
 .seq (.ops [
   ⟨none, (some 1), .box false (.t 0) 8⟩,
   ⟨none, (some 2), .alloc false [(.int .i64 0), (.int .i64 0), (.int .i64 0), (.int .i64 0), (.int .u64 0), (.int .u64 0), (.int .u64 0), (.int .u64 0)]⟩])
 (.seq (.ops [
   ⟨none, (some 3), .fadr (.t 1) 0⟩,
   ⟨none, (some 4), .load (.t 3) 1 false⟩,
   ⟨none, (some 5), .fadr (.t 1) 6⟩,
   ⟨none, (some 6), .load (.t 5) 1 false⟩,
   ⟨none, (some 7), .fadr (.t 1) 7⟩,
   ⟨none, (some 8), .load (.t 7) 1 false⟩,
   ⟨none, (some 9), .fadr (.t 1) 5⟩,
   ⟨none, (some 10), .load (.t 9) 1 false⟩,
   ⟨none, (some 11), .len (.t 10)⟩,
   ⟨none, (some 12), .fadr (.t 1) 1⟩,
   ⟨none, (some 13), .load (.t 12) 4 true⟩,
   ⟨none, (some 14), .build [(.int .i64 0), (.int .i64 0), (.int .i64 0), (.int .i64 0), (.int .u64 0), (.int .u64 0), (.int .u64 0), (.int .u64 0)] [(0, 1, (.t 4)), (1, 1, (.t 6)), (2, 1, (.t 8)), (3, 1, (.t 11)), (4, 4, (.t 13))]⟩,
   ⟨none, none, .store (.t 2) (.t 14) 8⟩])
 (.ret))⟩
theorem rf81_eq : cfnAt Try.prog 81 [] = some rf81 := by kernel_rfl
/-- slices.EqualFunc[[]hackle/api.Re,[]hackle/api.Re,hackle/api.Re,hackle/api.Re] -/
def rf82 : RFn := ⟨3, 32, [.tmp 6],
 .seq (.ops [
   ⟨none, (some 6), .mov (.c (.b false))⟩])
 (.seq (.seq (.ops [
    ⟨none, (some 10), .mov (.t 0)⟩,
    ⟨none, (some 11), .len (.t 10)⟩,
    ⟨none, (some 12), .mov (.t 1)⟩,
    ⟨none, (some 13), .len (.t 12)⟩,
    ⟨none, (some 14), .bin .neq (.t 11) (.t 13)⟩])
  (.cond (.t 14)
   (.seq (.ops [
     ⟨none, (some 6), .mov (.c (.b false))⟩])
   (.ret))
   (.skip)))
 (.seq (.seq (.ops [
    ⟨none, (some 15), .mov (.t 0)⟩,
    ⟨none, (some 16), .len (.t 15)⟩,
    ⟨none, (some 17), .mov (.c (.int .i64 0))⟩])
  (.block 0 (.loop [1, 2, 15, 16, 17] (
   .seq (.ops [
     ⟨none, (some 18), .bin .lss (.t 17) (.t 16)⟩])
   (.seq (.cond (.t 18)
     (.skip)
     (.exit 0))
   (.seq (.block 1 (.seq (.ops [
      ⟨none, (some 19), .mov (.t 17)⟩,
      ⟨none, (some 20), .idxS (.t 15) (.t 17) 8⟩,
      ⟨none, (some 21), .load (.t 20) 8 true⟩,
      ⟨none, (some 8), .alloc false [(.int .i64 0), (.int .u64 0), (.int .u64 0), (.int .u64 0), (.int .u64 0), (.isl 0 [] (some 0)), (.int .i64 0), (.int .i64 0)]⟩,
      ⟨none, (some 7), .mov (.t 19)⟩,
      ⟨none, none, .store (.t 8) (.t 21) 8⟩])
    (.seq (.ops [
      ⟨none, (some 22), .mov (.t 1)⟩,
      ⟨none, (some 23), .mov (.t 7)⟩,
      ⟨none, (some 24), .idxS (.t 22) (.t 23) 8⟩,
      ⟨none, (some 25), .load (.t 24) 8 true⟩,
      ⟨none, (some 9), .alloc false [(.int .i64 0), (.int .u64 0), (.int .u64 0), (.int .u64 0), (.int .u64 0), (.isl 0 [] (some 0)), (.int .i64 0), (.int .i64 0)]⟩,
      ⟨none, none, .store (.t 9) (.t 25) 8⟩])
    (.seq (.ops [
      ⟨none, (some 26), .mov (.t 2)⟩,
      ⟨none, (some 27), .load (.t 8) 8 true⟩,
      ⟨none, (some 28), .load (.t 9) 8 true⟩,
      ⟨none, (some 29), .callv (.t 26) [(.t 27), (.t 28)]⟩,
      ⟨none, (some 30), .un .not (.t 29)⟩])
    (.cond (.t 30)
     (.seq (.ops [
       ⟨none, (some 6), .mov (.c (.b false))⟩])
     (.ret))
     (.skip))))))
   (.ops [
    ⟨none, (some 31), .bin .add (.t 17) (.c (.int .i64 1))⟩,
    ⟨none, (some 17), .mov (.t 31)⟩])))))))
 (.seq (.ops [
   ⟨none, (some 6), .mov (.c (.b true))⟩])
 (.ret))))⟩
theorem rf82_eq : cfnAt Try.prog 82 [[1, 2, 15, 16, 17]] = some rf82 := by kernel_rfl
/-- hackle/hackleref01.Made -/
def rf86 : RFn := ⟨1, 27, [.cell 2 4 true],
 .seq (.ops [
   ⟨none, (some 1), .box true (.t 0) 256⟩,
   ⟨none, (some 2), .alloc true [(.int .u64 0), (.int .u64 0), (.int .u64 0), (.int .u64 0)]⟩])
 (.seq (.ops [
   ⟨none, (some 3), .alloc true [(.int .u64 0), (.int .u64 0), (.int .u64 0), (.int .u64 0)]⟩])
 (.seq (.seq (.ops [
    ⟨none, (some 4), .mov (.c (.int .i64 255))⟩])
  (.block 0 (.loop [1, 2, 3, 4] (
   .seq (.seq (.ops [
      ⟨none, (some 5), .mov (.t 4)⟩,
      ⟨none, (some 6), .bin .geq (.t 5) (.c (.int .i64 0))⟩])
    (.cond (.t 6)
     (.skip)
     (.exit 0)))
   (.seq (.block 1 (.seq (.ops [
      ⟨none, (some 9), .mov (.t 4)⟩,
      ⟨none, (some 10), .bin .quo (.t 9) (.c (.int .i64 64))⟩,
      ⟨none, (some 11), .mov (.t 4)⟩,
      ⟨none, (some 12), .bin .quo (.t 11) (.c (.int .i64 64))⟩,
      ⟨none, (some 13), .idxA (.t 3) (.t 12) 4 1⟩,
      ⟨none, (some 14), .load (.t 13) 1 false⟩,
      ⟨none, (some 15), .bin .mul (.t 14) (.c (.int .u64 2))⟩,
      ⟨none, (some 16), .idxA (.t 3) (.t 10) 4 1⟩,
      ⟨none, none, .store (.t 16) (.t 15) 1⟩])
    (.seq (.ops [
      ⟨none, (some 17), .mov (.t 4)⟩,
      ⟨none, (some 18), .idxA (.t 1) (.t 17) 256 1⟩,
      ⟨none, (some 19), .load (.t 18) 1 false⟩])
    (.cond (.t 19)
     (.ops [
      ⟨none, (some 20), .mov (.t 4)⟩,
      ⟨none, (some 21), .bin .quo (.t 20) (.c (.int .i64 64))⟩,
      ⟨none, (some 22), .idxA (.t 3) (.t 21) 4 1⟩,
      ⟨none, (some 23), .load (.t 22) 1 false⟩,
      ⟨none, (some 24), .bin .add (.t 23) (.c (.int .u64 1))⟩,
      ⟨none, (some 25), .idxA (.t 3) (.t 21) 4 1⟩,
      ⟨none, none, .store (.t 25) (.t 24) 1⟩])
     (.skip)))))
   (.ops [
    ⟨none, (some 7), .mov (.t 4)⟩,
    ⟨none, (some 8), .bin .sub (.t 7) (.c (.int .i64 1))⟩,
    ⟨none, (some 4), .mov (.t 8)⟩]))))))
 (.seq (.ops [
   ⟨none, (some 26), .load (.t 3) 4 true⟩,
   ⟨none, none, .store (.t 2) (.t 26) 4⟩])
 (.ret))))⟩
theorem rf86_eq : cfnAt Try.prog 86 [[1, 2, 3, 4]] = some rf86 := by kernel_rfl
/-- hackle/rx.of -/
def rf87 : RFn := ⟨1, 60, [.cell 2 10 true],
 .seq (.ops [
   ⟨none, (some 1), .box false (.t 0) 8⟩,
   ⟨none, (some 2), .alloc false [(.b false), (.b false), (.int .u64 0), (.int .u64 0), (.int .u64 0), (.int .u64 0), (.int .u64 0), (.int .u64 0), (.int .u64 0), (.int .u64 0)]⟩])
 (.seq (.ops [
   ⟨none, (some 7), .build [(.lit .nilFunc), (.lit .nilFunc), (.lit .nilFunc), (.lit .nilFunc)] [(2, 1, (.c (.fn 92 [] []))), (3, 1, (.c (.fn 93 [] [])))]⟩,
   ⟨none, (some 3), .alloc true [(.lit .nilFunc), (.lit .nilFunc), (.lit .nilFunc), (.lit .nilFunc)]⟩,
   ⟨none, none, .store (.t 3) (.t 7) 4⟩])
 (.seq (.seq (.ops [
    ⟨none, (some 8), .fadr (.t 1) 0⟩,
    ⟨none, (some 9), .load (.t 8) 1 false⟩])
  (.block 0 (.seq (.ops [
    ⟨none, (some 11), .bin .eql (.t 9) (.c (.int .i64 1))⟩,
    ⟨none, (some 10), .mov (.t 11)⟩])
  (.cond (.t 10)
   (.seq (.draw (
     .take ⟨none, (some 12), .fadr (.t 1) 1⟩ <|
     .take ⟨none, (some 13), .load (.t 12) 4 true⟩ <|
     .take ⟨none, (some 14), .build [(.int .u64 0), (.int .u64 0), (.int .u64 0), (.int .u64 0)] []⟩ <|
     .take ⟨none, (some 15), .cmpa false [(.int .u64), (.int .u64), (.int .u64), (.int .u64)] (.t 13) (.t 14)⟩ <|
     .take ⟨none, (some 16), .fadr (.t 1) 1⟩ <|
     .take ⟨none, (some 17), .load (.t 16) 4 true⟩ <|
     .take ⟨none, (some 18), .fadr (.t 1) 1⟩ <|
     .take ⟨none, (some 19), .load (.t 18) 4 true⟩ <|
     .take ⟨none, (some 20), .build [(.b false), (.b false), (.int .u64 0), (.int .u64 0), (.int .u64 0), (.int .u64 0), (.int .u64 0), (.int .u64 0), (.int .u64 0), (.int .u64 0)] [(0, 1, (.t 15)), (2, 4, (.t 17)), (6, 4, (.t 19))]⟩ <|
     .alt ⟨none, none, .store (.t 2) (.t 20) 10⟩ true (
      .done)
      (.noalt)))
   (.ret))
   (.seq (.seq (.ops [
      ⟨none, (some 22), .bin .eql (.t 9) (.c (.int .i64 2))⟩,
      ⟨none, (some 21), .mov (.t 22)⟩])
    (.cond (.t 21)
     (.skip)
     (.ops [
      ⟨none, (some 23), .bin .eql (.t 9) (.c (.int .i64 3))⟩,
      ⟨none, (some 21), .mov (.t 23)⟩])))
   (.cond (.t 21)
    (.seq (.ops [
      ⟨none, (some 24), .fadr (.t 1) 5⟩,
      ⟨none, (some 25), .load (.t 24) 1 false⟩,
      ⟨none, (some 26), .idxS (.t 25) (.c (.int .i64 0)) 8⟩,
      ⟨none, (some 27), .load (.t 26) 8 true⟩,
      ⟨none, (some 28), .call 87 [(.t 27)]⟩,
      ⟨none, (some 4), .alloc false [(.b false), (.b false), (.int .u64 0), (.int .u64 0), (.int .u64 0), (.int .u64 0), (.int .u64 0), (.int .u64 0), (.int .u64 0), (.int .u64 0)]⟩,
      ⟨none, none, .store (.t 4) (.t 28) 10⟩])
    (.seq (.seq (.ops [
       ⟨none, (some 29), .fadr (.t 1) 5⟩,
       ⟨none, (some 30), .load (.t 29) 1 false⟩,
       ⟨none, (some 31), .slcS (.t 30) (some (.c (.int .i64 1))) none none 8⟩,
       ⟨none, (some 32), .len (.t 31)⟩,
       ⟨none, (some 33), .mov (.c (.int .i64 0))⟩])
     (.block 1 (.loop [1, 2, 3, 4, 31, 32, 33] (
      .seq (.ops [
        ⟨none, (some 34), .bin .lss (.t 33) (.t 32)⟩])
      (.seq (.cond (.t 34)
        (.skip)
        (.exit 1))
      (.seq (.block 2 (.seq (.ops [
         ⟨none, (some 35), .idxS (.t 31) (.t 33) 8⟩,
         ⟨none, (some 36), .load (.t 35) 8 true⟩,
         ⟨none, (some 6), .alloc false [(.int .i64 0), (.int .u64 0), (.int .u64 0), (.int .u64 0), (.int .u64 0), (.isl 0 [] (some 0)), (.int .i64 0), (.int .i64 0)]⟩,
         ⟨none, none, .store (.t 6) (.t 36) 8⟩])
       (.draw (
        .take ⟨none, (some 37), .fadr (.t 1) 0⟩ <|
        .take ⟨none, (some 38), .load (.t 37) 1 false⟩ <|
        .take ⟨none, (some 39), .idxA (.t 3) (.t 38) 4 1⟩ <|
        .take ⟨none, (some 40), .load (.t 39) 1 false⟩ <|
        .take ⟨none, (some 41), .load (.t 4) 10 true⟩ <|
        .take ⟨none, (some 42), .load (.t 6) 8 true⟩ <|
        .alt ⟨none, (some 43), .call 87 [(.t 42)]⟩ false (
         .alt ⟨none, (some 44), .callv (.t 40) [(.t 41), (.t 43)]⟩ true (
          .alt ⟨none, none, .store (.t 4) (.t 44) 10⟩ true (
           .done)
           (.noalt))
          (.noalt))
         (.noalt)))))
      (.ops [
       ⟨none, (some 45), .bin .add (.t 33) (.c (.int .i64 1))⟩,
       ⟨none, (some 33), .mov (.t 45)⟩])))))))
    (.seq (.ops [
      ⟨none, (some 46), .load (.t 4) 10 true⟩,
      ⟨none, none, .store (.t 2) (.t 46) 10⟩])
    (.ret))))
    (.seq (.ops [
      ⟨none, (some 48), .bin .eql (.t 9) (.c (.int .i64 4))⟩,
      ⟨none, (some 47), .mov (.t 48)⟩])
    (.cond (.t 47)
     (.seq (.draw (
       .take ⟨none, (some 49), .fadr (.t 1) 5⟩ <|
       .take ⟨none, (some 50), .load (.t 49) 1 false⟩ <|
       .take ⟨none, (some 51), .idxS (.t 50) (.c (.int .i64 0)) 8⟩ <|
       .take ⟨none, (some 52), .load (.t 51) 8 true⟩ <|
       .take ⟨none, (some 54), .fadr (.t 1) 6⟩ <|
       .take ⟨none, (some 55), .load (.t 54) 1 false⟩ <|
       .take ⟨none, (some 56), .fadr (.t 1) 7⟩ <|
       .take ⟨none, (some 57), .load (.t 56) 1 false⟩ <|
       .alt ⟨none, (some 53), .call 87 [(.t 52)]⟩ false (
        .alt ⟨none, (some 58), .call 94 [(.t 53), (.t 55), (.t 57)]⟩ true (
         .alt ⟨none, none, .store (.t 2) (.t 58) 10⟩ true (
          .done)
          (.noalt))
         (.noalt))
        (.noalt)))
     (.ret))
     (.skip)))))))))
 (.seq (.ops [
   ⟨none, (some 59), .build [(.b false), (.b false), (.int .u64 0), (.int .u64 0), (.int .u64 0), (.int .u64 0), (.int .u64 0), (.int .u64 0), (.int .u64 0), (.int .u64 0)] [(1, 1, (.c (.b true)))]⟩,
   ⟨none, none, .store (.t 2) (.t 59) 10⟩])
 (.ret))))⟩
theorem rf87_eq : cfnAt Try.prog 87 [[1, 2, 3, 4, 31, 32, 33]] = some rf87 := by kernel_rfl
/-- (*hackle/rx.walk).node -/
def rf88 : RFn := ⟨3, 39, [],
 .seq (.ops [
   ⟨none, (some 4), .box false (.t 1) 8⟩])
 (.seq (.ops [
   ⟨none, (some 7), .mov (.t 0)⟩,
   ⟨none, (some 8), .nilchk (.t 7)⟩,
   ⟨none, (some 9), .fadr (.t 8) 0⟩,
   ⟨none, (some 10), .load (.t 9) 1 false⟩,
   ⟨none, (some 11), .bin .add (.t 10) (.c (.int .i64 1))⟩,
   ⟨none, (some 12), .nilchk (.t 7)⟩,
   ⟨none, (some 13), .fadr (.t 12) 0⟩,
   ⟨none, none, .store (.t 13) (.t 11) 1⟩])
 (.seq (.ops [
   ⟨none, (some 14), .mov (.t 0)⟩,
   ⟨none, (some 15), .mov (.t 0)⟩,
   ⟨none, (some 16), .nilchk (.t 15)⟩,
   ⟨none, (some 17), .fadr (.t 16) 1⟩,
   ⟨none, (some 18), .load (.t 17) 1 false⟩,
   ⟨none, (some 19), .mov (.t 2)⟩,
   ⟨none, (some 20), .mm true (.t 18) (.t 19)⟩,
   ⟨none, (some 21), .nilchk (.t 14)⟩,
   ⟨none, (some 22), .fadr (.t 21) 1⟩,
   ⟨none, none, .store (.t 22) (.t 20) 1⟩])
 (.seq (.ops [
   ⟨none, (some 23), .fadr (.t 4) 5⟩,
   ⟨none, (some 24), .load (.t 23) 1 false⟩,
   ⟨none, (some 25), .len (.t 24)⟩,
   ⟨none, (some 26), .mov (.c (.int .i64 0))⟩])
 (.block 0 (.loop [0, 2, 4, 25, 26] (
  .seq (.ops [
    ⟨none, (some 27), .bin .lss (.t 26) (.t 25)⟩])
  (.seq (.cond (.t 27)
    (.skip)
    (.exit 0))
  (.seq (.block 1 (.seq (.ops [
     ⟨none, (some 28), .mov (.t 26)⟩,
     ⟨none, (some 6), .mov (.t 28)⟩])
   (.ops [
    ⟨none, (some 29), .mov (.t 0)⟩,
    ⟨none, (some 30), .fadr (.t 4) 5⟩,
    ⟨none, (some 31), .load (.t 30) 1 false⟩,
    ⟨none, (some 32), .mov (.t 6)⟩,
    ⟨none, (some 33), .idxS (.t 31) (.t 32) 8⟩,
    ⟨none, (some 34), .load (.t 33) 8 true⟩,
    ⟨none, (some 35), .mov (.t 2)⟩,
    ⟨none, (some 36), .bin .add (.t 35) (.c (.int .i64 1))⟩,
    ⟨none, (some 37), .call 88 [(.t 29), (.t 34), (.t 36)]⟩])))
  (.ops [
   ⟨none, (some 38), .bin .add (.t 26) (.c (.int .i64 1))⟩,
   ⟨none, (some 26), .mov (.t 38)⟩])))))))))⟩
theorem rf88_eq : cfnAt Try.prog 88 [[0, 2, 4, 25, 26]] = some rf88 := by kernel_rfl
/-- hackle/rx.node -/
def rf89 : RFn := ⟨1, 71, [.tmp 2],
 .seq (.ops [
   ⟨none, (some 1), .box false (.t 0) 8⟩,
   ⟨none, (some 2), .mov (.c (.b false))⟩])
 (.seq (.ops [
   ⟨none, (some 4), .load (.t 1) 8 true⟩,
   ⟨none, (some 5), .call 81 [(.t 4)]⟩,
   ⟨none, (some 3), .alloc false [(.int .i64 0), (.int .i64 0), (.int .i64 0), (.int .i64 0), (.int .u64 0), (.int .u64 0), (.int .u64 0), (.int .u64 0)]⟩,
   ⟨none, none, .store (.t 3) (.t 5) 8⟩])
 (.seq (.seq (.ops [
    ⟨none, (some 6), .fadr (.t 1) 0⟩,
    ⟨none, (some 7), .load (.t 6) 1 false⟩])
  (.block 0 (.seq (.ops [
    ⟨none, (some 9), .bin .eql (.t 7) (.c (.int .i64 0))⟩,
    ⟨none, (some 8), .mov (.t 9)⟩])
  (.cond (.t 8)
   (.seq (.ops [
     ⟨none, (some 10), .load (.t 3) 8 true⟩,
     ⟨none, (some 11), .build [(.int .i64 0), (.int .i64 0), (.int .i64 0), (.int .i64 0), (.int .u64 0), (.int .u64 0), (.int .u64 0), (.int .u64 0)] []⟩,
     ⟨none, (some 12), .cmpa false [(.int .i64), (.int .i64), (.int .i64), (.int .i64), (.int .u64), (.int .u64), (.int .u64), (.int .u64)] (.t 10) (.t 11)⟩,
     ⟨none, (some 2), .mov (.t 12)⟩])
   (.ret))
   (.seq (.ops [
     ⟨none, (some 14), .bin .eql (.t 7) (.c (.int .i64 1))⟩,
     ⟨none, (some 13), .mov (.t 14)⟩])
   (.cond (.t 13)
    (.seq (.ops [
      ⟨none, (some 15), .load (.t 3) 8 true⟩,
      ⟨none, (some 16), .fadr (.t 1) 1⟩,
      ⟨none, (some 17), .load (.t 16) 4 true⟩,
      ⟨none, (some 18), .build [(.int .i64 0), (.int .i64 0), (.int .i64 0), (.int .i64 0), (.int .u64 0), (.int .u64 0), (.int .u64 0), (.int .u64 0)] [(0, 1, (.c (.int .i64 1))), (4, 4, (.t 17))]⟩,
      ⟨none, (some 19), .cmpa false [(.int .i64), (.int .i64), (.int .i64), (.int .i64), (.int .u64), (.int .u64), (.int .u64), (.int .u64)] (.t 15) (.t 18)⟩,
      ⟨none, (some 2), .mov (.t 19)⟩])
    (.ret))
    (.seq (.seq (.ops [
       ⟨none, (some 21), .bin .eql (.t 7) (.c (.int .i64 2))⟩,
       ⟨none, (some 20), .mov (.t 21)⟩])
     (.cond (.t 20)
      (.skip)
      (.ops [
       ⟨none, (some 22), .bin .eql (.t 7) (.c (.int .i64 3))⟩,
       ⟨none, (some 20), .mov (.t 22)⟩])))
    (.cond (.t 20)
     (.seq (.ops [
       ⟨none, (some 23), .load (.t 3) 8 true⟩,
       ⟨none, (some 24), .fadr (.t 1) 0⟩,
       ⟨none, (some 25), .load (.t 24) 1 false⟩,
       ⟨none, (some 26), .fadr (.t 1) 5⟩,
       ⟨none, (some 27), .load (.t 26) 1 false⟩,
       ⟨none, (some 28), .len (.t 27)⟩,
       ⟨none, (some 29), .build [(.int .i64 0), (.int .i64 0), (.int .i64 0), (.int .i64 0), (.int .u64 0), (.int .u64 0), (.int .u64 0), (.int .u64 0)] [(0, 1, (.t 25)), (3, 1, (.t 28))]⟩,
       ⟨none, (some 30), .cmpa false [(.int .i64), (.int .i64), (.int .i64), (.int .i64), (.int .u64), (.int .u64), (.int .u64), (.int .u64)] (.t 23) (.t 29)⟩,
       ⟨none, (some 31), .mov (.t 30)⟩,
       ⟨(some (31, true)), (some 32), .fadr (.t 1) 5⟩,
       ⟨(some (31, true)), (some 33), .load (.t 32) 1 false⟩,
       ⟨(some (31, true)), (some 34), .len (.t 33)⟩,
       ⟨(some (31, true)), (some 35), .bin .gtr (.t 34) (.c (.int .i64 1))⟩,
       ⟨none, (some 36), .pick (.t 31) (.t 35) (.c (.b false))⟩,
       ⟨none, (some 2), .mov (.t 36)⟩])
     (.ret))
     (.seq (.ops [
       ⟨none, (some 38), .bin .eql (.t 7) (.c (.int .i64 4))⟩,
       ⟨none, (some 37), .mov (.t 38)⟩])
     (.cond (.t 37)
      (.seq (.seq (.ops [
         ⟨none, (some 39), .load (.t 3) 8 true⟩,
         ⟨none, (some 40), .fadr (.t 1) 6⟩,
         ⟨none, (some 41), .load (.t 40) 1 false⟩,
         ⟨none, (some 42), .fadr (.t 1) 7⟩,
         ⟨none, (some 43), .load (.t 42) 1 false⟩,
         ⟨none, (some 44), .build [(.int .i64 0), (.int .i64 0), (.int .i64 0), (.int .i64 0), (.int .u64 0), (.int .u64 0), (.int .u64 0), (.int .u64 0)] [(0, 1, (.c (.int .i64 4))), (3, 1, (.c (.int .i64 1))), (1, 1, (.t 41)), (2, 1, (.t 43))]⟩,
         ⟨none, (some 45), .cmpa true [(.int .i64), (.int .i64), (.int .i64), (.int .i64), (.int .u64), (.int .u64), (.int .u64), (.int .u64)] (.t 39) (.t 44)⟩,
         ⟨none, (some 46), .mov (.t 45)⟩,
         ⟨(some (46, false)), (some 47), .fadr (.t 1) 6⟩,
         ⟨(some (46, false)), (some 48), .load (.t 47) 1 false⟩,
         ⟨(some (46, false)), (some 49), .bin .lss (.t 48) (.c (.int .i64 0))⟩,
         ⟨none, (some 50), .pick (.t 46) (.c (.b true)) (.t 49)⟩,
         ⟨none, (some 51), .mov (.t 50)⟩,
         ⟨(some (51, false)), (some 52), .fadr (.t 1) 6⟩,
         ⟨(some (51, false)), (some 53), .load (.t 52) 1 false⟩,
         ⟨(some (51, false)), (some 54), .bin .gtr (.t 53) (.c (.int .i64 64))⟩,
         ⟨none, (some 55), .pick (.t 51) (.c (.b true)) (.t 54)⟩])
       (.cond (.t 55)
        (.seq (.ops [
          ⟨none, (some 2), .mov (.c (.b false))⟩])
        (.ret))
        (.skip)))
      (.seq (.ops [
        ⟨none, (some 56), .fadr (.t 1) 7⟩,
        ⟨none, (some 57), .load (.t 56) 1 false⟩,
        ⟨none, (some 58), .bin .eql (.t 57) (.c (.int .i64 (-1)))⟩,
        ⟨none, (some 59), .mov (.t 58)⟩,
        ⟨(some (59, false)), (some 60), .fadr (.t 1) 7⟩,
        ⟨(some (59, false)), (some 61), .load (.t 60) 1 false⟩,
        ⟨(some (59, false)), (some 62), .fadr (.t 1) 6⟩,
        ⟨(some (59, false)), (some 63), .load (.t 62) 1 false⟩,
        ⟨(some (59, false)), (some 64), .bin .geq (.t 61) (.t 63)⟩,
        ⟨(some (59, false)), (some 65), .mov (.t 64)⟩,
        ⟨(some (65, true)), (some 66), .fadr (.t 1) 7⟩,
        ⟨(some (65, true)), (some 67), .load (.t 66) 1 false⟩,
        ⟨(some (65, true)), (some 68), .bin .leq (.t 67) (.c (.int .i64 64))⟩,
        ⟨(some (59, false)), (some 69), .pick (.t 65) (.t 68) (.c (.b false))⟩,
        ⟨none, (some 70), .pick (.t 59) (.c (.b true)) (.t 69)⟩,
        ⟨none, (some 2), .mov (.t 70)⟩])
      (.ret)))
      (.skip)))))))))))
 (.seq (.ops [
   ⟨none, (some 2), .mov (.c (.b false))⟩])
 (.ret))))⟩
theorem rf89_eq : cfnAt Try.prog 89 [] = some rf89 := by kernel_rfl
/-- slices.ContainsFunc[[]hackle/api.Re,hackle/api.Re] -/
def rf90 : RFn := ⟨2, 9, [.tmp 4],
 .seq (.ops [
   ⟨none, (some 4), .mov (.c (.b false))⟩])
 (.seq (.ops [
   ⟨none, (some 5), .mov (.t 0)⟩,
   ⟨none, (some 6), .mov (.t 1)⟩,
   ⟨none, (some 7), .call 95 [(.t 5), (.t 6)]⟩,
   ⟨none, (some 8), .bin .geq (.t 7) (.c (.int .i64 0))⟩,
   ⟨none, (some 4), .mov (.t 8)⟩])
 (.ret))⟩
theorem rf90_eq : cfnAt Try.prog 90 [] = some rf90 := by kernel_rfl
/-- hackle/rx.nodes$1 -/
def rf91 : RFn := ⟨1, 6, [.tmp 2],
 .seq (.ops [
   ⟨none, (some 1), .box false (.t 0) 8⟩,
   ⟨none, (some 2), .mov (.c (.b false))⟩])
 (.seq (.ops [
   ⟨none, (some 3), .load (.t 1) 8 true⟩,
   ⟨none, (some 4), .call 80 [(.t 3)]⟩,
   ⟨none, (some 5), .un .not (.t 4)⟩,
   ⟨none, (some 2), .mov (.t 5)⟩])
 (.ret))⟩
theorem rf91_eq : cfnAt Try.prog 91 [] = some rf91 := by kernel_rfl
/-- (hackle/rx.facts).then -/
def rf92 : RFn := ⟨2, 41, [.cell 4 10 true],
 .seq (.ops [
   ⟨none, (some 2), .box false (.t 0) 10⟩,
   ⟨none, (some 3), .box false (.t 1) 10⟩,
   ⟨none, (some 4), .alloc false [(.b false), (.b false), (.int .u64 0), (.int .u64 0), (.int .u64 0), (.int .u64 0), (.int .u64 0), (.int .u64 0), (.int .u64 0), (.int .u64 0)]⟩])
 (.seq (.seq (.ops [
    ⟨none, (some 6), .fadr (.t 2) 0⟩,
    ⟨none, (some 7), .load (.t 6) 1 false⟩,
    ⟨none, (some 8), .mov (.t 7)⟩,
    ⟨(some (8, false)), (some 9), .fadr (.t 3) 0⟩,
    ⟨(some (8, false)), (some 10), .load (.t 9) 1 false⟩,
    ⟨none, (some 11), .pick (.t 8) (.c (.b true)) (.t 10)⟩])
  (.cond (.t 11)
   (.seq (.ops [
     ⟨none, (some 12), .build [(.b false), (.b false), (.int .u64 0), (.int .u64 0), (.int .u64 0), (.int .u64 0), (.int .u64 0), (.int .u64 0), (.int .u64 0), (.int .u64 0)] [(0, 1, (.c (.b true)))]⟩,
     ⟨none, none, .store (.t 4) (.t 12) 10⟩])
   (.ret))
   (.skip)))
 (.seq (.ops [
   ⟨none, (some 13), .fadr (.t 2) 1⟩,
   ⟨none, (some 14), .load (.t 13) 1 false⟩,
   ⟨none, (some 15), .mov (.t 14)⟩,
   ⟨(some (15, true)), (some 16), .fadr (.t 3) 1⟩,
   ⟨(some (15, true)), (some 17), .load (.t 16) 1 false⟩,
   ⟨none, (some 18), .pick (.t 15) (.t 17) (.c (.b false))⟩,
   ⟨none, (some 19), .fadr (.t 2) 2⟩,
   ⟨none, (some 20), .load (.t 19) 4 true⟩,
   ⟨none, (some 21), .fadr (.t 3) 6⟩,
   ⟨none, (some 22), .load (.t 21) 4 true⟩,
   ⟨none, (some 23), .build [(.b false), (.b false), (.int .u64 0), (.int .u64 0), (.int .u64 0), (.int .u64 0), (.int .u64 0), (.int .u64 0), (.int .u64 0), (.int .u64 0)] [(1, 1, (.t 18)), (2, 4, (.t 20)), (6, 4, (.t 22))]⟩,
   ⟨none, (some 5), .alloc false [(.b false), (.b false), (.int .u64 0), (.int .u64 0), (.int .u64 0), (.int .u64 0), (.int .u64 0), (.int .u64 0), (.int .u64 0), (.int .u64 0)]⟩,
   ⟨none, none, .store (.t 5) (.t 23) 10⟩])
 (.seq (.seq (.ops [
    ⟨none, (some 24), .fadr (.t 2) 1⟩,
    ⟨none, (some 25), .load (.t 24) 1 false⟩])
  (.cond (.t 25)
   (.ops [
    ⟨none, (some 26), .fadr (.t 5) 2⟩,
    ⟨none, (some 27), .load (.t 26) 4 true⟩,
    ⟨none, (some 28), .fadr (.t 3) 2⟩,
    ⟨none, (some 29), .load (.t 28) 4 true⟩,
    ⟨none, (some 30), .call 96 [(.t 27), (.t 29)]⟩,
    ⟨none, (some 31), .fadr (.t 5) 2⟩,
    ⟨none, none, .store (.t 31) (.t 30) 4⟩])
   (.skip)))
 (.seq (.seq (.ops [
    ⟨none, (some 32), .fadr (.t 3) 1⟩,
    ⟨none, (some 33), .load (.t 32) 1 false⟩])
  (.cond (.t 33)
   (.ops [
    ⟨none, (some 34), .fadr (.t 5) 6⟩,
    ⟨none, (some 35), .load (.t 34) 4 true⟩,
    ⟨none, (some 36), .fadr (.t 2) 6⟩,
    ⟨none, (some 37), .load (.t 36) 4 true⟩,
    ⟨none, (some 38), .call 96 [(.t 35), (.t 37)]⟩,
    ⟨none, (some 39), .fadr (.t 5) 6⟩,
    ⟨none, none, .store (.t 39) (.t 38) 4⟩])
   (.skip)))
 (.seq (.ops [
   ⟨none, (some 40), .load (.t 5) 10 true⟩,
   ⟨none, none, .store (.t 4) (.t 40) 10⟩])
 (.ret))))))⟩
theorem rf92_eq : cfnAt Try.prog 92 [] = some rf92 := by kernel_rfl
/-- (hackle/rx.facts).or -/
def rf93 : RFn := ⟨2, 28, [.cell 4 10 true],
 .seq (.ops [
   ⟨none, (some 2), .box false (.t 0) 10⟩,
   ⟨none, (some 3), .box false (.t 1) 10⟩,
   ⟨none, (some 4), .alloc false [(.b false), (.b false), (.int .u64 0), (.int .u64 0), (.int .u64 0), (.int .u64 0), (.int .u64 0), (.int .u64 0), (.int .u64 0), (.int .u64 0)]⟩])
 (.seq (.draw (
   .take ⟨none, (some 5), .fadr (.t 2) 0⟩ <|
   .take ⟨none, (some 6), .load (.t 5) 1 false⟩ <|
   .take ⟨none, (some 7), .mov (.t 6)⟩ <|
   .take ⟨(some (7, true)), (some 8), .fadr (.t 3) 0⟩ <|
   .take ⟨(some (7, true)), (some 9), .load (.t 8) 1 false⟩ <|
   .take ⟨none, (some 10), .pick (.t 7) (.t 9) (.c (.b false))⟩ <|
   .take ⟨none, (some 11), .fadr (.t 2) 1⟩ <|
   .take ⟨none, (some 12), .load (.t 11) 1 false⟩ <|
   .take ⟨none, (some 13), .mov (.t 12)⟩ <|
   .take ⟨(some (13, false)), (some 14), .fadr (.t 3) 1⟩ <|
   .take ⟨(some (13, false)), (some 15), .load (.t 14) 1 false⟩ <|
   .take ⟨none, (some 16), .pick (.t 13) (.c (.b true)) (.t 15)⟩ <|
   .take ⟨none, (some 17), .fadr (.t 2) 2⟩ <|
   .take ⟨none, (some 18), .load (.t 17) 4 true⟩ <|
   .take ⟨none, (some 19), .fadr (.t 3) 2⟩ <|
   .take ⟨none, (some 20), .load (.t 19) 4 true⟩ <|
   .take ⟨none, (some 22), .fadr (.t 2) 6⟩ <|
   .take ⟨none, (some 23), .load (.t 22) 4 true⟩ <|
   .take ⟨none, (some 24), .fadr (.t 3) 6⟩ <|
   .take ⟨none, (some 25), .load (.t 24) 4 true⟩ <|
   .alt ⟨none, (some 21), .call 96 [(.t 18), (.t 20)]⟩ false (
    .alt ⟨none, (some 26), .call 96 [(.t 23), (.t 25)]⟩ false (
     .take ⟨none, (some 27), .build [(.b false), (.b false), (.int .u64 0), (.int .u64 0), (.int .u64 0), (.int .u64 0), (.int .u64 0), (.int .u64 0), (.int .u64 0), (.int .u64 0)] [(0, 1, (.t 10)), (1, 1, (.t 16)), (2, 4, (.t 21)), (6, 4, (.t 26))]⟩ <|
     .alt ⟨none, none, .store (.t 4) (.t 27) 10⟩ true (
      .done)
      (.noalt))
     (.noalt))
    (.noalt)))
 (.ret))⟩
theorem rf93_eq : cfnAt Try.prog 93 [] = some rf93 := by kernel_rfl
/-- hackle/rx.repeated -/
def rf94 : RFn := ⟨3, 25, [.cell 6 10 true],
 .seq (.ops [
   ⟨none, (some 3), .box false (.t 0) 10⟩,
   ⟨none, (some 6), .alloc false [(.b false), (.b false), (.int .u64 0), (.int .u64 0), (.int .u64 0), (.int .u64 0), (.int .u64 0), (.int .u64 0), (.int .u64 0), (.int .u64 0)]⟩])
 (.seq (.seq (.ops [
    ⟨none, (some 7), .mov (.t 2)⟩,
    ⟨none, (some 8), .bin .eql (.t 7) (.c (.int .i64 0))⟩])
  (.cond (.t 8)
   (.seq (.ops [
     ⟨none, (some 9), .build [(.b false), (.b false), (.int .u64 0), (.int .u64 0), (.int .u64 0), (.int .u64 0), (.int .u64 0), (.int .u64 0), (.int .u64 0), (.int .u64 0)] [(1, 1, (.c (.b true)))]⟩,
     ⟨none, none, .store (.t 6) (.t 9) 10⟩])
   (.ret))
   (.skip)))
 (.seq (.seq (.ops [
    ⟨none, (some 10), .fadr (.t 3) 0⟩,
    ⟨none, (some 11), .load (.t 10) 1 false⟩])
  (.cond (.t 11)
   (.seq (.ops [
     ⟨none, (some 12), .mov (.t 1)⟩,
     ⟨none, (some 13), .bin .gtr (.t 12) (.c (.int .i64 0))⟩,
     ⟨none, (some 14), .mov (.t 1)⟩,
     ⟨none, (some 15), .bin .eql (.t 14) (.c (.int .i64 0))⟩,
     ⟨none, (some 16), .build [(.b false), (.b false), (.int .u64 0), (.int .u64 0), (.int .u64 0), (.int .u64 0), (.int .u64 0), (.int .u64 0), (.int .u64 0), (.int .u64 0)] [(0, 1, (.t 13)), (1, 1, (.t 15))]⟩,
     ⟨none, none, .store (.t 6) (.t 16) 10⟩])
   (.ret))
   (.skip)))
 (.seq (.ops [
   ⟨none, (some 17), .fadr (.t 3) 1⟩,
   ⟨none, (some 18), .load (.t 17) 1 false⟩,
   ⟨none, (some 19), .mov (.t 18)⟩,
   ⟨(some (19, false)), (some 20), .mov (.t 1)⟩,
   ⟨(some (19, false)), (some 21), .bin .eql (.t 20) (.c (.int .i64 0))⟩,
   ⟨none, (some 22), .pick (.t 19) (.c (.b true)) (.t 21)⟩,
   ⟨none, (some 23), .fadr (.t 3) 1⟩,
   ⟨none, none, .store (.t 23) (.t 22) 1⟩])
 (.seq (.ops [
   ⟨none, (some 24), .load (.t 3) 10 true⟩,
   ⟨none, none, .store (.t 6) (.t 24) 10⟩])
 (.ret)))))⟩
theorem rf94_eq : cfnAt Try.prog 94 [] = some rf94 := by kernel_rfl
/-- slices.IndexFunc[[]hackle/api.Re,hackle/api.Re] -/
def rf95 : RFn := ⟨2, 19, [.tmp 4],
 .seq (.ops [
   ⟨none, (some 4), .mov (.c (.int .i64 0))⟩])
 (.seq (.seq (.ops [
    ⟨none, (some 6), .mov (.t 0)⟩,
    ⟨none, (some 7), .len (.t 6)⟩,
    ⟨none, (some 8), .mov (.c (.int .i64 0))⟩])
  (.block 0 (.loop [0, 1, 7, 8] (
   .seq (.ops [
     ⟨none, (some 9), .bin .lss (.t 8) (.t 7)⟩])
   (.seq (.cond (.t 9)
     (.skip)
     (.exit 0))
   (.seq (.block 1 (.seq (.ops [
      ⟨none, (some 10), .mov (.t 8)⟩,
      ⟨none, (some 5), .mov (.t 10)⟩])
    (.seq (.ops [
      ⟨none, (some 11), .mov (.t 1)⟩,
      ⟨none, (some 12), .mov (.t 0)⟩,
      ⟨none, (some 13), .mov (.t 5)⟩,
      ⟨none, (some 14), .idxS (.t 12) (.t 13) 8⟩,
      ⟨none, (some 15), .load (.t 14) 8 true⟩,
      ⟨none, (some 16), .callv (.t 11) [(.t 15)]⟩])
    (.cond (.t 16)
     (.seq (.ops [
       ⟨none, (some 17), .mov (.t 5)⟩,
       ⟨none, (some 4), .mov (.t 17)⟩])
     (.ret))
     (.skip)))))
   (.ops [
    ⟨none, (some 18), .bin .add (.t 8) (.c (.int .i64 1))⟩,
    ⟨none, (some 8), .mov (.t 18)⟩])))))))
 (.seq (.ops [
   ⟨none, (some 4), .mov (.c (.int .i64 (-1)))⟩])
 (.ret)))⟩
theorem rf95_eq : cfnAt Try.prog 95 [[0, 1, 7, 8]] = some rf95 := by kernel_rfl
/-- hackle/octs.Any -/
def rf96 : RFn := ⟨2, 8, [.cell 4 4 true],
 .seq (.ops [
   ⟨none, (some 2), .box true (.t 0) 4⟩,
   ⟨none, (some 3), .box true (.t 1) 4⟩,
   ⟨none, (some 4), .alloc true [(.int .u64 0), (.int .u64 0), (.int .u64 0), (.int .u64 0)]⟩])
 (.seq (.ops [
   ⟨none, (some 5), .load (.t 2) 4 true⟩,
   ⟨none, (some 6), .load (.t 3) 4 true⟩,
   ⟨none, (some 7), .call 97 [(.t 5), (.t 6), (.c (.fn 98 [] []))]⟩,
   ⟨none, none, .store (.t 4) (.t 7) 4⟩])
 (.ret))⟩
theorem rf96_eq : cfnAt Try.prog 96 [] = some rf96 := by kernel_rfl
/-- hackle/octs.each -/
def rf97 : RFn := ⟨3, 23, [.cell 6 4 true],
 .seq (.ops [
   ⟨none, (some 3), .box true (.t 0) 4⟩,
   ⟨none, (some 4), .box true (.t 1) 4⟩,
   ⟨none, (some 6), .alloc true [(.int .u64 0), (.int .u64 0), (.int .u64 0), (.int .u64 0)]⟩])
 (.seq (.seq (.ops [
    ⟨none, (some 8), .mov (.c (.int .i64 0))⟩])
  (.block 0 (.loop [2, 3, 4, 6, 8] (
   .seq (.ops [
     ⟨none, (some 9), .bin .lss (.t 8) (.c (.int .i64 4))⟩])
   (.seq (.cond (.t 9)
     (.skip)
     (.exit 0))
   (.seq (.block 1 (.seq (.ops [
      ⟨none, (some 10), .mov (.t 8)⟩,
      ⟨none, (some 7), .mov (.t 10)⟩])
    (.draw (
     .take ⟨none, (some 11), .mov (.t 7)⟩ <|
     .take ⟨none, (some 12), .mov (.t 2)⟩ <|
     .take ⟨none, (some 13), .mov (.t 7)⟩ <|
     .take ⟨none, (some 14), .idxA (.t 3) (.t 13) 4 1⟩ <|
     .take ⟨none, (some 15), .load (.t 14) 1 false⟩ <|
     .take ⟨none, (some 16), .mov (.t 7)⟩ <|
     .take ⟨none, (some 17), .idxA (.t 4) (.t 16) 4 1⟩ <|
     .take ⟨none, (some 18), .load (.t 17) 1 false⟩ <|
     .alt ⟨none, (some 19), .callv (.t 12) [(.t 15), (.t 18)]⟩ false (
      .take ⟨none, (some 20), .idxA (.t 3) (.t 11) 4 1⟩ <|
      .alt ⟨none, none, .store (.t 20) (.t 19) 1⟩ true (
       .done)
       (.noalt))
      (.noalt)))))
   (.ops [
    ⟨none, (some 21), .bin .add (.t 8) (.c (.int .i64 1))⟩,
    ⟨none, (some 8), .mov (.t 21)⟩])))))))
 (.seq (.ops [
   ⟨none, (some 22), .load (.t 3) 4 true⟩,
   ⟨none, none, .store (.t 6) (.t 22) 4⟩])
 (.ret)))⟩
theorem rf97_eq : cfnAt Try.prog 97 [[2, 3, 4, 6, 8]] = some rf97 := by kernel_rfl
/-- hackle/octs.Any$1 -/
def rf98 : RFn := ⟨2, 8, [.tmp 4],
 .seq (.ops [
   ⟨none, (some 4), .mov (.c (.int .u64 0))⟩])
 (.seq (.ops [
   ⟨none, (some 5), .mov (.t 0)⟩,
   ⟨none, (some 6), .mov (.t 1)⟩,
   ⟨none, (some 7), .bin .or (.t 5) (.t 6)⟩,
   ⟨none, (some 4), .mov (.t 7)⟩])
 (.ret))⟩
theorem rf98_eq : cfnAt Try.prog 98 [] = some rf98 := by kernel_rfl
end Hk
