/- The resolved codes of functions, each with its equation. Written by rfs.sh. -/
import Derived.Test.YtmgkffdnnjpmpaaHkDrv
import Derived.Test.YtmgkffdnnjpmpaaProg
import Derived.KernelRfl
namespace Hk
open Go Go.Proofs
set_option maxRecDepth 100000
/-- hackle/hacklelaw19.KmpFeeds -/
def rf9 : RFn := ⟨2, 173, [.tmp 4],
 .seq (.ops [
   ⟨none, (some 4), .mov (.c (.b false))⟩])
 (.seq (.seq (.ops [
    ⟨none, (some 15), .call 26 []⟩,
    ⟨none, (some 16), .un .not (.t 15)⟩])
  (.cond (.t 16)
   (.seq (.ops [
     ⟨none, (some 4), .mov (.c (.b false))⟩])
   (.ret))
   (.skip)))
 (.seq (.seq (.ops [
    ⟨none, (some 17), .mov (.t 0)⟩,
    ⟨none, (some 18), .len (.t 17)⟩,
    ⟨none, (some 19), .bin .gtr (.t 18) (.c (.int .i64 60))⟩,
    ⟨none, (some 20), .mov (.t 19)⟩,
    ⟨(some (20, false)), (some 21), .mov (.t 1)⟩,
    ⟨(some (20, false)), (some 22), .lenStr (.t 21)⟩,
    ⟨(some (20, false)), (some 23), .bin .gtr (.t 22) (.c (.int .i64 300))⟩,
    ⟨none, (some 24), .pick (.t 20) (.c (.b true)) (.t 23)⟩])
  (.cond (.t 24)
   (.seq (.ops [
     ⟨none, (some 4), .mov (.c (.b true))⟩])
   (.ret))
   (.skip)))
 (.seq (.ops [
   ⟨none, (some 26), .mov (.t 1)⟩,
   ⟨none, (some 27), .call 27 [(.t 26)]⟩,
   ⟨none, (some 25), .mov (.t 27)⟩,
   ⟨none, (some 28), .ext (.t 25) 0⟩,
   ⟨none, (some 29), .ext (.t 25) 1⟩,
   ⟨none, (some 5), .mov (.t 28)⟩,
   ⟨none, (some 6), .mov (.t 29)⟩])
 (.seq (.seq (.ops [
    ⟨none, (some 30), .mov (.t 1)⟩,
    ⟨none, (some 31), .call 28 [(.t 30)]⟩,
    ⟨none, (some 32), .un .not (.t 31)⟩])
  (.cond (.t 32)
   (.seq (.ops [
     ⟨none, (some 33), .mov (.t 5)⟩,
     ⟨none, (some 34), .cmpp false (.t 33) (.c (.lit (.pointer none)))⟩,
     ⟨none, (some 35), .mov (.t 34)⟩,
     ⟨(some (35, true)), (some 36), .mov (.t 1)⟩,
     ⟨(some (35, true)), (some 37), .lenStr (.t 36)⟩,
     ⟨(some (35, true)), (some 38), .bin .eql (.t 37) (.c (.int .i64 0))⟩,
     ⟨(some (35, true)), (some 39), .mov (.t 38)⟩,
     ⟨(some (39, true)), (some 40), .mov (.t 6)⟩,
     ⟨(some (39, true)), (some 41), .bin .eql (.t 40) (.c (.int .i64 1))⟩,
     ⟨(some (35, true)), (some 42), .pick (.t 39) (.t 41) (.c (.b false))⟩,
     ⟨(some (35, true)), (some 43), .mov (.t 42)⟩,
     ⟨(some (43, false)), (some 44), .mov (.t 1)⟩,
     ⟨(some (43, false)), (some 45), .lenStr (.t 44)⟩,
     ⟨(some (43, false)), (some 46), .bin .gtr (.t 45) (.c (.int .i64 64))⟩,
     ⟨(some (43, false)), (some 47), .mov (.t 46)⟩,
     ⟨(some (47, true)), (some 48), .mov (.t 6)⟩,
     ⟨(some (47, true)), (some 49), .bin .eql (.t 48) (.c (.int .i64 4))⟩,
     ⟨(some (43, false)), (some 50), .pick (.t 47) (.t 49) (.c (.b false))⟩,
     ⟨(some (35, true)), (some 51), .pick (.t 43) (.c (.b true)) (.t 50)⟩,
     ⟨none, (some 52), .pick (.t 35) (.t 51) (.c (.b false))⟩,
     ⟨none, (some 4), .mov (.t 52)⟩])
   (.ret))
   (.skip)))
 (.seq (.seq (.ops [
    ⟨none, (some 53), .mov (.t 6)⟩,
    ⟨none, (some 54), .bin .neq (.t 53) (.c (.int .i64 0))⟩,
    ⟨none, (some 55), .mov (.t 54)⟩,
    ⟨(some (55, false)), (some 56), .mov (.t 5)⟩,
    ⟨(some (55, false)), (some 57), .cmpp false (.t 56) (.c (.lit (.pointer none)))⟩,
    ⟨none, (some 58), .pick (.t 55) (.c (.b true)) (.t 57)⟩])
  (.cond (.t 58)
   (.seq (.ops [
     ⟨none, (some 4), .mov (.c (.b false))⟩])
   (.ret))
   (.skip)))
 (.seq (.ops [
   ⟨none, (some 7), .mov (.c (.str []))⟩])
 (.seq (.ops [
   ⟨none, (some 8), .mov (.c (.b false))⟩])
 (.seq (.seq (.ops [
    ⟨none, (some 9), .mov (.c (.int .i64 0))⟩])
  (.block 0 (.loop [0, 1, 5, 7, 8, 9, 84, 85, 104, 105, 106, 107, 108, 109, 110, 111, 114, 115, 116, 119, 120, 121, 122, 123, 124, 125, 135, 136, 137, 138, 139, 140, 141, 144, 145, 146, 147, 148, 149, 150, 153, 154, 155, 156, 157, 160, 161, 162, 163, 164, 165] (
   .seq (.seq (.ops [
      ⟨none, (some 59), .mov (.t 9)⟩,
      ⟨none, (some 60), .mov (.t 0)⟩,
      ⟨none, (some 61), .len (.t 60)⟩,
      ⟨none, (some 62), .bin .lss (.t 59) (.t 61)⟩])
    (.cond (.t 62)
     (.skip)
     (.exit 0)))
   (.seq (.block 1 (.seq (.seq (.ops [
       ⟨none, (some 65), .mov (.t 0)⟩,
       ⟨none, (some 66), .mov (.t 9)⟩,
       ⟨none, (some 67), .idxS (.t 65) (.t 66) 1⟩,
       ⟨none, (some 68), .load (.t 67) 1 false⟩,
       ⟨none, (some 69), .lenStr (.t 68)⟩,
       ⟨none, (some 70), .bin .gtr (.t 69) (.c (.int .i64 100))⟩])
     (.cond (.t 70)
      (.seq (.ops [
        ⟨none, (some 4), .mov (.c (.b true))⟩])
      (.ret))
      (.skip)))
    (.seq (.ops [
      ⟨none, (some 72), .mov (.t 5)⟩,
      ⟨none, (some 73), .mov (.t 0)⟩,
      ⟨none, (some 74), .mov (.t 9)⟩,
      ⟨none, (some 75), .idxS (.t 73) (.t 74) 1⟩,
      ⟨none, (some 76), .load (.t 75) 1 false⟩,
      ⟨none, (some 77), .call 29 [(.t 72), (.t 76)]⟩,
      ⟨none, (some 71), .mov (.t 77)⟩,
      ⟨none, (some 78), .ext (.t 71) 0⟩,
      ⟨none, (some 79), .ext (.t 71) 1⟩,
      ⟨none, (some 10), .mov (.t 78)⟩,
      ⟨none, (some 11), .mov (.t 79)⟩])
    (.seq (.seq (.ops [
       ⟨none, (some 80), .mov (.t 8)⟩])
     (.cond (.t 80)
      (.seq (.seq (.ops [
         ⟨none, (some 81), .mov (.t 10)⟩,
         ⟨none, (some 82), .bin .neq (.t 81) (.c (.int .i64 0))⟩,
         ⟨none, (some 83), .mov (.t 82)⟩,
         ⟨(some (83, false)), (some 84), .mov (.t 11)⟩,
         ⟨(some (83, false)), (some 85), .un .not (.t 84)⟩,
         ⟨none, (some 86), .pick (.t 83) (.c (.b true)) (.t 85)⟩])
       (.cond (.t 86)
        (.seq (.ops [
          ⟨none, (some 4), .mov (.c (.b false))⟩])
        (.ret))
        (.skip)))
      (.exit 1))
      (.skip)))
    (.seq (.ops [
      ⟨none, (some 87), .mov (.t 7)⟩,
      ⟨none, (some 88), .lenStr (.t 87)⟩,
      ⟨none, (some 12), .mov (.t 88)⟩])
    (.seq (.ops [
      ⟨none, (some 90), .mov (.t 7)⟩,
      ⟨none, (some 91), .mov (.t 0)⟩,
      ⟨none, (some 92), .mov (.t 9)⟩,
      ⟨none, (some 93), .idxS (.t 91) (.t 92) 1⟩,
      ⟨none, (some 94), .load (.t 93) 1 false⟩,
      ⟨none, (some 95), .bin .add (.t 90) (.t 94)⟩,
      ⟨none, (some 96), .mov (.t 1)⟩,
      ⟨none, (some 97), .call 30 [(.t 95), (.t 96)]⟩,
      ⟨none, (some 89), .mov (.t 97)⟩,
      ⟨none, (some 98), .ext (.t 89) 0⟩,
      ⟨none, (some 99), .ext (.t 89) 1⟩,
      ⟨none, (some 13), .mov (.t 98)⟩,
      ⟨none, (some 14), .mov (.t 99)⟩])
    (.seq (.seq (.ops [
       ⟨none, (some 100), .mov (.t 14)⟩])
     (.cond (.t 100)
      (.seq (.seq (.ops [
         ⟨none, (some 101), .mov (.t 11)⟩,
         ⟨none, (some 102), .un .not (.t 101)⟩,
         ⟨none, (some 103), .mov (.t 102)⟩,
         ⟨(some (103, false)), (some 104), .mov (.t 10)⟩,
         ⟨(some (103, false)), (some 105), .mov (.t 13)⟩,
         ⟨(some (103, false)), (some 106), .mov (.t 1)⟩,
         ⟨(some (103, false)), (some 107), .lenStr (.t 106)⟩,
         ⟨(some (103, false)), (some 108), .bin .add (.t 105) (.t 107)⟩,
         ⟨(some (103, false)), (some 109), .mov (.t 12)⟩,
         ⟨(some (103, false)), (some 110), .bin .sub (.t 108) (.t 109)⟩,
         ⟨(some (103, false)), (some 111), .bin .neq (.t 104) (.t 110)⟩,
         ⟨none, (some 112), .pick (.t 103) (.c (.b true)) (.t 111)⟩,
         ⟨none, (some 113), .mov (.t 112)⟩,
         ⟨(some (113, false)), (some 114), .mov (.t 5)⟩,
         ⟨(some (113, false)), (some 115), .call 31 [(.t 114)]⟩,
         ⟨(some (113, false)), (some 116), .bin .neq (.t 115) (.c (.int .i64 0))⟩,
         ⟨none, (some 117), .pick (.t 113) (.c (.b true)) (.t 116)⟩,
         ⟨none, (some 118), .mov (.t 117)⟩,
         ⟨(some (118, false)), (some 119), .mov (.t 5)⟩,
         ⟨(some (118, false)), (some 120), .call 32 [(.t 119)]⟩,
         ⟨(some (118, false)), (some 121), .mov (.t 13)⟩,
         ⟨(some (118, false)), (some 122), .mov (.t 1)⟩,
         ⟨(some (118, false)), (some 123), .lenStr (.t 122)⟩,
         ⟨(some (118, false)), (some 124), .bin .add (.t 121) (.t 123)⟩,
         ⟨(some (118, false)), (some 125), .bin .neq (.t 120) (.t 124)⟩,
         ⟨none, (some 126), .pick (.t 118) (.c (.b true)) (.t 125)⟩])
       (.cond (.t 126)
        (.seq (.ops [
          ⟨none, (some 4), .mov (.c (.b false))⟩])
        (.ret))
        (.skip)))
      (.seq (.ops [
        ⟨none, (some 8), .mov (.c (.b true))⟩])
      (.exit 1)))
      (.skip)))
    (.seq (.ops [
      ⟨none, (some 127), .mov (.t 7)⟩,
      ⟨none, (some 128), .mov (.t 0)⟩,
      ⟨none, (some 129), .mov (.t 9)⟩,
      ⟨none, (some 130), .idxS (.t 128) (.t 129) 1⟩,
      ⟨none, (some 131), .load (.t 130) 1 false⟩,
      ⟨none, (some 132), .bin .add (.t 127) (.t 131)⟩,
      ⟨none, (some 7), .mov (.t 132)⟩])
    (.seq (.ops [
      ⟨none, (some 133), .mov (.t 11)⟩,
      ⟨none, (some 134), .mov (.t 133)⟩,
      ⟨(some (134, false)), (some 135), .mov (.t 10)⟩,
      ⟨(some (134, false)), (some 136), .mov (.t 0)⟩,
      ⟨(some (134, false)), (some 137), .mov (.t 9)⟩,
      ⟨(some (134, false)), (some 138), .idxS (.t 136) (.t 137) 1⟩,
      ⟨(some (134, false)), (some 139), .load (.t 138) 1 false⟩,
      ⟨(some (134, false)), (some 140), .lenStr (.t 139)⟩,
      ⟨(some (134, false)), (some 141), .bin .neq (.t 135) (.t 140)⟩,
      ⟨none, (some 142), .pick (.t 134) (.c (.b true)) (.t 141)⟩,
      ⟨none, (some 143), .mov (.t 142)⟩,
      ⟨(some (143, false)), (some 144), .mov (.t 5)⟩,
      ⟨(some (143, false)), (some 145), .call 31 [(.t 144)]⟩,
      ⟨(some (143, false)), (some 146), .mov (.t 7)⟩,
      ⟨(some (143, false)), (some 147), .lenStr (.t 146)⟩,
      ⟨(some (143, false)), (some 148), .mov (.t 13)⟩,
      ⟨(some (143, false)), (some 149), .bin .sub (.t 147) (.t 148)⟩,
      ⟨(some (143, false)), (some 150), .bin .neq (.t 145) (.t 149)⟩,
      ⟨none, (some 151), .pick (.t 143) (.c (.b true)) (.t 150)⟩,
      ⟨none, (some 152), .mov (.t 151)⟩,
      ⟨(some (152, false)), (some 153), .mov (.t 5)⟩,
      ⟨(some (152, false)), (some 154), .call 32 [(.t 153)]⟩,
      ⟨(some (152, false)), (some 155), .mov (.t 7)⟩,
      ⟨(some (152, false)), (some 156), .lenStr (.t 155)⟩,
      ⟨(some (152, false)), (some 157), .bin .neq (.t 154) (.t 156)⟩,
      ⟨none, (some 158), .pick (.t 152) (.c (.b true)) (.t 157)⟩,
      ⟨none, (some 159), .mov (.t 158)⟩,
      ⟨(some (159, false)), (some 160), .mov (.t 5)⟩,
      ⟨(some (159, false)), (some 161), .call 33 [(.t 160)]⟩,
      ⟨(some (159, false)), (some 162), .mov (.t 5)⟩,
      ⟨(some (159, false)), (some 163), .call 32 [(.t 162)]⟩,
      ⟨(some (159, false)), (some 164), .bin .mul (.c (.int .i64 2)) (.t 163)⟩,
      ⟨(some (159, false)), (some 165), .bin .gtr (.t 161) (.t 164)⟩,
      ⟨none, (some 166), .pick (.t 159) (.c (.b true)) (.t 165)⟩])
    (.cond (.t 166)
     (.seq (.ops [
       ⟨none, (some 4), .mov (.c (.b false))⟩])
     (.ret))
     (.skip)))))))))))
   (.ops [
    ⟨none, (some 63), .mov (.t 9)⟩,
    ⟨none, (some 64), .bin .add (.t 63) (.c (.int .i64 1))⟩,
    ⟨none, (some 9), .mov (.t 64)⟩]))))))
 (.seq (.ops [
   ⟨none, (some 167), .mov (.t 5)⟩,
   ⟨none, (some 168), .call 33 [(.t 167)]⟩,
   ⟨none, (some 169), .mov (.t 5)⟩,
   ⟨none, (some 170), .call 32 [(.t 169)]⟩,
   ⟨none, (some 171), .bin .mul (.c (.int .i64 2)) (.t 170)⟩,
   ⟨none, (some 172), .bin .leq (.t 168) (.t 171)⟩,
   ⟨none, (some 4), .mov (.t 172)⟩])
 (.ret))))))))))⟩
theorem rf9_eq : cfnAt Try.prog 9 [[0, 1, 5, 7, 8, 9, 84, 85, 104, 105, 106, 107, 108, 109, 110, 111, 114, 115, 116, 119, 120, 121, 122, 123, 124, 125, 135, 136, 137, 138, 139, 140, 141, 144, 145, 146, 147, 148, 149, 150, 153, 154, 155, 156, 157, 160, 161, 162, 163, 164, 165]] = some rf9 := by kernel_rfl
/-- hackle/hacklelaw19.KmpNone -/
def rf10 : RFn := ⟨1, 35, [.tmp 2],
 .seq (.ops [
   ⟨none, (some 2), .mov (.c (.b false))⟩])
 (.seq (.seq (.ops [
    ⟨none, (some 6), .call 26 []⟩,
    ⟨none, (some 7), .un .not (.t 6)⟩])
  (.cond (.t 7)
   (.seq (.ops [
     ⟨none, (some 2), .mov (.c (.b false))⟩])
   (.ret))
   (.skip)))
 (.seq (.ops [
   ⟨none, (some 3), .mov (.c (.lit (.pointer none)))⟩])
 (.seq (.ops [
   ⟨none, (some 9), .mov (.t 3)⟩,
   ⟨none, (some 10), .mov (.t 0)⟩,
   ⟨none, (some 11), .call 29 [(.t 9), (.t 10)]⟩,
   ⟨none, (some 8), .mov (.t 11)⟩,
   ⟨none, (some 12), .ext (.t 8) 0⟩,
   ⟨none, (some 13), .ext (.t 8) 1⟩,
   ⟨none, (some 4), .mov (.t 12)⟩,
   ⟨none, (some 5), .mov (.t 13)⟩])
 (.seq (.ops [
   ⟨none, (some 14), .mov (.t 4)⟩,
   ⟨none, (some 15), .bin .eql (.t 14) (.c (.int .i64 0))⟩,
   ⟨none, (some 16), .mov (.t 15)⟩,
   ⟨(some (16, true)), (some 17), .mov (.t 5)⟩,
   ⟨(some (16, true)), (some 18), .un .not (.t 17)⟩,
   ⟨none, (some 19), .pick (.t 16) (.t 18) (.c (.b false))⟩,
   ⟨none, (some 20), .mov (.t 19)⟩,
   ⟨(some (20, true)), (some 21), .mov (.t 3)⟩,
   ⟨(some (20, true)), (some 22), .call 31 [(.t 21)]⟩,
   ⟨(some (20, true)), (some 23), .bin .eql (.t 22) (.c (.int .i64 0))⟩,
   ⟨none, (some 24), .pick (.t 20) (.t 23) (.c (.b false))⟩,
   ⟨none, (some 25), .mov (.t 24)⟩,
   ⟨(some (25, true)), (some 26), .mov (.t 3)⟩,
   ⟨(some (25, true)), (some 27), .call 32 [(.t 26)]⟩,
   ⟨(some (25, true)), (some 28), .bin .eql (.t 27) (.c (.int .i64 0))⟩,
   ⟨none, (some 29), .pick (.t 25) (.t 28) (.c (.b false))⟩,
   ⟨none, (some 30), .mov (.t 29)⟩,
   ⟨(some (30, true)), (some 31), .mov (.t 3)⟩,
   ⟨(some (30, true)), (some 32), .call 33 [(.t 31)]⟩,
   ⟨(some (30, true)), (some 33), .bin .eql (.t 32) (.c (.int .i64 0))⟩,
   ⟨none, (some 34), .pick (.t 30) (.t 33) (.c (.b false))⟩,
   ⟨none, (some 2), .mov (.t 34)⟩])
 (.ret)))))⟩
theorem rf10_eq : cfnAt Try.prog 10 [] = some rf10 := by kernel_rfl
/-- hackle/hacklelaw19.alive -/
def rf26 : RFn := ⟨0, 67, [.tmp 0],
 .seq (.ops [
   ⟨none, (some 0), .mov (.c (.b false))⟩])
 (.seq (.ops [
   ⟨none, (some 12), .call 64 [(.c (.str [97, 97, 98, 97, 98])), (.c (.str [97, 98])), (.c (.int .i64 9))]⟩,
   ⟨none, (some 11), .mov (.t 12)⟩,
   ⟨none, (some 13), .ext (.t 11) 0⟩,
   ⟨none, (some 14), .ext (.t 11) 1⟩,
   ⟨none, (some 1), .mov (.t 13)⟩,
   ⟨none, (some 2), .mov (.t 14)⟩])
 (.seq (.ops [
   ⟨none, (some 16), .call 64 [(.c (.str [120, 97])), (.c (.str [97, 98])), (.c (.int .i64 9))]⟩,
   ⟨none, (some 15), .mov (.t 16)⟩,
   ⟨none, (some 17), .ext (.t 15) 0⟩,
   ⟨none, (some 18), .ext (.t 15) 1⟩,
   ⟨none, (some 3), .mov (.t 17)⟩,
   ⟨none, (some 4), .mov (.t 18)⟩])
 (.seq (.ops [
   ⟨none, (some 20), .call 27 [(.c (.str [97, 98]))]⟩,
   ⟨none, (some 19), .mov (.t 20)⟩,
   ⟨none, (some 21), .ext (.t 19) 0⟩,
   ⟨none, (some 22), .ext (.t 19) 1⟩,
   ⟨none, (some 5), .mov (.t 21)⟩,
   ⟨none, (some 6), .mov (.t 22)⟩])
 (.seq (.seq (.ops [
    ⟨none, (some 23), .mov (.t 6)⟩,
    ⟨none, (some 24), .bin .neq (.t 23) (.c (.int .i64 0))⟩,
    ⟨none, (some 25), .mov (.t 24)⟩,
    ⟨(some (25, false)), (some 26), .mov (.t 5)⟩,
    ⟨(some (25, false)), (some 27), .cmpp false (.t 26) (.c (.lit (.pointer none)))⟩,
    ⟨none, (some 28), .pick (.t 25) (.c (.b true)) (.t 27)⟩])
  (.cond (.t 28)
   (.seq (.ops [
     ⟨none, (some 0), .mov (.c (.b false))⟩])
   (.ret))
   (.skip)))
 (.seq (.ops [
   ⟨none, (some 30), .mov (.t 5)⟩,
   ⟨none, (some 31), .call 29 [(.t 30), (.c (.str [97, 97]))]⟩,
   ⟨none, (some 29), .mov (.t 31)⟩,
   ⟨none, (some 32), .ext (.t 29) 0⟩,
   ⟨none, (some 33), .ext (.t 29) 1⟩,
   ⟨none, (some 7), .mov (.t 32)⟩,
   ⟨none, (some 8), .mov (.t 33)⟩])
 (.seq (.ops [
   ⟨none, (some 35), .mov (.t 5)⟩,
   ⟨none, (some 36), .call 29 [(.t 35), (.c (.str [98]))]⟩,
   ⟨none, (some 34), .mov (.t 36)⟩,
   ⟨none, (some 37), .ext (.t 34) 0⟩,
   ⟨none, (some 38), .ext (.t 34) 1⟩,
   ⟨none, (some 9), .mov (.t 37)⟩,
   ⟨none, (some 10), .mov (.t 38)⟩])
 (.seq (.ops [
   ⟨none, (some 39), .mov (.t 1)⟩,
   ⟨none, (some 40), .bin .eql (.t 39) (.c (.int .i64 1))⟩,
   ⟨none, (some 41), .mov (.t 40)⟩,
   ⟨(some (41, true)), (some 42), .mov (.t 2)⟩,
   ⟨none, (some 43), .pick (.t 41) (.t 42) (.c (.b false))⟩,
   ⟨none, (some 44), .mov (.t 43)⟩,
   ⟨(some (44, true)), (some 45), .mov (.t 3)⟩,
   ⟨(some (44, true)), (some 46), .bin .eql (.t 45) (.c (.int .i64 1))⟩,
   ⟨none, (some 47), .pick (.t 44) (.t 46) (.c (.b false))⟩,
   ⟨none, (some 48), .mov (.t 47)⟩,
   ⟨(some (48, true)), (some 49), .mov (.t 4)⟩,
   ⟨(some (48, true)), (some 50), .un .not (.t 49)⟩,
   ⟨none, (some 51), .pick (.t 48) (.t 50) (.c (.b false))⟩,
   ⟨none, (some 52), .mov (.t 51)⟩,
   ⟨(some (52, true)), (some 53), .mov (.t 7)⟩,
   ⟨(some (52, true)), (some 54), .bin .eql (.t 53) (.c (.int .i64 2))⟩,
   ⟨none, (some 55), .pick (.t 52) (.t 54) (.c (.b false))⟩,
   ⟨none, (some 56), .mov (.t 55)⟩,
   ⟨(some (56, true)), (some 57), .mov (.t 8)⟩,
   ⟨(some (56, true)), (some 58), .un .not (.t 57)⟩,
   ⟨none, (some 59), .pick (.t 56) (.t 58) (.c (.b false))⟩,
   ⟨none, (some 60), .mov (.t 59)⟩,
   ⟨(some (60, true)), (some 61), .mov (.t 9)⟩,
   ⟨(some (60, true)), (some 62), .bin .eql (.t 61) (.c (.int .i64 1))⟩,
   ⟨none, (some 63), .pick (.t 60) (.t 62) (.c (.b false))⟩,
   ⟨none, (some 64), .mov (.t 63)⟩,
   ⟨(some (64, true)), (some 65), .mov (.t 10)⟩,
   ⟨none, (some 66), .pick (.t 64) (.t 65) (.c (.b false))⟩,
   ⟨none, (some 0), .mov (.t 66)⟩])
 (.ret))))))))⟩
theorem rf26_eq : cfnAt Try.prog 26 [] = some rf26 := by kernel_rfl
/-- hackle/kmp.New -/
def rf27 : RFn := ⟨1, 14, [.tmp 2, .tmp 3],
 .seq (.ops [
   ⟨none, (some 2), .mov (.c (.lit (.pointer none)))⟩,
   ⟨none, (some 3), .mov (.c (.int .i64 0))⟩])
 (.seq (.seq (.ops [
    ⟨none, (some 4), .mov (.t 0)⟩,
    ⟨none, (some 5), .bin .eql (.t 4) (.c (.str []))⟩])
  (.cond (.t 5)
   (.seq (.ops [
     ⟨none, (some 2), .mov (.c (.lit (.pointer none)))⟩,
     ⟨none, (some 3), .mov (.c (.int .i64 1))⟩])
   (.ret))
   (.skip)))
 (.seq (.seq (.ops [
    ⟨none, (some 6), .mov (.t 0)⟩,
    ⟨none, (some 7), .call 65 [(.t 6)]⟩,
    ⟨none, (some 8), .un .not (.t 7)⟩])
  (.cond (.t 8)
   (.seq (.ops [
     ⟨none, (some 2), .mov (.c (.lit (.pointer none)))⟩,
     ⟨none, (some 3), .mov (.c (.int .i64 4))⟩])
   (.ret))
   (.skip)))
 (.seq (.ops [
   ⟨none, (some 9), .mov (.t 0)⟩,
   ⟨none, (some 10), .mov (.t 0)⟩,
   ⟨none, (some 11), .call 66 [(.t 10)]⟩,
   ⟨none, (some 12), .build [(.str []), (.isl 0 [] (some 0)), (.int .i64 0), (.int .i64 0), (.int .i64 0), (.b false)] [(0, 1, (.t 9)), (1, 1, (.t 11))]⟩,
   ⟨none, (some 13), .box false (.t 12) 6⟩,
   ⟨none, (some 2), .mov (.t 13)⟩,
   ⟨none, (some 3), .mov (.c (.int .i64 0))⟩])
 (.ret))))⟩
theorem rf27_eq : cfnAt Try.prog 27 [] = some rf27 := by kernel_rfl
/-- hackle/hackleref19.Right -/
def rf28 : RFn := ⟨1, 11, [.tmp 2],
 .seq (.ops [
   ⟨none, (some 2), .mov (.c (.b false))⟩])
 (.seq (.ops [
   ⟨none, (some 3), .mov (.t 0)⟩,
   ⟨none, (some 4), .lenStr (.t 3)⟩,
   ⟨none, (some 5), .bin .geq (.t 4) (.c (.int .i64 1))⟩,
   ⟨none, (some 6), .mov (.t 5)⟩,
   ⟨(some (6, true)), (some 7), .mov (.t 0)⟩,
   ⟨(some (6, true)), (some 8), .lenStr (.t 7)⟩,
   ⟨(some (6, true)), (some 9), .bin .leq (.t 8) (.c (.int .i64 64))⟩,
   ⟨none, (some 10), .pick (.t 6) (.t 9) (.c (.b false))⟩,
   ⟨none, (some 2), .mov (.t 10)⟩])
 (.ret))⟩
theorem rf28_eq : cfnAt Try.prog 28 [] = some rf28 := by kernel_rfl
/-- (*hackle/kmp.Seeker).Feed -/
def rf29 : RFn := ⟨2, 34, [.tmp 4, .tmp 5],
 .seq (.ops [
   ⟨none, (some 4), .mov (.c (.int .i64 0))⟩,
   ⟨none, (some 5), .mov (.c (.b false))⟩])
 (.seq (.seq (.ops [
    ⟨none, (some 7), .mov (.t 0)⟩,
    ⟨none, (some 8), .cmpp false (.t 7) (.c (.lit (.pointer none)))⟩])
  (.cond (.t 8)
   (.seq (.ops [
     ⟨none, (some 4), .mov (.c (.int .i64 0))⟩,
     ⟨none, (some 5), .mov (.c (.b false))⟩])
   (.ret))
   (.skip)))
 (.seq (.seq (.ops [
    ⟨none, (some 9), .mov (.t 0)⟩,
    ⟨none, (some 10), .nilchk (.t 9)⟩,
    ⟨none, (some 11), .fadr (.t 10) 5⟩,
    ⟨none, (some 12), .load (.t 11) 1 false⟩])
  (.cond (.t 12)
   (.seq (.ops [
     ⟨none, (some 4), .mov (.c (.int .i64 0))⟩,
     ⟨none, (some 5), .mov (.c (.b true))⟩])
   (.ret))
   (.skip)))
 (.seq (.seq (.ops [
    ⟨none, (some 13), .mov (.t 1)⟩,
    ⟨none, (some 14), .lenStr (.t 13)⟩,
    ⟨none, (some 15), .mov (.c (.int .i64 0))⟩])
  (.block 0 (.loop [0, 1, 14, 15] (
   .seq (.ops [
     ⟨none, (some 16), .bin .lss (.t 15) (.t 14)⟩])
   (.seq (.cond (.t 16)
     (.skip)
     (.exit 0))
   (.seq (.block 1 (.seq (.ops [
      ⟨none, (some 17), .mov (.t 15)⟩,
      ⟨none, (some 6), .mov (.t 17)⟩])
    (.seq (.ops [
      ⟨none, (some 18), .mov (.t 0)⟩,
      ⟨none, (some 19), .mov (.t 1)⟩,
      ⟨none, (some 20), .mov (.t 6)⟩,
      ⟨none, (some 21), .idxStr (.t 19) (.t 20)⟩,
      ⟨none, (some 22), .call 67 [(.t 18), (.t 21)]⟩])
    (.cond (.t 22)
     (.seq (.ops [
       ⟨none, (some 23), .mov (.t 0)⟩,
       ⟨none, (some 24), .nilchk (.t 23)⟩,
       ⟨none, (some 25), .fadr (.t 24) 5⟩,
       ⟨none, none, .store (.t 25) (.c (.b true)) 1⟩])
     (.seq (.ops [
       ⟨none, (some 26), .mov (.t 0)⟩,
       ⟨none, (some 27), .nilchk (.t 26)⟩,
       ⟨none, (some 28), .fadr (.t 27) 2⟩,
       ⟨none, none, .store (.t 28) (.c (.int .i64 0)) 1⟩])
     (.seq (.ops [
       ⟨none, (some 29), .mov (.t 6)⟩,
       ⟨none, (some 30), .bin .add (.t 29) (.c (.int .i64 1))⟩,
       ⟨none, (some 4), .mov (.t 30)⟩,
       ⟨none, (some 5), .mov (.c (.b true))⟩])
     (.ret))))
     (.skip)))))
   (.ops [
    ⟨none, (some 31), .bin .add (.t 15) (.c (.int .i64 1))⟩,
    ⟨none, (some 15), .mov (.t 31)⟩])))))))
 (.seq (.ops [
   ⟨none, (some 32), .mov (.t 1)⟩,
   ⟨none, (some 33), .lenStr (.t 32)⟩,
   ⟨none, (some 4), .mov (.t 33)⟩,
   ⟨none, (some 5), .mov (.c (.b false))⟩])
 (.ret)))))⟩
theorem rf29_eq : cfnAt Try.prog 29 [[0, 1, 14, 15]] = some rf29 := by kernel_rfl
/-- hackle/hackleref19.Find -/
def rf30 : RFn := ⟨2, 25, [.tmp 4, .tmp 5],
 .seq (.ops [
   ⟨none, (some 4), .mov (.c (.int .i64 0))⟩,
   ⟨none, (some 5), .mov (.c (.b false))⟩])
 (.seq (.seq (.ops [
    ⟨none, (some 6), .mov (.c (.int .i64 0))⟩])
  (.block 0 (.loop [0, 1, 6] (
   .seq (.seq (.ops [
      ⟨none, (some 7), .mov (.t 6)⟩,
      ⟨none, (some 8), .mov (.t 0)⟩,
      ⟨none, (some 9), .lenStr (.t 8)⟩,
      ⟨none, (some 10), .bin .leq (.t 7) (.t 9)⟩])
    (.cond (.t 10)
     (.skip)
     (.exit 0)))
   (.seq (.block 1 (.seq (.seq (.ops [
       ⟨none, (some 13), .mov (.t 0)⟩,
       ⟨none, (some 14), .mov (.t 1)⟩,
       ⟨none, (some 15), .mov (.t 6)⟩,
       ⟨none, (some 16), .call 68 [(.t 13), (.t 14), (.t 15)]⟩])
     (.cond (.t 16)
      (.seq (.ops [
        ⟨none, (some 17), .mov (.t 6)⟩,
        ⟨none, (some 4), .mov (.t 17)⟩,
        ⟨none, (some 5), .mov (.c (.b true))⟩])
      (.ret))
      (.skip)))
    (.seq (.ops [
      ⟨none, (some 18), .mov (.t 0)⟩,
      ⟨none, (some 19), .mov (.t 1)⟩,
      ⟨none, (some 20), .mov (.t 6)⟩,
      ⟨none, (some 21), .call 69 [(.t 18), (.t 19), (.t 20)]⟩])
    (.cond (.t 21)
     (.seq (.ops [
       ⟨none, (some 22), .mov (.t 6)⟩,
       ⟨none, (some 4), .mov (.t 22)⟩,
       ⟨none, (some 5), .mov (.c (.b false))⟩])
     (.ret))
     (.skip)))))
   (.ops [
    ⟨none, (some 11), .mov (.t 6)⟩,
    ⟨none, (some 12), .bin .add (.t 11) (.c (.int .i64 1))⟩,
    ⟨none, (some 6), .mov (.t 12)⟩]))))))
 (.seq (.ops [
   ⟨none, (some 23), .mov (.t 0)⟩,
   ⟨none, (some 24), .lenStr (.t 23)⟩,
   ⟨none, (some 4), .mov (.t 24)⟩,
   ⟨none, (some 5), .mov (.c (.b false))⟩])
 (.ret)))⟩
theorem rf30_eq : cfnAt Try.prog 30 [[0, 1, 6]] = some rf30 := by kernel_rfl
/-- (*hackle/kmp.Seeker).Held -/
def rf31 : RFn := ⟨1, 9, [.tmp 2],
 .seq (.ops [
   ⟨none, (some 2), .mov (.c (.int .i64 0))⟩])
 (.seq (.seq (.ops [
    ⟨none, (some 3), .mov (.t 0)⟩,
    ⟨none, (some 4), .cmpp false (.t 3) (.c (.lit (.pointer none)))⟩])
  (.cond (.t 4)
   (.seq (.ops [
     ⟨none, (some 2), .mov (.c (.int .i64 0))⟩])
   (.ret))
   (.skip)))
 (.seq (.ops [
   ⟨none, (some 5), .mov (.t 0)⟩,
   ⟨none, (some 6), .nilchk (.t 5)⟩,
   ⟨none, (some 7), .fadr (.t 6) 2⟩,
   ⟨none, (some 8), .load (.t 7) 1 false⟩,
   ⟨none, (some 2), .mov (.t 8)⟩])
 (.ret)))⟩
theorem rf31_eq : cfnAt Try.prog 31 [] = some rf31 := by kernel_rfl
/-- (*hackle/kmp.Seeker).Fed -/
def rf32 : RFn := ⟨1, 9, [.tmp 2],
 .seq (.ops [
   ⟨none, (some 2), .mov (.c (.int .i64 0))⟩])
 (.seq (.seq (.ops [
    ⟨none, (some 3), .mov (.t 0)⟩,
    ⟨none, (some 4), .cmpp false (.t 3) (.c (.lit (.pointer none)))⟩])
  (.cond (.t 4)
   (.seq (.ops [
     ⟨none, (some 2), .mov (.c (.int .i64 0))⟩])
   (.ret))
   (.skip)))
 (.seq (.ops [
   ⟨none, (some 5), .mov (.t 0)⟩,
   ⟨none, (some 6), .nilchk (.t 5)⟩,
   ⟨none, (some 7), .fadr (.t 6) 3⟩,
   ⟨none, (some 8), .load (.t 7) 1 false⟩,
   ⟨none, (some 2), .mov (.t 8)⟩])
 (.ret)))⟩
theorem rf32_eq : cfnAt Try.prog 32 [] = some rf32 := by kernel_rfl
/-- (*hackle/kmp.Seeker).Steps -/
def rf33 : RFn := ⟨1, 9, [.tmp 2],
 .seq (.ops [
   ⟨none, (some 2), .mov (.c (.int .i64 0))⟩])
 (.seq (.seq (.ops [
    ⟨none, (some 3), .mov (.t 0)⟩,
    ⟨none, (some 4), .cmpp false (.t 3) (.c (.lit (.pointer none)))⟩])
  (.cond (.t 4)
   (.seq (.ops [
     ⟨none, (some 2), .mov (.c (.int .i64 0))⟩])
   (.ret))
   (.skip)))
 (.seq (.ops [
   ⟨none, (some 5), .mov (.t 0)⟩,
   ⟨none, (some 6), .nilchk (.t 5)⟩,
   ⟨none, (some 7), .fadr (.t 6) 4⟩,
   ⟨none, (some 8), .load (.t 7) 1 false⟩,
   ⟨none, (some 2), .mov (.t 8)⟩])
 (.ret)))⟩
theorem rf33_eq : cfnAt Try.prog 33 [] = some rf33 := by kernel_rfl
/-- hackle/kmp.Find -/
def rf64 : RFn := ⟨3, 39, [.tmp 6, .tmp 7],
 .seq (.ops [
   ⟨none, (some 6), .mov (.c (.int .i64 0))⟩,
   ⟨none, (some 7), .mov (.c (.b false))⟩])
 (.seq (.ops [
   ⟨none, (some 14), .mov (.t 1)⟩,
   ⟨none, (some 15), .call 27 [(.t 14)]⟩,
   ⟨none, (some 13), .mov (.t 15)⟩,
   ⟨none, (some 16), .ext (.t 13) 0⟩,
   ⟨none, (some 17), .ext (.t 13) 1⟩,
   ⟨none, (some 8), .mov (.t 16)⟩,
   ⟨none, (some 9), .mov (.t 17)⟩])
 (.seq (.seq (.ops [
    ⟨none, (some 18), .mov (.t 9)⟩,
    ⟨none, (some 19), .bin .neq (.t 18) (.c (.int .i64 0))⟩])
  (.cond (.t 19)
   (.seq (.ops [
     ⟨none, (some 6), .mov (.c (.int .i64 0))⟩,
     ⟨none, (some 7), .mov (.c (.b false))⟩])
   (.ret))
   (.skip)))
 (.seq (.ops [
   ⟨none, (some 21), .mov (.t 8)⟩,
   ⟨none, (some 22), .mov (.t 0)⟩,
   ⟨none, (some 23), .call 29 [(.t 21), (.t 22)]⟩,
   ⟨none, (some 20), .mov (.t 23)⟩,
   ⟨none, (some 24), .ext (.t 20) 0⟩,
   ⟨none, (some 25), .ext (.t 20) 1⟩,
   ⟨none, (some 10), .mov (.t 24)⟩,
   ⟨none, (some 11), .mov (.t 25)⟩])
 (.seq (.seq (.ops [
    ⟨none, (some 26), .mov (.t 11)⟩])
  (.cond (.t 26)
   (.seq (.ops [
     ⟨none, (some 27), .mov (.t 10)⟩,
     ⟨none, (some 28), .mov (.t 1)⟩,
     ⟨none, (some 29), .lenStr (.t 28)⟩,
     ⟨none, (some 30), .bin .sub (.t 27) (.t 29)⟩,
     ⟨none, (some 12), .mov (.t 30)⟩])
   (.seq (.ops [
     ⟨none, (some 31), .mov (.t 12)⟩,
     ⟨none, (some 32), .mov (.t 12)⟩,
     ⟨none, (some 33), .mov (.t 2)⟩,
     ⟨none, (some 34), .bin .leq (.t 32) (.t 33)⟩,
     ⟨none, (some 6), .mov (.t 31)⟩,
     ⟨none, (some 7), .mov (.t 34)⟩])
   (.ret)))
   (.skip)))
 (.seq (.ops [
   ⟨none, (some 35), .mov (.t 10)⟩,
   ⟨none, (some 36), .mov (.t 8)⟩,
   ⟨none, (some 37), .call 31 [(.t 36)]⟩,
   ⟨none, (some 38), .bin .sub (.t 35) (.t 37)⟩,
   ⟨none, (some 6), .mov (.t 38)⟩,
   ⟨none, (some 7), .mov (.c (.b false))⟩])
 (.ret))))))⟩
theorem rf64_eq : cfnAt Try.prog 64 [] = some rf64 := by kernel_rfl
/-- hackle/kmp.right -/
def rf65 : RFn := ⟨1, 11, [.tmp 2],
 .seq (.ops [
   ⟨none, (some 2), .mov (.c (.b false))⟩])
 (.seq (.ops [
   ⟨none, (some 3), .mov (.t 0)⟩,
   ⟨none, (some 4), .lenStr (.t 3)⟩,
   ⟨none, (some 5), .bin .gtr (.t 4) (.c (.int .i64 0))⟩,
   ⟨none, (some 6), .mov (.t 5)⟩,
   ⟨(some (6, true)), (some 7), .mov (.t 0)⟩,
   ⟨(some (6, true)), (some 8), .lenStr (.t 7)⟩,
   ⟨(some (6, true)), (some 9), .bin .leq (.t 8) (.c (.int .i64 64))⟩,
   ⟨none, (some 10), .pick (.t 6) (.t 9) (.c (.b false))⟩,
   ⟨none, (some 2), .mov (.t 10)⟩])
 (.ret))⟩
theorem rf65_eq : cfnAt Try.prog 65 [] = some rf65 := by kernel_rfl
/-- hackle/kmp.back -/
def rf66 : RFn := ⟨1, 52, [.tmp 2],
 .seq (.ops [
   ⟨none, (some 2), .mov (.c (.isl 0 [] (some 0)))⟩])
 (.seq (.ops [
   ⟨none, (some 3), .alloc true (List.replicate 65 (.int .i64 0))⟩])
 (.seq (.ops [
   ⟨none, (some 4), .mov (.c (.int .i64 0))⟩])
 (.seq (.seq (.ops [
    ⟨none, (some 5), .mov (.c (.int .i64 1))⟩])
  (.block 0 (.loop [0, 3, 4, 5, 16, 17, 18, 19, 20, 21, 22] (
   .seq (.seq (.ops [
      ⟨none, (some 7), .mov (.t 5)⟩,
      ⟨none, (some 8), .mov (.t 0)⟩,
      ⟨none, (some 9), .lenStr (.t 8)⟩,
      ⟨none, (some 10), .bin .lss (.t 7) (.t 9)⟩])
    (.cond (.t 10)
     (.skip)
     (.exit 0)))
   (.seq (.block 1 (.seq (.block 2 (.loop [0, 3, 4, 5, 16, 17, 18, 19, 20, 21, 22] (
      .seq (.seq (.draw (
         .take ⟨none, (some 13), .mov (.t 4)⟩ <|
         .take ⟨none, (some 14), .bin .gtr (.t 13) (.c (.int .i64 0))⟩ <|
         .take ⟨none, (some 15), .mov (.t 14)⟩ <|
         .take ⟨(some (15, true)), (some 16), .mov (.t 0)⟩ <|
         .take ⟨(some (15, true)), (some 17), .mov (.t 4)⟩ <|
         .take ⟨(some (15, true)), (some 18), .idxStr (.t 16) (.t 17)⟩ <|
         .take ⟨(some (15, true)), (some 19), .mov (.t 0)⟩ <|
         .take ⟨(some (15, true)), (some 20), .mov (.t 5)⟩ <|
         .take ⟨(some (15, true)), (some 21), .idxStr (.t 19) (.t 20)⟩ <|
         .take ⟨(some (15, true)), (some 22), .bin .neq (.t 18) (.t 21)⟩ <|
         .take ⟨none, (some 23), .pick (.t 15) (.t 22) (.c (.b false))⟩ <|
         .done))
       (.cond (.t 23)
        (.skip)
        (.exit 2)))
      (.block 3 (.ops [
       ⟨none, (some 24), .mov (.t 4)⟩,
       ⟨none, (some 25), .idxA (.t 3) (.t 24) 65 1⟩,
       ⟨none, (some 26), .load (.t 25) 1 false⟩,
       ⟨none, (some 4), .mov (.t 26)⟩])))))
    (.seq (.seq (.draw (
       .take ⟨none, (some 27), .mov (.t 0)⟩ <|
       .take ⟨none, (some 28), .mov (.t 4)⟩ <|
       .take ⟨none, (some 29), .idxStr (.t 27) (.t 28)⟩ <|
       .take ⟨none, (some 30), .mov (.t 0)⟩ <|
       .take ⟨none, (some 31), .mov (.t 5)⟩ <|
       .take ⟨none, (some 32), .idxStr (.t 30) (.t 31)⟩ <|
       .take ⟨none, (some 33), .bin .eql (.t 29) (.t 32)⟩ <|
       .done))
     (.cond (.t 33)
      (.ops [
       ⟨none, (some 34), .mov (.t 4)⟩,
       ⟨none, (some 35), .bin .add (.t 34) (.c (.int .i64 1))⟩,
       ⟨none, (some 4), .mov (.t 35)⟩])
      (.skip)))
    (.ops [
     ⟨none, (some 36), .mov (.t 5)⟩,
     ⟨none, (some 37), .bin .add (.t 36) (.c (.int .i64 1))⟩,
     ⟨none, (some 38), .mov (.t 4)⟩,
     ⟨none, (some 39), .idxA (.t 3) (.t 37) 65 1⟩,
     ⟨none, none, .store (.t 39) (.t 38) 1⟩]))))
   (.ops [
    ⟨none, (some 11), .mov (.t 5)⟩,
    ⟨none, (some 12), .bin .add (.t 11) (.c (.int .i64 1))⟩,
    ⟨none, (some 5), .mov (.t 12)⟩]))))))
 (.seq (.ops [
   ⟨none, (some 40), .mov (.t 0)⟩,
   ⟨none, (some 41), .lenStr (.t 40)⟩,
   ⟨none, (some 42), .bin .add (.t 41) (.c (.int .i64 1))⟩,
   ⟨none, (some 43), .mksl [(.int .i64 0)] 1 8 (.t 42) (.t 42)⟩,
   ⟨none, (some 6), .mov (.t 43)⟩])
 (.seq (.ops [
   ⟨none, (some 44), .mov (.t 6)⟩,
   ⟨none, (some 45), .mov (.t 6)⟩,
   ⟨none, (some 46), .len (.t 45)⟩,
   ⟨none, (some 47), .mov (.t 6)⟩,
   ⟨none, (some 48), .len (.t 47)⟩,
   ⟨none, (some 49), .slcA (.t 3) none (some (.t 46)) (some (.t 48)) 65 1⟩,
   ⟨none, (some 50), .copy (.t 44) (.t 49) 1⟩])
 (.seq (.ops [
   ⟨none, (some 51), .mov (.t 6)⟩,
   ⟨none, (some 2), .mov (.t 51)⟩])
 (.ret)))))))⟩
theorem rf66_eq : cfnAt Try.prog 66 [[0, 3, 4, 5, 16, 17, 18, 19, 20, 21, 22], [0, 3, 4, 5, 16, 17, 18, 19, 20, 21, 22]] = some rf66 := by kernel_rfl
/-- (*hackle/kmp.Seeker).byte -/
def rf67 : RFn := ⟨2, 54, [.tmp 4],
 .seq (.ops [
   ⟨none, (some 4), .mov (.c (.b false))⟩])
 (.seq (.ops [
   ⟨none, (some 6), .mov (.t 0)⟩,
   ⟨none, (some 7), .nilchk (.t 6)⟩,
   ⟨none, (some 8), .fadr (.t 7) 3⟩,
   ⟨none, (some 9), .load (.t 8) 1 false⟩,
   ⟨none, (some 10), .bin .add (.t 9) (.c (.int .i64 1))⟩,
   ⟨none, (some 11), .nilchk (.t 6)⟩,
   ⟨none, (some 12), .fadr (.t 11) 3⟩,
   ⟨none, none, .store (.t 12) (.t 10) 1⟩])
 (.seq (.ops [
   ⟨none, (some 13), .mov (.t 0)⟩,
   ⟨none, (some 14), .mkfn 85 [(.t 13)] []⟩,
   ⟨none, (some 5), .mov (.t 14)⟩])
 (.seq (.block 0 (.loop [0, 1, 5] (
   .seq (.seq (.ops [
      ⟨none, (some 15), .mov (.t 5)⟩,
      ⟨none, (some 16), .mov (.t 1)⟩,
      ⟨none, (some 17), .callv (.t 15) [(.t 16)]⟩,
      ⟨none, (some 18), .un .not (.t 17)⟩])
    (.cond (.t 18)
     (.skip)
     (.exit 0)))
   (.block 1 (.seq (.seq (.ops [
      ⟨none, (some 19), .mov (.t 0)⟩,
      ⟨none, (some 20), .nilchk (.t 19)⟩,
      ⟨none, (some 21), .fadr (.t 20) 2⟩,
      ⟨none, (some 22), .load (.t 21) 1 false⟩,
      ⟨none, (some 23), .bin .eql (.t 22) (.c (.int .i64 0))⟩])
    (.cond (.t 23)
     (.seq (.ops [
       ⟨none, (some 4), .mov (.c (.b false))⟩])
     (.ret))
     (.skip)))
   (.draw (
    .take ⟨none, (some 24), .mov (.t 0)⟩ <|
    .take ⟨none, (some 25), .mov (.t 0)⟩ <|
    .take ⟨none, (some 26), .nilchk (.t 25)⟩ <|
    .take ⟨none, (some 27), .fadr (.t 26) 1⟩ <|
    .take ⟨none, (some 28), .load (.t 27) 1 false⟩ <|
    .take ⟨none, (some 29), .mov (.t 0)⟩ <|
    .take ⟨none, (some 30), .nilchk (.t 29)⟩ <|
    .take ⟨none, (some 31), .fadr (.t 30) 2⟩ <|
    .take ⟨none, (some 32), .load (.t 31) 1 false⟩ <|
    .take ⟨none, (some 33), .idxS (.t 28) (.t 32) 1⟩ <|
    .take ⟨none, (some 34), .load (.t 33) 1 false⟩ <|
    .take ⟨none, (some 35), .nilchk (.t 24)⟩ <|
    .take ⟨none, (some 36), .fadr (.t 35) 2⟩ <|
    .alt ⟨none, none, .store (.t 36) (.t 34) 1⟩ true (
     .done)
     (.noalt))))))))
 (.seq (.ops [
   ⟨none, (some 37), .mov (.t 0)⟩,
   ⟨none, (some 38), .nilchk (.t 37)⟩,
   ⟨none, (some 39), .fadr (.t 38) 2⟩,
   ⟨none, (some 40), .load (.t 39) 1 false⟩,
   ⟨none, (some 41), .bin .add (.t 40) (.c (.int .i64 1))⟩,
   ⟨none, (some 42), .nilchk (.t 37)⟩,
   ⟨none, (some 43), .fadr (.t 42) 2⟩,
   ⟨none, none, .store (.t 43) (.t 41) 1⟩])
 (.seq (.draw (
   .take ⟨none, (some 44), .mov (.t 0)⟩ <|
   .take ⟨none, (some 45), .nilchk (.t 44)⟩ <|
   .take ⟨none, (some 46), .fadr (.t 45) 2⟩ <|
   .take ⟨none, (some 47), .load (.t 46) 1 false⟩ <|
   .take ⟨none, (some 48), .mov (.t 0)⟩ <|
   .take ⟨none, (some 49), .nilchk (.t 48)⟩ <|
   .take ⟨none, (some 50), .fadr (.t 49) 0⟩ <|
   .take ⟨none, (some 51), .load (.t 50) 1 false⟩ <|
   .take ⟨none, (some 52), .lenStr (.t 51)⟩ <|
   .take ⟨none, (some 53), .bin .eql (.t 47) (.t 52)⟩ <|
   .take ⟨none, (some 4), .mov (.t 53)⟩ <|
   .done))
 (.ret))))))⟩
theorem rf67_eq : cfnAt Try.prog 67 [[0, 1, 5]] = some rf67 := by kernel_rfl
/-- hackle/hackleref19.Stands -/
def rf68 : RFn := ⟨3, 25, [.tmp 6],
 .seq (.ops [
   ⟨none, (some 6), .mov (.c (.b false))⟩])
 (.seq (.ops [
   ⟨none, (some 7), .mov (.t 1)⟩,
   ⟨none, (some 8), .lenStr (.t 7)⟩,
   ⟨none, (some 9), .mov (.t 0)⟩,
   ⟨none, (some 10), .lenStr (.t 9)⟩,
   ⟨none, (some 11), .mov (.t 2)⟩,
   ⟨none, (some 12), .bin .sub (.t 10) (.t 11)⟩,
   ⟨none, (some 13), .bin .leq (.t 8) (.t 12)⟩,
   ⟨none, (some 14), .mov (.t 13)⟩,
   ⟨(some (14, true)), (some 15), .mov (.t 0)⟩,
   ⟨(some (14, true)), (some 16), .mov (.t 2)⟩,
   ⟨(some (14, true)), (some 17), .mov (.t 2)⟩,
   ⟨(some (14, true)), (some 18), .mov (.t 1)⟩,
   ⟨(some (14, true)), (some 19), .lenStr (.t 18)⟩,
   ⟨(some (14, true)), (some 20), .bin .add (.t 17) (.t 19)⟩,
   ⟨(some (14, true)), (some 21), .slcStr (.t 15) (some (.t 16)) (some (.t 20))⟩,
   ⟨(some (14, true)), (some 22), .mov (.t 1)⟩,
   ⟨(some (14, true)), (some 23), .bin .eql (.t 21) (.t 22)⟩,
   ⟨none, (some 24), .pick (.t 14) (.t 23) (.c (.b false))⟩,
   ⟨none, (some 6), .mov (.t 24)⟩])
 (.ret))⟩
theorem rf68_eq : cfnAt Try.prog 68 [] = some rf68 := by kernel_rfl
/-- hackle/hackleref19.MayBegin -/
def rf69 : RFn := ⟨3, 25, [.tmp 6],
 .seq (.ops [
   ⟨none, (some 6), .mov (.c (.b false))⟩])
 (.seq (.ops [
   ⟨none, (some 8), .mov (.t 0)⟩,
   ⟨none, (some 9), .lenStr (.t 8)⟩,
   ⟨none, (some 10), .mov (.t 2)⟩,
   ⟨none, (some 11), .bin .sub (.t 9) (.t 10)⟩,
   ⟨none, (some 7), .mov (.t 11)⟩])
 (.seq (.draw (
   .take ⟨none, (some 12), .mov (.t 7)⟩ <|
   .take ⟨none, (some 13), .mov (.t 1)⟩ <|
   .take ⟨none, (some 14), .lenStr (.t 13)⟩ <|
   .take ⟨none, (some 15), .bin .lss (.t 12) (.t 14)⟩ <|
   .take ⟨none, (some 16), .mov (.t 15)⟩ <|
   .take ⟨(some (16, true)), (some 17), .mov (.t 0)⟩ <|
   .take ⟨(some (16, true)), (some 18), .mov (.t 2)⟩ <|
   .take ⟨(some (16, true)), (some 19), .slcStr (.t 17) (some (.t 18)) none⟩ <|
   .take ⟨(some (16, true)), (some 20), .mov (.t 1)⟩ <|
   .take ⟨(some (16, true)), (some 21), .mov (.t 7)⟩ <|
   .take ⟨(some (16, true)), (some 22), .slcStr (.t 20) none (some (.t 21))⟩ <|
   .take ⟨(some (16, true)), (some 23), .bin .eql (.t 19) (.t 22)⟩ <|
   .take ⟨none, (some 24), .pick (.t 16) (.t 23) (.c (.b false))⟩ <|
   .take ⟨none, (some 6), .mov (.t 24)⟩ <|
   .done))
 (.ret)))⟩
theorem rf69_eq : cfnAt Try.prog 69 [] = some rf69 := by kernel_rfl
/-- (*hackle/kmp.Seeker).is -/
def rf85 : RFn := ⟨2, 23, [.tmp 4],
 .seq (.ops [
   ⟨none, (some 4), .mov (.c (.b false))⟩])
 (.seq (.ops [
   ⟨none, (some 5), .mov (.t 0)⟩,
   ⟨none, (some 6), .nilchk (.t 5)⟩,
   ⟨none, (some 7), .fadr (.t 6) 4⟩,
   ⟨none, (some 8), .load (.t 7) 1 false⟩,
   ⟨none, (some 9), .bin .add (.t 8) (.c (.int .i64 1))⟩,
   ⟨none, (some 10), .nilchk (.t 5)⟩,
   ⟨none, (some 11), .fadr (.t 10) 4⟩,
   ⟨none, none, .store (.t 11) (.t 9) 1⟩])
 (.seq (.draw (
   .take ⟨none, (some 12), .mov (.t 0)⟩ <|
   .take ⟨none, (some 13), .nilchk (.t 12)⟩ <|
   .take ⟨none, (some 14), .fadr (.t 13) 0⟩ <|
   .take ⟨none, (some 15), .load (.t 14) 1 false⟩ <|
   .take ⟨none, (some 16), .mov (.t 0)⟩ <|
   .take ⟨none, (some 17), .nilchk (.t 16)⟩ <|
   .take ⟨none, (some 18), .fadr (.t 17) 2⟩ <|
   .take ⟨none, (some 19), .load (.t 18) 1 false⟩ <|
   .take ⟨none, (some 20), .idxStr (.t 15) (.t 19)⟩ <|
   .take ⟨none, (some 21), .mov (.t 1)⟩ <|
   .take ⟨none, (some 22), .bin .eql (.t 20) (.t 21)⟩ <|
   .take ⟨none, (some 4), .mov (.t 22)⟩ <|
   .done))
 (.ret)))⟩
theorem rf85_eq : cfnAt Try.prog 85 [] = some rf85 := by kernel_rfl
end Hk
