import Derived.Test.YtmcojkkpanijjaaFw41
import Derived.Test.YtmcojkkpanijjaaRows
namespace Go.Proofs.Ytmcojkkpanijjaa.T
open Go.Dn
/-! 3: gossamer/gossamerlaw22.ShortPlays -/
def c3_k0 : C :=
  .seq (.ops [6] [.p (some 135) (.move (.t 23)),
    .p (some 136) (.move (.t 25)),
    .call (some 137) 17 [(.t 135), (.t 136)],
    .p (some 138) (.move (.t 137)),
    .when 138 true [.p (some 139) (.move (.t 24)),
      .p (some 140) (.move (.t 26)),
      .call (some 141) 18 [(.t 139), (.t 140)]],
    .p (some 142) (.pick (.t 138) (.t 141) (.c (.bool false))),
    .p (some 6) (.move (.t 142))])
  (.ret)
def c3_k1 : C :=
  .seq (.ops [23, 24, 25, 26] [.p (some 130) (.move (.t 9)),
    .p (some 131) (.move (.t 22)),
    .call (some 132) 16 [(.t 130), (.t 131)],
    .p (some 129) (.move (.t 132)),
    .p (some 133) (.extract (.t 129) 0),
    .p (some 134) (.extract (.t 129) 1),
    .p (some 25) (.move (.t 133)),
    .p (some 26) (.move (.t 134))])
  (c3_k0)
def c3_k2 : C :=
  .seq (.ops [9, 22, 23, 24] [.p (some 124) (.move (.t 7)),
    .p (some 125) (.move (.t 22)),
    .call (some 126) 15 [(.t 124), (.t 125)],
    .p (some 123) (.move (.t 126)),
    .p (some 127) (.extract (.t 123) 0),
    .p (some 128) (.extract (.t 123) 1),
    .p (some 23) (.move (.t 127)),
    .p (some 24) (.move (.t 128))])
  (c3_k1)
def c3_k3 : C :=
  .seq (.ops [7, 9, 22] [.p (some 117) (.bslice 46 0 1 [(.int .u32 0)] []),
    .p (some 118) (.move (.t 2)),
    .e (some 119) (.append 46 1 4 (.t 117) (.t 118)),
    .p (some 120) (.move (.t 9)),
    .call (some 121) 12 [(.t 120)],
    .e (some 122) (.append 46 1 4 (.t 119) (.t 121)),
    .p (some 22) (.move (.t 122))])
  (c3_k2)
def c3_k4 : C :=
  .cond (.t 115)
    (.seq (.ops [6] [.p (some 6) (.move (.c (.bool false)))])
    (.ret))
    (.skip)
def c3_k5 : C :=
  .seq (.ops [2, 7, 9, 90, 91, 92, 115] [.p (some 108) (.load true 32 (.t 18)),
    .p (some 109) (.load true 32 (.t 20)),
    .p (some 110) (.bin .neq .flat (List.replicate 32 (.int .u8)) (.t 108) (.t 109)),
    .p (some 111) (.move (.t 110)),
    .when 111 false [.p (some 112) (.move (.t 19)),
      .p (some 113) (.move (.t 21)),
      .p (some 114) (.bin .neq .bool [] (.t 112) (.t 113))],
    .p (some 115) (.pick (.t 111) (.c (.bool true)) (.t 114))])
  (c3_k4)
def c3_k6 : C :=
  .seq (.ops [2, 7, 9, 18, 19, 20, 21, 90, 91, 92] [.p (some 103) (.move (.t 9)),
    .p (some 104) (.move (.t 17)),
    .call (some 105) 14 [(.t 103), (.t 104)],
    .p (some 102) (.move (.t 105)),
    .p (some 106) (.extract (.t 102) 0),
    .p (some 107) (.extract (.t 102) 1),
    .e (some 20) (.alloc (List.replicate 32 (.d (.int .u8 0)))),
    .e .none (.store 32 (.t 20) (.t 106)),
    .p (some 21) (.move (.t 107))])
  (c3_k5)
def c3_k7 : C :=
  .seq (.ops [2, 7, 9, 17, 18, 19, 90, 91, 92] [.p (some 97) (.move (.t 7)),
    .p (some 98) (.move (.t 17)),
    .call (some 99) 13 [(.t 97), (.t 98)],
    .p (some 96) (.move (.t 99)),
    .p (some 100) (.extract (.t 96) 0),
    .p (some 101) (.extract (.t 96) 1),
    .e (some 18) (.alloc (List.replicate 32 (.d (.int .u8 0)))),
    .e .none (.store 32 (.t 18) (.t 100)),
    .p (some 19) (.move (.t 101))])
  (c3_k6)
def c3_k8 : C :=
  .seq (.ops [2, 7, 9, 17, 90, 91, 92] [.p (some 94) (.iaddr 1 (.t 90) (.t 92)),
    .p (some 95) (.load false 1 (.t 94)),
    .p (some 17) (.move (.t 95))])
  (c3_k7)
def c3_k9 : C :=
  .seq (.block 5 (c3_k8))
  (.ops [2, 7, 9, 90, 91, 92] [.p (some 116) (.bin .add .int [] (.t 92) (.c (.int .i64 1))),
    .p (some 92) (.move (.t 116))])
def c3_k10 : C :=
  .seq (.cond (.t 93)
    (.skip)
    (.exit 4))
  (c3_k9)
def c3_l11 : C :=
  .seq (.ops [2, 7, 9, 90, 91, 92, 93] [.p (some 93) (.bin .lss .int [] (.t 92) (.t 91))])
  (c3_k10)
def c3_k12 : C :=
  .block 4 (.loop [2, 7, 9, 90, 91, 92] c3_l11)
def c3_k13 : C :=
  .seq (.seq (.ops [2, 7, 9, 90, 91, 92] [.p (some 87) (.move (.t 9)),
    .call (some 88) 12 [(.t 87)],
    .p (some 89) (.move (.t 2)),
    .e (some 90) (.append 46 1 4 (.t 88) (.t 89)),
    .p (some 91) (.len .slice (.t 90)),
    .p (some 92) (.move (.c (.int .i64 0)))])
  (c3_k12))
  (c3_k3)
def c3_k14 : C :=
  .cond (.t 85)
    (.seq (.ops [6] [.p (some 6) (.move (.c (.bool false)))])
    (.ret))
    (.skip)
def c3_k15 : C :=
  .seq (.ops [2, 7, 9, 59, 60, 61, 85] [.p (some 80) (.move (.t 7)),
    .p (some 81) (.faddr 1 (.t 12)),
    .p (some 82) (.load true 32 (.t 81)),
    .call (some 83) 11 [(.t 80), (.t 82)],
    .p (some 84) (.move (.t 13)),
    .p (some 85) (.bin .neq .bool [] (.t 83) (.t 84))])
  (c3_k14)
def c3_k16 : C :=
  .ops [2, 7, 9, 12, 13, 59, 60, 61, 66, 67, 68] [.p (some 72) (.move (.t 13)),
    .p (some 73) (.move (.t 72)),
    .when 73 false [.p (some 74) (.load true 32 (.t 15)),
      .p (some 75) (.faddr 1 (.t 12)),
      .p (some 76) (.load true 32 (.t 75)),
      .p (some 77) (.bin .eql .flat (List.replicate 32 (.int .u8)) (.t 74) (.t 76))],
    .p (some 78) (.pick (.t 73) (.c (.bool true)) (.t 77)),
    .p (some 13) (.move (.t 78))]
def c3_k17 : C :=
  .seq (.block 3 (.seq (.ops [2, 7, 9, 12, 13, 15, 59, 60, 61, 66, 67, 68] [.p (some 70) (.iaddr 32 (.t 66) (.t 68)),
    .p (some 71) (.load true 32 (.t 70)),
    .e (some 15) (.alloc (List.replicate 32 (.d (.int .u8 0)))),
    .e .none (.store 32 (.t 15) (.t 71))])
  (c3_k16)))
  (.ops [2, 7, 9, 12, 13, 59, 60, 61, 66, 67, 68] [.p (some 79) (.bin .add .int [] (.t 68) (.c (.int .i64 1))),
    .p (some 68) (.move (.t 79))])
def c3_k18 : C :=
  .seq (.cond (.t 69)
    (.skip)
    (.exit 2))
  (c3_k17)
def c3_l19 : C :=
  .seq (.ops [2, 7, 9, 12, 13, 59, 60, 61, 66, 67, 68, 69] [.p (some 69) (.bin .lss .int [] (.t 68) (.t 67))])
  (c3_k18)
def c3_k20 : C :=
  .block 2 (.loop [2, 7, 9, 12, 13, 59, 60, 61, 66, 67, 68] c3_l19)
def c3_k21 : C :=
  .seq (.seq (.ops [2, 7, 9, 12, 13, 59, 60, 61, 66, 67, 68] [.p (some 65) (.move (.t 9)),
    .call (some 66) 10 [(.t 65)],
    .p (some 67) (.len .slice (.t 66)),
    .p (some 68) (.move (.c (.int .i64 0)))])
  (c3_k20))
  (c3_k15)
def c3_k22 : C :=
  .seq (.ops [2, 7, 9, 12, 13, 59, 60, 61] [.p (some 13) (.move (.c (.bool false)))])
  (c3_k21)
def c3_k23 : C :=
  .seq (.ops [2, 7, 9, 12, 59, 60, 61] [.p (some 63) (.iaddr 33 (.t 59) (.t 61)),
    .p (some 64) (.load true 33 (.t 63)),
    .e (some 12) (.alloc [(.d (.bool false)), (.d (.int .u8 0)), (.d (.int .u8 0)), (.d (.int .u8 0)), (.d (.int .u8 0)), (.d (.int .u8 0)), (.d (.int .u8 0)), (.d (.int .u8 0)), (.d (.int .u8 0)), (.d (.int .u8 0)), (.d (.int .u8 0)), (.d (.int .u8 0)), (.d (.int .u8 0)), (.d (.int .u8 0)), (.d (.int .u8 0)), (.d (.int .u8 0)), (.d (.int .u8 0)), (.d (.int .u8 0)), (.d (.int .u8 0)), (.d (.int .u8 0)), (.d (.int .u8 0)), (.d (.int .u8 0)), (.d (.int .u8 0)), (.d (.int .u8 0)), (.d (.int .u8 0)), (.d (.int .u8 0)), (.d (.int .u8 0)), (.d (.int .u8 0)), (.d (.int .u8 0)), (.d (.int .u8 0)), (.d (.int .u8 0)), (.d (.int .u8 0)), (.d (.int .u8 0))]),
    .e .none (.store 33 (.t 12) (.t 64))])
  (c3_k22)
def c3_k24 : C :=
  .seq (.block 1 (c3_k23))
  (.ops [2, 7, 9, 59, 60, 61] [.p (some 86) (.bin .add .int [] (.t 61) (.c (.int .i64 1))),
    .p (some 61) (.move (.t 86))])
def c3_k25 : C :=
  .seq (.cond (.t 62)
    (.skip)
    (.exit 0))
  (c3_k24)
def c3_l26 : C :=
  .seq (.ops [2, 7, 9, 59, 60, 61, 62] [.p (some 62) (.bin .lss .int [] (.t 61) (.t 60))])
  (c3_k25)
def c3_k27 : C :=
  .block 0 (.loop [2, 7, 9, 59, 60, 61] c3_l26)
def c3_k28 : C :=
  .seq (.seq (.ops [2, 7, 9, 59, 60, 61] [.p (some 59) (.move (.t 1)),
    .p (some 60) (.len .slice (.t 59)),
    .p (some 61) (.move (.c (.int .i64 0)))])
  (c3_k27))
  (c3_k13)
def c3_k29 : C :=
  .cond (.t 58)
    (.seq (.ops [6] [.p (some 6) (.move (.c (.bool false)))])
    (.ret))
    (.skip)
def c3_k30 : C :=
  .seq (.seq (.ops [1, 2, 7, 9, 58] [.p (some 57) (.move (.t 10)),
    .p (some 58) (.una .not (.t 57))])
  (c3_k29))
  (c3_k28)
def c3_k31 : C :=
  .seq (.ops [1, 2, 7, 9, 10] [.p (some 51) (.move (.t 7)),
    .p (some 52) (.load true 2 (.t 3)),
    .p (some 53) (.move (.t 1)),
    .call (some 54) 9 [(.t 51), (.c .nils), (.t 52), (.t 53)],
    .p (some 50) (.move (.t 54)),
    .p (some 55) (.extract (.t 50) 0),
    .p (some 56) (.extract (.t 50) 1),
    .p (some 9) (.move (.t 55)),
    .p (some 10) (.move (.t 56))])
  (c3_k30)
def c3_k32 : C :=
  .cond (.t 49)
    (.seq (.ops [6] [.p (some 6) (.move (.c (.bool false)))])
    (.ret))
    (.skip)
def c3_k33 : C :=
  .seq (.seq (.drw [1, 2, 3, 7, 49] 0 [⟨.none, .p (some 42) (.move (.t 8)), [], 0⟩,
    ⟨.none, .p (some 43) (.bin .neq .iface [] (.t 42) (.c .nili)), [0], 0⟩,
    ⟨.none, .p (some 44) (.move (.t 43)), [1], 0⟩,
    ⟨(some (44, false)), .p (some 45) (.move (.t 7)), [2], 0⟩,
    ⟨(some (44, false)), .call (some 46) 8 [(.t 45)], [3, 2, 2], 0⟩,
    ⟨(some (44, false)), .p (some 47) (.load true 2 (.t 3)), [2], 0⟩,
    ⟨(some (44, false)), .p (some 48) (.bin .neq .flat ([(.int .u64), (.int .u64)]) (.t 46) (.t 47)), [4, 5, 2], 0⟩,
    ⟨.none, .p (some 49) (.pick (.t 44) (.c (.bool true)) (.t 48)), [2, 6], 0⟩])
  (c3_k32))
  (c3_k31)
def c3_k34 : C :=
  .seq (.ops [1, 2, 3, 7, 8] [.p (some 38) (.load true 2 (.t 3)),
    .call (some 39) 7 [(.t 38), (.c .nils)],
    .p (some 37) (.move (.t 39)),
    .p (some 40) (.extract (.t 37) 0),
    .p (some 41) (.extract (.t 37) 1),
    .p (some 7) (.move (.t 40)),
    .p (some 8) (.move (.t 41))])
  (c3_k33)
def c3_k35 : C :=
  .cond (.t 36)
    (.seq (.ops [6] [.p (some 6) (.move (.c (.bool true)))])
    (.ret))
    (.skip)
def c3_k36 : C :=
  .seq (.seq (.ops [1, 2, 3, 36] [.p (some 29) (.move (.t 1)),
    .p (some 30) (.len .slice (.t 29)),
    .p (some 31) (.bin .gtr .int [] (.t 30) (.c (.int .i64 30))),
    .p (some 32) (.move (.t 31)),
    .when 32 false [.p (some 33) (.move (.t 2)),
      .p (some 34) (.len .slice (.t 33)),
      .p (some 35) (.bin .gtr .int [] (.t 34) (.c (.int .i64 30)))],
    .p (some 36) (.pick (.t 32) (.c (.bool true)) (.t 35))])
  (c3_k35))
  (c3_k34)
def c3_k37 : C :=
  .cond (.t 28)
    (.seq (.ops [6] [.p (some 6) (.move (.c (.bool false)))])
    (.ret))
    (.skip)
def c3_k38 : C :=
  .seq (.seq (.ops [1, 2, 3, 28] [.call (some 27) 6 [],
    .p (some 28) (.una .not (.t 27))])
  (c3_k37))
  (c3_k36)
def c3 : FnC := ⟨3, 143, [.tmp 6],
  .seq (.ops [1, 2, 3] [.e (some 3) (.box (.t 0)),
    .p (some 6) (.move (.c (.bool false)))])
  (c3_k38),
  []⟩

/-! 6: gossamer/gossamerlaw22.alive -/
def c6_k0 : C :=
  .seq (.ops [0] [.p (some 33) (.move (.t 4)),
    .p (some 34) (.len .slice (.t 33)),
    .p (some 35) (.bin .eql .int [] (.t 34) (.c (.int .i64 1))),
    .p (some 36) (.move (.t 35)),
    .when 36 true [.p (some 37) (.move (.t 4)),
      .p (some 38) (.iaddr 32 (.t 37) (.c (.int .i64 0))),
      .p (some 39) (.load true 32 (.t 38)),
      .p (some 40) (.build (List.replicate 32 (.int .u8 0)) [(0, 1, (.c (.int .u8 7)))]),
      .p (some 41) (.bin .eql .flat (List.replicate 32 (.int .u8)) (.t 39) (.t 40))],
    .p (some 42) (.pick (.t 36) (.t 41) (.c (.bool false))),
    .p (some 43) (.move (.t 42)),
    .when 43 true [.p (some 44) (.move (.t 5)),
      .p (some 45) (.len .slice (.t 44)),
      .p (some 46) (.bin .eql .int [] (.t 45) (.c (.int .i64 1)))],
    .p (some 47) (.pick (.t 43) (.t 46) (.c (.bool false))),
    .p (some 48) (.move (.t 47)),
    .when 48 true [.p (some 49) (.move (.t 5)),
      .p (some 50) (.iaddr 1 (.t 49) (.c (.int .i64 0))),
      .p (some 51) (.load false 1 (.t 50)),
      .p (some 52) (.move (.t 3)),
      .p (some 53) (.bin .add .int [] (.t 52) (.c (.int .u32 1))),
      .p (some 54) (.bin .eql .int [] (.t 51) (.t 53))],
    .p (some 55) (.pick (.t 48) (.t 54) (.c (.bool false))),
    .p (some 0) (.move (.t 55))])
  (.ret)
def c6_k1 : C :=
  .seq (.ops [3, 4, 5] [.p (some 23) (.move (.t 1)),
    .p (some 24) (.move (.t 3)),
    .p (some 25) (.bin .add .int [] (.t 24) (.c (.int .u32 1))),
    .p (some 26) (.move (.t 3)),
    .p (some 27) (.move (.t 3)),
    .p (some 28) (.bin .add .int [] (.t 27) (.c (.int .u32 1))),
    .p (some 29) (.bslice 46 3 1 [(.int .u32 0)] [(0, (.t 25)), (1, (.t 26)), (2, (.t 28))]),
    .call (some 30) 15 [(.t 23), (.t 29)],
    .p (some 22) (.move (.t 30)),
    .p (some 31) (.extract (.t 22) 0),
    .p (some 32) (.extract (.t 22) 1),
    .p (some 4) (.move (.t 31)),
    .p (some 5) (.move (.t 32))])
  (c6_k0)
def c6_k2 : C :=
  .seq (.ops [1, 3] [.p (some 19) (.build [(.int .u64 0), (.int .u64 0)] [(0, 1, (.c (.int .u64 1))), (1, 1, (.c (.int .u64 2)))]),
    .p (some 20) (.build (List.replicate 32 (.int .u8 0)) [(0, 1, (.c (.int .u8 7)))]),
    .call (some 21) 33 [(.t 19), (.t 20)],
    .p (some 3) (.move (.t 21))])
  (c6_k1)
def c6_k3 : C :=
  .cond (.t 18)
    (.seq (.ops [0] [.p (some 0) (.move (.c (.bool false)))])
    (.ret))
    (.skip)
def c6_k4 : C :=
  .seq (.seq (.ops [1, 18] [.p (some 13) (.move (.t 2)),
    .p (some 14) (.bin .neq .iface [] (.t 13) (.c .nili)),
    .p (some 15) (.move (.t 14)),
    .when 15 false [.p (some 16) (.move (.t 1)),
      .p (some 17) (.bin .eql .ptr [] (.t 16) (.c .nilp))],
    .p (some 18) (.pick (.t 15) (.c (.bool true)) (.t 17))])
  (c6_k3))
  (c6_k2)
def c6_k5 : C :=
  .seq (.ops [1, 2] [.p (some 7) (.build [(.int .u64 0), (.int .u64 0)] [(0, 1, (.c (.int .u64 1))), (1, 1, (.c (.int .u64 2)))]),
    .p (some 8) (.build (List.replicate 32 (.int .u8 0)) [(0, 1, (.c (.int .u8 7)))]),
    .p (some 9) (.bslice 39 1 32 (List.replicate 32 (.int .u8 0)) [(0, (.t 8))]),
    .call (some 10) 7 [(.t 7), (.t 9)],
    .p (some 6) (.move (.t 10)),
    .p (some 11) (.extract (.t 6) 0),
    .p (some 12) (.extract (.t 6) 1),
    .p (some 1) (.move (.t 11)),
    .p (some 2) (.move (.t 12))])
  (c6_k4)
def c6 : FnC := ⟨0, 56, [.tmp 0],
  .seq (.ops [] [.p (some 0) (.move (.c (.bool false)))])
  (c6_k5),
  []⟩

/-! 7: gossamer/short.New -/
def c7_k0 : C :=
  .seq (.ops [4, 5] [.p (some 28) (.move (.t 6)),
    .p (some 4) (.move (.t 28)),
    .p (some 5) (.move (.c .nili))])
  (.ret)
def c7_k1 : C :=
  .cond (.t 25)
    (.seq (.ops [4, 5] [.p (some 26) (.move (.t 9)),
      .p (some 4) (.move (.c .nilp)),
      .p (some 5) (.move (.t 26))])
    (.ret))
    (.skip)
def c7_k2 : C :=
  .seq (.ops [6, 9, 15, 16, 17, 25] [.p (some 24) (.move (.t 9)),
    .p (some 25) (.bin .neq .iface [] (.t 24) (.c .nili))])
  (c7_k1)
def c7_k3 : C :=
  .seq (.ops [6, 9, 15, 16, 17] [.p (some 21) (.move (.t 6)),
    .p (some 22) (.load true 32 (.t 8)),
    .call (some 23) 28 [(.t 21), (.t 22)],
    .p (some 9) (.move (.t 23))])
  (c7_k2)
def c7_k4 : C :=
  .seq (.ops [6, 8, 15, 16, 17] [.p (some 19) (.iaddr 32 (.t 15) (.t 17)),
    .p (some 20) (.load true 32 (.t 19)),
    .e (some 8) (.alloc (List.replicate 32 (.d (.int .u8 0)))),
    .e .none (.store 32 (.t 8) (.t 20))])
  (c7_k3)
def c7_k5 : C :=
  .seq (.block 1 (c7_k4))
  (.ops [6, 15, 16, 17] [.p (some 27) (.bin .add .int [] (.t 17) (.c (.int .i64 1))),
    .p (some 17) (.move (.t 27))])
def c7_k6 : C :=
  .seq (.cond (.t 18)
    (.skip)
    (.exit 0))
  (c7_k5)
def c7_l7 : C :=
  .seq (.ops [6, 15, 16, 17, 18] [.p (some 18) (.bin .lss .int [] (.t 17) (.t 16))])
  (c7_k6)
def c7_k8 : C :=
  .block 0 (.loop [6, 15, 16, 17] c7_l7)
def c7_k9 : C :=
  .seq (.seq (.ops [6, 15, 16, 17] [.p (some 15) (.move (.t 1)),
    .p (some 16) (.len .slice (.t 15)),
    .p (some 17) (.move (.c (.int .i64 0)))])
  (c7_k8))
  (c7_k0)
def c7_k10 : C :=
  .seq (.ops [1, 6] [.p (some 10) (.load true 2 (.t 2)),
    .p (some 11) (.build [(.int .u64 0), (.int .u64 0)] [(0, 2, (.t 10))]),
    .e (some 12) (.makeMap),
    .p (some 13) (.build [(.int .u64 0), (.int .u64 0), .nilm] [(0, 2, (.t 11)), (2, 1, (.t 12))]),
    .e (some 14) (.box (.t 13)),
    .p (some 6) (.move (.t 14))])
  (c7_k9)
def c7 : FnC := ⟨2, 29, [.tmp 4, .tmp 5],
  .seq (.ops [1, 2] [.e (some 2) (.box (.t 0)),
    .p (some 4) (.move (.c .nilp)),
    .p (some 5) (.move (.c .nili))])
  (c7_k10),
  []⟩

/-! 28: (*gossamer/short.Index).Put -/
def c28_k0 : C :=
  .seq (.drw [] 0 [⟨.none, .p (some 37) (.move (.t 0)), [], 0⟩,
    ⟨.none, .p (some 38) (.nilCheck (.t 37)), [0], 0⟩,
    ⟨.none, .p (some 39) (.faddr 2 (.t 38)), [1], 0⟩,
    ⟨.none, .p (some 40) (.load false 1 (.t 39)), [2], 0⟩,
    ⟨.none, .p (some 41) (.move (.t 5)), [], 0⟩,
    ⟨.none, .p (some 42) (.load true 32 (.t 3)), [], 0⟩,
    ⟨.none, .e .none (.mapUpdate false ([(.int .u32)]) (.t 40) (.t 41) (.t 42)), [3, 4, 5, 0, 1, 2, 3, 4, 5], 0⟩])
  (.seq (.ops [4] [.p (some 4) (.move (.c .nili))])
  (.ret))
def c28_k1 : C :=
  .cond (.t 34)
    (.seq (.ops [4] [.p (some 36) (.mkif 60 (.c (.int .i64 5))),
      .p (some 4) (.move (.t 36))])
    (.ret))
    (.skip)
def c28_k2 : C :=
  .cond (.t 26)
    (.seq (.ops [4] [.p (some 33) (.mkif 60 (.c (.int .i64 6))),
      .p (some 4) (.move (.t 33))])
    (.ret))
    (.seq (.ops [0, 3, 5, 34] [.p (some 35) (.move (.t 7)),
      .p (some 34) (.move (.t 35))])
    (c28_k1))
def c28_k3 : C :=
  .seq (.ops [0, 3, 5, 7, 26] [.p (some 27) (.move (.t 7)),
    .p (some 28) (.move (.t 27)),
    .when 28 true [.p (some 29) (.load true 32 (.t 6)),
      .p (some 30) (.load true 32 (.t 3)),
      .p (some 31) (.bin .eql .flat (List.replicate 32 (.int .u8)) (.t 29) (.t 30))],
    .p (some 32) (.pick (.t 28) (.t 31) (.c (.bool false))),
    .p (some 26) (.move (.t 32))])
  (c28_k2)
def c28_k4 : C :=
  .block 0 (c28_k3)
def c28_k5 : C :=
  .seq (.seq (.ops [0, 3, 5, 6, 7] [.p (some 18) (.move (.t 0)),
    .p (some 19) (.nilCheck (.t 18)),
    .p (some 20) (.faddr 2 (.t 19)),
    .p (some 21) (.load false 1 (.t 20)),
    .p (some 22) (.move (.t 5)),
    .p (some 23) (.lookup false ([(.int .u32)]) (.ca (List.replicate 32 (.int .u8 0))) true (.t 21) (.t 22)),
    .p (some 17) (.move (.t 23)),
    .p (some 24) (.extract (.t 17) 0),
    .p (some 25) (.extract (.t 17) 1),
    .e (some 6) (.alloc (List.replicate 32 (.d (.int .u8 0)))),
    .e .none (.store 32 (.t 6) (.t 24)),
    .p (some 7) (.move (.t 25))])
  (c28_k4))
  (c28_k0)
def c28_k6 : C :=
  .seq (.drw [0, 3, 5] 0 [⟨.none, .p (some 11) (.move (.t 0)), [], 0⟩,
    ⟨.none, .p (some 12) (.nilCheck (.t 11)), [0], 0⟩,
    ⟨.none, .p (some 13) (.faddr 0 (.t 12)), [1], 0⟩,
    ⟨.none, .p (some 14) (.load true 2 (.t 13)), [2], 0⟩,
    ⟨.none, .p (some 15) (.load true 32 (.t 3)), [], 0⟩,
    ⟨.none, .call (some 16) 35 [(.t 14), (.t 15)], [3, 4], 0⟩,
    ⟨.none, .p (some 5) (.move (.t 16)), [5, 5, 0, 1, 2, 3, 4, 5], 0⟩])
  (c28_k5)
def c28_k7 : C :=
  .cond (.t 9)
    (.seq (.ops [4] [.p (some 10) (.mkif 60 (.c (.int .i64 4))),
      .p (some 4) (.move (.t 10))])
    (.ret))
    (.skip)
def c28_k8 : C :=
  .seq (.seq (.ops [0, 3, 9] [.p (some 8) (.move (.t 0)),
    .p (some 9) (.bin .eql .ptr [] (.t 8) (.c .nilp))])
  (c28_k7))
  (c28_k6)
def c28 : FnC := ⟨2, 43, [.tmp 4],
  .seq (.ops [0, 3] [.e (some 3) (.box (.t 1)),
    .p (some 4) (.move (.c .nili))])
  (c28_k8),
  []⟩

/-! 35: (gossamer/short.salted).short -/
def c35_k0 : C :=
  .seq (.ops [4] [.p (some 5) (.faddr 0 (.t 2)),
    .p (some 6) (.load true 2 (.t 5)),
    .p (some 7) (.load true 32 (.t 3)),
    .call (some 8) 33 [(.t 6), (.t 7)],
    .p (some 4) (.move (.t 8))])
  (.ret)
def c35 : FnC := ⟨2, 9, [.tmp 4],
  .seq (.ops [2, 3] [.e (some 2) (.box (.t 0)),
    .e (some 3) (.box (.t 1)),
    .p (some 4) (.move (.c (.int .u32 0)))])
  (c35_k0),
  []⟩

/-! 33: (gossamer/sip.Salt).Short -/
def c33_k0 : C :=
  .seq (.drw [4] 0 [⟨.none, .p (some 5) (.load true 2 (.t 2)), [], 0⟩,
    ⟨.none, .p (some 6) (.sliceArr 32 1 (.t 3) .none .none), [], 0⟩,
    ⟨.none, .call (some 7) 44 [(.t 5), (.t 6)], [0, 1], 0⟩,
    ⟨.none, .p (some 8) (.bin .rem .int [] (.t 7) (.c (.int .u64 4294967295))), [2], 0⟩,
    ⟨.none, .p (some 9) (.conv (.int .u32) (.t 8)), [3], 0⟩,
    ⟨.none, .p (some 10) (.bin .add .int [] (.t 9) (.c (.int .u32 1))), [4], 0⟩,
    ⟨.none, .p (some 4) (.move (.t 10)), [5, 2, 0, 1, 2, 3, 4, 5], 0⟩])
  (.ret)
def c33 : FnC := ⟨2, 11, [.tmp 4],
  .seq (.ops [2, 3] [.e (some 2) (.box (.t 0)),
    .e (some 3) (.box (.t 1)),
    .p (some 4) (.move (.c (.int .u32 0)))])
  (c33_k0),
  []⟩

/-! 44: gossamer/sip.Hash -/
def c44_k0 : C :=
  .seq (.drw [4] 0 [⟨.none, .p (some 64) (.load false 1 (.t 5)), [], 0⟩,
    ⟨.none, .p (some 65) (.nilCheck (.t 64)), [0], 0⟩,
    ⟨.none, .p (some 66) (.faddr 0 (.t 65)), [1], 0⟩,
    ⟨.none, .p (some 67) (.load false 1 (.t 66)), [2], 0⟩,
    ⟨.none, .p (some 68) (.load false 1 (.t 5)), [], 0⟩,
    ⟨.none, .p (some 69) (.nilCheck (.t 68)), [4], 0⟩,
    ⟨.none, .p (some 70) (.faddr 1 (.t 69)), [5], 0⟩,
    ⟨.none, .p (some 71) (.load false 1 (.t 70)), [6], 0⟩,
    ⟨.none, .p (some 72) (.bin .xor .int [] (.t 67) (.t 71)), [3, 7], 0⟩,
    ⟨.none, .p (some 73) (.load false 1 (.t 5)), [], 0⟩,
    ⟨.none, .p (some 74) (.nilCheck (.t 73)), [9], 0⟩,
    ⟨.none, .p (some 75) (.faddr 2 (.t 74)), [10], 0⟩,
    ⟨.none, .p (some 76) (.load false 1 (.t 75)), [11], 0⟩,
    ⟨.none, .p (some 77) (.bin .xor .int [] (.t 72) (.t 76)), [8, 12], 0⟩,
    ⟨.none, .p (some 78) (.load false 1 (.t 5)), [], 0⟩,
    ⟨.none, .p (some 79) (.nilCheck (.t 78)), [14], 0⟩,
    ⟨.none, .p (some 80) (.faddr 3 (.t 79)), [15], 0⟩,
    ⟨.none, .p (some 81) (.load false 1 (.t 80)), [16], 0⟩,
    ⟨.none, .p (some 82) (.bin .xor .int [] (.t 77) (.t 81)), [13, 17], 0⟩,
    ⟨.none, .p (some 4) (.move (.t 82)), [18, 0, 1, 2, 3, 4, 5, 6, 7, 8, 9, 10, 11, 12, 13, 14, 15, 16, 17, 18], 0⟩])
  (.ret)
def c44_k1 : C :=
  .seq (.block 3 (.ops [5, 59] [.p (some 61) (.load false 1 (.t 5)),
    .call (some 62) 57 [(.t 61)]]))
  (.ops [5, 59] [.p (some 63) (.bin .add .int [] (.t 59) (.c (.int .i64 1))),
    .p (some 59) (.move (.t 63))])
def c44_k2 : C :=
  .seq (.cond (.t 60)
    (.skip)
    (.exit 2))
  (c44_k1)
def c44_l3 : C :=
  .seq (.ops [5, 59, 60] [.p (some 60) (.bin .lss .int [] (.t 59) (.c (.int .i64 4)))])
  (c44_k2)
def c44_k4 : C :=
  .block 2 (.loop [5, 59] c44_l3)
def c44_k5 : C :=
  .seq (.seq (.ops [5, 59] [.p (some 59) (.move (.c (.int .i64 0)))])
  (c44_k4))
  (c44_k0)
def c44_k6 : C :=
  .seq (.ops [5] [.p (some 52) (.load false 1 (.t 5)),
    .p (some 53) (.nilCheck (.t 52)),
    .p (some 54) (.faddr 2 (.t 53)),
    .p (some 55) (.load false 1 (.t 54)),
    .p (some 56) (.bin .xor .int [] (.t 55) (.c (.int .u64 255))),
    .p (some 57) (.nilCheck (.t 52)),
    .p (some 58) (.faddr 2 (.t 57)),
    .e .none (.store 1 (.t 58) (.t 56))])
  (c44_k5)
def c44_k7 : C :=
  .seq (.drw [5] 0 [⟨.none, .p (some 41) (.load false 1 (.t 5)), [], 0⟩,
    ⟨.none, .p (some 42) (.move (.t 1)), [], 0⟩,
    ⟨.none, .p (some 43) (.move (.t 6)), [], 0⟩,
    ⟨.none, .p (some 44) (.slice 1 (.t 42) (some (.t 43)) .none .none), [1, 2], 0⟩,
    ⟨.none, .call (some 45) 56 [(.t 44)], [3], 0⟩,
    ⟨.none, .p (some 46) (.move (.t 1)), [], 0⟩,
    ⟨.none, .p (some 47) (.len .slice (.t 46)), [5], 0⟩,
    ⟨.none, .p (some 48) (.conv (.int .u64) (.t 47)), [6], 0⟩,
    ⟨.none, .p (some 49) (.bin .shl .int [] (.t 48) (.c (.int .u64 56))), [7], 0⟩,
    ⟨.none, .p (some 50) (.bin .or .int [] (.t 45) (.t 49)), [4, 8], 0⟩,
    ⟨.none, .call (some 51) 55 [(.t 41), (.t 50)], [0, 9, 4], 0⟩])
  (c44_k6)
def c44_a8 : C :=
  .ops [5, 7] [.p (some 7) (.move (.t 36))]
def c44_b9 : C :=
  .block 1 (.drw [] 0 [⟨.none, .p (some 37) (.load false 1 (.t 5)), [], 0⟩,
    ⟨.none, .p (some 38) (.move (.t 7)), [], 0⟩,
    ⟨.none, .call (some 39) 56 [(.t 38)], [1], 0⟩,
    ⟨.none, .call (some 40) 55 [(.t 37), (.t 39)], [0, 2, 2], 0⟩])
def c44_k10 : C :=
  .block 0 (.rangeF [1, 5, 6] (.t 35) [36] c44_a8 c44_b9)
def c44_k11 : C :=
  .seq (.seq (.ops [1, 5, 6, 35] [.p (some 32) (.move (.t 1)),
    .p (some 33) (.move (.t 6)),
    .p (some 34) (.slice 1 (.t 32) .none (some (.t 33)) .none),
    .call (some 35) 54 [(.t 34), (.c (.int .i64 8))]])
  (c44_k10))
  (c44_k7)
def c44_k12 : C :=
  .seq (.ops [1, 5, 6] [.p (some 26) (.move (.t 1)),
    .p (some 27) (.len .slice (.t 26)),
    .p (some 28) (.move (.t 1)),
    .p (some 29) (.len .slice (.t 28)),
    .p (some 30) (.bin .rem .int [] (.t 29) (.c (.int .i64 8))),
    .p (some 31) (.bin .sub .int [] (.t 27) (.t 30)),
    .p (some 6) (.move (.t 31))])
  (c44_k11)
def c44_k13 : C :=
  .seq (.drw [1, 5] 2 [⟨.none, .p (some 8) (.faddr 0 (.t 2)), [], 0⟩,
    ⟨.none, .p (some 9) (.load false 1 (.t 8)), [0], 0⟩,
    ⟨.none, .call (some 10) 53 [(.c (.int .i64 0))], [], 0⟩,
    ⟨.none, .p (some 11) (.bin .xor .int [] (.t 9) (.t 10)), [1, 2], 0⟩,
    ⟨.none, .p (some 12) (.faddr 1 (.t 2)), [], 0⟩,
    ⟨.none, .p (some 13) (.load false 1 (.t 12)), [4], 0⟩,
    ⟨.none, .call (some 14) 53 [(.c (.int .i64 1))], [2], 0⟩,
    ⟨.none, .p (some 15) (.bin .xor .int [] (.t 13) (.t 14)), [5, 6], 0⟩,
    ⟨.none, .p (some 16) (.faddr 0 (.t 2)), [], 0⟩,
    ⟨.none, .p (some 17) (.load false 1 (.t 16)), [8], 0⟩,
    ⟨.none, .call (some 18) 53 [(.c (.int .i64 2))], [6], 0⟩,
    ⟨.none, .p (some 19) (.bin .xor .int [] (.t 17) (.t 18)), [9, 10], 0⟩,
    ⟨.none, .p (some 20) (.faddr 1 (.t 2)), [], 0⟩,
    ⟨.none, .p (some 21) (.load false 1 (.t 20)), [12], 0⟩,
    ⟨.none, .call (some 22) 53 [(.c (.int .i64 3))], [10], 0⟩,
    ⟨.none, .p (some 23) (.bin .xor .int [] (.t 21) (.t 22)), [13, 14], 0⟩,
    ⟨.none, .p (some 24) (.build [(.int .u64 0), (.int .u64 0), (.int .u64 0), (.int .u64 0)] [(0, 1, (.t 11)), (1, 1, (.t 15)), (2, 1, (.t 19)), (3, 1, (.t 23))]), [3, 7, 11, 15], 0⟩,
    ⟨.none, .e (some 25) (.box (.t 24)), [16], 0⟩,
    ⟨.none, .e (some 5) (.alloc [(.d .nilp)]), [], 1⟩,
    ⟨.none, .e .none (.store 1 (.t 5) (.t 25)), [18, 17, 14, 0, 1, 2, 3, 4, 5, 6, 7, 8, 9, 10, 11, 12, 13, 14, 15, 16, 17, 18], 2⟩])
  (c44_k12)
def c44 : FnC := ⟨2, 83, [.tmp 4],
  .seq (.ops [1, 2] [.e (some 2) (.box (.t 0)),
    .p (some 4) (.move (.c (.int .u64 0)))])
  (c44_k13),
  []⟩

/-! 53: gossamer/sip.first -/
def c53_k0 : C :=
  .seq (.ops [2] [.p (some 3) (.move (.t 0)),
    .p (some 4) (.bin .mul .int [] (.c (.int .i64 8)) (.t 3)),
    .p (some 5) (.move (.t 0)),
    .p (some 6) (.bin .mul .int [] (.c (.int .i64 8)) (.t 5)),
    .p (some 7) (.bin .add .int [] (.t 6) (.c (.int .i64 8))),
    .p (some 8) (.sliceStr (.c (.str [115, 111, 109, 101, 112, 115, 101, 117, 100, 111, 114, 97, 110, 100, 111, 109, 108, 121, 103, 101, 110, 101, 114, 97, 116, 101, 100, 98, 121, 116, 101, 115])) (some (.t 4)) (some (.t 7))),
    .p (some 9) (.conv (.strBytes 5) (.t 8)),
    .call (some 10) 56 [(.t 9)],
    .call (some 11) 64 [(.t 10)],
    .p (some 2) (.move (.t 11))])
  (.ret)
def c53 : FnC := ⟨1, 12, [.tmp 2],
  .seq (.ops [0] [.p (some 2) (.move (.c (.int .u64 0)))])
  (c53_k0),
  []⟩

/-! 56: gossamer/sip.word -/
def c56_k0 : C :=
  .seq (.ops [2] [.p (some 21) (.move (.t 3)),
    .p (some 2) (.move (.t 21))])
  (.ret)
def c56_k1 : C :=
  .ops [3, 6, 7, 8] [.p (some 13) (.move (.t 3)),
    .p (some 14) (.move (.t 5)),
    .p (some 15) (.conv (.int .u64) (.t 14)),
    .p (some 16) (.move (.t 4)),
    .p (some 17) (.bin .mul .int [] (.c (.int .i64 8)) (.t 16)),
    .p (some 18) (.bin .shl .int [] (.t 15) (.t 17)),
    .p (some 19) (.bin .or .int [] (.t 13) (.t 18)),
    .p (some 3) (.move (.t 19))]
def c56_k2 : C :=
  .seq (.ops [3, 4, 5, 6, 7, 8] [.p (some 10) (.move (.t 8)),
    .p (some 11) (.iaddr 1 (.t 6) (.t 8)),
    .p (some 12) (.load false 1 (.t 11)),
    .p (some 4) (.move (.t 10)),
    .p (some 5) (.move (.t 12))])
  (c56_k1)
def c56_k3 : C :=
  .seq (.block 1 (c56_k2))
  (.ops [3, 6, 7, 8] [.p (some 20) (.bin .add .int [] (.t 8) (.c (.int .i64 1))),
    .p (some 8) (.move (.t 20))])
def c56_k4 : C :=
  .seq (.cond (.t 9)
    (.skip)
    (.exit 0))
  (c56_k3)
def c56_l5 : C :=
  .seq (.ops [3, 6, 7, 8, 9] [.p (some 9) (.bin .lss .int [] (.t 8) (.t 7))])
  (c56_k4)
def c56_k6 : C :=
  .block 0 (.loop [3, 6, 7, 8] c56_l5)
def c56_k7 : C :=
  .seq (.seq (.ops [3, 6, 7, 8] [.p (some 6) (.move (.t 0)),
    .p (some 7) (.len .slice (.t 6)),
    .p (some 8) (.move (.c (.int .i64 0)))])
  (c56_k6))
  (c56_k0)
def c56_k8 : C :=
  .seq (.ops [0, 3] [.p (some 3) (.move (.c (.int .u64 0)))])
  (c56_k7)
def c56 : FnC := ⟨1, 22, [.tmp 2],
  .seq (.ops [0] [.p (some 2) (.move (.c (.int .u64 0)))])
  (c56_k8),
  []⟩

/-! 64: math/bits.ReverseBytes64 -/
def c64_k0 : C :=
  .seq (.ops [2] [.p (some 17) (.move (.t 0)),
    .p (some 18) (.bin .shr .int [] (.t 17) (.c (.int .u64 32))),
    .p (some 19) (.move (.t 0)),
    .p (some 20) (.bin .shl .int [] (.t 19) (.c (.int .u64 32))),
    .p (some 21) (.bin .or .int [] (.t 18) (.t 20)),
    .p (some 2) (.move (.t 21))])
  (.ret)
def c64_k1 : C :=
  .seq (.ops [0] [.p (some 10) (.move (.t 0)),
    .p (some 11) (.bin .shr .int [] (.t 10) (.c (.int .u64 16))),
    .p (some 12) (.bin .and .int [] (.t 11) (.c (.int .u64 281470681808895))),
    .p (some 13) (.move (.t 0)),
    .p (some 14) (.bin .and .int [] (.t 13) (.c (.int .u64 281470681808895))),
    .p (some 15) (.bin .shl .int [] (.t 14) (.c (.int .u64 16))),
    .p (some 16) (.bin .or .int [] (.t 12) (.t 15)),
    .p (some 0) (.move (.t 16))])
  (c64_k0)
def c64_k2 : C :=
  .seq (.ops [0] [.p (some 3) (.move (.t 0)),
    .p (some 4) (.bin .shr .int [] (.t 3) (.c (.int .u64 8))),
    .p (some 5) (.bin .and .int [] (.t 4) (.c (.int .u64 71777214294589695))),
    .p (some 6) (.move (.t 0)),
    .p (some 7) (.bin .and .int [] (.t 6) (.c (.int .u64 71777214294589695))),
    .p (some 8) (.bin .shl .int [] (.t 7) (.c (.int .u64 8))),
    .p (some 9) (.bin .or .int [] (.t 5) (.t 8)),
    .p (some 0) (.move (.t 9))])
  (c64_k1)
def c64 : FnC := ⟨1, 22, [.tmp 2],
  .seq (.ops [0] [.p (some 2) (.move (.c (.int .u64 0)))])
  (c64_k2),
  []⟩

/-! 54: slices.Chunk[[]byte,byte] -/
def c54_k0 : C :=
  .seq (.ops [4] [.p (some 8) (.mkfn (.func 65) [] [(.t 2), (.t 3)]),
    .p (some 4) (.move (.t 8))])
  (.ret)
def c54_k1 : C :=
  .cond (.t 6)
    (.ops [2, 3] [.p (some 7) (.mkif 9 (.c (.str [99, 97, 110, 110, 111, 116, 32, 98, 101, 32, 108, 101, 115, 115, 32, 116, 104, 97, 110, 32, 49]))),
      .p .none (.extract (.c .nilp) 0)])
    (.skip)
def c54_k2 : C :=
  .seq (.seq (.ops [2, 3, 6] [.p (some 5) (.load false 1 (.t 3)),
    .p (some 6) (.bin .lss .int [] (.t 5) (.c (.int .i64 1)))])
  (c54_k1))
  (c54_k0)
def c54 : FnC := ⟨2, 9, [.tmp 4],
  .seq (.ops [2, 3] [.e (some 2) (.box (.t 0)),
    .e (some 3) (.box (.t 1)),
    .p (some 4) (.move (.c .nilf))])
  (c54_k2),
  []⟩

/-! 65: slices.Chunk[[]byte,byte]$1 -/
def c65_k0 : C :=
  .ops [0, 1, 2, 4] [.p (some 10) (.move (.t 4)),
    .p (some 11) (.load false 1 (.t 2)),
    .p (some 12) (.bin .add .int [] (.t 10) (.t 11)),
    .p (some 4) (.move (.t 12))]
def c65_k1 : C :=
  .cond (.t 30)
    (.ret)
    (.skip)
def c65_k2 : C :=
  .seq (.ops [0, 1, 2, 4, 30] [.p (some 19) (.move (.t 0)),
    .p (some 20) (.load false 1 (.t 1)),
    .p (some 21) (.move (.t 4)),
    .p (some 22) (.move (.t 4)),
    .p (some 23) (.move (.t 5)),
    .p (some 24) (.bin .add .int [] (.t 22) (.t 23)),
    .p (some 25) (.move (.t 4)),
    .p (some 26) (.move (.t 5)),
    .p (some 27) (.bin .add .int [] (.t 25) (.t 26)),
    .p (some 28) (.slice 1 (.t 20) (some (.t 21)) (some (.t 24)) (some (.t 27))),
    .callv (some 29) (.t 19) [(.t 28)],
    .p (some 30) (.una .not (.t 29))])
  (c65_k1)
def c65_k3 : C :=
  .seq (.drw [0, 1, 2, 4, 5] 0 [⟨.none, .p (some 13) (.load false 1 (.t 2)), [], 0⟩,
    ⟨.none, .p (some 14) (.load false 1 (.t 1)), [], 0⟩,
    ⟨.none, .p (some 15) (.move (.t 4)), [], 0⟩,
    ⟨.none, .p (some 16) (.slice 1 (.t 14) (some (.t 15)) .none .none), [1, 2], 0⟩,
    ⟨.none, .p (some 17) (.len .slice (.t 16)), [3], 0⟩,
    ⟨.none, .p (some 18) (.min [(.t 13), (.t 17)]), [0, 4], 0⟩,
    ⟨.none, .p (some 5) (.move (.t 18)), [5, 0, 1, 2, 3, 4, 5], 0⟩])
  (c65_k2)
def c65_k4 : C :=
  .seq (.block 1 (c65_k3))
  (c65_k0)
def c65_k5 : C :=
  .cond (.t 9)
    (.skip)
    (.exit 0)
def c65_l6 : C :=
  .seq (.seq (.ops [0, 1, 2, 4, 9] [.p (some 6) (.move (.t 4)),
    .p (some 7) (.load false 1 (.t 1)),
    .p (some 8) (.len .slice (.t 7)),
    .p (some 9) (.bin .lss .int [] (.t 6) (.t 8))])
  (c65_k5))
  (c65_k4)
def c65_k7 : C :=
  .block 0 (.loop [0, 1, 2, 4] c65_l6)
def c65 : FnC := ⟨3, 31, [],
  .seq (.ops [0, 1, 2, 4] [.p (some 4) (.move (.c (.int .i64 0)))])
  (c65_k7),
  []⟩

/-! 55: (*gossamer/sip.state).take -/
def c55_k0 : C :=
  .ops [] [.p (some 17) (.move (.t 0)),
    .p (some 18) (.nilCheck (.t 17)),
    .p (some 19) (.faddr 0 (.t 18)),
    .p (some 20) (.load false 1 (.t 19)),
    .p (some 21) (.move (.t 1)),
    .p (some 22) (.bin .xor .int [] (.t 20) (.t 21)),
    .p (some 23) (.nilCheck (.t 17)),
    .p (some 24) (.faddr 0 (.t 23)),
    .e .none (.store 1 (.t 24) (.t 22))]
def c55_k1 : C :=
  .seq (.block 1 (.ops [0, 1, 12] [.p (some 14) (.move (.t 0)),
    .call (some 15) 57 [(.t 14)]]))
  (.ops [0, 1, 12] [.p (some 16) (.bin .add .int [] (.t 12) (.c (.int .i64 1))),
    .p (some 12) (.move (.t 16))])
def c55_k2 : C :=
  .seq (.cond (.t 13)
    (.skip)
    (.exit 0))
  (c55_k1)
def c55_l3 : C :=
  .seq (.ops [0, 1, 12, 13] [.p (some 13) (.bin .lss .int [] (.t 12) (.c (.int .i64 2)))])
  (c55_k2)
def c55_k4 : C :=
  .block 0 (.loop [0, 1, 12] c55_l3)
def c55_k5 : C :=
  .seq (.seq (.ops [0, 1, 12] [.p (some 12) (.move (.c (.int .i64 0)))])
  (c55_k4))
  (c55_k0)
def c55 : FnC := ⟨2, 25, [],
  .seq (.ops [0, 1] [.p (some 4) (.move (.t 0)),
    .p (some 5) (.nilCheck (.t 4)),
    .p (some 6) (.faddr 3 (.t 5)),
    .p (some 7) (.load false 1 (.t 6)),
    .p (some 8) (.move (.t 1)),
    .p (some 9) (.bin .xor .int [] (.t 7) (.t 8)),
    .p (some 10) (.nilCheck (.t 4)),
    .p (some 11) (.faddr 3 (.t 10)),
    .e .none (.store 1 (.t 11) (.t 9))])
  (c55_k5),
  []⟩

/-! 57: (*gossamer/sip.state).round -/
def c57_k0 : C :=
  .ops [] [.p (some 106) (.move (.t 0)),
    .p (some 107) (.move (.t 0)),
    .p (some 108) (.nilCheck (.t 107)),
    .p (some 109) (.faddr 2 (.t 108)),
    .p (some 110) (.load false 1 (.t 109)),
    .call (some 111) 66 [(.t 110), (.c (.int .i64 32))],
    .p (some 112) (.nilCheck (.t 106)),
    .p (some 113) (.faddr 2 (.t 112)),
    .e .none (.store 1 (.t 113) (.t 111))]
def c57_k1 : C :=
  .seq (.drw [0] 0 [⟨.none, .p (some 93) (.move (.t 0)), [], 0⟩,
    ⟨.none, .p (some 94) (.move (.t 0)), [], 0⟩,
    ⟨.none, .p (some 95) (.nilCheck (.t 94)), [1], 0⟩,
    ⟨.none, .p (some 96) (.faddr 1 (.t 95)), [2], 0⟩,
    ⟨.none, .p (some 97) (.load false 1 (.t 96)), [3], 0⟩,
    ⟨.none, .call (some 98) 66 [(.t 97), (.c (.int .i64 17))], [4], 0⟩,
    ⟨.none, .p (some 99) (.move (.t 0)), [], 0⟩,
    ⟨.none, .p (some 100) (.nilCheck (.t 99)), [6], 0⟩,
    ⟨.none, .p (some 101) (.faddr 2 (.t 100)), [7], 0⟩,
    ⟨.none, .p (some 102) (.load false 1 (.t 101)), [8], 0⟩,
    ⟨.none, .p (some 103) (.bin .xor .int [] (.t 98) (.t 102)), [5, 9], 0⟩,
    ⟨.none, .p (some 104) (.nilCheck (.t 93)), [0, 0, 1, 2, 3, 4, 5, 6, 7, 8, 9, 10], 0⟩,
    ⟨.none, .p (some 105) (.faddr 1 (.t 104)), [11, 0, 1, 2, 3, 4, 5, 6, 7, 8, 9, 10], 0⟩,
    ⟨.none, .e .none (.store 1 (.t 105) (.t 103)), [12, 10, 5, 0, 1, 2, 3, 4, 5, 6, 7, 8, 9, 10], 0⟩])
  (c57_k0)
def c57_k2 : C :=
  .seq (.drw [0] 0 [⟨.none, .p (some 82) (.move (.t 0)), [], 0⟩,
    ⟨.none, .p (some 83) (.nilCheck (.t 82)), [0], 0⟩,
    ⟨.none, .p (some 84) (.faddr 2 (.t 83)), [1], 0⟩,
    ⟨.none, .p (some 85) (.load false 1 (.t 84)), [2], 0⟩,
    ⟨.none, .p (some 86) (.move (.t 0)), [], 0⟩,
    ⟨.none, .p (some 87) (.nilCheck (.t 86)), [4], 0⟩,
    ⟨.none, .p (some 88) (.faddr 1 (.t 87)), [5], 0⟩,
    ⟨.none, .p (some 89) (.load false 1 (.t 88)), [6], 0⟩,
    ⟨.none, .p (some 90) (.bin .add .int [] (.t 85) (.t 89)), [3, 7], 0⟩,
    ⟨.none, .p (some 91) (.nilCheck (.t 82)), [0, 0, 1, 2, 3, 4, 5, 6, 7, 8], 0⟩,
    ⟨.none, .p (some 92) (.faddr 2 (.t 91)), [9, 0, 1, 2, 3, 4, 5, 6, 7, 8], 0⟩,
    ⟨.none, .e .none (.store 1 (.t 92) (.t 90)), [10, 8, 0, 1, 2, 3, 4, 5, 6, 7, 8], 0⟩])
  (c57_k1)
def c57_k3 : C :=
  .seq (.drw [0] 0 [⟨.none, .p (some 69) (.move (.t 0)), [], 0⟩,
    ⟨.none, .p (some 70) (.move (.t 0)), [], 0⟩,
    ⟨.none, .p (some 71) (.nilCheck (.t 70)), [1], 0⟩,
    ⟨.none, .p (some 72) (.faddr 3 (.t 71)), [2], 0⟩,
    ⟨.none, .p (some 73) (.load false 1 (.t 72)), [3], 0⟩,
    ⟨.none, .call (some 74) 66 [(.t 73), (.c (.int .i64 21))], [4], 0⟩,
    ⟨.none, .p (some 75) (.move (.t 0)), [], 0⟩,
    ⟨.none, .p (some 76) (.nilCheck (.t 75)), [6], 0⟩,
    ⟨.none, .p (some 77) (.faddr 0 (.t 76)), [7], 0⟩,
    ⟨.none, .p (some 78) (.load false 1 (.t 77)), [8], 0⟩,
    ⟨.none, .p (some 79) (.bin .xor .int [] (.t 74) (.t 78)), [5, 9], 0⟩,
    ⟨.none, .p (some 80) (.nilCheck (.t 69)), [0, 0, 1, 2, 3, 4, 5, 6, 7, 8, 9, 10], 0⟩,
    ⟨.none, .p (some 81) (.faddr 3 (.t 80)), [11, 0, 1, 2, 3, 4, 5, 6, 7, 8, 9, 10], 0⟩,
    ⟨.none, .e .none (.store 1 (.t 81) (.t 79)), [12, 10, 5, 0, 1, 2, 3, 4, 5, 6, 7, 8, 9, 10], 0⟩])
  (c57_k2)
def c57_k4 : C :=
  .seq (.drw [0] 0 [⟨.none, .p (some 58) (.move (.t 0)), [], 0⟩,
    ⟨.none, .p (some 59) (.nilCheck (.t 58)), [0], 0⟩,
    ⟨.none, .p (some 60) (.faddr 0 (.t 59)), [1], 0⟩,
    ⟨.none, .p (some 61) (.load false 1 (.t 60)), [2], 0⟩,
    ⟨.none, .p (some 62) (.move (.t 0)), [], 0⟩,
    ⟨.none, .p (some 63) (.nilCheck (.t 62)), [4], 0⟩,
    ⟨.none, .p (some 64) (.faddr 3 (.t 63)), [5], 0⟩,
    ⟨.none, .p (some 65) (.load false 1 (.t 64)), [6], 0⟩,
    ⟨.none, .p (some 66) (.bin .add .int [] (.t 61) (.t 65)), [3, 7], 0⟩,
    ⟨.none, .p (some 67) (.nilCheck (.t 58)), [0, 0, 1, 2, 3, 4, 5, 6, 7, 8], 0⟩,
    ⟨.none, .p (some 68) (.faddr 0 (.t 67)), [9, 0, 1, 2, 3, 4, 5, 6, 7, 8], 0⟩,
    ⟨.none, .e .none (.store 1 (.t 68) (.t 66)), [10, 8, 0, 1, 2, 3, 4, 5, 6, 7, 8], 0⟩])
  (c57_k3)
def c57_k5 : C :=
  .seq (.drw [0] 0 [⟨.none, .p (some 45) (.move (.t 0)), [], 0⟩,
    ⟨.none, .p (some 46) (.move (.t 0)), [], 0⟩,
    ⟨.none, .p (some 47) (.nilCheck (.t 46)), [1], 0⟩,
    ⟨.none, .p (some 48) (.faddr 3 (.t 47)), [2], 0⟩,
    ⟨.none, .p (some 49) (.load false 1 (.t 48)), [3], 0⟩,
    ⟨.none, .call (some 50) 66 [(.t 49), (.c (.int .i64 16))], [4], 0⟩,
    ⟨.none, .p (some 51) (.move (.t 0)), [], 0⟩,
    ⟨.none, .p (some 52) (.nilCheck (.t 51)), [6], 0⟩,
    ⟨.none, .p (some 53) (.faddr 2 (.t 52)), [7], 0⟩,
    ⟨.none, .p (some 54) (.load false 1 (.t 53)), [8], 0⟩,
    ⟨.none, .p (some 55) (.bin .xor .int [] (.t 50) (.t 54)), [5, 9], 0⟩,
    ⟨.none, .p (some 56) (.nilCheck (.t 45)), [0, 0, 1, 2, 3, 4, 5, 6, 7, 8, 9, 10], 0⟩,
    ⟨.none, .p (some 57) (.faddr 3 (.t 56)), [11, 0, 1, 2, 3, 4, 5, 6, 7, 8, 9, 10], 0⟩,
    ⟨.none, .e .none (.store 1 (.t 57) (.t 55)), [12, 10, 5, 0, 1, 2, 3, 4, 5, 6, 7, 8, 9, 10], 0⟩])
  (c57_k4)
def c57_k6 : C :=
  .seq (.drw [0] 0 [⟨.none, .p (some 34) (.move (.t 0)), [], 0⟩,
    ⟨.none, .p (some 35) (.nilCheck (.t 34)), [0], 0⟩,
    ⟨.none, .p (some 36) (.faddr 2 (.t 35)), [1], 0⟩,
    ⟨.none, .p (some 37) (.load false 1 (.t 36)), [2], 0⟩,
    ⟨.none, .p (some 38) (.move (.t 0)), [], 0⟩,
    ⟨.none, .p (some 39) (.nilCheck (.t 38)), [4], 0⟩,
    ⟨.none, .p (some 40) (.faddr 3 (.t 39)), [5], 0⟩,
    ⟨.none, .p (some 41) (.load false 1 (.t 40)), [6], 0⟩,
    ⟨.none, .p (some 42) (.bin .add .int [] (.t 37) (.t 41)), [3, 7], 0⟩,
    ⟨.none, .p (some 43) (.nilCheck (.t 34)), [0, 0, 1, 2, 3, 4, 5, 6, 7, 8], 0⟩,
    ⟨.none, .p (some 44) (.faddr 2 (.t 43)), [9, 0, 1, 2, 3, 4, 5, 6, 7, 8], 0⟩,
    ⟨.none, .e .none (.store 1 (.t 44) (.t 42)), [10, 8, 0, 1, 2, 3, 4, 5, 6, 7, 8], 0⟩])
  (c57_k5)
def c57_k7 : C :=
  .seq (.ops [0] [.p (some 26) (.move (.t 0)),
    .p (some 27) (.move (.t 0)),
    .p (some 28) (.nilCheck (.t 27)),
    .p (some 29) (.faddr 0 (.t 28)),
    .p (some 30) (.load false 1 (.t 29)),
    .call (some 31) 66 [(.t 30), (.c (.int .i64 32))],
    .p (some 32) (.nilCheck (.t 26)),
    .p (some 33) (.faddr 0 (.t 32)),
    .e .none (.store 1 (.t 33) (.t 31))])
  (c57_k6)
def c57_k8 : C :=
  .seq (.drw [0] 0 [⟨.none, .p (some 13) (.move (.t 0)), [], 0⟩,
    ⟨.none, .p (some 14) (.move (.t 0)), [], 0⟩,
    ⟨.none, .p (some 15) (.nilCheck (.t 14)), [1], 0⟩,
    ⟨.none, .p (some 16) (.faddr 1 (.t 15)), [2], 0⟩,
    ⟨.none, .p (some 17) (.load false 1 (.t 16)), [3], 0⟩,
    ⟨.none, .call (some 18) 66 [(.t 17), (.c (.int .i64 13))], [4], 0⟩,
    ⟨.none, .p (some 19) (.move (.t 0)), [], 0⟩,
    ⟨.none, .p (some 20) (.nilCheck (.t 19)), [6], 0⟩,
    ⟨.none, .p (some 21) (.faddr 0 (.t 20)), [7], 0⟩,
    ⟨.none, .p (some 22) (.load false 1 (.t 21)), [8], 0⟩,
    ⟨.none, .p (some 23) (.bin .xor .int [] (.t 18) (.t 22)), [5, 9], 0⟩,
    ⟨.none, .p (some 24) (.nilCheck (.t 13)), [0, 0, 1, 2, 3, 4, 5, 6, 7, 8, 9, 10], 0⟩,
    ⟨.none, .p (some 25) (.faddr 1 (.t 24)), [11, 0, 1, 2, 3, 4, 5, 6, 7, 8, 9, 10], 0⟩,
    ⟨.none, .e .none (.store 1 (.t 25) (.t 23)), [12, 10, 5, 0, 1, 2, 3, 4, 5, 6, 7, 8, 9, 10], 0⟩])
  (c57_k7)
def c57 : FnC := ⟨1, 114, [],
  .seq (.drw [0] 0 [⟨.none, .p (some 2) (.move (.t 0)), [], 0⟩,
    ⟨.none, .p (some 3) (.nilCheck (.t 2)), [0], 0⟩,
    ⟨.none, .p (some 4) (.faddr 0 (.t 3)), [1], 0⟩,
    ⟨.none, .p (some 5) (.load false 1 (.t 4)), [2], 0⟩,
    ⟨.none, .p (some 6) (.move (.t 0)), [], 0⟩,
    ⟨.none, .p (some 7) (.nilCheck (.t 6)), [4], 0⟩,
    ⟨.none, .p (some 8) (.faddr 1 (.t 7)), [5], 0⟩,
    ⟨.none, .p (some 9) (.load false 1 (.t 8)), [6], 0⟩,
    ⟨.none, .p (some 10) (.bin .add .int [] (.t 5) (.t 9)), [3, 7], 0⟩,
    ⟨.none, .p (some 11) (.nilCheck (.t 2)), [0, 0, 1, 2, 3, 4, 5, 6, 7, 8], 0⟩,
    ⟨.none, .p (some 12) (.faddr 0 (.t 11)), [9, 0, 1, 2, 3, 4, 5, 6, 7, 8], 0⟩,
    ⟨.none, .e .none (.store 1 (.t 12) (.t 10)), [10, 8, 0, 1, 2, 3, 4, 5, 6, 7, 8], 0⟩])
  (c57_k8),
  []⟩

/-! 66: math/bits.RotateLeft64 -/
def c66_k0 : C :=
  .seq (.ops [4] [.p (some 9) (.move (.t 0)),
    .p (some 10) (.move (.t 5)),
    .p (some 11) (.bin .shl .int [] (.t 9) (.t 10)),
    .p (some 12) (.move (.t 0)),
    .p (some 13) (.move (.t 5)),
    .p (some 14) (.bin .sub .int [] (.c (.int .u64 64)) (.t 13)),
    .p (some 15) (.bin .shr .int [] (.t 12) (.t 14)),
    .p (some 16) (.bin .or .int [] (.t 11) (.t 15)),
    .p (some 4) (.move (.t 16))])
  (.ret)
def c66_k1 : C :=
  .seq (.ops [0, 5] [.p (some 6) (.move (.t 1)),
    .p (some 7) (.conv (.int .u64) (.t 6)),
    .p (some 8) (.bin .and .int [] (.t 7) (.c (.int .u64 63))),
    .p (some 5) (.move (.t 8))])
  (c66_k0)
def c66 : FnC := ⟨2, 17, [.tmp 4],
  .seq (.ops [0, 1] [.p (some 4) (.move (.c (.int .u64 0)))])
  (c66_k1),
  []⟩

/-! 15: (*gossamer/short.Index).Part -/
def c15_k0 : C :=
  .seq (.ops [4, 5] [.p (some 42) (.move (.t 6)),
    .p (some 43) (.move (.t 7)),
    .p (some 4) (.move (.t 42)),
    .p (some 5) (.move (.t 43))])
  (.ret)
def c15_k1 : C :=
  .cond (.t 35)
    (.ops [0, 1, 6, 7, 12, 13, 14] [.p (some 37) (.move (.t 6)),
      .p (some 38) (.load true 32 (.t 10)),
      .p (some 39) (.bslice 39 1 32 (List.replicate 32 (.int .u8 0)) [(0, (.t 38))]),
      .e (some 40) (.append 39 32 32 (.t 37) (.t 39)),
      .p (some 6) (.move (.t 40))])
    (.ops [0, 1, 6, 7, 12, 13, 14] [.p (some 25) (.move (.t 7)),
      .p (some 26) (.move (.t 9)),
      .p (some 27) (.bslice 46 1 1 [(.int .u32 0)] [(0, (.t 26))]),
      .e (some 28) (.append 46 1 4 (.t 25) (.t 27)),
      .p (some 7) (.move (.t 28))])
def c15_k2 : C :=
  .seq (.ops [0, 1, 6, 7, 9, 10, 12, 13, 14, 35] [.p (some 36) (.move (.t 11)),
      .p (some 35) (.move (.t 36))])
    (c15_k1)
def c15_k3 : C :=
  .cond (.t 29)
    (.skip)
    (c15_k2)
def c15_k4 : C :=
  .seq (.ops [0, 1, 6, 7, 9, 10, 11, 12, 13, 14, 29] [.p (some 30) (.move (.t 1)),
    .p (some 31) (.move (.t 8)),
    .p (some 32) (.slice 1 (.t 30) .none (some (.t 31)) .none),
    .p (some 33) (.move (.t 9)),
    .call (some 34) 36 [(.t 32), (.t 33)],
    .p (some 29) (.move (.t 34))])
  (c15_k3)
def c15_k5 : C :=
  .block 2 (c15_k4)
def c15_k6 : C :=
  .seq (.ops [0, 1, 6, 7, 8, 9, 10, 11, 12, 13, 14] [.p (some 20) (.move (.t 0)),
    .p (some 21) (.move (.t 9)),
    .call (some 22) 13 [(.t 20), (.t 21)],
    .p (some 19) (.move (.t 22)),
    .p (some 23) (.extract (.t 19) 0),
    .p (some 24) (.extract (.t 19) 1),
    .e (some 10) (.alloc (List.replicate 32 (.d (.int .u8 0)))),
    .e .none (.store 32 (.t 10) (.t 23)),
    .p (some 11) (.move (.t 24))])
  (c15_k5)
def c15_k7 : C :=
  .seq (.ops [0, 1, 6, 7, 8, 9, 12, 13, 14] [.p (some 16) (.move (.t 14)),
    .p (some 17) (.iaddr 1 (.t 12) (.t 14)),
    .p (some 18) (.load false 1 (.t 17)),
    .p (some 8) (.move (.t 16)),
    .p (some 9) (.move (.t 18))])
  (c15_k6)
def c15_k8 : C :=
  .seq (.block 1 (c15_k7))
  (.ops [0, 1, 6, 7, 12, 13, 14] [.p (some 41) (.bin .add .int [] (.t 14) (.c (.int .i64 1))),
    .p (some 14) (.move (.t 41))])
def c15_k9 : C :=
  .seq (.cond (.t 15)
    (.skip)
    (.exit 0))
  (c15_k8)
def c15_l10 : C :=
  .seq (.ops [0, 1, 6, 7, 12, 13, 14, 15] [.p (some 15) (.bin .lss .int [] (.t 14) (.t 13))])
  (c15_k9)
def c15_k11 : C :=
  .block 0 (.loop [0, 1, 6, 7, 12, 13, 14] c15_l10)
def c15_k12 : C :=
  .seq (.seq (.ops [0, 1, 6, 7, 12, 13, 14] [.p (some 12) (.move (.t 1)),
    .p (some 13) (.len .slice (.t 12)),
    .p (some 14) (.move (.c (.int .i64 0)))])
  (c15_k11))
  (c15_k0)
def c15_k13 : C :=
  .seq (.ops [0, 1, 6, 7] [.p (some 7) (.move (.c .nils))])
  (c15_k12)
def c15_k14 : C :=
  .seq (.ops [0, 1, 6] [.p (some 6) (.move (.c .nils))])
  (c15_k13)
def c15 : FnC := ⟨2, 44, [.tmp 4, .tmp 5],
  .seq (.ops [0, 1] [.p (some 4) (.move (.c .nils)),
    .p (some 5) (.move (.c .nils))])
  (c15_k14),
  []⟩

/-! 13: (*gossamer/short.Index).Get -/
def c13_k0 : C :=
  .seq (.ops [4, 5] [.p (some 20) (.load true 32 (.t 6)),
    .p (some 21) (.move (.t 7)),
    .e .none (.store 32 (.t 4) (.t 20)),
    .p (some 5) (.move (.t 21))])
  (.ret)
def c13_k1 : C :=
  .seq (.ops [4, 6, 7] [.p (some 12) (.move (.t 0)),
    .p (some 13) (.nilCheck (.t 12)),
    .p (some 14) (.faddr 2 (.t 13)),
    .p (some 15) (.load false 1 (.t 14)),
    .p (some 16) (.move (.t 1)),
    .p (some 17) (.lookup false ([(.int .u32)]) (.ca (List.replicate 32 (.int .u8 0))) true (.t 15) (.t 16)),
    .p (some 11) (.move (.t 17)),
    .p (some 18) (.extract (.t 11) 0),
    .p (some 19) (.extract (.t 11) 1),
    .e (some 6) (.alloc (List.replicate 32 (.d (.int .u8 0)))),
    .e .none (.store 32 (.t 6) (.t 18)),
    .p (some 7) (.move (.t 19))])
  (c13_k0)
def c13_k2 : C :=
  .cond (.t 9)
    (.seq (.ops [4, 5] [.p (some 10) (.build (List.replicate 32 (.int .u8 0)) []),
      .e .none (.store 32 (.t 4) (.t 10)),
      .p (some 5) (.move (.c (.bool false)))])
    (.ret))
    (.skip)
def c13_k3 : C :=
  .seq (.seq (.ops [0, 1, 4, 9] [.p (some 8) (.move (.t 0)),
    .p (some 9) (.bin .eql .ptr [] (.t 8) (.c .nilp))])
  (c13_k2))
  (c13_k1)
def c13 : FnC := ⟨2, 22, [.cell 4 true 32, .tmp 5],
  .seq (.ops [0, 1, 4] [.e (some 4) (.alloc (List.replicate 32 (.d (.int .u8 0)))),
    .p (some 5) (.move (.c (.bool false)))])
  (c13_k3),
  []⟩

/-! 36: slices.Contains[[]uint32,uint32] -/
def c36_k0 : C :=
  .seq (.ops [4] [.p (some 5) (.move (.t 0)),
    .p (some 6) (.move (.t 1)),
    .call (some 7) 45 [(.t 5), (.t 6)],
    .p (some 8) (.bin .geq .int [] (.t 7) (.c (.int .i64 0))),
    .p (some 4) (.move (.t 8))])
  (.ret)
def c36 : FnC := ⟨2, 9, [.tmp 4],
  .seq (.ops [0, 1] [.p (some 4) (.move (.c (.bool false)))])
  (c36_k0),
  []⟩

/-! 45: slices.Index[[]uint32,uint32] -/
def c45_k0 : C :=
  .cond (.t 16)
    (.seq (.ops [4] [.p (some 17) (.move (.t 5)),
      .p (some 4) (.move (.t 17))])
    (.ret))
    (.skip)
def c45_k1 : C :=
  .seq (.ops [0, 1, 5, 7, 8, 16] [.p (some 11) (.move (.t 1)),
    .p (some 12) (.move (.t 0)),
    .p (some 13) (.move (.t 5)),
    .p (some 14) (.iaddr 1 (.t 12) (.t 13)),
    .p (some 15) (.load false 1 (.t 14)),
    .p (some 16) (.bin .eql .int [] (.t 11) (.t 15))])
  (c45_k0)
def c45_k2 : C :=
  .seq (.ops [0, 1, 5, 7, 8] [.p (some 10) (.move (.t 8)),
    .p (some 5) (.move (.t 10))])
  (c45_k1)
def c45_k3 : C :=
  .seq (.block 1 (c45_k2))
  (.ops [0, 1, 7, 8] [.p (some 18) (.bin .add .int [] (.t 8) (.c (.int .i64 1))),
    .p (some 8) (.move (.t 18))])
def c45_k4 : C :=
  .seq (.cond (.t 9)
    (.skip)
    (.exit 0))
  (c45_k3)
def c45_l5 : C :=
  .seq (.ops [0, 1, 7, 8, 9] [.p (some 9) (.bin .lss .int [] (.t 8) (.t 7))])
  (c45_k4)
def c45_k6 : C :=
  .block 0 (.loop [0, 1, 7, 8] c45_l5)
def c45_k7 : C :=
  .seq (.seq (.ops [0, 1, 7, 8] [.p (some 6) (.move (.t 0)),
    .p (some 7) (.len .slice (.t 6)),
    .p (some 8) (.move (.c (.int .i64 0)))])
  (c45_k6))
  (.seq (.ops [4] [.p (some 4) (.move (.c (.int .i64 (-1))))])
  (.ret))
def c45 : FnC := ⟨2, 19, [.tmp 4],
  .seq (.ops [0, 1] [.p (some 4) (.move (.c (.int .i64 0)))])
  (c45_k7),
  []⟩

/-! 8: (*gossamer/short.Index).Salt -/
def c8_k0 : C :=
  .seq (.ops [2] [.p (some 6) (.move (.t 0)),
    .p (some 7) (.nilCheck (.t 6)),
    .p (some 8) (.faddr 0 (.t 7)),
    .p (some 9) (.faddr 0 (.t 8)),
    .p (some 10) (.load true 2 (.t 9)),
    .e .none (.store 2 (.t 2) (.t 10))])
  (.ret)
def c8_k1 : C :=
  .cond (.t 4)
    (.seq (.ops [2] [.p (some 5) (.build [(.int .u64 0), (.int .u64 0)] []),
      .e .none (.store 2 (.t 2) (.t 5))])
    (.ret))
    (.skip)
def c8_k2 : C :=
  .seq (.seq (.ops [0, 2, 4] [.p (some 3) (.move (.t 0)),
    .p (some 4) (.bin .eql .ptr [] (.t 3) (.c .nilp))])
  (c8_k1))
  (c8_k0)
def c8 : FnC := ⟨1, 11, [.cell 2 true 2],
  .seq (.ops [0, 2] [.e (some 2) (.alloc [(.d (.int .u64 0)), (.d (.int .u64 0))])])
  (c8_k2),
  []⟩

/-! 9: gossamer/gossamerlaw22.play -/
def c9_k0 : C :=
  .seq (.ops [8, 9] [.p (some 70) (.move (.t 1)),
    .p (some 71) (.move (.t 0)),
    .p (some 72) (.move (.t 1)),
    .call (some 73) 25 [(.t 71), (.t 72)],
    .p (some 8) (.move (.t 70)),
    .p (some 9) (.move (.t 73))])
  (.ret)
def c9_k1 : C :=
  .cond (.t 67)
    (.seq (.ops [8, 9] [.p (some 68) (.move (.t 1)),
      .p (some 8) (.move (.t 68)),
      .p (some 9) (.move (.c (.bool false)))])
    (.ret))
    (.skip)
def c9_k2 : C :=
  .seq (.ops [0, 1, 6, 17, 18, 19, 67] [.p (some 53) (.move (.t 14)),
    .call (some 54) 27 [(.t 53)],
    .p (some 55) (.move (.t 16)),
    .p (some 56) (.bin .neq .int [] (.t 54) (.t 55)),
    .p (some 57) (.move (.t 56)),
    .when 57 false [.p (some 58) (.move (.t 16)),
      .p (some 59) (.bin .eql .int [] (.t 58) (.c (.int .i64 0))),
      .p (some 60) (.move (.t 59))],
    .when 60 true [.p (some 61) (.move (.t 0)),
      .p (some 62) (.faddr 1 (.t 11)),
      .p (some 63) (.load true 32 (.t 62)),
      .call (some 64) 11 [(.t 61), (.t 63)],
      .p (some 65) (.una .not (.t 64))],
    .when 57 false [.p (some 66) (.pick (.t 60) (.t 65) (.c (.bool false)))],
    .p (some 67) (.pick (.t 57) (.c (.bool true)) (.t 66))])
  (c9_k1)
def c9_k3 : C :=
  .seq (.ops [0, 1, 6, 11, 14, 16, 17, 18, 19] [.p (some 52) (.move (.t 15)),
    .p (some 1) (.move (.t 52))])
  (c9_k2)
def c9_k4 : C :=
  .seq (.ops [0, 6, 11, 14, 15, 16, 17, 18, 19] [.p (some 45) (.move (.t 1)),
    .p (some 46) (.load true 2 (.t 6)),
    .p (some 47) (.faddr 1 (.t 11)),
    .p (some 48) (.load true 32 (.t 47)),
    .call (some 49) 26 [(.t 45), (.t 46), (.t 48)],
    .p (some 44) (.move (.t 49)),
    .p (some 50) (.extract (.t 44) 0),
    .p (some 51) (.extract (.t 44) 1),
    .p (some 15) (.move (.t 50)),
    .p (some 16) (.move (.t 51))])
  (c9_k3)
def c9_k5 : C :=
  .seq (.ops [0, 1, 6, 11, 14, 17, 18, 19] [.p (some 40) (.move (.t 0)),
    .p (some 41) (.faddr 1 (.t 11)),
    .p (some 42) (.load true 32 (.t 41)),
    .call (some 43) 28 [(.t 40), (.t 42)],
    .p (some 14) (.move (.t 43))])
  (c9_k4)
def c9_k6 : C :=
  .cond (.t 38)
    (.seq (.ops [8, 9] [.p (some 39) (.move (.t 1)),
      .p (some 8) (.move (.t 39)),
      .p (some 9) (.move (.c (.bool false)))])
    (.ret))
    (.skip)
def c9_k7 : C :=
  .seq (.seq (.ops [0, 1, 6, 17, 18, 19, 38] [.p (some 33) (.move (.t 0)),
    .p (some 34) (.faddr 1 (.t 11)),
    .p (some 35) (.load true 32 (.t 34)),
    .call (some 36) 29 [(.t 33), (.t 35)],
    .p (some 37) (.move (.t 13)),
    .p (some 38) (.bin .neq .bool [] (.t 36) (.t 37))])
  (c9_k6))
  (.exit 1)
def c9_k8 : C :=
  .seq (.ops [0, 1, 6, 11, 13, 17, 18, 19] [.p (some 32) (.move (.t 12)),
    .p (some 1) (.move (.t 32))])
  (c9_k7)
def c9_k9 : C :=
  .seq (.ops [0, 6, 11, 12, 13, 17, 18, 19] [.p (some 26) (.move (.t 1)),
      .p (some 27) (.faddr 1 (.t 11)),
      .p (some 28) (.load true 32 (.t 27)),
      .call (some 29) 34 [(.t 26), (.t 28)],
      .p (some 25) (.move (.t 29)),
      .p (some 30) (.extract (.t 25) 0),
      .p (some 31) (.extract (.t 25) 1),
      .p (some 12) (.move (.t 30)),
      .p (some 13) (.move (.t 31))])
    (c9_k8)
def c9_k10 : C :=
  .cond (.t 24)
    (c9_k9)
    (.skip)
def c9_k11 : C :=
  .seq (.seq (.ops [0, 1, 6, 11, 17, 18, 19, 24] [.p (some 23) (.faddr 0 (.t 11)),
    .p (some 24) (.load false 1 (.t 23))])
  (c9_k10))
  (c9_k5)
def c9_k12 : C :=
  .seq (.ops [0, 1, 6, 11, 17, 18, 19] [.p (some 21) (.iaddr 33 (.t 17) (.t 19)),
    .p (some 22) (.load true 33 (.t 21)),
    .e (some 11) (.alloc [(.d (.bool false)), (.d (.int .u8 0)), (.d (.int .u8 0)), (.d (.int .u8 0)), (.d (.int .u8 0)), (.d (.int .u8 0)), (.d (.int .u8 0)), (.d (.int .u8 0)), (.d (.int .u8 0)), (.d (.int .u8 0)), (.d (.int .u8 0)), (.d (.int .u8 0)), (.d (.int .u8 0)), (.d (.int .u8 0)), (.d (.int .u8 0)), (.d (.int .u8 0)), (.d (.int .u8 0)), (.d (.int .u8 0)), (.d (.int .u8 0)), (.d (.int .u8 0)), (.d (.int .u8 0)), (.d (.int .u8 0)), (.d (.int .u8 0)), (.d (.int .u8 0)), (.d (.int .u8 0)), (.d (.int .u8 0)), (.d (.int .u8 0)), (.d (.int .u8 0)), (.d (.int .u8 0)), (.d (.int .u8 0)), (.d (.int .u8 0)), (.d (.int .u8 0)), (.d (.int .u8 0))]),
    .e .none (.store 33 (.t 11) (.t 22))])
  (c9_k11)
def c9_k13 : C :=
  .seq (.block 1 (c9_k12))
  (.ops [0, 1, 6, 17, 18, 19] [.p (some 69) (.bin .add .int [] (.t 19) (.c (.int .i64 1))),
    .p (some 19) (.move (.t 69))])
def c9_k14 : C :=
  .seq (.cond (.t 20)
    (.skip)
    (.exit 0))
  (c9_k13)
def c9_l15 : C :=
  .seq (.ops [0, 1, 6, 17, 18, 19, 20] [.p (some 20) (.bin .lss .int [] (.t 19) (.t 18))])
  (c9_k14)
def c9_k16 : C :=
  .block 0 (.loop [0, 1, 6, 17, 18, 19] c9_l15)
def c9_k17 : C :=
  .seq (.seq (.ops [0, 1, 6, 17, 18, 19] [.p (some 17) (.move (.t 3)),
    .p (some 18) (.len .slice (.t 17)),
    .p (some 19) (.move (.c (.int .i64 0)))])
  (c9_k16))
  (c9_k0)
def c9 : FnC := ⟨4, 74, [.tmp 8, .tmp 9],
  .seq (.ops [0, 1, 3, 6] [.e (some 6) (.box (.t 2)),
    .p (some 8) (.move (.c .nils)),
    .p (some 9) (.move (.c (.bool false)))])
  (c9_k17),
  []⟩

/-! 34: gossamer/gossamerref22.Remove -/
def c34_k0 : C :=
  .seq (.ops [4, 5] [.p (some 28) (.move (.t 6)),
    .p (some 29) (.move (.t 6)),
    .p (some 30) (.len .slice (.t 29)),
    .p (some 31) (.move (.t 0)),
    .p (some 32) (.len .slice (.t 31)),
    .p (some 33) (.bin .lss .int [] (.t 30) (.t 32)),
    .p (some 4) (.move (.t 28)),
    .p (some 5) (.move (.t 33))])
  (.ret)
def c34_k1 : C :=
  .ops [0, 3, 6, 7] [.p (some 12) (.move (.t 7)),
    .p (some 13) (.bin .add .int [] (.t 12) (.c (.int .i64 1))),
    .p (some 7) (.move (.t 13))]
def c34_k2 : C :=
  .cond (.t 20)
    (.ops [0, 3, 6, 7] [.p (some 21) (.move (.t 6)),
      .p (some 22) (.move (.t 0)),
      .p (some 23) (.move (.t 7)),
      .p (some 24) (.iaddr 33 (.t 22) (.t 23)),
      .p (some 25) (.load true 33 (.t 24)),
      .p (some 26) (.bslice 84 1 33 [(.int .u32 0), (.int .u8 0), (.int .u8 0), (.int .u8 0), (.int .u8 0), (.int .u8 0), (.int .u8 0), (.int .u8 0), (.int .u8 0), (.int .u8 0), (.int .u8 0), (.int .u8 0), (.int .u8 0), (.int .u8 0), (.int .u8 0), (.int .u8 0), (.int .u8 0), (.int .u8 0), (.int .u8 0), (.int .u8 0), (.int .u8 0), (.int .u8 0), (.int .u8 0), (.int .u8 0), (.int .u8 0), (.int .u8 0), (.int .u8 0), (.int .u8 0), (.int .u8 0), (.int .u8 0), (.int .u8 0), (.int .u8 0), (.int .u8 0)] [(0, (.t 25))]),
      .e (some 27) (.append 84 33 36 (.t 21) (.t 26)),
      .p (some 6) (.move (.t 27))])
    (.skip)
def c34_k3 : C :=
  .seq (.drw [0, 3, 6, 7, 20] 0 [⟨.none, .p (some 14) (.move (.t 0)), [], 0⟩,
    ⟨.none, .p (some 15) (.move (.t 7)), [], 0⟩,
    ⟨.none, .p (some 16) (.iaddr 33 (.t 14) (.t 15)), [0, 1], 0⟩,
    ⟨.none, .p (some 17) (.faddr 1 (.t 16)), [2], 0⟩,
    ⟨.none, .p (some 18) (.load true 32 (.t 17)), [3], 0⟩,
    ⟨.none, .p (some 19) (.load true 32 (.t 3)), [], 0⟩,
    ⟨.none, .p (some 20) (.bin .neq .flat (List.replicate 32 (.int .u8)) (.t 18) (.t 19)), [4, 5], 0⟩])
  (c34_k2)
def c34_k4 : C :=
  .seq (.block 1 (c34_k3))
  (c34_k1)
def c34_k5 : C :=
  .cond (.t 11)
    (.skip)
    (.exit 0)
def c34_l6 : C :=
  .seq (.seq (.ops [0, 3, 6, 7, 11] [.p (some 8) (.move (.t 7)),
    .p (some 9) (.move (.t 0)),
    .p (some 10) (.len .slice (.t 9)),
    .p (some 11) (.bin .lss .int [] (.t 8) (.t 10))])
  (c34_k5))
  (c34_k4)
def c34_k7 : C :=
  .block 0 (.loop [0, 3, 6, 7] c34_l6)
def c34_k8 : C :=
  .seq (.seq (.ops [0, 3, 6, 7] [.p (some 7) (.move (.c (.int .i64 0)))])
  (c34_k7))
  (c34_k0)
def c34_k9 : C :=
  .seq (.ops [0, 3, 6] [.p (some 6) (.move (.c .nils))])
  (c34_k8)
def c34 : FnC := ⟨2, 34, [.tmp 4, .tmp 5],
  .seq (.ops [0, 3] [.e (some 3) (.box (.t 1)),
    .p (some 4) (.move (.c .nils)),
    .p (some 5) (.move (.c (.bool false)))])
  (c34_k9),
  []⟩

/-! 29: (*gossamer/short.Index).Remove -/
def c29_k0 : C :=
  .seq (.drw [] 0 [⟨.none, .p (some 9) (.move (.t 0)), [], 0⟩,
    ⟨.none, .p (some 10) (.nilCheck (.t 9)), [0], 0⟩,
    ⟨.none, .p (some 11) (.faddr 2 (.t 10)), [1], 0⟩,
    ⟨.none, .p (some 12) (.load false 1 (.t 11)), [2], 0⟩,
    ⟨.none, .p (some 13) (.move (.t 0)), [], 0⟩,
    ⟨.none, .p (some 14) (.nilCheck (.t 13)), [4], 0⟩,
    ⟨.none, .p (some 15) (.faddr 0 (.t 14)), [5], 0⟩,
    ⟨.none, .p (some 16) (.load true 2 (.t 15)), [6], 0⟩,
    ⟨.none, .p (some 17) (.load true 32 (.t 3)), [], 0⟩,
    ⟨.none, .call (some 18) 35 [(.t 16), (.t 17)], [7, 8], 0⟩,
    ⟨.none, .e .none (.mapDelete false ([(.int .u32)]) (.t 12) (.t 18)), [3, 9, 9], 0⟩])
  (.seq (.ops [4] [.p (some 4) (.move (.c (.bool true)))])
  (.ret))
def c29_k1 : C :=
  .cond (.t 8)
    (.seq (.ops [4] [.p (some 4) (.move (.c (.bool false)))])
    (.ret))
    (.skip)
def c29_k2 : C :=
  .seq (.seq (.ops [0, 3, 8] [.p (some 5) (.move (.t 0)),
    .p (some 6) (.load true 32 (.t 3)),
    .call (some 7) 11 [(.t 5), (.t 6)],
    .p (some 8) (.una .not (.t 7))])
  (c29_k1))
  (c29_k0)
def c29 : FnC := ⟨2, 19, [.tmp 4],
  .seq (.ops [0, 3] [.e (some 3) (.box (.t 1)),
    .p (some 4) (.move (.c (.bool false)))])
  (c29_k2),
  []⟩

/-! 11: (*gossamer/short.Index).Has -/
def c11_k0 : C :=
  .seq (.ops [4] [.p (some 23) (.move (.t 6)),
    .p (some 24) (.move (.t 23)),
    .when 24 true [.p (some 25) (.load true 32 (.t 5)),
      .p (some 26) (.load true 32 (.t 3)),
      .p (some 27) (.bin .eql .flat (List.replicate 32 (.int .u8)) (.t 25) (.t 26))],
    .p (some 28) (.pick (.t 24) (.t 27) (.c (.bool false))),
    .p (some 4) (.move (.t 28))])
  (.ret)
def c11_k1 : C :=
  .seq (.drw [3, 5, 6] 1 [⟨.none, .p (some 10) (.move (.t 0)), [], 0⟩,
    ⟨.none, .p (some 11) (.nilCheck (.t 10)), [0], 0⟩,
    ⟨.none, .p (some 12) (.faddr 2 (.t 11)), [1], 0⟩,
    ⟨.none, .p (some 13) (.load false 1 (.t 12)), [2], 0⟩,
    ⟨.none, .p (some 14) (.move (.t 0)), [], 0⟩,
    ⟨.none, .p (some 15) (.nilCheck (.t 14)), [4], 0⟩,
    ⟨.none, .p (some 16) (.faddr 0 (.t 15)), [5], 0⟩,
    ⟨.none, .p (some 17) (.load true 2 (.t 16)), [6], 0⟩,
    ⟨.none, .p (some 18) (.load true 32 (.t 3)), [], 0⟩,
    ⟨.none, .call (some 19) 35 [(.t 17), (.t 18)], [7, 8], 0⟩,
    ⟨.none, .p (some 20) (.lookup false ([(.int .u32)]) (.ca (List.replicate 32 (.int .u8 0))) true (.t 13) (.t 19)), [3, 9], 0⟩,
    ⟨.none, .p (some 9) (.move (.t 20)), [10], 0⟩,
    ⟨.none, .p (some 21) (.extract (.t 9) 0), [11], 0⟩,
    ⟨.none, .p (some 22) (.extract (.t 9) 1), [11], 0⟩,
    ⟨.none, .e (some 5) (.alloc (List.replicate 32 (.d (.int .u8 0)))), [], 0⟩,
    ⟨.none, .e .none (.store 32 (.t 5) (.t 21)), [14, 12, 9, 0, 1, 2, 3, 4, 5, 6, 7, 8, 9, 10, 11, 12, 14], 1⟩,
    ⟨.none, .p (some 6) (.move (.t 22)), [13, 15, 0, 1, 2, 3, 4, 5, 6, 7, 8, 9, 10, 11, 12, 13, 14, 15], 1⟩])
  (c11_k0)
def c11_k2 : C :=
  .cond (.t 8)
    (.seq (.ops [4] [.p (some 4) (.move (.c (.bool false)))])
    (.ret))
    (.skip)
def c11_k3 : C :=
  .seq (.seq (.ops [0, 3, 8] [.p (some 7) (.move (.t 0)),
    .p (some 8) (.bin .eql .ptr [] (.t 7) (.c .nilp))])
  (c11_k2))
  (c11_k1)
def c11 : FnC := ⟨2, 29, [.tmp 4],
  .seq (.ops [0, 3] [.e (some 3) (.box (.t 1)),
    .p (some 4) (.move (.c (.bool false)))])
  (c11_k3),
  []⟩

/-! 26: gossamer/gossamerref22.Put -/
def c26_k0 : C :=
  .seq (.ops [6, 7] [.p (some 78) (.move (.t 9)),
    .p (some 6) (.move (.t 78)),
    .p (some 7) (.move (.c (.int .i64 0)))])
  (.ret)
def c26_k1 : C :=
  .cond (.t 71)
    (.ops [9] [.p (some 72) (.move (.t 9)),
      .p (some 73) (.move (.t 8)),
      .p (some 74) (.load true 32 (.t 5)),
      .p (some 75) (.build [(.int .u32 0), (.int .u8 0), (.int .u8 0), (.int .u8 0), (.int .u8 0), (.int .u8 0), (.int .u8 0), (.int .u8 0), (.int .u8 0), (.int .u8 0), (.int .u8 0), (.int .u8 0), (.int .u8 0), (.int .u8 0), (.int .u8 0), (.int .u8 0), (.int .u8 0), (.int .u8 0), (.int .u8 0), (.int .u8 0), (.int .u8 0), (.int .u8 0), (.int .u8 0), (.int .u8 0), (.int .u8 0), (.int .u8 0), (.int .u8 0), (.int .u8 0), (.int .u8 0), (.int .u8 0), (.int .u8 0), (.int .u8 0), (.int .u8 0)] [(0, 1, (.t 73)), (1, 32, (.t 74))]),
      .p (some 76) (.bslice 84 1 33 [(.int .u32 0), (.int .u8 0), (.int .u8 0), (.int .u8 0), (.int .u8 0), (.int .u8 0), (.int .u8 0), (.int .u8 0), (.int .u8 0), (.int .u8 0), (.int .u8 0), (.int .u8 0), (.int .u8 0), (.int .u8 0), (.int .u8 0), (.int .u8 0), (.int .u8 0), (.int .u8 0), (.int .u8 0), (.int .u8 0), (.int .u8 0), (.int .u8 0), (.int .u8 0), (.int .u8 0), (.int .u8 0), (.int .u8 0), (.int .u8 0), (.int .u8 0), (.int .u8 0), (.int .u8 0), (.int .u8 0), (.int .u8 0), (.int .u8 0)] [(0, (.t 75))]),
      .e (some 77) (.append 84 33 36 (.t 72) (.t 76)),
      .p (some 9) (.move (.t 77))])
    (.skip)
def c26_k2 : C :=
  .seq (.seq (.ops [5, 8, 9, 71] [.p (some 70) (.move (.t 10)),
    .p (some 71) (.una .not (.t 70))])
  (c26_k1))
  (c26_k0)
def c26_k3 : C :=
  .ops [0, 5, 8, 9, 10, 11] [.p (some 19) (.move (.t 11)),
    .p (some 20) (.bin .add .int [] (.t 19) (.c (.int .i64 1))),
    .p (some 11) (.move (.t 20))]
def c26_k4 : C :=
  .ops [0, 5, 8, 9, 10, 11] [.p (some 63) (.move (.t 9)),
    .p (some 64) (.move (.t 0)),
    .p (some 65) (.move (.t 11)),
    .p (some 66) (.iaddr 33 (.t 64) (.t 65)),
    .p (some 67) (.load true 33 (.t 66)),
    .p (some 68) (.bslice 84 1 33 [(.int .u32 0), (.int .u8 0), (.int .u8 0), (.int .u8 0), (.int .u8 0), (.int .u8 0), (.int .u8 0), (.int .u8 0), (.int .u8 0), (.int .u8 0), (.int .u8 0), (.int .u8 0), (.int .u8 0), (.int .u8 0), (.int .u8 0), (.int .u8 0), (.int .u8 0), (.int .u8 0), (.int .u8 0), (.int .u8 0), (.int .u8 0), (.int .u8 0), (.int .u8 0), (.int .u8 0), (.int .u8 0), (.int .u8 0), (.int .u8 0), (.int .u8 0), (.int .u8 0), (.int .u8 0), (.int .u8 0), (.int .u8 0), (.int .u8 0)] [(0, (.t 67))]),
    .e (some 69) (.append 84 33 36 (.t 63) (.t 68)),
    .p (some 9) (.move (.t 69))]
def c26_k5 : C :=
  .cond (.t 56)
    (.seq (.ops [0, 5, 8, 9, 11] [.p (some 57) (.move (.t 9)),
      .p (some 58) (.move (.t 8)),
      .p (some 59) (.load true 32 (.t 5)),
      .p (some 60) (.build [(.int .u32 0), (.int .u8 0), (.int .u8 0), (.int .u8 0), (.int .u8 0), (.int .u8 0), (.int .u8 0), (.int .u8 0), (.int .u8 0), (.int .u8 0), (.int .u8 0), (.int .u8 0), (.int .u8 0), (.int .u8 0), (.int .u8 0), (.int .u8 0), (.int .u8 0), (.int .u8 0), (.int .u8 0), (.int .u8 0), (.int .u8 0), (.int .u8 0), (.int .u8 0), (.int .u8 0), (.int .u8 0), (.int .u8 0), (.int .u8 0), (.int .u8 0), (.int .u8 0), (.int .u8 0), (.int .u8 0), (.int .u8 0), (.int .u8 0)] [(0, 1, (.t 58)), (1, 32, (.t 59))]),
      .p (some 61) (.bslice 84 1 33 [(.int .u32 0), (.int .u8 0), (.int .u8 0), (.int .u8 0), (.int .u8 0), (.int .u8 0), (.int .u8 0), (.int .u8 0), (.int .u8 0), (.int .u8 0), (.int .u8 0), (.int .u8 0), (.int .u8 0), (.int .u8 0), (.int .u8 0), (.int .u8 0), (.int .u8 0), (.int .u8 0), (.int .u8 0), (.int .u8 0), (.int .u8 0), (.int .u8 0), (.int .u8 0), (.int .u8 0), (.int .u8 0), (.int .u8 0), (.int .u8 0), (.int .u8 0), (.int .u8 0), (.int .u8 0), (.int .u8 0), (.int .u8 0), (.int .u8 0)] [(0, (.t 60))]),
      .e (some 62) (.append 84 33 36 (.t 57) (.t 61)),
      .p (some 9) (.move (.t 62))])
    (.ops [0, 5, 8, 9, 10, 11] [.p (some 10) (.move (.c (.bool true)))]))
    (.skip)
def c26_k6 : C :=
  .seq (.seq (.ops [0, 5, 8, 9, 10, 11, 56] [.p (some 46) (.move (.t 10)),
    .p (some 47) (.una .not (.t 46)),
    .p (some 48) (.move (.t 47)),
    .when 48 true [.p (some 49) (.move (.t 8)),
      .p (some 50) (.move (.t 0)),
      .p (some 51) (.move (.t 11)),
      .p (some 52) (.iaddr 33 (.t 50) (.t 51)),
      .p (some 53) (.faddr 0 (.t 52)),
      .p (some 54) (.load false 1 (.t 53)),
      .p (some 55) (.bin .lss .int [] (.t 49) (.t 54))],
    .p (some 56) (.pick (.t 48) (.t 55) (.c (.bool false)))])
  (c26_k5))
  (c26_k4)
def c26_k7 : C :=
  .cond (.t 44)
    (.seq (.ops [6, 7] [.p (some 45) (.move (.t 0)),
      .p (some 6) (.move (.t 45)),
      .p (some 7) (.move (.c (.int .i64 5)))])
    (.ret))
    (.skip)
def c26_k8 : C :=
  .seq (.seq (.ops [0, 5, 8, 9, 10, 11, 44] [.p (some 38) (.move (.t 0)),
    .p (some 39) (.move (.t 11)),
    .p (some 40) (.iaddr 33 (.t 38) (.t 39)),
    .p (some 41) (.faddr 0 (.t 40)),
    .p (some 42) (.load false 1 (.t 41)),
    .p (some 43) (.move (.t 8)),
    .p (some 44) (.bin .eql .int [] (.t 42) (.t 43))])
  (c26_k7))
  (c26_k6)
def c26_k9 : C :=
  .cond (.t 36)
    (.seq (.ops [6, 7] [.p (some 37) (.move (.t 0)),
      .p (some 6) (.move (.t 37)),
      .p (some 7) (.move (.c (.int .i64 6)))])
    (.ret))
    (.skip)
def c26_k10 : C :=
  .seq (.seq (.drw [0, 5, 8, 9, 10, 11, 36] 0 [⟨.none, .p (some 21) (.move (.t 0)), [], 0⟩,
    ⟨.none, .p (some 22) (.move (.t 11)), [], 0⟩,
    ⟨.none, .p (some 23) (.iaddr 33 (.t 21) (.t 22)), [0, 1], 0⟩,
    ⟨.none, .p (some 24) (.faddr 0 (.t 23)), [2], 0⟩,
    ⟨.none, .p (some 25) (.load false 1 (.t 24)), [3], 0⟩,
    ⟨.none, .p (some 26) (.move (.t 8)), [], 0⟩,
    ⟨.none, .p (some 27) (.bin .eql .int [] (.t 25) (.t 26)), [4, 5], 0⟩,
    ⟨.none, .p (some 28) (.move (.t 27)), [6], 0⟩,
    ⟨(some (28, true)), .p (some 29) (.move (.t 0)), [7], 0⟩,
    ⟨(some (28, true)), .p (some 30) (.move (.t 11)), [7], 0⟩,
    ⟨(some (28, true)), .p (some 31) (.iaddr 33 (.t 29) (.t 30)), [8, 9, 7], 0⟩,
    ⟨(some (28, true)), .p (some 32) (.faddr 1 (.t 31)), [10, 7], 0⟩,
    ⟨(some (28, true)), .p (some 33) (.load true 32 (.t 32)), [11, 7], 0⟩,
    ⟨(some (28, true)), .p (some 34) (.load true 32 (.t 5)), [7], 0⟩,
    ⟨(some (28, true)), .p (some 35) (.bin .eql .flat (List.replicate 32 (.int .u8)) (.t 33) (.t 34)), [12, 13, 7], 0⟩,
    ⟨.none, .p (some 36) (.pick (.t 28) (.t 35) (.c (.bool false))), [7, 14], 0⟩])
  (c26_k9))
  (c26_k8)
def c26_k11 : C :=
  .seq (.block 1 (c26_k10))
  (c26_k3)
def c26_k12 : C :=
  .cond (.t 18)
    (.skip)
    (.exit 0)
def c26_l13 : C :=
  .seq (.seq (.ops [0, 5, 8, 9, 10, 11, 18] [.p (some 15) (.move (.t 11)),
    .p (some 16) (.move (.t 0)),
    .p (some 17) (.len .slice (.t 16)),
    .p (some 18) (.bin .lss .int [] (.t 15) (.t 17))])
  (c26_k12))
  (c26_k11)
def c26_k14 : C :=
  .block 0 (.loop [0, 5, 8, 9, 10, 11] c26_l13)
def c26_k15 : C :=
  .seq (.seq (.ops [0, 5, 8, 9, 10, 11] [.p (some 11) (.move (.c (.int .i64 0)))])
  (c26_k14))
  (c26_k2)
def c26_k16 : C :=
  .seq (.ops [0, 5, 8, 9, 10] [.p (some 10) (.move (.c (.bool false)))])
  (c26_k15)
def c26_k17 : C :=
  .seq (.ops [0, 5, 8, 9] [.p (some 9) (.move (.c .nils))])
  (c26_k16)
def c26_k18 : C :=
  .seq (.ops [0, 5, 8] [.p (some 12) (.load true 2 (.t 4)),
    .p (some 13) (.load true 32 (.t 5)),
    .call (some 14) 41 [(.t 12), (.t 13)],
    .p (some 8) (.move (.t 14))])
  (c26_k17)
def c26 : FnC := ⟨3, 79, [.tmp 6, .tmp 7],
  .seq (.ops [0, 4, 5] [.e (some 4) (.box (.t 1)),
    .e (some 5) (.box (.t 2)),
    .p (some 6) (.move (.c .nils)),
    .p (some 7) (.move (.c (.int .i64 0)))])
  (c26_k18),
  []⟩

/-! 41: gossamer/gossamerref06.Short -/
def c41_k0 : C :=
  .seq (.ops [4] [.p (some 17) (.load true 2 (.t 2)),
    .p (some 18) (.move (.t 5)),
    .call (some 19) 49 [(.t 17), (.t 18)],
    .p (some 20) (.bin .rem .int [] (.t 19) (.c (.int .u64 4294967295))),
    .p (some 21) (.bin .add .int [] (.t 20) (.c (.int .u64 1))),
    .p (some 22) (.conv (.int .u32) (.t 21)),
    .p (some 4) (.move (.t 22))])
  (.ret)
def c41_k1 : C :=
  .ops [2, 3, 5, 6] [.p (some 9) (.move (.t 6)),
    .p (some 10) (.bin .add .int [] (.t 9) (.c (.int .i64 1))),
    .p (some 6) (.move (.t 10))]
def c41_k2 : C :=
  .seq (.block 1 (.ops [2, 3, 5, 6] [.p (some 11) (.move (.t 5)),
    .p (some 12) (.move (.t 6)),
    .p (some 13) (.iaddrArr 32 1 (.t 3) (.t 12)),
    .p (some 14) (.load false 1 (.t 13)),
    .p (some 15) (.bslice 5 1 1 [(.int .u8 0)] [(0, (.t 14))]),
    .e (some 16) (.append 5 1 1 (.t 11) (.t 15)),
    .p (some 5) (.move (.t 16))]))
  (c41_k1)
def c41_k3 : C :=
  .cond (.t 8)
    (.skip)
    (.exit 0)
def c41_l4 : C :=
  .seq (.seq (.ops [2, 3, 5, 6, 8] [.p (some 7) (.move (.t 6)),
    .p (some 8) (.bin .lss .int [] (.t 7) (.c (.int .i64 32)))])
  (c41_k3))
  (c41_k2)
def c41_k5 : C :=
  .block 0 (.loop [2, 3, 5, 6] c41_l4)
def c41_k6 : C :=
  .seq (.seq (.ops [2, 3, 5, 6] [.p (some 6) (.move (.c (.int .i64 0)))])
  (c41_k5))
  (c41_k0)
def c41_k7 : C :=
  .seq (.ops [2, 3, 5] [.p (some 5) (.move (.c .nils))])
  (c41_k6)
def c41 : FnC := ⟨2, 23, [.tmp 4],
  .seq (.ops [2, 3] [.e (some 2) (.box (.t 0)),
    .e (some 3) (.box (.t 1)),
    .p (some 4) (.move (.c (.int .u32 0)))])
  (c41_k7),
  []⟩

/-! 49: gossamer/gossamerref06.Hash -/
def c49_k0 : C :=
  .seq (.ops [4] [.p (some 79) (.iaddrArr 4 1 (.t 5) (.c (.int .i64 0))),
    .p (some 80) (.load false 1 (.t 79)),
    .p (some 81) (.iaddrArr 4 1 (.t 5) (.c (.int .i64 1))),
    .p (some 82) (.load false 1 (.t 81)),
    .p (some 83) (.bin .xor .int [] (.t 80) (.t 82)),
    .p (some 84) (.iaddrArr 4 1 (.t 5) (.c (.int .i64 2))),
    .p (some 85) (.load false 1 (.t 84)),
    .p (some 86) (.bin .xor .int [] (.t 83) (.t 85)),
    .p (some 87) (.iaddrArr 4 1 (.t 5) (.c (.int .i64 3))),
    .p (some 88) (.load false 1 (.t 87)),
    .p (some 89) (.bin .xor .int [] (.t 86) (.t 88)),
    .p (some 4) (.move (.t 89))])
  (.ret)
def c49_k1 : C :=
  .seq (.ops [5] [.p (some 77) (.load true 4 (.t 5)),
    .call (some 78) 60 [(.t 77), (.c (.int .i64 4))],
    .e .none (.store 4 (.t 5) (.t 78))])
  (c49_k0)
def c49_k2 : C :=
  .seq (.ops [5] [.p (some 73) (.iaddrArr 4 1 (.t 5) (.c (.int .i64 2))),
    .p (some 74) (.load false 1 (.t 73)),
    .p (some 75) (.bin .xor .int [] (.t 74) (.c (.int .u64 255))),
    .p (some 76) (.iaddrArr 4 1 (.t 5) (.c (.int .i64 2))),
    .e .none (.store 1 (.t 76) (.t 75))])
  (c49_k1)
def c49_k3 : C :=
  .ops [1, 5, 6] [.p (some 26) (.move (.t 6)),
    .p (some 27) (.bin .add .int [] (.t 26) (.c (.int .i64 8))),
    .p (some 6) (.move (.t 27))]
def c49_k4 : C :=
  .ops [1, 5, 6] [.p (some 68) (.iaddrArr 4 1 (.t 5) (.c (.int .i64 0))),
    .p (some 69) (.load false 1 (.t 68)),
    .p (some 70) (.move (.t 7)),
    .p (some 71) (.bin .xor .int [] (.t 69) (.t 70)),
    .p (some 72) (.iaddrArr 4 1 (.t 5) (.c (.int .i64 0))),
    .e .none (.store 1 (.t 72) (.t 71))]
def c49_k5 : C :=
  .seq (.ops [1, 5, 6, 7] [.p (some 66) (.load true 4 (.t 5)),
    .call (some 67) 60 [(.t 66), (.c (.int .i64 2))],
    .e .none (.store 4 (.t 5) (.t 67))])
  (c49_k4)
def c49_k6 : C :=
  .seq (.ops [1, 5, 6, 7] [.p (some 61) (.iaddrArr 4 1 (.t 5) (.c (.int .i64 3))),
    .p (some 62) (.load false 1 (.t 61)),
    .p (some 63) (.move (.t 7)),
    .p (some 64) (.bin .xor .int [] (.t 62) (.t 63)),
    .p (some 65) (.iaddrArr 4 1 (.t 5) (.c (.int .i64 3))),
    .e .none (.store 1 (.t 65) (.t 64))])
  (c49_k5)
def c49_k7 : C :=
  .cond (.t 53)
    (.ops [1, 5, 6, 7] [.p (some 54) (.move (.t 7)),
      .p (some 55) (.move (.t 1)),
      .p (some 56) (.len .slice (.t 55)),
      .p (some 57) (.bin .rem .int [] (.t 56) (.c (.int .i64 256))),
      .p (some 58) (.conv (.int .u64) (.t 57)),
      .p (some 59) (.bin .mul .int [] (.t 58) (.c (.int .u64 72057594037927936))),
      .p (some 60) (.bin .add .int [] (.t 54) (.t 59)),
      .p (some 7) (.move (.t 60))])
    (.skip)
def c49_k8 : C :=
  .seq (.seq (.ops [1, 5, 6, 7, 53] [.p (some 49) (.move (.t 6)),
    .p (some 50) (.bin .add .int [] (.t 49) (.c (.int .i64 8))),
    .p (some 51) (.move (.t 1)),
    .p (some 52) (.len .slice (.t 51)),
    .p (some 53) (.bin .gtr .int [] (.t 50) (.t 52))])
  (c49_k7))
  (c49_k6)
def c49_k9 : C :=
  .ops [1, 5, 6, 7, 8] [.p (some 30) (.move (.t 8)),
    .p (some 31) (.bin .sub .int [] (.t 30) (.c (.int .i64 1))),
    .p (some 8) (.move (.t 31))]
def c49_k10 : C :=
  .cond (.t 39)
    (.ops [1, 5, 6, 7, 8] [.p (some 40) (.move (.t 7)),
      .p (some 41) (.move (.t 1)),
      .p (some 42) (.move (.t 6)),
      .p (some 43) (.move (.t 8)),
      .p (some 44) (.bin .add .int [] (.t 42) (.t 43)),
      .p (some 45) (.iaddr 1 (.t 41) (.t 44)),
      .p (some 46) (.load false 1 (.t 45)),
      .p (some 47) (.conv (.int .u64) (.t 46)),
      .p (some 48) (.bin .add .int [] (.t 40) (.t 47)),
      .p (some 7) (.move (.t 48))])
    (.skip)
def c49_k11 : C :=
  .seq (.ops [1, 5, 6, 7, 8, 39] [.p (some 34) (.move (.t 6)),
    .p (some 35) (.move (.t 8)),
    .p (some 36) (.bin .add .int [] (.t 34) (.t 35)),
    .p (some 37) (.move (.t 1)),
    .p (some 38) (.len .slice (.t 37)),
    .p (some 39) (.bin .lss .int [] (.t 36) (.t 38))])
  (c49_k10)
def c49_k12 : C :=
  .seq (.ops [1, 5, 6, 7, 8] [.p (some 32) (.move (.t 7)),
    .p (some 33) (.bin .mul .int [] (.t 32) (.c (.int .u64 256))),
    .p (some 7) (.move (.t 33))])
  (c49_k11)
def c49_k13 : C :=
  .seq (.block 3 (c49_k12))
  (c49_k9)
def c49_k14 : C :=
  .cond (.t 29)
    (.skip)
    (.exit 2)
def c49_l15 : C :=
  .seq (.seq (.ops [1, 5, 6, 7, 8, 29] [.p (some 28) (.move (.t 8)),
    .p (some 29) (.bin .geq .int [] (.t 28) (.c (.int .i64 0)))])
  (c49_k14))
  (c49_k13)
def c49_k16 : C :=
  .block 2 (.loop [1, 5, 6, 7, 8] c49_l15)
def c49_k17 : C :=
  .seq (.seq (.ops [1, 5, 6, 7, 8] [.p (some 8) (.move (.c (.int .i64 7)))])
  (c49_k16))
  (c49_k8)
def c49_k18 : C :=
  .seq (.ops [1, 5, 6, 7] [.p (some 7) (.move (.c (.int .u64 0)))])
  (c49_k17)
def c49_k19 : C :=
  .seq (.block 1 (c49_k18))
  (c49_k3)
def c49_k20 : C :=
  .cond (.t 25)
    (.skip)
    (.exit 0)
def c49_l21 : C :=
  .seq (.seq (.ops [1, 5, 6, 25] [.p (some 22) (.move (.t 6)),
    .p (some 23) (.move (.t 1)),
    .p (some 24) (.len .slice (.t 23)),
    .p (some 25) (.bin .leq .int [] (.t 22) (.t 24))])
  (c49_k20))
  (c49_k19)
def c49_k22 : C :=
  .block 0 (.loop [1, 5, 6] c49_l21)
def c49_k23 : C :=
  .seq (.seq (.ops [1, 5, 6] [.p (some 6) (.move (.c (.int .i64 0)))])
  (c49_k22))
  (c49_k2)
def c49_k24 : C :=
  .seq (.ops [1, 5] [.p (some 9) (.faddr 0 (.t 2)),
    .p (some 10) (.load false 1 (.t 9)),
    .p (some 11) (.bin .xor .int [] (.t 10) (.c (.int .u64 8317987319222330741))),
    .p (some 12) (.faddr 1 (.t 2)),
    .p (some 13) (.load false 1 (.t 12)),
    .p (some 14) (.bin .xor .int [] (.t 13) (.c (.int .u64 7237128888997146477))),
    .p (some 15) (.faddr 0 (.t 2)),
    .p (some 16) (.load false 1 (.t 15)),
    .p (some 17) (.bin .xor .int [] (.t 16) (.c (.int .u64 7816392313619706465))),
    .p (some 18) (.faddr 1 (.t 2)),
    .p (some 19) (.load false 1 (.t 18)),
    .p (some 20) (.bin .xor .int [] (.t 19) (.c (.int .u64 8387220255154660723))),
    .p (some 21) (.build [(.int .u64 0), (.int .u64 0), (.int .u64 0), (.int .u64 0)] [(0, 1, (.t 11)), (1, 1, (.t 14)), (2, 1, (.t 17)), (3, 1, (.t 20))]),
    .e (some 5) (.alloc [(.d (.int .u64 0)), (.d (.int .u64 0)), (.d (.int .u64 0)), (.d (.int .u64 0))]),
    .e .none (.store 4 (.t 5) (.t 21))])
  (c49_k23)
def c49 : FnC := ⟨2, 90, [.tmp 4],
  .seq (.ops [1, 2] [.e (some 2) (.box (.t 0)),
    .p (some 4) (.move (.c (.int .u64 0)))])
  (c49_k24),
  []⟩

/-! 60: gossamer/gossamerref06.rounds -/
def c60_k0 : C :=
  .seq (.ops [4] [.p (some 83) (.load true 4 (.t 2)),
    .e .none (.store 4 (.t 4) (.t 83))])
  (.ret)
def c60_k1 : C :=
  .ops [1, 2, 4, 5] [.p (some 9) (.move (.t 5)),
    .p (some 10) (.bin .add .int [] (.t 9) (.c (.int .i64 1))),
    .p (some 5) (.move (.t 10))]
def c60_k2 : C :=
  .ops [1, 2, 4, 5] [.p (some 79) (.iaddrArr 4 1 (.t 2) (.c (.int .i64 2))),
    .p (some 80) (.load false 1 (.t 79)),
    .call (some 81) 70 [(.t 80), (.c (.int .u64 32))],
    .p (some 82) (.iaddrArr 4 1 (.t 2) (.c (.int .i64 2))),
    .e .none (.store 1 (.t 82) (.t 81))]
def c60_k3 : C :=
  .seq (.ops [1, 2, 4, 5] [.p (some 73) (.iaddrArr 4 1 (.t 2) (.c (.int .i64 1))),
    .p (some 74) (.load false 1 (.t 73)),
    .p (some 75) (.iaddrArr 4 1 (.t 2) (.c (.int .i64 2))),
    .p (some 76) (.load false 1 (.t 75)),
    .p (some 77) (.bin .xor .int [] (.t 74) (.t 76)),
    .p (some 78) (.iaddrArr 4 1 (.t 2) (.c (.int .i64 1))),
    .e .none (.store 1 (.t 78) (.t 77))])
  (c60_k2)
def c60_k4 : C :=
  .seq (.ops [1, 2, 4, 5] [.p (some 69) (.iaddrArr 4 1 (.t 2) (.c (.int .i64 1))),
    .p (some 70) (.load false 1 (.t 69)),
    .call (some 71) 70 [(.t 70), (.c (.int .u64 17))],
    .p (some 72) (.iaddrArr 4 1 (.t 2) (.c (.int .i64 1))),
    .e .none (.store 1 (.t 72) (.t 71))])
  (c60_k3)
def c60_k5 : C :=
  .seq (.ops [1, 2, 4, 5] [.p (some 63) (.iaddrArr 4 1 (.t 2) (.c (.int .i64 2))),
    .p (some 64) (.load false 1 (.t 63)),
    .p (some 65) (.iaddrArr 4 1 (.t 2) (.c (.int .i64 1))),
    .p (some 66) (.load false 1 (.t 65)),
    .p (some 67) (.bin .add .int [] (.t 64) (.t 66)),
    .p (some 68) (.iaddrArr 4 1 (.t 2) (.c (.int .i64 2))),
    .e .none (.store 1 (.t 68) (.t 67))])
  (c60_k4)
def c60_k6 : C :=
  .seq (.ops [1, 2, 4, 5] [.p (some 57) (.iaddrArr 4 1 (.t 2) (.c (.int .i64 3))),
    .p (some 58) (.load false 1 (.t 57)),
    .p (some 59) (.iaddrArr 4 1 (.t 2) (.c (.int .i64 0))),
    .p (some 60) (.load false 1 (.t 59)),
    .p (some 61) (.bin .xor .int [] (.t 58) (.t 60)),
    .p (some 62) (.iaddrArr 4 1 (.t 2) (.c (.int .i64 3))),
    .e .none (.store 1 (.t 62) (.t 61))])
  (c60_k5)
def c60_k7 : C :=
  .seq (.ops [1, 2, 4, 5] [.p (some 53) (.iaddrArr 4 1 (.t 2) (.c (.int .i64 3))),
    .p (some 54) (.load false 1 (.t 53)),
    .call (some 55) 70 [(.t 54), (.c (.int .u64 21))],
    .p (some 56) (.iaddrArr 4 1 (.t 2) (.c (.int .i64 3))),
    .e .none (.store 1 (.t 56) (.t 55))])
  (c60_k6)
def c60_k8 : C :=
  .seq (.ops [1, 2, 4, 5] [.p (some 47) (.iaddrArr 4 1 (.t 2) (.c (.int .i64 0))),
    .p (some 48) (.load false 1 (.t 47)),
    .p (some 49) (.iaddrArr 4 1 (.t 2) (.c (.int .i64 3))),
    .p (some 50) (.load false 1 (.t 49)),
    .p (some 51) (.bin .add .int [] (.t 48) (.t 50)),
    .p (some 52) (.iaddrArr 4 1 (.t 2) (.c (.int .i64 0))),
    .e .none (.store 1 (.t 52) (.t 51))])
  (c60_k7)
def c60_k9 : C :=
  .seq (.ops [1, 2, 4, 5] [.p (some 41) (.iaddrArr 4 1 (.t 2) (.c (.int .i64 3))),
    .p (some 42) (.load false 1 (.t 41)),
    .p (some 43) (.iaddrArr 4 1 (.t 2) (.c (.int .i64 2))),
    .p (some 44) (.load false 1 (.t 43)),
    .p (some 45) (.bin .xor .int [] (.t 42) (.t 44)),
    .p (some 46) (.iaddrArr 4 1 (.t 2) (.c (.int .i64 3))),
    .e .none (.store 1 (.t 46) (.t 45))])
  (c60_k8)
def c60_k10 : C :=
  .seq (.ops [1, 2, 4, 5] [.p (some 37) (.iaddrArr 4 1 (.t 2) (.c (.int .i64 3))),
    .p (some 38) (.load false 1 (.t 37)),
    .call (some 39) 70 [(.t 38), (.c (.int .u64 16))],
    .p (some 40) (.iaddrArr 4 1 (.t 2) (.c (.int .i64 3))),
    .e .none (.store 1 (.t 40) (.t 39))])
  (c60_k9)
def c60_k11 : C :=
  .seq (.ops [1, 2, 4, 5] [.p (some 31) (.iaddrArr 4 1 (.t 2) (.c (.int .i64 2))),
    .p (some 32) (.load false 1 (.t 31)),
    .p (some 33) (.iaddrArr 4 1 (.t 2) (.c (.int .i64 3))),
    .p (some 34) (.load false 1 (.t 33)),
    .p (some 35) (.bin .add .int [] (.t 32) (.t 34)),
    .p (some 36) (.iaddrArr 4 1 (.t 2) (.c (.int .i64 2))),
    .e .none (.store 1 (.t 36) (.t 35))])
  (c60_k10)
def c60_k12 : C :=
  .seq (.ops [1, 2, 4, 5] [.p (some 27) (.iaddrArr 4 1 (.t 2) (.c (.int .i64 0))),
    .p (some 28) (.load false 1 (.t 27)),
    .call (some 29) 70 [(.t 28), (.c (.int .u64 32))],
    .p (some 30) (.iaddrArr 4 1 (.t 2) (.c (.int .i64 0))),
    .e .none (.store 1 (.t 30) (.t 29))])
  (c60_k11)
def c60_k13 : C :=
  .seq (.ops [1, 2, 4, 5] [.p (some 21) (.iaddrArr 4 1 (.t 2) (.c (.int .i64 1))),
    .p (some 22) (.load false 1 (.t 21)),
    .p (some 23) (.iaddrArr 4 1 (.t 2) (.c (.int .i64 0))),
    .p (some 24) (.load false 1 (.t 23)),
    .p (some 25) (.bin .xor .int [] (.t 22) (.t 24)),
    .p (some 26) (.iaddrArr 4 1 (.t 2) (.c (.int .i64 1))),
    .e .none (.store 1 (.t 26) (.t 25))])
  (c60_k12)
def c60_k14 : C :=
  .seq (.ops [1, 2, 4, 5] [.p (some 17) (.iaddrArr 4 1 (.t 2) (.c (.int .i64 1))),
    .p (some 18) (.load false 1 (.t 17)),
    .call (some 19) 70 [(.t 18), (.c (.int .u64 13))],
    .p (some 20) (.iaddrArr 4 1 (.t 2) (.c (.int .i64 1))),
    .e .none (.store 1 (.t 20) (.t 19))])
  (c60_k13)
def c60_k15 : C :=
  .seq (.ops [1, 2, 4, 5] [.p (some 11) (.iaddrArr 4 1 (.t 2) (.c (.int .i64 0))),
    .p (some 12) (.load false 1 (.t 11)),
    .p (some 13) (.iaddrArr 4 1 (.t 2) (.c (.int .i64 1))),
    .p (some 14) (.load false 1 (.t 13)),
    .p (some 15) (.bin .add .int [] (.t 12) (.t 14)),
    .p (some 16) (.iaddrArr 4 1 (.t 2) (.c (.int .i64 0))),
    .e .none (.store 1 (.t 16) (.t 15))])
  (c60_k14)
def c60_k16 : C :=
  .seq (.block 1 (c60_k15))
  (c60_k1)
def c60_k17 : C :=
  .cond (.t 8)
    (.skip)
    (.exit 0)
def c60_l18 : C :=
  .seq (.seq (.ops [1, 2, 4, 5, 8] [.p (some 6) (.move (.t 5)),
    .p (some 7) (.move (.t 1)),
    .p (some 8) (.bin .lss .int [] (.t 6) (.t 7))])
  (c60_k17))
  (c60_k16)
def c60_k19 : C :=
  .block 0 (.loop [1, 2, 4, 5] c60_l18)
def c60_k20 : C :=
  .seq (.seq (.ops [1, 2, 4, 5] [.p (some 5) (.move (.c (.int .i64 0)))])
  (c60_k19))
  (c60_k0)
def c60 : FnC := ⟨2, 84, [.cell 4 true 4],
  .seq (.ops [1, 2, 4] [.e (some 2) (.box (.t 0)),
    .e (some 4) (.alloc [(.d (.int .u64 0)), (.d (.int .u64 0)), (.d (.int .u64 0)), (.d (.int .u64 0))])])
  (c60_k20),
  []⟩

/-! 70: gossamer/gossamerref06.turn -/
def c70_k0 : C :=
  .seq (.ops [4] [.p (some 5) (.move (.t 0)),
    .p (some 6) (.move (.t 1)),
    .p (some 7) (.bin .shl .int [] (.t 5) (.t 6)),
    .p (some 8) (.move (.t 0)),
    .p (some 9) (.move (.t 1)),
    .p (some 10) (.bin .sub .int [] (.c (.int .u64 64)) (.t 9)),
    .p (some 11) (.bin .shr .int [] (.t 8) (.t 10)),
    .p (some 12) (.bin .or .int [] (.t 7) (.t 11)),
    .p (some 4) (.move (.t 12))])
  (.ret)
def c70 : FnC := ⟨2, 13, [.tmp 4],
  .seq (.ops [0, 1] [.p (some 4) (.move (.c (.int .u64 0)))])
  (c70_k0),
  []⟩

/-! 27: gossamer/gossamernum.Num -/
def c27_k0 : C :=
  .cond (.t 16)
    (.seq (.ops [2] [.p (some 17) (.move (.t 3)),
      .p (some 2) (.move (.t 17))])
    (.ret))
    (.skip)
def c27_k1 : C :=
  .seq (.ops [3, 16] [.p (some 12) (.move (.t 4)),
    .p (some 13) (.move (.t 12)),
    .when 13 true [.p (some 14) (.move (.t 3)),
      .p (some 15) (.bin .neq .int [] (.t 14) (.c (.int .i64 0)))],
    .p (some 16) (.pick (.t 13) (.t 15) (.c (.bool false)))])
  (c27_k0)
def c27_k2 : C :=
  .seq (.seq (.ops [3, 4] [.p (some 8) (.move (.t 0)),
    .p (some 9) (.assert 60 (.c (.int .i64 0)) true (.t 8)),
    .p (some 7) (.move (.t 9)),
    .p (some 10) (.extract (.t 7) 0),
    .p (some 11) (.extract (.t 7) 1),
    .p (some 3) (.move (.t 10)),
    .p (some 4) (.move (.t 11))])
  (c27_k1))
  (.seq (.ops [2] [.p (some 2) (.move (.c (.int .i64 (-1))))])
  (.ret))
def c27_k3 : C :=
  .cond (.t 6)
    (.seq (.ops [2] [.p (some 2) (.move (.c (.int .i64 0)))])
    (.ret))
    (.skip)
def c27_k4 : C :=
  .seq (.seq (.ops [0, 6] [.p (some 5) (.move (.t 0)),
    .p (some 6) (.bin .eql .iface [] (.t 5) (.c .nili))])
  (c27_k3))
  (c27_k2)
def c27 : FnC := ⟨1, 18, [.tmp 2],
  .seq (.ops [0] [.p (some 2) (.move (.c (.int .i64 0)))])
  (c27_k4),
  []⟩

/-! 25: gossamer/gossamerlaw22.stands -/
def c25_k0 : C :=
  .seq (.ops [4] [.p (some 5) (.move (.t 0)),
    .call (some 6) 31 [(.t 5)],
    .p (some 7) (.move (.t 1)),
    .call (some 8) 12 [(.t 7)],
    .call (some 9) 18 [(.t 6), (.t 8)],
    .p (some 10) (.move (.t 9)),
    .when 10 true [.p (some 11) (.move (.t 0)),
      .call (some 12) 32 [(.t 11)],
      .p (some 13) (.move (.t 1)),
      .call (some 14) 10 [(.t 13)],
      .call (some 15) 17 [(.t 12), (.t 14)]],
    .p (some 16) (.pick (.t 10) (.t 15) (.c (.bool false))),
    .p (some 17) (.move (.t 16)),
    .when 17 true [.p (some 18) (.move (.t 0)),
      .call (some 19) 30 [(.t 18)],
      .p (some 20) (.move (.t 1)),
      .p (some 21) (.len .slice (.t 20)),
      .p (some 22) (.bin .eql .int [] (.t 19) (.t 21))],
    .p (some 23) (.pick (.t 17) (.t 22) (.c (.bool false))),
    .p (some 4) (.move (.t 23))])
  (.ret)
def c25 : FnC := ⟨2, 24, [.tmp 4],
  .seq (.ops [0, 1] [.p (some 4) (.move (.c (.bool false)))])
  (c25_k0),
  []⟩

/-! 31: (*gossamer/short.Index).IDs -/
def c31_k0 : C :=
  .seq (.ops [2] [.p (some 5) (.move (.t 0)),
    .p (some 6) (.nilCheck (.t 5)),
    .p (some 7) (.faddr 2 (.t 6)),
    .p (some 8) (.load false 1 (.t 7)),
    .call (some 9) 43 [(.t 8)],
    .call (some 10) 42 [(.t 9)],
    .p (some 2) (.move (.t 10))])
  (.ret)
def c31_k1 : C :=
  .cond (.t 4)
    (.seq (.ops [2] [.p (some 2) (.move (.c .nils))])
    (.ret))
    (.skip)
def c31_k2 : C :=
  .seq (.seq (.ops [0, 4] [.p (some 3) (.move (.t 0)),
    .p (some 4) (.bin .eql .ptr [] (.t 3) (.c .nilp))])
  (c31_k1))
  (c31_k0)
def c31 : FnC := ⟨1, 11, [.tmp 2],
  .seq (.ops [0] [.p (some 2) (.move (.c .nils))])
  (c31_k2),
  []⟩

/-! 43: maps.Keys[map[uint32]gossamer/api.Hash,uint32,gossamer/api.Hash] -/
def c43_k0 : C :=
  .seq (.ops [2] [.p (some 3) (.mkfn (.func 52) [] [(.t 1)]),
    .p (some 2) (.move (.t 3))])
  (.ret)
def c43 : FnC := ⟨1, 4, [.tmp 2],
  .seq (.ops [1] [.e (some 1) (.box (.t 0)),
    .p (some 2) (.move (.c .nilf))])
  (c43_k0),
  []⟩

/-! 52: maps.Keys[map[uint32]gossamer/api.Hash,uint32,gossamer/api.Hash]$1 -/
def c52_k0 : C :=
  .cond (.t 13)
    (.ret)
    (.skip)
def c52_k1 : C :=
  .seq (.ops [0, 5, 13] [.p (some 10) (.move (.t 0)),
    .p (some 11) (.move (.t 3)),
    .callv (some 12) (.t 10) [(.t 11)],
    .p (some 13) (.una .not (.t 12))])
  (c52_k0)
def c52_k2 : C :=
  .seq (.ops [0, 3, 5] [.e (some 8) (.entry (.t 5)),
    .p (some 9) (.extract (.t 8) 0),
    .p (some 3) (.move (.t 9))])
  (c52_k1)
def c52_k3 : C :=
  .block 1 (c52_k2)
def c52_k4 : C :=
  .seq (.cond (.t 7)
    (.skip)
    (.exit 0))
  (c52_k3)
def c52_l5 : C :=
  .seq (.ops [0, 5, 7] [.next (some 6) (.t 5),
    .p (some 7) (.extract (.t 6) 0)])
  (c52_k4)
def c52_k6 : C :=
  .block 0 (.loop [0, 5] c52_l5)
def c52 : FnC := ⟨2, 14, [],
  .seq (.ops [0, 5] [.p (some 4) (.load false 1 (.t 1)),
    .e (some 5) (.range (.t 4))])
  (c52_k6),
  []⟩

/-! 42: slices.Sorted[uint32] -/
def c42_k0 : C :=
  .seq (.ops [2] [.p (some 8) (.move (.t 3)),
    .p (some 2) (.move (.t 8))])
  (.ret)
def c42_k1 : C :=
  .seq (.ops [3] [.p (some 6) (.move (.t 3)),
    .call (some 7) 51 [(.t 6)]])
  (c42_k0)
def c42_k2 : C :=
  .seq (.ops [3] [.p (some 4) (.move (.t 0)),
    .call (some 5) 50 [(.t 4)],
    .p (some 3) (.move (.t 5))])
  (c42_k1)
def c42 : FnC := ⟨1, 9, [.tmp 2],
  .seq (.ops [0] [.p (some 2) (.move (.c .nils))])
  (c42_k2),
  []⟩

/-! 50: slices.Collect[uint32] -/
def c50_k0 : C :=
  .seq (.ops [2] [.p (some 3) (.move (.t 0)),
    .call (some 4) 61 [(.c .nils), (.t 3)],
    .p (some 2) (.move (.t 4))])
  (.ret)
def c50 : FnC := ⟨1, 5, [.tmp 2],
  .seq (.ops [0] [.p (some 2) (.move (.c .nils))])
  (c50_k0),
  []⟩

/-! 61: slices.AppendSeq[[]uint32,uint32] -/
def c61_k0 : C :=
  .seq (.ops [4] [.p (some 12) (.load false 1 (.t 2)),
    .p (some 4) (.move (.t 12))])
  (.ret)
def c61_a1 : C :=
  .ops [2, 5] [.p (some 5) (.move (.t 7))]
def c61_b2 : C :=
  .block 1 (.ops [] [.p (some 8) (.load false 1 (.t 2)),
    .p (some 9) (.move (.t 5)),
    .p (some 10) (.bslice 46 1 1 [(.int .u32 0)] [(0, (.t 9))]),
    .e (some 11) (.append 46 1 4 (.t 8) (.t 10)),
    .e .none (.store 1 (.t 2) (.t 11))])
def c61_k3 : C :=
  .block 0 (.rangeF [2] (.t 6) [7] c61_a1 c61_b2)
def c61_k4 : C :=
  .seq (.seq (.ops [2, 6] [.p (some 6) (.move (.t 1))])
  (c61_k3))
  (c61_k0)
def c61 : FnC := ⟨2, 13, [.tmp 4],
  .seq (.ops [1, 2] [.e (some 2) (.box (.t 0)),
    .p (some 4) (.move (.c .nils))])
  (c61_k4),
  []⟩

/-! 51: slices.Sort[[]uint32,uint32] -/
def c51_k0 : C :=
  .ops [] [.p (some 5) (.move (.t 0)),
    .p (some 6) (.move (.t 2)),
    .p (some 7) (.move (.t 2)),
    .p (some 8) (.conv (.int .u64) (.t 7)),
    .call (some 9) 63 [(.t 8)],
    .call (some 10) 62 [(.t 5), (.c (.int .i64 0)), (.t 6), (.t 9)]]
def c51 : FnC := ⟨1, 11, [],
  .seq (.ops [0, 2] [.p (some 3) (.move (.t 0)),
    .p (some 4) (.len .slice (.t 3)),
    .p (some 2) (.move (.t 4))])
  (c51_k0),
  []⟩

/-! 63: math/bits.Len -/
def c63_k0 : C :=
  .seq (.ops [2] [.p (some 6) (.move (.t 0)),
    .call (some 7) 81 [(.t 6)],
    .p (some 2) (.move (.t 7))])
  (.ret)
def c63_k1 : C :=
  .seq (.cond (.c (.bool false))
    (.seq (.ops [2] [.p (some 3) (.move (.t 0)),
      .p (some 4) (.conv (.int .u32) (.t 3)),
      .call (some 5) 80 [(.t 4)],
      .p (some 2) (.move (.t 5))])
    (.ret))
    (.skip))
  (c63_k0)
def c63 : FnC := ⟨1, 8, [.tmp 2],
  .seq (.ops [0] [.p (some 2) (.move (.c (.int .i64 0)))])
  (c63_k1),
  []⟩

/-! 80: math/bits.Len32 -/
def c80_k0 : C :=
  .seq (.ops [2] [.p (some 13) (.move (.t 2)),
    .p (some 14) (.move (.t 0)),
    .p (some 15) (.conv (.int .u8) (.t 14)),
    .p (some 16) (.indexStr (.c (.str [0, 1, 2, 2, 3, 3, 3, 3, 4, 4, 4, 4, 4, 4, 4, 4, 5, 5, 5, 5, 5, 5, 5, 5, 5, 5, 5, 5, 5, 5, 5, 5, 6, 6, 6, 6, 6, 6, 6, 6, 6, 6, 6, 6, 6, 6, 6, 6, 6, 6, 6, 6, 6, 6, 6, 6, 6, 6, 6, 6, 6, 6, 6, 6, 7, 7, 7, 7, 7, 7, 7, 7, 7, 7, 7, 7, 7, 7, 7, 7, 7, 7, 7, 7, 7, 7, 7, 7, 7, 7, 7, 7, 7, 7, 7, 7, 7, 7, 7, 7, 7, 7, 7, 7, 7, 7, 7, 7, 7, 7, 7, 7, 7, 7, 7, 7, 7, 7, 7, 7, 7, 7, 7, 7, 7, 7, 7, 7, 8, 8, 8, 8, 8, 8, 8, 8, 8, 8, 8, 8, 8, 8, 8, 8, 8, 8, 8, 8, 8, 8, 8, 8, 8, 8, 8, 8, 8, 8, 8, 8, 8, 8, 8, 8, 8, 8, 8, 8, 8, 8, 8, 8, 8, 8, 8, 8, 8, 8, 8, 8, 8, 8, 8, 8, 8, 8, 8, 8, 8, 8, 8, 8, 8, 8, 8, 8, 8, 8, 8, 8, 8, 8, 8, 8, 8, 8, 8, 8, 8, 8, 8, 8, 8, 8, 8, 8, 8, 8, 8, 8, 8, 8, 8, 8, 8, 8, 8, 8, 8, 8, 8, 8, 8, 8, 8, 8, 8, 8, 8, 8, 8, 8, 8, 8, 8, 8, 8, 8, 8, 8, 8, 8, 8, 8, 8, 8])) (.t 15)),
    .p (some 17) (.conv (.int .i64) (.t 16)),
    .p (some 18) (.bin .add .int [] (.t 13) (.t 17)),
    .p (some 2) (.move (.t 18))])
  (.ret)
def c80_k1 : C :=
  .ops [0, 2] [.p (some 11) (.move (.t 2)),
    .p (some 12) (.bin .add .int [] (.t 11) (.c (.int .i64 8))),
    .p (some 2) (.move (.t 12))]
def c80_k2 : C :=
  .cond (.t 8)
    (.seq (.ops [0, 2] [.p (some 9) (.move (.t 0)),
      .p (some 10) (.bin .shr .int [] (.t 9) (.c (.int .u64 8))),
      .p (some 0) (.move (.t 10))])
    (c80_k1))
    (.skip)
def c80_k3 : C :=
  .seq (.seq (.ops [0, 2, 8] [.p (some 7) (.move (.t 0)),
    .p (some 8) (.bin .geq .int [] (.t 7) (.c (.int .u32 256)))])
  (c80_k2))
  (c80_k0)
def c80_k4 : C :=
  .cond (.t 4)
    (.seq (.ops [0] [.p (some 5) (.move (.t 0)),
      .p (some 6) (.bin .shr .int [] (.t 5) (.c (.int .u64 16))),
      .p (some 0) (.move (.t 6))])
    (.ops [0, 2] [.p (some 2) (.move (.c (.int .i64 16)))]))
    (.skip)
def c80_k5 : C :=
  .seq (.seq (.ops [0, 2, 4] [.p (some 3) (.move (.t 0)),
    .p (some 4) (.bin .geq .int [] (.t 3) (.c (.int .u32 65536)))])
  (c80_k4))
  (c80_k3)
def c80 : FnC := ⟨1, 19, [.tmp 2],
  .seq (.ops [0, 2] [.p (some 2) (.move (.c (.int .i64 0)))])
  (c80_k5),
  []⟩

/-! 81: math/bits.Len64 -/
def c81_k0 : C :=
  .seq (.ops [2] [.p (some 19) (.move (.t 2)),
    .p (some 20) (.move (.t 0)),
    .p (some 21) (.conv (.int .u8) (.t 20)),
    .p (some 22) (.indexStr (.c (.str [0, 1, 2, 2, 3, 3, 3, 3, 4, 4, 4, 4, 4, 4, 4, 4, 5, 5, 5, 5, 5, 5, 5, 5, 5, 5, 5, 5, 5, 5, 5, 5, 6, 6, 6, 6, 6, 6, 6, 6, 6, 6, 6, 6, 6, 6, 6, 6, 6, 6, 6, 6, 6, 6, 6, 6, 6, 6, 6, 6, 6, 6, 6, 6, 7, 7, 7, 7, 7, 7, 7, 7, 7, 7, 7, 7, 7, 7, 7, 7, 7, 7, 7, 7, 7, 7, 7, 7, 7, 7, 7, 7, 7, 7, 7, 7, 7, 7, 7, 7, 7, 7, 7, 7, 7, 7, 7, 7, 7, 7, 7, 7, 7, 7, 7, 7, 7, 7, 7, 7, 7, 7, 7, 7, 7, 7, 7, 7, 8, 8, 8, 8, 8, 8, 8, 8, 8, 8, 8, 8, 8, 8, 8, 8, 8, 8, 8, 8, 8, 8, 8, 8, 8, 8, 8, 8, 8, 8, 8, 8, 8, 8, 8, 8, 8, 8, 8, 8, 8, 8, 8, 8, 8, 8, 8, 8, 8, 8, 8, 8, 8, 8, 8, 8, 8, 8, 8, 8, 8, 8, 8, 8, 8, 8, 8, 8, 8, 8, 8, 8, 8, 8, 8, 8, 8, 8, 8, 8, 8, 8, 8, 8, 8, 8, 8, 8, 8, 8, 8, 8, 8, 8, 8, 8, 8, 8, 8, 8, 8, 8, 8, 8, 8, 8, 8, 8, 8, 8, 8, 8, 8, 8, 8, 8, 8, 8, 8, 8, 8, 8, 8, 8, 8, 8, 8, 8])) (.t 21)),
    .p (some 23) (.conv (.int .i64) (.t 22)),
    .p (some 24) (.bin .add .int [] (.t 19) (.t 23)),
    .p (some 2) (.move (.t 24))])
  (.ret)
def c81_k1 : C :=
  .ops [0, 2] [.p (some 17) (.move (.t 2)),
    .p (some 18) (.bin .add .int [] (.t 17) (.c (.int .i64 8))),
    .p (some 2) (.move (.t 18))]
def c81_k2 : C :=
  .cond (.t 14)
    (.seq (.ops [0, 2] [.p (some 15) (.move (.t 0)),
      .p (some 16) (.bin .shr .int [] (.t 15) (.c (.int .u64 8))),
      .p (some 0) (.move (.t 16))])
    (c81_k1))
    (.skip)
def c81_k3 : C :=
  .seq (.seq (.ops [0, 2, 14] [.p (some 13) (.move (.t 0)),
    .p (some 14) (.bin .geq .int [] (.t 13) (.c (.int .u64 256)))])
  (c81_k2))
  (c81_k0)
def c81_k4 : C :=
  .ops [0, 2] [.p (some 11) (.move (.t 2)),
    .p (some 12) (.bin .add .int [] (.t 11) (.c (.int .i64 16))),
    .p (some 2) (.move (.t 12))]
def c81_k5 : C :=
  .cond (.t 8)
    (.seq (.ops [0, 2] [.p (some 9) (.move (.t 0)),
      .p (some 10) (.bin .shr .int [] (.t 9) (.c (.int .u64 16))),
      .p (some 0) (.move (.t 10))])
    (c81_k4))
    (.skip)
def c81_k6 : C :=
  .seq (.seq (.ops [0, 2, 8] [.p (some 7) (.move (.t 0)),
    .p (some 8) (.bin .geq .int [] (.t 7) (.c (.int .u64 65536)))])
  (c81_k5))
  (c81_k3)
def c81_k7 : C :=
  .cond (.t 4)
    (.seq (.ops [0] [.p (some 5) (.move (.t 0)),
      .p (some 6) (.bin .shr .int [] (.t 5) (.c (.int .u64 32))),
      .p (some 0) (.move (.t 6))])
    (.ops [0, 2] [.p (some 2) (.move (.c (.int .i64 32)))]))
    (.skip)
def c81_k8 : C :=
  .seq (.seq (.ops [0, 2, 4] [.p (some 3) (.move (.t 0)),
    .p (some 4) (.bin .geq .int [] (.t 3) (.c (.int .u64 4294967296)))])
  (c81_k7))
  (c81_k6)
def c81 : FnC := ⟨1, 25, [.tmp 2],
  .seq (.ops [0, 2] [.p (some 2) (.move (.c (.int .i64 0)))])
  (c81_k8),
  []⟩

/-! 62: slices.pdqsortOrdered[uint32] -/
def c62_k0 : C :=
  .ops [0, 1, 2, 3, 8, 9] [.p (some 122) (.move (.t 14)),
    .p (some 123) (.bin .add .int [] (.t 122) (.c (.int .i64 1))),
    .p (some 1) (.move (.t 123))]
def c62_k1 : C :=
  .seq (.ops [0, 2, 3, 8, 9, 14] [.p (some 117) (.move (.t 0)),
    .p (some 118) (.move (.t 1)),
    .p (some 119) (.move (.t 14)),
    .p (some 120) (.move (.t 3)),
    .call (some 121) 62 [(.t 117), (.t 118), (.t 119), (.t 120)]])
  (c62_k0)
def c62_k2 : C :=
  .seq (.ops [0, 1, 2, 3, 8, 9, 14] [.p (some 114) (.move (.t 16)),
      .p (some 115) (.move (.t 18)),
      .p (some 116) (.bin .geq .int [] (.t 114) (.t 115)),
      .p (some 8) (.move (.t 116))])
    (c62_k1)
def c62_k3 : C :=
  .seq (.ops [0, 1, 3, 8, 9, 14] [.p (some 127) (.move (.t 0)),
    .p (some 128) (.move (.t 14)),
    .p (some 129) (.bin .add .int [] (.t 128) (.c (.int .i64 1))),
    .p (some 130) (.move (.t 2)),
    .p (some 131) (.move (.t 3)),
    .call (some 132) 62 [(.t 127), (.t 129), (.t 130), (.t 131)]])
  (.ops [0, 1, 2, 3, 8, 9] [.p (some 133) (.move (.t 14)),
    .p (some 2) (.move (.t 133))])
def c62_k4 : C :=
  .seq (.ops [0, 1, 2, 3, 8, 9, 14] [.p (some 124) (.move (.t 17)),
      .p (some 125) (.move (.t 18)),
      .p (some 126) (.bin .geq .int [] (.t 124) (.t 125)),
      .p (some 8) (.move (.t 126))])
    (c62_k3)
def c62_k5 : C :=
  .cond (.t 113)
    (c62_k2)
    (c62_k4)
def c62_k6 : C :=
  .seq (.ops [0, 1, 2, 3, 9, 14, 16, 17, 18, 113] [.p (some 111) (.move (.t 16)),
    .p (some 112) (.move (.t 17)),
    .p (some 113) (.bin .lss .int [] (.t 111) (.t 112))])
  (c62_k5)
def c62_k7 : C :=
  .seq (.ops [0, 1, 2, 3, 9, 14, 16, 17, 18] [.p (some 109) (.move (.t 10)),
    .p (some 110) (.bin .quo .int [] (.t 109) (.c (.int .i64 8))),
    .p (some 18) (.move (.t 110))])
  (c62_k6)
def c62_k8 : C :=
  .seq (.ops [0, 1, 2, 3, 9, 10, 14, 16, 17] [.p (some 103) (.move (.t 14)),
    .p (some 104) (.move (.t 1)),
    .p (some 105) (.bin .sub .int [] (.t 103) (.t 104)),
    .p (some 106) (.move (.t 2)),
    .p (some 107) (.move (.t 14)),
    .p (some 108) (.bin .sub .int [] (.t 106) (.t 107)),
    .p (some 16) (.move (.t 105)),
    .p (some 17) (.move (.t 108))])
  (c62_k7)
def c62_k9 : C :=
  .seq (.ops [0, 1, 2, 3, 9, 10, 14] [.p (some 102) (.move (.t 15)),
    .p (some 9) (.move (.t 102))])
  (c62_k8)
def c62_k10 : C :=
  .seq (.ops [0, 1, 2, 3, 10, 14, 15] [.p (some 95) (.move (.t 0)),
    .p (some 96) (.move (.t 1)),
    .p (some 97) (.move (.t 2)),
    .p (some 98) (.move (.t 11)),
    .call (some 99) 79 [(.t 95), (.t 96), (.t 97), (.t 98)],
    .p (some 94) (.move (.t 99)),
    .p (some 100) (.extract (.t 94) 0),
    .p (some 101) (.extract (.t 94) 1),
    .p (some 14) (.move (.t 100)),
    .p (some 15) (.move (.t 101))])
  (c62_k9)
def c62_k11 : C :=
  .seq (.ops [0, 1, 2, 3, 8, 9] [.p (some 93) (.move (.t 13)),
    .p (some 1) (.move (.t 93))])
  (.exit 1)
def c62_k12 : C :=
  .cond (.t 87)
    (.seq (.ops [0, 2, 3, 8, 9, 13] [.p (some 88) (.move (.t 0)),
      .p (some 89) (.move (.t 1)),
      .p (some 90) (.move (.t 2)),
      .p (some 91) (.move (.t 11)),
      .call (some 92) 78 [(.t 88), (.t 89), (.t 90), (.t 91)],
      .p (some 13) (.move (.t 92))])
    (c62_k11))
    (.skip)
def c62_k13 : C :=
  .seq (.seq (.drw [0, 1, 2, 3, 8, 9, 10, 11, 87] 0 [⟨.none, .p (some 73) (.move (.t 1)), [], 0⟩,
    ⟨.none, .p (some 74) (.bin .gtr .int [] (.t 73) (.c (.int .i64 0))), [0], 0⟩,
    ⟨.none, .p (some 75) (.move (.t 74)), [1], 0⟩,
    ⟨(some (75, true)), .p (some 76) (.move (.t 0)), [2], 0⟩,
    ⟨(some (75, true)), .p (some 77) (.move (.t 1)), [2], 0⟩,
    ⟨(some (75, true)), .p (some 78) (.bin .sub .int [] (.t 77) (.c (.int .i64 1))), [4, 2], 0⟩,
    ⟨(some (75, true)), .p (some 79) (.iaddr 1 (.t 76) (.t 78)), [3, 5, 2], 0⟩,
    ⟨(some (75, true)), .p (some 80) (.load false 1 (.t 79)), [6, 2], 0⟩,
    ⟨(some (75, true)), .p (some 81) (.move (.t 0)), [2], 0⟩,
    ⟨(some (75, true)), .p (some 82) (.move (.t 11)), [2], 0⟩,
    ⟨(some (75, true)), .p (some 83) (.iaddr 1 (.t 81) (.t 82)), [8, 9, 2], 0⟩,
    ⟨(some (75, true)), .p (some 84) (.load false 1 (.t 83)), [10, 2], 0⟩,
    ⟨(some (75, true)), .call (some 85) 77 [(.t 80), (.t 84)], [7, 11, 2, 2], 0⟩,
    ⟨(some (75, true)), .p (some 86) (.una .not (.t 85)), [12, 2], 0⟩,
    ⟨.none, .p (some 87) (.pick (.t 75) (.t 86) (.c (.bool false))), [2, 13], 0⟩])
  (c62_k12))
  (c62_k10)
def c62_k14 : C :=
  .cond (.t 72)
    (.ret)
    (.skip)
def c62_k15 : C :=
  .cond (.t 68)
    (.seq (.ops [0, 1, 2, 3, 8, 9, 10, 11, 72] [.p (some 69) (.move (.t 0)),
      .p (some 70) (.move (.t 1)),
      .p (some 71) (.move (.t 2)),
      .call (some 72) 76 [(.t 69), (.t 70), (.t 71)]])
    (c62_k14))
    (.skip)
def c62_k16 : C :=
  .seq (.seq (.ops [0, 1, 2, 3, 8, 9, 10, 11, 68] [.p (some 61) (.move (.t 8)),
    .p (some 62) (.move (.t 61)),
    .when 62 true [.p (some 63) (.move (.t 9))],
    .p (some 64) (.pick (.t 62) (.t 63) (.c (.bool false))),
    .p (some 65) (.move (.t 64)),
    .when 65 true [.p (some 66) (.move (.t 12)),
      .p (some 67) (.bin .eql .int [] (.t 66) (.c (.int .i64 1)))],
    .p (some 68) (.pick (.t 65) (.t 67) (.c (.bool false)))])
  (c62_k15))
  (c62_k13)
def c62_k17 : C :=
  .seq (.ops [0, 1, 2, 3, 8, 9, 10, 11] [.p (some 55) (.move (.t 2)),
    .p (some 56) (.bin .sub .int [] (.t 55) (.c (.int .i64 1))),
    .p (some 57) (.move (.t 11)),
    .p (some 58) (.move (.t 1)),
    .p (some 59) (.bin .sub .int [] (.t 57) (.t 58)),
    .p (some 60) (.bin .sub .int [] (.t 56) (.t 59)),
    .p (some 11) (.move (.t 60))])
  (.ops [0, 1, 2, 3, 8, 9, 10, 11, 12] [.p (some 12) (.move (.c (.int .i64 1)))])
def c62_k18 : C :=
  .seq (.ops [0, 1, 2, 3, 8, 9, 10, 11] [.p (some 51) (.move (.t 0)),
      .p (some 52) (.move (.t 1)),
      .p (some 53) (.move (.t 2)),
      .call (some 54) 75 [(.t 51), (.t 52), (.t 53)]])
    (c62_k17)
def c62_k19 : C :=
  .cond (.t 50)
    (c62_k18)
    (.skip)
def c62_k20 : C :=
  .seq (.seq (.ops [0, 1, 2, 3, 8, 9, 10, 11, 12, 50] [.p (some 49) (.move (.t 12)),
    .p (some 50) (.bin .eql .int [] (.t 49) (.c (.int .i64 2)))])
  (c62_k19))
  (c62_k16)
def c62_k21 : C :=
  .seq (.ops [0, 1, 2, 3, 8, 9, 10, 11, 12] [.p (some 43) (.move (.t 0)),
    .p (some 44) (.move (.t 1)),
    .p (some 45) (.move (.t 2)),
    .call (some 46) 74 [(.t 43), (.t 44), (.t 45)],
    .p (some 42) (.move (.t 46)),
    .p (some 47) (.extract (.t 42) 0),
    .p (some 48) (.extract (.t 42) 1),
    .p (some 11) (.move (.t 47)),
    .p (some 12) (.move (.t 48))])
  (c62_k20)
def c62_k22 : C :=
  .ops [0, 1, 2, 3, 8, 9, 10] [.p (some 40) (.move (.t 3)),
    .p (some 41) (.bin .sub .int [] (.t 40) (.c (.int .i64 1))),
    .p (some 3) (.move (.t 41))]
def c62_k23 : C :=
  .cond (.t 35)
    (.seq (.ops [0, 1, 2, 3, 8, 9, 10] [.p (some 36) (.move (.t 0)),
      .p (some 37) (.move (.t 1)),
      .p (some 38) (.move (.t 2)),
      .call (some 39) 73 [(.t 36), (.t 37), (.t 38)]])
    (c62_k22))
    (.skip)
def c62_k24 : C :=
  .seq (.seq (.ops [0, 1, 2, 3, 8, 9, 10, 35] [.p (some 34) (.move (.t 8)),
    .p (some 35) (.una .not (.t 34))])
  (c62_k23))
  (c62_k21)
def c62_k25 : C :=
  .cond (.t 29)
    (.seq (.ops [] [.p (some 30) (.move (.t 0)),
      .p (some 31) (.move (.t 1)),
      .p (some 32) (.move (.t 2)),
      .call (some 33) 72 [(.t 30), (.t 31), (.t 32)]])
    (.ret))
    (.skip)
def c62_k26 : C :=
  .seq (.seq (.ops [0, 1, 2, 3, 8, 9, 10, 29] [.p (some 28) (.move (.t 3)),
    .p (some 29) (.bin .eql .int [] (.t 28) (.c (.int .i64 0)))])
  (c62_k25))
  (c62_k24)
def c62_k27 : C :=
  .cond (.t 23)
    (.seq (.ops [] [.p (some 24) (.move (.t 0)),
      .p (some 25) (.move (.t 1)),
      .p (some 26) (.move (.t 2)),
      .call (some 27) 71 [(.t 24), (.t 25), (.t 26)]])
    (.ret))
    (.skip)
def c62_k28 : C :=
  .seq (.seq (.ops [0, 1, 2, 3, 8, 9, 10, 23] [.p (some 22) (.move (.t 10)),
    .p (some 23) (.bin .leq .int [] (.t 22) (.c (.int .i64 12)))])
  (c62_k27))
  (c62_k26)
def c62_k29 : C :=
  .seq (.ops [0, 1, 2, 3, 8, 9, 10] [.p (some 19) (.move (.t 2)),
    .p (some 20) (.move (.t 1)),
    .p (some 21) (.bin .sub .int [] (.t 19) (.t 20)),
    .p (some 10) (.move (.t 21))])
  (c62_k28)
def c62_l30 : C :=
  .block 1 (c62_k29)
def c62_k31 : C :=
  .block 0 (.loop [0, 1, 2, 3, 8, 9] c62_l30)
def c62_k32 : C :=
  .seq (.ops [0, 1, 2, 3, 8, 9] [.p (some 9) (.move (.c (.bool true)))])
  (c62_k31)
def c62 : FnC := ⟨4, 134, [],
  .seq (.ops [0, 1, 2, 3, 8] [.p (some 8) (.move (.c (.bool true)))])
  (c62_k32),
  []⟩

/-! 71: slices.insertionSortOrdered[uint32] -/
def c71_k0 : C :=
  .ops [0, 1, 2, 6] [.p (some 13) (.move (.t 6)),
    .p (some 14) (.bin .add .int [] (.t 13) (.c (.int .i64 1))),
    .p (some 6) (.move (.t 14))]
def c71_k1 : C :=
  .ops [0, 1, 2, 6, 7] [.p (some 31) (.move (.t 7)),
    .p (some 32) (.bin .sub .int [] (.t 31) (.c (.int .i64 1))),
    .p (some 7) (.move (.t 32))]
def c71_k2 : C :=
  .drw [0, 1, 2, 6, 7] 0 [⟨.none, .p (some 33) (.move (.t 0)), [], 0⟩,
    ⟨.none, .p (some 34) (.move (.t 7)), [], 0⟩,
    ⟨.none, .p (some 35) (.move (.t 0)), [], 0⟩,
    ⟨.none, .p (some 36) (.move (.t 7)), [], 0⟩,
    ⟨.none, .p (some 37) (.bin .sub .int [] (.t 36) (.c (.int .i64 1))), [3], 0⟩,
    ⟨.none, .p (some 38) (.move (.t 0)), [], 0⟩,
    ⟨.none, .p (some 39) (.move (.t 7)), [], 0⟩,
    ⟨.none, .p (some 40) (.bin .sub .int [] (.t 39) (.c (.int .i64 1))), [6], 0⟩,
    ⟨.none, .p (some 41) (.iaddr 1 (.t 38) (.t 40)), [5, 7], 0⟩,
    ⟨.none, .p (some 42) (.load false 1 (.t 41)), [8], 0⟩,
    ⟨.none, .p (some 43) (.move (.t 0)), [], 0⟩,
    ⟨.none, .p (some 44) (.move (.t 7)), [], 0⟩,
    ⟨.none, .p (some 45) (.iaddr 1 (.t 43) (.t 44)), [10, 11], 0⟩,
    ⟨.none, .p (some 46) (.load false 1 (.t 45)), [12], 0⟩,
    ⟨.none, .p (some 47) (.iaddr 1 (.t 33) (.t 34)), [0, 1, 0, 1, 5, 6, 7, 8, 9, 13], 0⟩,
    ⟨.none, .e .none (.store 1 (.t 47) (.t 42)), [14, 9, 0, 1, 5, 6, 7, 8, 9, 13], 0⟩,
    ⟨.none, .p (some 48) (.iaddr 1 (.t 35) (.t 37)), [2, 4, 0, 1, 2, 3, 4, 5, 6, 7, 8, 9, 10, 11, 12, 13, 14, 15], 0⟩,
    ⟨.none, .e .none (.store 1 (.t 48) (.t 46)), [16, 13, 15, 0, 1, 2, 3, 4, 5, 6, 7, 8, 9, 10, 11, 12, 13, 14, 15], 0⟩]
def c71_k3 : C :=
  .seq (.block 3 (c71_k2))
  (c71_k1)
def c71_k4 : C :=
  .cond (.t 30)
    (.skip)
    (.exit 2)
def c71_l5 : C :=
  .seq (.seq (.drw [0, 1, 2, 6, 7, 30] 0 [⟨.none, .p (some 16) (.move (.t 7)), [], 0⟩,
    ⟨.none, .p (some 17) (.move (.t 1)), [], 0⟩,
    ⟨.none, .p (some 18) (.bin .gtr .int [] (.t 16) (.t 17)), [0, 1], 0⟩,
    ⟨.none, .p (some 19) (.move (.t 18)), [2], 0⟩,
    ⟨(some (19, true)), .p (some 20) (.move (.t 0)), [3], 0⟩,
    ⟨(some (19, true)), .p (some 21) (.move (.t 7)), [3], 0⟩,
    ⟨(some (19, true)), .p (some 22) (.iaddr 1 (.t 20) (.t 21)), [4, 5, 3], 0⟩,
    ⟨(some (19, true)), .p (some 23) (.load false 1 (.t 22)), [6, 3], 0⟩,
    ⟨(some (19, true)), .p (some 24) (.move (.t 0)), [3], 0⟩,
    ⟨(some (19, true)), .p (some 25) (.move (.t 7)), [3], 0⟩,
    ⟨(some (19, true)), .p (some 26) (.bin .sub .int [] (.t 25) (.c (.int .i64 1))), [9, 3], 0⟩,
    ⟨(some (19, true)), .p (some 27) (.iaddr 1 (.t 24) (.t 26)), [8, 10, 3], 0⟩,
    ⟨(some (19, true)), .p (some 28) (.load false 1 (.t 27)), [11, 3], 0⟩,
    ⟨(some (19, true)), .call (some 29) 77 [(.t 23), (.t 28)], [7, 12, 3, 3], 0⟩,
    ⟨.none, .p (some 30) (.pick (.t 19) (.t 29) (.c (.bool false))), [3, 13], 0⟩])
  (c71_k4))
  (c71_k3)
def c71_k6 : C :=
  .block 2 (.loop [0, 1, 2, 6, 7] c71_l5)
def c71_k7 : C :=
  .seq (.block 1 (.seq (.ops [0, 1, 2, 6, 7] [.p (some 15) (.move (.t 6)),
    .p (some 7) (.move (.t 15))])
  (c71_k6)))
  (c71_k0)
def c71_k8 : C :=
  .cond (.t 12)
    (.skip)
    (.exit 0)
def c71_l9 : C :=
  .seq (.seq (.ops [0, 1, 2, 6, 12] [.p (some 10) (.move (.t 6)),
    .p (some 11) (.move (.t 2)),
    .p (some 12) (.bin .lss .int [] (.t 10) (.t 11))])
  (c71_k8))
  (c71_k7)
def c71_k10 : C :=
  .block 0 (.loop [0, 1, 2, 6] c71_l9)
def c71 : FnC := ⟨3, 49, [],
  .seq (.ops [0, 1, 2, 6] [.p (some 8) (.move (.t 1)),
    .p (some 9) (.bin .add .int [] (.t 8) (.c (.int .i64 1))),
    .p (some 6) (.move (.t 9))])
  (c71_k10),
  []⟩

/-! 77: cmp.Less[uint32] -/
def c77_k0 : C :=
  .seq (.ops [4] [.p (some 5) (.move (.t 0)),
    .call (some 6) 88 [(.t 5)],
    .p (some 7) (.move (.t 6)),
    .when 7 true [.p (some 8) (.move (.t 1)),
      .call (some 9) 88 [(.t 8)],
      .p (some 10) (.una .not (.t 9))],
    .p (some 11) (.pick (.t 7) (.t 10) (.c (.bool false))),
    .p (some 12) (.move (.t 11)),
    .when 12 false [.p (some 13) (.move (.t 0)),
      .p (some 14) (.move (.t 1)),
      .p (some 15) (.bin .lss .int [] (.t 13) (.t 14))],
    .p (some 16) (.pick (.t 12) (.c (.bool true)) (.t 15)),
    .p (some 4) (.move (.t 16))])
  (.ret)
def c77 : FnC := ⟨2, 17, [.tmp 4],
  .seq (.ops [0, 1] [.p (some 4) (.move (.c (.bool false)))])
  (c77_k0),
  []⟩

/-! 88: cmp.isNaN[uint32] -/
def c88_k0 : C :=
  .seq (.ops [2] [.p (some 3) (.move (.t 0)),
    .p (some 4) (.move (.t 0)),
    .p (some 5) (.bin .neq .int [] (.t 3) (.t 4)),
    .p (some 2) (.move (.t 5))])
  (.ret)
def c88 : FnC := ⟨1, 6, [.tmp 2],
  .seq (.ops [0] [.p (some 2) (.move (.c (.bool false)))])
  (c88_k0),
  []⟩

/-! 72: slices.heapSortOrdered[uint32] -/
def c72_k0 : C :=
  .ops [0, 6, 7, 10] [.p (some 31) (.move (.t 10)),
    .p (some 32) (.bin .sub .int [] (.t 31) (.c (.int .i64 1))),
    .p (some 10) (.move (.t 32))]
def c72_k1 : C :=
  .ops [0, 6, 7, 10] [.p (some 51) (.move (.t 0)),
    .p (some 52) (.move (.t 7)),
    .p (some 53) (.move (.t 10)),
    .p (some 54) (.move (.t 6)),
    .call (some 55) 83 [(.t 51), (.t 52), (.t 53), (.t 54)]]
def c72_k2 : C :=
  .seq (.drw [0, 6, 7, 10] 0 [⟨.none, .p (some 33) (.move (.t 0)), [], 0⟩,
    ⟨.none, .p (some 34) (.move (.t 6)), [], 0⟩,
    ⟨.none, .p (some 35) (.move (.t 0)), [], 0⟩,
    ⟨.none, .p (some 36) (.move (.t 6)), [], 0⟩,
    ⟨.none, .p (some 37) (.move (.t 10)), [], 0⟩,
    ⟨.none, .p (some 38) (.bin .add .int [] (.t 36) (.t 37)), [3, 4], 0⟩,
    ⟨.none, .p (some 39) (.move (.t 0)), [], 0⟩,
    ⟨.none, .p (some 40) (.move (.t 6)), [], 0⟩,
    ⟨.none, .p (some 41) (.move (.t 10)), [], 0⟩,
    ⟨.none, .p (some 42) (.bin .add .int [] (.t 40) (.t 41)), [7, 8], 0⟩,
    ⟨.none, .p (some 43) (.iaddr 1 (.t 39) (.t 42)), [6, 9], 0⟩,
    ⟨.none, .p (some 44) (.load false 1 (.t 43)), [10], 0⟩,
    ⟨.none, .p (some 45) (.move (.t 0)), [], 0⟩,
    ⟨.none, .p (some 46) (.move (.t 6)), [], 0⟩,
    ⟨.none, .p (some 47) (.iaddr 1 (.t 45) (.t 46)), [12, 13], 0⟩,
    ⟨.none, .p (some 48) (.load false 1 (.t 47)), [14], 0⟩,
    ⟨.none, .p (some 49) (.iaddr 1 (.t 33) (.t 34)), [0, 1, 0, 1, 6, 7, 8, 9, 10, 11, 15], 0⟩,
    ⟨.none, .e .none (.store 1 (.t 49) (.t 44)), [16, 11, 0, 1, 6, 7, 8, 9, 10, 11, 15], 0⟩,
    ⟨.none, .p (some 50) (.iaddr 1 (.t 35) (.t 38)), [2, 5, 0, 1, 2, 3, 4, 5, 6, 7, 8, 9, 10, 11, 12, 13, 14, 15, 16, 17], 0⟩,
    ⟨.none, .e .none (.store 1 (.t 50) (.t 48)), [18, 15, 17, 0, 1, 2, 3, 4, 5, 6, 7, 8, 9, 10, 11, 12, 13, 14, 15, 16, 17], 0⟩])
  (c72_k1)
def c72_k3 : C :=
  .seq (.block 3 (c72_k2))
  (c72_k0)
def c72_k4 : C :=
  .cond (.t 30)
    (.skip)
    (.exit 2)
def c72_l5 : C :=
  .seq (.seq (.ops [0, 6, 7, 10, 30] [.p (some 29) (.move (.t 10)),
    .p (some 30) (.bin .geq .int [] (.t 29) (.c (.int .i64 0)))])
  (c72_k4))
  (c72_k3)
def c72_k6 : C :=
  .block 2 (.loop [0, 6, 7, 10] c72_l5)
def c72_k7 : C :=
  .seq (.ops [0, 6, 7, 10] [.p (some 27) (.move (.t 8)),
    .p (some 28) (.bin .sub .int [] (.t 27) (.c (.int .i64 1))),
    .p (some 10) (.move (.t 28))])
  (c72_k6)
def c72_k8 : C :=
  .ops [0, 6, 7, 8, 9] [.p (some 20) (.move (.t 9)),
    .p (some 21) (.bin .sub .int [] (.t 20) (.c (.int .i64 1))),
    .p (some 9) (.move (.t 21))]
def c72_k9 : C :=
  .seq (.block 1 (.ops [0, 6, 7, 8, 9] [.p (some 22) (.move (.t 0)),
    .p (some 23) (.move (.t 9)),
    .p (some 24) (.move (.t 8)),
    .p (some 25) (.move (.t 6)),
    .call (some 26) 83 [(.t 22), (.t 23), (.t 24), (.t 25)]]))
  (c72_k8)
def c72_k10 : C :=
  .cond (.t 19)
    (.skip)
    (.exit 0)
def c72_l11 : C :=
  .seq (.seq (.ops [0, 6, 7, 8, 9, 19] [.p (some 18) (.move (.t 9)),
    .p (some 19) (.bin .geq .int [] (.t 18) (.c (.int .i64 0)))])
  (c72_k10))
  (c72_k9)
def c72_k12 : C :=
  .block 0 (.loop [0, 6, 7, 8, 9] c72_l11)
def c72_k13 : C :=
  .seq (.seq (.ops [0, 6, 7, 8, 9] [.p (some 15) (.move (.t 8)),
    .p (some 16) (.bin .sub .int [] (.t 15) (.c (.int .i64 1))),
    .p (some 17) (.bin .quo .int [] (.t 16) (.c (.int .i64 2))),
    .p (some 9) (.move (.t 17))])
  (c72_k12))
  (c72_k7)
def c72_k14 : C :=
  .seq (.ops [0, 6, 7, 8] [.p (some 12) (.move (.t 2)),
    .p (some 13) (.move (.t 1)),
    .p (some 14) (.bin .sub .int [] (.t 12) (.t 13)),
    .p (some 8) (.move (.t 14))])
  (c72_k13)
def c72_k15 : C :=
  .seq (.ops [0, 1, 2, 6, 7] [.p (some 7) (.move (.c (.int .i64 0)))])
  (c72_k14)
def c72 : FnC := ⟨3, 56, [],
  .seq (.ops [0, 1, 2, 6] [.p (some 11) (.move (.t 1)),
    .p (some 6) (.move (.t 11))])
  (c72_k15),
  []⟩

/-! 83: slices.siftDownOrdered[uint32] -/
def c83_k0 : C :=
  .seq (.drw [0, 2, 3, 9] 0 [⟨.none, .p (some 53) (.move (.t 0)), [], 0⟩,
    ⟨.none, .p (some 54) (.move (.t 3)), [], 0⟩,
    ⟨.none, .p (some 55) (.move (.t 8)), [], 0⟩,
    ⟨.none, .p (some 56) (.bin .add .int [] (.t 54) (.t 55)), [1, 2], 0⟩,
    ⟨.none, .p (some 57) (.move (.t 0)), [], 0⟩,
    ⟨.none, .p (some 58) (.move (.t 3)), [], 0⟩,
    ⟨.none, .p (some 59) (.move (.t 9)), [], 0⟩,
    ⟨.none, .p (some 60) (.bin .add .int [] (.t 58) (.t 59)), [5, 6], 0⟩,
    ⟨.none, .p (some 61) (.move (.t 0)), [], 0⟩,
    ⟨.none, .p (some 62) (.move (.t 3)), [], 0⟩,
    ⟨.none, .p (some 63) (.move (.t 9)), [], 0⟩,
    ⟨.none, .p (some 64) (.bin .add .int [] (.t 62) (.t 63)), [9, 10], 0⟩,
    ⟨.none, .p (some 65) (.iaddr 1 (.t 61) (.t 64)), [8, 11], 0⟩,
    ⟨.none, .p (some 66) (.load false 1 (.t 65)), [12], 0⟩,
    ⟨.none, .p (some 67) (.move (.t 0)), [], 0⟩,
    ⟨.none, .p (some 68) (.move (.t 3)), [], 0⟩,
    ⟨.none, .p (some 69) (.move (.t 8)), [], 0⟩,
    ⟨.none, .p (some 70) (.bin .add .int [] (.t 68) (.t 69)), [15, 16], 0⟩,
    ⟨.none, .p (some 71) (.iaddr 1 (.t 67) (.t 70)), [14, 17], 0⟩,
    ⟨.none, .p (some 72) (.load false 1 (.t 71)), [18], 0⟩,
    ⟨.none, .p (some 73) (.iaddr 1 (.t 53) (.t 56)), [0, 3, 0, 1, 2, 3, 8, 9, 10, 11, 12, 13, 19], 0⟩,
    ⟨.none, .e .none (.store 1 (.t 73) (.t 66)), [20, 13, 0, 1, 2, 3, 8, 9, 10, 11, 12, 13, 19], 0⟩,
    ⟨.none, .p (some 74) (.iaddr 1 (.t 57) (.t 60)), [4, 7, 0, 1, 2, 3, 4, 5, 6, 7, 8, 9, 10, 11, 12, 13, 14, 15, 16, 17, 18, 19, 20, 21], 0⟩,
    ⟨.none, .e .none (.store 1 (.t 74) (.t 72)), [22, 19, 21, 0, 1, 2, 3, 4, 5, 6, 7, 8, 9, 10, 11, 12, 13, 14, 15, 16, 17, 18, 19, 20, 21], 0⟩])
  (.ops [0, 2, 3, 8] [.p (some 75) (.move (.t 9)),
    .p (some 8) (.move (.t 75))])
def c83_k1 : C :=
  .cond (.t 52)
    (.ret)
    (.skip)
def c83_k2 : C :=
  .seq (.seq (.drw [0, 2, 3, 8, 9, 52] 0 [⟨.none, .p (some 39) (.move (.t 0)), [], 0⟩,
    ⟨.none, .p (some 40) (.move (.t 3)), [], 0⟩,
    ⟨.none, .p (some 41) (.move (.t 8)), [], 0⟩,
    ⟨.none, .p (some 42) (.bin .add .int [] (.t 40) (.t 41)), [1, 2], 0⟩,
    ⟨.none, .p (some 43) (.iaddr 1 (.t 39) (.t 42)), [0, 3], 0⟩,
    ⟨.none, .p (some 44) (.load false 1 (.t 43)), [4], 0⟩,
    ⟨.none, .p (some 45) (.move (.t 0)), [], 0⟩,
    ⟨.none, .p (some 46) (.move (.t 3)), [], 0⟩,
    ⟨.none, .p (some 47) (.move (.t 9)), [], 0⟩,
    ⟨.none, .p (some 48) (.bin .add .int [] (.t 46) (.t 47)), [7, 8], 0⟩,
    ⟨.none, .p (some 49) (.iaddr 1 (.t 45) (.t 48)), [6, 9], 0⟩,
    ⟨.none, .p (some 50) (.load false 1 (.t 49)), [10], 0⟩,
    ⟨.none, .call (some 51) 77 [(.t 44), (.t 50)], [5, 11], 0⟩,
    ⟨.none, .p (some 52) (.una .not (.t 51)), [12], 0⟩])
  (c83_k1))
  (c83_k0)
def c83_k3 : C :=
  .cond (.t 36)
    (.ops [0, 2, 3, 8, 9] [.p (some 37) (.move (.t 9)),
      .p (some 38) (.bin .add .int [] (.t 37) (.c (.int .i64 1))),
      .p (some 9) (.move (.t 38))])
    (.skip)
def c83_k4 : C :=
  .seq (.seq (.drw [0, 2, 3, 8, 9, 36] 0 [⟨.none, .p (some 17) (.move (.t 9)), [], 0⟩,
    ⟨.none, .p (some 18) (.bin .add .int [] (.t 17) (.c (.int .i64 1))), [0], 0⟩,
    ⟨.none, .p (some 19) (.move (.t 2)), [], 0⟩,
    ⟨.none, .p (some 20) (.bin .lss .int [] (.t 18) (.t 19)), [1, 2], 0⟩,
    ⟨.none, .p (some 21) (.move (.t 20)), [3], 0⟩,
    ⟨(some (21, true)), .p (some 22) (.move (.t 0)), [4], 0⟩,
    ⟨(some (21, true)), .p (some 23) (.move (.t 3)), [4], 0⟩,
    ⟨(some (21, true)), .p (some 24) (.move (.t 9)), [4], 0⟩,
    ⟨(some (21, true)), .p (some 25) (.bin .add .int [] (.t 23) (.t 24)), [6, 7, 4], 0⟩,
    ⟨(some (21, true)), .p (some 26) (.iaddr 1 (.t 22) (.t 25)), [5, 8, 4], 0⟩,
    ⟨(some (21, true)), .p (some 27) (.load false 1 (.t 26)), [9, 4], 0⟩,
    ⟨(some (21, true)), .p (some 28) (.move (.t 0)), [4], 0⟩,
    ⟨(some (21, true)), .p (some 29) (.move (.t 3)), [4], 0⟩,
    ⟨(some (21, true)), .p (some 30) (.move (.t 9)), [4], 0⟩,
    ⟨(some (21, true)), .p (some 31) (.bin .add .int [] (.t 29) (.t 30)), [12, 13, 4], 0⟩,
    ⟨(some (21, true)), .p (some 32) (.bin .add .int [] (.t 31) (.c (.int .i64 1))), [14, 4], 0⟩,
    ⟨(some (21, true)), .p (some 33) (.iaddr 1 (.t 28) (.t 32)), [11, 15, 4], 0⟩,
    ⟨(some (21, true)), .p (some 34) (.load false 1 (.t 33)), [16, 4], 0⟩,
    ⟨(some (21, true)), .call (some 35) 77 [(.t 27), (.t 34)], [10, 17, 4, 4], 0⟩,
    ⟨.none, .p (some 36) (.pick (.t 21) (.t 35) (.c (.bool false))), [4, 18], 0⟩])
  (c83_k3))
  (c83_k2)
def c83_k5 : C :=
  .cond (.t 16)
    (.exit 0)
    (.skip)
def c83_k6 : C :=
  .seq (.seq (.ops [0, 2, 3, 8, 9, 16] [.p (some 14) (.move (.t 9)),
    .p (some 15) (.move (.t 2)),
    .p (some 16) (.bin .geq .int [] (.t 14) (.t 15))])
  (c83_k5))
  (c83_k4)
def c83_k7 : C :=
  .seq (.ops [0, 2, 3, 8, 9] [.p (some 11) (.move (.t 8)),
    .p (some 12) (.bin .mul .int [] (.c (.int .i64 2)) (.t 11)),
    .p (some 13) (.bin .add .int [] (.t 12) (.c (.int .i64 1))),
    .p (some 9) (.move (.t 13))])
  (c83_k6)
def c83_l8 : C :=
  .block 1 (c83_k7)
def c83_k9 : C :=
  .block 0 (.loop [0, 2, 3, 8] c83_l8)
def c83 : FnC := ⟨4, 76, [],
  .seq (.ops [0, 2, 3, 8] [.p (some 10) (.move (.t 1)),
    .p (some 8) (.move (.t 10))])
  (c83_k9),
  []⟩

/-! 73: slices.breakPatternsOrdered[uint32] -/
def c73_k0 : C :=
  .ops [0, 1, 6, 7, 8, 9] [.p (some 34) (.move (.t 9)),
    .p (some 35) (.bin .add .int [] (.t 34) (.c (.int .i64 1))),
    .p (some 9) (.move (.t 35))]
def c73_k1 : C :=
  .drw [0, 1, 6, 7, 8, 9] 0 [⟨.none, .p (some 47) (.move (.t 0)), [], 0⟩,
    ⟨.none, .p (some 48) (.move (.t 9)), [], 0⟩,
    ⟨.none, .p (some 49) (.move (.t 0)), [], 0⟩,
    ⟨.none, .p (some 50) (.move (.t 1)), [], 0⟩,
    ⟨.none, .p (some 51) (.move (.t 10)), [], 0⟩,
    ⟨.none, .p (some 52) (.bin .add .int [] (.t 50) (.t 51)), [3, 4], 0⟩,
    ⟨.none, .p (some 53) (.move (.t 0)), [], 0⟩,
    ⟨.none, .p (some 54) (.move (.t 1)), [], 0⟩,
    ⟨.none, .p (some 55) (.move (.t 10)), [], 0⟩,
    ⟨.none, .p (some 56) (.bin .add .int [] (.t 54) (.t 55)), [7, 8], 0⟩,
    ⟨.none, .p (some 57) (.iaddr 1 (.t 53) (.t 56)), [6, 9], 0⟩,
    ⟨.none, .p (some 58) (.load false 1 (.t 57)), [10], 0⟩,
    ⟨.none, .p (some 59) (.move (.t 0)), [], 0⟩,
    ⟨.none, .p (some 60) (.move (.t 9)), [], 0⟩,
    ⟨.none, .p (some 61) (.iaddr 1 (.t 59) (.t 60)), [12, 13], 0⟩,
    ⟨.none, .p (some 62) (.load false 1 (.t 61)), [14], 0⟩,
    ⟨.none, .p (some 63) (.iaddr 1 (.t 47) (.t 48)), [0, 1, 0, 1, 6, 7, 8, 9, 10, 11, 15], 0⟩,
    ⟨.none, .e .none (.store 1 (.t 63) (.t 58)), [16, 11, 0, 1, 6, 7, 8, 9, 10, 11, 15], 0⟩,
    ⟨.none, .p (some 64) (.iaddr 1 (.t 49) (.t 52)), [2, 5, 0, 1, 2, 3, 4, 5, 6, 7, 8, 9, 10, 11, 12, 13, 14, 15, 16, 17], 0⟩,
    ⟨.none, .e .none (.store 1 (.t 64) (.t 62)), [18, 15, 17, 0, 1, 2, 3, 4, 5, 6, 7, 8, 9, 10, 11, 12, 13, 14, 15, 16, 17], 0⟩]
def c73_k2 : C :=
  .cond (.t 43)
    (.ops [0, 1, 6, 7, 8, 9, 10] [.p (some 44) (.move (.t 10)),
      .p (some 45) (.move (.t 6)),
      .p (some 46) (.bin .sub .int [] (.t 44) (.t 45)),
      .p (some 10) (.move (.t 46))])
    (.skip)
def c73_k3 : C :=
  .seq (.seq (.ops [0, 1, 6, 7, 8, 9, 10, 43] [.p (some 41) (.move (.t 10)),
    .p (some 42) (.move (.t 6)),
    .p (some 43) (.bin .geq .int [] (.t 41) (.t 42))])
  (c73_k2))
  (c73_k1)
def c73_k4 : C :=
  .seq (.ops [0, 1, 6, 7, 8, 9, 10] [.call (some 36) 85 [(.t 7)],
    .p (some 37) (.move (.t 8)),
    .p (some 38) (.bin .sub .int [] (.t 37) (.c (.int .u64 1))),
    .p (some 39) (.bin .and .int [] (.t 36) (.t 38)),
    .p (some 40) (.conv (.int .i64) (.t 39)),
    .p (some 10) (.move (.t 40))])
  (c73_k3)
def c73_k5 : C :=
  .seq (.block 1 (c73_k4))
  (c73_k0)
def c73_k6 : C :=
  .cond (.t 33)
    (.skip)
    (.exit 0)
def c73_l7 : C :=
  .seq (.seq (.ops [0, 1, 6, 7, 8, 9, 33] [.p (some 26) (.move (.t 9)),
    .p (some 27) (.move (.t 1)),
    .p (some 28) (.move (.t 6)),
    .p (some 29) (.bin .quo .int [] (.t 28) (.c (.int .i64 4))),
    .p (some 30) (.bin .mul .int [] (.t 29) (.c (.int .i64 2))),
    .p (some 31) (.bin .add .int [] (.t 27) (.t 30)),
    .p (some 32) (.bin .add .int [] (.t 31) (.c (.int .i64 1))),
    .p (some 33) (.bin .leq .int [] (.t 26) (.t 32))])
  (c73_k6))
  (c73_k5)
def c73_k8 : C :=
  .block 0 (.loop [0, 1, 6, 7, 8, 9] c73_l7)
def c73_k9 : C :=
  .seq (.ops [0, 1, 6, 7, 8, 9] [.p (some 20) (.move (.t 1)),
    .p (some 21) (.move (.t 6)),
    .p (some 22) (.bin .quo .int [] (.t 21) (.c (.int .i64 4))),
    .p (some 23) (.bin .mul .int [] (.t 22) (.c (.int .i64 2))),
    .p (some 24) (.bin .add .int [] (.t 20) (.t 23)),
    .p (some 25) (.bin .sub .int [] (.t 24) (.c (.int .i64 1))),
    .p (some 9) (.move (.t 25))])
  (c73_k8)
def c73_k10 : C :=
  .seq (.ops [0, 1, 6, 7, 8] [.p (some 18) (.move (.t 6)),
    .call (some 19) 84 [(.t 18)],
    .p (some 8) (.move (.t 19))])
  (c73_k9)
def c73_k11 : C :=
  .seq (.ops [0, 1, 6, 7] [.p (some 16) (.move (.t 6)),
      .p (some 17) (.conv (.int .u64) (.t 16)),
      .e (some 7) (.alloc [(.d (.int .u64 0))]),
      .e .none (.store 1 (.t 7) (.t 17))])
    (c73_k10)
def c73_k12 : C :=
  .cond (.t 15)
    (c73_k11)
    (.skip)
def c73_k13 : C :=
  .seq (.ops [0, 1, 6, 15] [.p (some 14) (.move (.t 6)),
    .p (some 15) (.bin .geq .int [] (.t 14) (.c (.int .i64 8)))])
  (c73_k12)
def c73 : FnC := ⟨3, 65, [],
  .seq (.ops [0, 1, 6] [.p (some 11) (.move (.t 2)),
    .p (some 12) (.move (.t 1)),
    .p (some 13) (.bin .sub .int [] (.t 11) (.t 12)),
    .p (some 6) (.move (.t 13))])
  (c73_k13),
  []⟩

/-! 84: slices.nextPowerOfTwo -/
def c84_k0 : C :=
  .seq (.ops [2] [.p (some 3) (.move (.t 0)),
    .p (some 4) (.conv (.int .u64) (.t 3)),
    .call (some 5) 63 [(.t 4)],
    .p (some 6) (.bin .shl .int [] (.c (.int .u64 1)) (.t 5)),
    .p (some 2) (.move (.t 6))])
  (.ret)
def c84 : FnC := ⟨1, 7, [.tmp 2],
  .seq (.ops [0] [.p (some 2) (.move (.c (.int .u64 0)))])
  (c84_k0),
  []⟩

/-! 85: (*slices.xorshift).Next -/
def c85_k0 : C :=
  .seq (.ops [2] [.p (some 30) (.move (.t 0)),
    .p (some 31) (.nilCheck (.t 30)),
    .p (some 32) (.load false 1 (.t 31)),
    .p (some 2) (.move (.t 32))])
  (.ret)
def c85_k1 : C :=
  .seq (.drw [0] 0 [⟨.none, .p (some 21) (.move (.t 0)), [], 0⟩,
    ⟨.none, .p (some 22) (.nilCheck (.t 21)), [0], 0⟩,
    ⟨.none, .p (some 23) (.load false 1 (.t 22)), [1], 0⟩,
    ⟨.none, .p (some 24) (.move (.t 0)), [], 0⟩,
    ⟨.none, .p (some 25) (.nilCheck (.t 24)), [3], 0⟩,
    ⟨.none, .p (some 26) (.load false 1 (.t 25)), [4], 0⟩,
    ⟨.none, .p (some 27) (.bin .shl .int [] (.t 26) (.c (.int .u64 17))), [5], 0⟩,
    ⟨.none, .p (some 28) (.bin .xor .int [] (.t 23) (.t 27)), [2, 6], 0⟩,
    ⟨.none, .p (some 29) (.nilCheck (.t 21)), [0, 0, 1, 2, 3, 4, 5, 6, 7], 0⟩,
    ⟨.none, .e .none (.store 1 (.t 29) (.t 28)), [8, 7, 0, 1, 2, 3, 4, 5, 6, 7], 0⟩])
  (c85_k0)
def c85_k2 : C :=
  .seq (.drw [0] 0 [⟨.none, .p (some 12) (.move (.t 0)), [], 0⟩,
    ⟨.none, .p (some 13) (.nilCheck (.t 12)), [0], 0⟩,
    ⟨.none, .p (some 14) (.load false 1 (.t 13)), [1], 0⟩,
    ⟨.none, .p (some 15) (.move (.t 0)), [], 0⟩,
    ⟨.none, .p (some 16) (.nilCheck (.t 15)), [3], 0⟩,
    ⟨.none, .p (some 17) (.load false 1 (.t 16)), [4], 0⟩,
    ⟨.none, .p (some 18) (.bin .shr .int [] (.t 17) (.c (.int .u64 7))), [5], 0⟩,
    ⟨.none, .p (some 19) (.bin .xor .int [] (.t 14) (.t 18)), [2, 6], 0⟩,
    ⟨.none, .p (some 20) (.nilCheck (.t 12)), [0, 0, 1, 2, 3, 4, 5, 6, 7], 0⟩,
    ⟨.none, .e .none (.store 1 (.t 20) (.t 19)), [8, 7, 0, 1, 2, 3, 4, 5, 6, 7], 0⟩])
  (c85_k1)
def c85_k3 : C :=
  .seq (.drw [0] 0 [⟨.none, .p (some 3) (.move (.t 0)), [], 0⟩,
    ⟨.none, .p (some 4) (.nilCheck (.t 3)), [0], 0⟩,
    ⟨.none, .p (some 5) (.load false 1 (.t 4)), [1], 0⟩,
    ⟨.none, .p (some 6) (.move (.t 0)), [], 0⟩,
    ⟨.none, .p (some 7) (.nilCheck (.t 6)), [3], 0⟩,
    ⟨.none, .p (some 8) (.load false 1 (.t 7)), [4], 0⟩,
    ⟨.none, .p (some 9) (.bin .shl .int [] (.t 8) (.c (.int .u64 13))), [5], 0⟩,
    ⟨.none, .p (some 10) (.bin .xor .int [] (.t 5) (.t 9)), [2, 6], 0⟩,
    ⟨.none, .p (some 11) (.nilCheck (.t 3)), [0, 0, 1, 2, 3, 4, 5, 6, 7], 0⟩,
    ⟨.none, .e .none (.store 1 (.t 11) (.t 10)), [8, 7, 0, 1, 2, 3, 4, 5, 6, 7], 0⟩])
  (c85_k2)
def c85 : FnC := ⟨1, 33, [.tmp 2],
  .seq (.ops [0] [.p (some 2) (.move (.c (.int .u64 0)))])
  (c85_k3),
  []⟩

/-! 74: slices.choosePivotOrdered[uint32] -/
def c74_k0 : C :=
  .cond (.t 54)
    (.seq (.ops [6, 7] [.p (some 56) (.move (.t 11)),
      .p (some 6) (.move (.t 56)),
      .p (some 7) (.move (.c (.int .i64 2)))])
    (.ret))
    (.seq (.ops [6, 7] [.p (some 50) (.move (.t 11)),
      .p (some 6) (.move (.t 50)),
      .p (some 7) (.move (.c (.int .i64 0)))])
    (.ret))
def c74_k1 : C :=
  .seq (.ops [11, 54] [.p (some 55) (.bin .eql .int [] (.t 49) (.c (.int .i64 12))),
      .p (some 54) (.move (.t 55))])
    (c74_k0)
def c74_k2 : C :=
  .cond (.t 51)
    (.seq (.ops [6, 7] [.p (some 53) (.move (.t 11)),
      .p (some 6) (.move (.t 53)),
      .p (some 7) (.move (.c (.int .i64 1)))])
    (.ret))
    (c74_k1)
def c74_k3 : C :=
  .seq (.ops [11, 49, 51] [.p (some 52) (.bin .eql .int [] (.t 49) (.c (.int .i64 0))),
    .p (some 51) (.move (.t 52))])
  (c74_k2)
def c74_k4 : C :=
  .block 0 (c74_k3)
def c74_k5 : C :=
  .seq (.ops [11, 49] [.p (some 49) (.load false 1 (.t 9))])
  (c74_k4)
def c74_k6 : C :=
  .ops [9, 11] [.p (some 44) (.move (.t 0)),
    .p (some 45) (.move (.t 10)),
    .p (some 46) (.move (.t 11)),
    .p (some 47) (.move (.t 12)),
    .call (some 48) 87 [(.t 44), (.t 45), (.t 46), (.t 47), (.t 9)],
    .p (some 11) (.move (.t 48))]
def c74_k7 : C :=
  .ops [0, 9, 10, 11, 12] [.p (some 41) (.move (.t 0)),
    .p (some 42) (.move (.t 12)),
    .call (some 43) 86 [(.t 41), (.t 42), (.t 9)],
    .p (some 12) (.move (.t 43))]
def c74_k8 : C :=
  .seq (.ops [0, 9, 10, 11, 12] [.p (some 38) (.move (.t 0)),
    .p (some 39) (.move (.t 11)),
    .call (some 40) 86 [(.t 38), (.t 39), (.t 9)],
    .p (some 11) (.move (.t 40))])
  (c74_k7)
def c74_k9 : C :=
  .seq (.ops [0, 9, 10, 11, 12] [.p (some 35) (.move (.t 0)),
      .p (some 36) (.move (.t 10)),
      .call (some 37) 86 [(.t 35), (.t 36), (.t 9)],
      .p (some 10) (.move (.t 37))])
    (c74_k8)
def c74_k10 : C :=
  .cond (.t 34)
    (c74_k9)
    (.skip)
def c74_k11 : C :=
  .seq (.seq (.ops [0, 9, 10, 11, 12, 34] [.p (some 33) (.move (.t 8)),
      .p (some 34) (.bin .geq .int [] (.t 33) (.c (.int .i64 50)))])
    (c74_k10))
    (c74_k6)
def c74_k12 : C :=
  .cond (.t 32)
    (c74_k11)
    (.skip)
def c74_k13 : C :=
  .seq (.seq (.ops [0, 8, 9, 10, 11, 12, 32] [.p (some 31) (.move (.t 8)),
    .p (some 32) (.bin .geq .int [] (.t 31) (.c (.int .i64 8)))])
  (c74_k12))
  (c74_k5)
def c74_k14 : C :=
  .seq (.ops [0, 8, 9, 10, 11, 12] [.p (some 26) (.move (.t 1)),
    .p (some 27) (.move (.t 8)),
    .p (some 28) (.bin .quo .int [] (.t 27) (.c (.int .i64 4))),
    .p (some 29) (.bin .mul .int [] (.t 28) (.c (.int .i64 3))),
    .p (some 30) (.bin .add .int [] (.t 26) (.t 29)),
    .p (some 12) (.move (.t 30))])
  (c74_k13)
def c74_k15 : C :=
  .seq (.ops [0, 1, 8, 9, 10, 11] [.p (some 21) (.move (.t 1)),
    .p (some 22) (.move (.t 8)),
    .p (some 23) (.bin .quo .int [] (.t 22) (.c (.int .i64 4))),
    .p (some 24) (.bin .mul .int [] (.t 23) (.c (.int .i64 2))),
    .p (some 25) (.bin .add .int [] (.t 21) (.t 24)),
    .p (some 11) (.move (.t 25))])
  (c74_k14)
def c74_k16 : C :=
  .seq (.ops [0, 1, 8, 9, 10] [.p (some 16) (.move (.t 1)),
    .p (some 17) (.move (.t 8)),
    .p (some 18) (.bin .quo .int [] (.t 17) (.c (.int .i64 4))),
    .p (some 19) (.bin .mul .int [] (.t 18) (.c (.int .i64 1))),
    .p (some 20) (.bin .add .int [] (.t 16) (.t 19)),
    .p (some 10) (.move (.t 20))])
  (c74_k15)
def c74_k17 : C :=
  .seq (.ops [0, 1, 8, 9] [.e (some 9) (.alloc [(.d (.int .i64 0))])])
  (c74_k16)
def c74_k18 : C :=
  .seq (.ops [0, 1, 8] [.p (some 13) (.move (.t 2)),
    .p (some 14) (.move (.t 1)),
    .p (some 15) (.bin .sub .int [] (.t 13) (.t 14)),
    .p (some 8) (.move (.t 15))])
  (c74_k17)
def c74 : FnC := ⟨3, 57, [.tmp 6, .tmp 7],
  .seq (.ops [0, 1, 2] [.p (some 6) (.move (.c (.int .i64 0))),
    .p (some 7) (.move (.c (.int .i64 0)))])
  (c74_k18),
  []⟩

/-! 86: slices.medianAdjacentOrdered[uint32] -/
def c86_k0 : C :=
  .seq (.ops [6] [.p (some 7) (.move (.t 0)),
    .p (some 8) (.move (.t 1)),
    .p (some 9) (.bin .sub .int [] (.t 8) (.c (.int .i64 1))),
    .p (some 10) (.move (.t 1)),
    .p (some 11) (.move (.t 1)),
    .p (some 12) (.bin .add .int [] (.t 11) (.c (.int .i64 1))),
    .p (some 13) (.move (.t 2)),
    .call (some 14) 87 [(.t 7), (.t 9), (.t 10), (.t 12), (.t 13)],
    .p (some 6) (.move (.t 14))])
  (.ret)
def c86 : FnC := ⟨3, 15, [.tmp 6],
  .seq (.ops [0, 1, 2] [.p (some 6) (.move (.c (.int .i64 0)))])
  (c86_k0),
  []⟩

/-! 87: slices.medianOrdered[uint32] -/
def c87_k0 : C :=
  .seq (.ops [10] [.p (some 35) (.move (.t 2)),
    .p (some 10) (.move (.t 35))])
  (.ret)
def c87_k1 : C :=
  .seq (.ops [2] [.p (some 28) (.move (.t 0)),
    .p (some 29) (.move (.t 1)),
    .p (some 30) (.move (.t 2)),
    .p (some 31) (.move (.t 4)),
    .call (some 32) 90 [(.t 28), (.t 29), (.t 30), (.t 31)],
    .p (some 27) (.move (.t 32)),
    .p (some 33) (.extract (.t 27) 0),
    .p (some 34) (.extract (.t 27) 1),
    .p (some 1) (.move (.t 33)),
    .p (some 2) (.move (.t 34))])
  (c87_k0)
def c87_k2 : C :=
  .seq (.ops [0, 1, 2, 4] [.p (some 20) (.move (.t 0)),
    .p (some 21) (.move (.t 2)),
    .p (some 22) (.move (.t 3)),
    .p (some 23) (.move (.t 4)),
    .call (some 24) 90 [(.t 20), (.t 21), (.t 22), (.t 23)],
    .p (some 19) (.move (.t 24)),
    .p (some 25) (.extract (.t 19) 0),
    .p (some 26) (.extract (.t 19) 1),
    .p (some 2) (.move (.t 25)),
    .p (some 3) (.move (.t 26))])
  (c87_k1)
def c87_k3 : C :=
  .seq (.ops [0, 1, 2, 3, 4] [.p (some 12) (.move (.t 0)),
    .p (some 13) (.move (.t 1)),
    .p (some 14) (.move (.t 2)),
    .p (some 15) (.move (.t 4)),
    .call (some 16) 90 [(.t 12), (.t 13), (.t 14), (.t 15)],
    .p (some 11) (.move (.t 16)),
    .p (some 17) (.extract (.t 11) 0),
    .p (some 18) (.extract (.t 11) 1),
    .p (some 1) (.move (.t 17)),
    .p (some 2) (.move (.t 18))])
  (c87_k2)
def c87 : FnC := ⟨5, 36, [.tmp 10],
  .seq (.ops [0, 1, 2, 3, 4] [.p (some 10) (.move (.c (.int .i64 0)))])
  (c87_k3),
  []⟩

/-! 90: slices.order2Ordered[uint32] -/
def c90_k0 : C :=
  .seq (.ops [8, 9] [.p (some 26) (.move (.t 1)),
    .p (some 27) (.move (.t 2)),
    .p (some 8) (.move (.t 26)),
    .p (some 9) (.move (.t 27))])
  (.ret)
def c90_k1 : C :=
  .seq (.ops [8, 9] [.p (some 24) (.move (.t 2)),
    .p (some 25) (.move (.t 1)),
    .p (some 8) (.move (.t 24)),
    .p (some 9) (.move (.t 25))])
  (.ret)
def c90_k2 : C :=
  .seq (.ops [1, 2] [.p (some 19) (.move (.t 3)),
      .p (some 20) (.nilCheck (.t 19)),
      .p (some 21) (.load false 1 (.t 20)),
      .p (some 22) (.bin .add .int [] (.t 21) (.c (.int .i64 1))),
      .p (some 23) (.nilCheck (.t 19)),
      .e .none (.store 1 (.t 23) (.t 22))])
    (c90_k1)
def c90_k3 : C :=
  .cond (.t 18)
    (c90_k2)
    (.skip)
def c90_k4 : C :=
  .seq (.seq (.drw [1, 2, 3, 18] 0 [⟨.none, .p (some 10) (.move (.t 0)), [], 0⟩,
    ⟨.none, .p (some 11) (.move (.t 2)), [], 0⟩,
    ⟨.none, .p (some 12) (.iaddr 1 (.t 10) (.t 11)), [0, 1], 0⟩,
    ⟨.none, .p (some 13) (.load false 1 (.t 12)), [2], 0⟩,
    ⟨.none, .p (some 14) (.move (.t 0)), [], 0⟩,
    ⟨.none, .p (some 15) (.move (.t 1)), [], 0⟩,
    ⟨.none, .p (some 16) (.iaddr 1 (.t 14) (.t 15)), [4, 5], 0⟩,
    ⟨.none, .p (some 17) (.load false 1 (.t 16)), [6], 0⟩,
    ⟨.none, .call (some 18) 77 [(.t 13), (.t 17)], [3, 7], 0⟩])
  (c90_k3))
  (c90_k0)
def c90 : FnC := ⟨4, 28, [.tmp 8, .tmp 9],
  .seq (.ops [0, 1, 2, 3] [.p (some 8) (.move (.c (.int .i64 0))),
    .p (some 9) (.move (.c (.int .i64 0)))])
  (c90_k4),
  []⟩

/-! 75: slices.reverseRangeOrdered[uint32] -/
def c75_k0 : C :=
  .ops [0, 6, 7] [.p (some 30) (.move (.t 7)),
    .p (some 31) (.bin .sub .int [] (.t 30) (.c (.int .i64 1))),
    .p (some 7) (.move (.t 31))]
def c75_k1 : C :=
  .seq (.ops [0, 6, 7] [.p (some 28) (.move (.t 6)),
    .p (some 29) (.bin .add .int [] (.t 28) (.c (.int .i64 1))),
    .p (some 6) (.move (.t 29))])
  (c75_k0)
def c75_k2 : C :=
  .seq (.drw [0, 6, 7] 0 [⟨.none, .p (some 14) (.move (.t 0)), [], 0⟩,
    ⟨.none, .p (some 15) (.move (.t 6)), [], 0⟩,
    ⟨.none, .p (some 16) (.move (.t 0)), [], 0⟩,
    ⟨.none, .p (some 17) (.move (.t 7)), [], 0⟩,
    ⟨.none, .p (some 18) (.move (.t 0)), [], 0⟩,
    ⟨.none, .p (some 19) (.move (.t 7)), [], 0⟩,
    ⟨.none, .p (some 20) (.iaddr 1 (.t 18) (.t 19)), [4, 5], 0⟩,
    ⟨.none, .p (some 21) (.load false 1 (.t 20)), [6], 0⟩,
    ⟨.none, .p (some 22) (.move (.t 0)), [], 0⟩,
    ⟨.none, .p (some 23) (.move (.t 6)), [], 0⟩,
    ⟨.none, .p (some 24) (.iaddr 1 (.t 22) (.t 23)), [8, 9], 0⟩,
    ⟨.none, .p (some 25) (.load false 1 (.t 24)), [10], 0⟩,
    ⟨.none, .p (some 26) (.iaddr 1 (.t 14) (.t 15)), [0, 1, 0, 1, 4, 5, 6, 7, 11], 0⟩,
    ⟨.none, .e .none (.store 1 (.t 26) (.t 21)), [12, 7, 0, 1, 4, 5, 6, 7, 11], 0⟩,
    ⟨.none, .p (some 27) (.iaddr 1 (.t 16) (.t 17)), [2, 3, 0, 1, 2, 3, 4, 5, 6, 7, 8, 9, 10, 11, 12, 13], 0⟩,
    ⟨.none, .e .none (.store 1 (.t 27) (.t 25)), [14, 11, 13, 0, 1, 2, 3, 4, 5, 6, 7, 8, 9, 10, 11, 12, 13], 0⟩])
  (c75_k1)
def c75_k3 : C :=
  .block 1 (c75_k2)
def c75_k4 : C :=
  .cond (.t 13)
    (.skip)
    (.exit 0)
def c75_l5 : C :=
  .seq (.seq (.ops [0, 6, 7, 13] [.p (some 11) (.move (.t 6)),
    .p (some 12) (.move (.t 7)),
    .p (some 13) (.bin .lss .int [] (.t 11) (.t 12))])
  (c75_k4))
  (c75_k3)
def c75_k6 : C :=
  .block 0 (.loop [0, 6, 7] c75_l5)
def c75_k7 : C :=
  .seq (.ops [0, 6, 7] [.p (some 9) (.move (.t 2)),
    .p (some 10) (.bin .sub .int [] (.t 9) (.c (.int .i64 1))),
    .p (some 7) (.move (.t 10))])
  (c75_k6)
def c75 : FnC := ⟨3, 32, [],
  .seq (.ops [0, 2, 6] [.p (some 8) (.move (.t 1)),
    .p (some 6) (.move (.t 8))])
  (c75_k7),
  []⟩

/-! 76: slices.partialInsertionSortOrdered[uint32] -/
def c76_k0 : C :=
  .ops [0, 1, 2, 7, 8] [.p (some 15) (.move (.t 8)),
    .p (some 16) (.bin .add .int [] (.t 15) (.c (.int .i64 1))),
    .p (some 8) (.move (.t 16))]
def c76_k1 : C :=
  .ops [0, 1, 2, 7, 8, 10] [.p (some 104) (.move (.t 10)),
    .p (some 105) (.bin .add .int [] (.t 104) (.c (.int .i64 1))),
    .p (some 10) (.move (.t 105))]
def c76_k2 : C :=
  .drw [0, 1, 2, 7, 8, 10] 0 [⟨.none, .p (some 117) (.move (.t 0)), [], 0⟩,
    ⟨.none, .p (some 118) (.move (.t 10)), [], 0⟩,
    ⟨.none, .p (some 119) (.move (.t 0)), [], 0⟩,
    ⟨.none, .p (some 120) (.move (.t 10)), [], 0⟩,
    ⟨.none, .p (some 121) (.bin .sub .int [] (.t 120) (.c (.int .i64 1))), [3], 0⟩,
    ⟨.none, .p (some 122) (.move (.t 0)), [], 0⟩,
    ⟨.none, .p (some 123) (.move (.t 10)), [], 0⟩,
    ⟨.none, .p (some 124) (.bin .sub .int [] (.t 123) (.c (.int .i64 1))), [6], 0⟩,
    ⟨.none, .p (some 125) (.iaddr 1 (.t 122) (.t 124)), [5, 7], 0⟩,
    ⟨.none, .p (some 126) (.load false 1 (.t 125)), [8], 0⟩,
    ⟨.none, .p (some 127) (.move (.t 0)), [], 0⟩,
    ⟨.none, .p (some 128) (.move (.t 10)), [], 0⟩,
    ⟨.none, .p (some 129) (.iaddr 1 (.t 127) (.t 128)), [10, 11], 0⟩,
    ⟨.none, .p (some 130) (.load false 1 (.t 129)), [12], 0⟩,
    ⟨.none, .p (some 131) (.iaddr 1 (.t 117) (.t 118)), [0, 1, 0, 1, 5, 6, 7, 8, 9, 13], 0⟩,
    ⟨.none, .e .none (.store 1 (.t 131) (.t 126)), [14, 9, 0, 1, 5, 6, 7, 8, 9, 13], 0⟩,
    ⟨.none, .p (some 132) (.iaddr 1 (.t 119) (.t 121)), [2, 4, 0, 1, 2, 3, 4, 5, 6, 7, 8, 9, 10, 11, 12, 13, 14, 15], 0⟩,
    ⟨.none, .e .none (.store 1 (.t 132) (.t 130)), [16, 13, 15, 0, 1, 2, 3, 4, 5, 6, 7, 8, 9, 10, 11, 12, 13, 14, 15], 0⟩]
def c76_k3 : C :=
  .cond (.t 116)
    (.exit 6)
    (.skip)
def c76_k4 : C :=
  .seq (.seq (.drw [0, 1, 2, 7, 8, 10, 116] 0 [⟨.none, .p (some 106) (.move (.t 0)), [], 0⟩,
    ⟨.none, .p (some 107) (.move (.t 10)), [], 0⟩,
    ⟨.none, .p (some 108) (.iaddr 1 (.t 106) (.t 107)), [0, 1], 0⟩,
    ⟨.none, .p (some 109) (.load false 1 (.t 108)), [2], 0⟩,
    ⟨.none, .p (some 110) (.move (.t 0)), [], 0⟩,
    ⟨.none, .p (some 111) (.move (.t 10)), [], 0⟩,
    ⟨.none, .p (some 112) (.bin .sub .int [] (.t 111) (.c (.int .i64 1))), [5], 0⟩,
    ⟨.none, .p (some 113) (.iaddr 1 (.t 110) (.t 112)), [4, 6], 0⟩,
    ⟨.none, .p (some 114) (.load false 1 (.t 113)), [7], 0⟩,
    ⟨.none, .call (some 115) 77 [(.t 109), (.t 114)], [3, 8], 0⟩,
    ⟨.none, .p (some 116) (.una .not (.t 115)), [9], 0⟩])
  (c76_k3))
  (c76_k2)
def c76_k5 : C :=
  .seq (.block 7 (c76_k4))
  (c76_k1)
def c76_k6 : C :=
  .cond (.t 103)
    (.skip)
    (.exit 6)
def c76_l7 : C :=
  .seq (.seq (.ops [0, 1, 2, 7, 8, 10, 103] [.p (some 101) (.move (.t 10)),
    .p (some 102) (.move (.t 2)),
    .p (some 103) (.bin .lss .int [] (.t 101) (.t 102))])
  (c76_k6))
  (c76_k5)
def c76_k8 : C :=
  .block 6 (.loop [0, 1, 2, 7, 8, 10] c76_l7)
def c76_k9 : C :=
  .cond (.t 98)
    (.seq (.ops [0, 1, 2, 7, 8, 10] [.p (some 99) (.move (.t 7)),
      .p (some 100) (.bin .add .int [] (.t 99) (.c (.int .i64 1))),
      .p (some 10) (.move (.t 100))])
    (c76_k8))
    (.skip)
def c76_k10 : C :=
  .seq (.ops [0, 1, 2, 7, 8, 98] [.p (some 95) (.move (.t 2)),
    .p (some 96) (.move (.t 7)),
    .p (some 97) (.bin .sub .int [] (.t 95) (.t 96)),
    .p (some 98) (.bin .geq .int [] (.t 97) (.c (.int .i64 2)))])
  (c76_k9)
def c76_k11 : C :=
  .ops [0, 1, 2, 7, 8, 9] [.p (some 66) (.move (.t 9)),
    .p (some 67) (.bin .sub .int [] (.t 66) (.c (.int .i64 1))),
    .p (some 9) (.move (.t 67))]
def c76_k12 : C :=
  .drw [0, 1, 2, 7, 8, 9] 0 [⟨.none, .p (some 79) (.move (.t 0)), [], 0⟩,
    ⟨.none, .p (some 80) (.move (.t 9)), [], 0⟩,
    ⟨.none, .p (some 81) (.move (.t 0)), [], 0⟩,
    ⟨.none, .p (some 82) (.move (.t 9)), [], 0⟩,
    ⟨.none, .p (some 83) (.bin .sub .int [] (.t 82) (.c (.int .i64 1))), [3], 0⟩,
    ⟨.none, .p (some 84) (.move (.t 0)), [], 0⟩,
    ⟨.none, .p (some 85) (.move (.t 9)), [], 0⟩,
    ⟨.none, .p (some 86) (.bin .sub .int [] (.t 85) (.c (.int .i64 1))), [6], 0⟩,
    ⟨.none, .p (some 87) (.iaddr 1 (.t 84) (.t 86)), [5, 7], 0⟩,
    ⟨.none, .p (some 88) (.load false 1 (.t 87)), [8], 0⟩,
    ⟨.none, .p (some 89) (.move (.t 0)), [], 0⟩,
    ⟨.none, .p (some 90) (.move (.t 9)), [], 0⟩,
    ⟨.none, .p (some 91) (.iaddr 1 (.t 89) (.t 90)), [10, 11], 0⟩,
    ⟨.none, .p (some 92) (.load false 1 (.t 91)), [12], 0⟩,
    ⟨.none, .p (some 93) (.iaddr 1 (.t 79) (.t 80)), [0, 1, 0, 1, 5, 6, 7, 8, 9, 13], 0⟩,
    ⟨.none, .e .none (.store 1 (.t 93) (.t 88)), [14, 9, 0, 1, 5, 6, 7, 8, 9, 13], 0⟩,
    ⟨.none, .p (some 94) (.iaddr 1 (.t 81) (.t 83)), [2, 4, 0, 1, 2, 3, 4, 5, 6, 7, 8, 9, 10, 11, 12, 13, 14, 15], 0⟩,
    ⟨.none, .e .none (.store 1 (.t 94) (.t 92)), [16, 13, 15, 0, 1, 2, 3, 4, 5, 6, 7, 8, 9, 10, 11, 12, 13, 14, 15], 0⟩]
def c76_k13 : C :=
  .cond (.t 78)
    (.exit 4)
    (.skip)
def c76_k14 : C :=
  .seq (.seq (.drw [0, 1, 2, 7, 8, 9, 78] 0 [⟨.none, .p (some 68) (.move (.t 0)), [], 0⟩,
    ⟨.none, .p (some 69) (.move (.t 9)), [], 0⟩,
    ⟨.none, .p (some 70) (.iaddr 1 (.t 68) (.t 69)), [0, 1], 0⟩,
    ⟨.none, .p (some 71) (.load false 1 (.t 70)), [2], 0⟩,
    ⟨.none, .p (some 72) (.move (.t 0)), [], 0⟩,
    ⟨.none, .p (some 73) (.move (.t 9)), [], 0⟩,
    ⟨.none, .p (some 74) (.bin .sub .int [] (.t 73) (.c (.int .i64 1))), [5], 0⟩,
    ⟨.none, .p (some 75) (.iaddr 1 (.t 72) (.t 74)), [4, 6], 0⟩,
    ⟨.none, .p (some 76) (.load false 1 (.t 75)), [7], 0⟩,
    ⟨.none, .call (some 77) 77 [(.t 71), (.t 76)], [3, 8], 0⟩,
    ⟨.none, .p (some 78) (.una .not (.t 77)), [9], 0⟩])
  (c76_k13))
  (c76_k12)
def c76_k15 : C :=
  .seq (.block 5 (c76_k14))
  (c76_k11)
def c76_k16 : C :=
  .cond (.t 65)
    (.skip)
    (.exit 4)
def c76_l17 : C :=
  .seq (.seq (.ops [0, 1, 2, 7, 8, 9, 65] [.p (some 64) (.move (.t 9)),
    .p (some 65) (.bin .geq .int [] (.t 64) (.c (.int .i64 1)))])
  (c76_k16))
  (c76_k15)
def c76_k18 : C :=
  .block 4 (.loop [0, 1, 2, 7, 8, 9] c76_l17)
def c76_k19 : C :=
  .cond (.t 61)
    (.seq (.ops [0, 1, 2, 7, 8, 9] [.p (some 62) (.move (.t 7)),
      .p (some 63) (.bin .sub .int [] (.t 62) (.c (.int .i64 1))),
      .p (some 9) (.move (.t 63))])
    (c76_k18))
    (.skip)
def c76_k20 : C :=
  .seq (.seq (.ops [0, 1, 2, 7, 8, 61] [.p (some 58) (.move (.t 7)),
    .p (some 59) (.move (.t 1)),
    .p (some 60) (.bin .sub .int [] (.t 58) (.t 59)),
    .p (some 61) (.bin .geq .int [] (.t 60) (.c (.int .i64 2)))])
  (c76_k19))
  (c76_k10)
def c76_k21 : C :=
  .seq (.drw [0, 1, 2, 7, 8] 0 [⟨.none, .p (some 42) (.move (.t 0)), [], 0⟩,
    ⟨.none, .p (some 43) (.move (.t 7)), [], 0⟩,
    ⟨.none, .p (some 44) (.move (.t 0)), [], 0⟩,
    ⟨.none, .p (some 45) (.move (.t 7)), [], 0⟩,
    ⟨.none, .p (some 46) (.bin .sub .int [] (.t 45) (.c (.int .i64 1))), [3], 0⟩,
    ⟨.none, .p (some 47) (.move (.t 0)), [], 0⟩,
    ⟨.none, .p (some 48) (.move (.t 7)), [], 0⟩,
    ⟨.none, .p (some 49) (.bin .sub .int [] (.t 48) (.c (.int .i64 1))), [6], 0⟩,
    ⟨.none, .p (some 50) (.iaddr 1 (.t 47) (.t 49)), [5, 7], 0⟩,
    ⟨.none, .p (some 51) (.load false 1 (.t 50)), [8], 0⟩,
    ⟨.none, .p (some 52) (.move (.t 0)), [], 0⟩,
    ⟨.none, .p (some 53) (.move (.t 7)), [], 0⟩,
    ⟨.none, .p (some 54) (.iaddr 1 (.t 52) (.t 53)), [10, 11], 0⟩,
    ⟨.none, .p (some 55) (.load false 1 (.t 54)), [12], 0⟩,
    ⟨.none, .p (some 56) (.iaddr 1 (.t 42) (.t 43)), [0, 1, 0, 1, 5, 6, 7, 8, 9, 13], 0⟩,
    ⟨.none, .e .none (.store 1 (.t 56) (.t 51)), [14, 9, 0, 1, 5, 6, 7, 8, 9, 13], 0⟩,
    ⟨.none, .p (some 57) (.iaddr 1 (.t 44) (.t 46)), [2, 4, 0, 1, 2, 3, 4, 5, 6, 7, 8, 9, 10, 11, 12, 13, 14, 15], 0⟩,
    ⟨.none, .e .none (.store 1 (.t 57) (.t 55)), [16, 13, 15, 0, 1, 2, 3, 4, 5, 6, 7, 8, 9, 10, 11, 12, 13, 14, 15], 0⟩])
  (c76_k20)
def c76_k22 : C :=
  .cond (.t 41)
    (.seq (.ops [6] [.p (some 6) (.move (.c (.bool false)))])
    (.ret))
    (.skip)
def c76_k23 : C :=
  .seq (.seq (.ops [0, 1, 2, 7, 8, 41] [.p (some 38) (.move (.t 2)),
    .p (some 39) (.move (.t 1)),
    .p (some 40) (.bin .sub .int [] (.t 38) (.t 39)),
    .p (some 41) (.bin .lss .int [] (.t 40) (.c (.int .i64 50)))])
  (c76_k22))
  (c76_k21)
def c76_k24 : C :=
  .cond (.t 37)
    (.seq (.ops [6] [.p (some 6) (.move (.c (.bool true)))])
    (.ret))
    (.skip)
def c76_k25 : C :=
  .seq (.seq (.ops [0, 1, 2, 7, 8, 37] [.p (some 35) (.move (.t 7)),
    .p (some 36) (.move (.t 2)),
    .p (some 37) (.bin .eql .int [] (.t 35) (.t 36))])
  (c76_k24))
  (c76_k23)
def c76_k26 : C :=
  .block 3 (.ops [0, 1, 2, 7, 8] [.p (some 33) (.move (.t 7)),
    .p (some 34) (.bin .add .int [] (.t 33) (.c (.int .i64 1))),
    .p (some 7) (.move (.t 34))])
def c76_k27 : C :=
  .cond (.t 32)
    (.skip)
    (.exit 2)
def c76_l28 : C :=
  .seq (.seq (.drw [0, 1, 2, 7, 8, 32] 0 [⟨.none, .p (some 17) (.move (.t 7)), [], 0⟩,
    ⟨.none, .p (some 18) (.move (.t 2)), [], 0⟩,
    ⟨.none, .p (some 19) (.bin .lss .int [] (.t 17) (.t 18)), [0, 1], 0⟩,
    ⟨.none, .p (some 20) (.move (.t 19)), [2], 0⟩,
    ⟨(some (20, true)), .p (some 21) (.move (.t 0)), [3], 0⟩,
    ⟨(some (20, true)), .p (some 22) (.move (.t 7)), [3], 0⟩,
    ⟨(some (20, true)), .p (some 23) (.iaddr 1 (.t 21) (.t 22)), [4, 5, 3], 0⟩,
    ⟨(some (20, true)), .p (some 24) (.load false 1 (.t 23)), [6, 3], 0⟩,
    ⟨(some (20, true)), .p (some 25) (.move (.t 0)), [3], 0⟩,
    ⟨(some (20, true)), .p (some 26) (.move (.t 7)), [3], 0⟩,
    ⟨(some (20, true)), .p (some 27) (.bin .sub .int [] (.t 26) (.c (.int .i64 1))), [9, 3], 0⟩,
    ⟨(some (20, true)), .p (some 28) (.iaddr 1 (.t 25) (.t 27)), [8, 10, 3], 0⟩,
    ⟨(some (20, true)), .p (some 29) (.load false 1 (.t 28)), [11, 3], 0⟩,
    ⟨(some (20, true)), .call (some 30) 77 [(.t 24), (.t 29)], [7, 12, 3, 3], 0⟩,
    ⟨(some (20, true)), .p (some 31) (.una .not (.t 30)), [13, 3], 0⟩,
    ⟨.none, .p (some 32) (.pick (.t 20) (.t 31) (.c (.bool false))), [3, 14], 0⟩])
  (c76_k27))
  (c76_k26)
def c76_k29 : C :=
  .seq (.block 2 (.loop [0, 1, 2, 7, 8] c76_l28))
  (c76_k25)
def c76_k30 : C :=
  .seq (.block 1 (c76_k29))
  (c76_k0)
def c76_k31 : C :=
  .cond (.t 14)
    (.skip)
    (.exit 0)
def c76_l32 : C :=
  .seq (.seq (.ops [0, 1, 2, 7, 8, 14] [.p (some 13) (.move (.t 8)),
    .p (some 14) (.bin .lss .int [] (.t 13) (.c (.int .i64 5)))])
  (c76_k31))
  (c76_k30)
def c76_k33 : C :=
  .block 0 (.loop [0, 1, 2, 7, 8] c76_l32)
def c76_k34 : C :=
  .seq (.seq (.ops [0, 1, 2, 7, 8] [.p (some 8) (.move (.c (.int .i64 0)))])
  (c76_k33))
  (.seq (.ops [6] [.p (some 6) (.move (.c (.bool false)))])
  (.ret))
def c76_k35 : C :=
  .seq (.ops [0, 1, 2, 7] [.p (some 11) (.move (.t 1)),
    .p (some 12) (.bin .add .int [] (.t 11) (.c (.int .i64 1))),
    .p (some 7) (.move (.t 12))])
  (c76_k34)
def c76 : FnC := ⟨3, 133, [.tmp 6],
  .seq (.ops [0, 1, 2] [.p (some 6) (.move (.c (.bool false)))])
  (c76_k35),
  []⟩

/-! 78: slices.partitionEqualOrdered[uint32] -/
def c78_k0 : C :=
  .seq (.ops [8] [.p (some 83) (.move (.t 9)),
    .p (some 8) (.move (.t 83))])
  (.ret)
def c78_k1 : C :=
  .ops [0, 1, 9, 10] [.p (some 81) (.move (.t 10)),
    .p (some 82) (.bin .sub .int [] (.t 81) (.c (.int .i64 1))),
    .p (some 10) (.move (.t 82))]
def c78_k2 : C :=
  .seq (.ops [0, 1, 9, 10] [.p (some 79) (.move (.t 9)),
    .p (some 80) (.bin .add .int [] (.t 79) (.c (.int .i64 1))),
    .p (some 9) (.move (.t 80))])
  (c78_k1)
def c78_k3 : C :=
  .seq (.drw [0, 1, 9, 10] 0 [⟨.none, .p (some 65) (.move (.t 0)), [], 0⟩,
    ⟨.none, .p (some 66) (.move (.t 9)), [], 0⟩,
    ⟨.none, .p (some 67) (.move (.t 0)), [], 0⟩,
    ⟨.none, .p (some 68) (.move (.t 10)), [], 0⟩,
    ⟨.none, .p (some 69) (.move (.t 0)), [], 0⟩,
    ⟨.none, .p (some 70) (.move (.t 10)), [], 0⟩,
    ⟨.none, .p (some 71) (.iaddr 1 (.t 69) (.t 70)), [4, 5], 0⟩,
    ⟨.none, .p (some 72) (.load false 1 (.t 71)), [6], 0⟩,
    ⟨.none, .p (some 73) (.move (.t 0)), [], 0⟩,
    ⟨.none, .p (some 74) (.move (.t 9)), [], 0⟩,
    ⟨.none, .p (some 75) (.iaddr 1 (.t 73) (.t 74)), [8, 9], 0⟩,
    ⟨.none, .p (some 76) (.load false 1 (.t 75)), [10], 0⟩,
    ⟨.none, .p (some 77) (.iaddr 1 (.t 65) (.t 66)), [0, 1, 0, 1, 4, 5, 6, 7, 11], 0⟩,
    ⟨.none, .e .none (.store 1 (.t 77) (.t 72)), [12, 7, 0, 1, 4, 5, 6, 7, 11], 0⟩,
    ⟨.none, .p (some 78) (.iaddr 1 (.t 67) (.t 68)), [2, 3, 0, 1, 2, 3, 4, 5, 6, 7, 8, 9, 10, 11, 12, 13], 0⟩,
    ⟨.none, .e .none (.store 1 (.t 78) (.t 76)), [14, 11, 13, 0, 1, 2, 3, 4, 5, 6, 7, 8, 9, 10, 11, 12, 13], 0⟩])
  (c78_k2)
def c78_k4 : C :=
  .cond (.t 64)
    (.exit 0)
    (.skip)
def c78_k5 : C :=
  .seq (.seq (.ops [0, 1, 9, 10, 64] [.p (some 62) (.move (.t 9)),
    .p (some 63) (.move (.t 10)),
    .p (some 64) (.bin .gtr .int [] (.t 62) (.t 63))])
  (c78_k4))
  (c78_k3)
def c78_k6 : C :=
  .block 5 (.ops [0, 1, 9, 10] [.p (some 60) (.move (.t 10)),
    .p (some 61) (.bin .sub .int [] (.t 60) (.c (.int .i64 1))),
    .p (some 10) (.move (.t 61))])
def c78_k7 : C :=
  .cond (.t 59)
    (.skip)
    (.exit 4)
def c78_l8 : C :=
  .seq (.seq (.drw [0, 1, 9, 10, 59] 0 [⟨.none, .p (some 46) (.move (.t 9)), [], 0⟩,
    ⟨.none, .p (some 47) (.move (.t 10)), [], 0⟩,
    ⟨.none, .p (some 48) (.bin .leq .int [] (.t 46) (.t 47)), [0, 1], 0⟩,
    ⟨.none, .p (some 49) (.move (.t 48)), [2], 0⟩,
    ⟨(some (49, true)), .p (some 50) (.move (.t 0)), [3], 0⟩,
    ⟨(some (49, true)), .p (some 51) (.move (.t 1)), [3], 0⟩,
    ⟨(some (49, true)), .p (some 52) (.iaddr 1 (.t 50) (.t 51)), [4, 5, 3], 0⟩,
    ⟨(some (49, true)), .p (some 53) (.load false 1 (.t 52)), [6, 3], 0⟩,
    ⟨(some (49, true)), .p (some 54) (.move (.t 0)), [3], 0⟩,
    ⟨(some (49, true)), .p (some 55) (.move (.t 10)), [3], 0⟩,
    ⟨(some (49, true)), .p (some 56) (.iaddr 1 (.t 54) (.t 55)), [8, 9, 3], 0⟩,
    ⟨(some (49, true)), .p (some 57) (.load false 1 (.t 56)), [10, 3], 0⟩,
    ⟨(some (49, true)), .call (some 58) 77 [(.t 53), (.t 57)], [7, 11, 3, 3], 0⟩,
    ⟨.none, .p (some 59) (.pick (.t 49) (.t 58) (.c (.bool false))), [3, 12], 0⟩])
  (c78_k7))
  (c78_k6)
def c78_k9 : C :=
  .seq (.block 4 (.loop [0, 1, 9, 10] c78_l8))
  (c78_k5)
def c78_k10 : C :=
  .block 3 (.ops [0, 1, 9, 10] [.p (some 44) (.move (.t 9)),
    .p (some 45) (.bin .add .int [] (.t 44) (.c (.int .i64 1))),
    .p (some 9) (.move (.t 45))])
def c78_k11 : C :=
  .cond (.t 43)
    (.skip)
    (.exit 2)
def c78_l12 : C :=
  .seq (.seq (.drw [0, 1, 9, 10, 43] 0 [⟨.none, .p (some 29) (.move (.t 9)), [], 0⟩,
    ⟨.none, .p (some 30) (.move (.t 10)), [], 0⟩,
    ⟨.none, .p (some 31) (.bin .leq .int [] (.t 29) (.t 30)), [0, 1], 0⟩,
    ⟨.none, .p (some 32) (.move (.t 31)), [2], 0⟩,
    ⟨(some (32, true)), .p (some 33) (.move (.t 0)), [3], 0⟩,
    ⟨(some (32, true)), .p (some 34) (.move (.t 1)), [3], 0⟩,
    ⟨(some (32, true)), .p (some 35) (.iaddr 1 (.t 33) (.t 34)), [4, 5, 3], 0⟩,
    ⟨(some (32, true)), .p (some 36) (.load false 1 (.t 35)), [6, 3], 0⟩,
    ⟨(some (32, true)), .p (some 37) (.move (.t 0)), [3], 0⟩,
    ⟨(some (32, true)), .p (some 38) (.move (.t 9)), [3], 0⟩,
    ⟨(some (32, true)), .p (some 39) (.iaddr 1 (.t 37) (.t 38)), [8, 9, 3], 0⟩,
    ⟨(some (32, true)), .p (some 40) (.load false 1 (.t 39)), [10, 3], 0⟩,
    ⟨(some (32, true)), .call (some 41) 77 [(.t 36), (.t 40)], [7, 11, 3, 3], 0⟩,
    ⟨(some (32, true)), .p (some 42) (.una .not (.t 41)), [12, 3], 0⟩,
    ⟨.none, .p (some 43) (.pick (.t 32) (.t 42) (.c (.bool false))), [3, 13], 0⟩])
  (c78_k11))
  (c78_k10)
def c78_k13 : C :=
  .seq (.block 2 (.loop [0, 1, 9, 10] c78_l12))
  (c78_k9)
def c78_l14 : C :=
  .block 1 (c78_k13)
def c78_k15 : C :=
  .seq (.block 0 (.loop [0, 1, 9, 10] c78_l14))
  (c78_k0)
def c78_k16 : C :=
  .seq (.ops [0, 1, 9, 10] [.p (some 25) (.move (.t 1)),
    .p (some 26) (.bin .add .int [] (.t 25) (.c (.int .i64 1))),
    .p (some 27) (.move (.t 2)),
    .p (some 28) (.bin .sub .int [] (.t 27) (.c (.int .i64 1))),
    .p (some 9) (.move (.t 26)),
    .p (some 10) (.move (.t 28))])
  (c78_k15)
def c78_k17 : C :=
  .seq (.drw [0, 1, 2] 0 [⟨.none, .p (some 11) (.move (.t 0)), [], 0⟩,
    ⟨.none, .p (some 12) (.move (.t 1)), [], 0⟩,
    ⟨.none, .p (some 13) (.move (.t 0)), [], 0⟩,
    ⟨.none, .p (some 14) (.move (.t 3)), [], 0⟩,
    ⟨.none, .p (some 15) (.move (.t 0)), [], 0⟩,
    ⟨.none, .p (some 16) (.move (.t 3)), [], 0⟩,
    ⟨.none, .p (some 17) (.iaddr 1 (.t 15) (.t 16)), [4, 5], 0⟩,
    ⟨.none, .p (some 18) (.load false 1 (.t 17)), [6], 0⟩,
    ⟨.none, .p (some 19) (.move (.t 0)), [], 0⟩,
    ⟨.none, .p (some 20) (.move (.t 1)), [], 0⟩,
    ⟨.none, .p (some 21) (.iaddr 1 (.t 19) (.t 20)), [8, 9], 0⟩,
    ⟨.none, .p (some 22) (.load false 1 (.t 21)), [10], 0⟩,
    ⟨.none, .p (some 23) (.iaddr 1 (.t 11) (.t 12)), [0, 1, 0, 1, 4, 5, 6, 7, 11], 0⟩,
    ⟨.none, .e .none (.store 1 (.t 23) (.t 18)), [12, 7, 0, 1, 4, 5, 6, 7, 11], 0⟩,
    ⟨.none, .p (some 24) (.iaddr 1 (.t 13) (.t 14)), [2, 3, 0, 1, 2, 3, 4, 5, 6, 7, 8, 9, 10, 11, 12, 13], 0⟩,
    ⟨.none, .e .none (.store 1 (.t 24) (.t 22)), [14, 11, 13, 0, 1, 2, 3, 4, 5, 6, 7, 8, 9, 10, 11, 12, 13], 0⟩])
  (c78_k16)
def c78 : FnC := ⟨4, 84, [.tmp 8],
  .seq (.ops [0, 1, 2, 3] [.p (some 8) (.move (.c (.int .i64 0)))])
  (c78_k17),
  []⟩

/-! 79: slices.partitionOrdered[uint32] -/
def c79_k0 : C :=
  .seq (.ops [8, 9] [.p (some 167) (.move (.t 11)),
    .p (some 8) (.move (.t 167)),
    .p (some 9) (.move (.c (.bool false)))])
  (.ret)
def c79_k1 : C :=
  .seq (.drw [11] 0 [⟨.none, .p (some 153) (.move (.t 0)), [], 0⟩,
    ⟨.none, .p (some 154) (.move (.t 11)), [], 0⟩,
    ⟨.none, .p (some 155) (.move (.t 0)), [], 0⟩,
    ⟨.none, .p (some 156) (.move (.t 1)), [], 0⟩,
    ⟨.none, .p (some 157) (.move (.t 0)), [], 0⟩,
    ⟨.none, .p (some 158) (.move (.t 1)), [], 0⟩,
    ⟨.none, .p (some 159) (.iaddr 1 (.t 157) (.t 158)), [4, 5], 0⟩,
    ⟨.none, .p (some 160) (.load false 1 (.t 159)), [6], 0⟩,
    ⟨.none, .p (some 161) (.move (.t 0)), [], 0⟩,
    ⟨.none, .p (some 162) (.move (.t 11)), [], 0⟩,
    ⟨.none, .p (some 163) (.iaddr 1 (.t 161) (.t 162)), [8, 9], 0⟩,
    ⟨.none, .p (some 164) (.load false 1 (.t 163)), [10], 0⟩,
    ⟨.none, .p (some 165) (.iaddr 1 (.t 153) (.t 154)), [0, 1, 0, 1, 4, 5, 6, 7, 11], 0⟩,
    ⟨.none, .e .none (.store 1 (.t 165) (.t 160)), [12, 7, 0, 1, 4, 5, 6, 7, 11], 0⟩,
    ⟨.none, .p (some 166) (.iaddr 1 (.t 155) (.t 156)), [2, 3, 0, 1, 2, 3, 4, 5, 6, 7, 8, 9, 10, 11, 12, 13], 0⟩,
    ⟨.none, .e .none (.store 1 (.t 166) (.t 164)), [14, 11, 13, 0, 1, 2, 3, 4, 5, 6, 7, 8, 9, 10, 11, 12, 13], 0⟩])
  (c79_k0)
def c79_k2 : C :=
  .ops [0, 1, 10, 11] [.p (some 151) (.move (.t 11)),
    .p (some 152) (.bin .sub .int [] (.t 151) (.c (.int .i64 1))),
    .p (some 11) (.move (.t 152))]
def c79_k3 : C :=
  .seq (.ops [0, 1, 10, 11] [.p (some 149) (.move (.t 10)),
    .p (some 150) (.bin .add .int [] (.t 149) (.c (.int .i64 1))),
    .p (some 10) (.move (.t 150))])
  (c79_k2)
def c79_k4 : C :=
  .seq (.drw [0, 1, 10, 11] 0 [⟨.none, .p (some 135) (.move (.t 0)), [], 0⟩,
    ⟨.none, .p (some 136) (.move (.t 10)), [], 0⟩,
    ⟨.none, .p (some 137) (.move (.t 0)), [], 0⟩,
    ⟨.none, .p (some 138) (.move (.t 11)), [], 0⟩,
    ⟨.none, .p (some 139) (.move (.t 0)), [], 0⟩,
    ⟨.none, .p (some 140) (.move (.t 11)), [], 0⟩,
    ⟨.none, .p (some 141) (.iaddr 1 (.t 139) (.t 140)), [4, 5], 0⟩,
    ⟨.none, .p (some 142) (.load false 1 (.t 141)), [6], 0⟩,
    ⟨.none, .p (some 143) (.move (.t 0)), [], 0⟩,
    ⟨.none, .p (some 144) (.move (.t 10)), [], 0⟩,
    ⟨.none, .p (some 145) (.iaddr 1 (.t 143) (.t 144)), [8, 9], 0⟩,
    ⟨.none, .p (some 146) (.load false 1 (.t 145)), [10], 0⟩,
    ⟨.none, .p (some 147) (.iaddr 1 (.t 135) (.t 136)), [0, 1, 0, 1, 4, 5, 6, 7, 11], 0⟩,
    ⟨.none, .e .none (.store 1 (.t 147) (.t 142)), [12, 7, 0, 1, 4, 5, 6, 7, 11], 0⟩,
    ⟨.none, .p (some 148) (.iaddr 1 (.t 137) (.t 138)), [2, 3, 0, 1, 2, 3, 4, 5, 6, 7, 8, 9, 10, 11, 12, 13], 0⟩,
    ⟨.none, .e .none (.store 1 (.t 148) (.t 146)), [14, 11, 13, 0, 1, 2, 3, 4, 5, 6, 7, 8, 9, 10, 11, 12, 13], 0⟩])
  (c79_k3)
def c79_k5 : C :=
  .cond (.t 134)
    (.exit 4)
    (.skip)
def c79_k6 : C :=
  .seq (.seq (.ops [0, 1, 10, 11, 134] [.p (some 132) (.move (.t 10)),
    .p (some 133) (.move (.t 11)),
    .p (some 134) (.bin .gtr .int [] (.t 132) (.t 133))])
  (c79_k5))
  (c79_k4)
def c79_k7 : C :=
  .block 9 (.ops [0, 1, 10, 11] [.p (some 130) (.move (.t 11)),
    .p (some 131) (.bin .sub .int [] (.t 130) (.c (.int .i64 1))),
    .p (some 11) (.move (.t 131))])
def c79_k8 : C :=
  .cond (.t 129)
    (.skip)
    (.exit 8)
def c79_l9 : C :=
  .seq (.seq (.drw [0, 1, 10, 11, 129] 0 [⟨.none, .p (some 115) (.move (.t 10)), [], 0⟩,
    ⟨.none, .p (some 116) (.move (.t 11)), [], 0⟩,
    ⟨.none, .p (some 117) (.bin .leq .int [] (.t 115) (.t 116)), [0, 1], 0⟩,
    ⟨.none, .p (some 118) (.move (.t 117)), [2], 0⟩,
    ⟨(some (118, true)), .p (some 119) (.move (.t 0)), [3], 0⟩,
    ⟨(some (118, true)), .p (some 120) (.move (.t 11)), [3], 0⟩,
    ⟨(some (118, true)), .p (some 121) (.iaddr 1 (.t 119) (.t 120)), [4, 5, 3], 0⟩,
    ⟨(some (118, true)), .p (some 122) (.load false 1 (.t 121)), [6, 3], 0⟩,
    ⟨(some (118, true)), .p (some 123) (.move (.t 0)), [3], 0⟩,
    ⟨(some (118, true)), .p (some 124) (.move (.t 1)), [3], 0⟩,
    ⟨(some (118, true)), .p (some 125) (.iaddr 1 (.t 123) (.t 124)), [8, 9, 3], 0⟩,
    ⟨(some (118, true)), .p (some 126) (.load false 1 (.t 125)), [10, 3], 0⟩,
    ⟨(some (118, true)), .call (some 127) 77 [(.t 122), (.t 126)], [7, 11, 3, 3], 0⟩,
    ⟨(some (118, true)), .p (some 128) (.una .not (.t 127)), [12, 3], 0⟩,
    ⟨.none, .p (some 129) (.pick (.t 118) (.t 128) (.c (.bool false))), [3, 13], 0⟩])
  (c79_k8))
  (c79_k7)
def c79_k10 : C :=
  .seq (.block 8 (.loop [0, 1, 10, 11] c79_l9))
  (c79_k6)
def c79_k11 : C :=
  .block 7 (.ops [0, 1, 10, 11] [.p (some 113) (.move (.t 10)),
    .p (some 114) (.bin .add .int [] (.t 113) (.c (.int .i64 1))),
    .p (some 10) (.move (.t 114))])
def c79_k12 : C :=
  .cond (.t 112)
    (.skip)
    (.exit 6)
def c79_l13 : C :=
  .seq (.seq (.drw [0, 1, 10, 11, 112] 0 [⟨.none, .p (some 99) (.move (.t 10)), [], 0⟩,
    ⟨.none, .p (some 100) (.move (.t 11)), [], 0⟩,
    ⟨.none, .p (some 101) (.bin .leq .int [] (.t 99) (.t 100)), [0, 1], 0⟩,
    ⟨.none, .p (some 102) (.move (.t 101)), [2], 0⟩,
    ⟨(some (102, true)), .p (some 103) (.move (.t 0)), [3], 0⟩,
    ⟨(some (102, true)), .p (some 104) (.move (.t 10)), [3], 0⟩,
    ⟨(some (102, true)), .p (some 105) (.iaddr 1 (.t 103) (.t 104)), [4, 5, 3], 0⟩,
    ⟨(some (102, true)), .p (some 106) (.load false 1 (.t 105)), [6, 3], 0⟩,
    ⟨(some (102, true)), .p (some 107) (.move (.t 0)), [3], 0⟩,
    ⟨(some (102, true)), .p (some 108) (.move (.t 1)), [3], 0⟩,
    ⟨(some (102, true)), .p (some 109) (.iaddr 1 (.t 107) (.t 108)), [8, 9, 3], 0⟩,
    ⟨(some (102, true)), .p (some 110) (.load false 1 (.t 109)), [10, 3], 0⟩,
    ⟨(some (102, true)), .call (some 111) 77 [(.t 106), (.t 110)], [7, 11, 3, 3], 0⟩,
    ⟨.none, .p (some 112) (.pick (.t 102) (.t 111) (.c (.bool false))), [3, 12], 0⟩])
  (c79_k12))
  (c79_k11)
def c79_k14 : C :=
  .seq (.block 6 (.loop [0, 1, 10, 11] c79_l13))
  (c79_k10)
def c79_l15 : C :=
  .block 5 (c79_k14)
def c79_k16 : C :=
  .seq (.block 4 (.loop [0, 1, 10, 11] c79_l15))
  (c79_k1)
def c79_k17 : C :=
  .seq (.ops [0, 1, 10, 11] [.p (some 97) (.move (.t 11)),
    .p (some 98) (.bin .sub .int [] (.t 97) (.c (.int .i64 1))),
    .p (some 11) (.move (.t 98))])
  (c79_k16)
def c79_k18 : C :=
  .seq (.ops [0, 1, 10, 11] [.p (some 95) (.move (.t 10)),
    .p (some 96) (.bin .add .int [] (.t 95) (.c (.int .i64 1))),
    .p (some 10) (.move (.t 96))])
  (c79_k17)
def c79_k19 : C :=
  .seq (.drw [0, 1, 10, 11] 0 [⟨.none, .p (some 81) (.move (.t 0)), [], 0⟩,
    ⟨.none, .p (some 82) (.move (.t 10)), [], 0⟩,
    ⟨.none, .p (some 83) (.move (.t 0)), [], 0⟩,
    ⟨.none, .p (some 84) (.move (.t 11)), [], 0⟩,
    ⟨.none, .p (some 85) (.move (.t 0)), [], 0⟩,
    ⟨.none, .p (some 86) (.move (.t 11)), [], 0⟩,
    ⟨.none, .p (some 87) (.iaddr 1 (.t 85) (.t 86)), [4, 5], 0⟩,
    ⟨.none, .p (some 88) (.load false 1 (.t 87)), [6], 0⟩,
    ⟨.none, .p (some 89) (.move (.t 0)), [], 0⟩,
    ⟨.none, .p (some 90) (.move (.t 10)), [], 0⟩,
    ⟨.none, .p (some 91) (.iaddr 1 (.t 89) (.t 90)), [8, 9], 0⟩,
    ⟨.none, .p (some 92) (.load false 1 (.t 91)), [10], 0⟩,
    ⟨.none, .p (some 93) (.iaddr 1 (.t 81) (.t 82)), [0, 1, 0, 1, 4, 5, 6, 7, 11], 0⟩,
    ⟨.none, .e .none (.store 1 (.t 93) (.t 88)), [12, 7, 0, 1, 4, 5, 6, 7, 11], 0⟩,
    ⟨.none, .p (some 94) (.iaddr 1 (.t 83) (.t 84)), [2, 3, 0, 1, 2, 3, 4, 5, 6, 7, 8, 9, 10, 11, 12, 13], 0⟩,
    ⟨.none, .e .none (.store 1 (.t 94) (.t 92)), [14, 11, 13, 0, 1, 2, 3, 4, 5, 6, 7, 8, 9, 10, 11, 12, 13], 0⟩])
  (c79_k18)
def c79_k20 : C :=
  .seq (.ops [8, 9] [.p (some 80) (.move (.t 11)),
    .p (some 8) (.move (.t 80)),
    .p (some 9) (.move (.c (.bool true)))])
  (.ret)
def c79_k21 : C :=
  .seq (.drw [11] 0 [⟨.none, .p (some 66) (.move (.t 0)), [], 0⟩,
      ⟨.none, .p (some 67) (.move (.t 11)), [], 0⟩,
      ⟨.none, .p (some 68) (.move (.t 0)), [], 0⟩,
      ⟨.none, .p (some 69) (.move (.t 1)), [], 0⟩,
      ⟨.none, .p (some 70) (.move (.t 0)), [], 0⟩,
      ⟨.none, .p (some 71) (.move (.t 1)), [], 0⟩,
      ⟨.none, .p (some 72) (.iaddr 1 (.t 70) (.t 71)), [4, 5], 0⟩,
      ⟨.none, .p (some 73) (.load false 1 (.t 72)), [6], 0⟩,
      ⟨.none, .p (some 74) (.move (.t 0)), [], 0⟩,
      ⟨.none, .p (some 75) (.move (.t 11)), [], 0⟩,
      ⟨.none, .p (some 76) (.iaddr 1 (.t 74) (.t 75)), [8, 9], 0⟩,
      ⟨.none, .p (some 77) (.load false 1 (.t 76)), [10], 0⟩,
      ⟨.none, .p (some 78) (.iaddr 1 (.t 66) (.t 67)), [0, 1, 0, 1, 4, 5, 6, 7, 11], 0⟩,
      ⟨.none, .e .none (.store 1 (.t 78) (.t 73)), [12, 7, 0, 1, 4, 5, 6, 7, 11], 0⟩,
      ⟨.none, .p (some 79) (.iaddr 1 (.t 68) (.t 69)), [2, 3, 0, 1, 2, 3, 4, 5, 6, 7, 8, 9, 10, 11, 12, 13], 0⟩,
      ⟨.none, .e .none (.store 1 (.t 79) (.t 77)), [14, 11, 13, 0, 1, 2, 3, 4, 5, 6, 7, 8, 9, 10, 11, 12, 13], 0⟩])
    (c79_k20)
def c79_k22 : C :=
  .cond (.t 65)
    (c79_k21)
    (.skip)
def c79_k23 : C :=
  .seq (.seq (.ops [0, 1, 10, 11, 65] [.p (some 63) (.move (.t 10)),
    .p (some 64) (.move (.t 11)),
    .p (some 65) (.bin .gtr .int [] (.t 63) (.t 64))])
  (c79_k22))
  (c79_k19)
def c79_k24 : C :=
  .block 3 (.ops [0, 1, 10, 11] [.p (some 61) (.move (.t 11)),
    .p (some 62) (.bin .sub .int [] (.t 61) (.c (.int .i64 1))),
    .p (some 11) (.move (.t 62))])
def c79_k25 : C :=
  .cond (.t 60)
    (.skip)
    (.exit 2)
def c79_l26 : C :=
  .seq (.seq (.drw [0, 1, 10, 11, 60] 0 [⟨.none, .p (some 46) (.move (.t 10)), [], 0⟩,
    ⟨.none, .p (some 47) (.move (.t 11)), [], 0⟩,
    ⟨.none, .p (some 48) (.bin .leq .int [] (.t 46) (.t 47)), [0, 1], 0⟩,
    ⟨.none, .p (some 49) (.move (.t 48)), [2], 0⟩,
    ⟨(some (49, true)), .p (some 50) (.move (.t 0)), [3], 0⟩,
    ⟨(some (49, true)), .p (some 51) (.move (.t 11)), [3], 0⟩,
    ⟨(some (49, true)), .p (some 52) (.iaddr 1 (.t 50) (.t 51)), [4, 5, 3], 0⟩,
    ⟨(some (49, true)), .p (some 53) (.load false 1 (.t 52)), [6, 3], 0⟩,
    ⟨(some (49, true)), .p (some 54) (.move (.t 0)), [3], 0⟩,
    ⟨(some (49, true)), .p (some 55) (.move (.t 1)), [3], 0⟩,
    ⟨(some (49, true)), .p (some 56) (.iaddr 1 (.t 54) (.t 55)), [8, 9, 3], 0⟩,
    ⟨(some (49, true)), .p (some 57) (.load false 1 (.t 56)), [10, 3], 0⟩,
    ⟨(some (49, true)), .call (some 58) 77 [(.t 53), (.t 57)], [7, 11, 3, 3], 0⟩,
    ⟨(some (49, true)), .p (some 59) (.una .not (.t 58)), [12, 3], 0⟩,
    ⟨.none, .p (some 60) (.pick (.t 49) (.t 59) (.c (.bool false))), [3, 13], 0⟩])
  (c79_k25))
  (c79_k24)
def c79_k27 : C :=
  .seq (.block 2 (.loop [0, 1, 10, 11] c79_l26))
  (c79_k23)
def c79_k28 : C :=
  .block 1 (.ops [0, 1, 10, 11] [.p (some 44) (.move (.t 10)),
    .p (some 45) (.bin .add .int [] (.t 44) (.c (.int .i64 1))),
    .p (some 10) (.move (.t 45))])
def c79_k29 : C :=
  .cond (.t 43)
    (.skip)
    (.exit 0)
def c79_l30 : C :=
  .seq (.seq (.drw [0, 1, 10, 11, 43] 0 [⟨.none, .p (some 30) (.move (.t 10)), [], 0⟩,
    ⟨.none, .p (some 31) (.move (.t 11)), [], 0⟩,
    ⟨.none, .p (some 32) (.bin .leq .int [] (.t 30) (.t 31)), [0, 1], 0⟩,
    ⟨.none, .p (some 33) (.move (.t 32)), [2], 0⟩,
    ⟨(some (33, true)), .p (some 34) (.move (.t 0)), [3], 0⟩,
    ⟨(some (33, true)), .p (some 35) (.move (.t 10)), [3], 0⟩,
    ⟨(some (33, true)), .p (some 36) (.iaddr 1 (.t 34) (.t 35)), [4, 5, 3], 0⟩,
    ⟨(some (33, true)), .p (some 37) (.load false 1 (.t 36)), [6, 3], 0⟩,
    ⟨(some (33, true)), .p (some 38) (.move (.t 0)), [3], 0⟩,
    ⟨(some (33, true)), .p (some 39) (.move (.t 1)), [3], 0⟩,
    ⟨(some (33, true)), .p (some 40) (.iaddr 1 (.t 38) (.t 39)), [8, 9, 3], 0⟩,
    ⟨(some (33, true)), .p (some 41) (.load false 1 (.t 40)), [10, 3], 0⟩,
    ⟨(some (33, true)), .call (some 42) 77 [(.t 37), (.t 41)], [7, 11, 3, 3], 0⟩,
    ⟨.none, .p (some 43) (.pick (.t 33) (.t 42) (.c (.bool false))), [3, 12], 0⟩])
  (c79_k29))
  (c79_k28)
def c79_k31 : C :=
  .seq (.block 0 (.loop [0, 1, 10, 11] c79_l30))
  (c79_k27)
def c79_k32 : C :=
  .seq (.ops [0, 1, 10, 11] [.p (some 26) (.move (.t 1)),
    .p (some 27) (.bin .add .int [] (.t 26) (.c (.int .i64 1))),
    .p (some 28) (.move (.t 2)),
    .p (some 29) (.bin .sub .int [] (.t 28) (.c (.int .i64 1))),
    .p (some 10) (.move (.t 27)),
    .p (some 11) (.move (.t 29))])
  (c79_k31)
def c79_k33 : C :=
  .seq (.drw [0, 1, 2] 0 [⟨.none, .p (some 12) (.move (.t 0)), [], 0⟩,
    ⟨.none, .p (some 13) (.move (.t 1)), [], 0⟩,
    ⟨.none, .p (some 14) (.move (.t 0)), [], 0⟩,
    ⟨.none, .p (some 15) (.move (.t 3)), [], 0⟩,
    ⟨.none, .p (some 16) (.move (.t 0)), [], 0⟩,
    ⟨.none, .p (some 17) (.move (.t 3)), [], 0⟩,
    ⟨.none, .p (some 18) (.iaddr 1 (.t 16) (.t 17)), [4, 5], 0⟩,
    ⟨.none, .p (some 19) (.load false 1 (.t 18)), [6], 0⟩,
    ⟨.none, .p (some 20) (.move (.t 0)), [], 0⟩,
    ⟨.none, .p (some 21) (.move (.t 1)), [], 0⟩,
    ⟨.none, .p (some 22) (.iaddr 1 (.t 20) (.t 21)), [8, 9], 0⟩,
    ⟨.none, .p (some 23) (.load false 1 (.t 22)), [10], 0⟩,
    ⟨.none, .p (some 24) (.iaddr 1 (.t 12) (.t 13)), [0, 1, 0, 1, 4, 5, 6, 7, 11], 0⟩,
    ⟨.none, .e .none (.store 1 (.t 24) (.t 19)), [12, 7, 0, 1, 4, 5, 6, 7, 11], 0⟩,
    ⟨.none, .p (some 25) (.iaddr 1 (.t 14) (.t 15)), [2, 3, 0, 1, 2, 3, 4, 5, 6, 7, 8, 9, 10, 11, 12, 13], 0⟩,
    ⟨.none, .e .none (.store 1 (.t 25) (.t 23)), [14, 11, 13, 0, 1, 2, 3, 4, 5, 6, 7, 8, 9, 10, 11, 12, 13], 0⟩])
  (c79_k32)
def c79 : FnC := ⟨4, 168, [.tmp 8, .tmp 9],
  .seq (.ops [0, 1, 2, 3] [.p (some 8) (.move (.c (.int .i64 0))),
    .p (some 9) (.move (.c (.bool false)))])
  (c79_k33),
  []⟩

/-! 12: gossamer/gossamerref22.IDs -/
def c12_k0 : C :=
  .seq (.ops [2] [.p (some 19) (.move (.t 3)),
    .p (some 2) (.move (.t 19))])
  (.ret)
def c12_k1 : C :=
  .ops [0, 3, 4] [.p (some 9) (.move (.t 4)),
    .p (some 10) (.bin .add .int [] (.t 9) (.c (.int .i64 1))),
    .p (some 4) (.move (.t 10))]
def c12_k2 : C :=
  .seq (.block 1 (.ops [0, 3, 4] [.p (some 11) (.move (.t 3)),
    .p (some 12) (.move (.t 0)),
    .p (some 13) (.move (.t 4)),
    .p (some 14) (.iaddr 33 (.t 12) (.t 13)),
    .p (some 15) (.faddr 0 (.t 14)),
    .p (some 16) (.load false 1 (.t 15)),
    .p (some 17) (.bslice 46 1 1 [(.int .u32 0)] [(0, (.t 16))]),
    .e (some 18) (.append 46 1 4 (.t 11) (.t 17)),
    .p (some 3) (.move (.t 18))]))
  (c12_k1)
def c12_k3 : C :=
  .cond (.t 8)
    (.skip)
    (.exit 0)
def c12_l4 : C :=
  .seq (.seq (.ops [0, 3, 4, 8] [.p (some 5) (.move (.t 4)),
    .p (some 6) (.move (.t 0)),
    .p (some 7) (.len .slice (.t 6)),
    .p (some 8) (.bin .lss .int [] (.t 5) (.t 7))])
  (c12_k3))
  (c12_k2)
def c12_k5 : C :=
  .block 0 (.loop [0, 3, 4] c12_l4)
def c12_k6 : C :=
  .seq (.seq (.ops [0, 3, 4] [.p (some 4) (.move (.c (.int .i64 0)))])
  (c12_k5))
  (c12_k0)
def c12_k7 : C :=
  .seq (.ops [0, 3] [.p (some 3) (.move (.c .nils))])
  (c12_k6)
def c12 : FnC := ⟨1, 20, [.tmp 2],
  .seq (.ops [0] [.p (some 2) (.move (.c .nils))])
  (c12_k7),
  []⟩

/-! 18: gossamer/gossamernum.Words -/
def c18_k0 : C :=
  .cond (.t 24)
    (.seq (.ops [4] [.p (some 4) (.move (.c (.bool false)))])
    (.ret))
    (.skip)
def c18_k1 : C :=
  .seq (.drw [0, 1, 12, 13, 24] 0 [⟨.none, .p (some 16) (.move (.t 0)), [], 0⟩,
    ⟨.none, .p (some 17) (.move (.t 5)), [], 0⟩,
    ⟨.none, .p (some 18) (.iaddr 1 (.t 16) (.t 17)), [0, 1], 0⟩,
    ⟨.none, .p (some 19) (.load false 1 (.t 18)), [2], 0⟩,
    ⟨.none, .p (some 20) (.move (.t 1)), [], 0⟩,
    ⟨.none, .p (some 21) (.move (.t 5)), [], 0⟩,
    ⟨.none, .p (some 22) (.iaddr 1 (.t 20) (.t 21)), [4, 5], 0⟩,
    ⟨.none, .p (some 23) (.load false 1 (.t 22)), [6], 0⟩,
    ⟨.none, .p (some 24) (.bin .neq .int [] (.t 19) (.t 23)), [3, 7], 0⟩])
  (c18_k0)
def c18_k2 : C :=
  .seq (.ops [0, 1, 5, 12, 13] [.p (some 15) (.move (.t 13)),
    .p (some 5) (.move (.t 15))])
  (c18_k1)
def c18_k3 : C :=
  .seq (.block 1 (c18_k2))
  (.ops [0, 1, 12, 13] [.p (some 25) (.bin .add .int [] (.t 13) (.c (.int .i64 1))),
    .p (some 13) (.move (.t 25))])
def c18_k4 : C :=
  .seq (.cond (.t 14)
    (.skip)
    (.exit 0))
  (c18_k3)
def c18_l5 : C :=
  .seq (.ops [0, 1, 12, 13, 14] [.p (some 14) (.bin .lss .int [] (.t 13) (.t 12))])
  (c18_k4)
def c18_k6 : C :=
  .block 0 (.loop [0, 1, 12, 13] c18_l5)
def c18_k7 : C :=
  .seq (.seq (.ops [0, 1, 12, 13] [.p (some 11) (.move (.t 0)),
    .p (some 12) (.len .slice (.t 11)),
    .p (some 13) (.move (.c (.int .i64 0)))])
  (c18_k6))
  (.seq (.ops [4] [.p (some 4) (.move (.c (.bool true)))])
  (.ret))
def c18_k8 : C :=
  .cond (.t 10)
    (.seq (.ops [4] [.p (some 4) (.move (.c (.bool false)))])
    (.ret))
    (.skip)
def c18_k9 : C :=
  .seq (.seq (.ops [0, 1, 10] [.p (some 6) (.move (.t 0)),
    .p (some 7) (.len .slice (.t 6)),
    .p (some 8) (.move (.t 1)),
    .p (some 9) (.len .slice (.t 8)),
    .p (some 10) (.bin .neq .int [] (.t 7) (.t 9))])
  (c18_k8))
  (c18_k7)
def c18 : FnC := ⟨2, 26, [.tmp 4],
  .seq (.ops [0, 1] [.p (some 4) (.move (.c (.bool false)))])
  (c18_k9),
  []⟩

/-! 32: (*gossamer/short.Index).Hashes -/
def c32_k0 : C :=
  .seq (.ops [2] [.p (some 23) (.move (.t 3)),
    .p (some 2) (.move (.t 23))])
  (.ret)
def c32_k1 : C :=
  .ops [0, 3, 7, 8, 9] [.p (some 13) (.move (.t 3)),
    .p (some 14) (.move (.t 0)),
    .p (some 15) (.nilCheck (.t 14)),
    .p (some 16) (.faddr 2 (.t 15)),
    .p (some 17) (.load false 1 (.t 16)),
    .p (some 18) (.move (.t 5)),
    .p (some 19) (.lookup false ([(.int .u32)]) (.ca (List.replicate 32 (.int .u8 0))) false (.t 17) (.t 18)),
    .p (some 20) (.bslice 39 1 32 (List.replicate 32 (.int .u8 0)) [(0, (.t 19))]),
    .e (some 21) (.append 39 32 32 (.t 13) (.t 20)),
    .p (some 3) (.move (.t 21))]
def c32_k2 : C :=
  .seq (.ops [0, 3, 5, 7, 8, 9] [.p (some 11) (.iaddr 1 (.t 7) (.t 9)),
    .p (some 12) (.load false 1 (.t 11)),
    .p (some 5) (.move (.t 12))])
  (c32_k1)
def c32_k3 : C :=
  .seq (.block 1 (c32_k2))
  (.ops [0, 3, 7, 8, 9] [.p (some 22) (.bin .add .int [] (.t 9) (.c (.int .i64 1))),
    .p (some 9) (.move (.t 22))])
def c32_k4 : C :=
  .seq (.cond (.t 10)
    (.skip)
    (.exit 0))
  (c32_k3)
def c32_l5 : C :=
  .seq (.ops [0, 3, 7, 8, 9, 10] [.p (some 10) (.bin .lss .int [] (.t 9) (.t 8))])
  (c32_k4)
def c32_k6 : C :=
  .block 0 (.loop [0, 3, 7, 8, 9] c32_l5)
def c32_k7 : C :=
  .seq (.seq (.ops [0, 3, 7, 8, 9] [.p (some 6) (.move (.t 0)),
    .call (some 7) 31 [(.t 6)],
    .p (some 8) (.len .slice (.t 7)),
    .p (some 9) (.move (.c (.int .i64 0)))])
  (c32_k6))
  (c32_k0)
def c32_k8 : C :=
  .seq (.ops [0, 3] [.p (some 3) (.move (.c .nils))])
  (c32_k7)
def c32 : FnC := ⟨1, 24, [.tmp 2],
  .seq (.ops [0] [.p (some 2) (.move (.c .nils))])
  (c32_k8),
  []⟩

/-! 10: gossamer/gossamerref22.Hashes -/
def c10_k0 : C :=
  .seq (.ops [2] [.p (some 19) (.move (.t 3)),
    .p (some 2) (.move (.t 19))])
  (.ret)
def c10_k1 : C :=
  .ops [0, 3, 4] [.p (some 9) (.move (.t 4)),
    .p (some 10) (.bin .add .int [] (.t 9) (.c (.int .i64 1))),
    .p (some 4) (.move (.t 10))]
def c10_k2 : C :=
  .seq (.block 1 (.ops [0, 3, 4] [.p (some 11) (.move (.t 3)),
    .p (some 12) (.move (.t 0)),
    .p (some 13) (.move (.t 4)),
    .p (some 14) (.iaddr 33 (.t 12) (.t 13)),
    .p (some 15) (.faddr 1 (.t 14)),
    .p (some 16) (.load true 32 (.t 15)),
    .p (some 17) (.bslice 39 1 32 (List.replicate 32 (.int .u8 0)) [(0, (.t 16))]),
    .e (some 18) (.append 39 32 32 (.t 11) (.t 17)),
    .p (some 3) (.move (.t 18))]))
  (c10_k1)
def c10_k3 : C :=
  .cond (.t 8)
    (.skip)
    (.exit 0)
def c10_l4 : C :=
  .seq (.seq (.ops [0, 3, 4, 8] [.p (some 5) (.move (.t 4)),
    .p (some 6) (.move (.t 0)),
    .p (some 7) (.len .slice (.t 6)),
    .p (some 8) (.bin .lss .int [] (.t 5) (.t 7))])
  (c10_k3))
  (c10_k2)
def c10_k5 : C :=
  .block 0 (.loop [0, 3, 4] c10_l4)
def c10_k6 : C :=
  .seq (.seq (.ops [0, 3, 4] [.p (some 4) (.move (.c (.int .i64 0)))])
  (c10_k5))
  (c10_k0)
def c10_k7 : C :=
  .seq (.ops [0, 3] [.p (some 3) (.move (.c .nils))])
  (c10_k6)
def c10 : FnC := ⟨1, 20, [.tmp 2],
  .seq (.ops [0] [.p (some 2) (.move (.c .nils))])
  (c10_k7),
  []⟩

/-! 17: gossamer/gossamernum.Hashes -/
def c17_k0 : C :=
  .cond (.t 24)
    (.seq (.ops [4] [.p (some 4) (.move (.c (.bool false)))])
    (.ret))
    (.skip)
def c17_k1 : C :=
  .seq (.drw [0, 1, 12, 13, 24] 0 [⟨.none, .p (some 16) (.move (.t 0)), [], 0⟩,
    ⟨.none, .p (some 17) (.move (.t 5)), [], 0⟩,
    ⟨.none, .p (some 18) (.iaddr 32 (.t 16) (.t 17)), [0, 1], 0⟩,
    ⟨.none, .p (some 19) (.load true 32 (.t 18)), [2], 0⟩,
    ⟨.none, .p (some 20) (.move (.t 1)), [], 0⟩,
    ⟨.none, .p (some 21) (.move (.t 5)), [], 0⟩,
    ⟨.none, .p (some 22) (.iaddr 32 (.t 20) (.t 21)), [4, 5], 0⟩,
    ⟨.none, .p (some 23) (.load true 32 (.t 22)), [6], 0⟩,
    ⟨.none, .p (some 24) (.bin .neq .flat (List.replicate 32 (.int .u8)) (.t 19) (.t 23)), [3, 7], 0⟩])
  (c17_k0)
def c17_k2 : C :=
  .seq (.ops [0, 1, 5, 12, 13] [.p (some 15) (.move (.t 13)),
    .p (some 5) (.move (.t 15))])
  (c17_k1)
def c17_k3 : C :=
  .seq (.block 1 (c17_k2))
  (.ops [0, 1, 12, 13] [.p (some 25) (.bin .add .int [] (.t 13) (.c (.int .i64 1))),
    .p (some 13) (.move (.t 25))])
def c17_k4 : C :=
  .seq (.cond (.t 14)
    (.skip)
    (.exit 0))
  (c17_k3)
def c17_l5 : C :=
  .seq (.ops [0, 1, 12, 13, 14] [.p (some 14) (.bin .lss .int [] (.t 13) (.t 12))])
  (c17_k4)
def c17_k6 : C :=
  .block 0 (.loop [0, 1, 12, 13] c17_l5)
def c17_k7 : C :=
  .seq (.seq (.ops [0, 1, 12, 13] [.p (some 11) (.move (.t 0)),
    .p (some 12) (.len .slice (.t 11)),
    .p (some 13) (.move (.c (.int .i64 0)))])
  (c17_k6))
  (.seq (.ops [4] [.p (some 4) (.move (.c (.bool true)))])
  (.ret))
def c17_k8 : C :=
  .cond (.t 10)
    (.seq (.ops [4] [.p (some 4) (.move (.c (.bool false)))])
    (.ret))
    (.skip)
def c17_k9 : C :=
  .seq (.seq (.ops [0, 1, 10] [.p (some 6) (.move (.t 0)),
    .p (some 7) (.len .slice (.t 6)),
    .p (some 8) (.move (.t 1)),
    .p (some 9) (.len .slice (.t 8)),
    .p (some 10) (.bin .neq .int [] (.t 7) (.t 9))])
  (c17_k8))
  (c17_k7)
def c17 : FnC := ⟨2, 26, [.tmp 4],
  .seq (.ops [0, 1] [.p (some 4) (.move (.c (.bool false)))])
  (c17_k9),
  []⟩

/-! 30: (*gossamer/short.Index).Len -/
def c30_k0 : C :=
  .seq (.ops [2] [.p (some 5) (.move (.t 0)),
    .p (some 6) (.nilCheck (.t 5)),
    .p (some 7) (.faddr 2 (.t 6)),
    .p (some 8) (.load false 1 (.t 7)),
    .p (some 9) (.len .map (.t 8)),
    .p (some 2) (.move (.t 9))])
  (.ret)
def c30_k1 : C :=
  .cond (.t 4)
    (.seq (.ops [2] [.p (some 2) (.move (.c (.int .i64 0)))])
    (.ret))
    (.skip)
def c30_k2 : C :=
  .seq (.seq (.ops [0, 4] [.p (some 3) (.move (.t 0)),
    .p (some 4) (.bin .eql .ptr [] (.t 3) (.c .nilp))])
  (c30_k1))
  (c30_k0)
def c30 : FnC := ⟨1, 10, [.tmp 2],
  .seq (.ops [0] [.p (some 2) (.move (.c (.int .i64 0)))])
  (c30_k2),
  []⟩

/-! 14: gossamer/gossamerref22.Get -/
def c14_k0 : C :=
  .seq (.ops [4, 5] [.p (some 25) (.build (List.replicate 32 (.int .u8 0)) []),
    .e .none (.store 32 (.t 4) (.t 25)),
    .p (some 5) (.move (.c (.bool false)))])
  (.ret)
def c14_k1 : C :=
  .ops [0, 1, 4, 6] [.p (some 11) (.move (.t 6)),
    .p (some 12) (.bin .add .int [] (.t 11) (.c (.int .i64 1))),
    .p (some 6) (.move (.t 12))]
def c14_k2 : C :=
  .cond (.t 19)
    (.seq (.ops [4, 5] [.p (some 20) (.move (.t 0)),
      .p (some 21) (.move (.t 6)),
      .p (some 22) (.iaddr 33 (.t 20) (.t 21)),
      .p (some 23) (.faddr 1 (.t 22)),
      .p (some 24) (.load true 32 (.t 23)),
      .e .none (.store 32 (.t 4) (.t 24)),
      .p (some 5) (.move (.c (.bool true)))])
    (.ret))
    (.skip)
def c14_k3 : C :=
  .seq (.ops [0, 1, 4, 6, 19] [.p (some 13) (.move (.t 0)),
    .p (some 14) (.move (.t 6)),
    .p (some 15) (.iaddr 33 (.t 13) (.t 14)),
    .p (some 16) (.faddr 0 (.t 15)),
    .p (some 17) (.load false 1 (.t 16)),
    .p (some 18) (.move (.t 1)),
    .p (some 19) (.bin .eql .int [] (.t 17) (.t 18))])
  (c14_k2)
def c14_k4 : C :=
  .seq (.block 1 (c14_k3))
  (c14_k1)
def c14_k5 : C :=
  .cond (.t 10)
    (.skip)
    (.exit 0)
def c14_l6 : C :=
  .seq (.seq (.ops [0, 1, 4, 6, 10] [.p (some 7) (.move (.t 6)),
    .p (some 8) (.move (.t 0)),
    .p (some 9) (.len .slice (.t 8)),
    .p (some 10) (.bin .lss .int [] (.t 7) (.t 9))])
  (c14_k5))
  (c14_k4)
def c14_k7 : C :=
  .block 0 (.loop [0, 1, 4, 6] c14_l6)
def c14_k8 : C :=
  .seq (.seq (.ops [0, 1, 4, 6] [.p (some 6) (.move (.c (.int .i64 0)))])
  (c14_k7))
  (c14_k0)
def c14 : FnC := ⟨2, 26, [.cell 4 true 32, .tmp 5],
  .seq (.ops [0, 1, 4] [.e (some 4) (.alloc (List.replicate 32 (.d (.int .u8 0)))),
    .p (some 5) (.move (.c (.bool false)))])
  (c14_k8),
  []⟩

/-! 16: gossamer/gossamerref22.Part -/
def c16_k0 : C :=
  .seq (.ops [4, 5] [.p (some 67) (.move (.t 6)),
    .p (some 68) (.move (.t 7)),
    .p (some 4) (.move (.t 67)),
    .p (some 5) (.move (.t 68))])
  (.ret)
def c16_k1 : C :=
  .ops [0, 1, 6, 7, 8] [.p (some 17) (.move (.t 8)),
    .p (some 18) (.bin .add .int [] (.t 17) (.c (.int .i64 1))),
    .p (some 8) (.move (.t 18))]
def c16_k2 : C :=
  .cond (.t 59)
    (.ops [0, 1, 6, 7, 8] [.p (some 60) (.move (.t 7)),
      .p (some 61) (.move (.t 1)),
      .p (some 62) (.move (.t 8)),
      .p (some 63) (.iaddr 1 (.t 61) (.t 62)),
      .p (some 64) (.load false 1 (.t 63)),
      .p (some 65) (.bslice 46 1 1 [(.int .u32 0)] [(0, (.t 64))]),
      .e (some 66) (.append 46 1 4 (.t 60) (.t 65)),
      .p (some 7) (.move (.t 66))])
    (.skip)
def c16_k3 : C :=
  .seq (.ops [0, 1, 6, 7, 8, 59] [.p (some 54) (.move (.t 9)),
    .p (some 55) (.una .not (.t 54)),
    .p (some 56) (.move (.t 55)),
    .when 56 true [.p (some 57) (.move (.t 12)),
      .p (some 58) (.una .not (.t 57))],
    .p (some 59) (.pick (.t 56) (.t 58) (.c (.bool false)))])
  (c16_k2)
def c16_k4 : C :=
  .cond (.t 49)
    (.ops [0, 1, 6, 7, 8, 9, 12] [.p (some 50) (.move (.t 6)),
      .p (some 51) (.load true 32 (.t 11)),
      .p (some 52) (.bslice 39 1 32 (List.replicate 32 (.int .u8 0)) [(0, (.t 51))]),
      .e (some 53) (.append 39 32 32 (.t 50) (.t 52)),
      .p (some 6) (.move (.t 53))])
    (.skip)
def c16_k5 : C :=
  .seq (.seq (.ops [0, 1, 6, 7, 8, 9, 11, 12, 49] [.p (some 45) (.move (.t 9)),
    .p (some 46) (.una .not (.t 45)),
    .p (some 47) (.move (.t 46)),
    .when 47 true [.p (some 48) (.move (.t 12))],
    .p (some 49) (.pick (.t 47) (.t 48) (.c (.bool false)))])
  (c16_k4))
  (c16_k3)
def c16_k6 : C :=
  .seq (.ops [0, 1, 6, 7, 8, 9, 11, 12] [.p (some 37) (.move (.t 0)),
    .p (some 38) (.move (.t 1)),
    .p (some 39) (.move (.t 8)),
    .p (some 40) (.iaddr 1 (.t 38) (.t 39)),
    .p (some 41) (.load false 1 (.t 40)),
    .call (some 42) 14 [(.t 37), (.t 41)],
    .p (some 36) (.move (.t 42)),
    .p (some 43) (.extract (.t 36) 0),
    .p (some 44) (.extract (.t 36) 1),
    .e (some 11) (.alloc (List.replicate 32 (.d (.int .u8 0)))),
    .e .none (.store 32 (.t 11) (.t 43)),
    .p (some 12) (.move (.t 44))])
  (c16_k5)
def c16_k7 : C :=
  .ops [0, 1, 6, 7, 8, 9, 10] [.p (some 22) (.move (.t 10)),
    .p (some 23) (.bin .add .int [] (.t 22) (.c (.int .i64 1))),
    .p (some 10) (.move (.t 23))]
def c16_k8 : C :=
  .drw [0, 1, 6, 7, 8, 9, 10] 0 [⟨.none, .p (some 24) (.move (.t 9)), [], 0⟩,
    ⟨.none, .p (some 25) (.move (.t 24)), [0], 0⟩,
    ⟨(some (25, false)), .p (some 26) (.move (.t 1)), [1], 0⟩,
    ⟨(some (25, false)), .p (some 27) (.move (.t 10)), [1], 0⟩,
    ⟨(some (25, false)), .p (some 28) (.iaddr 1 (.t 26) (.t 27)), [2, 3, 1], 0⟩,
    ⟨(some (25, false)), .p (some 29) (.load false 1 (.t 28)), [4, 1], 0⟩,
    ⟨(some (25, false)), .p (some 30) (.move (.t 1)), [1], 0⟩,
    ⟨(some (25, false)), .p (some 31) (.move (.t 8)), [1], 0⟩,
    ⟨(some (25, false)), .p (some 32) (.iaddr 1 (.t 30) (.t 31)), [6, 7, 1], 0⟩,
    ⟨(some (25, false)), .p (some 33) (.load false 1 (.t 32)), [8, 1], 0⟩,
    ⟨(some (25, false)), .p (some 34) (.bin .eql .int [] (.t 29) (.t 33)), [5, 9, 1], 0⟩,
    ⟨.none, .p (some 35) (.pick (.t 25) (.c (.bool true)) (.t 34)), [1, 10], 0⟩,
    ⟨.none, .p (some 9) (.move (.t 35)), [11, 1, 0, 1, 2, 3, 4, 5, 6, 7, 8, 9, 10, 11], 0⟩]
def c16_k9 : C :=
  .seq (.block 3 (c16_k8))
  (c16_k7)
def c16_k10 : C :=
  .cond (.t 21)
    (.skip)
    (.exit 2)
def c16_l11 : C :=
  .seq (.seq (.ops [0, 1, 6, 7, 8, 9, 10, 21] [.p (some 19) (.move (.t 10)),
    .p (some 20) (.move (.t 8)),
    .p (some 21) (.bin .lss .int [] (.t 19) (.t 20))])
  (c16_k10))
  (c16_k9)
def c16_k12 : C :=
  .block 2 (.loop [0, 1, 6, 7, 8, 9, 10] c16_l11)
def c16_k13 : C :=
  .seq (.seq (.ops [0, 1, 6, 7, 8, 9, 10] [.p (some 10) (.move (.c (.int .i64 0)))])
  (c16_k12))
  (c16_k6)
def c16_k14 : C :=
  .seq (.ops [0, 1, 6, 7, 8, 9] [.p (some 9) (.move (.c (.bool false)))])
  (c16_k13)
def c16_k15 : C :=
  .seq (.block 1 (c16_k14))
  (c16_k1)
def c16_k16 : C :=
  .cond (.t 16)
    (.skip)
    (.exit 0)
def c16_l17 : C :=
  .seq (.seq (.ops [0, 1, 6, 7, 8, 16] [.p (some 13) (.move (.t 8)),
    .p (some 14) (.move (.t 1)),
    .p (some 15) (.len .slice (.t 14)),
    .p (some 16) (.bin .lss .int [] (.t 13) (.t 15))])
  (c16_k16))
  (c16_k15)
def c16_k18 : C :=
  .block 0 (.loop [0, 1, 6, 7, 8] c16_l17)
def c16_k19 : C :=
  .seq (.seq (.ops [0, 1, 6, 7, 8] [.p (some 8) (.move (.c (.int .i64 0)))])
  (c16_k18))
  (c16_k0)
def c16_k20 : C :=
  .seq (.ops [0, 1, 6, 7] [.p (some 7) (.move (.c .nils))])
  (c16_k19)
def c16_k21 : C :=
  .seq (.ops [0, 1, 6] [.p (some 6) (.move (.c .nils))])
  (c16_k20)
def c16 : FnC := ⟨2, 69, [.tmp 4, .tmp 5],
  .seq (.ops [0, 1] [.p (some 4) (.move (.c .nils)),
    .p (some 5) (.move (.c .nils))])
  (c16_k21),
  []⟩

/-! 4: gossamer/gossamerlaw22.ShortSketches -/
def c4_k0 : C :=
  .seq (.drw [6] 0 [⟨.none, .p (some 51) (.move (.t 8)), [], 0⟩,
    ⟨.none, .p (some 52) (.bin .eql .iface [] (.t 51) (.c .nili)), [0], 0⟩,
    ⟨.none, .p (some 53) (.move (.t 52)), [1], 0⟩,
    ⟨(some (53, true)), .p (some 54) (.move (.t 11)), [2], 0⟩,
    ⟨(some (53, true)), .call (some 55) 21 [(.t 54)], [3, 2, 2], 0⟩,
    ⟨(some (53, true)), .p (some 56) (.conv .bytesStr (.t 55)), [4, 2], 0⟩,
    ⟨(some (53, true)), .p (some 57) (.move (.t 2)), [2], 0⟩,
    ⟨(some (53, true)), .p (some 58) (.move (.t 9)), [2], 0⟩,
    ⟨(some (53, true)), .call (some 59) 12 [(.t 58)], [7, 4, 2], 0⟩,
    ⟨(some (53, true)), .call (some 60) 23 [(.t 57), (.t 59)], [6, 8, 8, 2], 0⟩,
    ⟨(some (53, true)), .call (some 61) 22 [(.t 60)], [9, 9, 2], 0⟩,
    ⟨(some (53, true)), .p (some 62) (.conv .bytesStr (.t 61)), [10, 2], 0⟩,
    ⟨(some (53, true)), .p (some 63) (.bin .eql .str [] (.t 56) (.t 62)), [5, 11, 2], 0⟩,
    ⟨.none, .p (some 64) (.pick (.t 53) (.t 63) (.c (.bool false))), [2, 12], 0⟩,
    ⟨.none, .p (some 6) (.move (.t 64)), [13, 10, 0, 1, 2, 3, 4, 5, 6, 7, 8, 9, 10, 11, 12, 13], 0⟩])
  (.ret)
def c4_k1 : C :=
  .cond (.t 44)
    (.seq (.ops [6] [.p (some 45) (.move (.t 8)),
      .call (some 46) 20 [(.t 45), (.c (.int .i64 1))],
      .p (some 47) (.move (.t 46)),
      .when 47 true [.p (some 48) (.move (.t 11)),
        .p (some 49) (.bin .eql .ptr [] (.t 48) (.c .nilp))],
      .p (some 50) (.pick (.t 47) (.t 49) (.c (.bool false))),
      .p (some 6) (.move (.t 50))])
    (.ret))
    (.skip)
def c4_k2 : C :=
  .seq (.seq (.ops [2, 8, 9, 11, 44] [.p (some 39) (.move (.t 2)),
    .p (some 40) (.bin .lss .int [] (.t 39) (.c (.int .i64 1))),
    .p (some 41) (.move (.t 40)),
    .when 41 false [.p (some 42) (.move (.t 2)),
      .p (some 43) (.bin .gtr .int [] (.t 42) (.c (.int .i64 40)))],
    .p (some 44) (.pick (.t 41) (.c (.bool true)) (.t 43))])
  (c4_k1))
  (c4_k0)
def c4_k3 : C :=
  .seq (.ops [2, 8, 9, 11] [.p (some 34) (.move (.t 7)),
    .p (some 35) (.move (.t 2)),
    .call (some 36) 19 [(.t 34), (.t 35)],
    .p (some 33) (.move (.t 36)),
    .p (some 37) (.extract (.t 33) 0),
    .p (some 38) (.extract (.t 33) 1),
    .p (some 11) (.move (.t 37)),
    .p (some 8) (.move (.t 38))])
  (c4_k2)
def c4_k4 : C :=
  .cond (.t 32)
    (.seq (.ops [6] [.p (some 6) (.move (.c (.bool false)))])
    (.ret))
    (.skip)
def c4_k5 : C :=
  .seq (.seq (.ops [2, 7, 9, 32] [.p (some 31) (.move (.t 10)),
    .p (some 32) (.una .not (.t 31))])
  (c4_k4))
  (c4_k3)
def c4_k6 : C :=
  .seq (.ops [2, 7, 9, 10] [.p (some 25) (.move (.t 7)),
    .p (some 26) (.load true 2 (.t 3)),
    .p (some 27) (.move (.t 1)),
    .call (some 28) 9 [(.t 25), (.c .nils), (.t 26), (.t 27)],
    .p (some 24) (.move (.t 28)),
    .p (some 29) (.extract (.t 24) 0),
    .p (some 30) (.extract (.t 24) 1),
    .p (some 9) (.move (.t 29)),
    .p (some 10) (.move (.t 30))])
  (c4_k5)
def c4_k7 : C :=
  .cond (.t 23)
    (.seq (.ops [6] [.p (some 6) (.move (.c (.bool false)))])
    (.ret))
    (.skip)
def c4_k8 : C :=
  .seq (.seq (.ops [1, 2, 3, 7, 23] [.p (some 22) (.move (.t 8)),
    .p (some 23) (.bin .neq .iface [] (.t 22) (.c .nili))])
  (c4_k7))
  (c4_k6)
def c4_k9 : C :=
  .seq (.ops [1, 2, 3, 7, 8] [.p (some 18) (.load true 2 (.t 3)),
    .call (some 19) 7 [(.t 18), (.c .nils)],
    .p (some 17) (.move (.t 19)),
    .p (some 20) (.extract (.t 17) 0),
    .p (some 21) (.extract (.t 17) 1),
    .p (some 7) (.move (.t 20)),
    .p (some 8) (.move (.t 21))])
  (c4_k8)
def c4_k10 : C :=
  .cond (.t 16)
    (.seq (.ops [6] [.p (some 6) (.move (.c (.bool true)))])
    (.ret))
    (.skip)
def c4_k11 : C :=
  .seq (.seq (.ops [1, 2, 3, 16] [.p (some 14) (.move (.t 1)),
    .p (some 15) (.len .slice (.t 14)),
    .p (some 16) (.bin .gtr .int [] (.t 15) (.c (.int .i64 20)))])
  (c4_k10))
  (c4_k9)
def c4_k12 : C :=
  .cond (.t 13)
    (.seq (.ops [6] [.p (some 6) (.move (.c (.bool false)))])
    (.ret))
    (.skip)
def c4_k13 : C :=
  .seq (.seq (.ops [1, 2, 3, 13] [.call (some 12) 6 [],
    .p (some 13) (.una .not (.t 12))])
  (c4_k12))
  (c4_k11)
def c4 : FnC := ⟨3, 65, [.tmp 6],
  .seq (.ops [1, 2, 3] [.e (some 3) (.box (.t 0)),
    .p (some 6) (.move (.c (.bool false)))])
  (c4_k13),
  []⟩

/-! 19: (*gossamer/short.Index).Sketch -/
def c19_k0 : C :=
  .seq (.ops [4, 5] [.p (some 9) (.move (.t 1)),
    .p (some 10) (.move (.t 0)),
    .call (some 11) 31 [(.t 10)],
    .call (some 12) 37 [(.t 9), (.t 11)],
    .p (some 13) (.extract (.t 12) 0),
    .p (some 14) (.extract (.t 12) 1),
    .p (some 4) (.move (.t 13)),
    .p (some 5) (.move (.t 14))])
  (.ret)
def c19_k1 : C :=
  .cond (.t 7)
    (.seq (.ops [4, 5] [.p (some 8) (.mkif 60 (.c (.int .i64 4))),
      .p (some 4) (.move (.c .nilp)),
      .p (some 5) (.move (.t 8))])
    (.ret))
    (.skip)
def c19_k2 : C :=
  .seq (.seq (.ops [0, 1, 7] [.p (some 6) (.move (.t 0)),
    .p (some 7) (.bin .eql .ptr [] (.t 6) (.c .nilp))])
  (c19_k1))
  (c19_k0)
def c19 : FnC := ⟨2, 15, [.tmp 4, .tmp 5],
  .seq (.ops [0, 1] [.p (some 4) (.move (.c .nilp)),
    .p (some 5) (.move (.c .nili))])
  (c19_k2),
  []⟩

/-! 37: gossamer/sketch.New -/
def c37_k0 : C :=
  .seq (.ops [4, 5] [.p (some 25) (.move (.t 6)),
    .p (some 4) (.move (.t 25)),
    .p (some 5) (.move (.c .nili))])
  (.ret)
def c37_k1 : C :=
  .cond (.t 23)
    (.seq (.ops [4, 5] [.p (some 24) (.move (.t 7)),
      .p (some 4) (.move (.c .nilp)),
      .p (some 5) (.move (.t 24))])
    (.ret))
    (.skip)
def c37_k2 : C :=
  .seq (.ops [6, 7, 23] [.p (some 22) (.move (.t 7)),
    .p (some 23) (.bin .neq .iface [] (.t 22) (.c .nili))])
  (c37_k1)
def c37_k3 : C :=
  .seq (.seq (.ops [6, 7] [.p (some 19) (.move (.t 6)),
    .p (some 20) (.move (.t 1)),
    .call (some 21) 46 [(.t 19), (.t 20)],
    .p (some 7) (.move (.t 21))])
  (c37_k2))
  (c37_k0)
def c37_k4 : C :=
  .seq (.ops [1, 6] [.p (some 15) (.move (.t 0)),
    .e (some 16) (.makeSlice 46 1 4 [(.int .u32 0)] (.t 15) (.t 15)),
    .p (some 17) (.build [.nils] [(0, 1, (.t 16))]),
    .e (some 18) (.box (.t 17)),
    .p (some 6) (.move (.t 18))])
  (c37_k3)
def c37_k5 : C :=
  .cond (.t 13)
    (.seq (.ops [4, 5] [.p (some 14) (.mkif 60 (.c (.int .i64 1))),
      .p (some 4) (.move (.c .nilp)),
      .p (some 5) (.move (.t 14))])
    (.ret))
    (.skip)
def c37_k6 : C :=
  .seq (.seq (.ops [0, 1, 13] [.p (some 8) (.move (.t 0)),
    .p (some 9) (.bin .lss .int [] (.t 8) (.c (.int .i64 1))),
    .p (some 10) (.move (.t 9)),
    .when 10 false [.p (some 11) (.move (.t 0)),
      .p (some 12) (.bin .gtr .int [] (.t 11) (.c (.int .i64 40)))],
    .p (some 13) (.pick (.t 10) (.c (.bool true)) (.t 12))])
  (c37_k5))
  (c37_k4)
def c37 : FnC := ⟨2, 26, [.tmp 4, .tmp 5],
  .seq (.ops [0, 1] [.p (some 4) (.move (.c .nilp)),
    .p (some 5) (.move (.c .nili))])
  (c37_k6),
  []⟩

/-! 46: (*gossamer/sketch.Sketch).Put -/
def c46_k0 : C :=
  .ops [0, 14, 15, 16] [.p (some 20) (.move (.t 0)),
    .p (some 21) (.nilCheck (.t 20)),
    .p (some 22) (.faddr 0 (.t 21)),
    .p (some 23) (.load false 1 (.t 22)),
    .p (some 24) (.move (.t 6)),
    .call (some 25) 58 [(.t 23), (.t 24)]]
def c46_k1 : C :=
  .seq (.block 1 (.seq (.ops [0, 6, 14, 15, 16] [.p (some 18) (.iaddr 1 (.t 14) (.t 16)),
    .p (some 19) (.load false 1 (.t 18)),
    .p (some 6) (.move (.t 19))])
  (c46_k0)))
  (.ops [0, 14, 15, 16] [.p (some 26) (.bin .add .int [] (.t 16) (.c (.int .i64 1))),
    .p (some 16) (.move (.t 26))])
def c46_k2 : C :=
  .seq (.cond (.t 17)
    (.skip)
    (.exit 0))
  (c46_k1)
def c46_l3 : C :=
  .seq (.ops [0, 14, 15, 16, 17] [.p (some 17) (.bin .lss .int [] (.t 16) (.t 15))])
  (c46_k2)
def c46_k4 : C :=
  .block 0 (.loop [0, 14, 15, 16] c46_l3)
def c46_k5 : C :=
  .seq (.seq (.ops [0, 14, 15, 16] [.p (some 14) (.move (.t 1)),
    .p (some 15) (.len .slice (.t 14)),
    .p (some 16) (.move (.c (.int .i64 0)))])
  (c46_k4))
  (.seq (.ops [4] [.p (some 4) (.move (.c .nili))])
  (.ret))
def c46_k6 : C :=
  .cond (.t 12)
    (.seq (.ops [4] [.p (some 13) (.mkif 60 (.c (.int .i64 1))),
      .p (some 4) (.move (.t 13))])
    (.ret))
    (.skip)
def c46_k7 : C :=
  .seq (.seq (.ops [0, 1, 12] [.p (some 7) (.move (.t 0)),
    .p (some 8) (.bin .eql .ptr [] (.t 7) (.c .nilp)),
    .p (some 9) (.move (.t 8)),
    .when 9 false [.p (some 10) (.move (.t 1)),
      .call (some 11) 36 [(.t 10), (.c (.int .u32 0))]],
    .p (some 12) (.pick (.t 9) (.c (.bool true)) (.t 11))])
  (c46_k6))
  (c46_k5)
def c46 : FnC := ⟨2, 27, [.tmp 4],
  .seq (.ops [0, 1] [.p (some 4) (.move (.c .nili))])
  (c46_k7),
  []⟩

/-! 58: gossamer/sketch.put -/
def c58_k0 : C :=
  .ops [0, 1, 4, 10, 11] [.p (some 21) (.move (.t 4)),
    .p (some 22) (.move (.t 1)),
    .call (some 23) 69 [(.t 21), (.t 22)],
    .p (some 1) (.move (.t 23))]
def c58_k1 : C :=
  .seq (.ops [0, 1, 4, 10, 11] [.p (some 14) (.move (.t 0)),
    .p (some 15) (.move (.t 5)),
    .p (some 16) (.iaddr 1 (.t 14) (.t 15)),
    .p (some 17) (.load false 1 (.t 16)),
    .p (some 18) (.move (.t 1)),
    .p (some 19) (.bin .xor .int [] (.t 17) (.t 18)),
    .p (some 20) (.iaddr 1 (.t 14) (.t 15)),
    .e .none (.store 1 (.t 20) (.t 19))])
  (c58_k0)
def c58_k2 : C :=
  .seq (.ops [0, 1, 4, 5, 10, 11] [.p (some 13) (.move (.t 11)),
    .p (some 5) (.move (.t 13))])
  (c58_k1)
def c58_k3 : C :=
  .seq (.block 1 (c58_k2))
  (.ops [0, 1, 4, 10, 11] [.p (some 24) (.bin .add .int [] (.t 11) (.c (.int .i64 1))),
    .p (some 11) (.move (.t 24))])
def c58_k4 : C :=
  .seq (.cond (.t 12)
    (.skip)
    (.exit 0))
  (c58_k3)
def c58_l5 : C :=
  .seq (.ops [0, 1, 4, 10, 11, 12] [.p (some 12) (.bin .lss .int [] (.t 11) (.t 10))])
  (c58_k4)
def c58_k6 : C :=
  .block 0 (.loop [0, 1, 4, 10, 11] c58_l5)
def c58_k7 : C :=
  .seq (.ops [0, 1, 4, 10, 11] [.p (some 9) (.move (.t 0)),
    .p (some 10) (.len .slice (.t 9)),
    .p (some 11) (.move (.c (.int .i64 0)))])
  (c58_k6)
def c58 : FnC := ⟨2, 25, [],
  .seq (.ops [0, 1, 4] [.p (some 6) (.move (.t 1)),
    .call (some 7) 68 [(.t 6)],
    .call (some 8) 67 [(.t 7)],
    .p (some 4) (.move (.t 8))])
  (c58_k7),
  []⟩

/-! 68: gossamer/gf.Square -/
def c68_k0 : C :=
  .seq (.ops [2] [.p (some 3) (.move (.t 0)),
    .p (some 4) (.move (.t 0)),
    .call (some 5) 82 [(.t 3), (.t 4)],
    .p (some 2) (.move (.t 5))])
  (.ret)
def c68 : FnC := ⟨1, 6, [.tmp 2],
  .seq (.ops [0] [.p (some 2) (.move (.c (.int .u32 0)))])
  (c68_k0),
  []⟩

/-! 82: gossamer/gf.Mul -/
def c82_k0 : C :=
  .seq (.ops [4] [.p (some 21) (.move (.t 5)),
    .p (some 4) (.move (.t 21))])
  (.ret)
def c82_k1 : C :=
  .ops [0, 1, 5, 6] [.p (some 9) (.move (.t 6)),
    .p (some 10) (.bin .sub .int [] (.t 9) (.c (.int .i64 1))),
    .p (some 6) (.move (.t 10))]
def c82_k2 : C :=
  .cond (.t 17)
    (.ops [0, 1, 5, 6] [.p (some 18) (.move (.t 5)),
      .p (some 19) (.move (.t 0)),
      .p (some 20) (.bin .xor .int [] (.t 18) (.t 19)),
      .p (some 5) (.move (.t 20))])
    (.skip)
def c82_k3 : C :=
  .seq (.ops [0, 1, 5, 6, 17] [.p (some 13) (.move (.t 1)),
    .p (some 14) (.move (.t 6)),
    .p (some 15) (.bin .shr .int [] (.t 13) (.t 14)),
    .p (some 16) (.bin .and .int [] (.t 15) (.c (.int .u32 1))),
    .p (some 17) (.bin .eql .int [] (.t 16) (.c (.int .u32 1)))])
  (c82_k2)
def c82_k4 : C :=
  .seq (.ops [0, 1, 5, 6] [.p (some 11) (.move (.t 5)),
    .call (some 12) 89 [(.t 11)],
    .p (some 5) (.move (.t 12))])
  (c82_k3)
def c82_k5 : C :=
  .seq (.block 1 (c82_k4))
  (c82_k1)
def c82_k6 : C :=
  .cond (.t 8)
    (.skip)
    (.exit 0)
def c82_l7 : C :=
  .seq (.seq (.ops [0, 1, 5, 6, 8] [.p (some 7) (.move (.t 6)),
    .p (some 8) (.bin .geq .int [] (.t 7) (.c (.int .i64 0)))])
  (c82_k6))
  (c82_k5)
def c82_k8 : C :=
  .block 0 (.loop [0, 1, 5, 6] c82_l7)
def c82_k9 : C :=
  .seq (.seq (.ops [0, 1, 5, 6] [.p (some 6) (.move (.c (.int .i64 31)))])
  (c82_k8))
  (c82_k0)
def c82_k10 : C :=
  .seq (.ops [0, 1, 5] [.p (some 5) (.move (.c (.int .u32 0)))])
  (c82_k9)
def c82 : FnC := ⟨2, 22, [.tmp 4],
  .seq (.ops [0, 1] [.p (some 4) (.move (.c (.int .u32 0)))])
  (c82_k10),
  []⟩

/-! 89: gossamer/gf.shift -/
def c89_k0 : C :=
  .seq (.ops [2] [.p (some 9) (.move (.t 0)),
    .p (some 10) (.bin .shl .int [] (.t 9) (.c (.int .u64 1))),
    .p (some 2) (.move (.t 10))])
  (.ret)
def c89_k1 : C :=
  .cond (.t 5)
    (.seq (.ops [2] [.p (some 6) (.move (.t 0)),
      .p (some 7) (.bin .shl .int [] (.t 6) (.c (.int .u64 1))),
      .p (some 8) (.bin .xor .int [] (.t 7) (.c (.int .u32 141))),
      .p (some 2) (.move (.t 8))])
    (.ret))
    (.skip)
def c89_k2 : C :=
  .seq (.seq (.ops [0, 5] [.p (some 3) (.move (.t 0)),
    .p (some 4) (.bin .and .int [] (.t 3) (.c (.int .u32 2147483648))),
    .p (some 5) (.bin .neq .int [] (.t 4) (.c (.int .u32 0)))])
  (c89_k1))
  (c89_k0)
def c89 : FnC := ⟨1, 11, [.tmp 2],
  .seq (.ops [0] [.p (some 2) (.move (.c (.int .u32 0)))])
  (c89_k2),
  []⟩

/-! 67: gossamer/gf.By -/
def c67_k0 : C :=
  .seq (.ops [2] [.p (some 30) (.move (.t 3)),
    .p (some 2) (.move (.t 30))])
  (.ret)
def c67_k1 : C :=
  .drw [0, 3, 4, 8, 11] 0 [⟨.none, .p (some 14) (.move (.t 3)), [], 0⟩,
    ⟨.none, .p (some 15) (.move (.t 4)), [], 0⟩,
    ⟨.none, .p (some 16) (.move (.t 5)), [], 0⟩,
    ⟨.none, .p (some 17) (.move (.t 0)), [], 0⟩,
    ⟨.none, .p (some 18) (.move (.t 5)), [], 0⟩,
    ⟨.none, .p (some 19) (.conv (.int .u32) (.t 18)), [4], 0⟩,
    ⟨.none, .p (some 20) (.move (.t 4)), [], 0⟩,
    ⟨.none, .p (some 21) (.bin .mul .int [] (.c (.int .i64 8)) (.t 20)), [6], 0⟩,
    ⟨.none, .p (some 22) (.bin .shl .int [] (.t 19) (.t 21)), [5, 7], 0⟩,
    ⟨.none, .call (some 23) 82 [(.t 17), (.t 22)], [3, 8], 0⟩,
    ⟨.none, .p (some 24) (.nilCheck (.t 14)), [0], 0⟩,
    ⟨.none, .p (some 25) (.faddr 0 (.t 24)), [10], 0⟩,
    ⟨.none, .p (some 26) (.iaddrArr 4 256 (.t 25) (.t 15)), [11, 1], 0⟩,
    ⟨.none, .p (some 27) (.iaddrArr 256 1 (.t 26) (.t 16)), [12, 2, 0, 1, 2, 3, 4, 5, 6, 7, 8, 9], 0⟩,
    ⟨.none, .e .none (.store 1 (.t 27) (.t 23)), [13, 9, 9, 0, 1, 2, 3, 4, 5, 6, 7, 8, 9], 0⟩]
def c67_k2 : C :=
  .seq (.ops [0, 3, 4, 5, 8, 11] [.p (some 13) (.move (.t 11)),
    .p (some 5) (.move (.t 13))])
  (c67_k1)
def c67_k3 : C :=
  .seq (.block 3 (c67_k2))
  (.ops [0, 3, 4, 8, 11] [.p (some 28) (.bin .add .int [] (.t 11) (.c (.int .i64 1))),
    .p (some 11) (.move (.t 28))])
def c67_k4 : C :=
  .seq (.cond (.t 12)
    (.skip)
    (.exit 2))
  (c67_k3)
def c67_l5 : C :=
  .seq (.ops [0, 3, 4, 8, 11, 12] [.p (some 12) (.bin .lss .int [] (.t 11) (.c (.int .i64 256)))])
  (c67_k4)
def c67_k6 : C :=
  .block 2 (.loop [0, 3, 4, 8, 11] c67_l5)
def c67_k7 : C :=
  .seq (.ops [0, 3, 4, 8, 11] [.p (some 11) (.move (.c (.int .i64 0)))])
  (c67_k6)
def c67_k8 : C :=
  .seq (.block 1 (.seq (.ops [0, 3, 4, 8] [.p (some 10) (.move (.t 8)),
    .p (some 4) (.move (.t 10))])
  (c67_k7)))
  (.ops [0, 3, 8] [.p (some 29) (.bin .add .int [] (.t 8) (.c (.int .i64 1))),
    .p (some 8) (.move (.t 29))])
def c67_k9 : C :=
  .seq (.cond (.t 9)
    (.skip)
    (.exit 0))
  (c67_k8)
def c67_l10 : C :=
  .seq (.ops [0, 3, 8, 9] [.p (some 9) (.bin .lss .int [] (.t 8) (.c (.int .i64 4)))])
  (c67_k9)
def c67_k11 : C :=
  .block 0 (.loop [0, 3, 8] c67_l10)
def c67_k12 : C :=
  .seq (.seq (.ops [0, 3, 8] [.p (some 8) (.move (.c (.int .i64 0)))])
  (c67_k11))
  (c67_k0)
def c67_k13 : C :=
  .seq (.ops [0, 3] [.p (some 6) (.build (List.replicate 1024 (.int .u32 0)) []),
    .e (some 7) (.box (.t 6)),
    .p (some 3) (.move (.t 7))])
  (c67_k12)
def c67 : FnC := ⟨1, 31, [.tmp 2],
  .seq (.ops [0] [.p (some 2) (.move (.c .nilp))])
  (c67_k13),
  []⟩

/-! 69: (*gossamer/gf.Table).Mul -/
def c69_k0 : C :=
  .seq (.ops [4] [.p (some 27) (.move (.t 5)),
    .p (some 4) (.move (.t 27))])
  (.ret)
def c69_k1 : C :=
  .drw [0, 1, 5, 9] 0 [⟨.none, .p (some 12) (.move (.t 5)), [], 0⟩,
    ⟨.none, .p (some 13) (.move (.t 0)), [], 0⟩,
    ⟨.none, .p (some 14) (.move (.t 6)), [], 0⟩,
    ⟨.none, .p (some 15) (.move (.t 1)), [], 0⟩,
    ⟨.none, .p (some 16) (.move (.t 6)), [], 0⟩,
    ⟨.none, .p (some 17) (.bin .mul .int [] (.c (.int .i64 8)) (.t 16)), [4], 0⟩,
    ⟨.none, .p (some 18) (.bin .shr .int [] (.t 15) (.t 17)), [3, 5], 0⟩,
    ⟨.none, .p (some 19) (.bin .and .int [] (.t 18) (.c (.int .u32 255))), [6], 0⟩,
    ⟨.none, .p (some 20) (.nilCheck (.t 13)), [1], 0⟩,
    ⟨.none, .p (some 21) (.faddr 0 (.t 20)), [8], 0⟩,
    ⟨.none, .p (some 22) (.iaddrArr 4 256 (.t 21) (.t 14)), [9, 2], 0⟩,
    ⟨.none, .p (some 23) (.iaddrArr 256 1 (.t 22) (.t 19)), [10, 7], 0⟩,
    ⟨.none, .p (some 24) (.load false 1 (.t 23)), [11], 0⟩,
    ⟨.none, .p (some 25) (.bin .xor .int [] (.t 12) (.t 24)), [0, 12], 0⟩,
    ⟨.none, .p (some 5) (.move (.t 25)), [13, 0, 1, 2, 3, 4, 5, 6, 7, 8, 9, 10, 11, 12, 13], 0⟩]
def c69_k2 : C :=
  .seq (.ops [0, 1, 5, 6, 9] [.p (some 11) (.move (.t 9)),
    .p (some 6) (.move (.t 11))])
  (c69_k1)
def c69_k3 : C :=
  .seq (.block 1 (c69_k2))
  (.ops [0, 1, 5, 9] [.p (some 26) (.bin .add .int [] (.t 9) (.c (.int .i64 1))),
    .p (some 9) (.move (.t 26))])
def c69_k4 : C :=
  .seq (.cond (.t 10)
    (.skip)
    (.exit 0))
  (c69_k3)
def c69_l5 : C :=
  .seq (.ops [0, 1, 5, 9, 10] [.p (some 10) (.bin .lss .int [] (.t 9) (.c (.int .i64 4)))])
  (c69_k4)
def c69_k6 : C :=
  .block 0 (.loop [0, 1, 5, 9] c69_l5)
def c69_k7 : C :=
  .seq (.seq (.ops [0, 1, 5, 9] [.p (some 9) (.move (.c (.int .i64 0)))])
  (c69_k6))
  (c69_k0)
def c69_k8 : C :=
  .seq (.ops [0, 1, 5] [.p (some 5) (.move (.c (.int .u32 0)))])
  (c69_k7)
def c69_k9 : C :=
  .cond (.t 8)
    (.seq (.ops [4] [.p (some 4) (.move (.c (.int .u32 0)))])
    (.ret))
    (.skip)
def c69_k10 : C :=
  .seq (.seq (.ops [0, 1, 8] [.p (some 7) (.move (.t 0)),
    .p (some 8) (.bin .eql .ptr [] (.t 7) (.c .nilp))])
  (c69_k9))
  (c69_k8)
def c69 : FnC := ⟨2, 28, [.tmp 4],
  .seq (.ops [0, 1] [.p (some 4) (.move (.c (.int .u32 0)))])
  (c69_k10),
  []⟩

/-! 20: gossamer/gossamernum.Is -/
def c20_k0 : C :=
  .seq (.ops [4] [.p (some 5) (.move (.t 0)),
    .call (some 6) 27 [(.t 5)],
    .p (some 7) (.move (.t 1)),
    .p (some 8) (.bin .eql .int [] (.t 6) (.t 7)),
    .p (some 4) (.move (.t 8))])
  (.ret)
def c20 : FnC := ⟨2, 9, [.tmp 4],
  .seq (.ops [0, 1] [.p (some 4) (.move (.c (.bool false)))])
  (c20_k0),
  []⟩

/-! 21: (*gossamer/sketch.Sketch).Bytes -/
def c21_k0 : C :=
  .seq (.ops [2] [.p (some 5) (.move (.t 0)),
    .p (some 6) (.nilCheck (.t 5)),
    .p (some 7) (.faddr 0 (.t 6)),
    .p (some 8) (.load false 1 (.t 7)),
    .call (some 9) 38 [(.t 8)],
    .p (some 2) (.move (.t 9))])
  (.ret)
def c21_k1 : C :=
  .cond (.t 4)
    (.seq (.ops [2] [.p (some 2) (.move (.c .nils))])
    (.ret))
    (.skip)
def c21_k2 : C :=
  .seq (.seq (.ops [0, 4] [.p (some 3) (.move (.t 0)),
    .p (some 4) (.bin .eql .ptr [] (.t 3) (.c .nilp))])
  (c21_k1))
  (c21_k0)
def c21 : FnC := ⟨1, 10, [.tmp 2],
  .seq (.ops [0] [.p (some 2) (.move (.c .nils))])
  (c21_k2),
  []⟩

/-! 38: gossamer/sketch.bytes -/
def c38_k0 : C :=
  .seq (.ops [2] [.p (some 26) (.move (.t 3)),
    .p (some 2) (.move (.t 26))])
  (.ret)
def c38_k1 : C :=
  .ops [3, 5, 7, 8, 9, 13] [.p (some 16) (.move (.t 3)),
    .p (some 17) (.move (.t 5)),
    .p (some 18) (.move (.t 6)),
    .p (some 19) (.bin .mul .int [] (.c (.int .i64 8)) (.t 18)),
    .p (some 20) (.bin .shr .int [] (.t 17) (.t 19)),
    .p (some 21) (.conv (.int .u8) (.t 20)),
    .p (some 22) (.bslice 5 1 1 [(.int .u8 0)] [(0, (.t 21))]),
    .e (some 23) (.append 5 1 1 (.t 16) (.t 22)),
    .p (some 3) (.move (.t 23))]
def c38_k2 : C :=
  .seq (.ops [3, 5, 6, 7, 8, 9, 13] [.p (some 15) (.move (.t 13)),
    .p (some 6) (.move (.t 15))])
  (c38_k1)
def c38_k3 : C :=
  .seq (.block 3 (c38_k2))
  (.ops [3, 5, 7, 8, 9, 13] [.p (some 24) (.bin .add .int [] (.t 13) (.c (.int .i64 1))),
    .p (some 13) (.move (.t 24))])
def c38_k4 : C :=
  .seq (.cond (.t 14)
    (.skip)
    (.exit 2))
  (c38_k3)
def c38_l5 : C :=
  .seq (.ops [3, 5, 7, 8, 9, 13, 14] [.p (some 14) (.bin .lss .int [] (.t 13) (.c (.int .i64 4)))])
  (c38_k4)
def c38_k6 : C :=
  .block 2 (.loop [3, 5, 7, 8, 9, 13] c38_l5)
def c38_k7 : C :=
  .seq (.ops [3, 5, 7, 8, 9, 13] [.p (some 13) (.move (.c (.int .i64 0)))])
  (c38_k6)
def c38_k8 : C :=
  .seq (.block 1 (.seq (.ops [3, 5, 7, 8, 9] [.p (some 11) (.iaddr 1 (.t 7) (.t 9)),
    .p (some 12) (.load false 1 (.t 11)),
    .p (some 5) (.move (.t 12))])
  (c38_k7)))
  (.ops [3, 7, 8, 9] [.p (some 25) (.bin .add .int [] (.t 9) (.c (.int .i64 1))),
    .p (some 9) (.move (.t 25))])
def c38_k9 : C :=
  .seq (.cond (.t 10)
    (.skip)
    (.exit 0))
  (c38_k8)
def c38_l10 : C :=
  .seq (.ops [3, 7, 8, 9, 10] [.p (some 10) (.bin .lss .int [] (.t 9) (.t 8))])
  (c38_k9)
def c38_k11 : C :=
  .block 0 (.loop [3, 7, 8, 9] c38_l10)
def c38_k12 : C :=
  .seq (.seq (.ops [3, 7, 8, 9] [.p (some 7) (.move (.t 0)),
    .p (some 8) (.len .slice (.t 7)),
    .p (some 9) (.move (.c (.int .i64 0)))])
  (c38_k11))
  (c38_k0)
def c38_k13 : C :=
  .seq (.ops [0, 3] [.p (some 3) (.move (.c .nils))])
  (c38_k12)
def c38 : FnC := ⟨1, 27, [.tmp 2],
  .seq (.ops [0] [.p (some 2) (.move (.c .nils))])
  (c38_k13),
  []⟩

/-! 23: gossamer/gossamerref05.Of -/
def c23_k0 : C :=
  .seq (.ops [4] [.p (some 35) (.move (.t 5)),
    .p (some 4) (.move (.t 35))])
  (.ret)
def c23_k1 : C :=
  .ops [0, 1, 5, 6] [.p (some 12) (.move (.t 6)),
    .p (some 13) (.bin .add .int [] (.t 12) (.c (.int .i64 1))),
    .p (some 6) (.move (.t 13))]
def c23_k2 : C :=
  .ops [0, 1, 5, 6] [.p (some 31) (.move (.t 5)),
    .p (some 32) (.move (.t 7)),
    .p (some 33) (.bslice 46 1 1 [(.int .u32 0)] [(0, (.t 32))]),
    .e (some 34) (.append 46 1 4 (.t 31) (.t 33)),
    .p (some 5) (.move (.t 34))]
def c23_k3 : C :=
  .ops [0, 1, 5, 6, 7, 8] [.p (some 18) (.move (.t 8)),
    .p (some 19) (.bin .add .int [] (.t 18) (.c (.int .i64 1))),
    .p (some 8) (.move (.t 19))]
def c23_k4 : C :=
  .ops [0, 1, 5, 6, 7, 8] [.p (some 20) (.move (.t 7)),
    .p (some 21) (.move (.t 1)),
    .p (some 22) (.move (.t 8)),
    .p (some 23) (.iaddr 1 (.t 21) (.t 22)),
    .p (some 24) (.load false 1 (.t 23)),
    .p (some 25) (.move (.t 6)),
    .p (some 26) (.bin .mul .int [] (.c (.int .i64 2)) (.t 25)),
    .p (some 27) (.bin .add .int [] (.t 26) (.c (.int .i64 1))),
    .p (some 28) (.conv (.int .u64) (.t 27)),
    .call (some 29) 39 [(.t 24), (.t 28)],
    .p (some 30) (.bin .xor .int [] (.t 20) (.t 29)),
    .p (some 7) (.move (.t 30))]
def c23_k5 : C :=
  .seq (.block 3 (c23_k4))
  (c23_k3)
def c23_k6 : C :=
  .cond (.t 17)
    (.skip)
    (.exit 2)
def c23_l7 : C :=
  .seq (.seq (.ops [0, 1, 5, 6, 7, 8, 17] [.p (some 14) (.move (.t 8)),
    .p (some 15) (.move (.t 1)),
    .p (some 16) (.len .slice (.t 15)),
    .p (some 17) (.bin .lss .int [] (.t 14) (.t 16))])
  (c23_k6))
  (c23_k5)
def c23_k8 : C :=
  .block 2 (.loop [0, 1, 5, 6, 7, 8] c23_l7)
def c23_k9 : C :=
  .seq (.seq (.ops [0, 1, 5, 6, 7, 8] [.p (some 8) (.move (.c (.int .i64 0)))])
  (c23_k8))
  (c23_k2)
def c23_k10 : C :=
  .seq (.ops [0, 1, 5, 6, 7] [.p (some 7) (.move (.c (.int .u32 0)))])
  (c23_k9)
def c23_k11 : C :=
  .seq (.block 1 (c23_k10))
  (c23_k1)
def c23_k12 : C :=
  .cond (.t 11)
    (.skip)
    (.exit 0)
def c23_l13 : C :=
  .seq (.seq (.ops [0, 1, 5, 6, 11] [.p (some 9) (.move (.t 6)),
    .p (some 10) (.move (.t 0)),
    .p (some 11) (.bin .lss .int [] (.t 9) (.t 10))])
  (c23_k12))
  (c23_k11)
def c23_k14 : C :=
  .block 0 (.loop [0, 1, 5, 6] c23_l13)
def c23_k15 : C :=
  .seq (.seq (.ops [0, 1, 5, 6] [.p (some 6) (.move (.c (.int .i64 0)))])
  (c23_k14))
  (c23_k0)
def c23_k16 : C :=
  .seq (.ops [0, 1, 5] [.p (some 5) (.move (.c .nils))])
  (c23_k15)
def c23 : FnC := ⟨2, 36, [.tmp 4],
  .seq (.ops [0, 1] [.p (some 4) (.move (.c .nils))])
  (c23_k16),
  []⟩

/-! 39: gossamer/gossamerref01.Power -/
def c39_k0 : C :=
  .seq (.ops [4] [.p (some 21) (.move (.t 5)),
    .p (some 4) (.move (.t 21))])
  (.ret)
def c39_k1 : C :=
  .cond (.t 17)
    (.ops [5] [.p (some 18) (.move (.t 5)),
      .p (some 19) (.move (.t 0)),
      .call (some 20) 47 [(.t 18), (.t 19)],
      .p (some 5) (.move (.t 20))])
    (.skip)
def c39_k2 : C :=
  .seq (.seq (.ops [0, 5, 17] [.p (some 15) (.move (.t 1)),
    .p (some 16) (.bin .rem .int [] (.t 15) (.c (.int .u64 2))),
    .p (some 17) (.bin .eql .int [] (.t 16) (.c (.int .u64 1)))])
  (c39_k1))
  (c39_k0)
def c39_k3 : C :=
  .seq (.ops [0, 1, 5] [.p (some 12) (.move (.t 5)),
    .p (some 13) (.move (.t 5)),
    .call (some 14) 47 [(.t 12), (.t 13)],
    .p (some 5) (.move (.t 14))])
  (c39_k2)
def c39_k4 : C :=
  .seq (.ops [0, 1, 5] [.p (some 8) (.move (.t 0)),
    .p (some 9) (.move (.t 1)),
    .p (some 10) (.bin .quo .int [] (.t 9) (.c (.int .u64 2))),
    .call (some 11) 39 [(.t 8), (.t 10)],
    .p (some 5) (.move (.t 11))])
  (c39_k3)
def c39_k5 : C :=
  .cond (.t 7)
    (.seq (.ops [4] [.p (some 4) (.move (.c (.int .u32 1)))])
    (.ret))
    (.skip)
def c39_k6 : C :=
  .seq (.seq (.ops [0, 1, 7] [.p (some 6) (.move (.t 1)),
    .p (some 7) (.bin .eql .int [] (.t 6) (.c (.int .u64 0)))])
  (c39_k5))
  (c39_k4)
def c39 : FnC := ⟨2, 22, [.tmp 4],
  .seq (.ops [0, 1] [.p (some 4) (.move (.c (.int .u32 0)))])
  (c39_k6),
  []⟩

/-! 47: gossamer/gossamerref01.Mul -/
def c47_k0 : C :=
  .seq (.ops [4] [.p (some 24) (.move (.t 5)),
    .call (some 25) 59 [(.t 24)],
    .p (some 4) (.move (.t 25))])
  (.ret)
def c47_k1 : C :=
  .ops [0, 1, 5, 6] [.p (some 9) (.move (.t 6)),
    .p (some 10) (.bin .add .int [] (.t 9) (.c (.int .i64 1))),
    .p (some 6) (.move (.t 10))]
def c47_k2 : C :=
  .cond (.t 16)
    (.ops [0, 1, 5, 6] [.p (some 17) (.move (.t 5)),
      .p (some 18) (.move (.t 0)),
      .p (some 19) (.conv (.int .u64) (.t 18)),
      .p (some 20) (.move (.t 6)),
      .p (some 21) (.conv (.int .u64) (.t 20)),
      .p (some 22) (.bin .shl .int [] (.t 19) (.t 21)),
      .p (some 23) (.bin .xor .int [] (.t 17) (.t 22)),
      .p (some 5) (.move (.t 23))])
    (.skip)
def c47_k3 : C :=
  .seq (.ops [0, 1, 5, 6, 16] [.p (some 11) (.move (.t 1)),
    .p (some 12) (.move (.t 6)),
    .p (some 13) (.conv (.int .u64) (.t 12)),
    .p (some 14) (.bin .shr .int [] (.t 11) (.t 13)),
    .p (some 15) (.bin .rem .int [] (.t 14) (.c (.int .u32 2))),
    .p (some 16) (.bin .eql .int [] (.t 15) (.c (.int .u32 1)))])
  (c47_k2)
def c47_k4 : C :=
  .seq (.block 1 (c47_k3))
  (c47_k1)
def c47_k5 : C :=
  .cond (.t 8)
    (.skip)
    (.exit 0)
def c47_l6 : C :=
  .seq (.seq (.ops [0, 1, 5, 6, 8] [.p (some 7) (.move (.t 6)),
    .p (some 8) (.bin .lss .int [] (.t 7) (.c (.int .i64 32)))])
  (c47_k5))
  (c47_k4)
def c47_k7 : C :=
  .block 0 (.loop [0, 1, 5, 6] c47_l6)
def c47_k8 : C :=
  .seq (.seq (.ops [0, 1, 5, 6] [.p (some 6) (.move (.c (.int .i64 0)))])
  (c47_k7))
  (c47_k0)
def c47_k9 : C :=
  .seq (.ops [0, 1, 5] [.p (some 5) (.move (.c (.int .u64 0)))])
  (c47_k8)
def c47 : FnC := ⟨2, 26, [.tmp 4],
  .seq (.ops [0, 1] [.p (some 4) (.move (.c (.int .u32 0)))])
  (c47_k9),
  []⟩

/-! 59: gossamer/gossamerref01.rest -/
def c59_k0 : C :=
  .seq (.ops [2] [.p (some 20) (.move (.t 0)),
    .p (some 21) (.conv (.int .u32) (.t 20)),
    .p (some 2) (.move (.t 21))])
  (.ret)
def c59_k1 : C :=
  .ops [0, 3] [.p (some 6) (.move (.t 3)),
    .p (some 7) (.bin .sub .int [] (.t 6) (.c (.int .i64 1))),
    .p (some 3) (.move (.t 7))]
def c59_k2 : C :=
  .cond (.t 13)
    (.ops [0, 3] [.p (some 14) (.move (.t 0)),
      .p (some 15) (.move (.t 3)),
      .p (some 16) (.bin .sub .int [] (.t 15) (.c (.int .i64 32))),
      .p (some 17) (.conv (.int .u64) (.t 16)),
      .p (some 18) (.bin .shl .int [] (.c (.int .u64 4294967437)) (.t 17)),
      .p (some 19) (.bin .xor .int [] (.t 14) (.t 18)),
      .p (some 0) (.move (.t 19))])
    (.skip)
def c59_k3 : C :=
  .seq (.ops [0, 3, 13] [.p (some 8) (.move (.t 0)),
    .p (some 9) (.move (.t 3)),
    .p (some 10) (.conv (.int .u64) (.t 9)),
    .p (some 11) (.bin .shr .int [] (.t 8) (.t 10)),
    .p (some 12) (.bin .rem .int [] (.t 11) (.c (.int .u64 2))),
    .p (some 13) (.bin .eql .int [] (.t 12) (.c (.int .u64 1)))])
  (c59_k2)
def c59_k4 : C :=
  .seq (.block 1 (c59_k3))
  (c59_k1)
def c59_k5 : C :=
  .cond (.t 5)
    (.skip)
    (.exit 0)
def c59_l6 : C :=
  .seq (.seq (.ops [0, 3, 5] [.p (some 4) (.move (.t 3)),
    .p (some 5) (.bin .geq .int [] (.t 4) (.c (.int .i64 32)))])
  (c59_k5))
  (c59_k4)
def c59_k7 : C :=
  .block 0 (.loop [0, 3] c59_l6)
def c59_k8 : C :=
  .seq (.seq (.ops [0, 3] [.p (some 3) (.move (.c (.int .i64 63)))])
  (c59_k7))
  (c59_k0)
def c59 : FnC := ⟨1, 22, [.tmp 2],
  .seq (.ops [0] [.p (some 2) (.move (.c (.int .u32 0)))])
  (c59_k8),
  []⟩

/-! 22: gossamer/gossamerref05.Bytes -/
def c22_k0 : C :=
  .seq (.ops [2] [.p (some 40) (.move (.t 3)),
    .p (some 2) (.move (.t 40))])
  (.ret)
def c22_k1 : C :=
  .ops [0, 3, 4] [.p (some 9) (.move (.t 4)),
    .p (some 10) (.bin .add .int [] (.t 9) (.c (.int .i64 1))),
    .p (some 4) (.move (.t 10))]
def c22_k2 : C :=
  .drw [0, 3, 4] 1 [⟨.none, .p (some 11) (.move (.t 3)), [], 0⟩,
    ⟨.none, .p (some 12) (.move (.t 0)), [], 0⟩,
    ⟨.none, .p (some 13) (.move (.t 4)), [], 0⟩,
    ⟨.none, .p (some 14) (.iaddr 1 (.t 12) (.t 13)), [1, 2], 0⟩,
    ⟨.none, .p (some 15) (.load false 1 (.t 14)), [3], 0⟩,
    ⟨.none, .p (some 16) (.bin .rem .int [] (.t 15) (.c (.int .u32 256))), [4], 0⟩,
    ⟨.none, .p (some 17) (.conv (.int .u8) (.t 16)), [5], 0⟩,
    ⟨.none, .p (some 18) (.move (.t 0)), [], 0⟩,
    ⟨.none, .p (some 19) (.move (.t 4)), [], 0⟩,
    ⟨.none, .p (some 20) (.iaddr 1 (.t 18) (.t 19)), [7, 8], 0⟩,
    ⟨.none, .p (some 21) (.load false 1 (.t 20)), [9], 0⟩,
    ⟨.none, .p (some 22) (.bin .quo .int [] (.t 21) (.c (.int .u32 256))), [10], 0⟩,
    ⟨.none, .p (some 23) (.bin .rem .int [] (.t 22) (.c (.int .u32 256))), [11], 0⟩,
    ⟨.none, .p (some 24) (.conv (.int .u8) (.t 23)), [12], 0⟩,
    ⟨.none, .p (some 25) (.move (.t 0)), [], 0⟩,
    ⟨.none, .p (some 26) (.move (.t 4)), [], 0⟩,
    ⟨.none, .p (some 27) (.iaddr 1 (.t 25) (.t 26)), [14, 15], 0⟩,
    ⟨.none, .p (some 28) (.load false 1 (.t 27)), [16], 0⟩,
    ⟨.none, .p (some 29) (.bin .quo .int [] (.t 28) (.c (.int .u32 65536))), [17], 0⟩,
    ⟨.none, .p (some 30) (.bin .rem .int [] (.t 29) (.c (.int .u32 256))), [18], 0⟩,
    ⟨.none, .p (some 31) (.conv (.int .u8) (.t 30)), [19], 0⟩,
    ⟨.none, .p (some 32) (.move (.t 0)), [], 0⟩,
    ⟨.none, .p (some 33) (.move (.t 4)), [], 0⟩,
    ⟨.none, .p (some 34) (.iaddr 1 (.t 32) (.t 33)), [21, 22], 0⟩,
    ⟨.none, .p (some 35) (.load false 1 (.t 34)), [23], 0⟩,
    ⟨.none, .p (some 36) (.bin .quo .int [] (.t 35) (.c (.int .u32 16777216))), [24], 0⟩,
    ⟨.none, .p (some 37) (.conv (.int .u8) (.t 36)), [25], 0⟩,
    ⟨.none, .p (some 38) (.bslice 5 4 1 [(.int .u8 0)] [(0, (.t 17)), (1, (.t 24)), (2, (.t 31)), (3, (.t 37))]), [6, 13, 20, 26], 0⟩,
    ⟨.none, .e (some 39) (.append 5 1 1 (.t 11) (.t 38)), [0, 27], 0⟩,
    ⟨.none, .p (some 3) (.move (.t 39)), [28, 28, 0, 1, 2, 3, 4, 5, 6, 7, 8, 9, 10, 11, 12, 13, 14, 15, 16, 17, 18, 19, 20, 21, 22, 23, 24, 25, 26, 27, 28], 1⟩]
def c22_k3 : C :=
  .seq (.block 1 (c22_k2))
  (c22_k1)
def c22_k4 : C :=
  .cond (.t 8)
    (.skip)
    (.exit 0)
def c22_l5 : C :=
  .seq (.seq (.ops [0, 3, 4, 8] [.p (some 5) (.move (.t 4)),
    .p (some 6) (.move (.t 0)),
    .p (some 7) (.len .slice (.t 6)),
    .p (some 8) (.bin .lss .int [] (.t 5) (.t 7))])
  (c22_k4))
  (c22_k3)
def c22_k6 : C :=
  .block 0 (.loop [0, 3, 4] c22_l5)
def c22_k7 : C :=
  .seq (.seq (.ops [0, 3, 4] [.p (some 4) (.move (.c (.int .i64 0)))])
  (c22_k6))
  (c22_k0)
def c22_k8 : C :=
  .seq (.ops [0, 3] [.p (some 3) (.move (.c .nils))])
  (c22_k7)
def c22 : FnC := ⟨1, 41, [.tmp 2],
  .seq (.ops [0] [.p (some 2) (.move (.c .nils))])
  (c22_k8),
  []⟩

/-! 5: gossamer/gossamerlaw22.ShortCopies -/
def c5_k0 : C :=
  .seq (.ops [6] [.p (some 151) (.move (.t 21)),
    .p (some 152) (.build (List.replicate 32 (.int .u8 0)) []),
    .call (some 153) 28 [(.t 151), (.t 152)],
    .call (some 154) 20 [(.t 153), (.c (.int .i64 4))],
    .p (some 155) (.move (.t 154)),
    .when 155 true [.p (some 156) (.move (.t 23)),
      .call (some 157) 20 [(.t 156), (.c (.int .i64 4))]],
    .p (some 158) (.pick (.t 155) (.t 157) (.c (.bool false))),
    .p (some 159) (.move (.t 158)),
    .when 159 true [.p (some 160) (.move (.t 21)),
      .p (some 161) (.build (List.replicate 32 (.int .u8 0)) []),
      .call (some 162) 29 [(.t 160), (.t 161)],
      .p (some 163) (.una .not (.t 162))],
    .p (some 164) (.pick (.t 159) (.t 163) (.c (.bool false))),
    .p (some 165) (.move (.t 164)),
    .when 165 true [.p (some 166) (.move (.t 21)),
      .p (some 167) (.build (List.replicate 32 (.int .u8 0)) []),
      .call (some 168) 11 [(.t 166), (.t 167)],
      .p (some 169) (.una .not (.t 168))],
    .p (some 170) (.pick (.t 165) (.t 169) (.c (.bool false))),
    .p (some 171) (.move (.t 170)),
    .when 171 true [.p (some 172) (.move (.t 27)),
      .p (some 173) (.una .not (.t 172))],
    .p (some 174) (.pick (.t 171) (.t 173) (.c (.bool false))),
    .p (some 175) (.move (.t 174)),
    .when 175 true [.p (some 176) (.move (.t 21)),
      .call (some 177) 30 [(.t 176)],
      .p (some 178) (.bin .eql .int [] (.t 177) (.c (.int .i64 0)))],
    .p (some 179) (.pick (.t 175) (.t 178) (.c (.bool false))),
    .p (some 180) (.move (.t 179)),
    .when 180 true [.p (some 181) (.move (.t 21)),
      .call (some 182) 31 [(.t 181)],
      .p (some 183) (.len .slice (.t 182)),
      .p (some 184) (.move (.t 21)),
      .call (some 185) 32 [(.t 184)],
      .p (some 186) (.len .slice (.t 185)),
      .p (some 187) (.bin .add .int [] (.t 183) (.t 186)),
      .p (some 188) (.move (.t 24)),
      .p (some 189) (.len .slice (.t 188)),
      .p (some 190) (.bin .add .int [] (.t 187) (.t 189)),
      .p (some 191) (.bin .eql .int [] (.t 190) (.c (.int .i64 0)))],
    .p (some 192) (.pick (.t 180) (.t 191) (.c (.bool false))),
    .p (some 193) (.move (.t 192)),
    .when 193 true [.p (some 194) (.move (.t 25)),
      .p (some 195) (.bslice 46 2 1 [(.int .u32 0)] [(0, (.c (.int .u32 5))), (1, (.c (.int .u32 6)))]),
      .call (some 196) 18 [(.t 194), (.t 195)]],
    .p (some 197) (.pick (.t 193) (.t 196) (.c (.bool false))),
    .p (some 198) (.move (.t 197)),
    .when 198 true [.p (some 199) (.move (.t 21)),
      .call (some 200) 8 [(.t 199)],
      .p (some 201) (.build [(.int .u64 0), (.int .u64 0)] []),
      .p (some 202) (.bin .eql .flat ([(.int .u64), (.int .u64)]) (.t 200) (.t 201))],
    .p (some 203) (.pick (.t 198) (.t 202) (.c (.bool false))),
    .p (some 204) (.move (.t 203)),
    .when 204 true [.p (some 205) (.move (.t 21)),
      .call (some 206) 24 [(.t 205)],
      .p (some 207) (.bin .eql .ptr [] (.t 206) (.c .nilp))],
    .p (some 208) (.pick (.t 204) (.t 207) (.c (.bool false))),
    .p (some 6) (.move (.t 208))])
  (.ret)
def c5_k1 : C :=
  .seq (.ops [21, 23, 24, 25, 27] [.p (some 147) (.move (.t 21)),
    .call (some 148) 13 [(.t 147), (.c (.int .u32 5))],
    .p (some 146) (.move (.t 148)),
    .p (some 149) (.extract (.t 146) 0),
    .p (some 150) (.extract (.t 146) 1),
    .e (some 26) (.alloc (List.replicate 32 (.d (.int .u8 0)))),
    .e .none (.store 32 (.t 26) (.t 149)),
    .p (some 27) (.move (.t 150))])
  (c5_k0)
def c5_k2 : C :=
  .seq (.ops [21, 23, 24, 25] [.p (some 141) (.move (.t 21)),
    .p (some 142) (.bslice 46 3 1 [(.int .u32 0)] [(0, (.c (.int .u32 5))), (1, (.c (.int .u32 6))), (2, (.c (.int .u32 5)))]),
    .call (some 143) 15 [(.t 141), (.t 142)],
    .p (some 140) (.move (.t 143)),
    .p (some 144) (.extract (.t 140) 0),
    .p (some 145) (.extract (.t 140) 1),
    .p (some 24) (.move (.t 144)),
    .p (some 25) (.move (.t 145))])
  (c5_k1)
def c5_k3 : C :=
  .seq (.ops [21, 23] [.p (some 136) (.move (.t 21)),
    .call (some 137) 19 [(.t 136), (.c (.int .i64 3))],
    .p (some 135) (.move (.t 137)),
    .p (some 138) (.extract (.t 135) 0),
    .p (some 139) (.extract (.t 135) 1),
    .p (some 22) (.move (.t 138)),
    .p (some 23) (.move (.t 139))])
  (c5_k2)
def c5_k4 : C :=
  .seq (.ops [21] [.p (some 21) (.move (.c .nilp))])
  (c5_k3)
def c5_k5 : C :=
  .cond (.t 134)
    (.seq (.ops [6] [.p (some 6) (.move (.c (.bool false)))])
    (.ret))
    (.skip)
def c5_k6 : C :=
  .seq (.seq (.ops [134] [.p (some 114) (.move (.t 8)),
    .call (some 115) 27 [(.t 114)],
    .p (some 116) (.move (.t 17)),
    .p (some 117) (.bin .neq .int [] (.t 115) (.t 116)),
    .p (some 118) (.move (.t 117)),
    .when 118 false [.p (some 119) (.move (.t 20)),
      .p (some 120) (.bin .eql .ptr [] (.t 119) (.c .nilp)),
      .p (some 121) (.move (.t 17)),
      .p (some 122) (.bin .neq .int [] (.t 121) (.c (.int .i64 0))),
      .p (some 123) (.bin .neq .bool [] (.t 120) (.t 122))],
    .p (some 124) (.pick (.t 118) (.c (.bool true)) (.t 123)),
    .p (some 125) (.move (.t 124)),
    .when 125 false [.p (some 126) (.move (.t 17)),
      .p (some 127) (.bin .eql .int [] (.t 126) (.c (.int .i64 0))),
      .p (some 128) (.move (.t 127))],
    .when 128 true [.p (some 129) (.move (.t 20)),
      .p (some 130) (.move (.t 16)),
      .call (some 131) 25 [(.t 129), (.t 130)],
      .p (some 132) (.una .not (.t 131))],
    .when 125 false [.p (some 133) (.pick (.t 128) (.t 132) (.c (.bool false)))],
    .p (some 134) (.pick (.t 125) (.c (.bool true)) (.t 133))])
  (c5_k5))
  (c5_k4)
def c5_k7 : C :=
  .seq (.ops [8, 16, 17, 20] [.p (some 109) (.load true 2 (.t 3)),
    .p (some 110) (.move (.t 13)),
    .call (some 111) 7 [(.t 109), (.t 110)],
    .p (some 108) (.move (.t 111)),
    .p (some 112) (.extract (.t 108) 0),
    .p (some 113) (.extract (.t 108) 1),
    .p (some 20) (.move (.t 112)),
    .p (some 8) (.move (.t 113))])
  (c5_k6)
def c5_k8 : C :=
  .cond (.t 99)
    (.ops [3, 13, 16, 17, 92, 93, 94] [.p (some 101) (.move (.t 16)),
      .p (some 102) (.load true 2 (.t 3)),
      .p (some 103) (.load true 32 (.t 19)),
      .call (some 104) 26 [(.t 101), (.t 102), (.t 103)],
      .p (some 100) (.move (.t 104)),
      .p (some 105) (.extract (.t 100) 0),
      .p (some 106) (.extract (.t 100) 1),
      .p (some 16) (.move (.t 105)),
      .p (some 17) (.move (.t 106))])
    (.skip)
def c5_k9 : C :=
  .seq (.ops [3, 13, 16, 17, 19, 92, 93, 94, 99] [.p (some 98) (.move (.t 17)),
    .p (some 99) (.bin .eql .int [] (.t 98) (.c (.int .i64 0)))])
  (c5_k8)
def c5_k10 : C :=
  .seq (.ops [3, 13, 16, 17, 19, 92, 93, 94] [.p (some 96) (.iaddr 32 (.t 92) (.t 94)),
    .p (some 97) (.load true 32 (.t 96)),
    .e (some 19) (.alloc (List.replicate 32 (.d (.int .u8 0)))),
    .e .none (.store 32 (.t 19) (.t 97))])
  (c5_k9)
def c5_k11 : C :=
  .seq (.block 3 (c5_k10))
  (.ops [3, 13, 16, 17, 92, 93, 94] [.p (some 107) (.bin .add .int [] (.t 94) (.c (.int .i64 1))),
    .p (some 94) (.move (.t 107))])
def c5_k12 : C :=
  .seq (.cond (.t 95)
    (.skip)
    (.exit 2))
  (c5_k11)
def c5_l13 : C :=
  .seq (.ops [3, 13, 16, 17, 92, 93, 94, 95] [.p (some 95) (.bin .lss .int [] (.t 94) (.t 93))])
  (c5_k12)
def c5_k14 : C :=
  .block 2 (.loop [3, 13, 16, 17, 92, 93, 94] c5_l13)
def c5_k15 : C :=
  .seq (.seq (.ops [3, 13, 16, 17, 92, 93, 94] [.p (some 92) (.move (.t 13)),
    .p (some 93) (.len .slice (.t 92)),
    .p (some 94) (.move (.c (.int .i64 0)))])
  (c5_k14))
  (c5_k7)
def c5_k16 : C :=
  .seq (.ops [3, 13, 16, 17] [.p (some 91) (.bslice 84 0 33 [(.int .u32 0), (.int .u8 0), (.int .u8 0), (.int .u8 0), (.int .u8 0), (.int .u8 0), (.int .u8 0), (.int .u8 0), (.int .u8 0), (.int .u8 0), (.int .u8 0), (.int .u8 0), (.int .u8 0), (.int .u8 0), (.int .u8 0), (.int .u8 0), (.int .u8 0), (.int .u8 0), (.int .u8 0), (.int .u8 0), (.int .u8 0), (.int .u8 0), (.int .u8 0), (.int .u8 0), (.int .u8 0), (.int .u8 0), (.int .u8 0), (.int .u8 0), (.int .u8 0), (.int .u8 0), (.int .u8 0), (.int .u8 0), (.int .u8 0)] []),
    .p (some 16) (.move (.t 91)),
    .p (some 17) (.move (.c (.int .i64 0)))])
  (c5_k15)
def c5_k17 : C :=
  .ops [3, 13, 79, 80, 81] [.p (some 85) (.move (.t 13)),
    .p (some 86) (.faddr 1 (.t 15)),
    .p (some 87) (.load true 32 (.t 86)),
    .p (some 88) (.bslice 39 1 32 (List.replicate 32 (.int .u8 0)) [(0, (.t 87))]),
    .e (some 89) (.append 39 32 32 (.t 85) (.t 88)),
    .p (some 13) (.move (.t 89))]
def c5_k18 : C :=
  .seq (.block 1 (.seq (.ops [3, 13, 15, 79, 80, 81] [.p (some 83) (.iaddr 33 (.t 79) (.t 81)),
    .p (some 84) (.load true 33 (.t 83)),
    .e (some 15) (.alloc [(.d (.bool false)), (.d (.int .u8 0)), (.d (.int .u8 0)), (.d (.int .u8 0)), (.d (.int .u8 0)), (.d (.int .u8 0)), (.d (.int .u8 0)), (.d (.int .u8 0)), (.d (.int .u8 0)), (.d (.int .u8 0)), (.d (.int .u8 0)), (.d (.int .u8 0)), (.d (.int .u8 0)), (.d (.int .u8 0)), (.d (.int .u8 0)), (.d (.int .u8 0)), (.d (.int .u8 0)), (.d (.int .u8 0)), (.d (.int .u8 0)), (.d (.int .u8 0)), (.d (.int .u8 0)), (.d (.int .u8 0)), (.d (.int .u8 0)), (.d (.int .u8 0)), (.d (.int .u8 0)), (.d (.int .u8 0)), (.d (.int .u8 0)), (.d (.int .u8 0)), (.d (.int .u8 0)), (.d (.int .u8 0)), (.d (.int .u8 0)), (.d (.int .u8 0)), (.d (.int .u8 0))]),
    .e .none (.store 33 (.t 15) (.t 84))])
  (c5_k17)))
  (.ops [3, 13, 79, 80, 81] [.p (some 90) (.bin .add .int [] (.t 81) (.c (.int .i64 1))),
    .p (some 81) (.move (.t 90))])
def c5_k19 : C :=
  .seq (.cond (.t 82)
    (.skip)
    (.exit 0))
  (c5_k18)
def c5_l20 : C :=
  .seq (.ops [3, 13, 79, 80, 81, 82] [.p (some 82) (.bin .lss .int [] (.t 81) (.t 80))])
  (c5_k19)
def c5_k21 : C :=
  .block 0 (.loop [3, 13, 79, 80, 81] c5_l20)
def c5_k22 : C :=
  .seq (.seq (.ops [3, 13, 79, 80, 81] [.p (some 79) (.move (.t 1)),
    .p (some 80) (.len .slice (.t 79)),
    .p (some 81) (.move (.c (.int .i64 0)))])
  (c5_k21))
  (c5_k16)
def c5_k23 : C :=
  .seq (.ops [1, 3, 13] [.p (some 78) (.bslice 39 0 32 (List.replicate 32 (.int .u8 0)) []),
    .p (some 13) (.move (.t 78))])
  (c5_k22)
def c5_k24 : C :=
  .cond (.t 77)
    (.seq (.ops [6] [.p (some 6) (.move (.c (.bool false)))])
    (.ret))
    (.skip)
def c5_k25 : C :=
  .seq (.seq (.ops [1, 3, 77] [.p (some 64) (.move (.t 10)),
    .p (some 65) (.una .not (.t 64)),
    .p (some 66) (.move (.t 65)),
    .when 66 false [.p (some 67) (.move (.t 7)),
      .p (some 68) (.move (.t 9)),
      .call (some 69) 25 [(.t 67), (.t 68)],
      .p (some 70) (.una .not (.t 69))],
    .p (some 71) (.pick (.t 66) (.c (.bool true)) (.t 70)),
    .p (some 72) (.move (.t 71)),
    .when 72 false [.p (some 73) (.move (.t 11)),
      .p (some 74) (.move (.t 12)),
      .call (some 75) 25 [(.t 73), (.t 74)],
      .p (some 76) (.una .not (.t 75))],
    .p (some 77) (.pick (.t 72) (.c (.bool true)) (.t 76))])
  (c5_k24))
  (c5_k23)
def c5_k26 : C :=
  .seq (.ops [1, 3, 7, 9, 10, 11, 12] [.p (some 57) (.move (.t 11)),
    .p (some 58) (.move (.t 9)),
    .p (some 59) (.load true 2 (.t 3)),
    .p (some 60) (.move (.t 2)),
    .call (some 61) 9 [(.t 57), (.t 58), (.t 59), (.t 60)],
    .p (some 56) (.move (.t 61)),
    .p (some 62) (.extract (.t 56) 0),
    .p (some 63) (.extract (.t 56) 1),
    .p (some 12) (.move (.t 62)),
    .p (some 10) (.move (.t 63))])
  (c5_k25)
def c5_k27 : C :=
  .seq (.ops [1, 2, 3, 7, 9, 11] [.p (some 54) (.move (.t 7)),
    .call (some 55) 24 [(.t 54)],
    .p (some 11) (.move (.t 55))])
  (c5_k26)
def c5_k28 : C :=
  .cond (.t 53)
    (.seq (.ops [6] [.p (some 6) (.move (.c (.bool false)))])
    (.ret))
    (.skip)
def c5_k29 : C :=
  .seq (.seq (.ops [1, 2, 3, 7, 9, 53] [.p (some 52) (.move (.t 10)),
    .p (some 53) (.una .not (.t 52))])
  (c5_k28))
  (c5_k27)
def c5_k30 : C :=
  .seq (.ops [1, 2, 3, 7, 9, 10] [.p (some 46) (.move (.t 7)),
    .p (some 47) (.load true 2 (.t 3)),
    .p (some 48) (.move (.t 1)),
    .call (some 49) 9 [(.t 46), (.c .nils), (.t 47), (.t 48)],
    .p (some 45) (.move (.t 49)),
    .p (some 50) (.extract (.t 45) 0),
    .p (some 51) (.extract (.t 45) 1),
    .p (some 9) (.move (.t 50)),
    .p (some 10) (.move (.t 51))])
  (c5_k29)
def c5_k31 : C :=
  .cond (.t 44)
    (.seq (.ops [6] [.p (some 6) (.move (.c (.bool false)))])
    (.ret))
    (.skip)
def c5_k32 : C :=
  .seq (.seq (.ops [1, 2, 3, 7, 44] [.p (some 43) (.move (.t 8)),
    .p (some 44) (.bin .neq .iface [] (.t 43) (.c .nili))])
  (c5_k31))
  (c5_k30)
def c5_k33 : C :=
  .seq (.ops [1, 2, 3, 7, 8] [.p (some 39) (.load true 2 (.t 3)),
    .call (some 40) 7 [(.t 39), (.c .nils)],
    .p (some 38) (.move (.t 40)),
    .p (some 41) (.extract (.t 38) 0),
    .p (some 42) (.extract (.t 38) 1),
    .p (some 7) (.move (.t 41)),
    .p (some 8) (.move (.t 42))])
  (c5_k32)
def c5_k34 : C :=
  .cond (.t 37)
    (.seq (.ops [6] [.p (some 6) (.move (.c (.bool true)))])
    (.ret))
    (.skip)
def c5_k35 : C :=
  .seq (.seq (.ops [1, 2, 3, 37] [.p (some 30) (.move (.t 1)),
    .p (some 31) (.len .slice (.t 30)),
    .p (some 32) (.bin .gtr .int [] (.t 31) (.c (.int .i64 30))),
    .p (some 33) (.move (.t 32)),
    .when 33 false [.p (some 34) (.move (.t 2)),
      .p (some 35) (.len .slice (.t 34)),
      .p (some 36) (.bin .gtr .int [] (.t 35) (.c (.int .i64 30)))],
    .p (some 37) (.pick (.t 33) (.c (.bool true)) (.t 36))])
  (c5_k34))
  (c5_k33)
def c5_k36 : C :=
  .cond (.t 29)
    (.seq (.ops [6] [.p (some 6) (.move (.c (.bool false)))])
    (.ret))
    (.skip)
def c5_k37 : C :=
  .seq (.seq (.ops [1, 2, 3, 29] [.call (some 28) 6 [],
    .p (some 29) (.una .not (.t 28))])
  (c5_k36))
  (c5_k35)
def c5 : FnC := ⟨3, 209, [.tmp 6],
  .seq (.ops [1, 2, 3] [.e (some 3) (.box (.t 0)),
    .p (some 6) (.move (.c (.bool false)))])
  (c5_k37),
  []⟩

/-! 24: (*gossamer/short.Index).Copy -/
def c24_k0 : C :=
  .seq (.drw [2] 1 [⟨.none, .p (some 5) (.move (.t 0)), [], 0⟩,
    ⟨.none, .p (some 6) (.nilCheck (.t 5)), [0], 0⟩,
    ⟨.none, .p (some 7) (.faddr 0 (.t 6)), [1], 0⟩,
    ⟨.none, .p (some 8) (.load true 2 (.t 7)), [2], 0⟩,
    ⟨.none, .p (some 9) (.move (.t 0)), [], 0⟩,
    ⟨.none, .p (some 10) (.nilCheck (.t 9)), [4], 0⟩,
    ⟨.none, .p (some 11) (.faddr 2 (.t 10)), [5], 0⟩,
    ⟨.none, .p (some 12) (.load false 1 (.t 11)), [6], 0⟩,
    ⟨.none, .call (some 13) 40 [(.t 12)], [7], 0⟩,
    ⟨.none, .p (some 14) (.build [(.int .u64 0), (.int .u64 0), .nilm] [(0, 2, (.t 8)), (2, 1, (.t 13))]), [3, 8], 0⟩,
    ⟨.none, .e (some 15) (.box (.t 14)), [9], 0⟩,
    ⟨.none, .p (some 2) (.move (.t 15)), [10, 8, 0, 1, 2, 3, 4, 5, 6, 7, 8, 9, 10], 1⟩])
  (.ret)
def c24_k1 : C :=
  .cond (.t 4)
    (.seq (.ops [2] [.p (some 2) (.move (.c .nilp))])
    (.ret))
    (.skip)
def c24_k2 : C :=
  .seq (.seq (.ops [0, 4] [.p (some 3) (.move (.t 0)),
    .p (some 4) (.bin .eql .ptr [] (.t 3) (.c .nilp))])
  (c24_k1))
  (c24_k0)
def c24 : FnC := ⟨1, 16, [.tmp 2],
  .seq (.ops [0] [.p (some 2) (.move (.c .nilp))])
  (c24_k2),
  []⟩

/-! 40: maps.Clone[map[uint32]gossamer/api.Hash,uint32,gossamer/api.Hash] -/
def c40_k0 : C :=
  .seq (.ops [2] [.p (some 5) (.move (.t 0)),
    .p (some 6) (.mkif 79 (.t 5)),
    .e (some 7) (.cloneMap (.t 6)),
    .p (some 8) (.assert 79 (.c .nilm) false (.t 7)),
    .p (some 2) (.move (.t 8))])
  (.ret)
def c40_k1 : C :=
  .cond (.t 4)
    (.seq (.ops [2] [.p (some 2) (.move (.c .nilm))])
    (.ret))
    (.skip)
def c40_k2 : C :=
  .seq (.seq (.ops [0, 4] [.p (some 3) (.move (.t 0)),
    .p (some 4) (.bin .eql .map [] (.t 3) (.c .nilm))])
  (c40_k1))
  (c40_k0)
def c40 : FnC := ⟨1, 9, [.tmp 2],
  .seq (.ops [0] [.p (some 2) (.move (.c .nilm))])
  (c40_k2),
  []⟩


def CompOk (k : Nat) (c : FnC) : Prop := ∃ fn code, Try.prog.funcs[k]? = some fn ∧ fn.body = some code ∧ (fn.name == "runtime.NumGoroutine") = false ∧ comp Try.prog fn.ntmps code = some (erase c.body) ∧ compRes Try.prog fn.results.toList = some c.res ∧ c.nparams ≤ fn.ntmps ∧ fn.ntmps ≤ GB
theorem comp3 : CompOk 3 c3 := ⟨_, _, Try.func3, rfl, by kernel_rfl, by kernel_rfl, by kernel_rfl, by decide, by decide⟩
theorem comp6 : CompOk 6 c6 := ⟨_, _, Try.func6, rfl, by kernel_rfl, by kernel_rfl, by kernel_rfl, by decide, by decide⟩
theorem comp7 : CompOk 7 c7 := ⟨_, _, Try.func7, rfl, by kernel_rfl, by kernel_rfl, by kernel_rfl, by decide, by decide⟩
theorem comp28 : CompOk 28 c28 := ⟨_, _, Try.func28, rfl, by kernel_rfl, by kernel_rfl, by kernel_rfl, by decide, by decide⟩
theorem comp35 : CompOk 35 c35 := ⟨_, _, Try.func35, rfl, by kernel_rfl, by kernel_rfl, by kernel_rfl, by decide, by decide⟩
theorem comp33 : CompOk 33 c33 := ⟨_, _, Try.func33, rfl, by kernel_rfl, by kernel_rfl, by kernel_rfl, by decide, by decide⟩
theorem comp44 : CompOk 44 c44 := ⟨_, _, Try.func44, rfl, by kernel_rfl, by kernel_rfl, by kernel_rfl, by decide, by decide⟩
theorem comp53 : CompOk 53 c53 := ⟨_, _, Try.func53, rfl, by kernel_rfl, by kernel_rfl, by kernel_rfl, by decide, by decide⟩
theorem comp56 : CompOk 56 c56 := ⟨_, _, Try.func56, rfl, by kernel_rfl, by kernel_rfl, by kernel_rfl, by decide, by decide⟩
theorem comp64 : CompOk 64 c64 := ⟨_, _, Try.func64, rfl, by kernel_rfl, by kernel_rfl, by kernel_rfl, by decide, by decide⟩
theorem comp54 : CompOk 54 c54 := ⟨_, _, Try.func54, rfl, by kernel_rfl, by kernel_rfl, by kernel_rfl, by decide, by decide⟩
theorem comp65 : CompOk 65 c65 := ⟨_, _, Try.func65, rfl, by kernel_rfl, by kernel_rfl, by kernel_rfl, by decide, by decide⟩
theorem comp55 : CompOk 55 c55 := ⟨_, _, Try.func55, rfl, by kernel_rfl, by kernel_rfl, by kernel_rfl, by decide, by decide⟩
theorem comp57 : CompOk 57 c57 := ⟨_, _, Try.func57, rfl, by kernel_rfl, by kernel_rfl, by kernel_rfl, by decide, by decide⟩
theorem comp66 : CompOk 66 c66 := ⟨_, _, Try.func66, rfl, by kernel_rfl, by kernel_rfl, by kernel_rfl, by decide, by decide⟩
theorem comp15 : CompOk 15 c15 := ⟨_, _, Try.func15, rfl, by kernel_rfl, by kernel_rfl, by kernel_rfl, by decide, by decide⟩
theorem comp13 : CompOk 13 c13 := ⟨_, _, Try.func13, rfl, by kernel_rfl, by kernel_rfl, by kernel_rfl, by decide, by decide⟩
theorem comp36 : CompOk 36 c36 := ⟨_, _, Try.func36, rfl, by kernel_rfl, by kernel_rfl, by kernel_rfl, by decide, by decide⟩
theorem comp45 : CompOk 45 c45 := ⟨_, _, Try.func45, rfl, by kernel_rfl, by kernel_rfl, by kernel_rfl, by decide, by decide⟩
theorem comp8 : CompOk 8 c8 := ⟨_, _, Try.func8, rfl, by kernel_rfl, by kernel_rfl, by kernel_rfl, by decide, by decide⟩
theorem comp9 : CompOk 9 c9 := ⟨_, _, Try.func9, rfl, by kernel_rfl, by kernel_rfl, by kernel_rfl, by decide, by decide⟩
theorem comp34 : CompOk 34 c34 := ⟨_, _, Try.func34, rfl, by kernel_rfl, by kernel_rfl, by kernel_rfl, by decide, by decide⟩
theorem comp29 : CompOk 29 c29 := ⟨_, _, Try.func29, rfl, by kernel_rfl, by kernel_rfl, by kernel_rfl, by decide, by decide⟩
theorem comp11 : CompOk 11 c11 := ⟨_, _, Try.func11, rfl, by kernel_rfl, by kernel_rfl, by kernel_rfl, by decide, by decide⟩
theorem comp26 : CompOk 26 c26 := ⟨_, _, Try.func26, rfl, by kernel_rfl, by kernel_rfl, by kernel_rfl, by decide, by decide⟩
theorem comp41 : CompOk 41 c41 := ⟨_, _, Try.func41, rfl, by kernel_rfl, by kernel_rfl, by kernel_rfl, by decide, by decide⟩
theorem comp49 : CompOk 49 c49 := ⟨_, _, Try.func49, rfl, by kernel_rfl, by kernel_rfl, by kernel_rfl, by decide, by decide⟩
theorem comp60 : CompOk 60 c60 := ⟨_, _, Try.func60, rfl, by kernel_rfl, by kernel_rfl, by kernel_rfl, by decide, by decide⟩
theorem comp70 : CompOk 70 c70 := ⟨_, _, Try.func70, rfl, by kernel_rfl, by kernel_rfl, by kernel_rfl, by decide, by decide⟩
theorem comp27 : CompOk 27 c27 := ⟨_, _, Try.func27, rfl, by kernel_rfl, by kernel_rfl, by kernel_rfl, by decide, by decide⟩
theorem comp25 : CompOk 25 c25 := ⟨_, _, Try.func25, rfl, by kernel_rfl, by kernel_rfl, by kernel_rfl, by decide, by decide⟩
theorem comp31 : CompOk 31 c31 := ⟨_, _, Try.func31, rfl, by kernel_rfl, by kernel_rfl, by kernel_rfl, by decide, by decide⟩
theorem comp43 : CompOk 43 c43 := ⟨_, _, Try.func43, rfl, by kernel_rfl, by kernel_rfl, by kernel_rfl, by decide, by decide⟩
theorem comp52 : CompOk 52 c52 := ⟨_, _, Try.func52, rfl, by kernel_rfl, by kernel_rfl, by kernel_rfl, by decide, by decide⟩
theorem comp42 : CompOk 42 c42 := ⟨_, _, Try.func42, rfl, by kernel_rfl, by kernel_rfl, by kernel_rfl, by decide, by decide⟩
theorem comp50 : CompOk 50 c50 := ⟨_, _, Try.func50, rfl, by kernel_rfl, by kernel_rfl, by kernel_rfl, by decide, by decide⟩
theorem comp61 : CompOk 61 c61 := ⟨_, _, Try.func61, rfl, by kernel_rfl, by kernel_rfl, by kernel_rfl, by decide, by decide⟩
theorem comp51 : CompOk 51 c51 := ⟨_, _, Try.func51, rfl, by kernel_rfl, by kernel_rfl, by kernel_rfl, by decide, by decide⟩
theorem comp63 : CompOk 63 c63 := ⟨_, _, Try.func63, rfl, by kernel_rfl, by kernel_rfl, by kernel_rfl, by decide, by decide⟩
theorem comp80 : CompOk 80 c80 := ⟨_, _, Try.func80, rfl, by kernel_rfl, by kernel_rfl, by kernel_rfl, by decide, by decide⟩
theorem comp81 : CompOk 81 c81 := ⟨_, _, Try.func81, rfl, by kernel_rfl, by kernel_rfl, by kernel_rfl, by decide, by decide⟩
theorem comp62 : CompOk 62 c62 := ⟨_, _, Try.func62, rfl, by kernel_rfl, by kernel_rfl, by kernel_rfl, by decide, by decide⟩
theorem comp71 : CompOk 71 c71 := ⟨_, _, Try.func71, rfl, by kernel_rfl, by kernel_rfl, by kernel_rfl, by decide, by decide⟩
theorem comp77 : CompOk 77 c77 := ⟨_, _, Try.func77, rfl, by kernel_rfl, by kernel_rfl, by kernel_rfl, by decide, by decide⟩
theorem comp88 : CompOk 88 c88 := ⟨_, _, Try.func88, rfl, by kernel_rfl, by kernel_rfl, by kernel_rfl, by decide, by decide⟩
theorem comp72 : CompOk 72 c72 := ⟨_, _, Try.func72, rfl, by kernel_rfl, by kernel_rfl, by kernel_rfl, by decide, by decide⟩
theorem comp83 : CompOk 83 c83 := ⟨_, _, Try.func83, rfl, by kernel_rfl, by kernel_rfl, by kernel_rfl, by decide, by decide⟩
theorem comp73 : CompOk 73 c73 := ⟨_, _, Try.func73, rfl, by kernel_rfl, by kernel_rfl, by kernel_rfl, by decide, by decide⟩
theorem comp84 : CompOk 84 c84 := ⟨_, _, Try.func84, rfl, by kernel_rfl, by kernel_rfl, by kernel_rfl, by decide, by decide⟩
theorem comp85 : CompOk 85 c85 := ⟨_, _, Try.func85, rfl, by kernel_rfl, by kernel_rfl, by kernel_rfl, by decide, by decide⟩
theorem comp74 : CompOk 74 c74 := ⟨_, _, Try.func74, rfl, by kernel_rfl, by kernel_rfl, by kernel_rfl, by decide, by decide⟩
theorem comp86 : CompOk 86 c86 := ⟨_, _, Try.func86, rfl, by kernel_rfl, by kernel_rfl, by kernel_rfl, by decide, by decide⟩
theorem comp87 : CompOk 87 c87 := ⟨_, _, Try.func87, rfl, by kernel_rfl, by kernel_rfl, by kernel_rfl, by decide, by decide⟩
theorem comp90 : CompOk 90 c90 := ⟨_, _, Try.func90, rfl, by kernel_rfl, by kernel_rfl, by kernel_rfl, by decide, by decide⟩
theorem comp75 : CompOk 75 c75 := ⟨_, _, Try.func75, rfl, by kernel_rfl, by kernel_rfl, by kernel_rfl, by decide, by decide⟩
theorem comp76 : CompOk 76 c76 := ⟨_, _, Try.func76, rfl, by kernel_rfl, by kernel_rfl, by kernel_rfl, by decide, by decide⟩
theorem comp78 : CompOk 78 c78 := ⟨_, _, Try.func78, rfl, by kernel_rfl, by kernel_rfl, by kernel_rfl, by decide, by decide⟩
theorem comp79 : CompOk 79 c79 := ⟨_, _, Try.func79, rfl, by kernel_rfl, by kernel_rfl, by kernel_rfl, by decide, by decide⟩
theorem comp12 : CompOk 12 c12 := ⟨_, _, Try.func12, rfl, by kernel_rfl, by kernel_rfl, by kernel_rfl, by decide, by decide⟩
theorem comp18 : CompOk 18 c18 := ⟨_, _, Try.func18, rfl, by kernel_rfl, by kernel_rfl, by kernel_rfl, by decide, by decide⟩
theorem comp32 : CompOk 32 c32 := ⟨_, _, Try.func32, rfl, by kernel_rfl, by kernel_rfl, by kernel_rfl, by decide, by decide⟩
theorem comp10 : CompOk 10 c10 := ⟨_, _, Try.func10, rfl, by kernel_rfl, by kernel_rfl, by kernel_rfl, by decide, by decide⟩
theorem comp17 : CompOk 17 c17 := ⟨_, _, Try.func17, rfl, by kernel_rfl, by kernel_rfl, by kernel_rfl, by decide, by decide⟩
theorem comp30 : CompOk 30 c30 := ⟨_, _, Try.func30, rfl, by kernel_rfl, by kernel_rfl, by kernel_rfl, by decide, by decide⟩
theorem comp14 : CompOk 14 c14 := ⟨_, _, Try.func14, rfl, by kernel_rfl, by kernel_rfl, by kernel_rfl, by decide, by decide⟩
theorem comp16 : CompOk 16 c16 := ⟨_, _, Try.func16, rfl, by kernel_rfl, by kernel_rfl, by kernel_rfl, by decide, by decide⟩
theorem comp4 : CompOk 4 c4 := ⟨_, _, Try.func4, rfl, by kernel_rfl, by kernel_rfl, by kernel_rfl, by decide, by decide⟩
theorem comp19 : CompOk 19 c19 := ⟨_, _, Try.func19, rfl, by kernel_rfl, by kernel_rfl, by kernel_rfl, by decide, by decide⟩
theorem comp37 : CompOk 37 c37 := ⟨_, _, Try.func37, rfl, by kernel_rfl, by kernel_rfl, by kernel_rfl, by decide, by decide⟩
theorem comp46 : CompOk 46 c46 := ⟨_, _, Try.func46, rfl, by kernel_rfl, by kernel_rfl, by kernel_rfl, by decide, by decide⟩
theorem comp58 : CompOk 58 c58 := ⟨_, _, Try.func58, rfl, by kernel_rfl, by kernel_rfl, by kernel_rfl, by decide, by decide⟩
theorem comp68 : CompOk 68 c68 := ⟨_, _, Try.func68, rfl, by kernel_rfl, by kernel_rfl, by kernel_rfl, by decide, by decide⟩
theorem comp82 : CompOk 82 c82 := ⟨_, _, Try.func82, rfl, by kernel_rfl, by kernel_rfl, by kernel_rfl, by decide, by decide⟩
theorem comp89 : CompOk 89 c89 := ⟨_, _, Try.func89, rfl, by kernel_rfl, by kernel_rfl, by kernel_rfl, by decide, by decide⟩
theorem comp67 : CompOk 67 c67 := ⟨_, _, Try.func67, rfl, by kernel_rfl, by kernel_rfl, by kernel_rfl, by decide, by decide⟩
theorem comp69 : CompOk 69 c69 := ⟨_, _, Try.func69, rfl, by kernel_rfl, by kernel_rfl, by kernel_rfl, by decide, by decide⟩
theorem comp20 : CompOk 20 c20 := ⟨_, _, Try.func20, rfl, by kernel_rfl, by kernel_rfl, by kernel_rfl, by decide, by decide⟩
theorem comp21 : CompOk 21 c21 := ⟨_, _, Try.func21, rfl, by kernel_rfl, by kernel_rfl, by kernel_rfl, by decide, by decide⟩
theorem comp38 : CompOk 38 c38 := ⟨_, _, Try.func38, rfl, by kernel_rfl, by kernel_rfl, by kernel_rfl, by decide, by decide⟩
theorem comp23 : CompOk 23 c23 := ⟨_, _, Try.func23, rfl, by kernel_rfl, by kernel_rfl, by kernel_rfl, by decide, by decide⟩
theorem comp39 : CompOk 39 c39 := ⟨_, _, Try.func39, rfl, by kernel_rfl, by kernel_rfl, by kernel_rfl, by decide, by decide⟩
theorem comp47 : CompOk 47 c47 := ⟨_, _, Try.func47, rfl, by kernel_rfl, by kernel_rfl, by kernel_rfl, by decide, by decide⟩
theorem comp59 : CompOk 59 c59 := ⟨_, _, Try.func59, rfl, by kernel_rfl, by kernel_rfl, by kernel_rfl, by decide, by decide⟩
theorem comp22 : CompOk 22 c22 := ⟨_, _, Try.func22, rfl, by kernel_rfl, by kernel_rfl, by kernel_rfl, by decide, by decide⟩
theorem comp5 : CompOk 5 c5 := ⟨_, _, Try.func5, rfl, by kernel_rfl, by kernel_rfl, by kernel_rfl, by decide, by decide⟩
theorem comp24 : CompOk 24 c24 := ⟨_, _, Try.func24, rfl, by kernel_rfl, by kernel_rfl, by kernel_rfl, by decide, by decide⟩
theorem comp40 : CompOk 40 c40 := ⟨_, _, Try.func40, rfl, by kernel_rfl, by kernel_rfl, by kernel_rfl, by decide, by decide⟩
def globT : List (Nat × List D) := []
def Γ : Nat → Option FnC
  | 3 => some c3
  | 4 => some c4
  | 5 => some c5
  | 6 => some c6
  | 7 => some c7
  | 8 => some c8
  | 9 => some c9
  | 10 => some c10
  | 11 => some c11
  | 12 => some c12
  | 13 => some c13
  | 14 => some c14
  | 15 => some c15
  | 16 => some c16
  | 17 => some c17
  | 18 => some c18
  | 19 => some c19
  | 20 => some c20
  | 21 => some c21
  | 22 => some c22
  | 23 => some c23
  | 24 => some c24
  | 25 => some c25
  | 26 => some c26
  | 27 => some c27
  | 28 => some c28
  | 29 => some c29
  | 30 => some c30
  | 31 => some c31
  | 32 => some c32
  | 33 => some c33
  | 34 => some c34
  | 35 => some c35
  | 36 => some c36
  | 37 => some c37
  | 38 => some c38
  | 39 => some c39
  | 40 => some c40
  | 41 => some c41
  | 42 => some c42
  | 43 => some c43
  | 44 => some c44
  | 45 => some c45
  | 46 => some c46
  | 47 => some c47
  | 49 => some c49
  | 50 => some c50
  | 51 => some c51
  | 52 => some c52
  | 53 => some c53
  | 54 => some c54
  | 55 => some c55
  | 56 => some c56
  | 57 => some c57
  | 58 => some c58
  | 59 => some c59
  | 60 => some c60
  | 61 => some c61
  | 62 => some c62
  | 63 => some c63
  | 64 => some c64
  | 65 => some c65
  | 66 => some c66
  | 67 => some c67
  | 68 => some c68
  | 69 => some c69
  | 70 => some c70
  | 71 => some c71
  | 72 => some c72
  | 73 => some c73
  | 74 => some c74
  | 75 => some c75
  | 76 => some c76
  | 77 => some c77
  | 78 => some c78
  | 79 => some c79
  | 80 => some c80
  | 81 => some c81
  | 82 => some c82
  | 83 => some c83
  | 84 => some c84
  | 85 => some c85
  | 86 => some c86
  | 87 => some c87
  | 88 => some c88
  | 89 => some c89
  | 90 => some c90
  | _ => none
def cx : Cx := { mode := fun _ => .val, globs := globT }
theorem CompOk.fits {k : Nat} {c : FnC} (h : CompOk k c) (hg : ∀ x ∈ c.globs, x ∈ globT) : Nonempty (Fits Try.prog cx.globs k c) := by
  obtain ⟨fn, code, h1, h2, h3, h4, h5, h6, h7⟩ := h
  exact ⟨⟨fn, code, h1, h2, h3, h4, h5, h6, h7, hg⟩⟩
theorem hΓ : ∀ (f : Nat) (fc : FnC), Γ f = some fc → Nonempty (Fits Try.prog cx.globs f fc) := by
  intro f fc h
  unfold Γ at h
  split at h
  case h_88 => cases h
  all_goals (cases h)
  · exact comp3.fits fun x hx => by cases hx
  · exact comp4.fits fun x hx => by cases hx
  · exact comp5.fits fun x hx => by cases hx
  · exact comp6.fits fun x hx => by cases hx
  · exact comp7.fits fun x hx => by cases hx
  · exact comp8.fits fun x hx => by cases hx
  · exact comp9.fits fun x hx => by cases hx
  · exact comp10.fits fun x hx => by cases hx
  · exact comp11.fits fun x hx => by cases hx
  · exact comp12.fits fun x hx => by cases hx
  · exact comp13.fits fun x hx => by cases hx
  · exact comp14.fits fun x hx => by cases hx
  · exact comp15.fits fun x hx => by cases hx
  · exact comp16.fits fun x hx => by cases hx
  · exact comp17.fits fun x hx => by cases hx
  · exact comp18.fits fun x hx => by cases hx
  · exact comp19.fits fun x hx => by cases hx
  · exact comp20.fits fun x hx => by cases hx
  · exact comp21.fits fun x hx => by cases hx
  · exact comp22.fits fun x hx => by cases hx
  · exact comp23.fits fun x hx => by cases hx
  · exact comp24.fits fun x hx => by cases hx
  · exact comp25.fits fun x hx => by cases hx
  · exact comp26.fits fun x hx => by cases hx
  · exact comp27.fits fun x hx => by cases hx
  · exact comp28.fits fun x hx => by cases hx
  · exact comp29.fits fun x hx => by cases hx
  · exact comp30.fits fun x hx => by cases hx
  · exact comp31.fits fun x hx => by cases hx
  · exact comp32.fits fun x hx => by cases hx
  · exact comp33.fits fun x hx => by cases hx
  · exact comp34.fits fun x hx => by cases hx
  · exact comp35.fits fun x hx => by cases hx
  · exact comp36.fits fun x hx => by cases hx
  · exact comp37.fits fun x hx => by cases hx
  · exact comp38.fits fun x hx => by cases hx
  · exact comp39.fits fun x hx => by cases hx
  · exact comp40.fits fun x hx => by cases hx
  · exact comp41.fits fun x hx => by cases hx
  · exact comp42.fits fun x hx => by cases hx
  · exact comp43.fits fun x hx => by cases hx
  · exact comp44.fits fun x hx => by cases hx
  · exact comp45.fits fun x hx => by cases hx
  · exact comp46.fits fun x hx => by cases hx
  · exact comp47.fits fun x hx => by cases hx
  · exact comp49.fits fun x hx => by cases hx
  · exact comp50.fits fun x hx => by cases hx
  · exact comp51.fits fun x hx => by cases hx
  · exact comp52.fits fun x hx => by cases hx
  · exact comp53.fits fun x hx => by cases hx
  · exact comp54.fits fun x hx => by cases hx
  · exact comp55.fits fun x hx => by cases hx
  · exact comp56.fits fun x hx => by cases hx
  · exact comp57.fits fun x hx => by cases hx
  · exact comp58.fits fun x hx => by cases hx
  · exact comp59.fits fun x hx => by cases hx
  · exact comp60.fits fun x hx => by cases hx
  · exact comp61.fits fun x hx => by cases hx
  · exact comp62.fits fun x hx => by cases hx
  · exact comp63.fits fun x hx => by cases hx
  · exact comp64.fits fun x hx => by cases hx
  · exact comp65.fits fun x hx => by cases hx
  · exact comp66.fits fun x hx => by cases hx
  · exact comp67.fits fun x hx => by cases hx
  · exact comp68.fits fun x hx => by cases hx
  · exact comp69.fits fun x hx => by cases hx
  · exact comp70.fits fun x hx => by cases hx
  · exact comp71.fits fun x hx => by cases hx
  · exact comp72.fits fun x hx => by cases hx
  · exact comp73.fits fun x hx => by cases hx
  · exact comp74.fits fun x hx => by cases hx
  · exact comp75.fits fun x hx => by cases hx
  · exact comp76.fits fun x hx => by cases hx
  · exact comp77.fits fun x hx => by cases hx
  · exact comp78.fits fun x hx => by cases hx
  · exact comp79.fits fun x hx => by cases hx
  · exact comp80.fits fun x hx => by cases hx
  · exact comp81.fits fun x hx => by cases hx
  · exact comp82.fits fun x hx => by cases hx
  · exact comp83.fits fun x hx => by cases hx
  · exact comp84.fits fun x hx => by cases hx
  · exact comp85.fits fun x hx => by cases hx
  · exact comp86.fits fun x hx => by cases hx
  · exact comp87.fits fun x hx => by cases hx
  · exact comp88.fits fun x hx => by cases hx
  · exact comp89.fits fun x hx => by cases hx
  · exact comp90.fits fun x hx => by cases hx
end Go.Proofs.Ytmcojkkpanijjaa.T
