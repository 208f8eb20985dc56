import Derived.Test.YtjkedjjahjlmfaaFw35
import Derived.Test.YtjkedjjahjlmfaaRows
namespace Go.Proofs.Ytjkedjjahjlmfaa.T
open Go.Dn
/-! 3: gossamer/gossamerlaw31.StoryLess -/
def c3_k0 : C :=
  .seq (.ops [4] [.p (some 58) (.move (.t 11)),
    .p (some 59) (.len .slice (.t 58)),
    .p (some 60) (.move (.t 9)),
    .p (some 61) (.len .slice (.t 60)),
    .p (some 62) (.bin .eql .int [] (.t 59) (.t 61)),
    .p (some 4) (.move (.t 62))])
  (.ret)
def c3_k1 : C :=
  .cond (.t 54)
    (.seq (.ops [4] [.p (some 55) (.move (.t 11)),
      .p (some 56) (.len .slice (.t 55)),
      .p (some 57) (.bin .eql .int [] (.t 56) (.c (.int .i64 0))),
      .p (some 4) (.move (.t 57))])
    (.ret))
    (.skip)
def c3_k2 : C :=
  .seq (.seq (.ops [9, 11, 54] [.p (some 53) (.move (.t 12)),
    .p (some 54) (.bin .neq .iface [] (.t 53) (.c .nili))])
  (c3_k1))
  (c3_k0)
def c3_k3 : C :=
  .seq (.ops [9, 11, 12] [.p (some 43) (.bslice 41 0 11 [(.int .i64 0), (.int .u64 0), (.int .i64 0), (.int .i64 0), .nils, (.bool false), .nils, .nils, .nils, .nils, (.bool false)] []),
    .p (some 44) (.move (.t 5)),
    .e (some 45) (.append 41 11 168 (.t 43) (.t 44)),
    .p (some 46) (.build [(.int .i64 0), (.int .u64 0), (.int .i64 0), (.int .i64 0), .nils, (.bool false), .nils, .nils, .nils, .nils, (.bool false)] [(0, 1, (.c (.int .i64 2)))]),
    .p (some 47) (.bslice 41 1 11 [(.int .i64 0), (.int .u64 0), (.int .i64 0), (.int .i64 0), .nils, (.bool false), .nils, .nils, .nils, .nils, (.bool false)] [(0, (.t 46))]),
    .e (some 48) (.append 41 11 168 (.t 45) (.t 47)),
    .p (some 49) (.move (.t 7)),
    .call (some 50) 10 [(.t 48), (.t 49)],
    .p (some 42) (.move (.t 50)),
    .p (some 51) (.extract (.t 42) 0),
    .p (some 52) (.extract (.t 42) 1),
    .p (some 11) (.move (.t 51)),
    .p (some 12) (.move (.t 52))])
  (c3_k2)
def c3_k4 : C :=
  .cond (.t 38)
    (.seq (.ops [4] [.p (some 39) (.move (.t 9)),
      .p (some 40) (.len .slice (.t 39)),
      .p (some 41) (.bin .eql .int [] (.t 40) (.c (.int .i64 0))),
      .p (some 4) (.move (.t 41))])
    (.ret))
    (.skip)
def c3_k5 : C :=
  .seq (.seq (.ops [5, 7, 9, 38] [.p (some 37) (.move (.t 10)),
    .p (some 38) (.bin .neq .iface [] (.t 37) (.c .nili))])
  (c3_k4))
  (c3_k3)
def c3_k6 : C :=
  .seq (.ops [5, 7, 9, 10] [.p (some 32) (.move (.t 5)),
    .p (some 33) (.move (.t 7)),
    .call (some 34) 10 [(.t 32), (.t 33)],
    .p (some 31) (.move (.t 34)),
    .p (some 35) (.extract (.t 31) 0),
    .p (some 36) (.extract (.t 31) 1),
    .p (some 9) (.move (.t 35)),
    .p (some 10) (.move (.t 36))])
  (c3_k5)
def c3_k7 : C :=
  .cond (.t 30)
    (.seq (.ops [4] [.p (some 4) (.move (.c (.bool true)))])
    (.ret))
    (.skip)
def c3_k8 : C :=
  .seq (.seq (.ops [5, 7, 30] [.p (some 25) (.move (.t 6)),
    .p (some 26) (.una .not (.t 25)),
    .p (some 27) (.move (.t 26)),
    .when 27 false [.p (some 28) (.move (.t 8)),
      .p (some 29) (.una .not (.t 28))],
    .p (some 30) (.pick (.t 27) (.c (.bool true)) (.t 29))])
  (c3_k7))
  (c3_k6)
def c3_k9 : C :=
  .seq (.ops [5, 6, 7, 8, 29] [.p (some 21) (.move (.t 1)),
    .call (some 22) 9 [(.t 21)],
    .p (some 20) (.move (.t 22)),
    .p (some 23) (.extract (.t 20) 0),
    .p (some 24) (.extract (.t 20) 1),
    .p (some 7) (.move (.t 23)),
    .p (some 8) (.move (.t 24))])
  (c3_k8)
def c3_k10 : C :=
  .seq (.ops [1, 5, 6, 29] [.p (some 16) (.move (.t 0)),
    .call (some 17) 9 [(.t 16)],
    .p (some 15) (.move (.t 17)),
    .p (some 18) (.extract (.t 15) 0),
    .p (some 19) (.extract (.t 15) 1),
    .p (some 5) (.move (.t 18)),
    .p (some 6) (.move (.t 19))])
  (c3_k9)
def c3_k11 : C :=
  .cond (.t 14)
    (.seq (.ops [4] [.p (some 4) (.move (.c (.bool false)))])
    (.ret))
    (.skip)
def c3_k12 : C :=
  .seq (.seq (.ops [0, 1, 14, 29] [.call (some 13) 8 [],
    .p (some 14) (.una .not (.t 13))])
  (c3_k11))
  (c3_k10)
def c3 : FnC := ⟨2, 63, [.tmp 4],
  .seq (.ops [0, 1, 29] [.p (some 4) (.move (.c (.bool false)))])
  (c3_k12)⟩

/-! 8: gossamer/gossamerlaw31.alive -/
def c8_k0 : C :=
  .seq (.ops [0] [.p (some 14) (.move (.t 2)),
    .p (some 15) (.bin .eql .iface [] (.t 14) (.c .nili)),
    .p (some 16) (.move (.t 15)),
    .when 16 true [.p (some 17) (.move (.t 1)),
      .p (some 18) (.len .slice (.t 17)),
      .p (some 19) (.bin .eql .int [] (.t 18) (.c (.int .i64 1)))],
    .p (some 20) (.pick (.t 16) (.t 19) (.c (.bool false))),
    .p (some 21) (.move (.t 20)),
    .when 21 true [.p (some 22) (.move (.t 1)),
      .p (some 23) (.iaddr 6 (.t 22) (.c (.int .i64 0))),
      .p (some 24) (.load true 6 (.t 23)),
      .p (some 25) (.build [(.int .i64 0), (.int .i64 0), (.int .i64 0), (.bool false), (.bool false), (.int .i64 0)] [(0, 1, (.c (.int .i64 3))), (2, 1, (.c (.int .i64 2))), (4, 1, (.c (.bool true))), (5, 1, (.c (.int .i64 1)))]),
      .p (some 26) (.bin .eql .flat ([(.int .i64), (.int .i64), (.int .i64)] ++ [.bool, .bool] ++ [(.int .i64)]) (.t 24) (.t 25))],
    .p (some 27) (.pick (.t 21) (.t 26) (.c (.bool false))),
    .p (some 0) (.move (.t 27))])
  (.ret)
def c8_k1 : C :=
  .seq (.ops [1, 2, 19, 26] [.p (some 4) (.build [(.int .i64 0), (.int .u64 0), (.int .i64 0), (.int .i64 0), .nils, (.bool false), .nils, .nils, .nils, .nils, (.bool false)] [(0, 1, (.c (.int .i64 2))), (2, 1, (.c (.int .i64 3)))]),
    .p (some 5) (.bslice 84 1 1 [(.int .u32 0)] [(0, (.c (.int .u32 9)))]),
    .p (some 6) (.build [(.int .i64 0), (.int .u64 0), (.int .i64 0), (.int .i64 0), .nils, (.bool false), .nils, .nils, .nils, .nils, (.bool false)] [(0, 1, (.c (.int .i64 5))), (5, 1, (.c (.bool true))), (6, 1, (.t 5))]),
    .p (some 7) (.bslice 41 2 11 [(.int .i64 0), (.int .u64 0), (.int .i64 0), (.int .i64 0), .nils, (.bool false), .nils, .nils, .nils, .nils, (.bool false)] [(0, (.t 4)), (1, (.t 6))]),
    .e (some 8) (.makeSlice 5 1 1 [(.int .u8 0)] (.c (.int .i64 8)) (.c (.int .i64 8))),
    .p (some 9) (.build [(.int .i64 0), (.int .u64 0), (.int .i64 0), (.int .i64 0), .nils, (.bool false), .nils, .nils, .nils, .nils, (.bool false)] [(0, 1, (.c (.int .i64 3))), (4, 1, (.t 8))]),
    .p (some 10) (.bslice 41 1 11 [(.int .i64 0), (.int .u64 0), (.int .i64 0), (.int .i64 0), .nils, (.bool false), .nils, .nils, .nils, .nils, (.bool false)] [(0, (.t 9))]),
    .call (some 11) 10 [(.t 7), (.t 10)],
    .p (some 3) (.move (.t 11)),
    .p (some 12) (.extract (.t 3) 0),
    .p (some 13) (.extract (.t 3) 1),
    .p (some 1) (.move (.t 12)),
    .p (some 2) (.move (.t 13))])
  (c8_k0)
def c8 : FnC := ⟨0, 28, [.tmp 0],
  .seq (.ops [19, 26] [.p (some 0) (.move (.c (.bool false)))])
  (c8_k1)⟩

/-! 10: gossamer/story.Rounds -/
def c10_k0 : C :=
  .seq (.ops [4, 5] [.p (some 57) (.move (.t 6)),
    .p (some 58) (.nilCheck (.t 57)),
    .p (some 59) (.faddr 8 (.t 58)),
    .p (some 60) (.load false 1 (.t 59)),
    .p (some 4) (.move (.t 60)),
    .p (some 5) (.move (.c .nili))])
  (.ret)
def c10_k1 : C :=
  .cond (.t 55)
    (.seq (.ops [4, 5] [.p (some 56) (.mkif 81 (.c (.int .i64 2))),
      .p (some 4) (.move (.c .nils)),
      .p (some 5) (.move (.t 56))])
    (.ret))
    (.skip)
def c10_k2 : C :=
  .seq (.seq (.ops [6, 55] [.p (some 50) (.move (.t 6)),
    .p (some 51) (.nilCheck (.t 50)),
    .p (some 52) (.faddr 0 (.t 51)),
    .p (some 53) (.load false 1 (.t 52)),
    .p (some 54) (.len .slice (.t 53)),
    .p (some 55) (.bin .gtr .int [] (.t 54) (.c (.int .i64 0)))])
  (c10_k1))
  (c10_k0)
def c10_k3 : C :=
  .cond (.t 47)
    (.seq (.ops [4, 5] [.p (some 48) (.mkif 81 (.c (.int .i64 2))),
      .p (some 4) (.move (.c .nils)),
      .p (some 5) (.move (.t 48))])
    (.ret))
    (.skip)
def c10_k4 : C :=
  .seq (.ops [6, 38, 39, 40, 47] [.p (some 44) (.move (.t 6)),
    .p (some 45) (.load true 11 (.t 10)),
    .call (some 46) 37 [(.t 44), (.t 45)],
    .p (some 47) (.una .not (.t 46))])
  (c10_k3)
def c10_k5 : C :=
  .seq (.ops [6, 10, 38, 39, 40] [.p (some 42) (.iaddr 11 (.t 38) (.t 40)),
    .p (some 43) (.load true 11 (.t 42)),
    .e (some 10) (.alloc [(.d (.int .i64 0)), (.d (.int .u64 0)), (.d (.int .i64 0)), (.d (.int .i64 0)), (.d .nils), (.d (.bool false)), (.d .nils), (.d .nils), (.d .nils), (.d .nils), (.d (.bool false))]),
    .e .none (.store 11 (.t 10) (.t 43))])
  (c10_k4)
def c10_k6 : C :=
  .seq (.block 4 (c10_k5))
  (.ops [6, 38, 39, 40] [.p (some 49) (.bin .add .int [] (.t 40) (.c (.int .i64 1))),
    .p (some 40) (.move (.t 49))])
def c10_k7 : C :=
  .seq (.cond (.t 41)
    (.skip)
    (.exit 3))
  (c10_k6)
def c10_l8 : C :=
  .seq (.ops [6, 38, 39, 40, 41] [.p (some 41) (.bin .lss .int [] (.t 40) (.t 39))])
  (c10_k7)
def c10_k9 : C :=
  .block 3 (.loop [6, 38, 39, 40] c10_l8)
def c10_k10 : C :=
  .seq (.seq (.ops [6, 38, 39, 40] [.p (some 38) (.move (.t 0)),
    .p (some 39) (.len .slice (.t 38)),
    .p (some 40) (.move (.c (.int .i64 0)))])
  (c10_k9))
  (c10_k2)
def c10_k11 : C :=
  .cond (.t 33)
    (.seq (.ops [4, 5] [.p (some 36) (.mkif 81 (.c (.int .i64 2))),
      .p (some 4) (.move (.c .nils)),
      .p (some 5) (.move (.t 36))])
    (.ret))
    (.skip)
def c10_k12 : C :=
  .cond (.t 33)
    (.skip)
    (.ops [0, 6, 13, 14, 15, 33] [.p (some 35) (.bin .eql .int [] (.t 20) (.c (.int .i64 4))),
      .p (some 33) (.move (.t 35))])
def c10_k13 : C :=
  .seq (.seq (.ops [0, 6, 13, 14, 15, 20, 33] [.p (some 34) (.bin .eql .int [] (.t 20) (.c (.int .i64 2))),
      .p (some 33) (.move (.t 34))])
    (c10_k12))
    (c10_k11)
def c10_k14 : C :=
  .cond (.t 21)
    (.drw [0, 6, 13, 14, 15] 1 [⟨.none, .p (some 23) (.move (.t 6)), [], 0⟩,
      ⟨.none, .p (some 24) (.move (.t 6)), [], 0⟩,
      ⟨.none, .p (some 25) (.nilCheck (.t 24)), [1], 0⟩,
      ⟨.none, .p (some 26) (.faddr 0 (.t 25)), [2], 0⟩,
      ⟨.none, .p (some 27) (.load false 1 (.t 26)), [3], 0⟩,
      ⟨.none, .p (some 28) (.load true 11 (.t 8)), [], 0⟩,
      ⟨.none, .p (some 29) (.bslice 41 1 11 [(.int .i64 0), (.int .u64 0), (.int .i64 0), (.int .i64 0), .nils, (.bool false), .nils, .nils, .nils, .nils, (.bool false)] [(0, (.t 28))]), [5], 0⟩,
      ⟨.none, .e (some 30) (.append 41 11 168 (.t 27) (.t 29)), [4, 6], 0⟩,
      ⟨.none, .p (some 31) (.nilCheck (.t 23)), [0, 0, 1, 2, 3, 4, 5, 6, 7], 1⟩,
      ⟨.none, .p (some 32) (.faddr 0 (.t 31)), [8, 0, 1, 2, 3, 4, 5, 6, 7], 1⟩,
      ⟨.none, .e .none (.store 1 (.t 32) (.t 30)), [9, 7, 7, 0, 1, 2, 3, 4, 5, 6, 7], 1⟩])
    (c10_k13)
def c10_k15 : C :=
  .seq (.ops [0, 6, 8, 13, 14, 15, 20, 21] [.p (some 22) (.bin .eql .int [] (.t 20) (.c (.int .i64 3))),
    .p (some 21) (.move (.t 22))])
  (c10_k14)
def c10_k16 : C :=
  .block 2 (c10_k15)
def c10_k17 : C :=
  .seq (.ops [0, 6, 8, 13, 14, 15, 20] [.p (some 19) (.faddr 0 (.t 8)),
    .p (some 20) (.load false 1 (.t 19))])
  (c10_k16)
def c10_k18 : C :=
  .seq (.ops [0, 6, 8, 13, 14, 15] [.p (some 17) (.iaddr 11 (.t 13) (.t 15)),
    .p (some 18) (.load true 11 (.t 17)),
    .e (some 8) (.alloc [(.d (.int .i64 0)), (.d (.int .u64 0)), (.d (.int .i64 0)), (.d (.int .i64 0)), (.d .nils), (.d (.bool false)), (.d .nils), (.d .nils), (.d .nils), (.d .nils), (.d (.bool false))]),
    .e .none (.store 11 (.t 8) (.t 18))])
  (c10_k17)
def c10_k19 : C :=
  .seq (.block 1 (c10_k18))
  (.ops [0, 6, 13, 14, 15] [.p (some 37) (.bin .add .int [] (.t 15) (.c (.int .i64 1))),
    .p (some 15) (.move (.t 37))])
def c10_k20 : C :=
  .seq (.cond (.t 16)
    (.skip)
    (.exit 0))
  (c10_k19)
def c10_l21 : C :=
  .seq (.ops [0, 6, 13, 14, 15, 16] [.p (some 16) (.bin .lss .int [] (.t 15) (.t 14))])
  (c10_k20)
def c10_k22 : C :=
  .block 0 (.loop [0, 6, 13, 14, 15] c10_l21)
def c10_k23 : C :=
  .seq (.seq (.ops [0, 6, 13, 14, 15] [.p (some 13) (.move (.t 1)),
    .p (some 14) (.len .slice (.t 13)),
    .p (some 15) (.move (.c (.int .i64 0)))])
  (c10_k22))
  (c10_k10)
def c10_k24 : C :=
  .seq (.ops [0, 1, 6] [.p (some 11) (.build [.nils, (.int .i64 0), (.int .i64 0), (.int .i64 0), (.bool false), (.bool false), (.int .i64 0), (.bool false), .nils] []),
    .e (some 12) (.box (.t 11)),
    .p (some 6) (.move (.t 12))])
  (c10_k23)
def c10 : FnC := ⟨2, 61, [.tmp 4, .tmp 5],
  .seq (.ops [0, 1] [.p (some 4) (.move (.c .nils)),
    .p (some 5) (.move (.c .nili))])
  (c10_k24)⟩

/-! 37: (*gossamer/story.reader).take -/
def c37_k0 : C :=
  .seq (.ops [4] [.p (some 21) (.faddr 0 (.t 3)),
    .p (some 22) (.load false 1 (.t 21)),
    .p (some 23) (.bin .neq .int [] (.t 22) (.c (.int .i64 3))),
    .p (some 4) (.move (.t 23))])
  (.ret)
def c37_k1 : C :=
  .cond (.t 16)
    (.seq (.ops [4] [.p (some 18) (.move (.t 0)),
      .p (some 19) (.load true 11 (.t 3)),
      .call (some 20) 49 [(.t 18), (.t 19)],
      .p (some 4) (.move (.t 20))])
    (.ret))
    (.skip)
def c37_k2 : C :=
  .cond (.t 12)
    (.seq (.ops [4] [.p (some 14) (.move (.t 0)),
      .call (some 15) 48 [(.t 14)],
      .p (some 4) (.move (.t 15))])
    (.ret))
    (.seq (.ops [0, 3, 16] [.p (some 17) (.bin .eql .int [] (.t 6) (.c (.int .i64 5))),
      .p (some 16) (.move (.t 17))])
    (c37_k1))
def c37_k3 : C :=
  .seq (.ops [0, 3, 6, 12] [.p (some 13) (.bin .eql .int [] (.t 6) (.c (.int .i64 4))),
      .p (some 12) (.move (.t 13))])
    (c37_k2)
def c37_k4 : C :=
  .cond (.t 7)
    (.seq (.ops [4] [.p (some 9) (.move (.t 0)),
      .p (some 10) (.load true 11 (.t 3)),
      .call (some 11) 47 [(.t 9), (.t 10)],
      .p (some 4) (.move (.t 11))])
    (.ret))
    (c37_k3)
def c37_k5 : C :=
  .seq (.ops [0, 3, 6, 7] [.p (some 8) (.bin .eql .int [] (.t 6) (.c (.int .i64 2))),
    .p (some 7) (.move (.t 8))])
  (c37_k4)
def c37_k6 : C :=
  .block 0 (c37_k5)
def c37_k7 : C :=
  .seq (.seq (.ops [0, 3, 6] [.p (some 5) (.faddr 0 (.t 3)),
    .p (some 6) (.load false 1 (.t 5))])
  (c37_k6))
  (c37_k0)
def c37 : FnC := ⟨2, 24, [.tmp 4],
  .seq (.ops [0, 3] [.e (some 3) (.box (.t 1)),
    .p (some 4) (.move (.c (.bool false)))])
  (c37_k7)⟩

/-! 47: (*gossamer/story.reader).ask -/
def c47_k0 : C :=
  .seq (.ops [4] [.p (some 22) (.move (.t 0)),
    .p (some 23) (.nilCheck (.t 22)),
    .p (some 24) (.faddr 1 (.t 23)),
    .p (some 25) (.faddr 2 (.t 24)),
    .p (some 26) (.load false 1 (.t 25)),
    .p (some 27) (.bin .geq .int [] (.t 26) (.c (.int .i64 0))),
    .p (some 4) (.move (.t 27))])
  (.ret)
def c47_k1 : C :=
  .seq (.drw [0] 0 [⟨.none, .p (some 9) (.move (.t 0)), [], 0⟩,
    ⟨.none, .p (some 10) (.move (.t 0)), [], 0⟩,
    ⟨.none, .p (some 11) (.faddr 2 (.t 3)), [], 0⟩,
    ⟨.none, .p (some 12) (.load false 1 (.t 11)), [2], 0⟩,
    ⟨.none, .p (some 13) (.faddr 3 (.t 3)), [], 0⟩,
    ⟨.none, .p (some 14) (.load false 1 (.t 13)), [4], 0⟩,
    ⟨.none, .p (some 15) (.move (.t 0)), [], 0⟩,
    ⟨.none, .call (some 16) 53 [(.t 15)], [6], 0⟩,
    ⟨.none, .p (some 17) (.build [(.int .i64 0), (.int .i64 0), (.int .i64 0), (.bool false), (.bool false), (.int .i64 0)] [(0, 1, (.t 12)), (1, 1, (.t 14)), (2, 1, (.t 16))]), [3, 5, 7], 0⟩,
    ⟨.none, .p (some 18) (.nilCheck (.t 9)), [0, 0, 2, 3, 4, 5, 6, 7, 8], 0⟩,
    ⟨.none, .p (some 19) (.faddr 1 (.t 18)), [9, 0, 2, 3, 4, 5, 6, 7, 8], 0⟩,
    ⟨.none, .e .none (.store 6 (.t 19) (.t 17)), [10, 8, 7, 0, 2, 3, 4, 5, 6, 7, 8], 0⟩,
    ⟨.none, .p (some 20) (.nilCheck (.t 10)), [1, 0, 1, 2, 3, 4, 5, 6, 7, 8, 9, 10, 11], 0⟩,
    ⟨.none, .p (some 21) (.faddr 7 (.t 20)), [12, 0, 1, 2, 3, 4, 5, 6, 7, 8, 9, 10, 11], 0⟩,
    ⟨.none, .e .none (.store 1 (.t 21) (.c (.bool true))), [13, 11, 0, 1, 2, 3, 4, 5, 6, 7, 8, 9, 10, 11], 0⟩])
  (c47_k0)
def c47_k2 : C :=
  .cond (.t 8)
    (.seq (.ops [4] [.p (some 4) (.move (.c (.bool false)))])
    (.ret))
    (.skip)
def c47_k3 : C :=
  .seq (.seq (.ops [0, 3, 8] [.p (some 5) (.move (.t 0)),
    .p (some 6) (.nilCheck (.t 5)),
    .p (some 7) (.faddr 7 (.t 6)),
    .p (some 8) (.load false 1 (.t 7))])
  (c47_k2))
  (c47_k1)
def c47 : FnC := ⟨2, 28, [.tmp 4],
  .seq (.ops [0, 3] [.e (some 3) (.box (.t 1)),
    .p (some 4) (.move (.c (.bool false)))])
  (c47_k3)⟩

/-! 53: (*gossamer/story.reader).sketch -/
def c53_k0 : C :=
  .seq (.ops [2] [.p (some 33) (.move (.t 3)),
    .p (some 34) (.bin .quo .int [] (.t 33) (.c (.int .i64 4))),
    .p (some 2) (.move (.t 34))])
  (.ret)
def c53_k1 : C :=
  .cond (.t 32)
    (.seq (.ops [2] [.p (some 2) (.move (.c (.int .i64 (-1))))])
    (.ret))
    (.skip)
def c53_k2 : C :=
  .seq (.seq (.ops [3, 32] [.p (some 26) (.move (.t 3)),
    .p (some 27) (.bin .eql .int [] (.t 26) (.c (.int .i64 0))),
    .p (some 28) (.move (.t 27)),
    .when 28 false [.p (some 29) (.move (.t 3)),
      .p (some 30) (.bin .rem .int [] (.t 29) (.c (.int .i64 4))),
      .p (some 31) (.bin .neq .int [] (.t 30) (.c (.int .i64 0)))],
    .p (some 32) (.pick (.t 28) (.c (.bool true)) (.t 31))])
  (c53_k1))
  (c53_k0)
def c53_k3 : C :=
  .seq (.ops [3, 31] [.p (some 18) (.move (.t 0)),
    .p (some 19) (.move (.t 0)),
    .p (some 20) (.nilCheck (.t 19)),
    .p (some 21) (.faddr 0 (.t 20)),
    .p (some 22) (.load false 1 (.t 21)),
    .p (some 23) (.slice 11 (.t 22) (some (.c (.int .i64 1))) .none .none),
    .p (some 24) (.nilCheck (.t 18)),
    .p (some 25) (.faddr 0 (.t 24)),
    .e .none (.store 1 (.t 25) (.t 23))])
  (c53_k2)
def c53_k4 : C :=
  .seq (.ops [0, 3, 31] [.p (some 10) (.move (.t 0)),
    .p (some 11) (.nilCheck (.t 10)),
    .p (some 12) (.faddr 0 (.t 11)),
    .p (some 13) (.load false 1 (.t 12)),
    .p (some 14) (.iaddr 11 (.t 13) (.c (.int .i64 0))),
    .p (some 15) (.faddr 4 (.t 14)),
    .p (some 16) (.load false 1 (.t 15)),
    .p (some 17) (.len .slice (.t 16)),
    .p (some 3) (.move (.t 17))])
  (c53_k3)
def c53_k5 : C :=
  .cond (.t 9)
    (.seq (.ops [2] [.p (some 2) (.move (.c (.int .i64 0)))])
    (.ret))
    (.skip)
def c53_k6 : C :=
  .seq (.seq (.ops [0, 9, 31] [.p (some 4) (.move (.t 0)),
    .p (some 5) (.nilCheck (.t 4)),
    .p (some 6) (.faddr 0 (.t 5)),
    .p (some 7) (.load false 1 (.t 6)),
    .p (some 8) (.len .slice (.t 7)),
    .p (some 9) (.bin .eql .int [] (.t 8) (.c (.int .i64 0)))])
  (c53_k5))
  (c53_k4)
def c53 : FnC := ⟨1, 35, [.tmp 2],
  .seq (.ops [0, 31] [.p (some 2) (.move (.c (.int .i64 0)))])
  (c53_k6)⟩

/-! 48: (*gossamer/story.reader).more -/
def c48_k0 : C :=
  .seq (.ops [2] [.p (some 30) (.move (.t 3)),
    .p (some 31) (.move (.t 0)),
    .p (some 32) (.nilCheck (.t 31)),
    .p (some 33) (.faddr 1 (.t 32)),
    .p (some 34) (.faddr 2 (.t 33)),
    .p (some 35) (.load false 1 (.t 34)),
    .p (some 36) (.bin .eql .int [] (.t 30) (.t 35)),
    .p (some 37) (.move (.t 36)),
    .when 37 false [.p (some 38) (.move (.t 3)),
      .p (some 39) (.bin .eql .int [] (.t 38) (.c (.int .i64 0)))],
    .p (some 40) (.pick (.t 37) (.c (.bool true)) (.t 39)),
    .p (some 2) (.move (.t 40))])
  (.ret)
def c48_k1 : C :=
  .seq (.ops [0, 3, 39] [.p (some 28) (.move (.t 0)),
    .call (some 29) 53 [(.t 28)],
    .p (some 3) (.move (.t 29))])
  (c48_k0)
def c48_k2 : C :=
  .seq (.ops [0, 39] [.p (some 24) (.move (.t 0)),
    .p (some 25) (.nilCheck (.t 24)),
    .p (some 26) (.faddr 1 (.t 25)),
    .p (some 27) (.faddr 3 (.t 26)),
    .e .none (.store 1 (.t 27) (.c (.bool true)))])
  (c48_k1)
def c48_k3 : C :=
  .cond (.t 23)
    (.seq (.ops [2] [.p (some 2) (.move (.c (.bool false)))])
    (.ret))
    (.skip)
def c48_k4 : C :=
  .seq (.seq (.ops [0, 23, 39] [.p (some 4) (.move (.t 0)),
    .p (some 5) (.nilCheck (.t 4)),
    .p (some 6) (.faddr 7 (.t 5)),
    .p (some 7) (.load false 1 (.t 6)),
    .p (some 8) (.una .not (.t 7)),
    .p (some 9) (.move (.t 8)),
    .when 9 false [.p (some 10) (.move (.t 0)),
      .p (some 11) (.nilCheck (.t 10)),
      .p (some 12) (.faddr 1 (.t 11)),
      .p (some 13) (.faddr 3 (.t 12)),
      .p (some 14) (.load false 1 (.t 13))],
    .p (some 15) (.pick (.t 9) (.c (.bool true)) (.t 14)),
    .p (some 16) (.move (.t 15)),
    .when 16 false [.p (some 17) (.move (.t 0)),
      .p (some 18) (.nilCheck (.t 17)),
      .p (some 19) (.faddr 1 (.t 18)),
      .p (some 20) (.faddr 2 (.t 19)),
      .p (some 21) (.load false 1 (.t 20)),
      .p (some 22) (.bin .eql .int [] (.t 21) (.c (.int .i64 0)))],
    .p (some 23) (.pick (.t 16) (.c (.bool true)) (.t 22))])
  (c48_k3))
  (c48_k2)
def c48 : FnC := ⟨1, 41, [.tmp 2],
  .seq (.ops [0, 14, 22, 39] [.p (some 2) (.move (.c (.bool false)))])
  (c48_k4)⟩

/-! 49: (*gossamer/story.reader).diff -/
def c49_k0 : C :=
  .seq (.drw [] 1 [⟨.none, .p (some 31) (.move (.t 0)), [], 0⟩,
    ⟨.none, .p (some 32) (.move (.t 0)), [], 0⟩,
    ⟨.none, .p (some 33) (.move (.t 0)), [], 0⟩,
    ⟨.none, .p (some 34) (.nilCheck (.t 33)), [2], 0⟩,
    ⟨.none, .p (some 35) (.faddr 8 (.t 34)), [3], 0⟩,
    ⟨.none, .p (some 36) (.load false 1 (.t 35)), [4], 0⟩,
    ⟨.none, .p (some 37) (.move (.t 0)), [], 0⟩,
    ⟨.none, .p (some 38) (.nilCheck (.t 37)), [6], 0⟩,
    ⟨.none, .p (some 39) (.faddr 1 (.t 38)), [7], 0⟩,
    ⟨.none, .p (some 40) (.load true 6 (.t 39)), [8], 0⟩,
    ⟨.none, .p (some 41) (.bslice 86 1 6 [(.int .i64 0), (.int .i64 0), (.int .i64 0), (.bool false), (.bool false), (.int .i64 0)] [(0, (.t 40))]), [9], 0⟩,
    ⟨.none, .e (some 42) (.append 86 6 40 (.t 36) (.t 41)), [5, 10], 0⟩,
    ⟨.none, .p (some 43) (.nilCheck (.t 31)), [0, 0, 2, 3, 4, 5, 6, 7, 8, 9, 10, 11], 1⟩,
    ⟨.none, .p (some 44) (.faddr 8 (.t 43)), [12, 0, 2, 3, 4, 5, 6, 7, 8, 9, 10, 11], 1⟩,
    ⟨.none, .e .none (.store 1 (.t 44) (.t 42)), [13, 11, 11, 0, 2, 3, 4, 5, 6, 7, 8, 9, 10, 11], 1⟩,
    ⟨.none, .p (some 45) (.nilCheck (.t 32)), [1, 0, 1, 2, 3, 4, 5, 6, 7, 8, 9, 10, 11, 12, 13, 14], 1⟩,
    ⟨.none, .p (some 46) (.faddr 7 (.t 45)), [15, 0, 1, 2, 3, 4, 5, 6, 7, 8, 9, 10, 11, 12, 13, 14], 1⟩,
    ⟨.none, .e .none (.store 1 (.t 46) (.c (.bool false))), [16, 14, 0, 1, 2, 3, 4, 5, 6, 7, 8, 9, 10, 11, 12, 13, 14], 1⟩])
  (.seq (.ops [4] [.p (some 4) (.move (.c (.bool true)))])
  (.ret))
def c49_k1 : C :=
  .seq (.drw [0] 0 [⟨.none, .p (some 18) (.move (.t 0)), [], 0⟩,
    ⟨.none, .p (some 19) (.move (.t 0)), [], 0⟩,
    ⟨.none, .p (some 20) (.faddr 5 (.t 3)), [], 0⟩,
    ⟨.none, .p (some 21) (.load false 1 (.t 20)), [2], 0⟩,
    ⟨.none, .p (some 22) (.faddr 6 (.t 3)), [], 0⟩,
    ⟨.none, .p (some 23) (.load false 1 (.t 22)), [4], 0⟩,
    ⟨.none, .p (some 24) (.len .slice (.t 23)), [5], 0⟩,
    ⟨.none, .p (some 25) (.nilCheck (.t 18)), [0, 0, 2, 3], 0⟩,
    ⟨.none, .p (some 26) (.faddr 1 (.t 25)), [7, 0, 2, 3], 0⟩,
    ⟨.none, .p (some 27) (.faddr 4 (.t 26)), [8, 0, 2, 3], 0⟩,
    ⟨.none, .e .none (.store 1 (.t 27) (.t 21)), [9, 3, 0, 2, 3], 0⟩,
    ⟨.none, .p (some 28) (.nilCheck (.t 19)), [1, 0, 1, 2, 3, 4, 5, 6, 7, 8, 9, 10], 0⟩,
    ⟨.none, .p (some 29) (.faddr 1 (.t 28)), [11, 0, 1, 2, 3, 4, 5, 6, 7, 8, 9, 10], 0⟩,
    ⟨.none, .p (some 30) (.faddr 5 (.t 29)), [12, 0, 1, 2, 3, 4, 5, 6, 7, 8, 9, 10], 0⟩,
    ⟨.none, .e .none (.store 1 (.t 30) (.t 24)), [13, 6, 10, 0, 1, 2, 3, 4, 5, 6, 7, 8, 9, 10], 0⟩])
  (c49_k0)
def c49_k2 : C :=
  .cond (.t 17)
    (.seq (.ops [4] [.p (some 4) (.move (.c (.bool false)))])
    (.ret))
    (.skip)
def c49_k3 : C :=
  .seq (.seq (.ops [0, 3, 17] [.p (some 5) (.move (.t 0)),
    .p (some 6) (.nilCheck (.t 5)),
    .p (some 7) (.faddr 7 (.t 6)),
    .p (some 8) (.load false 1 (.t 7)),
    .p (some 9) (.una .not (.t 8)),
    .p (some 10) (.move (.t 9)),
    .when 10 false [.p (some 11) (.move (.t 0)),
      .p (some 12) (.nilCheck (.t 11)),
      .p (some 13) (.faddr 1 (.t 12)),
      .p (some 14) (.faddr 2 (.t 13)),
      .p (some 15) (.load false 1 (.t 14)),
      .p (some 16) (.bin .eql .int [] (.t 15) (.c (.int .i64 0)))],
    .p (some 17) (.pick (.t 10) (.c (.bool true)) (.t 16))])
  (c49_k2))
  (c49_k1)
def c49 : FnC := ⟨2, 47, [.tmp 4],
  .seq (.ops [0, 3, 16] [.e (some 3) (.box (.t 1)),
    .p (some 4) (.move (.c (.bool false)))])
  (c49_k3)⟩

/-! 9: gossamer/gossamerlaw31.program -/
def c9_k0 : C :=
  .seq (.ops [2, 3] [.p (some 47) (.move (.t 4)),
    .p (some 2) (.move (.t 47)),
    .p (some 3) (.move (.c (.bool true)))])
  (.ret)
def c9_k1 : C :=
  .ops [4, 8, 9, 10, 21, 27, 33, 39] [.p (some 41) (.move (.t 4)),
    .p (some 42) (.load true 11 (.t 6)),
    .call (some 43) 36 [(.t 42)],
    .p (some 44) (.bslice 41 1 11 [(.int .i64 0), (.int .u64 0), (.int .i64 0), (.int .i64 0), .nils, (.bool false), .nils, .nils, .nils, .nils, (.bool false)] [(0, (.t 43))]),
    .e (some 45) (.append 41 11 168 (.t 41) (.t 44)),
    .p (some 4) (.move (.t 45))]
def c9_k2 : C :=
  .cond (.t 40)
    (.seq (.ops [2, 3] [.p (some 2) (.move (.c .nils)),
      .p (some 3) (.move (.c (.bool false)))])
    (.ret))
    (.skip)
def c9_k3 : C :=
  .seq (.seq (.ops [4, 6, 8, 9, 10, 21, 27, 33, 39, 40] [.p (some 15) (.move (.t 5)),
    .p (some 16) (.bin .gtr .int [] (.t 15) (.c (.int .i64 20))),
    .p (some 17) (.move (.t 16)),
    .when 17 false [.p (some 18) (.faddr 4 (.t 6)),
      .p (some 19) (.load false 1 (.t 18)),
      .p (some 20) (.len .slice (.t 19)),
      .p (some 21) (.bin .gtr .int [] (.t 20) (.c (.int .i64 1000)))],
    .p (some 22) (.pick (.t 17) (.c (.bool true)) (.t 21)),
    .p (some 23) (.move (.t 22)),
    .when 23 false [.p (some 24) (.faddr 6 (.t 6)),
      .p (some 25) (.load false 1 (.t 24)),
      .p (some 26) (.len .slice (.t 25)),
      .p (some 27) (.bin .gtr .int [] (.t 26) (.c (.int .i64 200)))],
    .p (some 28) (.pick (.t 23) (.c (.bool true)) (.t 27)),
    .p (some 29) (.move (.t 28)),
    .when 29 false [.p (some 30) (.faddr 7 (.t 6)),
      .p (some 31) (.load false 1 (.t 30)),
      .p (some 32) (.len .slice (.t 31)),
      .p (some 33) (.bin .gtr .int [] (.t 32) (.c (.int .i64 110)))],
    .p (some 34) (.pick (.t 29) (.c (.bool true)) (.t 33)),
    .p (some 35) (.move (.t 34)),
    .when 35 false [.p (some 36) (.faddr 8 (.t 6)),
      .p (some 37) (.load true 3 (.t 36)),
      .p (some 38) (.bslice 39 1 3 [.nils, .nils, (.bool false)] [(0, (.t 37))]),
      .call (some 39) 35 [(.t 38)]],
    .p (some 40) (.pick (.t 35) (.c (.bool true)) (.t 39))])
  (c9_k2))
  (c9_k1)
def c9_k4 : C :=
  .seq (.ops [4, 5, 6, 8, 9, 10, 21, 27, 33, 39] [.p (some 12) (.move (.t 10)),
    .p (some 13) (.iaddr 11 (.t 8) (.t 10)),
    .p (some 14) (.load true 11 (.t 13)),
    .e (some 6) (.alloc [(.d (.int .i64 0)), (.d (.int .u64 0)), (.d (.int .i64 0)), (.d (.int .i64 0)), (.d .nils), (.d (.bool false)), (.d .nils), (.d .nils), (.d .nils), (.d .nils), (.d (.bool false))]),
    .p (some 5) (.move (.t 12)),
    .e .none (.store 11 (.t 6) (.t 14))])
  (c9_k3)
def c9_k5 : C :=
  .seq (.block 1 (c9_k4))
  (.ops [4, 8, 9, 10, 21, 27, 33, 39] [.p (some 46) (.bin .add .int [] (.t 10) (.c (.int .i64 1))),
    .p (some 10) (.move (.t 46))])
def c9_k6 : C :=
  .seq (.cond (.t 11)
    (.skip)
    (.exit 0))
  (c9_k5)
def c9_l7 : C :=
  .seq (.ops [4, 8, 9, 10, 11, 21, 27, 33, 39] [.p (some 11) (.bin .lss .int [] (.t 10) (.t 9))])
  (c9_k6)
def c9_k8 : C :=
  .block 0 (.loop [4, 8, 9, 10, 21, 27, 33, 39] c9_l7)
def c9_k9 : C :=
  .seq (.seq (.ops [4, 8, 9, 10, 21, 27, 33, 39] [.p (some 8) (.move (.t 0)),
    .p (some 9) (.len .slice (.t 8)),
    .p (some 10) (.move (.c (.int .i64 0)))])
  (c9_k8))
  (c9_k0)
def c9_k10 : C :=
  .seq (.ops [0, 4, 21, 27, 33, 39] [.p (some 7) (.bslice 41 0 11 [(.int .i64 0), (.int .u64 0), (.int .i64 0), (.int .i64 0), .nils, (.bool false), .nils, .nils, .nils, .nils, (.bool false)] []),
    .p (some 4) (.move (.t 7))])
  (c9_k9)
def c9 : FnC := ⟨1, 48, [.tmp 2, .tmp 3],
  .seq (.ops [0, 21, 27, 33, 39] [.p (some 2) (.move (.c .nils)),
    .p (some 3) (.move (.c (.bool false)))])
  (c9_k10)⟩

/-! 35: gossamer/gossamernum.Large -/
def c35_k0 : C :=
  .seq (.ops [2] [.p (some 44) (.move (.t 3)),
    .p (some 45) (.bin .gtr .int [] (.t 44) (.c (.int .i64 5000))),
    .p (some 2) (.move (.t 45))])
  (.ret)
def c35_k1 : C :=
  .ops [3, 8, 9, 10, 21, 27, 30, 31, 32] [.p (some 36) (.move (.t 3)),
    .p (some 37) (.faddr 33 (.t 7)),
    .p (some 38) (.load false 1 (.t 37)),
    .p (some 39) (.len .str (.t 38)),
    .p (some 40) (.min [(.t 39), (.c (.int .i64 10000))]),
    .p (some 41) (.bin .add .int [] (.t 36) (.t 40)),
    .p (some 3) (.move (.t 41))]
def c35_k2 : C :=
  .seq (.ops [3, 7, 8, 9, 10, 21, 27, 30, 31, 32] [.p (some 34) (.iaddr 35 (.t 30) (.t 32)),
    .p (some 35) (.load true 35 (.t 34)),
    .e (some 7) (.alloc [(.d (.int .u8 0)), (.d (.int .u8 0)), (.d (.int .u8 0)), (.d (.int .u8 0)), (.d (.int .u8 0)), (.d (.int .u8 0)), (.d (.int .u8 0)), (.d (.int .u8 0)), (.d (.int .u8 0)), (.d (.int .u8 0)), (.d (.int .u8 0)), (.d (.int .u8 0)), (.d (.int .u8 0)), (.d (.int .u8 0)), (.d (.int .u8 0)), (.d (.int .u8 0)), (.d (.int .u8 0)), (.d (.int .u8 0)), (.d (.int .u8 0)), (.d (.int .u8 0)), (.d (.int .u8 0)), (.d (.int .u8 0)), (.d (.int .u8 0)), (.d (.int .u8 0)), (.d (.int .u8 0)), (.d (.int .u8 0)), (.d (.int .u8 0)), (.d (.int .u8 0)), (.d (.int .u8 0)), (.d (.int .u8 0)), (.d (.int .u8 0)), (.d (.int .u8 0)), (.d (.int .i64 0)), (.d (.str [])), (.d (.int .u64 0))]),
    .e .none (.store 35 (.t 7) (.t 35))])
  (c35_k1)
def c35_k3 : C :=
  .seq (.block 3 (c35_k2))
  (.ops [3, 8, 9, 10, 21, 27, 30, 31, 32] [.p (some 42) (.bin .add .int [] (.t 32) (.c (.int .i64 1))),
    .p (some 32) (.move (.t 42))])
def c35_k4 : C :=
  .seq (.cond (.t 33)
    (.skip)
    (.exit 2))
  (c35_k3)
def c35_l5 : C :=
  .seq (.ops [3, 8, 9, 10, 21, 27, 30, 31, 32, 33] [.p (some 33) (.bin .lss .int [] (.t 32) (.t 31))])
  (c35_k4)
def c35_k6 : C :=
  .block 2 (.loop [3, 8, 9, 10, 21, 27, 30, 31, 32] c35_l5)
def c35_k7 : C :=
  .seq (.ops [3, 8, 9, 10, 21, 27, 30, 31, 32] [.p (some 29) (.faddr 0 (.t 5)),
    .p (some 30) (.load false 1 (.t 29)),
    .p (some 31) (.len .slice (.t 30)),
    .p (some 32) (.move (.c (.int .i64 0)))])
  (c35_k6)
def c35_k8 : C :=
  .cond (.t 28)
    (.seq (.ops [2] [.p (some 2) (.move (.c (.bool true)))])
    (.ret))
    (.skip)
def c35_k9 : C :=
  .seq (.seq (.ops [3, 5, 8, 9, 10, 21, 27, 28] [.p (some 15) (.move (.t 4)),
    .p (some 16) (.bin .gtr .int [] (.t 15) (.c (.int .i64 60))),
    .p (some 17) (.move (.t 16)),
    .when 17 false [.p (some 18) (.faddr 0 (.t 5)),
      .p (some 19) (.load false 1 (.t 18)),
      .p (some 20) (.len .slice (.t 19)),
      .p (some 21) (.bin .gtr .int [] (.t 20) (.c (.int .i64 30)))],
    .p (some 22) (.pick (.t 17) (.c (.bool true)) (.t 21)),
    .p (some 23) (.move (.t 22)),
    .when 23 false [.p (some 24) (.faddr 1 (.t 5)),
      .p (some 25) (.load false 1 (.t 24)),
      .p (some 26) (.len .slice (.t 25)),
      .p (some 27) (.bin .gtr .int [] (.t 26) (.c (.int .i64 30)))],
    .p (some 28) (.pick (.t 23) (.c (.bool true)) (.t 27))])
  (c35_k8))
  (c35_k7)
def c35_k10 : C :=
  .seq (.ops [3, 4, 5, 8, 9, 10, 21, 27] [.p (some 12) (.move (.t 10)),
    .p (some 13) (.iaddr 3 (.t 8) (.t 10)),
    .p (some 14) (.load true 3 (.t 13)),
    .e (some 5) (.alloc [(.d .nils), (.d .nils), (.d (.bool false))]),
    .p (some 4) (.move (.t 12)),
    .e .none (.store 3 (.t 5) (.t 14))])
  (c35_k9)
def c35_k11 : C :=
  .seq (.block 1 (c35_k10))
  (.ops [3, 8, 9, 10, 21, 27] [.p (some 43) (.bin .add .int [] (.t 10) (.c (.int .i64 1))),
    .p (some 10) (.move (.t 43))])
def c35_k12 : C :=
  .seq (.cond (.t 11)
    (.skip)
    (.exit 0))
  (c35_k11)
def c35_l13 : C :=
  .seq (.ops [3, 8, 9, 10, 11, 21, 27] [.p (some 11) (.bin .lss .int [] (.t 10) (.t 9))])
  (c35_k12)
def c35_k14 : C :=
  .block 0 (.loop [3, 8, 9, 10, 21, 27] c35_l13)
def c35_k15 : C :=
  .seq (.seq (.ops [3, 8, 9, 10, 21, 27] [.p (some 8) (.move (.t 0)),
    .p (some 9) (.len .slice (.t 8)),
    .p (some 10) (.move (.c (.int .i64 0)))])
  (c35_k14))
  (c35_k0)
def c35_k16 : C :=
  .seq (.ops [0, 3, 21, 27] [.p (some 3) (.move (.c (.int .i64 0)))])
  (c35_k15)
def c35 : FnC := ⟨1, 46, [.tmp 2],
  .seq (.ops [0, 21, 27] [.p (some 2) (.move (.c (.bool false)))])
  (c35_k16)⟩

/-! 36: gossamer/gossamerlaw21.Program -/
def c36_k0 : C :=
  .seq (.ops [2] [.p (some 3) (.load true 11 (.t 1)),
    .call (some 4) 46 [(.t 3)],
    .e .none (.store 11 (.t 2) (.t 4))])
  (.ret)
def c36 : FnC := ⟨1, 5, [.cell 2 true 11],
  .seq (.ops [1, 2] [.e (some 1) (.box (.t 0)),
    .e (some 2) (.alloc [(.d (.int .i64 0)), (.d (.int .u64 0)), (.d (.int .i64 0)), (.d (.int .i64 0)), (.d .nils), (.d (.bool false)), (.d .nils), (.d .nils), (.d .nils), (.d .nils), (.d (.bool false))])])
  (c36_k0)⟩

/-! 46: gossamer/wire.Copy -/
def c46_k0 : C :=
  .seq (.ops [2] [.p (some 19) (.load true 11 (.t 1)),
    .e .none (.store 11 (.t 2) (.t 19))])
  (.ret)
def c46_k1 : C :=
  .seq (.drw [1, 2] 0 [⟨.none, .p (some 3) (.faddr 4 (.t 1)), [], 0⟩,
    ⟨.none, .p (some 4) (.load false 1 (.t 3)), [0], 0⟩,
    ⟨.none, .call (some 5) 40 [(.t 4)], [1], 0⟩,
    ⟨.none, .p (some 6) (.faddr 6 (.t 1)), [], 0⟩,
    ⟨.none, .p (some 7) (.load false 1 (.t 6)), [3], 0⟩,
    ⟨.none, .call (some 8) 50 [(.t 7)], [4, 2], 0⟩,
    ⟨.none, .p (some 9) (.faddr 7 (.t 1)), [], 0⟩,
    ⟨.none, .p (some 10) (.load false 1 (.t 9)), [6], 0⟩,
    ⟨.none, .call (some 11) 51 [(.t 10)], [7, 5], 0⟩,
    ⟨.none, .p (some 12) (.faddr 8 (.t 1)), [], 0⟩,
    ⟨.none, .p (some 13) (.load true 3 (.t 12)), [9], 0⟩,
    ⟨.none, .call (some 14) 52 [(.t 13)], [10, 8], 0⟩,
    ⟨.none, .p (some 15) (.faddr 4 (.t 1)), [0, 1, 2, 3, 4, 6, 7, 9, 10], 0⟩,
    ⟨.none, .e .none (.store 1 (.t 15) (.t 5)), [12, 2, 11, 0, 1, 2, 3, 4, 6, 7, 9, 10], 0⟩,
    ⟨.none, .p (some 16) (.faddr 6 (.t 1)), [0, 1, 2, 3, 4, 5, 6, 7, 9, 10, 12, 13], 0⟩,
    ⟨.none, .e .none (.store 1 (.t 16) (.t 8)), [14, 5, 13, 0, 1, 2, 3, 4, 5, 6, 7, 9, 10, 12, 13], 0⟩,
    ⟨.none, .p (some 17) (.faddr 7 (.t 1)), [0, 1, 2, 3, 4, 5, 6, 7, 8, 9, 10, 12, 13, 14, 15], 0⟩,
    ⟨.none, .e .none (.store 1 (.t 17) (.t 11)), [16, 8, 15, 0, 1, 2, 3, 4, 5, 6, 7, 8, 9, 10, 12, 13, 14, 15], 0⟩,
    ⟨.none, .p (some 18) (.faddr 8 (.t 1)), [0, 1, 2, 3, 4, 5, 6, 7, 8, 9, 10, 11, 12, 13, 14, 15, 16, 17], 0⟩,
    ⟨.none, .e .none (.store 3 (.t 18) (.t 14)), [18, 11, 17, 0, 1, 2, 3, 4, 5, 6, 7, 8, 9, 10, 11, 12, 13, 14, 15, 16, 17], 0⟩])
  (c46_k0)
def c46 : FnC := ⟨1, 20, [.cell 2 true 11],
  .seq (.ops [1, 2] [.e (some 1) (.box (.t 0)),
    .e (some 2) (.alloc [(.d (.int .i64 0)), (.d (.int .u64 0)), (.d (.int .i64 0)), (.d (.int .i64 0)), (.d .nils), (.d (.bool false)), (.d .nils), (.d .nils), (.d .nils), (.d .nils), (.d (.bool false))])])
  (c46_k1)⟩

/-! 40: slices.Clone[[]byte,byte] -/
def c40_k0 : C :=
  .seq (.ops [2] [.p (some 5) (.bslice 5 0 1 [(.int .u8 0)] []),
    .p (some 6) (.move (.t 0)),
    .e (some 7) (.append 5 1 1 (.t 5) (.t 6)),
    .p (some 2) (.move (.t 7))])
  (.ret)
def c40_k1 : C :=
  .cond (.t 4)
    (.seq (.ops [2] [.p (some 2) (.move (.c .nils))])
    (.ret))
    (.skip)
def c40_k2 : C :=
  .seq (.seq (.ops [0, 4] [.p (some 3) (.move (.t 0)),
    .p (some 4) (.bin .eql .slice [] (.t 3) (.c .nils))])
  (c40_k1))
  (c40_k0)
def c40 : FnC := ⟨1, 8, [.tmp 2],
  .seq (.ops [0] [.p (some 2) (.move (.c .nils))])
  (c40_k2)⟩

/-! 50: slices.Clone[[]uint32,uint32] -/
def c50_k0 : C :=
  .seq (.ops [2] [.p (some 5) (.bslice 84 0 1 [(.int .u32 0)] []),
    .p (some 6) (.move (.t 0)),
    .e (some 7) (.append 84 1 4 (.t 5) (.t 6)),
    .p (some 2) (.move (.t 7))])
  (.ret)
def c50_k1 : C :=
  .cond (.t 4)
    (.seq (.ops [2] [.p (some 2) (.move (.c .nils))])
    (.ret))
    (.skip)
def c50_k2 : C :=
  .seq (.seq (.ops [0, 4] [.p (some 3) (.move (.t 0)),
    .p (some 4) (.bin .eql .slice [] (.t 3) (.c .nils))])
  (c50_k1))
  (c50_k0)
def c50 : FnC := ⟨1, 8, [.tmp 2],
  .seq (.ops [0] [.p (some 2) (.move (.c .nils))])
  (c50_k2)⟩

/-! 51: slices.Clone[[]gossamer/api.Hash,gossamer/api.Hash] -/
def c51_k0 : C :=
  .seq (.ops [2] [.p (some 5) (.bslice 49 0 32 (List.replicate 32 (.int .u8 0)) []),
    .p (some 6) (.move (.t 0)),
    .e (some 7) (.append 49 32 32 (.t 5) (.t 6)),
    .p (some 2) (.move (.t 7))])
  (.ret)
def c51_k1 : C :=
  .cond (.t 4)
    (.seq (.ops [2] [.p (some 2) (.move (.c .nils))])
    (.ret))
    (.skip)
def c51_k2 : C :=
  .seq (.seq (.ops [0, 4] [.p (some 3) (.move (.t 0)),
    .p (some 4) (.bin .eql .slice [] (.t 3) (.c .nils))])
  (c51_k1))
  (c51_k0)
def c51 : FnC := ⟨1, 8, [.tmp 2],
  .seq (.ops [0] [.p (some 2) (.move (.c .nils))])
  (c51_k2)⟩

/-! 52: gossamer/tx.Copy -/
def c52_k0 : C :=
  .seq (.ops [2] [.p (some 11) (.load true 3 (.t 1)),
    .e .none (.store 3 (.t 2) (.t 11))])
  (.ret)
def c52_k1 : C :=
  .seq (.drw [1, 2] 0 [⟨.none, .p (some 3) (.faddr 0 (.t 1)), [], 0⟩,
    ⟨.none, .p (some 4) (.load false 1 (.t 3)), [0], 0⟩,
    ⟨.none, .call (some 5) 54 [(.t 4)], [1], 0⟩,
    ⟨.none, .p (some 6) (.faddr 1 (.t 1)), [], 0⟩,
    ⟨.none, .p (some 7) (.load false 1 (.t 6)), [3], 0⟩,
    ⟨.none, .call (some 8) 55 [(.t 7)], [4, 2], 0⟩,
    ⟨.none, .p (some 9) (.faddr 0 (.t 1)), [0, 1, 2, 3, 4], 0⟩,
    ⟨.none, .e .none (.store 1 (.t 9) (.t 5)), [6, 2, 5, 0, 1, 2, 3, 4], 0⟩,
    ⟨.none, .p (some 10) (.faddr 1 (.t 1)), [0, 1, 2, 3, 4, 5, 6, 7], 0⟩,
    ⟨.none, .e .none (.store 1 (.t 10) (.t 8)), [8, 5, 7, 0, 1, 2, 3, 4, 5, 6, 7], 0⟩])
  (c52_k0)
def c52 : FnC := ⟨1, 12, [.cell 2 true 3],
  .seq (.ops [1, 2] [.e (some 1) (.box (.t 0)),
    .e (some 2) (.alloc [(.d .nils), (.d .nils), (.d (.bool false))])])
  (c52_k1)⟩

/-! 54: slices.Clone[[]gossamer/api.Spend,gossamer/api.Spend] -/
def c54_k0 : C :=
  .seq (.ops [2] [.p (some 5) (.bslice 107 0 35 [(.int .u8 0), (.int .u8 0), (.int .u8 0), (.int .u8 0), (.int .u8 0), (.int .u8 0), (.int .u8 0), (.int .u8 0), (.int .u8 0), (.int .u8 0), (.int .u8 0), (.int .u8 0), (.int .u8 0), (.int .u8 0), (.int .u8 0), (.int .u8 0), (.int .u8 0), (.int .u8 0), (.int .u8 0), (.int .u8 0), (.int .u8 0), (.int .u8 0), (.int .u8 0), (.int .u8 0), (.int .u8 0), (.int .u8 0), (.int .u8 0), (.int .u8 0), (.int .u8 0), (.int .u8 0), (.int .u8 0), (.int .u8 0), (.int .i64 0), (.str []), (.int .u64 0)] []),
    .p (some 6) (.move (.t 0)),
    .e (some 7) (.append 107 35 64 (.t 5) (.t 6)),
    .p (some 2) (.move (.t 7))])
  (.ret)
def c54_k1 : C :=
  .cond (.t 4)
    (.seq (.ops [2] [.p (some 2) (.move (.c .nils))])
    (.ret))
    (.skip)
def c54_k2 : C :=
  .seq (.seq (.ops [0, 4] [.p (some 3) (.move (.t 0)),
    .p (some 4) (.bin .eql .slice [] (.t 3) (.c .nils))])
  (c54_k1))
  (c54_k0)
def c54 : FnC := ⟨1, 8, [.tmp 2],
  .seq (.ops [0] [.p (some 2) (.move (.c .nils))])
  (c54_k2)⟩

/-! 55: slices.Clone[[]gossamer/api.Coin,gossamer/api.Coin] -/
def c55_k0 : C :=
  .seq (.ops [2] [.p (some 5) (.bslice 116 0 2 [(.int .i64 0), (.int .u64 0)] []),
    .p (some 6) (.move (.t 0)),
    .e (some 7) (.append 116 2 16 (.t 5) (.t 6)),
    .p (some 2) (.move (.t 7))])
  (.ret)
def c55_k1 : C :=
  .cond (.t 4)
    (.seq (.ops [2] [.p (some 2) (.move (.c .nils))])
    (.ret))
    (.skip)
def c55_k2 : C :=
  .seq (.seq (.ops [0, 4] [.p (some 3) (.move (.t 0)),
    .p (some 4) (.bin .eql .slice [] (.t 3) (.c .nils))])
  (c55_k1))
  (c55_k0)
def c55 : FnC := ⟨1, 8, [.tmp 2],
  .seq (.ops [0] [.p (some 2) (.move (.c .nils))])
  (c55_k2)⟩

/-! 4: gossamer/gossamerlaw08.PackPuts -/
def c4_k0 : C :=
  .seq (.drw [2] 0 [⟨.none, .p (some 91) (.move (.t 3)), [], 0⟩,
    ⟨.none, .call (some 92) 21 [(.t 91)], [0], 0⟩,
    ⟨.none, .p (some 93) (.conv .bytesStr (.t 92)), [1], 0⟩,
    ⟨.none, .p (some 94) (.move (.t 4)), [], 0⟩,
    ⟨.none, .p (some 95) (.conv .bytesStr (.t 94)), [3], 0⟩,
    ⟨.none, .p (some 96) (.bin .eql .str [] (.t 93) (.t 95)), [2, 4], 0⟩,
    ⟨.none, .p (some 2) (.move (.t 96)), [5, 1, 0, 1, 2, 3, 4, 5], 0⟩])
  (.ret)
def c4_k1 : C :=
  .ops [3, 4, 7, 80, 81] [.p (some 84) (.move (.t 7)),
    .p (some 85) (.move (.t 8)),
    .p (some 86) (.iaddr 1 (.t 84) (.t 85)),
    .p (some 87) (.load false 1 (.t 86)),
    .p (some 88) (.bin .xor .int [] (.t 87) (.c (.int .u8 1))),
    .p (some 89) (.iaddr 1 (.t 84) (.t 85)),
    .e .none (.store 1 (.t 89) (.t 88))]
def c4_k2 : C :=
  .seq (.block 4 (.seq (.ops [3, 4, 7, 8, 80, 81] [.p (some 83) (.move (.t 81)),
    .p (some 8) (.move (.t 83))])
  (c4_k1)))
  (.ops [3, 4, 7, 80, 81] [.p (some 90) (.bin .add .int [] (.t 81) (.c (.int .i64 1))),
    .p (some 81) (.move (.t 90))])
def c4_k3 : C :=
  .seq (.cond (.t 82)
    (.skip)
    (.exit 3))
  (c4_k2)
def c4_l4 : C :=
  .seq (.ops [3, 4, 7, 80, 81, 82] [.p (some 82) (.bin .lss .int [] (.t 81) (.t 80))])
  (c4_k3)
def c4_k5 : C :=
  .block 3 (.loop [3, 4, 7, 80, 81] c4_l4)
def c4_k6 : C :=
  .seq (.seq (.ops [3, 4, 7, 80, 81] [.p (some 79) (.move (.t 7)),
    .p (some 80) (.len .slice (.t 79)),
    .p (some 81) (.move (.c (.int .i64 0)))])
  (c4_k5))
  (c4_k0)
def c4_k7 : C :=
  .seq (.ops [3, 4, 7] [.p (some 77) (.move (.t 3)),
    .call (some 78) 21 [(.t 77)],
    .p (some 7) (.move (.t 78))])
  (c4_k6)
def c4_k8 : C :=
  .cond (.t 75)
    (.seq (.ops [2] [.p (some 2) (.move (.c (.bool false)))])
    (.ret))
    (.skip)
def c4_k9 : C :=
  .seq (.drw [3, 4, 16, 17, 18, 75] 0 [⟨.none, .p (some 70) (.move (.t 3)), [], 0⟩,
    ⟨.none, .call (some 71) 21 [(.t 70)], [0], 0⟩,
    ⟨.none, .p (some 72) (.conv .bytesStr (.t 71)), [1], 0⟩,
    ⟨.none, .p (some 73) (.move (.t 4)), [], 0⟩,
    ⟨.none, .p (some 74) (.conv .bytesStr (.t 73)), [3], 0⟩,
    ⟨.none, .p (some 75) (.bin .neq .str [] (.t 72) (.t 74)), [2, 4], 0⟩])
  (c4_k8)
def c4_k10 : C :=
  .ops [3, 4, 16, 17, 18] [.p (some 41) (.move (.t 4)),
    .p (some 42) (.faddr 2 (.t 6)),
    .p (some 43) (.load false 1 (.t 42)),
    .p (some 44) (.faddr 1 (.t 6)),
    .p (some 45) (.load false 1 (.t 44)),
    .call (some 46) 14 [(.t 43), (.t 45)],
    .e (some 47) (.append 5 1 1 (.t 41) (.t 46)),
    .p (some 4) (.move (.t 47))]
def c4_k11 : C :=
  .seq (.ops [3, 4, 6, 16, 17, 18] [.p (some 35) (.move (.t 3)),
      .p (some 36) (.faddr 2 (.t 6)),
      .p (some 37) (.load false 1 (.t 36)),
      .p (some 38) (.faddr 1 (.t 6)),
      .p (some 39) (.load false 1 (.t 38)),
      .call (some 40) 13 [(.t 35), (.t 37), (.t 39)]])
    (c4_k10)
def c4_k12 : C :=
  .ops [3, 4, 16, 17, 18] [.p (some 54) (.move (.t 4)),
    .p (some 55) (.faddr 1 (.t 6)),
    .p (some 56) (.load false 1 (.t 55)),
    .call (some 57) 16 [(.t 56)],
    .e (some 58) (.append 5 1 1 (.t 54) (.t 57)),
    .p (some 4) (.move (.t 58))]
def c4_k13 : C :=
  .ops [3, 4, 16, 17, 18] [.p (some 65) (.move (.t 4)),
    .p (some 66) (.faddr 3 (.t 6)),
    .p (some 67) (.load false 1 (.t 66)),
    .call (some 68) 18 [(.t 67)],
    .e (some 69) (.append 5 1 1 (.t 65) (.t 68)),
    .p (some 4) (.move (.t 69))]
def c4_k14 : C :=
  .ops [3, 4, 16, 17, 18] [.p (some 28) (.move (.t 4)),
    .p (some 29) (.faddr 4 (.t 6)),
    .p (some 30) (.load true 32 (.t 29)),
    .call (some 31) 20 [(.t 30)],
    .e (some 32) (.append 5 1 1 (.t 28) (.t 31)),
    .p (some 4) (.move (.t 32))]
def c4_k15 : C :=
  .cond (.t 59)
    (.seq (.ops [3, 4, 6, 16, 17, 18] [.p (some 61) (.move (.t 3)),
      .p (some 62) (.faddr 3 (.t 6)),
      .p (some 63) (.load false 1 (.t 62)),
      .call (some 64) 17 [(.t 61), (.t 63)]])
    (c4_k13))
    (.seq (.ops [3, 4, 6, 16, 17, 18] [.p (some 24) (.move (.t 3)),
      .p (some 25) (.faddr 4 (.t 6)),
      .p (some 26) (.load true 32 (.t 25)),
      .call (some 27) 19 [(.t 24), (.t 26)]])
    (c4_k14))
def c4_k16 : C :=
  .seq (.ops [3, 4, 6, 16, 17, 18, 59] [.p (some 60) (.bin .eql .int [] (.t 23) (.c (.int .i64 2))),
      .p (some 59) (.move (.t 60))])
    (c4_k15)
def c4_k17 : C :=
  .cond (.t 48)
    (.seq (.ops [3, 4, 6, 16, 17, 18] [.p (some 50) (.move (.t 3)),
      .p (some 51) (.faddr 1 (.t 6)),
      .p (some 52) (.load false 1 (.t 51)),
      .call (some 53) 15 [(.t 50), (.t 52)]])
    (c4_k12))
    (c4_k16)
def c4_k18 : C :=
  .seq (.ops [3, 4, 6, 16, 17, 18, 23, 48] [.p (some 49) (.bin .eql .int [] (.t 23) (.c (.int .i64 1))),
      .p (some 48) (.move (.t 49))])
    (c4_k17)
def c4_k19 : C :=
  .cond (.t 33)
    (c4_k11)
    (c4_k18)
def c4_k20 : C :=
  .seq (.ops [3, 4, 6, 16, 17, 18, 23, 33] [.p (some 34) (.bin .eql .int [] (.t 23) (.c (.int .i64 0))),
    .p (some 33) (.move (.t 34))])
  (c4_k19)
def c4_k21 : C :=
  .block 2 (c4_k20)
def c4_k22 : C :=
  .seq (.seq (.ops [3, 4, 6, 16, 17, 18, 23] [.p (some 22) (.faddr 0 (.t 6)),
    .p (some 23) (.load false 1 (.t 22))])
  (c4_k21))
  (c4_k9)
def c4_k23 : C :=
  .seq (.ops [3, 4, 6, 16, 17, 18] [.p (some 20) (.iaddr 36 (.t 16) (.t 18)),
    .p (some 21) (.load true 36 (.t 20)),
    .e (some 6) (.alloc [(.d (.int .i64 0)), (.d (.int .i64 0)), (.d (.int .u64 0)), (.d (.str [])), (.d (.int .u8 0)), (.d (.int .u8 0)), (.d (.int .u8 0)), (.d (.int .u8 0)), (.d (.int .u8 0)), (.d (.int .u8 0)), (.d (.int .u8 0)), (.d (.int .u8 0)), (.d (.int .u8 0)), (.d (.int .u8 0)), (.d (.int .u8 0)), (.d (.int .u8 0)), (.d (.int .u8 0)), (.d (.int .u8 0)), (.d (.int .u8 0)), (.d (.int .u8 0)), (.d (.int .u8 0)), (.d (.int .u8 0)), (.d (.int .u8 0)), (.d (.int .u8 0)), (.d (.int .u8 0)), (.d (.int .u8 0)), (.d (.int .u8 0)), (.d (.int .u8 0)), (.d (.int .u8 0)), (.d (.int .u8 0)), (.d (.int .u8 0)), (.d (.int .u8 0)), (.d (.int .u8 0)), (.d (.int .u8 0)), (.d (.int .u8 0)), (.d (.int .u8 0))]),
    .e .none (.store 36 (.t 6) (.t 21))])
  (c4_k22)
def c4_k24 : C :=
  .seq (.block 1 (c4_k23))
  (.ops [3, 4, 16, 17, 18] [.p (some 76) (.bin .add .int [] (.t 18) (.c (.int .i64 1))),
    .p (some 18) (.move (.t 76))])
def c4_k25 : C :=
  .seq (.cond (.t 19)
    (.skip)
    (.exit 0))
  (c4_k24)
def c4_l26 : C :=
  .seq (.ops [3, 4, 16, 17, 18, 19] [.p (some 19) (.bin .lss .int [] (.t 18) (.t 17))])
  (c4_k25)
def c4_k27 : C :=
  .block 0 (.loop [3, 4, 16, 17, 18] c4_l26)
def c4_k28 : C :=
  .seq (.seq (.ops [3, 4, 16, 17, 18] [.p (some 16) (.move (.t 0)),
    .p (some 17) (.len .slice (.t 16)),
    .p (some 18) (.move (.c (.int .i64 0)))])
  (c4_k27))
  (c4_k7)
def c4_k29 : C :=
  .seq (.ops [0, 3, 4] [.p (some 15) (.bslice 5 0 1 [(.int .u8 0)] []),
    .p (some 4) (.move (.t 15))])
  (c4_k28)
def c4_k30 : C :=
  .seq (.ops [0, 3] [.p (some 13) (.build [.nils] []),
    .e (some 14) (.box (.t 13)),
    .p (some 3) (.move (.t 14))])
  (c4_k29)
def c4_k31 : C :=
  .cond (.t 12)
    (.seq (.ops [2] [.p (some 2) (.move (.c (.bool true)))])
    (.ret))
    (.skip)
def c4_k32 : C :=
  .seq (.seq (.ops [0, 12] [.p (some 11) (.move (.t 0)),
    .call (some 12) 12 [(.t 11)]])
  (c4_k31))
  (c4_k30)
def c4_k33 : C :=
  .cond (.t 10)
    (.seq (.ops [2] [.p (some 2) (.move (.c (.bool false)))])
    (.ret))
    (.skip)
def c4_k34 : C :=
  .seq (.seq (.ops [0, 10] [.call (some 9) 11 [],
    .p (some 10) (.una .not (.t 9))])
  (c4_k33))
  (c4_k32)
def c4 : FnC := ⟨1, 97, [.tmp 2],
  .seq (.ops [0] [.p (some 2) (.move (.c (.bool false)))])
  (c4_k34)⟩

/-! 11: gossamer/gossamerlaw08.alive -/
def c11_k0 : C :=
  .seq (.ops [0] [.p (some 9) (.move (.t 1)),
    .call (some 10) 21 [(.t 9)],
    .p (some 11) (.conv .bytesStr (.t 10)),
    .p (some 12) (.bin .eql .str [] (.t 11) (.c (.str [253, 253, 0]))),
    .p (some 13) (.move (.t 12)),
    .when 13 true [.p (some 14) (.move (.t 2)),
      .call (some 15) 26 [(.t 14), (.c (.int .i64 253))],
      .p (some 16) (.bin .eql .int [] (.t 15) (.c (.int .i64 253)))],
    .p (some 17) (.pick (.t 13) (.t 16) (.c (.bool false))),
    .p (some 18) (.move (.t 17)),
    .when 18 true [.p (some 19) (.move (.t 2)),
      .call (some 20) 32 [(.t 19)],
      .p (some 21) (.bin .eql .iface [] (.t 20) (.c .nili))],
    .p (some 22) (.pick (.t 18) (.t 21) (.c (.bool false))),
    .p (some 23) (.move (.t 22)),
    .when 23 true [.p (some 24) (.bslice 5 3 1 [(.int .u8 0)] [(0, (.c (.int .u8 253))), (1, (.c (.int .u8 1))), (2, (.c (.int .u8 0)))]),
      .call (some 25) 22 [(.t 24)],
      .call (some 26) 26 [(.t 25), (.c (.int .i64 9))],
      .p (some 27) (.bin .eql .int [] (.t 26) (.c (.int .i64 0)))],
    .p (some 28) (.pick (.t 23) (.t 27) (.c (.bool false))),
    .p (some 0) (.move (.t 28))])
  (.ret)
def c11_k1 : C :=
  .seq (.ops [1, 2, 16, 21, 27] [.p (some 7) (.bslice 5 3 1 [(.int .u8 0)] [(0, (.c (.int .u8 253))), (1, (.c (.int .u8 253))), (2, (.c (.int .u8 0)))]),
    .call (some 8) 22 [(.t 7)],
    .p (some 2) (.move (.t 8))])
  (c11_k0)
def c11_k2 : C :=
  .seq (.ops [1, 16, 21, 27] [.p (some 5) (.move (.t 1)),
    .call (some 6) 15 [(.t 5), (.c (.int .i64 253))]])
  (c11_k1)
def c11_k3 : C :=
  .seq (.ops [1, 16, 21, 27] [.p (some 3) (.build [.nils] []),
    .e (some 4) (.box (.t 3)),
    .p (some 1) (.move (.t 4))])
  (c11_k2)
def c11 : FnC := ⟨0, 29, [.tmp 0],
  .seq (.ops [16, 21, 27] [.p (some 0) (.move (.c (.bool false)))])
  (c11_k3)⟩

/-! 15: (*gossamer/pack.Out).Count -/
def c15_k0 : C :=
  .ops [] [.p (some 30) (.move (.t 0)),
    .p (some 31) (.move (.t 1)),
    .p (some 32) (.conv (.int .u64) (.t 31)),
    .p (some 33) (.move (.t 5)),
    .call (some 34) 13 [(.t 30), (.t 32), (.t 33)]]
def c15_k1 : C :=
  .cond (.t 19)
    (.ops [0, 1, 5] [.p (some 20) (.move (.t 0)),
      .p (some 21) (.move (.t 0)),
      .p (some 22) (.nilCheck (.t 21)),
      .p (some 23) (.faddr 0 (.t 22)),
      .p (some 24) (.load false 1 (.t 23)),
      .p (some 25) (.move (.t 4)),
      .p (some 26) (.bslice 5 1 1 [(.int .u8 0)] [(0, (.t 25))]),
      .e (some 27) (.append 5 1 1 (.t 24) (.t 26)),
      .p (some 28) (.nilCheck (.t 20)),
      .p (some 29) (.faddr 0 (.t 28)),
      .e .none (.store 1 (.t 29) (.t 27))])
    (.skip)
def c15_k2 : C :=
  .seq (.seq (.ops [0, 1, 4, 5, 19] [.p (some 18) (.move (.t 4)),
    .p (some 19) (.bin .neq .int [] (.t 18) (.c (.int .u8 0)))])
  (c15_k1))
  (c15_k0)
def c15_k3 : C :=
  .seq (.ops [0, 1, 4, 5] [.p (some 13) (.move (.t 1)),
    .p (some 14) (.conv (.int .u64) (.t 13)),
    .call (some 15) 39 [(.t 14)],
    .p (some 12) (.move (.t 15)),
    .p (some 16) (.extract (.t 12) 0),
    .p (some 17) (.extract (.t 12) 1),
    .p (some 4) (.move (.t 16)),
    .p (some 5) (.move (.t 17))])
  (c15_k2)
def c15_k4 : C :=
  .cond (.t 11)
    (.ret)
    (.skip)
def c15 : FnC := ⟨2, 35, [],
  .seq (.seq (.ops [0, 1, 11] [.p (some 6) (.move (.t 0)),
    .p (some 7) (.bin .eql .ptr [] (.t 6) (.c .nilp)),
    .p (some 8) (.move (.t 7)),
    .when 8 false [.p (some 9) (.move (.t 1)),
      .p (some 10) (.bin .lss .int [] (.t 9) (.c (.int .i64 0)))],
    .p (some 11) (.pick (.t 8) (.c (.bool true)) (.t 10))])
  (c15_k4))
  (c15_k3)⟩

/-! 39: gossamer/pack.form -/
def c39_k0 : C :=
  .seq (.ops [2, 3] [.p (some 2) (.move (.c (.int .u8 255))),
    .p (some 3) (.move (.c (.int .i64 8)))])
  (.ret)
def c39_k1 : C :=
  .cond (.t 10)
    (.seq (.ops [2, 3] [.p (some 2) (.move (.c (.int .u8 254))),
      .p (some 3) (.move (.c (.int .i64 4)))])
    (.ret))
    (.skip)
def c39_k2 : C :=
  .cond (.t 7)
    (.seq (.ops [2, 3] [.p (some 2) (.move (.c (.int .u8 253))),
      .p (some 3) (.move (.c (.int .i64 2)))])
    (.ret))
    (.seq (.ops [10] [.p (some 11) (.move (.t 0)),
      .p (some 12) (.bin .leq .int [] (.t 11) (.c (.int .u64 4294967295))),
      .p (some 10) (.move (.t 12))])
    (c39_k1))
def c39_k3 : C :=
  .seq (.ops [0, 7] [.p (some 8) (.move (.t 0)),
      .p (some 9) (.bin .leq .int [] (.t 8) (.c (.int .u64 65535))),
      .p (some 7) (.move (.t 9))])
    (c39_k2)
def c39_k4 : C :=
  .cond (.t 4)
    (.seq (.ops [2, 3] [.p (some 2) (.move (.c (.int .u8 0))),
      .p (some 3) (.move (.c (.int .i64 1)))])
    (.ret))
    (c39_k3)
def c39_k5 : C :=
  .seq (.ops [0, 4] [.p (some 5) (.move (.t 0)),
    .p (some 6) (.bin .lss .int [] (.t 5) (.c (.int .u64 253))),
    .p (some 4) (.move (.t 6))])
  (c39_k4)
def c39_k6 : C :=
  .seq (.block 0 (c39_k5))
  (c39_k0)
def c39 : FnC := ⟨1, 13, [.tmp 2, .tmp 3],
  .seq (.ops [0] [.p (some 2) (.move (.c (.int .u8 0))),
    .p (some 3) (.move (.c (.int .i64 0)))])
  (c39_k6)⟩

/-! 13: (*gossamer/pack.Out).Num -/
def c13_k0 : C :=
  .drw [0, 1, 14, 15] 1 [⟨.none, .p (some 18) (.move (.t 0)), [], 0⟩,
    ⟨.none, .p (some 19) (.move (.t 0)), [], 0⟩,
    ⟨.none, .p (some 20) (.nilCheck (.t 19)), [1], 0⟩,
    ⟨.none, .p (some 21) (.faddr 0 (.t 20)), [2], 0⟩,
    ⟨.none, .p (some 22) (.load false 1 (.t 21)), [3], 0⟩,
    ⟨.none, .p (some 23) (.move (.t 1)), [], 0⟩,
    ⟨.none, .p (some 24) (.move (.t 6)), [], 0⟩,
    ⟨.none, .p (some 25) (.bin .mul .int [] (.c (.int .i64 8)) (.t 24)), [6], 0⟩,
    ⟨.none, .p (some 26) (.bin .shr .int [] (.t 23) (.t 25)), [5, 7], 0⟩,
    ⟨.none, .p (some 27) (.conv (.int .u8) (.t 26)), [8], 0⟩,
    ⟨.none, .p (some 28) (.bslice 5 1 1 [(.int .u8 0)] [(0, (.t 27))]), [9], 0⟩,
    ⟨.none, .e (some 29) (.append 5 1 1 (.t 22) (.t 28)), [4, 10], 0⟩,
    ⟨.none, .p (some 30) (.nilCheck (.t 18)), [0, 0, 1, 2, 3, 4, 5, 6, 7, 8, 9, 10, 11], 1⟩,
    ⟨.none, .p (some 31) (.faddr 0 (.t 30)), [12, 0, 1, 2, 3, 4, 5, 6, 7, 8, 9, 10, 11], 1⟩,
    ⟨.none, .e .none (.store 1 (.t 31) (.t 29)), [13, 11, 11, 0, 1, 2, 3, 4, 5, 6, 7, 8, 9, 10, 11], 1⟩]
def c13_k1 : C :=
  .seq (.ops [0, 1, 6, 14, 15] [.p (some 17) (.move (.t 15)),
    .p (some 6) (.move (.t 17))])
  (c13_k0)
def c13_k2 : C :=
  .seq (.block 1 (c13_k1))
  (.ops [0, 1, 14, 15] [.p (some 32) (.bin .add .int [] (.t 15) (.c (.int .i64 1))),
    .p (some 15) (.move (.t 32))])
def c13_k3 : C :=
  .seq (.cond (.t 16)
    (.skip)
    (.exit 0))
  (c13_k2)
def c13_l4 : C :=
  .seq (.ops [0, 1, 14, 15, 16] [.p (some 16) (.bin .lss .int [] (.t 15) (.t 14))])
  (c13_k3)
def c13_k5 : C :=
  .block 0 (.loop [0, 1, 14, 15] c13_l4)
def c13_k6 : C :=
  .seq (.ops [0, 1, 14, 15] [.p (some 14) (.move (.t 2)),
    .p (some 15) (.move (.c (.int .i64 0)))])
  (c13_k5)
def c13_k7 : C :=
  .cond (.t 13)
    (.ret)
    (.skip)
def c13 : FnC := ⟨3, 33, [],
  .seq (.seq (.ops [0, 1, 2, 13] [.p (some 7) (.move (.t 0)),
    .p (some 8) (.bin .eql .ptr [] (.t 7) (.c .nilp)),
    .p (some 9) (.move (.t 8)),
    .when 9 false [.p (some 10) (.move (.t 2)),
      .call (some 11) 38 [(.t 10)],
      .p (some 12) (.una .not (.t 11))],
    .p (some 13) (.pick (.t 9) (.c (.bool true)) (.t 12))])
  (c13_k7))
  (c13_k6)⟩

/-! 38: gossamer/pack.sized -/
def c38_k0 : C :=
  .seq (.ops [2] [.p (some 3) (.move (.t 0)),
    .p (some 4) (.bin .eql .int [] (.t 3) (.c (.int .i64 1))),
    .p (some 5) (.move (.t 4)),
    .when 5 false [.p (some 6) (.move (.t 0)),
      .p (some 7) (.bin .eql .int [] (.t 6) (.c (.int .i64 2)))],
    .p (some 8) (.pick (.t 5) (.c (.bool true)) (.t 7)),
    .p (some 9) (.move (.t 8)),
    .when 9 false [.p (some 10) (.move (.t 0)),
      .p (some 11) (.bin .eql .int [] (.t 10) (.c (.int .i64 4)))],
    .p (some 12) (.pick (.t 9) (.c (.bool true)) (.t 11)),
    .p (some 13) (.move (.t 12)),
    .when 13 false [.p (some 14) (.move (.t 0)),
      .p (some 15) (.bin .eql .int [] (.t 14) (.c (.int .i64 8)))],
    .p (some 16) (.pick (.t 13) (.c (.bool true)) (.t 15)),
    .p (some 2) (.move (.t 16))])
  (.ret)
def c38 : FnC := ⟨1, 17, [.tmp 2],
  .seq (.ops [0, 7, 11, 15] [.p (some 2) (.move (.c (.bool false)))])
  (c38_k0)⟩

/-! 22: gossamer/pack.Read -/
def c22_k0 : C :=
  .seq (.ops [2] [.p (some 3) (.move (.t 0)),
    .call (some 4) 40 [(.t 3)],
    .p (some 5) (.build [.nils, (.bool false)] [(0, 1, (.t 4))]),
    .e (some 6) (.box (.t 5)),
    .p (some 2) (.move (.t 6))])
  (.ret)
def c22 : FnC := ⟨1, 7, [.tmp 2],
  .seq (.ops [0] [.p (some 2) (.move (.c .nilp))])
  (c22_k0)⟩

/-! 21: (*gossamer/pack.Out).Bytes -/
def c21_k0 : C :=
  .seq (.ops [2] [.p (some 5) (.move (.t 0)),
    .p (some 6) (.nilCheck (.t 5)),
    .p (some 7) (.faddr 0 (.t 6)),
    .p (some 8) (.load false 1 (.t 7)),
    .call (some 9) 40 [(.t 8)],
    .p (some 2) (.move (.t 9))])
  (.ret)
def c21_k1 : C :=
  .cond (.t 4)
    (.seq (.ops [2] [.p (some 2) (.move (.c .nils))])
    (.ret))
    (.skip)
def c21_k2 : C :=
  .seq (.seq (.ops [0, 4] [.p (some 3) (.move (.t 0)),
    .p (some 4) (.bin .eql .ptr [] (.t 3) (.c .nilp))])
  (c21_k1))
  (c21_k0)
def c21 : FnC := ⟨1, 10, [.tmp 2],
  .seq (.ops [0] [.p (some 2) (.move (.c .nils))])
  (c21_k2)⟩

/-! 26: (*gossamer/pack.In).Count -/
def c26_k0 : C :=
  .seq (.ops [4] [.p (some 51) (.move (.t 5)),
    .p (some 52) (.conv (.int .i64) (.t 51)),
    .p (some 4) (.move (.t 52))])
  (.ret)
def c26_k1 : C :=
  .cond (.t 48)
    (.seq (.ops [] [.p (some 49) (.move (.t 0)),
      .call (some 50) 42 [(.t 49)]])
    (.seq (.ops [4] [.p (some 4) (.move (.c (.int .i64 0)))])
  (.ret)))
    (.skip)
def c26_k2 : C :=
  .seq (.seq (.ops [0, 5, 48] [.p (some 31) (.move (.t 0)),
    .p (some 32) (.bin .eql .ptr [] (.t 31) (.c .nilp)),
    .p (some 33) (.move (.t 32)),
    .when 33 false [.p (some 34) (.move (.t 0)),
      .p (some 35) (.nilCheck (.t 34)),
      .p (some 36) (.faddr 1 (.t 35)),
      .p (some 37) (.load false 1 (.t 36))],
    .p (some 38) (.pick (.t 33) (.c (.bool true)) (.t 37)),
    .p (some 39) (.move (.t 38)),
    .when 39 false [.p (some 40) (.move (.t 1)),
      .p (some 41) (.bin .lss .int [] (.t 40) (.c (.int .i64 0)))],
    .p (some 42) (.pick (.t 39) (.c (.bool true)) (.t 41)),
    .p (some 43) (.move (.t 42)),
    .when 43 false [.p (some 44) (.move (.t 5)),
      .p (some 45) (.move (.t 1)),
      .p (some 46) (.conv (.int .u64) (.t 45)),
      .p (some 47) (.bin .gtr .int [] (.t 44) (.t 46))],
    .p (some 48) (.pick (.t 43) (.c (.bool true)) (.t 47))])
  (c26_k1))
  (c26_k0)
def c26_k3 : C :=
  .cond (.t 28)
    (.ops [0, 1, 5, 37, 41, 47] [.p (some 29) (.move (.t 0)),
      .call (some 30) 42 [(.t 29)]])
    (.skip)
def c26_k4 : C :=
  .seq (.ops [0, 1, 5, 28, 37, 41, 47] [.p (some 26) (.move (.t 8)),
    .p (some 27) (.move (.t 7)),
    .p (some 28) (.bin .neq .int [] (.t 26) (.t 27))])
  (c26_k3)
def c26_k5 : C :=
  .seq (.ops [0, 1, 5, 7, 8, 37, 41, 47] [.p (some 22) (.move (.t 5)),
    .call (some 23) 39 [(.t 22)],
    .p (some 21) (.move (.t 23)),
    .p (some 24) (.extract (.t 21) 0),
    .p (some 25) (.extract (.t 21) 1),
    .p (some 8) (.move (.t 24)),
    .p (some 9) (.move (.t 25))])
  (c26_k4)
def c26_k6 : C :=
  .seq (.ops [0, 1, 5, 7, 37, 41, 47] [.p (some 18) (.move (.t 0)),
    .p (some 19) (.move (.t 6)),
    .call (some 20) 24 [(.t 18), (.t 19)],
    .p (some 5) (.move (.t 20))])
  (c26_k5)
def c26_k7 : C :=
  .seq (.ops [0, 1, 6, 7, 37, 41, 47] [.p (some 16) (.move (.t 5)),
      .p (some 17) (.conv (.int .u8) (.t 16)),
      .p (some 7) (.move (.t 17))])
    (c26_k6)
def c26_k8 : C :=
  .cond (.t 15)
    (c26_k7)
    (.skip)
def c26_k9 : C :=
  .seq (.ops [0, 1, 5, 6, 15, 37, 41, 47] [.p (some 14) (.move (.t 6)),
    .p (some 15) (.bin .gtr .int [] (.t 14) (.c (.int .i64 0)))])
  (c26_k8)
def c26_k10 : C :=
  .seq (.seq (.ops [0, 1, 5, 6, 37, 41, 47] [.p (some 12) (.move (.t 5)),
    .call (some 13) 44 [(.t 12)],
    .p (some 6) (.move (.t 13))])
  (c26_k9))
  (c26_k2)
def c26_k11 : C :=
  .seq (.ops [0, 1, 5, 37, 41, 47] [.p (some 10) (.move (.t 0)),
    .call (some 11) 24 [(.t 10), (.c (.int .i64 1))],
    .p (some 5) (.move (.t 11))])
  (c26_k10)
def c26 : FnC := ⟨2, 53, [.tmp 4],
  .seq (.ops [0, 1, 37, 41, 47] [.p (some 4) (.move (.c (.int .i64 0)))])
  (c26_k11)⟩

/-! 24: (*gossamer/pack.In).Num -/
def c24_k0 : C :=
  .seq (.ops [4] [.p (some 30) (.move (.t 5)),
    .p (some 4) (.move (.t 30))])
  (.ret)
def c24_k1 : C :=
  .ops [5, 15, 16, 17] [.p (some 22) (.move (.t 5)),
    .p (some 23) (.move (.t 7)),
    .p (some 24) (.conv (.int .u64) (.t 23)),
    .p (some 25) (.move (.t 6)),
    .p (some 26) (.bin .mul .int [] (.c (.int .i64 8)) (.t 25)),
    .p (some 27) (.bin .shl .int [] (.t 24) (.t 26)),
    .p (some 28) (.bin .or .int [] (.t 22) (.t 27)),
    .p (some 5) (.move (.t 28))]
def c24_k2 : C :=
  .seq (.ops [5, 6, 7, 15, 16, 17] [.p (some 19) (.move (.t 17)),
    .p (some 20) (.iaddr 1 (.t 15) (.t 17)),
    .p (some 21) (.load false 1 (.t 20)),
    .p (some 6) (.move (.t 19)),
    .p (some 7) (.move (.t 21))])
  (c24_k1)
def c24_k3 : C :=
  .seq (.block 1 (c24_k2))
  (.ops [5, 15, 16, 17] [.p (some 29) (.bin .add .int [] (.t 17) (.c (.int .i64 1))),
    .p (some 17) (.move (.t 29))])
def c24_k4 : C :=
  .seq (.cond (.t 18)
    (.skip)
    (.exit 0))
  (c24_k3)
def c24_l5 : C :=
  .seq (.ops [5, 15, 16, 17, 18] [.p (some 18) (.bin .lss .int [] (.t 17) (.t 16))])
  (c24_k4)
def c24_k6 : C :=
  .block 0 (.loop [5, 15, 16, 17] c24_l5)
def c24_k7 : C :=
  .seq (.seq (.ops [5, 15, 16, 17] [.p (some 13) (.move (.t 0)),
    .p (some 14) (.move (.t 1)),
    .call (some 15) 43 [(.t 13), (.t 14)],
    .p (some 16) (.len .slice (.t 15)),
    .p (some 17) (.move (.c (.int .i64 0)))])
  (c24_k6))
  (c24_k0)
def c24_k8 : C :=
  .seq (.ops [0, 1, 5] [.p (some 5) (.move (.c (.int .u64 0)))])
  (c24_k7)
def c24_k9 : C :=
  .cond (.t 10)
    (.seq (.ops [] [.p (some 11) (.move (.t 0)),
      .call (some 12) 42 [(.t 11)]])
    (.seq (.ops [4] [.p (some 4) (.move (.c (.int .u64 0)))])
  (.ret)))
    (.skip)
def c24_k10 : C :=
  .seq (.seq (.ops [0, 1, 10] [.p (some 8) (.move (.t 1)),
    .call (some 9) 38 [(.t 8)],
    .p (some 10) (.una .not (.t 9))])
  (c24_k9))
  (c24_k8)
def c24 : FnC := ⟨2, 31, [.tmp 4],
  .seq (.ops [0, 1] [.p (some 4) (.move (.c (.int .u64 0)))])
  (c24_k10)⟩

/-! 42: (*gossamer/pack.In).fail -/
def c42_k0 : C :=
  .cond (.t 3)
    (.ops [] [.p (some 4) (.move (.t 0)),
      .p (some 5) (.move (.t 0)),
      .p (some 6) (.nilCheck (.t 4)),
      .p (some 7) (.faddr 1 (.t 6)),
      .e .none (.store 1 (.t 7) (.c (.bool true))),
      .p (some 8) (.nilCheck (.t 5)),
      .p (some 9) (.faddr 0 (.t 8)),
      .e .none (.store 1 (.t 9) (.c .nils))])
    (.skip)
def c42 : FnC := ⟨1, 10, [],
  .seq (.ops [0, 3] [.p (some 2) (.move (.t 0)),
    .p (some 3) (.bin .neq .ptr [] (.t 2) (.c .nilp))])
  (c42_k0)⟩

/-! 43: (*gossamer/pack.In).next -/
def c43_k0 : C :=
  .seq (.ops [4] [.p (some 44) (.move (.t 5)),
    .p (some 4) (.move (.t 44))])
  (.ret)
def c43_k1 : C :=
  .seq (.ops [5] [.p (some 35) (.move (.t 0)),
    .p (some 36) (.move (.t 0)),
    .p (some 37) (.nilCheck (.t 36)),
    .p (some 38) (.faddr 0 (.t 37)),
    .p (some 39) (.load false 1 (.t 38)),
    .p (some 40) (.move (.t 1)),
    .p (some 41) (.slice 1 (.t 39) (some (.t 40)) .none .none),
    .p (some 42) (.nilCheck (.t 35)),
    .p (some 43) (.faddr 0 (.t 42)),
    .e .none (.store 1 (.t 43) (.t 41))])
  (c43_k0)
def c43_k2 : C :=
  .seq (.ops [0, 1, 5] [.p (some 29) (.move (.t 0)),
    .p (some 30) (.nilCheck (.t 29)),
    .p (some 31) (.faddr 0 (.t 30)),
    .p (some 32) (.load false 1 (.t 31)),
    .p (some 33) (.move (.t 1)),
    .p (some 34) (.slice 1 (.t 32) .none (some (.t 33)) .none),
    .p (some 5) (.move (.t 34))])
  (c43_k1)
def c43_k3 : C :=
  .cond (.t 26)
    (.seq (.ops [] [.p (some 27) (.move (.t 0)),
      .call (some 28) 42 [(.t 27)]])
    (.seq (.ops [4] [.p (some 4) (.move (.c .nils))])
  (.ret)))
    (.skip)
def c43_k4 : C :=
  .seq (.seq (.ops [0, 1, 26] [.p (some 6) (.move (.t 0)),
    .p (some 7) (.bin .eql .ptr [] (.t 6) (.c .nilp)),
    .p (some 8) (.move (.t 7)),
    .when 8 false [.p (some 9) (.move (.t 0)),
      .p (some 10) (.nilCheck (.t 9)),
      .p (some 11) (.faddr 1 (.t 10)),
      .p (some 12) (.load false 1 (.t 11))],
    .p (some 13) (.pick (.t 8) (.c (.bool true)) (.t 12)),
    .p (some 14) (.move (.t 13)),
    .when 14 false [.p (some 15) (.move (.t 1)),
      .p (some 16) (.bin .lss .int [] (.t 15) (.c (.int .i64 0)))],
    .p (some 17) (.pick (.t 14) (.c (.bool true)) (.t 16)),
    .p (some 18) (.move (.t 17)),
    .when 18 false [.p (some 19) (.move (.t 1)),
      .p (some 20) (.move (.t 0)),
      .p (some 21) (.nilCheck (.t 20)),
      .p (some 22) (.faddr 0 (.t 21)),
      .p (some 23) (.load false 1 (.t 22)),
      .p (some 24) (.len .slice (.t 23)),
      .p (some 25) (.bin .gtr .int [] (.t 19) (.t 24))],
    .p (some 26) (.pick (.t 18) (.c (.bool true)) (.t 25))])
  (c43_k3))
  (c43_k2)
def c43 : FnC := ⟨2, 45, [.tmp 4],
  .seq (.ops [0, 1, 12, 16, 25] [.p (some 4) (.move (.c .nils))])
  (c43_k4)⟩

/-! 44: gossamer/pack.size -/
def c44_k0 : C :=
  .cond (.t 8)
    (.seq (.ops [2] [.p (some 2) (.move (.c (.int .i64 8)))])
    (.ret))
    (.skip)
def c44_k1 : C :=
  .cond (.t 6)
    (.seq (.ops [2] [.p (some 2) (.move (.c (.int .i64 4)))])
    (.ret))
    (.seq (.ops [8] [.p (some 9) (.bin .eql .int [] (.t 3) (.c (.int .u64 255))),
      .p (some 8) (.move (.t 9))])
    (c44_k0))
def c44_k2 : C :=
  .seq (.ops [3, 6] [.p (some 7) (.bin .eql .int [] (.t 3) (.c (.int .u64 254))),
      .p (some 6) (.move (.t 7))])
    (c44_k1)
def c44_k3 : C :=
  .cond (.t 4)
    (.seq (.ops [2] [.p (some 2) (.move (.c (.int .i64 2)))])
    (.ret))
    (c44_k2)
def c44_k4 : C :=
  .seq (.ops [3, 4] [.p (some 5) (.bin .eql .int [] (.t 3) (.c (.int .u64 253))),
    .p (some 4) (.move (.t 5))])
  (c44_k3)
def c44_k5 : C :=
  .block 0 (c44_k4)
def c44_k6 : C :=
  .seq (.seq (.ops [3] [.p (some 3) (.move (.t 0))])
  (c44_k5))
  (.seq (.ops [2] [.p (some 2) (.move (.c (.int .i64 0)))])
  (.ret))
def c44 : FnC := ⟨1, 10, [.tmp 2],
  .seq (.ops [0] [.p (some 2) (.move (.c (.int .i64 0)))])
  (c44_k6)⟩

/-! 32: (*gossamer/pack.In).End -/
def c32_k0 : C :=
  .cond (.t 18)
    (.seq (.ops [2] [.p (some 19) (.mkif 81 (.c (.int .i64 2))),
      .p (some 2) (.move (.t 19))])
    (.ret))
    (.skip)
def c32_k1 : C :=
  .seq (.seq (.ops [18] [.p (some 3) (.move (.t 0)),
    .p (some 4) (.bin .eql .ptr [] (.t 3) (.c .nilp)),
    .p (some 5) (.move (.t 4)),
    .when 5 false [.p (some 6) (.move (.t 0)),
      .p (some 7) (.nilCheck (.t 6)),
      .p (some 8) (.faddr 1 (.t 7)),
      .p (some 9) (.load false 1 (.t 8))],
    .p (some 10) (.pick (.t 5) (.c (.bool true)) (.t 9)),
    .p (some 11) (.move (.t 10)),
    .when 11 false [.p (some 12) (.move (.t 0)),
      .p (some 13) (.nilCheck (.t 12)),
      .p (some 14) (.faddr 0 (.t 13)),
      .p (some 15) (.load false 1 (.t 14)),
      .p (some 16) (.len .slice (.t 15)),
      .p (some 17) (.bin .gtr .int [] (.t 16) (.c (.int .i64 0)))],
    .p (some 18) (.pick (.t 11) (.c (.bool true)) (.t 17))])
  (c32_k0))
  (.seq (.ops [2] [.p (some 2) (.move (.c .nili))])
  (.ret))
def c32 : FnC := ⟨1, 20, [.tmp 2],
  .seq (.ops [0, 9, 17] [.p (some 2) (.move (.c .nili))])
  (c32_k1)⟩

/-! 12: gossamer/gossamerlaw08.long -/
def c12_k0 : C :=
  .cond (.t 24)
    (.seq (.ops [2] [.p (some 2) (.move (.c (.bool true)))])
    (.ret))
    (.skip)
def c12_k1 : C :=
  .seq (.ops [3, 6, 7, 8, 23, 24] [.p (some 19) (.move (.t 4)),
    .p (some 20) (.bin .gtr .int [] (.t 19) (.c (.int .i64 40))),
    .p (some 21) (.move (.t 20)),
    .when 21 false [.p (some 22) (.move (.t 3)),
      .p (some 23) (.bin .gtr .int [] (.t 22) (.c (.int .i64 3000)))],
    .p (some 24) (.pick (.t 21) (.c (.bool true)) (.t 23))])
  (c12_k0)
def c12_k2 : C :=
  .seq (.ops [3, 4, 6, 7, 8, 23] [.p (some 13) (.move (.t 3)),
    .p (some 14) (.faddr 3 (.t 5)),
    .p (some 15) (.load false 1 (.t 14)),
    .p (some 16) (.len .str (.t 15)),
    .p (some 17) (.min [(.t 16), (.c (.int .i64 10000))]),
    .p (some 18) (.bin .add .int [] (.t 13) (.t 17)),
    .p (some 3) (.move (.t 18))])
  (c12_k1)
def c12_k3 : C :=
  .seq (.ops [3, 4, 5, 6, 7, 8, 23] [.p (some 10) (.move (.t 8)),
    .p (some 11) (.iaddr 36 (.t 6) (.t 8)),
    .p (some 12) (.load true 36 (.t 11)),
    .e (some 5) (.alloc [(.d (.int .i64 0)), (.d (.int .i64 0)), (.d (.int .u64 0)), (.d (.str [])), (.d (.int .u8 0)), (.d (.int .u8 0)), (.d (.int .u8 0)), (.d (.int .u8 0)), (.d (.int .u8 0)), (.d (.int .u8 0)), (.d (.int .u8 0)), (.d (.int .u8 0)), (.d (.int .u8 0)), (.d (.int .u8 0)), (.d (.int .u8 0)), (.d (.int .u8 0)), (.d (.int .u8 0)), (.d (.int .u8 0)), (.d (.int .u8 0)), (.d (.int .u8 0)), (.d (.int .u8 0)), (.d (.int .u8 0)), (.d (.int .u8 0)), (.d (.int .u8 0)), (.d (.int .u8 0)), (.d (.int .u8 0)), (.d (.int .u8 0)), (.d (.int .u8 0)), (.d (.int .u8 0)), (.d (.int .u8 0)), (.d (.int .u8 0)), (.d (.int .u8 0)), (.d (.int .u8 0)), (.d (.int .u8 0)), (.d (.int .u8 0)), (.d (.int .u8 0))]),
    .p (some 4) (.move (.t 10)),
    .e .none (.store 36 (.t 5) (.t 12))])
  (c12_k2)
def c12_k4 : C :=
  .seq (.block 1 (c12_k3))
  (.ops [3, 6, 7, 8, 23] [.p (some 25) (.bin .add .int [] (.t 8) (.c (.int .i64 1))),
    .p (some 8) (.move (.t 25))])
def c12_k5 : C :=
  .seq (.cond (.t 9)
    (.skip)
    (.exit 0))
  (c12_k4)
def c12_l6 : C :=
  .seq (.ops [3, 6, 7, 8, 9, 23] [.p (some 9) (.bin .lss .int [] (.t 8) (.t 7))])
  (c12_k5)
def c12_k7 : C :=
  .block 0 (.loop [3, 6, 7, 8, 23] c12_l6)
def c12_k8 : C :=
  .seq (.seq (.ops [3, 6, 7, 8, 23] [.p (some 6) (.move (.t 0)),
    .p (some 7) (.len .slice (.t 6)),
    .p (some 8) (.move (.c (.int .i64 0)))])
  (c12_k7))
  (.seq (.ops [2] [.p (some 2) (.move (.c (.bool false)))])
  (.ret))
def c12_k9 : C :=
  .seq (.ops [0, 3, 23] [.p (some 3) (.move (.c (.int .i64 0)))])
  (c12_k8)
def c12 : FnC := ⟨1, 26, [.tmp 2],
  .seq (.ops [0, 23] [.p (some 2) (.move (.c (.bool false)))])
  (c12_k9)⟩

/-! 14: gossamer/gossamerref08.Num -/
def c14_k0 : C :=
  .seq (.ops [4] [.p (some 35) (.move (.t 5)),
    .p (some 4) (.move (.t 35))])
  (.ret)
def c14_k1 : C :=
  .ops [0, 1, 5, 6] [.p (some 25) (.move (.t 6)),
    .p (some 26) (.bin .add .int [] (.t 25) (.c (.int .i64 1))),
    .p (some 6) (.move (.t 26))]
def c14_k2 : C :=
  .ops [0, 1, 5, 6] [.p (some 33) (.move (.t 0)),
    .p (some 34) (.bin .quo .int [] (.t 33) (.c (.int .u64 256))),
    .p (some 0) (.move (.t 34))]
def c14_k3 : C :=
  .seq (.block 1 (.seq (.ops [0, 1, 5, 6] [.p (some 27) (.move (.t 5)),
    .p (some 28) (.move (.t 0)),
    .p (some 29) (.bin .rem .int [] (.t 28) (.c (.int .u64 256))),
    .p (some 30) (.conv (.int .u8) (.t 29)),
    .p (some 31) (.bslice 5 1 1 [(.int .u8 0)] [(0, (.t 30))]),
    .e (some 32) (.append 5 1 1 (.t 27) (.t 31)),
    .p (some 5) (.move (.t 32))])
  (c14_k2)))
  (c14_k1)
def c14_k4 : C :=
  .cond (.t 24)
    (.skip)
    (.exit 0)
def c14_l5 : C :=
  .seq (.seq (.ops [0, 1, 5, 6, 24] [.p (some 22) (.move (.t 6)),
    .p (some 23) (.move (.t 1)),
    .p (some 24) (.bin .lss .int [] (.t 22) (.t 23))])
  (c14_k4))
  (c14_k3)
def c14_k6 : C :=
  .block 0 (.loop [0, 1, 5, 6] c14_l5)
def c14_k7 : C :=
  .seq (.seq (.ops [0, 1, 5, 6] [.p (some 6) (.move (.c (.int .i64 0)))])
  (c14_k6))
  (c14_k0)
def c14_k8 : C :=
  .cond (.t 20)
    (.seq (.ops [4] [.p (some 21) (.move (.t 5)),
      .p (some 4) (.move (.t 21))])
    (.ret))
    (.skip)
def c14_k9 : C :=
  .seq (.seq (.ops [0, 1, 5, 20] [.p (some 7) (.move (.t 1)),
    .p (some 8) (.bin .neq .int [] (.t 7) (.c (.int .i64 1))),
    .p (some 9) (.move (.t 8)),
    .when 9 true [.p (some 10) (.move (.t 1)),
      .p (some 11) (.bin .neq .int [] (.t 10) (.c (.int .i64 2)))],
    .p (some 12) (.pick (.t 9) (.t 11) (.c (.bool false))),
    .p (some 13) (.move (.t 12)),
    .when 13 true [.p (some 14) (.move (.t 1)),
      .p (some 15) (.bin .neq .int [] (.t 14) (.c (.int .i64 4)))],
    .p (some 16) (.pick (.t 13) (.t 15) (.c (.bool false))),
    .p (some 17) (.move (.t 16)),
    .when 17 true [.p (some 18) (.move (.t 1)),
      .p (some 19) (.bin .neq .int [] (.t 18) (.c (.int .i64 8)))],
    .p (some 20) (.pick (.t 17) (.t 19) (.c (.bool false)))])
  (c14_k8))
  (c14_k7)
def c14_k10 : C :=
  .seq (.ops [0, 1, 5, 11, 15, 19] [.p (some 5) (.move (.c .nils))])
  (c14_k9)
def c14 : FnC := ⟨2, 36, [.tmp 4],
  .seq (.ops [0, 1, 11, 15, 19] [.p (some 4) (.move (.c .nils))])
  (c14_k10)⟩

/-! 16: gossamer/gossamerref08.Count -/
def c16_k0 : C :=
  .seq (.ops [2] [.p (some 28) (.bslice 5 1 1 [(.int .u8 0)] [(0, (.c (.int .u8 255)))]),
    .p (some 29) (.move (.t 0)),
    .p (some 30) (.conv (.int .u64) (.t 29)),
    .call (some 31) 14 [(.t 30), (.c (.int .i64 8))],
    .e (some 32) (.append 5 1 1 (.t 28) (.t 31)),
    .p (some 2) (.move (.t 32))])
  (.ret)
def c16_k1 : C :=
  .cond (.t 20)
    (.seq (.ops [2] [.p (some 23) (.bslice 5 1 1 [(.int .u8 0)] [(0, (.c (.int .u8 254)))]),
      .p (some 24) (.move (.t 0)),
      .p (some 25) (.conv (.int .u64) (.t 24)),
      .call (some 26) 14 [(.t 25), (.c (.int .i64 4))],
      .e (some 27) (.append 5 1 1 (.t 23) (.t 26)),
      .p (some 2) (.move (.t 27))])
    (.ret))
    (.skip)
def c16_k2 : C :=
  .seq (.ops [0, 20] [.p (some 21) (.move (.t 0)),
      .p (some 22) (.bin .leq .int [] (.t 21) (.c (.int .i64 4294967295))),
      .p (some 20) (.move (.t 22))])
    (c16_k1)
def c16_k3 : C :=
  .cond (.t 12)
    (.seq (.ops [2] [.p (some 15) (.bslice 5 1 1 [(.int .u8 0)] [(0, (.c (.int .u8 253)))]),
      .p (some 16) (.move (.t 0)),
      .p (some 17) (.conv (.int .u64) (.t 16)),
      .call (some 18) 14 [(.t 17), (.c (.int .i64 2))],
      .e (some 19) (.append 5 1 1 (.t 15) (.t 18)),
      .p (some 2) (.move (.t 19))])
    (.ret))
    (c16_k2)
def c16_k4 : C :=
  .seq (.ops [0, 12] [.p (some 13) (.move (.t 0)),
      .p (some 14) (.bin .leq .int [] (.t 13) (.c (.int .i64 65535))),
      .p (some 12) (.move (.t 14))])
    (c16_k3)
def c16_k5 : C :=
  .cond (.t 6)
    (.seq (.ops [2] [.p (some 9) (.move (.t 0)),
      .p (some 10) (.conv (.int .u64) (.t 9)),
      .call (some 11) 14 [(.t 10), (.c (.int .i64 1))],
      .p (some 2) (.move (.t 11))])
    (.ret))
    (c16_k4)
def c16_k6 : C :=
  .seq (.ops [0, 6] [.p (some 7) (.move (.t 0)),
      .p (some 8) (.bin .leq .int [] (.t 7) (.c (.int .i64 252))),
      .p (some 6) (.move (.t 8))])
    (c16_k5)
def c16_k7 : C :=
  .cond (.t 3)
    (.seq (.ops [2] [.p (some 2) (.move (.c .nils))])
    (.ret))
    (c16_k6)
def c16_k8 : C :=
  .seq (.ops [0, 3] [.p (some 4) (.move (.t 0)),
    .p (some 5) (.bin .lss .int [] (.t 4) (.c (.int .i64 0))),
    .p (some 3) (.move (.t 5))])
  (c16_k7)
def c16_k9 : C :=
  .seq (.block 0 (c16_k8))
  (c16_k0)
def c16 : FnC := ⟨1, 33, [.tmp 2],
  .seq (.ops [0] [.p (some 2) (.move (.c .nils))])
  (c16_k9)⟩

/-! 17: (*gossamer/pack.Out).Text -/
def c17_k0 : C :=
  .ops [] [.p (some 10) (.move (.t 0)),
    .p (some 11) (.move (.t 0)),
    .p (some 12) (.nilCheck (.t 11)),
    .p (some 13) (.faddr 0 (.t 12)),
    .p (some 14) (.load false 1 (.t 13)),
    .p (some 15) (.move (.t 1)),
    .e (some 16) (.appendStr 5 (.t 14) (.t 15)),
    .p (some 17) (.nilCheck (.t 10)),
    .p (some 18) (.faddr 0 (.t 17)),
    .e .none (.store 1 (.t 18) (.t 16))]
def c17_k1 : C :=
  .seq (.ops [0, 1] [.p (some 6) (.move (.t 0)),
      .p (some 7) (.move (.t 1)),
      .p (some 8) (.len .str (.t 7)),
      .call (some 9) 15 [(.t 6), (.t 8)]])
    (c17_k0)
def c17_k2 : C :=
  .cond (.t 5)
    (c17_k1)
    (.skip)
def c17 : FnC := ⟨2, 19, [],
  .seq (.ops [0, 1, 5] [.p (some 4) (.move (.t 0)),
    .p (some 5) (.bin .neq .ptr [] (.t 4) (.c .nilp))])
  (c17_k2)⟩

/-! 18: gossamer/gossamerref08.Text -/
def c18_k0 : C :=
  .seq (.ops [2] [.p (some 3) (.move (.t 0)),
    .p (some 4) (.len .str (.t 3)),
    .call (some 5) 16 [(.t 4)],
    .p (some 6) (.move (.t 0)),
    .e (some 7) (.appendStr 5 (.t 5) (.t 6)),
    .p (some 2) (.move (.t 7))])
  (.ret)
def c18 : FnC := ⟨1, 8, [.tmp 2],
  .seq (.ops [0] [.p (some 2) (.move (.c .nils))])
  (c18_k0)⟩

/-! 19: (*gossamer/pack.Out).Hash -/
def c19_k0 : C :=
  .cond (.t 5)
    (.drw [] 1 [⟨.none, .p (some 6) (.move (.t 0)), [], 0⟩,
      ⟨.none, .p (some 7) (.move (.t 0)), [], 0⟩,
      ⟨.none, .p (some 8) (.nilCheck (.t 7)), [1], 0⟩,
      ⟨.none, .p (some 9) (.faddr 0 (.t 8)), [2], 0⟩,
      ⟨.none, .p (some 10) (.load false 1 (.t 9)), [3], 0⟩,
      ⟨.none, .p (some 11) (.sliceArr 32 1 (.t 3) .none .none), [], 0⟩,
      ⟨.none, .e (some 12) (.append 5 1 1 (.t 10) (.t 11)), [4, 5], 0⟩,
      ⟨.none, .p (some 13) (.nilCheck (.t 6)), [0, 0, 1, 2, 3, 4, 5, 6], 1⟩,
      ⟨.none, .p (some 14) (.faddr 0 (.t 13)), [7, 0, 1, 2, 3, 4, 5, 6], 1⟩,
      ⟨.none, .e .none (.store 1 (.t 14) (.t 12)), [8, 6, 6, 0, 1, 2, 3, 4, 5, 6], 1⟩])
    (.skip)
def c19_k1 : C :=
  .seq (.ops [0, 3, 5] [.p (some 4) (.move (.t 0)),
    .p (some 5) (.bin .neq .ptr [] (.t 4) (.c .nilp))])
  (c19_k0)
def c19 : FnC := ⟨2, 15, [],
  .seq (.ops [0, 3] [.e (some 3) (.box (.t 1))])
  (c19_k1)⟩

/-! 20: gossamer/gossamerref08.Hash -/
def c20_k0 : C :=
  .seq (.ops [2] [.p (some 15) (.move (.t 3)),
    .p (some 2) (.move (.t 15))])
  (.ret)
def c20_k1 : C :=
  .ops [1, 3, 4] [.p (some 7) (.move (.t 4)),
    .p (some 8) (.bin .add .int [] (.t 7) (.c (.int .i64 1))),
    .p (some 4) (.move (.t 8))]
def c20_k2 : C :=
  .seq (.block 1 (.ops [1, 3, 4] [.p (some 9) (.move (.t 3)),
    .p (some 10) (.move (.t 4)),
    .p (some 11) (.iaddrArr 32 1 (.t 1) (.t 10)),
    .p (some 12) (.load false 1 (.t 11)),
    .p (some 13) (.bslice 5 1 1 [(.int .u8 0)] [(0, (.t 12))]),
    .e (some 14) (.append 5 1 1 (.t 9) (.t 13)),
    .p (some 3) (.move (.t 14))]))
  (c20_k1)
def c20_k3 : C :=
  .cond (.t 6)
    (.skip)
    (.exit 0)
def c20_l4 : C :=
  .seq (.seq (.ops [1, 3, 4, 6] [.p (some 5) (.move (.t 4)),
    .p (some 6) (.bin .lss .int [] (.t 5) (.c (.int .i64 32)))])
  (c20_k3))
  (c20_k2)
def c20_k5 : C :=
  .block 0 (.loop [1, 3, 4] c20_l4)
def c20_k6 : C :=
  .seq (.seq (.ops [1, 3, 4] [.p (some 4) (.move (.c (.int .i64 0)))])
  (c20_k5))
  (c20_k0)
def c20_k7 : C :=
  .seq (.ops [1, 3] [.p (some 3) (.move (.c .nils))])
  (c20_k6)
def c20 : FnC := ⟨1, 16, [.tmp 2],
  .seq (.ops [1] [.e (some 1) (.box (.t 0)),
    .p (some 2) (.move (.c .nils))])
  (c20_k7)⟩

/-! 5: gossamer/gossamerlaw08.PackReads -/
def c5_k0 : C :=
  .seq (.ops [4] [.p (some 136) (.move (.t 20)),
    .p (some 137) (.bin .eql .iface [] (.t 136) (.c .nili)),
    .p (some 138) (.move (.t 137)),
    .when 138 false [.p (some 139) (.move (.t 20)),
      .call (some 140) 34 [(.t 139), (.c (.int .i64 2))]],
    .p (some 141) (.pick (.t 138) (.c (.bool true)) (.t 140)),
    .p (some 4) (.move (.t 141))])
  (.ret)
def c5_k1 : C :=
  .seq (.ops [20, 140] [.p (some 134) (.move (.t 6)),
    .call (some 135) 32 [(.t 134)],
    .p (some 20) (.move (.t 135))])
  (c5_k0)
def c5_k2 : C :=
  .cond (.t 132)
    (.seq (.ops [4] [.p (some 4) (.move (.c (.bool false)))])
    (.ret))
    (.skip)
def c5_k3 : C :=
  .seq (.drw [6, 7, 49, 50, 51, 118, 119, 120, 121, 122, 123, 126, 127, 128, 129, 130, 131, 132, 140] 0 [⟨.none, .p (some 115) (.move (.t 11)), [], 0⟩,
    ⟨.none, .p (some 116) (.una .not (.t 115)), [0], 0⟩,
    ⟨.none, .p (some 117) (.move (.t 116)), [1], 0⟩,
    ⟨(some (117, false)), .p (some 118) (.move (.t 6)), [2], 0⟩,
    ⟨(some (117, false)), .call (some 119) 31 [(.t 118)], [3, 2, 2], 0⟩,
    ⟨(some (117, false)), .p (some 120) (.faddr 0 (.t 7)), [2], 0⟩,
    ⟨(some (117, false)), .p (some 121) (.load false 1 (.t 120)), [5, 2], 0⟩,
    ⟨(some (117, false)), .p (some 122) (.len .slice (.t 121)), [6, 2], 0⟩,
    ⟨(some (117, false)), .p (some 123) (.bin .neq .int [] (.t 119) (.t 122)), [4, 7, 2], 0⟩,
    ⟨.none, .p (some 124) (.pick (.t 117) (.c (.bool true)) (.t 123)), [2, 8], 0⟩,
    ⟨.none, .p (some 125) (.move (.t 124)), [9, 4], 0⟩,
    ⟨(some (125, false)), .p (some 126) (.move (.t 6)), [10], 0⟩,
    ⟨(some (125, false)), .call (some 127) 32 [(.t 126)], [11, 10, 10], 0⟩,
    ⟨(some (125, false)), .p (some 128) (.bin .eql .iface [] (.t 127) (.c .nili)), [12, 10], 0⟩,
    ⟨(some (125, false)), .p (some 129) (.load true 2 (.t 7)), [10], 0⟩,
    ⟨(some (125, false)), .call (some 130) 33 [(.t 129)], [14, 12, 10], 0⟩,
    ⟨(some (125, false)), .p (some 131) (.bin .neq .bool [] (.t 128) (.t 130)), [13, 15, 10], 0⟩,
    ⟨.none, .p (some 132) (.pick (.t 125) (.c (.bool true)) (.t 131)), [10, 16], 0⟩])
  (c5_k2)
def c5_k4 : C :=
  .drw [6, 7, 11, 49, 50, 51, 118, 119, 120, 121, 122, 123, 126, 127, 128, 129, 130, 131, 140] 0 [⟨.none, .p (some 76) (.load true 2 (.t 12)), [], 0⟩,
    ⟨.none, .p (some 77) (.move (.t 6)), [], 0⟩,
    ⟨.none, .p (some 78) (.faddr 1 (.t 10)), [], 0⟩,
    ⟨.none, .p (some 79) (.load false 1 (.t 78)), [2], 0⟩,
    ⟨.none, .call (some 80) 24 [(.t 77), (.t 79)], [1, 3], 0⟩,
    ⟨.none, .p (some 81) (.move (.t 13)), [], 0⟩,
    ⟨.none, .p (some 82) (.bin .eql .int [] (.t 80) (.t 81)), [4, 5], 0⟩,
    ⟨.none, .e .none (.store 2 (.t 7) (.t 76)), [0, 4, 0], 0⟩,
    ⟨.none, .p (some 11) (.move (.t 82)), [6, 7, 0, 1, 2, 3, 4, 5, 6, 7], 0⟩]
def c5_k5 : C :=
  .seq (.ops [6, 7, 10, 12, 13, 49, 50, 51, 118, 119, 120, 121, 122, 123, 126, 127, 128, 129, 130, 131, 140] [.p (some 70) (.load true 2 (.t 7)),
      .p (some 71) (.faddr 1 (.t 10)),
      .p (some 72) (.load false 1 (.t 71)),
      .call (some 73) 23 [(.t 70), (.t 72)],
      .p (some 69) (.move (.t 73)),
      .p (some 74) (.extract (.t 69) 0),
      .p (some 75) (.extract (.t 69) 1),
      .e (some 12) (.alloc [(.d .nils), (.d (.bool false))]),
      .e .none (.store 2 (.t 12) (.t 74)),
      .p (some 13) (.move (.t 75))])
    (c5_k4)
def c5_k6 : C :=
  .drw [6, 7, 11, 49, 50, 51, 118, 119, 120, 121, 122, 123, 126, 127, 128, 129, 130, 131, 140] 0 [⟨.none, .p (some 92) (.load true 2 (.t 14)), [], 0⟩,
    ⟨.none, .p (some 93) (.move (.t 6)), [], 0⟩,
    ⟨.none, .p (some 94) (.faddr 1 (.t 10)), [], 0⟩,
    ⟨.none, .p (some 95) (.load false 1 (.t 94)), [2], 0⟩,
    ⟨.none, .call (some 96) 26 [(.t 93), (.t 95)], [1, 3], 0⟩,
    ⟨.none, .p (some 97) (.move (.t 15)), [], 0⟩,
    ⟨.none, .p (some 98) (.bin .eql .int [] (.t 96) (.t 97)), [4, 5], 0⟩,
    ⟨.none, .e .none (.store 2 (.t 7) (.t 92)), [0, 4, 0], 0⟩,
    ⟨.none, .p (some 11) (.move (.t 98)), [6, 7, 0, 1, 2, 3, 4, 5, 6, 7], 0⟩]
def c5_k7 : C :=
  .seq (.ops [6, 7, 10, 14, 15, 49, 50, 51, 118, 119, 120, 121, 122, 123, 126, 127, 128, 129, 130, 131, 140] [.p (some 86) (.load true 2 (.t 7)),
      .p (some 87) (.faddr 1 (.t 10)),
      .p (some 88) (.load false 1 (.t 87)),
      .call (some 89) 25 [(.t 86), (.t 88)],
      .p (some 85) (.move (.t 89)),
      .p (some 90) (.extract (.t 85) 0),
      .p (some 91) (.extract (.t 85) 1),
      .e (some 14) (.alloc [(.d .nils), (.d (.bool false))]),
      .e .none (.store 2 (.t 14) (.t 90)),
      .p (some 15) (.move (.t 91))])
    (c5_k6)
def c5_k8 : C :=
  .drw [6, 7, 11, 49, 50, 51, 118, 119, 120, 121, 122, 123, 126, 127, 128, 129, 130, 131, 140] 0 [⟨.none, .p (some 108) (.load true 2 (.t 16)), [], 0⟩,
    ⟨.none, .p (some 109) (.move (.t 6)), [], 0⟩,
    ⟨.none, .p (some 110) (.faddr 1 (.t 10)), [], 0⟩,
    ⟨.none, .p (some 111) (.load false 1 (.t 110)), [2], 0⟩,
    ⟨.none, .call (some 112) 28 [(.t 109), (.t 111)], [1, 3], 0⟩,
    ⟨.none, .p (some 113) (.move (.t 17)), [], 0⟩,
    ⟨.none, .p (some 114) (.bin .eql .str [] (.t 112) (.t 113)), [4, 5], 0⟩,
    ⟨.none, .e .none (.store 2 (.t 7) (.t 108)), [0, 4, 0], 0⟩,
    ⟨.none, .p (some 11) (.move (.t 114)), [6, 7, 0, 1, 2, 3, 4, 5, 6, 7], 0⟩]
def c5_k9 : C :=
  .seq (.ops [6, 7, 10, 16, 17, 49, 50, 51, 118, 119, 120, 121, 122, 123, 126, 127, 128, 129, 130, 131, 140] [.p (some 102) (.load true 2 (.t 7)),
      .p (some 103) (.faddr 1 (.t 10)),
      .p (some 104) (.load false 1 (.t 103)),
      .call (some 105) 27 [(.t 102), (.t 104)],
      .p (some 101) (.move (.t 105)),
      .p (some 106) (.extract (.t 101) 0),
      .p (some 107) (.extract (.t 101) 1),
      .e (some 16) (.alloc [(.d .nils), (.d (.bool false))]),
      .e .none (.store 2 (.t 16) (.t 106)),
      .p (some 17) (.move (.t 107))])
    (c5_k8)
def c5_k10 : C :=
  .drw [6, 7, 11, 49, 50, 51, 118, 119, 120, 121, 122, 123, 126, 127, 128, 129, 130, 131, 140] 0 [⟨.none, .p (some 62) (.load true 2 (.t 18)), [], 0⟩,
    ⟨.none, .p (some 63) (.move (.t 6)), [], 0⟩,
    ⟨.none, .call (some 64) 30 [(.t 63)], [1], 0⟩,
    ⟨.none, .p (some 65) (.load true 32 (.t 19)), [], 0⟩,
    ⟨.none, .p (some 66) (.bin .eql .flat (List.replicate 32 (.int .u8)) (.t 64) (.t 65)), [2, 3], 0⟩,
    ⟨.none, .e .none (.store 2 (.t 7) (.t 62)), [0, 2, 0], 0⟩,
    ⟨.none, .p (some 11) (.move (.t 66)), [4, 5, 0, 1, 2, 3, 4, 5], 0⟩]
def c5_k11 : C :=
  .seq (.ops [6, 7, 18, 19, 49, 50, 51, 118, 119, 120, 121, 122, 123, 126, 127, 128, 129, 130, 131, 140] [.p (some 58) (.load true 2 (.t 7)),
      .call (some 59) 29 [(.t 58)],
      .p (some 57) (.move (.t 59)),
      .p (some 60) (.extract (.t 57) 0),
      .p (some 61) (.extract (.t 57) 1),
      .e (some 18) (.alloc [(.d .nils), (.d (.bool false))]),
      .e (some 19) (.alloc (List.replicate 32 (.d (.int .u8 0)))),
      .e .none (.store 2 (.t 18) (.t 60)),
      .e .none (.store 32 (.t 19) (.t 61))])
    (c5_k10)
def c5_k12 : C :=
  .cond (.t 99)
    (c5_k9)
    (c5_k11)
def c5_k13 : C :=
  .seq (.ops [6, 7, 10, 49, 50, 51, 99, 118, 119, 120, 121, 122, 123, 126, 127, 128, 129, 130, 131, 140] [.p (some 100) (.bin .eql .int [] (.t 56) (.c (.int .i64 2))),
      .p (some 99) (.move (.t 100))])
    (c5_k12)
def c5_k14 : C :=
  .cond (.t 83)
    (c5_k7)
    (c5_k13)
def c5_k15 : C :=
  .seq (.ops [6, 7, 10, 49, 50, 51, 56, 83, 118, 119, 120, 121, 122, 123, 126, 127, 128, 129, 130, 131, 140] [.p (some 84) (.bin .eql .int [] (.t 56) (.c (.int .i64 1))),
      .p (some 83) (.move (.t 84))])
    (c5_k14)
def c5_k16 : C :=
  .cond (.t 67)
    (c5_k5)
    (c5_k15)
def c5_k17 : C :=
  .seq (.ops [6, 7, 10, 49, 50, 51, 56, 67, 118, 119, 120, 121, 122, 123, 126, 127, 128, 129, 130, 131, 140] [.p (some 68) (.bin .eql .int [] (.t 56) (.c (.int .i64 0))),
    .p (some 67) (.move (.t 68))])
  (c5_k16)
def c5_k18 : C :=
  .block 4 (c5_k17)
def c5_k19 : C :=
  .seq (.seq (.ops [6, 7, 10, 49, 50, 51, 56, 118, 119, 120, 121, 122, 123, 126, 127, 128, 129, 130, 131, 140] [.p (some 55) (.faddr 0 (.t 10)),
    .p (some 56) (.load false 1 (.t 55))])
  (c5_k18))
  (c5_k3)
def c5_k20 : C :=
  .seq (.ops [6, 7, 10, 49, 50, 51, 118, 119, 120, 121, 122, 123, 126, 127, 128, 129, 130, 131, 140] [.p (some 11) (.move (.c (.bool false)))])
  (c5_k19)
def c5_k21 : C :=
  .seq (.ops [6, 7, 10, 49, 50, 51, 118, 119, 120, 121, 122, 123, 126, 127, 128, 129, 130, 131, 140] [.p (some 53) (.iaddr 36 (.t 49) (.t 51)),
    .p (some 54) (.load true 36 (.t 53)),
    .e (some 10) (.alloc [(.d (.int .i64 0)), (.d (.int .i64 0)), (.d (.int .u64 0)), (.d (.str [])), (.d (.int .u8 0)), (.d (.int .u8 0)), (.d (.int .u8 0)), (.d (.int .u8 0)), (.d (.int .u8 0)), (.d (.int .u8 0)), (.d (.int .u8 0)), (.d (.int .u8 0)), (.d (.int .u8 0)), (.d (.int .u8 0)), (.d (.int .u8 0)), (.d (.int .u8 0)), (.d (.int .u8 0)), (.d (.int .u8 0)), (.d (.int .u8 0)), (.d (.int .u8 0)), (.d (.int .u8 0)), (.d (.int .u8 0)), (.d (.int .u8 0)), (.d (.int .u8 0)), (.d (.int .u8 0)), (.d (.int .u8 0)), (.d (.int .u8 0)), (.d (.int .u8 0)), (.d (.int .u8 0)), (.d (.int .u8 0)), (.d (.int .u8 0)), (.d (.int .u8 0)), (.d (.int .u8 0)), (.d (.int .u8 0)), (.d (.int .u8 0)), (.d (.int .u8 0))]),
    .e .none (.store 36 (.t 10) (.t 54))])
  (c5_k20)
def c5_k22 : C :=
  .seq (.block 3 (c5_k21))
  (.ops [6, 7, 49, 50, 51, 118, 119, 120, 121, 122, 123, 126, 127, 128, 129, 130, 131, 140] [.p (some 133) (.bin .add .int [] (.t 51) (.c (.int .i64 1))),
    .p (some 51) (.move (.t 133))])
def c5_k23 : C :=
  .seq (.cond (.t 52)
    (.skip)
    (.exit 2))
  (c5_k22)
def c5_l24 : C :=
  .seq (.ops [6, 7, 49, 50, 51, 52, 118, 119, 120, 121, 122, 123, 126, 127, 128, 129, 130, 131, 140] [.p (some 52) (.bin .lss .int [] (.t 51) (.t 50))])
  (c5_k23)
def c5_k25 : C :=
  .block 2 (.loop [6, 7, 49, 50, 51, 118, 119, 120, 121, 122, 123, 126, 127, 128, 129, 130, 131, 140] c5_l24)
def c5_k26 : C :=
  .seq (.seq (.ops [6, 7, 49, 50, 51, 118, 119, 120, 121, 122, 123, 126, 127, 128, 129, 130, 131, 140] [.p (some 49) (.move (.t 1)),
    .p (some 50) (.len .slice (.t 49)),
    .p (some 51) (.move (.c (.int .i64 0)))])
  (c5_k25))
  (c5_k1)
def c5_k27 : C :=
  .ops [1, 5, 6, 7, 38, 39, 118, 119, 120, 121, 122, 123, 126, 127, 128, 129, 130, 131, 140] [.p (some 42) (.move (.t 5)),
    .p (some 43) (.move (.t 8)),
    .p (some 44) (.iaddr 1 (.t 42) (.t 43)),
    .p (some 45) (.load false 1 (.t 44)),
    .p (some 46) (.bin .xor .int [] (.t 45) (.c (.int .u8 1))),
    .p (some 47) (.iaddr 1 (.t 42) (.t 43)),
    .e .none (.store 1 (.t 47) (.t 46))]
def c5_k28 : C :=
  .seq (.block 1 (.seq (.ops [1, 5, 6, 7, 8, 38, 39, 118, 119, 120, 121, 122, 123, 126, 127, 128, 129, 130, 131, 140] [.p (some 41) (.move (.t 39)),
    .p (some 8) (.move (.t 41))])
  (c5_k27)))
  (.ops [1, 5, 6, 7, 38, 39, 118, 119, 120, 121, 122, 123, 126, 127, 128, 129, 130, 131, 140] [.p (some 48) (.bin .add .int [] (.t 39) (.c (.int .i64 1))),
    .p (some 39) (.move (.t 48))])
def c5_k29 : C :=
  .seq (.cond (.t 40)
    (.skip)
    (.exit 0))
  (c5_k28)
def c5_l30 : C :=
  .seq (.ops [1, 5, 6, 7, 38, 39, 40, 118, 119, 120, 121, 122, 123, 126, 127, 128, 129, 130, 131, 140] [.p (some 40) (.bin .lss .int [] (.t 39) (.t 38))])
  (c5_k29)
def c5_k31 : C :=
  .block 0 (.loop [1, 5, 6, 7, 38, 39, 118, 119, 120, 121, 122, 123, 126, 127, 128, 129, 130, 131, 140] c5_l30)
def c5_k32 : C :=
  .seq (.seq (.ops [1, 5, 6, 7, 38, 39, 118, 119, 120, 121, 122, 123, 126, 127, 128, 129, 130, 131, 140] [.p (some 37) (.move (.t 5)),
    .p (some 38) (.len .slice (.t 37)),
    .p (some 39) (.move (.c (.int .i64 0)))])
  (c5_k31))
  (c5_k26)
def c5_k33 : C :=
  .seq (.ops [1, 5, 6, 7, 118, 119, 120, 121, 122, 123, 126, 127, 128, 129, 130, 131, 140] [.p (some 33) (.move (.t 5)),
    .call (some 34) 22 [(.t 33)],
    .p (some 35) (.move (.t 0)),
    .p (some 36) (.build [.nils, (.bool false)] [(0, 1, (.t 35))]),
    .e (some 7) (.alloc [(.d .nils), (.d (.bool false))]),
    .p (some 6) (.move (.t 34)),
    .e .none (.store 2 (.t 7) (.t 36))])
  (c5_k32)
def c5_k34 : C :=
  .seq (.ops [0, 1, 5, 118, 119, 120, 121, 122, 123, 126, 127, 128, 129, 130, 131, 140] [.p (some 30) (.bslice 5 0 1 [(.int .u8 0)] []),
    .p (some 31) (.move (.t 0)),
    .e (some 32) (.append 5 1 1 (.t 30) (.t 31)),
    .p (some 5) (.move (.t 32))])
  (c5_k33)
def c5_k35 : C :=
  .cond (.t 29)
    (.seq (.ops [4] [.p (some 4) (.move (.c (.bool true)))])
    (.ret))
    (.skip)
def c5_k36 : C :=
  .seq (.seq (.ops [0, 1, 29, 118, 119, 120, 121, 122, 123, 126, 127, 128, 129, 130, 131, 140] [.p (some 23) (.move (.t 1)),
    .call (some 24) 12 [(.t 23)],
    .p (some 25) (.move (.t 24)),
    .when 25 false [.p (some 26) (.move (.t 0)),
      .p (some 27) (.len .slice (.t 26)),
      .p (some 28) (.bin .gtr .int [] (.t 27) (.c (.int .i64 3000)))],
    .p (some 29) (.pick (.t 25) (.c (.bool true)) (.t 28))])
  (c5_k35))
  (c5_k34)
def c5_k37 : C :=
  .cond (.t 22)
    (.seq (.ops [4] [.p (some 4) (.move (.c (.bool false)))])
    (.ret))
    (.skip)
def c5_k38 : C :=
  .seq (.seq (.ops [0, 1, 22, 28, 118, 119, 120, 121, 122, 123, 126, 127, 128, 129, 130, 131, 140] [.call (some 21) 11 [],
    .p (some 22) (.una .not (.t 21))])
  (c5_k37))
  (c5_k36)
def c5 : FnC := ⟨2, 142, [.tmp 4],
  .seq (.ops [0, 1, 28, 118, 119, 120, 121, 122, 123, 126, 127, 128, 129, 130, 131, 140] [.p (some 4) (.move (.c (.bool false)))])
  (c5_k38)⟩

/-! 23: gossamer/gossamerref08.ReadNum -/
def c23_k0 : C :=
  .seq (.ops [4, 5] [.p (some 39) (.faddr 0 (.t 2)),
    .p (some 40) (.load false 1 (.t 39)),
    .p (some 41) (.move (.t 1)),
    .p (some 42) (.slice 1 (.t 40) (some (.t 41)) .none .none),
    .p (some 43) (.build [.nils, (.bool false)] [(0, 1, (.t 42))]),
    .p (some 44) (.move (.t 6)),
    .e .none (.store 2 (.t 4) (.t 43)),
    .p (some 5) (.move (.t 44))])
  (.ret)
def c23_k1 : C :=
  .ops [1, 2, 4, 6, 7] [.p (some 28) (.move (.t 7)),
    .p (some 29) (.bin .sub .int [] (.t 28) (.c (.int .i64 1))),
    .p (some 7) (.move (.t 29))]
def c23_k2 : C :=
  .seq (.block 1 (.ops [1, 2, 4, 6, 7] [.p (some 30) (.move (.t 6)),
    .p (some 31) (.bin .mul .int [] (.c (.int .u64 256)) (.t 30)),
    .p (some 32) (.faddr 0 (.t 2)),
    .p (some 33) (.load false 1 (.t 32)),
    .p (some 34) (.move (.t 7)),
    .p (some 35) (.iaddr 1 (.t 33) (.t 34)),
    .p (some 36) (.load false 1 (.t 35)),
    .p (some 37) (.conv (.int .u64) (.t 36)),
    .p (some 38) (.bin .add .int [] (.t 31) (.t 37)),
    .p (some 6) (.move (.t 38))]))
  (c23_k1)
def c23_k3 : C :=
  .cond (.t 27)
    (.skip)
    (.exit 0)
def c23_l4 : C :=
  .seq (.seq (.ops [1, 2, 4, 6, 7, 27] [.p (some 26) (.move (.t 7)),
    .p (some 27) (.bin .geq .int [] (.t 26) (.c (.int .i64 0)))])
  (c23_k3))
  (c23_k2)
def c23_k5 : C :=
  .block 0 (.loop [1, 2, 4, 6, 7] c23_l4)
def c23_k6 : C :=
  .seq (.seq (.ops [1, 2, 4, 6, 7] [.p (some 24) (.move (.t 1)),
    .p (some 25) (.bin .sub .int [] (.t 24) (.c (.int .i64 1))),
    .p (some 7) (.move (.t 25))])
  (c23_k5))
  (c23_k0)
def c23_k7 : C :=
  .seq (.ops [1, 2, 4, 6] [.p (some 6) (.move (.c (.int .u64 0)))])
  (c23_k6)
def c23_k8 : C :=
  .cond (.t 22)
    (.seq (.ops [4, 5] [.call (some 23) 41 [],
      .e .none (.store 2 (.t 4) (.t 23)),
      .p (some 5) (.move (.c (.int .u64 0)))])
    (.ret))
    (.skip)
def c23_k9 : C :=
  .seq (.seq (.ops [1, 2, 4, 22] [.p (some 8) (.faddr 1 (.t 2)),
    .p (some 9) (.load false 1 (.t 8)),
    .p (some 10) (.move (.t 9)),
    .when 10 false [.p (some 11) (.move (.t 1)),
      .call (some 12) 14 [(.c (.int .u64 0)), (.t 11)],
      .p (some 13) (.len .slice (.t 12)),
      .p (some 14) (.bin .eql .int [] (.t 13) (.c (.int .i64 0)))],
    .p (some 15) (.pick (.t 10) (.c (.bool true)) (.t 14)),
    .p (some 16) (.move (.t 15)),
    .when 16 false [.p (some 17) (.move (.t 1)),
      .p (some 18) (.faddr 0 (.t 2)),
      .p (some 19) (.load false 1 (.t 18)),
      .p (some 20) (.len .slice (.t 19)),
      .p (some 21) (.bin .gtr .int [] (.t 17) (.t 20))],
    .p (some 22) (.pick (.t 16) (.c (.bool true)) (.t 21))])
  (c23_k8))
  (c23_k7)
def c23 : FnC := ⟨2, 45, [.cell 4 true 2, .tmp 5],
  .seq (.ops [1, 2, 4, 14, 21] [.e (some 2) (.box (.t 0)),
    .e (some 4) (.alloc [(.d .nils), (.d (.bool false))]),
    .p (some 5) (.move (.c (.int .u64 0)))])
  (c23_k9)⟩

/-! 41: gossamer/gossamerref08.wrong -/
def c41_k0 : C :=
  .seq (.ops [0] [.p (some 1) (.build [.nils, (.bool false)] [(1, 1, (.c (.bool true)))]),
    .e .none (.store 2 (.t 0) (.t 1))])
  (.ret)
def c41 : FnC := ⟨0, 2, [.cell 0 true 2],
  .seq (.ops [0] [.e (some 0) (.alloc [(.d .nils), (.d (.bool false))])])
  (c41_k0)⟩

/-! 25: gossamer/gossamerref08.ReadCount -/
def c25_k0 : C :=
  .seq (.ops [4, 5] [.p (some 54) (.load true 2 (.t 2)),
    .p (some 55) (.move (.t 7)),
    .p (some 56) (.conv (.int .i64) (.t 55)),
    .e .none (.store 2 (.t 4) (.t 54)),
    .p (some 5) (.move (.t 56))])
  (.ret)
def c25_k1 : C :=
  .cond (.t 52)
    (.seq (.ops [4, 5] [.call (some 53) 41 [],
      .e .none (.store 2 (.t 4) (.t 53)),
      .p (some 5) (.move (.c (.int .i64 0)))])
    (.ret))
    (.skip)
def c25_k2 : C :=
  .seq (.seq (.drw [2, 4, 7, 52] 0 [⟨.none, .p (some 28) (.faddr 1 (.t 2)), [], 0⟩,
    ⟨.none, .p (some 29) (.load false 1 (.t 28)), [0], 0⟩,
    ⟨.none, .p (some 30) (.move (.t 29)), [1], 0⟩,
    ⟨(some (30, false)), .p (some 31) (.move (.t 1)), [2], 0⟩,
    ⟨(some (30, false)), .p (some 32) (.bin .lss .int [] (.t 31) (.c (.int .i64 0))), [3, 2], 0⟩,
    ⟨.none, .p (some 33) (.pick (.t 30) (.c (.bool true)) (.t 32)), [2, 4], 0⟩,
    ⟨.none, .p (some 34) (.move (.t 33)), [5, 2], 0⟩,
    ⟨(some (34, false)), .p (some 35) (.move (.t 7)), [6], 0⟩,
    ⟨(some (34, false)), .p (some 36) (.move (.t 1)), [6], 0⟩,
    ⟨(some (34, false)), .p (some 37) (.conv (.int .u64) (.t 36)), [8, 6], 0⟩,
    ⟨(some (34, false)), .p (some 38) (.bin .gtr .int [] (.t 35) (.t 37)), [7, 9, 6], 0⟩,
    ⟨.none, .p (some 39) (.pick (.t 34) (.c (.bool true)) (.t 38)), [6, 10], 0⟩,
    ⟨.none, .p (some 40) (.move (.t 39)), [11, 6], 0⟩,
    ⟨(some (40, false)), .p (some 41) (.move (.t 7)), [12], 0⟩,
    ⟨(some (40, false)), .p (some 42) (.conv (.int .i64) (.t 41)), [13, 12], 0⟩,
    ⟨(some (40, false)), .call (some 43) 16 [(.t 42)], [14, 12, 12], 0⟩,
    ⟨(some (40, false)), .p (some 44) (.len .slice (.t 43)), [15, 12], 0⟩,
    ⟨(some (40, false)), .p (some 45) (.faddr 0 (.t 2)), [12], 0⟩,
    ⟨(some (40, false)), .p (some 46) (.load false 1 (.t 45)), [17, 12], 0⟩,
    ⟨(some (40, false)), .p (some 47) (.len .slice (.t 46)), [18, 12], 0⟩,
    ⟨(some (40, false)), .p (some 48) (.bin .add .int [] (.t 44) (.t 47)), [16, 19, 12], 0⟩,
    ⟨(some (40, false)), .p (some 49) (.move (.t 6)), [12], 0⟩,
    ⟨(some (40, false)), .p (some 50) (.len .slice (.t 49)), [21, 12], 0⟩,
    ⟨(some (40, false)), .p (some 51) (.bin .neq .int [] (.t 48) (.t 50)), [20, 22, 12], 0⟩,
    ⟨.none, .p (some 52) (.pick (.t 40) (.c (.bool true)) (.t 51)), [12, 23], 0⟩])
  (c25_k1))
  (c25_k0)
def c25_k3 : C :=
  .ops [1, 2, 4, 6, 7, 31, 32, 35, 36, 37, 38, 41, 42, 43, 44, 45, 46, 47, 48, 49, 50, 51] [.p (some 23) (.load true 2 (.t 2)),
    .p (some 24) (.move (.t 8)),
    .call (some 25) 23 [(.t 23), (.t 24)],
    .p (some 22) (.move (.t 25)),
    .p (some 26) (.extract (.t 22) 0),
    .p (some 27) (.extract (.t 22) 1),
    .e .none (.store 2 (.t 2) (.t 26)),
    .p (some 7) (.move (.t 27))]
def c25_k4 : C :=
  .cond (.t 21)
    (.ops [1, 2, 4, 6, 8, 31, 32, 35, 36, 37, 38, 41, 42, 43, 44, 45, 46, 47, 48, 49, 50, 51] [.p (some 8) (.move (.c (.int .i64 8)))])
    (.skip)
def c25_k5 : C :=
  .seq (.seq (.ops [1, 2, 4, 6, 8, 21, 31, 32, 35, 36, 37, 38, 41, 42, 43, 44, 45, 46, 47, 48, 49, 50, 51] [.p (some 20) (.move (.t 7)),
    .p (some 21) (.bin .eql .int [] (.t 20) (.c (.int .u64 255)))])
  (c25_k4))
  (c25_k3)
def c25_k6 : C :=
  .cond (.t 19)
    (.ops [1, 2, 4, 6, 7, 8, 31, 32, 35, 36, 37, 38, 41, 42, 43, 44, 45, 46, 47, 48, 49, 50, 51] [.p (some 8) (.move (.c (.int .i64 4)))])
    (.skip)
def c25_k7 : C :=
  .seq (.seq (.ops [1, 2, 4, 6, 7, 8, 19, 31, 32, 35, 36, 37, 38, 41, 42, 43, 44, 45, 46, 47, 48, 49, 50, 51] [.p (some 18) (.move (.t 7)),
    .p (some 19) (.bin .eql .int [] (.t 18) (.c (.int .u64 254)))])
  (c25_k6))
  (c25_k5)
def c25_k8 : C :=
  .seq (.ops [1, 2, 4, 6, 7, 8, 31, 32, 35, 36, 37, 38, 41, 42, 43, 44, 45, 46, 47, 48, 49, 50, 51] [.p (some 8) (.move (.c (.int .i64 2)))])
    (c25_k7)
def c25_k9 : C :=
  .cond (.t 17)
    (c25_k8)
    (.skip)
def c25_k10 : C :=
  .seq (.seq (.ops [1, 2, 4, 6, 7, 17, 31, 32, 35, 36, 37, 38, 41, 42, 43, 44, 45, 46, 47, 48, 49, 50, 51] [.p (some 16) (.move (.t 7)),
    .p (some 17) (.bin .geq .int [] (.t 16) (.c (.int .u64 253)))])
  (c25_k9))
  (c25_k2)
def c25_k11 : C :=
  .seq (.ops [1, 2, 4, 6, 7, 31, 32, 35, 36, 37, 38, 41, 42, 43, 44, 45, 46, 47, 48, 49, 50, 51] [.p (some 12) (.load true 2 (.t 2)),
    .call (some 13) 23 [(.t 12), (.c (.int .i64 1))],
    .p (some 11) (.move (.t 13)),
    .p (some 14) (.extract (.t 11) 0),
    .p (some 15) (.extract (.t 11) 1),
    .e .none (.store 2 (.t 2) (.t 14)),
    .p (some 7) (.move (.t 15))])
  (c25_k10)
def c25_k12 : C :=
  .seq (.ops [1, 2, 4, 6, 31, 32, 35, 36, 37, 38, 41, 42, 43, 44, 45, 46, 47, 48, 49, 50, 51] [.p (some 9) (.faddr 0 (.t 2)),
    .p (some 10) (.load false 1 (.t 9)),
    .p (some 6) (.move (.t 10))])
  (c25_k11)
def c25 : FnC := ⟨2, 57, [.cell 4 true 2, .tmp 5],
  .seq (.ops [1, 2, 4, 31, 32, 35, 36, 37, 38, 41, 42, 43, 44, 45, 46, 47, 48, 49, 50, 51] [.e (some 2) (.box (.t 0)),
    .e (some 4) (.alloc [(.d .nils), (.d (.bool false))]),
    .p (some 5) (.move (.c (.int .i64 0)))])
  (c25_k12)⟩

/-! 27: gossamer/gossamerref08.ReadText -/
def c27_k0 : C :=
  .seq (.drw [4, 5] 0 [⟨.none, .p (some 23) (.faddr 0 (.t 2)), [], 0⟩,
    ⟨.none, .p (some 24) (.load false 1 (.t 23)), [0], 0⟩,
    ⟨.none, .p (some 25) (.move (.t 6)), [], 0⟩,
    ⟨.none, .p (some 26) (.slice 1 (.t 24) (some (.t 25)) .none .none), [1, 2], 0⟩,
    ⟨.none, .p (some 27) (.build [.nils, (.bool false)] [(0, 1, (.t 26))]), [3], 0⟩,
    ⟨.none, .p (some 28) (.faddr 0 (.t 2)), [], 0⟩,
    ⟨.none, .p (some 29) (.load false 1 (.t 28)), [5], 0⟩,
    ⟨.none, .p (some 30) (.move (.t 6)), [], 0⟩,
    ⟨.none, .p (some 31) (.slice 1 (.t 29) .none (some (.t 30)) .none), [6, 7], 0⟩,
    ⟨.none, .p (some 32) (.conv .bytesStr (.t 31)), [8], 0⟩,
    ⟨.none, .e .none (.store 2 (.t 4) (.t 27)), [4, 0, 1, 2, 3, 4], 0⟩,
    ⟨.none, .p (some 5) (.move (.t 32)), [9, 10, 0, 1, 2, 3, 4, 5, 6, 7, 8, 9, 10], 0⟩])
  (.ret)
def c27_k1 : C :=
  .cond (.t 21)
    (.seq (.ops [4, 5] [.call (some 22) 41 [],
      .e .none (.store 2 (.t 4) (.t 22)),
      .p (some 5) (.move (.c (.str [])))])
    (.ret))
    (.skip)
def c27_k2 : C :=
  .seq (.seq (.ops [2, 4, 6, 21] [.p (some 13) (.faddr 1 (.t 2)),
    .p (some 14) (.load false 1 (.t 13)),
    .p (some 15) (.move (.t 14)),
    .when 15 false [.p (some 16) (.move (.t 6)),
      .p (some 17) (.faddr 0 (.t 2)),
      .p (some 18) (.load false 1 (.t 17)),
      .p (some 19) (.len .slice (.t 18)),
      .p (some 20) (.bin .gtr .int [] (.t 16) (.t 19))],
    .p (some 21) (.pick (.t 15) (.c (.bool true)) (.t 20))])
  (c27_k1))
  (c27_k0)
def c27_k3 : C :=
  .seq (.ops [2, 4, 6, 20] [.p (some 8) (.load true 2 (.t 2)),
    .p (some 9) (.move (.t 1)),
    .call (some 10) 25 [(.t 8), (.t 9)],
    .p (some 7) (.move (.t 10)),
    .p (some 11) (.extract (.t 7) 0),
    .p (some 12) (.extract (.t 7) 1),
    .e .none (.store 2 (.t 2) (.t 11)),
    .p (some 6) (.move (.t 12))])
  (c27_k2)
def c27 : FnC := ⟨2, 33, [.cell 4 true 2, .tmp 5],
  .seq (.ops [1, 2, 4, 20] [.e (some 2) (.box (.t 0)),
    .e (some 4) (.alloc [(.d .nils), (.d (.bool false))]),
    .p (some 5) (.move (.c (.str [])))])
  (c27_k3)⟩

/-! 28: (*gossamer/pack.In).Text -/
def c28_k0 : C :=
  .seq (.ops [4] [.p (some 5) (.move (.t 0)),
    .p (some 6) (.move (.t 0)),
    .p (some 7) (.move (.t 1)),
    .call (some 8) 26 [(.t 6), (.t 7)],
    .call (some 9) 43 [(.t 5), (.t 8)],
    .p (some 10) (.conv .bytesStr (.t 9)),
    .p (some 4) (.move (.t 10))])
  (.ret)
def c28 : FnC := ⟨2, 11, [.tmp 4],
  .seq (.ops [0, 1] [.p (some 4) (.move (.c (.str [])))])
  (c28_k0)⟩

/-! 29: gossamer/gossamerref08.ReadHash -/
def c29_k0 : C :=
  .seq (.drw [2, 3] 0 [⟨.none, .p (some 27) (.faddr 0 (.t 1)), [], 0⟩,
    ⟨.none, .p (some 28) (.load false 1 (.t 27)), [0], 0⟩,
    ⟨.none, .p (some 29) (.slice 1 (.t 28) (some (.c (.int .i64 32))) .none .none), [1], 0⟩,
    ⟨.none, .p (some 30) (.build [.nils, (.bool false)] [(0, 1, (.t 29))]), [2], 0⟩,
    ⟨.none, .p (some 31) (.load true 32 (.t 4)), [], 0⟩,
    ⟨.none, .e .none (.store 2 (.t 2) (.t 30)), [3, 0, 1, 2, 3], 0⟩,
    ⟨.none, .e .none (.store 32 (.t 3) (.t 31)), [4, 5, 0, 1, 2, 3, 4, 5], 0⟩])
  (.ret)
def c29_k1 : C :=
  .ops [1, 2, 3, 4, 5] [.p (some 18) (.move (.t 5)),
    .p (some 19) (.bin .add .int [] (.t 18) (.c (.int .i64 1))),
    .p (some 5) (.move (.t 19))]
def c29_k2 : C :=
  .seq (.block 1 (.ops [1, 2, 3, 4, 5] [.p (some 20) (.move (.t 5)),
    .p (some 21) (.faddr 0 (.t 1)),
    .p (some 22) (.load false 1 (.t 21)),
    .p (some 23) (.move (.t 5)),
    .p (some 24) (.iaddr 1 (.t 22) (.t 23)),
    .p (some 25) (.load false 1 (.t 24)),
    .p (some 26) (.iaddrArr 32 1 (.t 4) (.t 20)),
    .e .none (.store 1 (.t 26) (.t 25))]))
  (c29_k1)
def c29_k3 : C :=
  .cond (.t 17)
    (.skip)
    (.exit 0)
def c29_l4 : C :=
  .seq (.seq (.ops [1, 2, 3, 4, 5, 17] [.p (some 16) (.move (.t 5)),
    .p (some 17) (.bin .lss .int [] (.t 16) (.c (.int .i64 32)))])
  (c29_k3))
  (c29_k2)
def c29_k5 : C :=
  .block 0 (.loop [1, 2, 3, 4, 5] c29_l4)
def c29_k6 : C :=
  .seq (.seq (.ops [1, 2, 3, 4, 5] [.p (some 5) (.move (.c (.int .i64 0)))])
  (c29_k5))
  (c29_k0)
def c29_k7 : C :=
  .cond (.t 13)
    (.seq (.drw [2, 3] 0 [⟨.none, .call (some 14) 41 [], [], 0⟩,
      ⟨.none, .p (some 15) (.load true 32 (.t 4)), [], 0⟩,
      ⟨.none, .e .none (.store 2 (.t 2) (.t 14)), [0, 0, 0], 0⟩,
      ⟨.none, .e .none (.store 32 (.t 3) (.t 15)), [1, 2, 0, 1, 2], 0⟩])
    (.ret))
    (.skip)
def c29_k8 : C :=
  .seq (.seq (.ops [1, 2, 3, 4, 13] [.p (some 6) (.faddr 1 (.t 1)),
    .p (some 7) (.load false 1 (.t 6)),
    .p (some 8) (.move (.t 7)),
    .when 8 false [.p (some 9) (.faddr 0 (.t 1)),
      .p (some 10) (.load false 1 (.t 9)),
      .p (some 11) (.len .slice (.t 10)),
      .p (some 12) (.bin .lss .int [] (.t 11) (.c (.int .i64 32)))],
    .p (some 13) (.pick (.t 8) (.c (.bool true)) (.t 12))])
  (c29_k7))
  (c29_k6)
def c29_k9 : C :=
  .seq (.ops [1, 2, 3, 4, 12] [.e (some 4) (.alloc (List.replicate 32 (.d (.int .u8 0))))])
  (c29_k8)
def c29 : FnC := ⟨1, 32, [.cell 2 true 2, .cell 3 true 32],
  .seq (.ops [1, 2, 3, 12] [.e (some 1) (.box (.t 0)),
    .e (some 2) (.alloc [(.d .nils), (.d (.bool false))]),
    .e (some 3) (.alloc (List.replicate 32 (.d (.int .u8 0))))])
  (c29_k9)⟩

/-! 30: (*gossamer/pack.In).Hash -/
def c30_k0 : C :=
  .seq (.ops [2] [.p (some 8) (.load true 32 (.t 3)),
    .e .none (.store 32 (.t 2) (.t 8))])
  (.ret)
def c30_k1 : C :=
  .seq (.drw [2, 3] 0 [⟨.none, .p (some 4) (.sliceArr 32 1 (.t 3) .none .none), [], 0⟩,
    ⟨.none, .p (some 5) (.move (.t 0)), [], 0⟩,
    ⟨.none, .call (some 6) 43 [(.t 5), (.c (.int .i64 32))], [1], 0⟩,
    ⟨.none, .e (some 7) (.copy 1 (.t 4) (.t 6)), [0, 2, 2], 0⟩])
  (c30_k0)
def c30_k2 : C :=
  .seq (.ops [0, 2, 3] [.e (some 3) (.alloc (List.replicate 32 (.d (.int .u8 0))))])
  (c30_k1)
def c30 : FnC := ⟨1, 9, [.cell 2 true 32],
  .seq (.ops [0, 2] [.e (some 2) (.alloc (List.replicate 32 (.d (.int .u8 0))))])
  (c30_k2)⟩

/-! 31: (*gossamer/pack.In).Left -/
def c31_k0 : C :=
  .seq (.ops [2] [.p (some 5) (.move (.t 0)),
    .p (some 6) (.nilCheck (.t 5)),
    .p (some 7) (.faddr 0 (.t 6)),
    .p (some 8) (.load false 1 (.t 7)),
    .p (some 9) (.len .slice (.t 8)),
    .p (some 2) (.move (.t 9))])
  (.ret)
def c31_k1 : C :=
  .cond (.t 4)
    (.seq (.ops [2] [.p (some 2) (.move (.c (.int .i64 0)))])
    (.ret))
    (.skip)
def c31_k2 : C :=
  .seq (.seq (.ops [0, 4] [.p (some 3) (.move (.t 0)),
    .p (some 4) (.bin .eql .ptr [] (.t 3) (.c .nilp))])
  (c31_k1))
  (c31_k0)
def c31 : FnC := ⟨1, 10, [.tmp 2],
  .seq (.ops [0] [.p (some 2) (.move (.c (.int .i64 0)))])
  (c31_k2)⟩

/-! 33: gossamer/gossamerref08.End -/
def c33_k0 : C :=
  .seq (.ops [2] [.p (some 3) (.faddr 1 (.t 1)),
    .p (some 4) (.load false 1 (.t 3)),
    .p (some 5) (.una .not (.t 4)),
    .p (some 6) (.move (.t 5)),
    .when 6 true [.p (some 7) (.faddr 0 (.t 1)),
      .p (some 8) (.load false 1 (.t 7)),
      .p (some 9) (.len .slice (.t 8)),
      .p (some 10) (.bin .eql .int [] (.t 9) (.c (.int .i64 0)))],
    .p (some 11) (.pick (.t 6) (.t 10) (.c (.bool false))),
    .p (some 2) (.move (.t 11))])
  (.ret)
def c33 : FnC := ⟨1, 12, [.tmp 2],
  .seq (.ops [1, 10] [.e (some 1) (.box (.t 0)),
    .p (some 2) (.move (.c (.bool false)))])
  (c33_k0)⟩

/-! 34: gossamer/gossamernum.Is -/
def c34_k0 : C :=
  .seq (.ops [4] [.p (some 5) (.move (.t 0)),
    .call (some 6) 45 [(.t 5)],
    .p (some 7) (.move (.t 1)),
    .p (some 8) (.bin .eql .int [] (.t 6) (.t 7)),
    .p (some 4) (.move (.t 8))])
  (.ret)
def c34 : FnC := ⟨2, 9, [.tmp 4],
  .seq (.ops [0, 1] [.p (some 4) (.move (.c (.bool false)))])
  (c34_k0)⟩

/-! 45: gossamer/gossamernum.Num -/
def c45_k0 : C :=
  .cond (.t 16)
    (.seq (.ops [2] [.p (some 17) (.move (.t 3)),
      .p (some 2) (.move (.t 17))])
    (.ret))
    (.skip)
def c45_k1 : C :=
  .seq (.ops [3, 16] [.p (some 12) (.move (.t 4)),
    .p (some 13) (.move (.t 12)),
    .when 13 true [.p (some 14) (.move (.t 3)),
      .p (some 15) (.bin .neq .int [] (.t 14) (.c (.int .i64 0)))],
    .p (some 16) (.pick (.t 13) (.t 15) (.c (.bool false)))])
  (c45_k0)
def c45_k2 : C :=
  .seq (.seq (.ops [3, 4, 15] [.p (some 8) (.move (.t 0)),
    .p (some 9) (.assert 81 (.c (.int .i64 0)) true (.t 8)),
    .p (some 7) (.move (.t 9)),
    .p (some 10) (.extract (.t 7) 0),
    .p (some 11) (.extract (.t 7) 1),
    .p (some 3) (.move (.t 10)),
    .p (some 4) (.move (.t 11))])
  (c45_k1))
  (.seq (.ops [2] [.p (some 2) (.move (.c (.int .i64 (-1))))])
  (.ret))
def c45_k3 : C :=
  .cond (.t 6)
    (.seq (.ops [2] [.p (some 2) (.move (.c (.int .i64 0)))])
    (.ret))
    (.skip)
def c45_k4 : C :=
  .seq (.seq (.ops [0, 6, 15] [.p (some 5) (.move (.t 0)),
    .p (some 6) (.bin .eql .iface [] (.t 5) (.c .nili))])
  (c45_k3))
  (c45_k2)
def c45 : FnC := ⟨1, 18, [.tmp 2],
  .seq (.ops [0, 15] [.p (some 2) (.move (.c (.int .i64 0)))])
  (c45_k4)⟩

/-! 6: gossamer/gossamerlaw08.PackBack -/
def c6_k0 : C :=
  .seq (.ops [2] [.p (some 115) (.move (.t 7)),
    .call (some 116) 32 [(.t 115)],
    .p (some 117) (.bin .eql .iface [] (.t 116) (.c .nili)),
    .p (some 118) (.move (.t 117)),
    .when 118 true [.p (some 119) (.move (.t 7)),
      .call (some 120) 31 [(.t 119)],
      .p (some 121) (.bin .eql .int [] (.t 120) (.c (.int .i64 0)))],
    .p (some 122) (.pick (.t 118) (.t 121) (.c (.bool false))),
    .p (some 2) (.move (.t 122))])
  (.ret)
def c6_k1 : C :=
  .cond (.t 94)
    (.seq (.ops [2] [.p (some 2) (.move (.c (.bool false)))])
    (.ret))
    (.skip)
def c6_k2 : C :=
  .seq (.drw [7, 59, 60, 61, 94, 121] 0 [⟨.none, .p (some 79) (.move (.t 7)), [], 0⟩,
      ⟨.none, .p (some 80) (.move (.t 10)), [], 0⟩,
      ⟨.none, .call (some 81) 24 [(.t 79), (.t 80)], [0, 1], 0⟩,
      ⟨.none, .p (some 82) (.faddr 2 (.t 9)), [], 0⟩,
      ⟨.none, .p (some 83) (.load false 1 (.t 82)), [3], 0⟩,
      ⟨.none, .p (some 84) (.move (.t 10)), [], 0⟩,
      ⟨.none, .p (some 85) (.bin .mul .int [] (.c (.int .i64 8)) (.t 84)), [5], 0⟩,
      ⟨.none, .p (some 86) (.bin .sub .int [] (.c (.int .i64 64)) (.t 85)), [6], 0⟩,
      ⟨.none, .p (some 87) (.conv (.int .u64) (.t 86)), [7], 0⟩,
      ⟨.none, .p (some 88) (.bin .shl .int [] (.t 83) (.t 87)), [4, 8], 0⟩,
      ⟨.none, .p (some 89) (.move (.t 10)), [], 0⟩,
      ⟨.none, .p (some 90) (.bin .mul .int [] (.c (.int .i64 8)) (.t 89)), [10], 0⟩,
      ⟨.none, .p (some 91) (.bin .sub .int [] (.c (.int .i64 64)) (.t 90)), [11], 0⟩,
      ⟨.none, .p (some 92) (.conv (.int .u64) (.t 91)), [12], 0⟩,
      ⟨.none, .p (some 93) (.bin .shr .int [] (.t 88) (.t 92)), [9, 13], 0⟩,
      ⟨.none, .p (some 94) (.bin .neq .int [] (.t 81) (.t 93)), [2, 14], 0⟩])
    (c6_k1)
def c6_k3 : C :=
  .cond (.t 103)
    (.seq (.ops [2] [.p (some 2) (.move (.c (.bool false)))])
    (.ret))
    (.skip)
def c6_k4 : C :=
  .seq (.drw [7, 59, 60, 61, 103, 121] 0 [⟨.none, .p (some 97) (.move (.t 7)), [], 0⟩,
      ⟨.none, .call (some 98) 26 [(.t 97), (.c (.int .i64 9223372036854775807))], [0], 0⟩,
      ⟨.none, .p (some 99) (.faddr 2 (.t 9)), [], 0⟩,
      ⟨.none, .p (some 100) (.load false 1 (.t 99)), [2], 0⟩,
      ⟨.none, .p (some 101) (.bin .shr .int [] (.t 100) (.c (.int .u64 1))), [3], 0⟩,
      ⟨.none, .p (some 102) (.conv (.int .i64) (.t 101)), [4], 0⟩,
      ⟨.none, .p (some 103) (.bin .neq .int [] (.t 98) (.t 102)), [1, 5], 0⟩])
    (c6_k3)
def c6_k5 : C :=
  .cond (.t 113)
    (.seq (.ops [2] [.p (some 2) (.move (.c (.bool false)))])
    (.ret))
    (.skip)
def c6_k6 : C :=
  .seq (.drw [7, 59, 60, 61, 113, 121] 0 [⟨.none, .p (some 106) (.move (.t 7)), [], 0⟩,
      ⟨.none, .p (some 107) (.faddr 3 (.t 9)), [], 0⟩,
      ⟨.none, .p (some 108) (.load false 1 (.t 107)), [1], 0⟩,
      ⟨.none, .p (some 109) (.len .str (.t 108)), [2], 0⟩,
      ⟨.none, .call (some 110) 28 [(.t 106), (.t 109)], [0, 3], 0⟩,
      ⟨.none, .p (some 111) (.faddr 3 (.t 9)), [], 0⟩,
      ⟨.none, .p (some 112) (.load false 1 (.t 111)), [5], 0⟩,
      ⟨.none, .p (some 113) (.bin .neq .str [] (.t 110) (.t 112)), [4, 6], 0⟩])
    (c6_k5)
def c6_k7 : C :=
  .cond (.t 76)
    (.seq (.ops [2] [.p (some 2) (.move (.c (.bool false)))])
    (.ret))
    (.skip)
def c6_k8 : C :=
  .cond (.t 104)
    (c6_k6)
    (.seq (.drw [7, 59, 60, 61, 76, 121] 0 [⟨.none, .p (some 72) (.move (.t 7)), [], 0⟩,
      ⟨.none, .call (some 73) 30 [(.t 72)], [0], 0⟩,
      ⟨.none, .p (some 74) (.faddr 4 (.t 9)), [], 0⟩,
      ⟨.none, .p (some 75) (.load true 32 (.t 74)), [2], 0⟩,
      ⟨.none, .p (some 76) (.bin .neq .flat (List.replicate 32 (.int .u8)) (.t 73) (.t 75)), [1, 3], 0⟩])
    (c6_k7))
def c6_k9 : C :=
  .seq (.ops [7, 9, 59, 60, 61, 104, 121] [.p (some 105) (.bin .eql .int [] (.t 71) (.c (.int .i64 2))),
      .p (some 104) (.move (.t 105))])
    (c6_k8)
def c6_k10 : C :=
  .cond (.t 95)
    (c6_k4)
    (c6_k9)
def c6_k11 : C :=
  .seq (.ops [7, 9, 59, 60, 61, 71, 95, 121] [.p (some 96) (.bin .eql .int [] (.t 71) (.c (.int .i64 1))),
      .p (some 95) (.move (.t 96))])
    (c6_k10)
def c6_k12 : C :=
  .cond (.t 77)
    (c6_k2)
    (c6_k11)
def c6_k13 : C :=
  .seq (.ops [7, 9, 10, 59, 60, 61, 71, 77, 121] [.p (some 78) (.bin .eql .int [] (.t 71) (.c (.int .i64 0))),
    .p (some 77) (.move (.t 78))])
  (c6_k12)
def c6_k14 : C :=
  .block 5 (c6_k13)
def c6_k15 : C :=
  .seq (.ops [7, 9, 10, 59, 60, 61, 71, 121] [.p (some 70) (.faddr 0 (.t 9)),
    .p (some 71) (.load false 1 (.t 70))])
  (c6_k14)
def c6_k16 : C :=
  .seq (.ops [7, 9, 10, 59, 60, 61, 121] [.p (some 65) (.faddr 1 (.t 9)),
    .p (some 66) (.load false 1 (.t 65)),
    .p (some 67) (.conv (.int .u64) (.t 66)),
    .p (some 68) (.bin .rem .int [] (.t 67) (.c (.int .u64 4))),
    .p (some 69) (.bin .shl .int [] (.c (.int .i64 1)) (.t 68)),
    .p (some 10) (.move (.t 69))])
  (c6_k15)
def c6_k17 : C :=
  .seq (.ops [7, 9, 59, 60, 61, 121] [.p (some 63) (.iaddr 36 (.t 59) (.t 61)),
    .p (some 64) (.load true 36 (.t 63)),
    .e (some 9) (.alloc [(.d (.int .i64 0)), (.d (.int .i64 0)), (.d (.int .u64 0)), (.d (.str [])), (.d (.int .u8 0)), (.d (.int .u8 0)), (.d (.int .u8 0)), (.d (.int .u8 0)), (.d (.int .u8 0)), (.d (.int .u8 0)), (.d (.int .u8 0)), (.d (.int .u8 0)), (.d (.int .u8 0)), (.d (.int .u8 0)), (.d (.int .u8 0)), (.d (.int .u8 0)), (.d (.int .u8 0)), (.d (.int .u8 0)), (.d (.int .u8 0)), (.d (.int .u8 0)), (.d (.int .u8 0)), (.d (.int .u8 0)), (.d (.int .u8 0)), (.d (.int .u8 0)), (.d (.int .u8 0)), (.d (.int .u8 0)), (.d (.int .u8 0)), (.d (.int .u8 0)), (.d (.int .u8 0)), (.d (.int .u8 0)), (.d (.int .u8 0)), (.d (.int .u8 0)), (.d (.int .u8 0)), (.d (.int .u8 0)), (.d (.int .u8 0)), (.d (.int .u8 0))]),
    .e .none (.store 36 (.t 9) (.t 64))])
  (c6_k16)
def c6_k18 : C :=
  .seq (.block 4 (c6_k17))
  (.ops [7, 59, 60, 61, 121] [.p (some 114) (.bin .add .int [] (.t 61) (.c (.int .i64 1))),
    .p (some 61) (.move (.t 114))])
def c6_k19 : C :=
  .seq (.cond (.t 62)
    (.skip)
    (.exit 3))
  (c6_k18)
def c6_l20 : C :=
  .seq (.ops [7, 59, 60, 61, 62, 121] [.p (some 62) (.bin .lss .int [] (.t 61) (.t 60))])
  (c6_k19)
def c6_k21 : C :=
  .block 3 (.loop [7, 59, 60, 61, 121] c6_l20)
def c6_k22 : C :=
  .seq (.seq (.ops [7, 59, 60, 61, 121] [.p (some 59) (.move (.t 0)),
    .p (some 60) (.len .slice (.t 59)),
    .p (some 61) (.move (.c (.int .i64 0)))])
  (c6_k21))
  (c6_k0)
def c6_k23 : C :=
  .seq (.ops [0, 7, 121] [.p (some 56) (.move (.t 3)),
    .call (some 57) 21 [(.t 56)],
    .call (some 58) 22 [(.t 57)],
    .p (some 7) (.move (.t 58))])
  (c6_k22)
def c6_k24 : C :=
  .cond (.t 49)
    (.ops [0, 3, 17, 18, 19, 121] [.p (some 51) (.move (.t 3)),
      .p (some 52) (.faddr 3 (.t 5)),
      .p (some 53) (.load false 1 (.t 52)),
      .call (some 54) 17 [(.t 51), (.t 53)]])
    (.ops [0, 3, 17, 18, 19, 121] [.p (some 30) (.move (.t 3)),
      .p (some 31) (.faddr 4 (.t 5)),
      .p (some 32) (.load true 32 (.t 31)),
      .call (some 33) 19 [(.t 30), (.t 32)]])
def c6_k25 : C :=
  .seq (.ops [0, 3, 5, 17, 18, 19, 49, 121] [.p (some 50) (.bin .eql .int [] (.t 29) (.c (.int .i64 2))),
      .p (some 49) (.move (.t 50))])
    (c6_k24)
def c6_k26 : C :=
  .cond (.t 41)
    (.ops [0, 3, 17, 18, 19, 121] [.p (some 43) (.move (.t 3)),
      .p (some 44) (.faddr 2 (.t 5)),
      .p (some 45) (.load false 1 (.t 44)),
      .p (some 46) (.bin .shr .int [] (.t 45) (.c (.int .u64 1))),
      .p (some 47) (.conv (.int .i64) (.t 46)),
      .call (some 48) 15 [(.t 43), (.t 47)]])
    (c6_k25)
def c6_k27 : C :=
  .seq (.ops [0, 3, 5, 17, 18, 19, 29, 41, 121] [.p (some 42) (.bin .eql .int [] (.t 29) (.c (.int .i64 1))),
      .p (some 41) (.move (.t 42))])
    (c6_k26)
def c6_k28 : C :=
  .cond (.t 34)
    (.ops [0, 3, 17, 18, 19, 121] [.p (some 36) (.move (.t 3)),
      .p (some 37) (.faddr 2 (.t 5)),
      .p (some 38) (.load false 1 (.t 37)),
      .p (some 39) (.move (.t 6)),
      .call (some 40) 13 [(.t 36), (.t 38), (.t 39)]])
    (c6_k27)
def c6_k29 : C :=
  .seq (.ops [0, 3, 5, 6, 17, 18, 19, 29, 34, 121] [.p (some 35) (.bin .eql .int [] (.t 29) (.c (.int .i64 0))),
    .p (some 34) (.move (.t 35))])
  (c6_k28)
def c6_k30 : C :=
  .block 2 (c6_k29)
def c6_k31 : C :=
  .seq (.ops [0, 3, 5, 6, 17, 18, 19, 29, 121] [.p (some 28) (.faddr 0 (.t 5)),
    .p (some 29) (.load false 1 (.t 28))])
  (c6_k30)
def c6_k32 : C :=
  .seq (.ops [0, 3, 5, 6, 17, 18, 19, 121] [.p (some 23) (.faddr 1 (.t 5)),
    .p (some 24) (.load false 1 (.t 23)),
    .p (some 25) (.conv (.int .u64) (.t 24)),
    .p (some 26) (.bin .rem .int [] (.t 25) (.c (.int .u64 4))),
    .p (some 27) (.bin .shl .int [] (.c (.int .i64 1)) (.t 26)),
    .p (some 6) (.move (.t 27))])
  (c6_k31)
def c6_k33 : C :=
  .seq (.ops [0, 3, 5, 17, 18, 19, 121] [.p (some 21) (.iaddr 36 (.t 17) (.t 19)),
    .p (some 22) (.load true 36 (.t 21)),
    .e (some 5) (.alloc [(.d (.int .i64 0)), (.d (.int .i64 0)), (.d (.int .u64 0)), (.d (.str [])), (.d (.int .u8 0)), (.d (.int .u8 0)), (.d (.int .u8 0)), (.d (.int .u8 0)), (.d (.int .u8 0)), (.d (.int .u8 0)), (.d (.int .u8 0)), (.d (.int .u8 0)), (.d (.int .u8 0)), (.d (.int .u8 0)), (.d (.int .u8 0)), (.d (.int .u8 0)), (.d (.int .u8 0)), (.d (.int .u8 0)), (.d (.int .u8 0)), (.d (.int .u8 0)), (.d (.int .u8 0)), (.d (.int .u8 0)), (.d (.int .u8 0)), (.d (.int .u8 0)), (.d (.int .u8 0)), (.d (.int .u8 0)), (.d (.int .u8 0)), (.d (.int .u8 0)), (.d (.int .u8 0)), (.d (.int .u8 0)), (.d (.int .u8 0)), (.d (.int .u8 0)), (.d (.int .u8 0)), (.d (.int .u8 0)), (.d (.int .u8 0)), (.d (.int .u8 0))]),
    .e .none (.store 36 (.t 5) (.t 22))])
  (c6_k32)
def c6_k34 : C :=
  .seq (.block 1 (c6_k33))
  (.ops [0, 3, 17, 18, 19, 121] [.p (some 55) (.bin .add .int [] (.t 19) (.c (.int .i64 1))),
    .p (some 19) (.move (.t 55))])
def c6_k35 : C :=
  .seq (.cond (.t 20)
    (.skip)
    (.exit 0))
  (c6_k34)
def c6_l36 : C :=
  .seq (.ops [0, 3, 17, 18, 19, 20, 121] [.p (some 20) (.bin .lss .int [] (.t 19) (.t 18))])
  (c6_k35)
def c6_k37 : C :=
  .block 0 (.loop [0, 3, 17, 18, 19, 121] c6_l36)
def c6_k38 : C :=
  .seq (.seq (.ops [0, 3, 17, 18, 19, 121] [.p (some 17) (.move (.t 0)),
    .p (some 18) (.len .slice (.t 17)),
    .p (some 19) (.move (.c (.int .i64 0)))])
  (c6_k37))
  (c6_k23)
def c6_k39 : C :=
  .seq (.ops [0, 3, 121] [.p (some 15) (.build [.nils] []),
    .e (some 16) (.box (.t 15)),
    .p (some 3) (.move (.t 16))])
  (c6_k38)
def c6_k40 : C :=
  .cond (.t 14)
    (.seq (.ops [2] [.p (some 2) (.move (.c (.bool true)))])
    (.ret))
    (.skip)
def c6_k41 : C :=
  .seq (.seq (.ops [0, 14, 121] [.p (some 13) (.move (.t 0)),
    .call (some 14) 12 [(.t 13)]])
  (c6_k40))
  (c6_k39)
def c6_k42 : C :=
  .cond (.t 12)
    (.seq (.ops [2] [.p (some 2) (.move (.c (.bool false)))])
    (.ret))
    (.skip)
def c6_k43 : C :=
  .seq (.seq (.ops [0, 12, 121] [.call (some 11) 11 [],
    .p (some 12) (.una .not (.t 11))])
  (c6_k42))
  (c6_k41)
def c6 : FnC := ⟨1, 123, [.tmp 2],
  .seq (.ops [0, 121] [.p (some 2) (.move (.c (.bool false)))])
  (c6_k43)⟩

/-! 7: gossamer/gossamerlaw08.PackAgain -/
def c7_k0 : C :=
  .seq (.ops [4] [.p (some 83) (.move (.t 9)),
    .call (some 84) 21 [(.t 83)],
    .p (some 85) (.len .slice (.t 84)),
    .p (some 86) (.bin .eql .int [] (.t 85) (.c (.int .i64 0))),
    .p (some 87) (.move (.t 86)),
    .when 87 true [.p (some 88) (.move (.t 10)),
      .call (some 89) 24 [(.t 88), (.c (.int .i64 1))],
      .p (some 90) (.bin .eql .int [] (.t 89) (.c (.int .u64 0)))],
    .p (some 91) (.pick (.t 87) (.t 90) (.c (.bool false))),
    .p (some 92) (.move (.t 91)),
    .when 92 true [.p (some 93) (.move (.t 10)),
      .call (some 94) 26 [(.t 93), (.c (.int .i64 9))],
      .p (some 95) (.bin .eql .int [] (.t 94) (.c (.int .i64 0)))],
    .p (some 96) (.pick (.t 92) (.t 95) (.c (.bool false))),
    .p (some 97) (.move (.t 96)),
    .when 97 true [.p (some 98) (.move (.t 10)),
      .call (some 99) 28 [(.t 98), (.c (.int .i64 9))],
      .p (some 100) (.bin .eql .str [] (.t 99) (.c (.str [])))],
    .p (some 101) (.pick (.t 97) (.t 100) (.c (.bool false))),
    .p (some 102) (.move (.t 101)),
    .when 102 true [.p (some 103) (.move (.t 10)),
      .call (some 104) 30 [(.t 103)],
      .p (some 105) (.build (List.replicate 32 (.int .u8 0)) []),
      .p (some 106) (.bin .eql .flat (List.replicate 32 (.int .u8)) (.t 104) (.t 105))],
    .p (some 107) (.pick (.t 102) (.t 106) (.c (.bool false))),
    .p (some 108) (.move (.t 107)),
    .when 108 true [.p (some 109) (.move (.t 10)),
      .call (some 110) 31 [(.t 109)],
      .p (some 111) (.bin .eql .int [] (.t 110) (.c (.int .i64 0)))],
    .p (some 112) (.pick (.t 108) (.t 111) (.c (.bool false))),
    .p (some 113) (.move (.t 112)),
    .when 113 true [.p (some 114) (.move (.t 10)),
      .call (some 115) 32 [(.t 114)],
      .call (some 116) 34 [(.t 115), (.c (.int .i64 2))]],
    .p (some 117) (.pick (.t 113) (.t 116) (.c (.bool false))),
    .p (some 4) (.move (.t 117))])
  (.ret)
def c7_k1 : C :=
  .seq (.ops [9, 10, 90, 95, 100, 106, 111, 116] [.p (some 10) (.move (.c .nilp))])
  (c7_k0)
def c7_k2 : C :=
  .seq (.ops [9, 90, 95, 100, 106, 111, 116] [.p (some 80) (.move (.t 9)),
    .p (some 81) (.build (List.replicate 32 (.int .u8 0)) []),
    .call (some 82) 19 [(.t 80), (.t 81)]])
  (c7_k1)
def c7_k3 : C :=
  .seq (.ops [9, 90, 95, 100, 106, 111, 116] [.p (some 78) (.move (.t 9)),
    .call (some 79) 17 [(.t 78), (.c (.str [120]))]])
  (c7_k2)
def c7_k4 : C :=
  .seq (.ops [9, 90, 95, 100, 106, 111, 116] [.p (some 76) (.move (.t 9)),
    .call (some 77) 15 [(.t 76), (.c (.int .i64 1))]])
  (c7_k3)
def c7_k5 : C :=
  .seq (.ops [9, 90, 95, 100, 106, 111, 116] [.p (some 74) (.move (.t 9)),
    .call (some 75) 13 [(.t 74), (.c (.int .u64 1)), (.c (.int .i64 1))]])
  (c7_k4)
def c7_k6 : C :=
  .seq (.ops [9, 90, 95, 100, 106, 111, 116] [.p (some 9) (.move (.c .nilp))])
  (c7_k5)
def c7_k7 : C :=
  .cond (.t 73)
    (.seq (.ops [4] [.p (some 4) (.move (.c (.bool false)))])
    (.ret))
    (.skip)
def c7_k8 : C :=
  .seq (.seq (.drw [73, 90, 95, 100, 106, 111, 116] 0 [⟨.none, .p (some 63) (.move (.t 5)), [], 0⟩,
    ⟨.none, .call (some 64) 32 [(.t 63)], [0], 0⟩,
    ⟨.none, .p (some 65) (.bin .eql .iface [] (.t 64) (.c .nili)), [1], 0⟩,
    ⟨.none, .p (some 66) (.move (.t 65)), [2, 1], 0⟩,
    ⟨(some (66, true)), .p (some 67) (.move (.t 6)), [3], 0⟩,
    ⟨(some (66, true)), .call (some 68) 21 [(.t 67)], [4, 3, 3], 0⟩,
    ⟨(some (66, true)), .p (some 69) (.conv .bytesStr (.t 68)), [5, 3], 0⟩,
    ⟨(some (66, true)), .p (some 70) (.move (.t 0)), [3], 0⟩,
    ⟨(some (66, true)), .p (some 71) (.conv .bytesStr (.t 70)), [7, 3], 0⟩,
    ⟨(some (66, true)), .p (some 72) (.bin .neq .str [] (.t 69) (.t 71)), [6, 8, 3], 0⟩,
    ⟨.none, .p (some 73) (.pick (.t 66) (.t 72) (.c (.bool false))), [3, 9], 0⟩])
  (c7_k7))
  (c7_k6)
def c7_k9 : C :=
  .cond (.t 54)
    (.ops [0, 5, 6, 24, 25, 26, 67, 68, 69, 70, 71, 72, 90, 95, 100, 106, 111, 116] [.p (some 56) (.move (.t 6)),
      .p (some 57) (.move (.t 5)),
      .p (some 58) (.faddr 1 (.t 8)),
      .p (some 59) (.load false 1 (.t 58)),
      .call (some 60) 28 [(.t 57), (.t 59)],
      .call (some 61) 17 [(.t 56), (.t 60)]])
    (.ops [0, 5, 6, 24, 25, 26, 67, 68, 69, 70, 71, 72, 90, 95, 100, 106, 111, 116] [.p (some 32) (.move (.t 6)),
      .p (some 33) (.move (.t 5)),
      .call (some 34) 30 [(.t 33)],
      .call (some 35) 19 [(.t 32), (.t 34)]])
def c7_k10 : C :=
  .seq (.ops [0, 5, 6, 8, 24, 25, 26, 54, 67, 68, 69, 70, 71, 72, 90, 95, 100, 106, 111, 116] [.p (some 55) (.bin .eql .int [] (.t 31) (.c (.int .i64 2))),
      .p (some 54) (.move (.t 55))])
    (c7_k9)
def c7_k11 : C :=
  .cond (.t 46)
    (.ops [0, 5, 6, 24, 25, 26, 67, 68, 69, 70, 71, 72, 90, 95, 100, 106, 111, 116] [.p (some 48) (.move (.t 6)),
      .p (some 49) (.move (.t 5)),
      .p (some 50) (.faddr 1 (.t 8)),
      .p (some 51) (.load false 1 (.t 50)),
      .call (some 52) 26 [(.t 49), (.t 51)],
      .call (some 53) 15 [(.t 48), (.t 52)]])
    (c7_k10)
def c7_k12 : C :=
  .seq (.ops [0, 5, 6, 8, 24, 25, 26, 31, 46, 67, 68, 69, 70, 71, 72, 90, 95, 100, 106, 111, 116] [.p (some 47) (.bin .eql .int [] (.t 31) (.c (.int .i64 1))),
      .p (some 46) (.move (.t 47))])
    (c7_k11)
def c7_k13 : C :=
  .cond (.t 36)
    (.drw [0, 5, 6, 24, 25, 26, 67, 68, 69, 70, 71, 72, 90, 95, 100, 106, 111, 116] 0 [⟨.none, .p (some 38) (.move (.t 6)), [], 0⟩,
      ⟨.none, .p (some 39) (.move (.t 5)), [], 0⟩,
      ⟨.none, .p (some 40) (.faddr 1 (.t 8)), [], 0⟩,
      ⟨.none, .p (some 41) (.load false 1 (.t 40)), [2], 0⟩,
      ⟨.none, .call (some 42) 24 [(.t 39), (.t 41)], [1, 3], 0⟩,
      ⟨.none, .p (some 43) (.faddr 1 (.t 8)), [], 0⟩,
      ⟨.none, .p (some 44) (.load false 1 (.t 43)), [5], 0⟩,
      ⟨.none, .call (some 45) 13 [(.t 38), (.t 42), (.t 44)], [0, 4, 6, 4], 0⟩])
    (c7_k12)
def c7_k14 : C :=
  .seq (.ops [0, 5, 6, 8, 24, 25, 26, 31, 36, 67, 68, 69, 70, 71, 72, 90, 95, 100, 106, 111, 116] [.p (some 37) (.bin .eql .int [] (.t 31) (.c (.int .i64 0))),
    .p (some 36) (.move (.t 37))])
  (c7_k13)
def c7_k15 : C :=
  .block 2 (c7_k14)
def c7_k16 : C :=
  .seq (.ops [0, 5, 6, 8, 24, 25, 26, 31, 67, 68, 69, 70, 71, 72, 90, 95, 100, 106, 111, 116] [.p (some 30) (.faddr 0 (.t 8)),
    .p (some 31) (.load false 1 (.t 30))])
  (c7_k15)
def c7_k17 : C :=
  .seq (.ops [0, 5, 6, 8, 24, 25, 26, 67, 68, 69, 70, 71, 72, 90, 95, 100, 106, 111, 116] [.p (some 28) (.iaddr 36 (.t 24) (.t 26)),
    .p (some 29) (.load true 36 (.t 28)),
    .e (some 8) (.alloc [(.d (.int .i64 0)), (.d (.int .i64 0)), (.d (.int .u64 0)), (.d (.str [])), (.d (.int .u8 0)), (.d (.int .u8 0)), (.d (.int .u8 0)), (.d (.int .u8 0)), (.d (.int .u8 0)), (.d (.int .u8 0)), (.d (.int .u8 0)), (.d (.int .u8 0)), (.d (.int .u8 0)), (.d (.int .u8 0)), (.d (.int .u8 0)), (.d (.int .u8 0)), (.d (.int .u8 0)), (.d (.int .u8 0)), (.d (.int .u8 0)), (.d (.int .u8 0)), (.d (.int .u8 0)), (.d (.int .u8 0)), (.d (.int .u8 0)), (.d (.int .u8 0)), (.d (.int .u8 0)), (.d (.int .u8 0)), (.d (.int .u8 0)), (.d (.int .u8 0)), (.d (.int .u8 0)), (.d (.int .u8 0)), (.d (.int .u8 0)), (.d (.int .u8 0)), (.d (.int .u8 0)), (.d (.int .u8 0)), (.d (.int .u8 0)), (.d (.int .u8 0))]),
    .e .none (.store 36 (.t 8) (.t 29))])
  (c7_k16)
def c7_k18 : C :=
  .seq (.block 1 (c7_k17))
  (.ops [0, 5, 6, 24, 25, 26, 67, 68, 69, 70, 71, 72, 90, 95, 100, 106, 111, 116] [.p (some 62) (.bin .add .int [] (.t 26) (.c (.int .i64 1))),
    .p (some 26) (.move (.t 62))])
def c7_k19 : C :=
  .seq (.cond (.t 27)
    (.skip)
    (.exit 0))
  (c7_k18)
def c7_l20 : C :=
  .seq (.ops [0, 5, 6, 24, 25, 26, 27, 67, 68, 69, 70, 71, 72, 90, 95, 100, 106, 111, 116] [.p (some 27) (.bin .lss .int [] (.t 26) (.t 25))])
  (c7_k19)
def c7_k21 : C :=
  .block 0 (.loop [0, 5, 6, 24, 25, 26, 67, 68, 69, 70, 71, 72, 90, 95, 100, 106, 111, 116] c7_l20)
def c7_k22 : C :=
  .seq (.seq (.ops [0, 5, 6, 24, 25, 26, 67, 68, 69, 70, 71, 72, 90, 95, 100, 106, 111, 116] [.p (some 24) (.move (.t 1)),
    .p (some 25) (.len .slice (.t 24)),
    .p (some 26) (.move (.c (.int .i64 0)))])
  (c7_k21))
  (c7_k8)
def c7_k23 : C :=
  .seq (.ops [0, 1, 5, 6, 67, 68, 69, 70, 71, 72, 90, 95, 100, 106, 111, 116] [.p (some 20) (.move (.t 0)),
    .call (some 21) 22 [(.t 20)],
    .p (some 22) (.build [.nils] []),
    .e (some 23) (.box (.t 22)),
    .p (some 5) (.move (.t 21)),
    .p (some 6) (.move (.t 23))])
  (c7_k22)
def c7_k24 : C :=
  .cond (.t 19)
    (.seq (.ops [4] [.p (some 4) (.move (.c (.bool true)))])
    (.ret))
    (.skip)
def c7_k25 : C :=
  .seq (.seq (.ops [0, 1, 19, 67, 68, 69, 70, 71, 72, 90, 95, 100, 106, 111, 116] [.p (some 13) (.move (.t 1)),
    .call (some 14) 12 [(.t 13)],
    .p (some 15) (.move (.t 14)),
    .when 15 false [.p (some 16) (.move (.t 0)),
      .p (some 17) (.len .slice (.t 16)),
      .p (some 18) (.bin .gtr .int [] (.t 17) (.c (.int .i64 3000)))],
    .p (some 19) (.pick (.t 15) (.c (.bool true)) (.t 18))])
  (c7_k24))
  (c7_k23)
def c7_k26 : C :=
  .cond (.t 12)
    (.seq (.ops [4] [.p (some 4) (.move (.c (.bool false)))])
    (.ret))
    (.skip)
def c7_k27 : C :=
  .seq (.seq (.ops [0, 1, 12, 18, 67, 68, 69, 70, 71, 72, 90, 95, 100, 106, 111, 116] [.call (some 11) 11 [],
    .p (some 12) (.una .not (.t 11))])
  (c7_k26))
  (c7_k25)
def c7 : FnC := ⟨2, 118, [.tmp 4],
  .seq (.ops [0, 1, 18, 67, 68, 69, 70, 71, 72, 90, 95, 100, 106, 111, 116] [.p (some 4) (.move (.c (.bool false)))])
  (c7_k27)⟩


theorem comp3 : ∃ fn code, Try.prog.funcs[3]? = some fn ∧ fn.body = some code ∧ (fn.name == "runtime.NumGoroutine") = false ∧ comp Try.prog fn.ntmps code = some (erase c3.body) ∧ compRes Try.prog fn.results.toList = some c3.res ∧ c3.nparams ≤ fn.ntmps := ⟨_, _, Try.func3, rfl, by kernel_rfl, by kernel_rfl, by kernel_rfl, by decide⟩
theorem comp8 : ∃ fn code, Try.prog.funcs[8]? = some fn ∧ fn.body = some code ∧ (fn.name == "runtime.NumGoroutine") = false ∧ comp Try.prog fn.ntmps code = some (erase c8.body) ∧ compRes Try.prog fn.results.toList = some c8.res ∧ c8.nparams ≤ fn.ntmps := ⟨_, _, Try.func8, rfl, by kernel_rfl, by kernel_rfl, by kernel_rfl, by decide⟩
theorem comp10 : ∃ fn code, Try.prog.funcs[10]? = some fn ∧ fn.body = some code ∧ (fn.name == "runtime.NumGoroutine") = false ∧ comp Try.prog fn.ntmps code = some (erase c10.body) ∧ compRes Try.prog fn.results.toList = some c10.res ∧ c10.nparams ≤ fn.ntmps := ⟨_, _, Try.func10, rfl, by kernel_rfl, by kernel_rfl, by kernel_rfl, by decide⟩
theorem comp37 : ∃ fn code, Try.prog.funcs[37]? = some fn ∧ fn.body = some code ∧ (fn.name == "runtime.NumGoroutine") = false ∧ comp Try.prog fn.ntmps code = some (erase c37.body) ∧ compRes Try.prog fn.results.toList = some c37.res ∧ c37.nparams ≤ fn.ntmps := ⟨_, _, Try.func37, rfl, by kernel_rfl, by kernel_rfl, by kernel_rfl, by decide⟩
theorem comp47 : ∃ fn code, Try.prog.funcs[47]? = some fn ∧ fn.body = some code ∧ (fn.name == "runtime.NumGoroutine") = false ∧ comp Try.prog fn.ntmps code = some (erase c47.body) ∧ compRes Try.prog fn.results.toList = some c47.res ∧ c47.nparams ≤ fn.ntmps := ⟨_, _, Try.func47, rfl, by kernel_rfl, by kernel_rfl, by kernel_rfl, by decide⟩
theorem comp53 : ∃ fn code, Try.prog.funcs[53]? = some fn ∧ fn.body = some code ∧ (fn.name == "runtime.NumGoroutine") = false ∧ comp Try.prog fn.ntmps code = some (erase c53.body) ∧ compRes Try.prog fn.results.toList = some c53.res ∧ c53.nparams ≤ fn.ntmps := ⟨_, _, Try.func53, rfl, by kernel_rfl, by kernel_rfl, by kernel_rfl, by decide⟩
theorem comp48 : ∃ fn code, Try.prog.funcs[48]? = some fn ∧ fn.body = some code ∧ (fn.name == "runtime.NumGoroutine") = false ∧ comp Try.prog fn.ntmps code = some (erase c48.body) ∧ compRes Try.prog fn.results.toList = some c48.res ∧ c48.nparams ≤ fn.ntmps := ⟨_, _, Try.func48, rfl, by kernel_rfl, by kernel_rfl, by kernel_rfl, by decide⟩
theorem comp49 : ∃ fn code, Try.prog.funcs[49]? = some fn ∧ fn.body = some code ∧ (fn.name == "runtime.NumGoroutine") = false ∧ comp Try.prog fn.ntmps code = some (erase c49.body) ∧ compRes Try.prog fn.results.toList = some c49.res ∧ c49.nparams ≤ fn.ntmps := ⟨_, _, Try.func49, rfl, by kernel_rfl, by kernel_rfl, by kernel_rfl, by decide⟩
theorem comp9 : ∃ fn code, Try.prog.funcs[9]? = some fn ∧ fn.body = some code ∧ (fn.name == "runtime.NumGoroutine") = false ∧ comp Try.prog fn.ntmps code = some (erase c9.body) ∧ compRes Try.prog fn.results.toList = some c9.res ∧ c9.nparams ≤ fn.ntmps := ⟨_, _, Try.func9, rfl, by kernel_rfl, by kernel_rfl, by kernel_rfl, by decide⟩
theorem comp35 : ∃ fn code, Try.prog.funcs[35]? = some fn ∧ fn.body = some code ∧ (fn.name == "runtime.NumGoroutine") = false ∧ comp Try.prog fn.ntmps code = some (erase c35.body) ∧ compRes Try.prog fn.results.toList = some c35.res ∧ c35.nparams ≤ fn.ntmps := ⟨_, _, Try.func35, rfl, by kernel_rfl, by kernel_rfl, by kernel_rfl, by decide⟩
theorem comp36 : ∃ fn code, Try.prog.funcs[36]? = some fn ∧ fn.body = some code ∧ (fn.name == "runtime.NumGoroutine") = false ∧ comp Try.prog fn.ntmps code = some (erase c36.body) ∧ compRes Try.prog fn.results.toList = some c36.res ∧ c36.nparams ≤ fn.ntmps := ⟨_, _, Try.func36, rfl, by kernel_rfl, by kernel_rfl, by kernel_rfl, by decide⟩
theorem comp46 : ∃ fn code, Try.prog.funcs[46]? = some fn ∧ fn.body = some code ∧ (fn.name == "runtime.NumGoroutine") = false ∧ comp Try.prog fn.ntmps code = some (erase c46.body) ∧ compRes Try.prog fn.results.toList = some c46.res ∧ c46.nparams ≤ fn.ntmps := ⟨_, _, Try.func46, rfl, by kernel_rfl, by kernel_rfl, by kernel_rfl, by decide⟩
theorem comp40 : ∃ fn code, Try.prog.funcs[40]? = some fn ∧ fn.body = some code ∧ (fn.name == "runtime.NumGoroutine") = false ∧ comp Try.prog fn.ntmps code = some (erase c40.body) ∧ compRes Try.prog fn.results.toList = some c40.res ∧ c40.nparams ≤ fn.ntmps := ⟨_, _, Try.func40, rfl, by kernel_rfl, by kernel_rfl, by kernel_rfl, by decide⟩
theorem comp50 : ∃ fn code, Try.prog.funcs[50]? = some fn ∧ fn.body = some code ∧ (fn.name == "runtime.NumGoroutine") = false ∧ comp Try.prog fn.ntmps code = some (erase c50.body) ∧ compRes Try.prog fn.results.toList = some c50.res ∧ c50.nparams ≤ fn.ntmps := ⟨_, _, Try.func50, rfl, by kernel_rfl, by kernel_rfl, by kernel_rfl, by decide⟩
theorem comp51 : ∃ fn code, Try.prog.funcs[51]? = some fn ∧ fn.body = some code ∧ (fn.name == "runtime.NumGoroutine") = false ∧ comp Try.prog fn.ntmps code = some (erase c51.body) ∧ compRes Try.prog fn.results.toList = some c51.res ∧ c51.nparams ≤ fn.ntmps := ⟨_, _, Try.func51, rfl, by kernel_rfl, by kernel_rfl, by kernel_rfl, by decide⟩
theorem comp52 : ∃ fn code, Try.prog.funcs[52]? = some fn ∧ fn.body = some code ∧ (fn.name == "runtime.NumGoroutine") = false ∧ comp Try.prog fn.ntmps code = some (erase c52.body) ∧ compRes Try.prog fn.results.toList = some c52.res ∧ c52.nparams ≤ fn.ntmps := ⟨_, _, Try.func52, rfl, by kernel_rfl, by kernel_rfl, by kernel_rfl, by decide⟩
theorem comp54 : ∃ fn code, Try.prog.funcs[54]? = some fn ∧ fn.body = some code ∧ (fn.name == "runtime.NumGoroutine") = false ∧ comp Try.prog fn.ntmps code = some (erase c54.body) ∧ compRes Try.prog fn.results.toList = some c54.res ∧ c54.nparams ≤ fn.ntmps := ⟨_, _, Try.func54, rfl, by kernel_rfl, by kernel_rfl, by kernel_rfl, by decide⟩
theorem comp55 : ∃ fn code, Try.prog.funcs[55]? = some fn ∧ fn.body = some code ∧ (fn.name == "runtime.NumGoroutine") = false ∧ comp Try.prog fn.ntmps code = some (erase c55.body) ∧ compRes Try.prog fn.results.toList = some c55.res ∧ c55.nparams ≤ fn.ntmps := ⟨_, _, Try.func55, rfl, by kernel_rfl, by kernel_rfl, by kernel_rfl, by decide⟩
theorem comp4 : ∃ fn code, Try.prog.funcs[4]? = some fn ∧ fn.body = some code ∧ (fn.name == "runtime.NumGoroutine") = false ∧ comp Try.prog fn.ntmps code = some (erase c4.body) ∧ compRes Try.prog fn.results.toList = some c4.res ∧ c4.nparams ≤ fn.ntmps := ⟨_, _, Try.func4, rfl, by kernel_rfl, by kernel_rfl, by kernel_rfl, by decide⟩
theorem comp11 : ∃ fn code, Try.prog.funcs[11]? = some fn ∧ fn.body = some code ∧ (fn.name == "runtime.NumGoroutine") = false ∧ comp Try.prog fn.ntmps code = some (erase c11.body) ∧ compRes Try.prog fn.results.toList = some c11.res ∧ c11.nparams ≤ fn.ntmps := ⟨_, _, Try.func11, rfl, by kernel_rfl, by kernel_rfl, by kernel_rfl, by decide⟩
theorem comp15 : ∃ fn code, Try.prog.funcs[15]? = some fn ∧ fn.body = some code ∧ (fn.name == "runtime.NumGoroutine") = false ∧ comp Try.prog fn.ntmps code = some (erase c15.body) ∧ compRes Try.prog fn.results.toList = some c15.res ∧ c15.nparams ≤ fn.ntmps := ⟨_, _, Try.func15, rfl, by kernel_rfl, by kernel_rfl, by kernel_rfl, by decide⟩
theorem comp39 : ∃ fn code, Try.prog.funcs[39]? = some fn ∧ fn.body = some code ∧ (fn.name == "runtime.NumGoroutine") = false ∧ comp Try.prog fn.ntmps code = some (erase c39.body) ∧ compRes Try.prog fn.results.toList = some c39.res ∧ c39.nparams ≤ fn.ntmps := ⟨_, _, Try.func39, rfl, by kernel_rfl, by kernel_rfl, by kernel_rfl, by decide⟩
theorem comp13 : ∃ fn code, Try.prog.funcs[13]? = some fn ∧ fn.body = some code ∧ (fn.name == "runtime.NumGoroutine") = false ∧ comp Try.prog fn.ntmps code = some (erase c13.body) ∧ compRes Try.prog fn.results.toList = some c13.res ∧ c13.nparams ≤ fn.ntmps := ⟨_, _, Try.func13, rfl, by kernel_rfl, by kernel_rfl, by kernel_rfl, by decide⟩
theorem comp38 : ∃ fn code, Try.prog.funcs[38]? = some fn ∧ fn.body = some code ∧ (fn.name == "runtime.NumGoroutine") = false ∧ comp Try.prog fn.ntmps code = some (erase c38.body) ∧ compRes Try.prog fn.results.toList = some c38.res ∧ c38.nparams ≤ fn.ntmps := ⟨_, _, Try.func38, rfl, by kernel_rfl, by kernel_rfl, by kernel_rfl, by decide⟩
theorem comp22 : ∃ fn code, Try.prog.funcs[22]? = some fn ∧ fn.body = some code ∧ (fn.name == "runtime.NumGoroutine") = false ∧ comp Try.prog fn.ntmps code = some (erase c22.body) ∧ compRes Try.prog fn.results.toList = some c22.res ∧ c22.nparams ≤ fn.ntmps := ⟨_, _, Try.func22, rfl, by kernel_rfl, by kernel_rfl, by kernel_rfl, by decide⟩
theorem comp21 : ∃ fn code, Try.prog.funcs[21]? = some fn ∧ fn.body = some code ∧ (fn.name == "runtime.NumGoroutine") = false ∧ comp Try.prog fn.ntmps code = some (erase c21.body) ∧ compRes Try.prog fn.results.toList = some c21.res ∧ c21.nparams ≤ fn.ntmps := ⟨_, _, Try.func21, rfl, by kernel_rfl, by kernel_rfl, by kernel_rfl, by decide⟩
theorem comp26 : ∃ fn code, Try.prog.funcs[26]? = some fn ∧ fn.body = some code ∧ (fn.name == "runtime.NumGoroutine") = false ∧ comp Try.prog fn.ntmps code = some (erase c26.body) ∧ compRes Try.prog fn.results.toList = some c26.res ∧ c26.nparams ≤ fn.ntmps := ⟨_, _, Try.func26, rfl, by kernel_rfl, by kernel_rfl, by kernel_rfl, by decide⟩
theorem comp24 : ∃ fn code, Try.prog.funcs[24]? = some fn ∧ fn.body = some code ∧ (fn.name == "runtime.NumGoroutine") = false ∧ comp Try.prog fn.ntmps code = some (erase c24.body) ∧ compRes Try.prog fn.results.toList = some c24.res ∧ c24.nparams ≤ fn.ntmps := ⟨_, _, Try.func24, rfl, by kernel_rfl, by kernel_rfl, by kernel_rfl, by decide⟩
theorem comp42 : ∃ fn code, Try.prog.funcs[42]? = some fn ∧ fn.body = some code ∧ (fn.name == "runtime.NumGoroutine") = false ∧ comp Try.prog fn.ntmps code = some (erase c42.body) ∧ compRes Try.prog fn.results.toList = some c42.res ∧ c42.nparams ≤ fn.ntmps := ⟨_, _, Try.func42, rfl, by kernel_rfl, by kernel_rfl, by kernel_rfl, by decide⟩
theorem comp43 : ∃ fn code, Try.prog.funcs[43]? = some fn ∧ fn.body = some code ∧ (fn.name == "runtime.NumGoroutine") = false ∧ comp Try.prog fn.ntmps code = some (erase c43.body) ∧ compRes Try.prog fn.results.toList = some c43.res ∧ c43.nparams ≤ fn.ntmps := ⟨_, _, Try.func43, rfl, by kernel_rfl, by kernel_rfl, by kernel_rfl, by decide⟩
theorem comp44 : ∃ fn code, Try.prog.funcs[44]? = some fn ∧ fn.body = some code ∧ (fn.name == "runtime.NumGoroutine") = false ∧ comp Try.prog fn.ntmps code = some (erase c44.body) ∧ compRes Try.prog fn.results.toList = some c44.res ∧ c44.nparams ≤ fn.ntmps := ⟨_, _, Try.func44, rfl, by kernel_rfl, by kernel_rfl, by kernel_rfl, by decide⟩
theorem comp32 : ∃ fn code, Try.prog.funcs[32]? = some fn ∧ fn.body = some code ∧ (fn.name == "runtime.NumGoroutine") = false ∧ comp Try.prog fn.ntmps code = some (erase c32.body) ∧ compRes Try.prog fn.results.toList = some c32.res ∧ c32.nparams ≤ fn.ntmps := ⟨_, _, Try.func32, rfl, by kernel_rfl, by kernel_rfl, by kernel_rfl, by decide⟩
theorem comp12 : ∃ fn code, Try.prog.funcs[12]? = some fn ∧ fn.body = some code ∧ (fn.name == "runtime.NumGoroutine") = false ∧ comp Try.prog fn.ntmps code = some (erase c12.body) ∧ compRes Try.prog fn.results.toList = some c12.res ∧ c12.nparams ≤ fn.ntmps := ⟨_, _, Try.func12, rfl, by kernel_rfl, by kernel_rfl, by kernel_rfl, by decide⟩
theorem comp14 : ∃ fn code, Try.prog.funcs[14]? = some fn ∧ fn.body = some code ∧ (fn.name == "runtime.NumGoroutine") = false ∧ comp Try.prog fn.ntmps code = some (erase c14.body) ∧ compRes Try.prog fn.results.toList = some c14.res ∧ c14.nparams ≤ fn.ntmps := ⟨_, _, Try.func14, rfl, by kernel_rfl, by kernel_rfl, by kernel_rfl, by decide⟩
theorem comp16 : ∃ fn code, Try.prog.funcs[16]? = some fn ∧ fn.body = some code ∧ (fn.name == "runtime.NumGoroutine") = false ∧ comp Try.prog fn.ntmps code = some (erase c16.body) ∧ compRes Try.prog fn.results.toList = some c16.res ∧ c16.nparams ≤ fn.ntmps := ⟨_, _, Try.func16, rfl, by kernel_rfl, by kernel_rfl, by kernel_rfl, by decide⟩
theorem comp17 : ∃ fn code, Try.prog.funcs[17]? = some fn ∧ fn.body = some code ∧ (fn.name == "runtime.NumGoroutine") = false ∧ comp Try.prog fn.ntmps code = some (erase c17.body) ∧ compRes Try.prog fn.results.toList = some c17.res ∧ c17.nparams ≤ fn.ntmps := ⟨_, _, Try.func17, rfl, by kernel_rfl, by kernel_rfl, by kernel_rfl, by decide⟩
theorem comp18 : ∃ fn code, Try.prog.funcs[18]? = some fn ∧ fn.body = some code ∧ (fn.name == "runtime.NumGoroutine") = false ∧ comp Try.prog fn.ntmps code = some (erase c18.body) ∧ compRes Try.prog fn.results.toList = some c18.res ∧ c18.nparams ≤ fn.ntmps := ⟨_, _, Try.func18, rfl, by kernel_rfl, by kernel_rfl, by kernel_rfl, by decide⟩
theorem comp19 : ∃ fn code, Try.prog.funcs[19]? = some fn ∧ fn.body = some code ∧ (fn.name == "runtime.NumGoroutine") = false ∧ comp Try.prog fn.ntmps code = some (erase c19.body) ∧ compRes Try.prog fn.results.toList = some c19.res ∧ c19.nparams ≤ fn.ntmps := ⟨_, _, Try.func19, rfl, by kernel_rfl, by kernel_rfl, by kernel_rfl, by decide⟩
theorem comp20 : ∃ fn code, Try.prog.funcs[20]? = some fn ∧ fn.body = some code ∧ (fn.name == "runtime.NumGoroutine") = false ∧ comp Try.prog fn.ntmps code = some (erase c20.body) ∧ compRes Try.prog fn.results.toList = some c20.res ∧ c20.nparams ≤ fn.ntmps := ⟨_, _, Try.func20, rfl, by kernel_rfl, by kernel_rfl, by kernel_rfl, by decide⟩
theorem comp5 : ∃ fn code, Try.prog.funcs[5]? = some fn ∧ fn.body = some code ∧ (fn.name == "runtime.NumGoroutine") = false ∧ comp Try.prog fn.ntmps code = some (erase c5.body) ∧ compRes Try.prog fn.results.toList = some c5.res ∧ c5.nparams ≤ fn.ntmps := ⟨_, _, Try.func5, rfl, by kernel_rfl, by kernel_rfl, by kernel_rfl, by decide⟩
theorem comp23 : ∃ fn code, Try.prog.funcs[23]? = some fn ∧ fn.body = some code ∧ (fn.name == "runtime.NumGoroutine") = false ∧ comp Try.prog fn.ntmps code = some (erase c23.body) ∧ compRes Try.prog fn.results.toList = some c23.res ∧ c23.nparams ≤ fn.ntmps := ⟨_, _, Try.func23, rfl, by kernel_rfl, by kernel_rfl, by kernel_rfl, by decide⟩
theorem comp41 : ∃ fn code, Try.prog.funcs[41]? = some fn ∧ fn.body = some code ∧ (fn.name == "runtime.NumGoroutine") = false ∧ comp Try.prog fn.ntmps code = some (erase c41.body) ∧ compRes Try.prog fn.results.toList = some c41.res ∧ c41.nparams ≤ fn.ntmps := ⟨_, _, Try.func41, rfl, by kernel_rfl, by kernel_rfl, by kernel_rfl, by decide⟩
theorem comp25 : ∃ fn code, Try.prog.funcs[25]? = some fn ∧ fn.body = some code ∧ (fn.name == "runtime.NumGoroutine") = false ∧ comp Try.prog fn.ntmps code = some (erase c25.body) ∧ compRes Try.prog fn.results.toList = some c25.res ∧ c25.nparams ≤ fn.ntmps := ⟨_, _, Try.func25, rfl, by kernel_rfl, by kernel_rfl, by kernel_rfl, by decide⟩
theorem comp27 : ∃ fn code, Try.prog.funcs[27]? = some fn ∧ fn.body = some code ∧ (fn.name == "runtime.NumGoroutine") = false ∧ comp Try.prog fn.ntmps code = some (erase c27.body) ∧ compRes Try.prog fn.results.toList = some c27.res ∧ c27.nparams ≤ fn.ntmps := ⟨_, _, Try.func27, rfl, by kernel_rfl, by kernel_rfl, by kernel_rfl, by decide⟩
theorem comp28 : ∃ fn code, Try.prog.funcs[28]? = some fn ∧ fn.body = some code ∧ (fn.name == "runtime.NumGoroutine") = false ∧ comp Try.prog fn.ntmps code = some (erase c28.body) ∧ compRes Try.prog fn.results.toList = some c28.res ∧ c28.nparams ≤ fn.ntmps := ⟨_, _, Try.func28, rfl, by kernel_rfl, by kernel_rfl, by kernel_rfl, by decide⟩
theorem comp29 : ∃ fn code, Try.prog.funcs[29]? = some fn ∧ fn.body = some code ∧ (fn.name == "runtime.NumGoroutine") = false ∧ comp Try.prog fn.ntmps code = some (erase c29.body) ∧ compRes Try.prog fn.results.toList = some c29.res ∧ c29.nparams ≤ fn.ntmps := ⟨_, _, Try.func29, rfl, by kernel_rfl, by kernel_rfl, by kernel_rfl, by decide⟩
theorem comp30 : ∃ fn code, Try.prog.funcs[30]? = some fn ∧ fn.body = some code ∧ (fn.name == "runtime.NumGoroutine") = false ∧ comp Try.prog fn.ntmps code = some (erase c30.body) ∧ compRes Try.prog fn.results.toList = some c30.res ∧ c30.nparams ≤ fn.ntmps := ⟨_, _, Try.func30, rfl, by kernel_rfl, by kernel_rfl, by kernel_rfl, by decide⟩
theorem comp31 : ∃ fn code, Try.prog.funcs[31]? = some fn ∧ fn.body = some code ∧ (fn.name == "runtime.NumGoroutine") = false ∧ comp Try.prog fn.ntmps code = some (erase c31.body) ∧ compRes Try.prog fn.results.toList = some c31.res ∧ c31.nparams ≤ fn.ntmps := ⟨_, _, Try.func31, rfl, by kernel_rfl, by kernel_rfl, by kernel_rfl, by decide⟩
theorem comp33 : ∃ fn code, Try.prog.funcs[33]? = some fn ∧ fn.body = some code ∧ (fn.name == "runtime.NumGoroutine") = false ∧ comp Try.prog fn.ntmps code = some (erase c33.body) ∧ compRes Try.prog fn.results.toList = some c33.res ∧ c33.nparams ≤ fn.ntmps := ⟨_, _, Try.func33, rfl, by kernel_rfl, by kernel_rfl, by kernel_rfl, by decide⟩
theorem comp34 : ∃ fn code, Try.prog.funcs[34]? = some fn ∧ fn.body = some code ∧ (fn.name == "runtime.NumGoroutine") = false ∧ comp Try.prog fn.ntmps code = some (erase c34.body) ∧ compRes Try.prog fn.results.toList = some c34.res ∧ c34.nparams ≤ fn.ntmps := ⟨_, _, Try.func34, rfl, by kernel_rfl, by kernel_rfl, by kernel_rfl, by decide⟩
theorem comp45 : ∃ fn code, Try.prog.funcs[45]? = some fn ∧ fn.body = some code ∧ (fn.name == "runtime.NumGoroutine") = false ∧ comp Try.prog fn.ntmps code = some (erase c45.body) ∧ compRes Try.prog fn.results.toList = some c45.res ∧ c45.nparams ≤ fn.ntmps := ⟨_, _, Try.func45, rfl, by kernel_rfl, by kernel_rfl, by kernel_rfl, by decide⟩
theorem comp6 : ∃ fn code, Try.prog.funcs[6]? = some fn ∧ fn.body = some code ∧ (fn.name == "runtime.NumGoroutine") = false ∧ comp Try.prog fn.ntmps code = some (erase c6.body) ∧ compRes Try.prog fn.results.toList = some c6.res ∧ c6.nparams ≤ fn.ntmps := ⟨_, _, Try.func6, rfl, by kernel_rfl, by kernel_rfl, by kernel_rfl, by decide⟩
theorem comp7 : ∃ fn code, Try.prog.funcs[7]? = some fn ∧ fn.body = some code ∧ (fn.name == "runtime.NumGoroutine") = false ∧ comp Try.prog fn.ntmps code = some (erase c7.body) ∧ compRes Try.prog fn.results.toList = some c7.res ∧ c7.nparams ≤ fn.ntmps := ⟨_, _, Try.func7, rfl, by kernel_rfl, by kernel_rfl, by kernel_rfl, by decide⟩
def Γ : Nat → Option FnC
  | 3 => some c3
  | 4 => some c4
  | 5 => some c5
  | 6 => some c6
  | 7 => some c7
  | 8 => some c8
  | 9 => some c9
  | 10 => some c10
  | 11 => some c11
  | 12 => some c12
  | 13 => some c13
  | 14 => some c14
  | 15 => some c15
  | 16 => some c16
  | 17 => some c17
  | 18 => some c18
  | 19 => some c19
  | 20 => some c20
  | 21 => some c21
  | 22 => some c22
  | 23 => some c23
  | 24 => some c24
  | 25 => some c25
  | 26 => some c26
  | 27 => some c27
  | 28 => some c28
  | 29 => some c29
  | 30 => some c30
  | 31 => some c31
  | 32 => some c32
  | 33 => some c33
  | 34 => some c34
  | 35 => some c35
  | 36 => some c36
  | 37 => some c37
  | 38 => some c38
  | 39 => some c39
  | 40 => some c40
  | 41 => some c41
  | 42 => some c42
  | 43 => some c43
  | 44 => some c44
  | 45 => some c45
  | 46 => some c46
  | 47 => some c47
  | 48 => some c48
  | 49 => some c49
  | 50 => some c50
  | 51 => some c51
  | 52 => some c52
  | 53 => some c53
  | 54 => some c54
  | 55 => some c55
  | _ => none
def cx : Cx := { mode := fun _ => .val }
theorem hΓ : ∀ (f : Nat) (fc : FnC), Γ f = some fc → Nonempty (Fits Try.prog f fc) := by
  intro f fc h
  unfold Γ at h
  split at h
  case h_54 => cases h
  all_goals (cases h)
  · obtain ⟨fn, code, h1, h2, h3, h4, h5, h6⟩ := comp3; exact ⟨⟨fn, code, h1, h2, h3, h4, h5, h6⟩⟩
  · obtain ⟨fn, code, h1, h2, h3, h4, h5, h6⟩ := comp4; exact ⟨⟨fn, code, h1, h2, h3, h4, h5, h6⟩⟩
  · obtain ⟨fn, code, h1, h2, h3, h4, h5, h6⟩ := comp5; exact ⟨⟨fn, code, h1, h2, h3, h4, h5, h6⟩⟩
  · obtain ⟨fn, code, h1, h2, h3, h4, h5, h6⟩ := comp6; exact ⟨⟨fn, code, h1, h2, h3, h4, h5, h6⟩⟩
  · obtain ⟨fn, code, h1, h2, h3, h4, h5, h6⟩ := comp7; exact ⟨⟨fn, code, h1, h2, h3, h4, h5, h6⟩⟩
  · obtain ⟨fn, code, h1, h2, h3, h4, h5, h6⟩ := comp8; exact ⟨⟨fn, code, h1, h2, h3, h4, h5, h6⟩⟩
  · obtain ⟨fn, code, h1, h2, h3, h4, h5, h6⟩ := comp9; exact ⟨⟨fn, code, h1, h2, h3, h4, h5, h6⟩⟩
  · obtain ⟨fn, code, h1, h2, h3, h4, h5, h6⟩ := comp10; exact ⟨⟨fn, code, h1, h2, h3, h4, h5, h6⟩⟩
  · obtain ⟨fn, code, h1, h2, h3, h4, h5, h6⟩ := comp11; exact ⟨⟨fn, code, h1, h2, h3, h4, h5, h6⟩⟩
  · obtain ⟨fn, code, h1, h2, h3, h4, h5, h6⟩ := comp12; exact ⟨⟨fn, code, h1, h2, h3, h4, h5, h6⟩⟩
  · obtain ⟨fn, code, h1, h2, h3, h4, h5, h6⟩ := comp13; exact ⟨⟨fn, code, h1, h2, h3, h4, h5, h6⟩⟩
  · obtain ⟨fn, code, h1, h2, h3, h4, h5, h6⟩ := comp14; exact ⟨⟨fn, code, h1, h2, h3, h4, h5, h6⟩⟩
  · obtain ⟨fn, code, h1, h2, h3, h4, h5, h6⟩ := comp15; exact ⟨⟨fn, code, h1, h2, h3, h4, h5, h6⟩⟩
  · obtain ⟨fn, code, h1, h2, h3, h4, h5, h6⟩ := comp16; exact ⟨⟨fn, code, h1, h2, h3, h4, h5, h6⟩⟩
  · obtain ⟨fn, code, h1, h2, h3, h4, h5, h6⟩ := comp17; exact ⟨⟨fn, code, h1, h2, h3, h4, h5, h6⟩⟩
  · obtain ⟨fn, code, h1, h2, h3, h4, h5, h6⟩ := comp18; exact ⟨⟨fn, code, h1, h2, h3, h4, h5, h6⟩⟩
  · obtain ⟨fn, code, h1, h2, h3, h4, h5, h6⟩ := comp19; exact ⟨⟨fn, code, h1, h2, h3, h4, h5, h6⟩⟩
  · obtain ⟨fn, code, h1, h2, h3, h4, h5, h6⟩ := comp20; exact ⟨⟨fn, code, h1, h2, h3, h4, h5, h6⟩⟩
  · obtain ⟨fn, code, h1, h2, h3, h4, h5, h6⟩ := comp21; exact ⟨⟨fn, code, h1, h2, h3, h4, h5, h6⟩⟩
  · obtain ⟨fn, code, h1, h2, h3, h4, h5, h6⟩ := comp22; exact ⟨⟨fn, code, h1, h2, h3, h4, h5, h6⟩⟩
  · obtain ⟨fn, code, h1, h2, h3, h4, h5, h6⟩ := comp23; exact ⟨⟨fn, code, h1, h2, h3, h4, h5, h6⟩⟩
  · obtain ⟨fn, code, h1, h2, h3, h4, h5, h6⟩ := comp24; exact ⟨⟨fn, code, h1, h2, h3, h4, h5, h6⟩⟩
  · obtain ⟨fn, code, h1, h2, h3, h4, h5, h6⟩ := comp25; exact ⟨⟨fn, code, h1, h2, h3, h4, h5, h6⟩⟩
  · obtain ⟨fn, code, h1, h2, h3, h4, h5, h6⟩ := comp26; exact ⟨⟨fn, code, h1, h2, h3, h4, h5, h6⟩⟩
  · obtain ⟨fn, code, h1, h2, h3, h4, h5, h6⟩ := comp27; exact ⟨⟨fn, code, h1, h2, h3, h4, h5, h6⟩⟩
  · obtain ⟨fn, code, h1, h2, h3, h4, h5, h6⟩ := comp28; exact ⟨⟨fn, code, h1, h2, h3, h4, h5, h6⟩⟩
  · obtain ⟨fn, code, h1, h2, h3, h4, h5, h6⟩ := comp29; exact ⟨⟨fn, code, h1, h2, h3, h4, h5, h6⟩⟩
  · obtain ⟨fn, code, h1, h2, h3, h4, h5, h6⟩ := comp30; exact ⟨⟨fn, code, h1, h2, h3, h4, h5, h6⟩⟩
  · obtain ⟨fn, code, h1, h2, h3, h4, h5, h6⟩ := comp31; exact ⟨⟨fn, code, h1, h2, h3, h4, h5, h6⟩⟩
  · obtain ⟨fn, code, h1, h2, h3, h4, h5, h6⟩ := comp32; exact ⟨⟨fn, code, h1, h2, h3, h4, h5, h6⟩⟩
  · obtain ⟨fn, code, h1, h2, h3, h4, h5, h6⟩ := comp33; exact ⟨⟨fn, code, h1, h2, h3, h4, h5, h6⟩⟩
  · obtain ⟨fn, code, h1, h2, h3, h4, h5, h6⟩ := comp34; exact ⟨⟨fn, code, h1, h2, h3, h4, h5, h6⟩⟩
  · obtain ⟨fn, code, h1, h2, h3, h4, h5, h6⟩ := comp35; exact ⟨⟨fn, code, h1, h2, h3, h4, h5, h6⟩⟩
  · obtain ⟨fn, code, h1, h2, h3, h4, h5, h6⟩ := comp36; exact ⟨⟨fn, code, h1, h2, h3, h4, h5, h6⟩⟩
  · obtain ⟨fn, code, h1, h2, h3, h4, h5, h6⟩ := comp37; exact ⟨⟨fn, code, h1, h2, h3, h4, h5, h6⟩⟩
  · obtain ⟨fn, code, h1, h2, h3, h4, h5, h6⟩ := comp38; exact ⟨⟨fn, code, h1, h2, h3, h4, h5, h6⟩⟩
  · obtain ⟨fn, code, h1, h2, h3, h4, h5, h6⟩ := comp39; exact ⟨⟨fn, code, h1, h2, h3, h4, h5, h6⟩⟩
  · obtain ⟨fn, code, h1, h2, h3, h4, h5, h6⟩ := comp40; exact ⟨⟨fn, code, h1, h2, h3, h4, h5, h6⟩⟩
  · obtain ⟨fn, code, h1, h2, h3, h4, h5, h6⟩ := comp41; exact ⟨⟨fn, code, h1, h2, h3, h4, h5, h6⟩⟩
  · obtain ⟨fn, code, h1, h2, h3, h4, h5, h6⟩ := comp42; exact ⟨⟨fn, code, h1, h2, h3, h4, h5, h6⟩⟩
  · obtain ⟨fn, code, h1, h2, h3, h4, h5, h6⟩ := comp43; exact ⟨⟨fn, code, h1, h2, h3, h4, h5, h6⟩⟩
  · obtain ⟨fn, code, h1, h2, h3, h4, h5, h6⟩ := comp44; exact ⟨⟨fn, code, h1, h2, h3, h4, h5, h6⟩⟩
  · obtain ⟨fn, code, h1, h2, h3, h4, h5, h6⟩ := comp45; exact ⟨⟨fn, code, h1, h2, h3, h4, h5, h6⟩⟩
  · obtain ⟨fn, code, h1, h2, h3, h4, h5, h6⟩ := comp46; exact ⟨⟨fn, code, h1, h2, h3, h4, h5, h6⟩⟩
  · obtain ⟨fn, code, h1, h2, h3, h4, h5, h6⟩ := comp47; exact ⟨⟨fn, code, h1, h2, h3, h4, h5, h6⟩⟩
  · obtain ⟨fn, code, h1, h2, h3, h4, h5, h6⟩ := comp48; exact ⟨⟨fn, code, h1, h2, h3, h4, h5, h6⟩⟩
  · obtain ⟨fn, code, h1, h2, h3, h4, h5, h6⟩ := comp49; exact ⟨⟨fn, code, h1, h2, h3, h4, h5, h6⟩⟩
  · obtain ⟨fn, code, h1, h2, h3, h4, h5, h6⟩ := comp50; exact ⟨⟨fn, code, h1, h2, h3, h4, h5, h6⟩⟩
  · obtain ⟨fn, code, h1, h2, h3, h4, h5, h6⟩ := comp51; exact ⟨⟨fn, code, h1, h2, h3, h4, h5, h6⟩⟩
  · obtain ⟨fn, code, h1, h2, h3, h4, h5, h6⟩ := comp52; exact ⟨⟨fn, code, h1, h2, h3, h4, h5, h6⟩⟩
  · obtain ⟨fn, code, h1, h2, h3, h4, h5, h6⟩ := comp53; exact ⟨⟨fn, code, h1, h2, h3, h4, h5, h6⟩⟩
  · obtain ⟨fn, code, h1, h2, h3, h4, h5, h6⟩ := comp54; exact ⟨⟨fn, code, h1, h2, h3, h4, h5, h6⟩⟩
  · obtain ⟨fn, code, h1, h2, h3, h4, h5, h6⟩ := comp55; exact ⟨⟨fn, code, h1, h2, h3, h4, h5, h6⟩⟩
end Go.Proofs.Ytjkedjjahjlmfaa.T
