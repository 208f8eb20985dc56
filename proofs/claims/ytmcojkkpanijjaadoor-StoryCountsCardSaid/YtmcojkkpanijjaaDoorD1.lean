import Derived.Test.YtmcojkkpanijjaaDoorFw41
import Derived.Test.YtmcojkkpanijjaaDoorRows
namespace Go.Proofs.YtmcojkkpanijjaaDoor.T
open Go.Dn
def g1 : List D := wds Sha.H0.l
def g2 : List D := wds Sha.K256
def g0 : List D := wds Sha.K256
/-! 3: gossamer/gossamerlaw31.StoryBodies -/
def c3_k0 : C :=
  .seq (.ops [2] [.p (some 14) (.move (.t 3)),
    .call (some 15) 8 [(.t 14)],
    .p (some 16) (.move (.t 0)),
    .call (some 17) 9 [(.t 16)],
    .call (some 18) 7 [(.t 15), (.t 17)],
    .p (some 19) (.move (.t 18)),
    .when 19 true [.p (some 20) (.move (.t 3)),
      .call (some 21) 10 [(.t 20)],
      .p (some 22) (.move (.t 0)),
      .call (some 23) 11 [(.t 22)],
      .call (some 24) 7 [(.t 21), (.t 23)]],
    .p (some 25) (.pick (.t 19) (.t 24) (.c (.bool false))),
    .p (some 2) (.move (.t 25))])
  (.ret)
def c3_k1 : C :=
  .cond (.t 13)
    (.seq (.ops [2] [.p (some 2) (.move (.c (.bool true)))])
    (.ret))
    (.skip)
def c3_k2 : C :=
  .seq (.seq (.ops [0, 3, 13, 24] [.p (some 12) (.move (.t 4)),
    .p (some 13) (.una .not (.t 12))])
  (c3_k1))
  (c3_k0)
def c3_k3 : C :=
  .seq (.ops [0, 3, 4, 24] [.p (some 8) (.move (.t 0)),
    .call (some 9) 6 [(.t 8)],
    .p (some 7) (.move (.t 9)),
    .p (some 10) (.extract (.t 7) 0),
    .p (some 11) (.extract (.t 7) 1),
    .p (some 3) (.move (.t 10)),
    .p (some 4) (.move (.t 11))])
  (c3_k2)
def c3_k4 : C :=
  .cond (.t 6)
    (.seq (.ops [2] [.p (some 2) (.move (.c (.bool false)))])
    (.ret))
    (.skip)
def c3_k5 : C :=
  .seq (.seq (.ops [0, 6, 24] [.call (some 5) 5 [],
    .p (some 6) (.una .not (.t 5))])
  (c3_k4))
  (c3_k3)
def c3 : FnC := ⟨1, 26, [.tmp 2],
  .seq (.ops [0, 24] [.p (some 2) (.move (.c (.bool false)))])
  (c3_k5),
  []⟩

/-! 5: gossamer/gossamerlaw31.alive -/
def c5_k0 : C :=
  .seq (.ops [0] [.p (some 14) (.move (.t 2)),
    .p (some 15) (.bin .eql .iface [] (.t 14) (.c .nili)),
    .p (some 16) (.move (.t 15)),
    .when 16 true [.p (some 17) (.move (.t 1)),
      .p (some 18) (.len .slice (.t 17)),
      .p (some 19) (.bin .eql .int [] (.t 18) (.c (.int .i64 1)))],
    .p (some 20) (.pick (.t 16) (.t 19) (.c (.bool false))),
    .p (some 21) (.move (.t 20)),
    .when 21 true [.p (some 22) (.move (.t 1)),
      .p (some 23) (.iaddr 6 (.t 22) (.c (.int .i64 0))),
      .p (some 24) (.load true 6 (.t 23)),
      .p (some 25) (.build [(.int .i64 0), (.int .i64 0), (.int .i64 0), (.bool false), (.bool false), (.int .i64 0)] [(0, 1, (.c (.int .i64 3))), (2, 1, (.c (.int .i64 2))), (4, 1, (.c (.bool true))), (5, 1, (.c (.int .i64 1)))]),
      .p (some 26) (.bin .eql .flat ([(.int .i64), (.int .i64), (.int .i64)] ++ [.bool, .bool] ++ [(.int .i64)]) (.t 24) (.t 25))],
    .p (some 27) (.pick (.t 21) (.t 26) (.c (.bool false))),
    .p (some 0) (.move (.t 27))])
  (.ret)
def c5_k1 : C :=
  .seq (.ops [1, 2, 19, 26] [.p (some 4) (.build [(.int .i64 0), (.int .u64 0), (.int .i64 0), (.int .i64 0), .nils, (.bool false), .nils, .nils, .nils, .nils, (.bool false)] [(0, 1, (.c (.int .i64 2))), (2, 1, (.c (.int .i64 3)))]),
    .p (some 5) (.bslice 55 1 1 [(.int .u32 0)] [(0, (.c (.int .u32 9)))]),
    .p (some 6) (.build [(.int .i64 0), (.int .u64 0), (.int .i64 0), (.int .i64 0), .nils, (.bool false), .nils, .nils, .nils, .nils, (.bool false)] [(0, 1, (.c (.int .i64 5))), (5, 1, (.c (.bool true))), (6, 1, (.t 5))]),
    .p (some 7) (.bslice 54 2 11 [(.int .i64 0), (.int .u64 0), (.int .i64 0), (.int .i64 0), .nils, (.bool false), .nils, .nils, .nils, .nils, (.bool false)] [(0, (.t 4)), (1, (.t 6))]),
    .e (some 8) (.makeSlice 5 1 1 [(.int .u8 0)] (.c (.int .i64 8)) (.c (.int .i64 8))),
    .p (some 9) (.build [(.int .i64 0), (.int .u64 0), (.int .i64 0), (.int .i64 0), .nils, (.bool false), .nils, .nils, .nils, .nils, (.bool false)] [(0, 1, (.c (.int .i64 3))), (4, 1, (.t 8))]),
    .p (some 10) (.bslice 54 1 11 [(.int .i64 0), (.int .u64 0), (.int .i64 0), (.int .i64 0), .nils, (.bool false), .nils, .nils, .nils, .nils, (.bool false)] [(0, (.t 9))]),
    .call (some 11) 17 [(.t 7), (.t 10)],
    .p (some 3) (.move (.t 11)),
    .p (some 12) (.extract (.t 3) 0),
    .p (some 13) (.extract (.t 3) 1),
    .p (some 1) (.move (.t 12)),
    .p (some 2) (.move (.t 13))])
  (c5_k0)
def c5 : FnC := ⟨0, 28, [.tmp 0],
  .seq (.ops [19, 26] [.p (some 0) (.move (.c (.bool false)))])
  (c5_k1),
  []⟩

/-! 17: gossamer/story.Rounds -/
def c17_k0 : C :=
  .seq (.ops [4, 5] [.p (some 57) (.move (.t 6)),
    .p (some 58) (.nilCheck (.t 57)),
    .p (some 59) (.faddr 8 (.t 58)),
    .p (some 60) (.load false 1 (.t 59)),
    .p (some 4) (.move (.t 60)),
    .p (some 5) (.move (.c .nili))])
  (.ret)
def c17_k1 : C :=
  .cond (.t 55)
    (.seq (.ops [4, 5] [.p (some 56) (.mkif 50 (.c (.int .i64 2))),
      .p (some 4) (.move (.c .nils)),
      .p (some 5) (.move (.t 56))])
    (.ret))
    (.skip)
def c17_k2 : C :=
  .seq (.seq (.ops [6, 55] [.p (some 50) (.move (.t 6)),
    .p (some 51) (.nilCheck (.t 50)),
    .p (some 52) (.faddr 0 (.t 51)),
    .p (some 53) (.load false 1 (.t 52)),
    .p (some 54) (.len .slice (.t 53)),
    .p (some 55) (.bin .gtr .int [] (.t 54) (.c (.int .i64 0)))])
  (c17_k1))
  (c17_k0)
def c17_k3 : C :=
  .cond (.t 47)
    (.seq (.ops [4, 5] [.p (some 48) (.mkif 50 (.c (.int .i64 2))),
      .p (some 4) (.move (.c .nils)),
      .p (some 5) (.move (.t 48))])
    (.ret))
    (.skip)
def c17_k4 : C :=
  .seq (.ops [6, 38, 39, 40, 47] [.p (some 44) (.move (.t 6)),
    .p (some 45) (.load true 11 (.t 10)),
    .call (some 46) 31 [(.t 44), (.t 45)],
    .p (some 47) (.una .not (.t 46))])
  (c17_k3)
def c17_k5 : C :=
  .seq (.ops [6, 10, 38, 39, 40] [.p (some 42) (.iaddr 11 (.t 38) (.t 40)),
    .p (some 43) (.load true 11 (.t 42)),
    .e (some 10) (.alloc [(.d (.int .i64 0)), (.d (.int .u64 0)), (.d (.int .i64 0)), (.d (.int .i64 0)), (.d .nils), (.d (.bool false)), (.d .nils), (.d .nils), (.d .nils), (.d .nils), (.d (.bool false))]),
    .e .none (.store 11 (.t 10) (.t 43))])
  (c17_k4)
def c17_k6 : C :=
  .seq (.block 4 (c17_k5))
  (.ops [6, 38, 39, 40] [.p (some 49) (.bin .add .int [] (.t 40) (.c (.int .i64 1))),
    .p (some 40) (.move (.t 49))])
def c17_k7 : C :=
  .seq (.cond (.t 41)
    (.skip)
    (.exit 3))
  (c17_k6)
def c17_l8 : C :=
  .seq (.ops [6, 38, 39, 40, 41] [.p (some 41) (.bin .lss .int [] (.t 40) (.t 39))])
  (c17_k7)
def c17_k9 : C :=
  .block 3 (.loop [6, 38, 39, 40] c17_l8)
def c17_k10 : C :=
  .seq (.seq (.ops [6, 38, 39, 40] [.p (some 38) (.move (.t 0)),
    .p (some 39) (.len .slice (.t 38)),
    .p (some 40) (.move (.c (.int .i64 0)))])
  (c17_k9))
  (c17_k2)
def c17_k11 : C :=
  .cond (.t 33)
    (.seq (.ops [4, 5] [.p (some 36) (.mkif 50 (.c (.int .i64 2))),
      .p (some 4) (.move (.c .nils)),
      .p (some 5) (.move (.t 36))])
    (.ret))
    (.skip)
def c17_k12 : C :=
  .cond (.t 33)
    (.skip)
    (.ops [0, 6, 13, 14, 15, 33] [.p (some 35) (.bin .eql .int [] (.t 20) (.c (.int .i64 4))),
      .p (some 33) (.move (.t 35))])
def c17_k13 : C :=
  .seq (.seq (.ops [0, 6, 13, 14, 15, 20, 33] [.p (some 34) (.bin .eql .int [] (.t 20) (.c (.int .i64 2))),
      .p (some 33) (.move (.t 34))])
    (c17_k12))
    (c17_k11)
def c17_k14 : C :=
  .cond (.t 21)
    (.drw [0, 6, 13, 14, 15] 1 [⟨.none, .p (some 23) (.move (.t 6)), [], 0⟩,
      ⟨.none, .p (some 24) (.move (.t 6)), [], 0⟩,
      ⟨.none, .p (some 25) (.nilCheck (.t 24)), [1], 0⟩,
      ⟨.none, .p (some 26) (.faddr 0 (.t 25)), [2], 0⟩,
      ⟨.none, .p (some 27) (.load false 1 (.t 26)), [3], 0⟩,
      ⟨.none, .p (some 28) (.load true 11 (.t 8)), [], 0⟩,
      ⟨.none, .p (some 29) (.bslice 54 1 11 [(.int .i64 0), (.int .u64 0), (.int .i64 0), (.int .i64 0), .nils, (.bool false), .nils, .nils, .nils, .nils, (.bool false)] [(0, (.t 28))]), [5], 0⟩,
      ⟨.none, .e (some 30) (.append 54 11 168 (.t 27) (.t 29)), [4, 6], 0⟩,
      ⟨.none, .p (some 31) (.nilCheck (.t 23)), [0, 0, 1, 2, 3, 4, 5, 6, 7], 1⟩,
      ⟨.none, .p (some 32) (.faddr 0 (.t 31)), [8, 0, 1, 2, 3, 4, 5, 6, 7], 1⟩,
      ⟨.none, .e .none (.store 1 (.t 32) (.t 30)), [9, 7, 7, 0, 1, 2, 3, 4, 5, 6, 7], 1⟩])
    (c17_k13)
def c17_k15 : C :=
  .seq (.ops [0, 6, 8, 13, 14, 15, 20, 21] [.p (some 22) (.bin .eql .int [] (.t 20) (.c (.int .i64 3))),
    .p (some 21) (.move (.t 22))])
  (c17_k14)
def c17_k16 : C :=
  .block 2 (c17_k15)
def c17_k17 : C :=
  .seq (.ops [0, 6, 8, 13, 14, 15, 20] [.p (some 19) (.faddr 0 (.t 8)),
    .p (some 20) (.load false 1 (.t 19))])
  (c17_k16)
def c17_k18 : C :=
  .seq (.ops [0, 6, 8, 13, 14, 15] [.p (some 17) (.iaddr 11 (.t 13) (.t 15)),
    .p (some 18) (.load true 11 (.t 17)),
    .e (some 8) (.alloc [(.d (.int .i64 0)), (.d (.int .u64 0)), (.d (.int .i64 0)), (.d (.int .i64 0)), (.d .nils), (.d (.bool false)), (.d .nils), (.d .nils), (.d .nils), (.d .nils), (.d (.bool false))]),
    .e .none (.store 11 (.t 8) (.t 18))])
  (c17_k17)
def c17_k19 : C :=
  .seq (.block 1 (c17_k18))
  (.ops [0, 6, 13, 14, 15] [.p (some 37) (.bin .add .int [] (.t 15) (.c (.int .i64 1))),
    .p (some 15) (.move (.t 37))])
def c17_k20 : C :=
  .seq (.cond (.t 16)
    (.skip)
    (.exit 0))
  (c17_k19)
def c17_l21 : C :=
  .seq (.ops [0, 6, 13, 14, 15, 16] [.p (some 16) (.bin .lss .int [] (.t 15) (.t 14))])
  (c17_k20)
def c17_k22 : C :=
  .block 0 (.loop [0, 6, 13, 14, 15] c17_l21)
def c17_k23 : C :=
  .seq (.seq (.ops [0, 6, 13, 14, 15] [.p (some 13) (.move (.t 1)),
    .p (some 14) (.len .slice (.t 13)),
    .p (some 15) (.move (.c (.int .i64 0)))])
  (c17_k22))
  (c17_k10)
def c17_k24 : C :=
  .seq (.ops [0, 1, 6] [.p (some 11) (.build [.nils, (.int .i64 0), (.int .i64 0), (.int .i64 0), (.bool false), (.bool false), (.int .i64 0), (.bool false), .nils] []),
    .e (some 12) (.box (.t 11)),
    .p (some 6) (.move (.t 12))])
  (c17_k23)
def c17 : FnC := ⟨2, 61, [.tmp 4, .tmp 5],
  .seq (.ops [0, 1] [.p (some 4) (.move (.c .nils)),
    .p (some 5) (.move (.c .nili))])
  (c17_k24),
  []⟩

/-! 31: (*gossamer/story.reader).take -/
def c31_k0 : C :=
  .seq (.ops [4] [.p (some 21) (.faddr 0 (.t 3)),
    .p (some 22) (.load false 1 (.t 21)),
    .p (some 23) (.bin .neq .int [] (.t 22) (.c (.int .i64 3))),
    .p (some 4) (.move (.t 23))])
  (.ret)
def c31_k1 : C :=
  .cond (.t 16)
    (.seq (.ops [4] [.p (some 18) (.move (.t 0)),
      .p (some 19) (.load true 11 (.t 3)),
      .call (some 20) 48 [(.t 18), (.t 19)],
      .p (some 4) (.move (.t 20))])
    (.ret))
    (.skip)
def c31_k2 : C :=
  .cond (.t 12)
    (.seq (.ops [4] [.p (some 14) (.move (.t 0)),
      .call (some 15) 47 [(.t 14)],
      .p (some 4) (.move (.t 15))])
    (.ret))
    (.seq (.ops [0, 3, 16] [.p (some 17) (.bin .eql .int [] (.t 6) (.c (.int .i64 5))),
      .p (some 16) (.move (.t 17))])
    (c31_k1))
def c31_k3 : C :=
  .seq (.ops [0, 3, 6, 12] [.p (some 13) (.bin .eql .int [] (.t 6) (.c (.int .i64 4))),
      .p (some 12) (.move (.t 13))])
    (c31_k2)
def c31_k4 : C :=
  .cond (.t 7)
    (.seq (.ops [4] [.p (some 9) (.move (.t 0)),
      .p (some 10) (.load true 11 (.t 3)),
      .call (some 11) 46 [(.t 9), (.t 10)],
      .p (some 4) (.move (.t 11))])
    (.ret))
    (c31_k3)
def c31_k5 : C :=
  .seq (.ops [0, 3, 6, 7] [.p (some 8) (.bin .eql .int [] (.t 6) (.c (.int .i64 2))),
    .p (some 7) (.move (.t 8))])
  (c31_k4)
def c31_k6 : C :=
  .block 0 (c31_k5)
def c31_k7 : C :=
  .seq (.seq (.ops [0, 3, 6] [.p (some 5) (.faddr 0 (.t 3)),
    .p (some 6) (.load false 1 (.t 5))])
  (c31_k6))
  (c31_k0)
def c31 : FnC := ⟨2, 24, [.tmp 4],
  .seq (.ops [0, 3] [.e (some 3) (.box (.t 1)),
    .p (some 4) (.move (.c (.bool false)))])
  (c31_k7),
  []⟩

/-! 46: (*gossamer/story.reader).ask -/
def c46_k0 : C :=
  .seq (.ops [4] [.p (some 22) (.move (.t 0)),
    .p (some 23) (.nilCheck (.t 22)),
    .p (some 24) (.faddr 1 (.t 23)),
    .p (some 25) (.faddr 2 (.t 24)),
    .p (some 26) (.load false 1 (.t 25)),
    .p (some 27) (.bin .geq .int [] (.t 26) (.c (.int .i64 0))),
    .p (some 4) (.move (.t 27))])
  (.ret)
def c46_k1 : C :=
  .seq (.drw [0] 0 [⟨.none, .p (some 9) (.move (.t 0)), [], 0⟩,
    ⟨.none, .p (some 10) (.move (.t 0)), [], 0⟩,
    ⟨.none, .p (some 11) (.faddr 2 (.t 3)), [], 0⟩,
    ⟨.none, .p (some 12) (.load false 1 (.t 11)), [2], 0⟩,
    ⟨.none, .p (some 13) (.faddr 3 (.t 3)), [], 0⟩,
    ⟨.none, .p (some 14) (.load false 1 (.t 13)), [4], 0⟩,
    ⟨.none, .p (some 15) (.move (.t 0)), [], 0⟩,
    ⟨.none, .call (some 16) 68 [(.t 15)], [6], 0⟩,
    ⟨.none, .p (some 17) (.build [(.int .i64 0), (.int .i64 0), (.int .i64 0), (.bool false), (.bool false), (.int .i64 0)] [(0, 1, (.t 12)), (1, 1, (.t 14)), (2, 1, (.t 16))]), [3, 5, 7], 0⟩,
    ⟨.none, .p (some 18) (.nilCheck (.t 9)), [0, 0, 2, 3, 4, 5, 6, 7, 8], 0⟩,
    ⟨.none, .p (some 19) (.faddr 1 (.t 18)), [9, 0, 2, 3, 4, 5, 6, 7, 8], 0⟩,
    ⟨.none, .e .none (.store 6 (.t 19) (.t 17)), [10, 8, 7, 0, 2, 3, 4, 5, 6, 7, 8], 0⟩,
    ⟨.none, .p (some 20) (.nilCheck (.t 10)), [1, 0, 1, 2, 3, 4, 5, 6, 7, 8, 9, 10, 11], 0⟩,
    ⟨.none, .p (some 21) (.faddr 7 (.t 20)), [12, 0, 1, 2, 3, 4, 5, 6, 7, 8, 9, 10, 11], 0⟩,
    ⟨.none, .e .none (.store 1 (.t 21) (.c (.bool true))), [13, 11, 0, 1, 2, 3, 4, 5, 6, 7, 8, 9, 10, 11], 0⟩])
  (c46_k0)
def c46_k2 : C :=
  .cond (.t 8)
    (.seq (.ops [4] [.p (some 4) (.move (.c (.bool false)))])
    (.ret))
    (.skip)
def c46_k3 : C :=
  .seq (.seq (.ops [0, 3, 8] [.p (some 5) (.move (.t 0)),
    .p (some 6) (.nilCheck (.t 5)),
    .p (some 7) (.faddr 7 (.t 6)),
    .p (some 8) (.load false 1 (.t 7))])
  (c46_k2))
  (c46_k1)
def c46 : FnC := ⟨2, 28, [.tmp 4],
  .seq (.ops [0, 3] [.e (some 3) (.box (.t 1)),
    .p (some 4) (.move (.c (.bool false)))])
  (c46_k3),
  []⟩

/-! 68: (*gossamer/story.reader).sketch -/
def c68_k0 : C :=
  .seq (.ops [2] [.p (some 33) (.move (.t 3)),
    .p (some 34) (.bin .quo .int [] (.t 33) (.c (.int .i64 4))),
    .p (some 2) (.move (.t 34))])
  (.ret)
def c68_k1 : C :=
  .cond (.t 32)
    (.seq (.ops [2] [.p (some 2) (.move (.c (.int .i64 (-1))))])
    (.ret))
    (.skip)
def c68_k2 : C :=
  .seq (.seq (.ops [3, 32] [.p (some 26) (.move (.t 3)),
    .p (some 27) (.bin .eql .int [] (.t 26) (.c (.int .i64 0))),
    .p (some 28) (.move (.t 27)),
    .when 28 false [.p (some 29) (.move (.t 3)),
      .p (some 30) (.bin .rem .int [] (.t 29) (.c (.int .i64 4))),
      .p (some 31) (.bin .neq .int [] (.t 30) (.c (.int .i64 0)))],
    .p (some 32) (.pick (.t 28) (.c (.bool true)) (.t 31))])
  (c68_k1))
  (c68_k0)
def c68_k3 : C :=
  .seq (.ops [3, 31] [.p (some 18) (.move (.t 0)),
    .p (some 19) (.move (.t 0)),
    .p (some 20) (.nilCheck (.t 19)),
    .p (some 21) (.faddr 0 (.t 20)),
    .p (some 22) (.load false 1 (.t 21)),
    .p (some 23) (.slice 11 (.t 22) (some (.c (.int .i64 1))) .none .none),
    .p (some 24) (.nilCheck (.t 18)),
    .p (some 25) (.faddr 0 (.t 24)),
    .e .none (.store 1 (.t 25) (.t 23))])
  (c68_k2)
def c68_k4 : C :=
  .seq (.ops [0, 3, 31] [.p (some 10) (.move (.t 0)),
    .p (some 11) (.nilCheck (.t 10)),
    .p (some 12) (.faddr 0 (.t 11)),
    .p (some 13) (.load false 1 (.t 12)),
    .p (some 14) (.iaddr 11 (.t 13) (.c (.int .i64 0))),
    .p (some 15) (.faddr 4 (.t 14)),
    .p (some 16) (.load false 1 (.t 15)),
    .p (some 17) (.len .slice (.t 16)),
    .p (some 3) (.move (.t 17))])
  (c68_k3)
def c68_k5 : C :=
  .cond (.t 9)
    (.seq (.ops [2] [.p (some 2) (.move (.c (.int .i64 0)))])
    (.ret))
    (.skip)
def c68_k6 : C :=
  .seq (.seq (.ops [0, 9, 31] [.p (some 4) (.move (.t 0)),
    .p (some 5) (.nilCheck (.t 4)),
    .p (some 6) (.faddr 0 (.t 5)),
    .p (some 7) (.load false 1 (.t 6)),
    .p (some 8) (.len .slice (.t 7)),
    .p (some 9) (.bin .eql .int [] (.t 8) (.c (.int .i64 0)))])
  (c68_k5))
  (c68_k4)
def c68 : FnC := ⟨1, 35, [.tmp 2],
  .seq (.ops [0, 31] [.p (some 2) (.move (.c (.int .i64 0)))])
  (c68_k6),
  []⟩

/-! 47: (*gossamer/story.reader).more -/
def c47_k0 : C :=
  .seq (.ops [2] [.p (some 30) (.move (.t 3)),
    .p (some 31) (.move (.t 0)),
    .p (some 32) (.nilCheck (.t 31)),
    .p (some 33) (.faddr 1 (.t 32)),
    .p (some 34) (.faddr 2 (.t 33)),
    .p (some 35) (.load false 1 (.t 34)),
    .p (some 36) (.bin .eql .int [] (.t 30) (.t 35)),
    .p (some 37) (.move (.t 36)),
    .when 37 false [.p (some 38) (.move (.t 3)),
      .p (some 39) (.bin .eql .int [] (.t 38) (.c (.int .i64 0)))],
    .p (some 40) (.pick (.t 37) (.c (.bool true)) (.t 39)),
    .p (some 2) (.move (.t 40))])
  (.ret)
def c47_k1 : C :=
  .seq (.ops [0, 3, 39] [.p (some 28) (.move (.t 0)),
    .call (some 29) 68 [(.t 28)],
    .p (some 3) (.move (.t 29))])
  (c47_k0)
def c47_k2 : C :=
  .seq (.ops [0, 39] [.p (some 24) (.move (.t 0)),
    .p (some 25) (.nilCheck (.t 24)),
    .p (some 26) (.faddr 1 (.t 25)),
    .p (some 27) (.faddr 3 (.t 26)),
    .e .none (.store 1 (.t 27) (.c (.bool true)))])
  (c47_k1)
def c47_k3 : C :=
  .cond (.t 23)
    (.seq (.ops [2] [.p (some 2) (.move (.c (.bool false)))])
    (.ret))
    (.skip)
def c47_k4 : C :=
  .seq (.seq (.ops [0, 23, 39] [.p (some 4) (.move (.t 0)),
    .p (some 5) (.nilCheck (.t 4)),
    .p (some 6) (.faddr 7 (.t 5)),
    .p (some 7) (.load false 1 (.t 6)),
    .p (some 8) (.una .not (.t 7)),
    .p (some 9) (.move (.t 8)),
    .when 9 false [.p (some 10) (.move (.t 0)),
      .p (some 11) (.nilCheck (.t 10)),
      .p (some 12) (.faddr 1 (.t 11)),
      .p (some 13) (.faddr 3 (.t 12)),
      .p (some 14) (.load false 1 (.t 13))],
    .p (some 15) (.pick (.t 9) (.c (.bool true)) (.t 14)),
    .p (some 16) (.move (.t 15)),
    .when 16 false [.p (some 17) (.move (.t 0)),
      .p (some 18) (.nilCheck (.t 17)),
      .p (some 19) (.faddr 1 (.t 18)),
      .p (some 20) (.faddr 2 (.t 19)),
      .p (some 21) (.load false 1 (.t 20)),
      .p (some 22) (.bin .eql .int [] (.t 21) (.c (.int .i64 0)))],
    .p (some 23) (.pick (.t 16) (.c (.bool true)) (.t 22))])
  (c47_k3))
  (c47_k2)
def c47 : FnC := ⟨1, 41, [.tmp 2],
  .seq (.ops [0, 14, 22, 39] [.p (some 2) (.move (.c (.bool false)))])
  (c47_k4),
  []⟩

/-! 48: (*gossamer/story.reader).diff -/
def c48_k0 : C :=
  .seq (.drw [] 1 [⟨.none, .p (some 31) (.move (.t 0)), [], 0⟩,
    ⟨.none, .p (some 32) (.move (.t 0)), [], 0⟩,
    ⟨.none, .p (some 33) (.move (.t 0)), [], 0⟩,
    ⟨.none, .p (some 34) (.nilCheck (.t 33)), [2], 0⟩,
    ⟨.none, .p (some 35) (.faddr 8 (.t 34)), [3], 0⟩,
    ⟨.none, .p (some 36) (.load false 1 (.t 35)), [4], 0⟩,
    ⟨.none, .p (some 37) (.move (.t 0)), [], 0⟩,
    ⟨.none, .p (some 38) (.nilCheck (.t 37)), [6], 0⟩,
    ⟨.none, .p (some 39) (.faddr 1 (.t 38)), [7], 0⟩,
    ⟨.none, .p (some 40) (.load true 6 (.t 39)), [8], 0⟩,
    ⟨.none, .p (some 41) (.bslice 57 1 6 [(.int .i64 0), (.int .i64 0), (.int .i64 0), (.bool false), (.bool false), (.int .i64 0)] [(0, (.t 40))]), [9], 0⟩,
    ⟨.none, .e (some 42) (.append 57 6 40 (.t 36) (.t 41)), [5, 10], 0⟩,
    ⟨.none, .p (some 43) (.nilCheck (.t 31)), [0, 0, 2, 3, 4, 5, 6, 7, 8, 9, 10, 11], 1⟩,
    ⟨.none, .p (some 44) (.faddr 8 (.t 43)), [12, 0, 2, 3, 4, 5, 6, 7, 8, 9, 10, 11], 1⟩,
    ⟨.none, .e .none (.store 1 (.t 44) (.t 42)), [13, 11, 11, 0, 2, 3, 4, 5, 6, 7, 8, 9, 10, 11], 1⟩,
    ⟨.none, .p (some 45) (.nilCheck (.t 32)), [1, 0, 1, 2, 3, 4, 5, 6, 7, 8, 9, 10, 11, 12, 13, 14], 1⟩,
    ⟨.none, .p (some 46) (.faddr 7 (.t 45)), [15, 0, 1, 2, 3, 4, 5, 6, 7, 8, 9, 10, 11, 12, 13, 14], 1⟩,
    ⟨.none, .e .none (.store 1 (.t 46) (.c (.bool false))), [16, 14, 0, 1, 2, 3, 4, 5, 6, 7, 8, 9, 10, 11, 12, 13, 14], 1⟩])
  (.seq (.ops [4] [.p (some 4) (.move (.c (.bool true)))])
  (.ret))
def c48_k1 : C :=
  .seq (.drw [0] 0 [⟨.none, .p (some 18) (.move (.t 0)), [], 0⟩,
    ⟨.none, .p (some 19) (.move (.t 0)), [], 0⟩,
    ⟨.none, .p (some 20) (.faddr 5 (.t 3)), [], 0⟩,
    ⟨.none, .p (some 21) (.load false 1 (.t 20)), [2], 0⟩,
    ⟨.none, .p (some 22) (.faddr 6 (.t 3)), [], 0⟩,
    ⟨.none, .p (some 23) (.load false 1 (.t 22)), [4], 0⟩,
    ⟨.none, .p (some 24) (.len .slice (.t 23)), [5], 0⟩,
    ⟨.none, .p (some 25) (.nilCheck (.t 18)), [0, 0, 2, 3], 0⟩,
    ⟨.none, .p (some 26) (.faddr 1 (.t 25)), [7, 0, 2, 3], 0⟩,
    ⟨.none, .p (some 27) (.faddr 4 (.t 26)), [8, 0, 2, 3], 0⟩,
    ⟨.none, .e .none (.store 1 (.t 27) (.t 21)), [9, 3, 0, 2, 3], 0⟩,
    ⟨.none, .p (some 28) (.nilCheck (.t 19)), [1, 0, 1, 2, 3, 4, 5, 6, 7, 8, 9, 10], 0⟩,
    ⟨.none, .p (some 29) (.faddr 1 (.t 28)), [11, 0, 1, 2, 3, 4, 5, 6, 7, 8, 9, 10], 0⟩,
    ⟨.none, .p (some 30) (.faddr 5 (.t 29)), [12, 0, 1, 2, 3, 4, 5, 6, 7, 8, 9, 10], 0⟩,
    ⟨.none, .e .none (.store 1 (.t 30) (.t 24)), [13, 6, 10, 0, 1, 2, 3, 4, 5, 6, 7, 8, 9, 10], 0⟩])
  (c48_k0)
def c48_k2 : C :=
  .cond (.t 17)
    (.seq (.ops [4] [.p (some 4) (.move (.c (.bool false)))])
    (.ret))
    (.skip)
def c48_k3 : C :=
  .seq (.seq (.ops [0, 3, 17] [.p (some 5) (.move (.t 0)),
    .p (some 6) (.nilCheck (.t 5)),
    .p (some 7) (.faddr 7 (.t 6)),
    .p (some 8) (.load false 1 (.t 7)),
    .p (some 9) (.una .not (.t 8)),
    .p (some 10) (.move (.t 9)),
    .when 10 false [.p (some 11) (.move (.t 0)),
      .p (some 12) (.nilCheck (.t 11)),
      .p (some 13) (.faddr 1 (.t 12)),
      .p (some 14) (.faddr 2 (.t 13)),
      .p (some 15) (.load false 1 (.t 14)),
      .p (some 16) (.bin .eql .int [] (.t 15) (.c (.int .i64 0)))],
    .p (some 17) (.pick (.t 10) (.c (.bool true)) (.t 16))])
  (c48_k2))
  (c48_k1)
def c48 : FnC := ⟨2, 47, [.tmp 4],
  .seq (.ops [0, 3, 16] [.e (some 3) (.box (.t 1)),
    .p (some 4) (.move (.c (.bool false)))])
  (c48_k3),
  []⟩

/-! 6: gossamer/gossamerlaw31.program -/
def c6_k0 : C :=
  .seq (.ops [2, 3] [.p (some 47) (.move (.t 4)),
    .p (some 2) (.move (.t 47)),
    .p (some 3) (.move (.c (.bool true)))])
  (.ret)
def c6_k1 : C :=
  .ops [4, 8, 9, 10, 21, 27, 33, 39] [.p (some 41) (.move (.t 4)),
    .p (some 42) (.load true 11 (.t 6)),
    .call (some 43) 19 [(.t 42)],
    .p (some 44) (.bslice 54 1 11 [(.int .i64 0), (.int .u64 0), (.int .i64 0), (.int .i64 0), .nils, (.bool false), .nils, .nils, .nils, .nils, (.bool false)] [(0, (.t 43))]),
    .e (some 45) (.append 54 11 168 (.t 41) (.t 44)),
    .p (some 4) (.move (.t 45))]
def c6_k2 : C :=
  .cond (.t 40)
    (.seq (.ops [2, 3] [.p (some 2) (.move (.c .nils)),
      .p (some 3) (.move (.c (.bool false)))])
    (.ret))
    (.skip)
def c6_k3 : C :=
  .seq (.seq (.ops [4, 6, 8, 9, 10, 21, 27, 33, 39, 40] [.p (some 15) (.move (.t 5)),
    .p (some 16) (.bin .gtr .int [] (.t 15) (.c (.int .i64 20))),
    .p (some 17) (.move (.t 16)),
    .when 17 false [.p (some 18) (.faddr 4 (.t 6)),
      .p (some 19) (.load false 1 (.t 18)),
      .p (some 20) (.len .slice (.t 19)),
      .p (some 21) (.bin .gtr .int [] (.t 20) (.c (.int .i64 1000)))],
    .p (some 22) (.pick (.t 17) (.c (.bool true)) (.t 21)),
    .p (some 23) (.move (.t 22)),
    .when 23 false [.p (some 24) (.faddr 6 (.t 6)),
      .p (some 25) (.load false 1 (.t 24)),
      .p (some 26) (.len .slice (.t 25)),
      .p (some 27) (.bin .gtr .int [] (.t 26) (.c (.int .i64 200)))],
    .p (some 28) (.pick (.t 23) (.c (.bool true)) (.t 27)),
    .p (some 29) (.move (.t 28)),
    .when 29 false [.p (some 30) (.faddr 7 (.t 6)),
      .p (some 31) (.load false 1 (.t 30)),
      .p (some 32) (.len .slice (.t 31)),
      .p (some 33) (.bin .gtr .int [] (.t 32) (.c (.int .i64 110)))],
    .p (some 34) (.pick (.t 29) (.c (.bool true)) (.t 33)),
    .p (some 35) (.move (.t 34)),
    .when 35 false [.p (some 36) (.faddr 8 (.t 6)),
      .p (some 37) (.load true 3 (.t 36)),
      .p (some 38) (.bslice 39 1 3 [.nils, .nils, (.bool false)] [(0, (.t 37))]),
      .call (some 39) 18 [(.t 38)]],
    .p (some 40) (.pick (.t 35) (.c (.bool true)) (.t 39))])
  (c6_k2))
  (c6_k1)
def c6_k4 : C :=
  .seq (.ops [4, 5, 6, 8, 9, 10, 21, 27, 33, 39] [.p (some 12) (.move (.t 10)),
    .p (some 13) (.iaddr 11 (.t 8) (.t 10)),
    .p (some 14) (.load true 11 (.t 13)),
    .e (some 6) (.alloc [(.d (.int .i64 0)), (.d (.int .u64 0)), (.d (.int .i64 0)), (.d (.int .i64 0)), (.d .nils), (.d (.bool false)), (.d .nils), (.d .nils), (.d .nils), (.d .nils), (.d (.bool false))]),
    .p (some 5) (.move (.t 12)),
    .e .none (.store 11 (.t 6) (.t 14))])
  (c6_k3)
def c6_k5 : C :=
  .seq (.block 1 (c6_k4))
  (.ops [4, 8, 9, 10, 21, 27, 33, 39] [.p (some 46) (.bin .add .int [] (.t 10) (.c (.int .i64 1))),
    .p (some 10) (.move (.t 46))])
def c6_k6 : C :=
  .seq (.cond (.t 11)
    (.skip)
    (.exit 0))
  (c6_k5)
def c6_l7 : C :=
  .seq (.ops [4, 8, 9, 10, 11, 21, 27, 33, 39] [.p (some 11) (.bin .lss .int [] (.t 10) (.t 9))])
  (c6_k6)
def c6_k8 : C :=
  .block 0 (.loop [4, 8, 9, 10, 21, 27, 33, 39] c6_l7)
def c6_k9 : C :=
  .seq (.seq (.ops [4, 8, 9, 10, 21, 27, 33, 39] [.p (some 8) (.move (.t 0)),
    .p (some 9) (.len .slice (.t 8)),
    .p (some 10) (.move (.c (.int .i64 0)))])
  (c6_k8))
  (c6_k0)
def c6_k10 : C :=
  .seq (.ops [0, 4, 21, 27, 33, 39] [.p (some 7) (.bslice 54 0 11 [(.int .i64 0), (.int .u64 0), (.int .i64 0), (.int .i64 0), .nils, (.bool false), .nils, .nils, .nils, .nils, (.bool false)] []),
    .p (some 4) (.move (.t 7))])
  (c6_k9)
def c6 : FnC := ⟨1, 48, [.tmp 2, .tmp 3],
  .seq (.ops [0, 21, 27, 33, 39] [.p (some 2) (.move (.c .nils)),
    .p (some 3) (.move (.c (.bool false)))])
  (c6_k10),
  []⟩

/-! 18: gossamer/gossamernum.Large -/
def c18_k0 : C :=
  .seq (.ops [2] [.p (some 44) (.move (.t 3)),
    .p (some 45) (.bin .gtr .int [] (.t 44) (.c (.int .i64 5000))),
    .p (some 2) (.move (.t 45))])
  (.ret)
def c18_k1 : C :=
  .ops [3, 8, 9, 10, 21, 27, 30, 31, 32] [.p (some 36) (.move (.t 3)),
    .p (some 37) (.faddr 33 (.t 7)),
    .p (some 38) (.load false 1 (.t 37)),
    .p (some 39) (.len .str (.t 38)),
    .p (some 40) (.min [(.t 39), (.c (.int .i64 10000))]),
    .p (some 41) (.bin .add .int [] (.t 36) (.t 40)),
    .p (some 3) (.move (.t 41))]
def c18_k2 : C :=
  .seq (.ops [3, 7, 8, 9, 10, 21, 27, 30, 31, 32] [.p (some 34) (.iaddr 35 (.t 30) (.t 32)),
    .p (some 35) (.load true 35 (.t 34)),
    .e (some 7) (.alloc [(.d (.int .u8 0)), (.d (.int .u8 0)), (.d (.int .u8 0)), (.d (.int .u8 0)), (.d (.int .u8 0)), (.d (.int .u8 0)), (.d (.int .u8 0)), (.d (.int .u8 0)), (.d (.int .u8 0)), (.d (.int .u8 0)), (.d (.int .u8 0)), (.d (.int .u8 0)), (.d (.int .u8 0)), (.d (.int .u8 0)), (.d (.int .u8 0)), (.d (.int .u8 0)), (.d (.int .u8 0)), (.d (.int .u8 0)), (.d (.int .u8 0)), (.d (.int .u8 0)), (.d (.int .u8 0)), (.d (.int .u8 0)), (.d (.int .u8 0)), (.d (.int .u8 0)), (.d (.int .u8 0)), (.d (.int .u8 0)), (.d (.int .u8 0)), (.d (.int .u8 0)), (.d (.int .u8 0)), (.d (.int .u8 0)), (.d (.int .u8 0)), (.d (.int .u8 0)), (.d (.int .i64 0)), (.d (.str [])), (.d (.int .u64 0))]),
    .e .none (.store 35 (.t 7) (.t 35))])
  (c18_k1)
def c18_k3 : C :=
  .seq (.block 3 (c18_k2))
  (.ops [3, 8, 9, 10, 21, 27, 30, 31, 32] [.p (some 42) (.bin .add .int [] (.t 32) (.c (.int .i64 1))),
    .p (some 32) (.move (.t 42))])
def c18_k4 : C :=
  .seq (.cond (.t 33)
    (.skip)
    (.exit 2))
  (c18_k3)
def c18_l5 : C :=
  .seq (.ops [3, 8, 9, 10, 21, 27, 30, 31, 32, 33] [.p (some 33) (.bin .lss .int [] (.t 32) (.t 31))])
  (c18_k4)
def c18_k6 : C :=
  .block 2 (.loop [3, 8, 9, 10, 21, 27, 30, 31, 32] c18_l5)
def c18_k7 : C :=
  .seq (.ops [3, 8, 9, 10, 21, 27, 30, 31, 32] [.p (some 29) (.faddr 0 (.t 5)),
    .p (some 30) (.load false 1 (.t 29)),
    .p (some 31) (.len .slice (.t 30)),
    .p (some 32) (.move (.c (.int .i64 0)))])
  (c18_k6)
def c18_k8 : C :=
  .cond (.t 28)
    (.seq (.ops [2] [.p (some 2) (.move (.c (.bool true)))])
    (.ret))
    (.skip)
def c18_k9 : C :=
  .seq (.seq (.ops [3, 5, 8, 9, 10, 21, 27, 28] [.p (some 15) (.move (.t 4)),
    .p (some 16) (.bin .gtr .int [] (.t 15) (.c (.int .i64 60))),
    .p (some 17) (.move (.t 16)),
    .when 17 false [.p (some 18) (.faddr 0 (.t 5)),
      .p (some 19) (.load false 1 (.t 18)),
      .p (some 20) (.len .slice (.t 19)),
      .p (some 21) (.bin .gtr .int [] (.t 20) (.c (.int .i64 30)))],
    .p (some 22) (.pick (.t 17) (.c (.bool true)) (.t 21)),
    .p (some 23) (.move (.t 22)),
    .when 23 false [.p (some 24) (.faddr 1 (.t 5)),
      .p (some 25) (.load false 1 (.t 24)),
      .p (some 26) (.len .slice (.t 25)),
      .p (some 27) (.bin .gtr .int [] (.t 26) (.c (.int .i64 30)))],
    .p (some 28) (.pick (.t 23) (.c (.bool true)) (.t 27))])
  (c18_k8))
  (c18_k7)
def c18_k10 : C :=
  .seq (.ops [3, 4, 5, 8, 9, 10, 21, 27] [.p (some 12) (.move (.t 10)),
    .p (some 13) (.iaddr 3 (.t 8) (.t 10)),
    .p (some 14) (.load true 3 (.t 13)),
    .e (some 5) (.alloc [(.d .nils), (.d .nils), (.d (.bool false))]),
    .p (some 4) (.move (.t 12)),
    .e .none (.store 3 (.t 5) (.t 14))])
  (c18_k9)
def c18_k11 : C :=
  .seq (.block 1 (c18_k10))
  (.ops [3, 8, 9, 10, 21, 27] [.p (some 43) (.bin .add .int [] (.t 10) (.c (.int .i64 1))),
    .p (some 10) (.move (.t 43))])
def c18_k12 : C :=
  .seq (.cond (.t 11)
    (.skip)
    (.exit 0))
  (c18_k11)
def c18_l13 : C :=
  .seq (.ops [3, 8, 9, 10, 11, 21, 27] [.p (some 11) (.bin .lss .int [] (.t 10) (.t 9))])
  (c18_k12)
def c18_k14 : C :=
  .block 0 (.loop [3, 8, 9, 10, 21, 27] c18_l13)
def c18_k15 : C :=
  .seq (.seq (.ops [3, 8, 9, 10, 21, 27] [.p (some 8) (.move (.t 0)),
    .p (some 9) (.len .slice (.t 8)),
    .p (some 10) (.move (.c (.int .i64 0)))])
  (c18_k14))
  (c18_k0)
def c18_k16 : C :=
  .seq (.ops [0, 3, 21, 27] [.p (some 3) (.move (.c (.int .i64 0)))])
  (c18_k15)
def c18 : FnC := ⟨1, 46, [.tmp 2],
  .seq (.ops [0, 21, 27] [.p (some 2) (.move (.c (.bool false)))])
  (c18_k16),
  []⟩

/-! 19: gossamer/gossamerlaw21.Program -/
def c19_k0 : C :=
  .seq (.ops [2] [.p (some 3) (.load true 11 (.t 1)),
    .call (some 4) 32 [(.t 3)],
    .e .none (.store 11 (.t 2) (.t 4))])
  (.ret)
def c19 : FnC := ⟨1, 5, [.cell 2 true 11],
  .seq (.ops [1, 2] [.e (some 1) (.box (.t 0)),
    .e (some 2) (.alloc [(.d (.int .i64 0)), (.d (.int .u64 0)), (.d (.int .i64 0)), (.d (.int .i64 0)), (.d .nils), (.d (.bool false)), (.d .nils), (.d .nils), (.d .nils), (.d .nils), (.d (.bool false))])])
  (c19_k0),
  []⟩

/-! 32: gossamer/wire.Copy -/
def c32_k0 : C :=
  .seq (.ops [2] [.p (some 19) (.load true 11 (.t 1)),
    .e .none (.store 11 (.t 2) (.t 19))])
  (.ret)
def c32_k1 : C :=
  .seq (.drw [1, 2] 0 [⟨.none, .p (some 3) (.faddr 4 (.t 1)), [], 0⟩,
    ⟨.none, .p (some 4) (.load false 1 (.t 3)), [0], 0⟩,
    ⟨.none, .call (some 5) 49 [(.t 4)], [1], 0⟩,
    ⟨.none, .p (some 6) (.faddr 6 (.t 1)), [], 0⟩,
    ⟨.none, .p (some 7) (.load false 1 (.t 6)), [3], 0⟩,
    ⟨.none, .call (some 8) 50 [(.t 7)], [4, 2], 0⟩,
    ⟨.none, .p (some 9) (.faddr 7 (.t 1)), [], 0⟩,
    ⟨.none, .p (some 10) (.load false 1 (.t 9)), [6], 0⟩,
    ⟨.none, .call (some 11) 51 [(.t 10)], [7, 5], 0⟩,
    ⟨.none, .p (some 12) (.faddr 8 (.t 1)), [], 0⟩,
    ⟨.none, .p (some 13) (.load true 3 (.t 12)), [9], 0⟩,
    ⟨.none, .call (some 14) 52 [(.t 13)], [10, 8], 0⟩,
    ⟨.none, .p (some 15) (.faddr 4 (.t 1)), [0, 1, 2, 3, 4, 6, 7, 9, 10], 0⟩,
    ⟨.none, .e .none (.store 1 (.t 15) (.t 5)), [12, 2, 11, 0, 1, 2, 3, 4, 6, 7, 9, 10], 0⟩,
    ⟨.none, .p (some 16) (.faddr 6 (.t 1)), [0, 1, 2, 3, 4, 5, 6, 7, 9, 10, 12, 13], 0⟩,
    ⟨.none, .e .none (.store 1 (.t 16) (.t 8)), [14, 5, 13, 0, 1, 2, 3, 4, 5, 6, 7, 9, 10, 12, 13], 0⟩,
    ⟨.none, .p (some 17) (.faddr 7 (.t 1)), [0, 1, 2, 3, 4, 5, 6, 7, 8, 9, 10, 12, 13, 14, 15], 0⟩,
    ⟨.none, .e .none (.store 1 (.t 17) (.t 11)), [16, 8, 15, 0, 1, 2, 3, 4, 5, 6, 7, 8, 9, 10, 12, 13, 14, 15], 0⟩,
    ⟨.none, .p (some 18) (.faddr 8 (.t 1)), [0, 1, 2, 3, 4, 5, 6, 7, 8, 9, 10, 11, 12, 13, 14, 15, 16, 17], 0⟩,
    ⟨.none, .e .none (.store 3 (.t 18) (.t 14)), [18, 11, 17, 0, 1, 2, 3, 4, 5, 6, 7, 8, 9, 10, 11, 12, 13, 14, 15, 16, 17], 0⟩])
  (c32_k0)
def c32 : FnC := ⟨1, 20, [.cell 2 true 11],
  .seq (.ops [1, 2] [.e (some 1) (.box (.t 0)),
    .e (some 2) (.alloc [(.d (.int .i64 0)), (.d (.int .u64 0)), (.d (.int .i64 0)), (.d (.int .i64 0)), (.d .nils), (.d (.bool false)), (.d .nils), (.d .nils), (.d .nils), (.d .nils), (.d (.bool false))])])
  (c32_k1),
  []⟩

/-! 49: slices.Clone[[]byte,byte] -/
def c49_k0 : C :=
  .seq (.ops [2] [.p (some 5) (.bslice 5 0 1 [(.int .u8 0)] []),
    .p (some 6) (.move (.t 0)),
    .e (some 7) (.append 5 1 1 (.t 5) (.t 6)),
    .p (some 2) (.move (.t 7))])
  (.ret)
def c49_k1 : C :=
  .cond (.t 4)
    (.seq (.ops [2] [.p (some 2) (.move (.c .nils))])
    (.ret))
    (.skip)
def c49_k2 : C :=
  .seq (.seq (.ops [0, 4] [.p (some 3) (.move (.t 0)),
    .p (some 4) (.bin .eql .slice [] (.t 3) (.c .nils))])
  (c49_k1))
  (c49_k0)
def c49 : FnC := ⟨1, 8, [.tmp 2],
  .seq (.ops [0] [.p (some 2) (.move (.c .nils))])
  (c49_k2),
  []⟩

/-! 50: slices.Clone[[]uint32,uint32] -/
def c50_k0 : C :=
  .seq (.ops [2] [.p (some 5) (.bslice 55 0 1 [(.int .u32 0)] []),
    .p (some 6) (.move (.t 0)),
    .e (some 7) (.append 55 1 4 (.t 5) (.t 6)),
    .p (some 2) (.move (.t 7))])
  (.ret)
def c50_k1 : C :=
  .cond (.t 4)
    (.seq (.ops [2] [.p (some 2) (.move (.c .nils))])
    (.ret))
    (.skip)
def c50_k2 : C :=
  .seq (.seq (.ops [0, 4] [.p (some 3) (.move (.t 0)),
    .p (some 4) (.bin .eql .slice [] (.t 3) (.c .nils))])
  (c50_k1))
  (c50_k0)
def c50 : FnC := ⟨1, 8, [.tmp 2],
  .seq (.ops [0] [.p (some 2) (.move (.c .nils))])
  (c50_k2),
  []⟩

/-! 51: slices.Clone[[]gossamer/api.Hash,gossamer/api.Hash] -/
def c51_k0 : C :=
  .seq (.ops [2] [.p (some 5) (.bslice 61 0 32 (List.replicate 32 (.int .u8 0)) []),
    .p (some 6) (.move (.t 0)),
    .e (some 7) (.append 61 32 32 (.t 5) (.t 6)),
    .p (some 2) (.move (.t 7))])
  (.ret)
def c51_k1 : C :=
  .cond (.t 4)
    (.seq (.ops [2] [.p (some 2) (.move (.c .nils))])
    (.ret))
    (.skip)
def c51_k2 : C :=
  .seq (.seq (.ops [0, 4] [.p (some 3) (.move (.t 0)),
    .p (some 4) (.bin .eql .slice [] (.t 3) (.c .nils))])
  (c51_k1))
  (c51_k0)
def c51 : FnC := ⟨1, 8, [.tmp 2],
  .seq (.ops [0] [.p (some 2) (.move (.c .nils))])
  (c51_k2),
  []⟩

/-! 52: gossamer/tx.Copy -/
def c52_k0 : C :=
  .seq (.ops [2] [.p (some 11) (.load true 3 (.t 1)),
    .e .none (.store 3 (.t 2) (.t 11))])
  (.ret)
def c52_k1 : C :=
  .seq (.drw [1, 2] 0 [⟨.none, .p (some 3) (.faddr 0 (.t 1)), [], 0⟩,
    ⟨.none, .p (some 4) (.load false 1 (.t 3)), [0], 0⟩,
    ⟨.none, .call (some 5) 69 [(.t 4)], [1], 0⟩,
    ⟨.none, .p (some 6) (.faddr 1 (.t 1)), [], 0⟩,
    ⟨.none, .p (some 7) (.load false 1 (.t 6)), [3], 0⟩,
    ⟨.none, .call (some 8) 70 [(.t 7)], [4, 2], 0⟩,
    ⟨.none, .p (some 9) (.faddr 0 (.t 1)), [0, 1, 2, 3, 4], 0⟩,
    ⟨.none, .e .none (.store 1 (.t 9) (.t 5)), [6, 2, 5, 0, 1, 2, 3, 4], 0⟩,
    ⟨.none, .p (some 10) (.faddr 1 (.t 1)), [0, 1, 2, 3, 4, 5, 6, 7], 0⟩,
    ⟨.none, .e .none (.store 1 (.t 10) (.t 8)), [8, 5, 7, 0, 1, 2, 3, 4, 5, 6, 7], 0⟩])
  (c52_k0)
def c52 : FnC := ⟨1, 12, [.cell 2 true 3],
  .seq (.ops [1, 2] [.e (some 1) (.box (.t 0)),
    .e (some 2) (.alloc [(.d .nils), (.d .nils), (.d (.bool false))])])
  (c52_k1),
  []⟩

/-! 69: slices.Clone[[]gossamer/api.Spend,gossamer/api.Spend] -/
def c69_k0 : C :=
  .seq (.ops [2] [.p (some 5) (.bslice 79 0 35 [(.int .u8 0), (.int .u8 0), (.int .u8 0), (.int .u8 0), (.int .u8 0), (.int .u8 0), (.int .u8 0), (.int .u8 0), (.int .u8 0), (.int .u8 0), (.int .u8 0), (.int .u8 0), (.int .u8 0), (.int .u8 0), (.int .u8 0), (.int .u8 0), (.int .u8 0), (.int .u8 0), (.int .u8 0), (.int .u8 0), (.int .u8 0), (.int .u8 0), (.int .u8 0), (.int .u8 0), (.int .u8 0), (.int .u8 0), (.int .u8 0), (.int .u8 0), (.int .u8 0), (.int .u8 0), (.int .u8 0), (.int .u8 0), (.int .i64 0), (.str []), (.int .u64 0)] []),
    .p (some 6) (.move (.t 0)),
    .e (some 7) (.append 79 35 64 (.t 5) (.t 6)),
    .p (some 2) (.move (.t 7))])
  (.ret)
def c69_k1 : C :=
  .cond (.t 4)
    (.seq (.ops [2] [.p (some 2) (.move (.c .nils))])
    (.ret))
    (.skip)
def c69_k2 : C :=
  .seq (.seq (.ops [0, 4] [.p (some 3) (.move (.t 0)),
    .p (some 4) (.bin .eql .slice [] (.t 3) (.c .nils))])
  (c69_k1))
  (c69_k0)
def c69 : FnC := ⟨1, 8, [.tmp 2],
  .seq (.ops [0] [.p (some 2) (.move (.c .nils))])
  (c69_k2),
  []⟩

/-! 70: slices.Clone[[]gossamer/api.Coin,gossamer/api.Coin] -/
def c70_k0 : C :=
  .seq (.ops [2] [.p (some 5) (.bslice 100 0 2 [(.int .i64 0), (.int .u64 0)] []),
    .p (some 6) (.move (.t 0)),
    .e (some 7) (.append 100 2 16 (.t 5) (.t 6)),
    .p (some 2) (.move (.t 7))])
  (.ret)
def c70_k1 : C :=
  .cond (.t 4)
    (.seq (.ops [2] [.p (some 2) (.move (.c .nils))])
    (.ret))
    (.skip)
def c70_k2 : C :=
  .seq (.seq (.ops [0, 4] [.p (some 3) (.move (.t 0)),
    .p (some 4) (.bin .eql .slice [] (.t 3) (.c .nils))])
  (c70_k1))
  (c70_k0)
def c70 : FnC := ⟨1, 8, [.tmp 2],
  .seq (.ops [0] [.p (some 2) (.move (.c .nils))])
  (c70_k2),
  []⟩

/-! 8: gossamer/story.Bodies -/
def c8_k0 : C :=
  .seq (.ops [2] [.p (some 22) (.move (.t 3)),
    .p (some 2) (.move (.t 22))])
  (.ret)
def c8_k1 : C :=
  .cond (.t 14)
    (.ops [3, 6, 7, 8] [.p (some 15) (.move (.t 3)),
      .p (some 16) (.faddr 8 (.t 5)),
      .p (some 17) (.load true 3 (.t 16)),
      .call (some 18) 20 [(.t 17)],
      .p (some 19) (.bslice 61 1 32 (List.replicate 32 (.int .u8 0)) [(0, (.t 18))]),
      .e (some 20) (.append 61 32 32 (.t 15) (.t 19)),
      .p (some 3) (.move (.t 20))])
    (.skip)
def c8_k2 : C :=
  .seq (.ops [3, 5, 6, 7, 8, 14] [.p (some 12) (.faddr 0 (.t 5)),
    .p (some 13) (.load false 1 (.t 12)),
    .p (some 14) (.bin .eql .int [] (.t 13) (.c (.int .i64 8)))])
  (c8_k1)
def c8_k3 : C :=
  .seq (.ops [3, 5, 6, 7, 8] [.p (some 10) (.iaddr 11 (.t 6) (.t 8)),
    .p (some 11) (.load true 11 (.t 10)),
    .e (some 5) (.alloc [(.d (.int .i64 0)), (.d (.int .u64 0)), (.d (.int .i64 0)), (.d (.int .i64 0)), (.d .nils), (.d (.bool false)), (.d .nils), (.d .nils), (.d .nils), (.d .nils), (.d (.bool false))]),
    .e .none (.store 11 (.t 5) (.t 11))])
  (c8_k2)
def c8_k4 : C :=
  .seq (.block 1 (c8_k3))
  (.ops [3, 6, 7, 8] [.p (some 21) (.bin .add .int [] (.t 8) (.c (.int .i64 1))),
    .p (some 8) (.move (.t 21))])
def c8_k5 : C :=
  .seq (.cond (.t 9)
    (.skip)
    (.exit 0))
  (c8_k4)
def c8_l6 : C :=
  .seq (.ops [3, 6, 7, 8, 9] [.p (some 9) (.bin .lss .int [] (.t 8) (.t 7))])
  (c8_k5)
def c8_k7 : C :=
  .block 0 (.loop [3, 6, 7, 8] c8_l6)
def c8_k8 : C :=
  .seq (.seq (.ops [3, 6, 7, 8] [.p (some 6) (.move (.t 0)),
    .p (some 7) (.len .slice (.t 6)),
    .p (some 8) (.move (.c (.int .i64 0)))])
  (c8_k7))
  (c8_k0)
def c8_k9 : C :=
  .seq (.ops [0, 3] [.p (some 3) (.move (.c .nils))])
  (c8_k8)
def c8 : FnC := ⟨1, 23, [.tmp 2],
  .seq (.ops [0] [.p (some 2) (.move (.c .nils))])
  (c8_k9),
  []⟩

/-! 20: gossamer/tx.Wide -/
def c20_k0 : C :=
  .seq (.ops [2] [.p (some 3) (.load true 3 (.t 1)),
    .call (some 4) 34 [(.t 3)],
    .p (some 5) (.bslice 34 1 1 [.nils] [(0, (.t 4))]),
    .call (some 6) 33 [(.t 5)],
    .e .none (.store 32 (.t 2) (.t 6))])
  (.ret)
def c20 : FnC := ⟨1, 7, [.cell 2 true 32],
  .seq (.ops [1, 2] [.e (some 1) (.box (.t 0)),
    .e (some 2) (.alloc (List.replicate 32 (.d (.int .u8 0))))])
  (c20_k0),
  []⟩

/-! 34: gossamer/tx.Bytes -/
def c34_k0 : C :=
  .seq (.ops [2] [.p (some 3) (.load true 3 (.t 1)),
    .call (some 4) 54 [(.t 3), (.c (.bool true))],
    .p (some 2) (.move (.t 4))])
  (.ret)
def c34 : FnC := ⟨1, 5, [.tmp 2],
  .seq (.ops [1] [.e (some 1) (.box (.t 0)),
    .p (some 2) (.move (.c .nils))])
  (c34_k0),
  []⟩

/-! 54: gossamer/tx.put -/
def c54_k0 : C :=
  .seq (.ops [4] [.p (some 73) (.move (.t 5)),
    .call (some 74) 61 [(.t 73)],
    .p (some 4) (.move (.t 74))])
  (.ret)
def c54_k1 : C :=
  .seq (.ops [5] [.p (some 70) (.move (.t 5)),
    .p (some 71) (.move (.t 10)),
    .call (some 72) 59 [(.t 70), (.t 71), (.c (.int .i64 1))]])
  (c54_k0)
def c54_k2 : C :=
  .cond (.t 69)
    (.ops [5, 10] [.p (some 10) (.move (.c (.int .u64 1)))])
    (.skip)
def c54_k3 : C :=
  .seq (.seq (.ops [5, 10, 69] [.p (some 68) (.faddr 2 (.t 2)),
    .p (some 69) (.load false 1 (.t 68))])
  (c54_k2))
  (c54_k1)
def c54_k4 : C :=
  .seq (.ops [2, 5, 10] [.p (some 10) (.move (.c (.int .u64 0)))])
  (c54_k3)
def c54_k5 : C :=
  .ops [2, 5, 52, 53, 54] [.p (some 63) (.move (.t 5)),
    .p (some 64) (.faddr 1 (.t 9)),
    .p (some 65) (.load false 1 (.t 64)),
    .call (some 66) 59 [(.t 63), (.t 65), (.c (.int .i64 8))]]
def c54_k6 : C :=
  .seq (.ops [2, 5, 9, 52, 53, 54] [.p (some 58) (.move (.t 5)),
    .p (some 59) (.faddr 0 (.t 9)),
    .p (some 60) (.load false 1 (.t 59)),
    .p (some 61) (.conv (.int .u64) (.t 60)),
    .call (some 62) 59 [(.t 58), (.t 61), (.c (.int .i64 8))]])
  (c54_k5)
def c54_k7 : C :=
  .seq (.ops [2, 5, 9, 52, 53, 54] [.p (some 56) (.iaddr 2 (.t 52) (.t 54)),
    .p (some 57) (.load true 2 (.t 56)),
    .e (some 9) (.alloc [(.d (.int .i64 0)), (.d (.int .u64 0))]),
    .e .none (.store 2 (.t 9) (.t 57))])
  (c54_k6)
def c54_k8 : C :=
  .seq (.block 3 (c54_k7))
  (.ops [2, 5, 52, 53, 54] [.p (some 67) (.bin .add .int [] (.t 54) (.c (.int .i64 1))),
    .p (some 54) (.move (.t 67))])
def c54_k9 : C :=
  .seq (.cond (.t 55)
    (.skip)
    (.exit 2))
  (c54_k8)
def c54_l10 : C :=
  .seq (.ops [2, 5, 52, 53, 54, 55] [.p (some 55) (.bin .lss .int [] (.t 54) (.t 53))])
  (c54_k9)
def c54_k11 : C :=
  .block 2 (.loop [2, 5, 52, 53, 54] c54_l10)
def c54_k12 : C :=
  .seq (.seq (.ops [2, 5, 52, 53, 54] [.p (some 51) (.faddr 1 (.t 2)),
    .p (some 52) (.load false 1 (.t 51)),
    .p (some 53) (.len .slice (.t 52)),
    .p (some 54) (.move (.c (.int .i64 0)))])
  (c54_k11))
  (c54_k4)
def c54_k13 : C :=
  .seq (.ops [2, 5] [.p (some 46) (.move (.t 5)),
    .p (some 47) (.faddr 1 (.t 2)),
    .p (some 48) (.load false 1 (.t 47)),
    .p (some 49) (.len .slice (.t 48)),
    .call (some 50) 74 [(.t 46), (.t 49)]])
  (c54_k12)
def c54_k14 : C :=
  .ops [1, 2, 5, 19, 20, 21] [.p (some 41) (.move (.t 5)),
    .p (some 42) (.faddr 34 (.t 7)),
    .p (some 43) (.load false 1 (.t 42)),
    .call (some 44) 59 [(.t 41), (.t 43), (.c (.int .i64 8))]]
def c54_k15 : C :=
  .cond (.t 36)
    (.seq (.ops [1, 2, 5, 7, 19, 20, 21] [.p (some 37) (.move (.t 5)),
      .p (some 38) (.faddr 33 (.t 7)),
      .p (some 39) (.load false 1 (.t 38)),
      .call (some 40) 76 [(.t 37), (.t 39)]])
    (c54_k14))
    (.skip)
def c54_k16 : C :=
  .seq (.ops [1, 2, 5, 7, 19, 20, 21, 36] [.p (some 36) (.move (.t 1))])
  (c54_k15)
def c54_k17 : C :=
  .seq (.ops [1, 2, 5, 7, 19, 20, 21] [.p (some 30) (.move (.t 5)),
    .p (some 31) (.faddr 0 (.t 7)),
    .p (some 32) (.faddr 32 (.t 31)),
    .p (some 33) (.load false 1 (.t 32)),
    .p (some 34) (.conv (.int .u64) (.t 33)),
    .call (some 35) 59 [(.t 30), (.t 34), (.c (.int .i64 4))]])
  (c54_k16)
def c54_k18 : C :=
  .seq (.ops [1, 2, 5, 7, 19, 20, 21] [.p (some 25) (.move (.t 5)),
    .p (some 26) (.faddr 0 (.t 7)),
    .p (some 27) (.faddr 0 (.t 26)),
    .p (some 28) (.load true 32 (.t 27)),
    .call (some 29) 75 [(.t 25), (.t 28)]])
  (c54_k17)
def c54_k19 : C :=
  .seq (.ops [1, 2, 5, 7, 19, 20, 21] [.p (some 23) (.iaddr 35 (.t 19) (.t 21)),
    .p (some 24) (.load true 35 (.t 23)),
    .e (some 7) (.alloc [(.d (.int .u8 0)), (.d (.int .u8 0)), (.d (.int .u8 0)), (.d (.int .u8 0)), (.d (.int .u8 0)), (.d (.int .u8 0)), (.d (.int .u8 0)), (.d (.int .u8 0)), (.d (.int .u8 0)), (.d (.int .u8 0)), (.d (.int .u8 0)), (.d (.int .u8 0)), (.d (.int .u8 0)), (.d (.int .u8 0)), (.d (.int .u8 0)), (.d (.int .u8 0)), (.d (.int .u8 0)), (.d (.int .u8 0)), (.d (.int .u8 0)), (.d (.int .u8 0)), (.d (.int .u8 0)), (.d (.int .u8 0)), (.d (.int .u8 0)), (.d (.int .u8 0)), (.d (.int .u8 0)), (.d (.int .u8 0)), (.d (.int .u8 0)), (.d (.int .u8 0)), (.d (.int .u8 0)), (.d (.int .u8 0)), (.d (.int .u8 0)), (.d (.int .u8 0)), (.d (.int .i64 0)), (.d (.str [])), (.d (.int .u64 0))]),
    .e .none (.store 35 (.t 7) (.t 24))])
  (c54_k18)
def c54_k20 : C :=
  .seq (.block 1 (c54_k19))
  (.ops [1, 2, 5, 19, 20, 21] [.p (some 45) (.bin .add .int [] (.t 21) (.c (.int .i64 1))),
    .p (some 21) (.move (.t 45))])
def c54_k21 : C :=
  .seq (.cond (.t 22)
    (.skip)
    (.exit 0))
  (c54_k20)
def c54_l22 : C :=
  .seq (.ops [1, 2, 5, 19, 20, 21, 22] [.p (some 22) (.bin .lss .int [] (.t 21) (.t 20))])
  (c54_k21)
def c54_k23 : C :=
  .block 0 (.loop [1, 2, 5, 19, 20, 21] c54_l22)
def c54_k24 : C :=
  .seq (.seq (.ops [1, 2, 5, 19, 20, 21] [.p (some 18) (.faddr 0 (.t 2)),
    .p (some 19) (.load false 1 (.t 18)),
    .p (some 20) (.len .slice (.t 19)),
    .p (some 21) (.move (.c (.int .i64 0)))])
  (c54_k23))
  (c54_k13)
def c54_k25 : C :=
  .seq (.ops [1, 2, 5] [.p (some 13) (.move (.t 5)),
    .p (some 14) (.faddr 0 (.t 2)),
    .p (some 15) (.load false 1 (.t 14)),
    .p (some 16) (.len .slice (.t 15)),
    .call (some 17) 74 [(.t 13), (.t 16)]])
  (c54_k24)
def c54_k26 : C :=
  .seq (.ops [1, 2, 5] [.p (some 11) (.build [.nils] []),
    .e (some 12) (.box (.t 11)),
    .p (some 5) (.move (.t 12))])
  (c54_k25)
def c54 : FnC := ⟨2, 75, [.tmp 4],
  .seq (.ops [1, 2] [.e (some 2) (.box (.t 0)),
    .p (some 4) (.move (.c .nils))])
  (c54_k26),
  []⟩

/-! 74: (*gossamer/pack.Out).Count -/
def c74_k0 : C :=
  .ops [] [.p (some 30) (.move (.t 0)),
    .p (some 31) (.move (.t 1)),
    .p (some 32) (.conv (.int .u64) (.t 31)),
    .p (some 33) (.move (.t 5)),
    .call (some 34) 59 [(.t 30), (.t 32), (.t 33)]]
def c74_k1 : C :=
  .cond (.t 19)
    (.ops [0, 1, 5] [.p (some 20) (.move (.t 0)),
      .p (some 21) (.move (.t 0)),
      .p (some 22) (.nilCheck (.t 21)),
      .p (some 23) (.faddr 0 (.t 22)),
      .p (some 24) (.load false 1 (.t 23)),
      .p (some 25) (.move (.t 4)),
      .p (some 26) (.bslice 5 1 1 [(.int .u8 0)] [(0, (.t 25))]),
      .e (some 27) (.append 5 1 1 (.t 24) (.t 26)),
      .p (some 28) (.nilCheck (.t 20)),
      .p (some 29) (.faddr 0 (.t 28)),
      .e .none (.store 1 (.t 29) (.t 27))])
    (.skip)
def c74_k2 : C :=
  .seq (.seq (.ops [0, 1, 4, 5, 19] [.p (some 18) (.move (.t 4)),
    .p (some 19) (.bin .neq .int [] (.t 18) (.c (.int .u8 0)))])
  (c74_k1))
  (c74_k0)
def c74_k3 : C :=
  .seq (.ops [0, 1, 4, 5] [.p (some 13) (.move (.t 1)),
    .p (some 14) (.conv (.int .u64) (.t 13)),
    .call (some 15) 87 [(.t 14)],
    .p (some 12) (.move (.t 15)),
    .p (some 16) (.extract (.t 12) 0),
    .p (some 17) (.extract (.t 12) 1),
    .p (some 4) (.move (.t 16)),
    .p (some 5) (.move (.t 17))])
  (c74_k2)
def c74_k4 : C :=
  .cond (.t 11)
    (.ret)
    (.skip)
def c74 : FnC := ⟨2, 35, [],
  .seq (.seq (.ops [0, 1, 11] [.p (some 6) (.move (.t 0)),
    .p (some 7) (.bin .eql .ptr [] (.t 6) (.c .nilp)),
    .p (some 8) (.move (.t 7)),
    .when 8 false [.p (some 9) (.move (.t 1)),
      .p (some 10) (.bin .lss .int [] (.t 9) (.c (.int .i64 0)))],
    .p (some 11) (.pick (.t 8) (.c (.bool true)) (.t 10))])
  (c74_k4))
  (c74_k3),
  []⟩

/-! 87: gossamer/pack.form -/
def c87_k0 : C :=
  .seq (.ops [2, 3] [.p (some 2) (.move (.c (.int .u8 255))),
    .p (some 3) (.move (.c (.int .i64 8)))])
  (.ret)
def c87_k1 : C :=
  .cond (.t 10)
    (.seq (.ops [2, 3] [.p (some 2) (.move (.c (.int .u8 254))),
      .p (some 3) (.move (.c (.int .i64 4)))])
    (.ret))
    (.skip)
def c87_k2 : C :=
  .cond (.t 7)
    (.seq (.ops [2, 3] [.p (some 2) (.move (.c (.int .u8 253))),
      .p (some 3) (.move (.c (.int .i64 2)))])
    (.ret))
    (.seq (.ops [10] [.p (some 11) (.move (.t 0)),
      .p (some 12) (.bin .leq .int [] (.t 11) (.c (.int .u64 4294967295))),
      .p (some 10) (.move (.t 12))])
    (c87_k1))
def c87_k3 : C :=
  .seq (.ops [0, 7] [.p (some 8) (.move (.t 0)),
      .p (some 9) (.bin .leq .int [] (.t 8) (.c (.int .u64 65535))),
      .p (some 7) (.move (.t 9))])
    (c87_k2)
def c87_k4 : C :=
  .cond (.t 4)
    (.seq (.ops [2, 3] [.p (some 2) (.move (.c (.int .u8 0))),
      .p (some 3) (.move (.c (.int .i64 1)))])
    (.ret))
    (c87_k3)
def c87_k5 : C :=
  .seq (.ops [0, 4] [.p (some 5) (.move (.t 0)),
    .p (some 6) (.bin .lss .int [] (.t 5) (.c (.int .u64 253))),
    .p (some 4) (.move (.t 6))])
  (c87_k4)
def c87_k6 : C :=
  .seq (.block 0 (c87_k5))
  (c87_k0)
def c87 : FnC := ⟨1, 13, [.tmp 2, .tmp 3],
  .seq (.ops [0] [.p (some 2) (.move (.c (.int .u8 0))),
    .p (some 3) (.move (.c (.int .i64 0)))])
  (c87_k6),
  []⟩

/-! 59: (*gossamer/pack.Out).Num -/
def c59_k0 : C :=
  .drw [0, 1, 14, 15] 1 [⟨.none, .p (some 18) (.move (.t 0)), [], 0⟩,
    ⟨.none, .p (some 19) (.move (.t 0)), [], 0⟩,
    ⟨.none, .p (some 20) (.nilCheck (.t 19)), [1], 0⟩,
    ⟨.none, .p (some 21) (.faddr 0 (.t 20)), [2], 0⟩,
    ⟨.none, .p (some 22) (.load false 1 (.t 21)), [3], 0⟩,
    ⟨.none, .p (some 23) (.move (.t 1)), [], 0⟩,
    ⟨.none, .p (some 24) (.move (.t 6)), [], 0⟩,
    ⟨.none, .p (some 25) (.bin .mul .int [] (.c (.int .i64 8)) (.t 24)), [6], 0⟩,
    ⟨.none, .p (some 26) (.bin .shr .int [] (.t 23) (.t 25)), [5, 7], 0⟩,
    ⟨.none, .p (some 27) (.conv (.int .u8) (.t 26)), [8], 0⟩,
    ⟨.none, .p (some 28) (.bslice 5 1 1 [(.int .u8 0)] [(0, (.t 27))]), [9], 0⟩,
    ⟨.none, .e (some 29) (.append 5 1 1 (.t 22) (.t 28)), [4, 10], 0⟩,
    ⟨.none, .p (some 30) (.nilCheck (.t 18)), [0, 0, 1, 2, 3, 4, 5, 6, 7, 8, 9, 10, 11], 1⟩,
    ⟨.none, .p (some 31) (.faddr 0 (.t 30)), [12, 0, 1, 2, 3, 4, 5, 6, 7, 8, 9, 10, 11], 1⟩,
    ⟨.none, .e .none (.store 1 (.t 31) (.t 29)), [13, 11, 11, 0, 1, 2, 3, 4, 5, 6, 7, 8, 9, 10, 11], 1⟩]
def c59_k1 : C :=
  .seq (.ops [0, 1, 6, 14, 15] [.p (some 17) (.move (.t 15)),
    .p (some 6) (.move (.t 17))])
  (c59_k0)
def c59_k2 : C :=
  .seq (.block 1 (c59_k1))
  (.ops [0, 1, 14, 15] [.p (some 32) (.bin .add .int [] (.t 15) (.c (.int .i64 1))),
    .p (some 15) (.move (.t 32))])
def c59_k3 : C :=
  .seq (.cond (.t 16)
    (.skip)
    (.exit 0))
  (c59_k2)
def c59_l4 : C :=
  .seq (.ops [0, 1, 14, 15, 16] [.p (some 16) (.bin .lss .int [] (.t 15) (.t 14))])
  (c59_k3)
def c59_k5 : C :=
  .block 0 (.loop [0, 1, 14, 15] c59_l4)
def c59_k6 : C :=
  .seq (.ops [0, 1, 14, 15] [.p (some 14) (.move (.t 2)),
    .p (some 15) (.move (.c (.int .i64 0)))])
  (c59_k5)
def c59_k7 : C :=
  .cond (.t 13)
    (.ret)
    (.skip)
def c59 : FnC := ⟨3, 33, [],
  .seq (.seq (.ops [0, 1, 2, 13] [.p (some 7) (.move (.t 0)),
    .p (some 8) (.bin .eql .ptr [] (.t 7) (.c .nilp)),
    .p (some 9) (.move (.t 8)),
    .when 9 false [.p (some 10) (.move (.t 2)),
      .call (some 11) 78 [(.t 10)],
      .p (some 12) (.una .not (.t 11))],
    .p (some 13) (.pick (.t 9) (.c (.bool true)) (.t 12))])
  (c59_k7))
  (c59_k6),
  []⟩

/-! 78: gossamer/pack.sized -/
def c78_k0 : C :=
  .seq (.ops [2] [.p (some 3) (.move (.t 0)),
    .p (some 4) (.bin .eql .int [] (.t 3) (.c (.int .i64 1))),
    .p (some 5) (.move (.t 4)),
    .when 5 false [.p (some 6) (.move (.t 0)),
      .p (some 7) (.bin .eql .int [] (.t 6) (.c (.int .i64 2)))],
    .p (some 8) (.pick (.t 5) (.c (.bool true)) (.t 7)),
    .p (some 9) (.move (.t 8)),
    .when 9 false [.p (some 10) (.move (.t 0)),
      .p (some 11) (.bin .eql .int [] (.t 10) (.c (.int .i64 4)))],
    .p (some 12) (.pick (.t 9) (.c (.bool true)) (.t 11)),
    .p (some 13) (.move (.t 12)),
    .when 13 false [.p (some 14) (.move (.t 0)),
      .p (some 15) (.bin .eql .int [] (.t 14) (.c (.int .i64 8)))],
    .p (some 16) (.pick (.t 13) (.c (.bool true)) (.t 15)),
    .p (some 2) (.move (.t 16))])
  (.ret)
def c78 : FnC := ⟨1, 17, [.tmp 2],
  .seq (.ops [0, 7, 11, 15] [.p (some 2) (.move (.c (.bool false)))])
  (c78_k0),
  []⟩

/-! 75: (*gossamer/pack.Out).Hash -/
def c75_k0 : C :=
  .cond (.t 5)
    (.drw [] 1 [⟨.none, .p (some 6) (.move (.t 0)), [], 0⟩,
      ⟨.none, .p (some 7) (.move (.t 0)), [], 0⟩,
      ⟨.none, .p (some 8) (.nilCheck (.t 7)), [1], 0⟩,
      ⟨.none, .p (some 9) (.faddr 0 (.t 8)), [2], 0⟩,
      ⟨.none, .p (some 10) (.load false 1 (.t 9)), [3], 0⟩,
      ⟨.none, .p (some 11) (.sliceArr 32 1 (.t 3) .none .none), [], 0⟩,
      ⟨.none, .e (some 12) (.append 5 1 1 (.t 10) (.t 11)), [4, 5], 0⟩,
      ⟨.none, .p (some 13) (.nilCheck (.t 6)), [0, 0, 1, 2, 3, 4, 5, 6], 1⟩,
      ⟨.none, .p (some 14) (.faddr 0 (.t 13)), [7, 0, 1, 2, 3, 4, 5, 6], 1⟩,
      ⟨.none, .e .none (.store 1 (.t 14) (.t 12)), [8, 6, 6, 0, 1, 2, 3, 4, 5, 6], 1⟩])
    (.skip)
def c75_k1 : C :=
  .seq (.ops [0, 3, 5] [.p (some 4) (.move (.t 0)),
    .p (some 5) (.bin .neq .ptr [] (.t 4) (.c .nilp))])
  (c75_k0)
def c75 : FnC := ⟨2, 15, [],
  .seq (.ops [0, 3] [.e (some 3) (.box (.t 1))])
  (c75_k1),
  []⟩

/-! 76: (*gossamer/pack.Out).Text -/
def c76_k0 : C :=
  .ops [] [.p (some 10) (.move (.t 0)),
    .p (some 11) (.move (.t 0)),
    .p (some 12) (.nilCheck (.t 11)),
    .p (some 13) (.faddr 0 (.t 12)),
    .p (some 14) (.load false 1 (.t 13)),
    .p (some 15) (.move (.t 1)),
    .e (some 16) (.appendStr 5 (.t 14) (.t 15)),
    .p (some 17) (.nilCheck (.t 10)),
    .p (some 18) (.faddr 0 (.t 17)),
    .e .none (.store 1 (.t 18) (.t 16))]
def c76_k1 : C :=
  .seq (.ops [0, 1] [.p (some 6) (.move (.t 0)),
      .p (some 7) (.move (.t 1)),
      .p (some 8) (.len .str (.t 7)),
      .call (some 9) 74 [(.t 6), (.t 8)]])
    (c76_k0)
def c76_k2 : C :=
  .cond (.t 5)
    (c76_k1)
    (.skip)
def c76 : FnC := ⟨2, 19, [],
  .seq (.ops [0, 1, 5] [.p (some 4) (.move (.t 0)),
    .p (some 5) (.bin .neq .ptr [] (.t 4) (.c .nilp))])
  (c76_k2),
  []⟩

/-! 61: (*gossamer/pack.Out).Bytes -/
def c61_k0 : C :=
  .seq (.ops [2] [.p (some 5) (.move (.t 0)),
    .p (some 6) (.nilCheck (.t 5)),
    .p (some 7) (.faddr 0 (.t 6)),
    .p (some 8) (.load false 1 (.t 7)),
    .call (some 9) 49 [(.t 8)],
    .p (some 2) (.move (.t 9))])
  (.ret)
def c61_k1 : C :=
  .cond (.t 4)
    (.seq (.ops [2] [.p (some 2) (.move (.c .nils))])
    (.ret))
    (.skip)
def c61_k2 : C :=
  .seq (.seq (.ops [0, 4] [.p (some 3) (.move (.t 0)),
    .p (some 4) (.bin .eql .ptr [] (.t 3) (.c .nilp))])
  (c61_k1))
  (c61_k0)
def c61 : FnC := ⟨1, 10, [.tmp 2],
  .seq (.ops [0] [.p (some 2) (.move (.c .nils))])
  (c61_k2),
  []⟩

/-! 33: gossamer/digest.Double -/
def c33_k0 : C :=
  .seq (.ops [2] [.p (some 6) (.sliceArr 32 1 (.t 3) .none .none),
    .p (some 7) (.bslice 34 1 1 [.nils] [(0, (.t 6))]),
    .call (some 8) 53 [(.t 7)],
    .e .none (.store 32 (.t 2) (.t 8))])
  (.ret)
def c33_k1 : C :=
  .seq (.ops [2, 3] [.p (some 4) (.move (.t 0)),
    .call (some 5) 53 [(.t 4)],
    .e (some 3) (.alloc (List.replicate 32 (.d (.int .u8 0)))),
    .e .none (.store 32 (.t 3) (.t 5))])
  (c33_k0)
def c33 : FnC := ⟨1, 9, [.cell 2 true 32],
  .seq (.ops [0, 2] [.e (some 2) (.alloc (List.replicate 32 (.d (.int .u8 0))))])
  (c33_k1),
  []⟩

/-! 53: gossamer/digest.Sum -/
def c53_k0 : C :=
  .seq (.ops [2] [.p (some 32) (.load true 32 (.t 5)),
    .e .none (.store 32 (.t 2) (.t 32))])
  (.ret)
def c53_k1 : C :=
  .ops [2, 3, 5, 16] [.p (some 19) (.move (.t 6)),
    .p (some 20) (.move (.t 6)),
    .p (some 21) (.bin .quo .int [] (.t 20) (.c (.int .i64 4))),
    .p (some 22) (.iaddrArr 8 1 (.t 3) (.t 21)),
    .p (some 23) (.load false 1 (.t 22)),
    .p (some 24) (.move (.t 6)),
    .p (some 25) (.bin .rem .int [] (.t 24) (.c (.int .i64 4))),
    .p (some 26) (.bin .sub .int [] (.c (.int .i64 3)) (.t 25)),
    .p (some 27) (.bin .mul .int [] (.c (.int .i64 8)) (.t 26)),
    .p (some 28) (.bin .shr .int [] (.t 23) (.t 27)),
    .p (some 29) (.conv (.int .u8) (.t 28)),
    .p (some 30) (.iaddrArr 32 1 (.t 5) (.t 19)),
    .e .none (.store 1 (.t 30) (.t 29))]
def c53_k2 : C :=
  .seq (.ops [2, 3, 5, 6, 16] [.p (some 18) (.move (.t 16)),
    .p (some 6) (.move (.t 18))])
  (c53_k1)
def c53_k3 : C :=
  .seq (.block 3 (c53_k2))
  (.ops [2, 3, 5, 16] [.p (some 31) (.bin .add .int [] (.t 16) (.c (.int .i64 1))),
    .p (some 16) (.move (.t 31))])
def c53_k4 : C :=
  .seq (.cond (.t 17)
    (.skip)
    (.exit 2))
  (c53_k3)
def c53_l5 : C :=
  .seq (.ops [2, 3, 5, 16, 17] [.p (some 17) (.bin .lss .int [] (.t 16) (.c (.int .i64 32)))])
  (c53_k4)
def c53_k6 : C :=
  .block 2 (.loop [2, 3, 5, 16] c53_l5)
def c53_k7 : C :=
  .seq (.seq (.ops [2, 3, 5, 16] [.p (some 16) (.move (.c (.int .i64 0)))])
  (c53_k6))
  (c53_k0)
def c53_k8 : C :=
  .seq (.ops [2, 3, 5] [.e (some 5) (.alloc (List.replicate 32 (.d (.int .u8 0))))])
  (c53_k7)
def c53_a9 : C :=
  .ops [3, 4] [.p (some 4) (.move (.t 12))]
def c53_b10 : C :=
  .block 1 (.ops [] [.p (some 13) (.load true 8 (.t 3)),
    .p (some 14) (.move (.t 4)),
    .call (some 15) 73 [(.t 13), (.t 14)],
    .e .none (.store 8 (.t 3) (.t 15))])
def c53_k11 : C :=
  .block 0 (.rangeF [2, 3] (.t 11) [12] c53_a9 c53_b10)
def c53_k12 : C :=
  .seq (.seq (.ops [2, 3, 11] [.p (some 8) (.move (.t 0)),
    .call (some 9) 60 [(.t 8)],
    .call (some 10) 72 [(.t 9)],
    .call (some 11) 71 [(.t 10), (.c (.int .i64 64))]])
  (c53_k11))
  (c53_k8)
def c53_k13 : C :=
  .seq (.ops [0, 2, 3] [.p (some 7) (.load true 8 (.t 1000001)),
    .e (some 3) (.alloc [(.d (.int .u32 0)), (.d (.int .u32 0)), (.d (.int .u32 0)), (.d (.int .u32 0)), (.d (.int .u32 0)), (.d (.int .u32 0)), (.d (.int .u32 0)), (.d (.int .u32 0))]),
    .e .none (.store 8 (.t 3) (.t 7))])
  (c53_k12)
def c53 : FnC := ⟨1, 33, [.cell 2 true 32],
  .seq (.ops [0, 2, 1000001] [.e (some 2) (.alloc (List.replicate 32 (.d (.int .u8 0))))])
  (c53_k13),
  [(1, g1)]⟩

/-! 60: slices.Concat[[]byte,byte] -/
def c60_k0 : C :=
  .seq (.ops [2] [.p (some 35) (.move (.t 6)),
    .p (some 2) (.move (.t 35))])
  (.ret)
def c60_k1 : C :=
  .ops [6, 25, 26, 27] [.p (some 31) (.move (.t 6)),
    .p (some 32) (.move (.t 8)),
    .e (some 33) (.append 5 1 1 (.t 31) (.t 32)),
    .p (some 6) (.move (.t 33))]
def c60_k2 : C :=
  .seq (.block 3 (.seq (.ops [6, 8, 25, 26, 27] [.p (some 29) (.iaddr 1 (.t 25) (.t 27)),
    .p (some 30) (.load false 1 (.t 29)),
    .p (some 8) (.move (.t 30))])
  (c60_k1)))
  (.ops [6, 25, 26, 27] [.p (some 34) (.bin .add .int [] (.t 27) (.c (.int .i64 1))),
    .p (some 27) (.move (.t 34))])
def c60_k3 : C :=
  .seq (.cond (.t 28)
    (.skip)
    (.exit 2))
  (c60_k2)
def c60_l4 : C :=
  .seq (.ops [6, 25, 26, 27, 28] [.p (some 28) (.bin .lss .int [] (.t 27) (.t 26))])
  (c60_k3)
def c60_k5 : C :=
  .block 2 (.loop [6, 25, 26, 27] c60_l4)
def c60_k6 : C :=
  .seq (.seq (.ops [6, 25, 26, 27] [.p (some 25) (.move (.t 0)),
    .p (some 26) (.len .slice (.t 25)),
    .p (some 27) (.move (.c (.int .i64 0)))])
  (c60_k5))
  (c60_k0)
def c60_k7 : C :=
  .seq (.ops [0, 6] [.p (some 23) (.move (.t 3)),
    .call (some 24) 79 [(.c .nils), (.t 23)],
    .p (some 6) (.move (.t 24))])
  (c60_k6)
def c60_k8 : C :=
  .cond (.t 20)
    (.ops [0, 3, 9, 10, 11] [.p (some 21) (.mkif 9 (.c (.str [108, 101, 110, 32, 111, 117, 116, 32, 111, 102, 32, 114, 97, 110, 103, 101]))),
      .p .none (.extract (.c .nilp) 0)])
    (.skip)
def c60_k9 : C :=
  .seq (.ops [0, 3, 9, 10, 11, 20] [.p (some 19) (.move (.t 3)),
    .p (some 20) (.bin .lss .int [] (.t 19) (.c (.int .i64 0)))])
  (c60_k8)
def c60_k10 : C :=
  .seq (.ops [0, 3, 9, 10, 11] [.p (some 15) (.move (.t 3)),
    .p (some 16) (.move (.t 5)),
    .p (some 17) (.len .slice (.t 16)),
    .p (some 18) (.bin .add .int [] (.t 15) (.t 17)),
    .p (some 3) (.move (.t 18))])
  (c60_k9)
def c60_k11 : C :=
  .seq (.ops [0, 3, 5, 9, 10, 11] [.p (some 13) (.iaddr 1 (.t 9) (.t 11)),
    .p (some 14) (.load false 1 (.t 13)),
    .p (some 5) (.move (.t 14))])
  (c60_k10)
def c60_k12 : C :=
  .seq (.block 1 (c60_k11))
  (.ops [0, 3, 9, 10, 11] [.p (some 22) (.bin .add .int [] (.t 11) (.c (.int .i64 1))),
    .p (some 11) (.move (.t 22))])
def c60_k13 : C :=
  .seq (.cond (.t 12)
    (.skip)
    (.exit 0))
  (c60_k12)
def c60_l14 : C :=
  .seq (.ops [0, 3, 9, 10, 11, 12] [.p (some 12) (.bin .lss .int [] (.t 11) (.t 10))])
  (c60_k13)
def c60_k15 : C :=
  .block 0 (.loop [0, 3, 9, 10, 11] c60_l14)
def c60_k16 : C :=
  .seq (.seq (.ops [0, 3, 9, 10, 11] [.p (some 9) (.move (.t 0)),
    .p (some 10) (.len .slice (.t 9)),
    .p (some 11) (.move (.c (.int .i64 0)))])
  (c60_k15))
  (c60_k7)
def c60_k17 : C :=
  .seq (.ops [0, 3] [.p (some 3) (.move (.c (.int .i64 0)))])
  (c60_k16)
def c60 : FnC := ⟨1, 36, [.tmp 2],
  .seq (.ops [0] [.p (some 2) (.move (.c .nils))])
  (c60_k17),
  []⟩

/-! 79: slices.Grow[[]byte,byte] -/
def c79_k0 : C :=
  .seq (.ops [4] [.p (some 26) (.move (.t 0)),
    .p (some 4) (.move (.t 26))])
  (.ret)
def c79_k1 : C :=
  .cond (.t 16)
    (.ops [0] [.p (some 17) (.move (.t 0)),
      .p (some 18) (.move (.t 0)),
      .p (some 19) (.cap (.t 18)),
      .p (some 20) (.slice 1 (.t 17) .none (some (.t 19)) .none),
      .p (some 21) (.move (.t 1)),
      .e (some 22) (.appendZero 5 1 1 [(.int .u8 0)] (.t 20) (.t 21)),
      .p (some 23) (.move (.t 0)),
      .p (some 24) (.len .slice (.t 23)),
      .p (some 25) (.slice 1 (.t 22) .none (some (.t 24)) .none),
      .p (some 0) (.move (.t 25))])
    (.skip)
def c79_k2 : C :=
  .seq (.ops [0, 1, 16] [.p (some 15) (.move (.t 1)),
    .p (some 16) (.bin .gtr .int [] (.t 15) (.c (.int .i64 0)))])
  (c79_k1)
def c79_k3 : C :=
  .seq (.seq (.ops [0, 1] [.p (some 8) (.move (.t 1)),
    .p (some 9) (.move (.t 0)),
    .p (some 10) (.cap (.t 9)),
    .p (some 11) (.move (.t 0)),
    .p (some 12) (.len .slice (.t 11)),
    .p (some 13) (.bin .sub .int [] (.t 10) (.t 12)),
    .p (some 14) (.bin .sub .int [] (.t 8) (.t 13)),
    .p (some 1) (.move (.t 14))])
  (c79_k2))
  (c79_k0)
def c79_k4 : C :=
  .cond (.t 6)
    (.ops [0, 1] [.p (some 7) (.mkif 9 (.c (.str [99, 97, 110, 110, 111, 116, 32, 98, 101, 32, 110, 101, 103, 97, 116, 105, 118, 101]))),
      .p .none (.extract (.c .nilp) 0)])
    (.skip)
def c79_k5 : C :=
  .seq (.seq (.ops [0, 1, 6] [.p (some 5) (.move (.t 1)),
    .p (some 6) (.bin .lss .int [] (.t 5) (.c (.int .i64 0)))])
  (c79_k4))
  (c79_k3)
def c79 : FnC := ⟨2, 27, [.tmp 4],
  .seq (.ops [0, 1] [.p (some 4) (.move (.c .nils))])
  (c79_k5),
  []⟩

/-! 72: gossamer/digest.filled -/
def c72_k0 : C :=
  .seq (.ops [2] [.p (some 34) (.move (.t 3)),
    .p (some 2) (.move (.t 34))])
  (.ret)
def c72_k1 : C :=
  .ops [3, 4, 5] [.p (some 24) (.move (.t 5)),
    .p (some 25) (.bin .sub .int [] (.t 24) (.c (.int .i64 1))),
    .p (some 5) (.move (.t 25))]
def c72_k2 : C :=
  .seq (.block 3 (.ops [3, 4, 5] [.p (some 26) (.move (.t 3)),
    .p (some 27) (.move (.t 4)),
    .p (some 28) (.move (.t 5)),
    .p (some 29) (.bin .mul .int [] (.c (.int .i64 8)) (.t 28)),
    .p (some 30) (.bin .shr .int [] (.t 27) (.t 29)),
    .p (some 31) (.conv (.int .u8) (.t 30)),
    .p (some 32) (.bslice 5 1 1 [(.int .u8 0)] [(0, (.t 31))]),
    .e (some 33) (.append 5 1 1 (.t 26) (.t 32)),
    .p (some 3) (.move (.t 33))]))
  (c72_k1)
def c72_k3 : C :=
  .cond (.t 23)
    (.skip)
    (.exit 2)
def c72_l4 : C :=
  .seq (.seq (.ops [3, 4, 5, 23] [.p (some 22) (.move (.t 5)),
    .p (some 23) (.bin .geq .int [] (.t 22) (.c (.int .i64 0)))])
  (c72_k3))
  (c72_k2)
def c72_k5 : C :=
  .block 2 (.loop [3, 4, 5] c72_l4)
def c72_k6 : C :=
  .seq (.seq (.ops [3, 4, 5] [.p (some 5) (.move (.c (.int .i64 7)))])
  (c72_k5))
  (c72_k0)
def c72_k7 : C :=
  .seq (.ops [3, 4] [.p (some 18) (.move (.t 0)),
    .p (some 19) (.len .slice (.t 18)),
    .p (some 20) (.conv (.int .u64) (.t 19)),
    .p (some 21) (.bin .mul .int [] (.t 20) (.c (.int .u64 8))),
    .p (some 4) (.move (.t 21))])
  (c72_k6)
def c72_k8 : C :=
  .block 1 (.ops [0, 3] [.p (some 15) (.move (.t 3)),
    .p (some 16) (.bslice 5 1 1 [(.int .u8 0)] [(0, (.c (.int .u8 0)))]),
    .e (some 17) (.append 5 1 1 (.t 15) (.t 16)),
    .p (some 3) (.move (.t 17))])
def c72_k9 : C :=
  .cond (.t 14)
    (.skip)
    (.exit 0)
def c72_l10 : C :=
  .seq (.seq (.ops [0, 3, 14] [.p (some 10) (.move (.t 3)),
    .p (some 11) (.len .slice (.t 10)),
    .p (some 12) (.bin .add .int [] (.t 11) (.c (.int .i64 8))),
    .p (some 13) (.bin .rem .int [] (.t 12) (.c (.int .i64 64))),
    .p (some 14) (.bin .neq .int [] (.t 13) (.c (.int .i64 0)))])
  (c72_k9))
  (c72_k8)
def c72_k11 : C :=
  .seq (.block 0 (.loop [0, 3] c72_l10))
  (c72_k7)
def c72_k12 : C :=
  .seq (.ops [0, 3] [.p (some 6) (.move (.t 0)),
    .call (some 7) 49 [(.t 6)],
    .p (some 8) (.bslice 5 1 1 [(.int .u8 0)] [(0, (.c (.int .u8 128)))]),
    .e (some 9) (.append 5 1 1 (.t 7) (.t 8)),
    .p (some 3) (.move (.t 9))])
  (c72_k11)
def c72 : FnC := ⟨1, 35, [.tmp 2],
  .seq (.ops [0] [.p (some 2) (.move (.c .nils))])
  (c72_k12),
  []⟩

/-! 71: slices.Chunk[[]byte,byte] -/
def c71_k0 : C :=
  .seq (.ops [4] [.p (some 8) (.mkfn (.func 84) [] [(.t 2), (.t 3)]),
    .p (some 4) (.move (.t 8))])
  (.ret)
def c71_k1 : C :=
  .cond (.t 6)
    (.ops [2, 3] [.p (some 7) (.mkif 9 (.c (.str [99, 97, 110, 110, 111, 116, 32, 98, 101, 32, 108, 101, 115, 115, 32, 116, 104, 97, 110, 32, 49]))),
      .p .none (.extract (.c .nilp) 0)])
    (.skip)
def c71_k2 : C :=
  .seq (.seq (.ops [2, 3, 6] [.p (some 5) (.load false 1 (.t 3)),
    .p (some 6) (.bin .lss .int [] (.t 5) (.c (.int .i64 1)))])
  (c71_k1))
  (c71_k0)
def c71 : FnC := ⟨2, 9, [.tmp 4],
  .seq (.ops [2, 3] [.e (some 2) (.box (.t 0)),
    .e (some 3) (.box (.t 1)),
    .p (some 4) (.move (.c .nilf))])
  (c71_k2),
  []⟩

/-! 84: slices.Chunk[[]byte,byte]$1 -/
def c84_k0 : C :=
  .ops [0, 1, 2, 4] [.p (some 10) (.move (.t 4)),
    .p (some 11) (.load false 1 (.t 2)),
    .p (some 12) (.bin .add .int [] (.t 10) (.t 11)),
    .p (some 4) (.move (.t 12))]
def c84_k1 : C :=
  .cond (.t 30)
    (.ret)
    (.skip)
def c84_k2 : C :=
  .seq (.ops [0, 1, 2, 4, 30] [.p (some 19) (.move (.t 0)),
    .p (some 20) (.load false 1 (.t 1)),
    .p (some 21) (.move (.t 4)),
    .p (some 22) (.move (.t 4)),
    .p (some 23) (.move (.t 5)),
    .p (some 24) (.bin .add .int [] (.t 22) (.t 23)),
    .p (some 25) (.move (.t 4)),
    .p (some 26) (.move (.t 5)),
    .p (some 27) (.bin .add .int [] (.t 25) (.t 26)),
    .p (some 28) (.slice 1 (.t 20) (some (.t 21)) (some (.t 24)) (some (.t 27))),
    .callv (some 29) (.t 19) [(.t 28)],
    .p (some 30) (.una .not (.t 29))])
  (c84_k1)
def c84_k3 : C :=
  .seq (.drw [0, 1, 2, 4, 5] 0 [⟨.none, .p (some 13) (.load false 1 (.t 2)), [], 0⟩,
    ⟨.none, .p (some 14) (.load false 1 (.t 1)), [], 0⟩,
    ⟨.none, .p (some 15) (.move (.t 4)), [], 0⟩,
    ⟨.none, .p (some 16) (.slice 1 (.t 14) (some (.t 15)) .none .none), [1, 2], 0⟩,
    ⟨.none, .p (some 17) (.len .slice (.t 16)), [3], 0⟩,
    ⟨.none, .p (some 18) (.min [(.t 13), (.t 17)]), [0, 4], 0⟩,
    ⟨.none, .p (some 5) (.move (.t 18)), [5, 0, 1, 2, 3, 4, 5], 0⟩])
  (c84_k2)
def c84_k4 : C :=
  .seq (.block 1 (c84_k3))
  (c84_k0)
def c84_k5 : C :=
  .cond (.t 9)
    (.skip)
    (.exit 0)
def c84_l6 : C :=
  .seq (.seq (.ops [0, 1, 2, 4, 9] [.p (some 6) (.move (.t 4)),
    .p (some 7) (.load false 1 (.t 1)),
    .p (some 8) (.len .slice (.t 7)),
    .p (some 9) (.bin .lss .int [] (.t 6) (.t 8))])
  (c84_k5))
  (c84_k4)
def c84_k7 : C :=
  .block 0 (.loop [0, 1, 2, 4] c84_l6)
def c84 : FnC := ⟨3, 31, [],
  .seq (.ops [0, 1, 2, 4] [.p (some 4) (.move (.c (.int .i64 0)))])
  (c84_k7),
  []⟩

/-! 73: gossamer/digest.take -/
def c73_k0 : C :=
  .seq (.ops [4] [.p (some 101) (.load true 8 (.t 2)),
    .e .none (.store 8 (.t 4) (.t 101))])
  (.ret)
def c73_k1 : C :=
  .drw [2, 4, 5, 89] 0 [⟨.none, .p (some 92) (.move (.t 12)), [], 0⟩,
    ⟨.none, .p (some 93) (.iaddrArr 8 1 (.t 2) (.t 92)), [0], 0⟩,
    ⟨.none, .p (some 94) (.load false 1 (.t 93)), [1], 0⟩,
    ⟨.none, .p (some 95) (.move (.t 12)), [], 0⟩,
    ⟨.none, .p (some 96) (.iaddrArr 8 1 (.t 5) (.t 95)), [3], 0⟩,
    ⟨.none, .p (some 97) (.load false 1 (.t 96)), [4], 0⟩,
    ⟨.none, .p (some 98) (.bin .add .int [] (.t 94) (.t 97)), [2, 5], 0⟩,
    ⟨.none, .p (some 99) (.iaddrArr 8 1 (.t 2) (.t 92)), [0, 0, 1, 2, 3, 4, 5, 6], 0⟩,
    ⟨.none, .e .none (.store 1 (.t 99) (.t 98)), [7, 6, 0, 1, 2, 3, 4, 5, 6], 0⟩]
def c73_k2 : C :=
  .seq (.ops [2, 4, 5, 12, 89] [.p (some 91) (.move (.t 89)),
    .p (some 12) (.move (.t 91))])
  (c73_k1)
def c73_k3 : C :=
  .seq (.block 3 (c73_k2))
  (.ops [2, 4, 5, 89] [.p (some 100) (.bin .add .int [] (.t 89) (.c (.int .i64 1))),
    .p (some 89) (.move (.t 100))])
def c73_k4 : C :=
  .seq (.cond (.t 90)
    (.skip)
    (.exit 2))
  (c73_k3)
def c73_l5 : C :=
  .seq (.ops [2, 4, 5, 89, 90] [.p (some 90) (.bin .lss .int [] (.t 89) (.c (.int .i64 8)))])
  (c73_k4)
def c73_k6 : C :=
  .block 2 (.loop [2, 4, 5, 89] c73_l5)
def c73_k7 : C :=
  .seq (.seq (.ops [2, 4, 5, 89] [.p (some 89) (.move (.c (.int .i64 0)))])
  (c73_k6))
  (c73_k0)
def c73_k8 : C :=
  .ops [2, 4, 5, 15, 16, 1000002] [.p (some 84) (.move (.t 10)),
    .p (some 85) (.move (.t 11)),
    .p (some 86) (.bin .add .int [] (.t 84) (.t 85)),
    .p (some 87) (.iaddrArr 8 1 (.t 5) (.c (.int .i64 0))),
    .e .none (.store 1 (.t 87) (.t 86))]
def c73_k9 : C :=
  .seq (.ops [2, 4, 5, 10, 11, 15, 16, 1000002] [.p (some 79) (.iaddrArr 8 1 (.t 5) (.c (.int .i64 4))),
    .p (some 80) (.load false 1 (.t 79)),
    .p (some 81) (.move (.t 10)),
    .p (some 82) (.bin .add .int [] (.t 80) (.t 81)),
    .p (some 83) (.iaddrArr 8 1 (.t 5) (.c (.int .i64 4))),
    .e .none (.store 1 (.t 83) (.t 82))])
  (c73_k8)
def c73_k10 : C :=
  .seq (.drw [2, 4, 5, 10, 11, 15, 16, 1000002] 0 [⟨.none, .p (some 76) (.sliceArr 8 1 (.t 5) (some (.c (.int .i64 1))) .none), [], 0⟩,
    ⟨.none, .p (some 77) (.sliceArr 8 1 (.t 5) .none (some (.c (.int .i64 7)))), [], 0⟩,
    ⟨.none, .e (some 78) (.copy 1 (.t 76) (.t 77)), [0, 1], 0⟩])
  (c73_k9)
def c73_k11 : C :=
  .seq (.drw [2, 4, 5, 10, 11, 15, 16, 1000002] 0 [⟨.none, .p (some 52) (.move (.t 8)), [], 0⟩,
    ⟨.none, .call (some 53) 86 [(.t 52), (.c (.int .i64 2))], [0], 0⟩,
    ⟨.none, .p (some 54) (.move (.t 8)), [], 0⟩,
    ⟨.none, .call (some 55) 86 [(.t 54), (.c (.int .i64 13))], [2, 1], 0⟩,
    ⟨.none, .p (some 56) (.bin .xor .int [] (.t 53) (.t 55)), [1, 3], 0⟩,
    ⟨.none, .p (some 57) (.move (.t 8)), [], 0⟩,
    ⟨.none, .call (some 58) 86 [(.t 57), (.c (.int .i64 22))], [5, 3], 0⟩,
    ⟨.none, .p (some 59) (.bin .xor .int [] (.t 56) (.t 58)), [4, 6], 0⟩,
    ⟨.none, .p (some 60) (.move (.t 8)), [], 0⟩,
    ⟨.none, .p (some 61) (.iaddrArr 8 1 (.t 5) (.c (.int .i64 1))), [], 0⟩,
    ⟨.none, .p (some 62) (.load false 1 (.t 61)), [9], 0⟩,
    ⟨.none, .p (some 63) (.bin .and .int [] (.t 60) (.t 62)), [8, 10], 0⟩,
    ⟨.none, .p (some 64) (.move (.t 8)), [], 0⟩,
    ⟨.none, .p (some 65) (.iaddrArr 8 1 (.t 5) (.c (.int .i64 2))), [], 0⟩,
    ⟨.none, .p (some 66) (.load false 1 (.t 65)), [13], 0⟩,
    ⟨.none, .p (some 67) (.bin .and .int [] (.t 64) (.t 66)), [12, 14], 0⟩,
    ⟨.none, .p (some 68) (.bin .xor .int [] (.t 63) (.t 67)), [11, 15], 0⟩,
    ⟨.none, .p (some 69) (.iaddrArr 8 1 (.t 5) (.c (.int .i64 1))), [], 0⟩,
    ⟨.none, .p (some 70) (.load false 1 (.t 69)), [17], 0⟩,
    ⟨.none, .p (some 71) (.iaddrArr 8 1 (.t 5) (.c (.int .i64 2))), [], 0⟩,
    ⟨.none, .p (some 72) (.load false 1 (.t 71)), [19], 0⟩,
    ⟨.none, .p (some 73) (.bin .and .int [] (.t 70) (.t 72)), [18, 20], 0⟩,
    ⟨.none, .p (some 74) (.bin .xor .int [] (.t 68) (.t 73)), [16, 21], 0⟩,
    ⟨.none, .p (some 75) (.bin .add .int [] (.t 59) (.t 74)), [7, 22], 0⟩,
    ⟨.none, .p (some 11) (.move (.t 75)), [23, 6, 0, 1, 2, 3, 4, 5, 6, 7, 8, 9, 10, 11, 12, 13, 14, 15, 16, 17, 18, 19, 20, 21, 22, 23], 0⟩])
  (c73_k10)
def c73_k12 : C :=
  .seq (.drw [2, 4, 5, 8, 10, 15, 16, 1000002] 0 [⟨.none, .p (some 24) (.iaddrArr 8 1 (.t 5) (.c (.int .i64 7))), [], 0⟩,
    ⟨.none, .p (some 25) (.load false 1 (.t 24)), [0], 0⟩,
    ⟨.none, .p (some 26) (.move (.t 9)), [], 0⟩,
    ⟨.none, .call (some 27) 86 [(.t 26), (.c (.int .i64 6))], [2], 0⟩,
    ⟨.none, .p (some 28) (.move (.t 9)), [], 0⟩,
    ⟨.none, .call (some 29) 86 [(.t 28), (.c (.int .i64 11))], [4, 3], 0⟩,
    ⟨.none, .p (some 30) (.bin .xor .int [] (.t 27) (.t 29)), [3, 5], 0⟩,
    ⟨.none, .p (some 31) (.move (.t 9)), [], 0⟩,
    ⟨.none, .call (some 32) 86 [(.t 31), (.c (.int .i64 25))], [7, 5], 0⟩,
    ⟨.none, .p (some 33) (.bin .xor .int [] (.t 30) (.t 32)), [6, 8], 0⟩,
    ⟨.none, .p (some 34) (.bin .add .int [] (.t 25) (.t 33)), [1, 9], 0⟩,
    ⟨.none, .p (some 35) (.move (.t 9)), [], 0⟩,
    ⟨.none, .p (some 36) (.iaddrArr 8 1 (.t 5) (.c (.int .i64 5))), [], 0⟩,
    ⟨.none, .p (some 37) (.load false 1 (.t 36)), [12], 0⟩,
    ⟨.none, .p (some 38) (.bin .and .int [] (.t 35) (.t 37)), [11, 13], 0⟩,
    ⟨.none, .p (some 39) (.move (.t 9)), [], 0⟩,
    ⟨.none, .p (some 40) (.una .xor (.t 39)), [15], 0⟩,
    ⟨.none, .p (some 41) (.iaddrArr 8 1 (.t 5) (.c (.int .i64 6))), [], 0⟩,
    ⟨.none, .p (some 42) (.load false 1 (.t 41)), [17], 0⟩,
    ⟨.none, .p (some 43) (.bin .and .int [] (.t 40) (.t 42)), [16, 18], 0⟩,
    ⟨.none, .p (some 44) (.bin .xor .int [] (.t 38) (.t 43)), [14, 19], 0⟩,
    ⟨.none, .p (some 45) (.bin .add .int [] (.t 34) (.t 44)), [10, 20], 0⟩,
    ⟨.none, .p (some 46) (.move (.t 6)), [], 0⟩,
    ⟨.none, .p (some 47) (.iaddrArr 64 1 (.t 1000002) (.t 46)), [22], 0⟩,
    ⟨.none, .p (some 48) (.load false 1 (.t 47)), [23], 0⟩,
    ⟨.none, .p (some 49) (.bin .add .int [] (.t 45) (.t 48)), [21, 24], 0⟩,
    ⟨.none, .p (some 50) (.move (.t 7)), [], 0⟩,
    ⟨.none, .p (some 51) (.bin .add .int [] (.t 49) (.t 50)), [25, 26], 0⟩,
    ⟨.none, .p (some 10) (.move (.t 51)), [27, 8, 0, 1, 2, 3, 4, 5, 6, 7, 8, 9, 10, 11, 12, 13, 14, 15, 16, 17, 18, 19, 20, 21, 22, 23, 24, 25, 26, 27], 0⟩])
  (c73_k11)
def c73_k13 : C :=
  .seq (.drw [2, 4, 5, 6, 7, 8, 9, 15, 16, 1000002] 0 [⟨.none, .p (some 20) (.iaddrArr 8 1 (.t 5) (.c (.int .i64 0))), [], 0⟩,
    ⟨.none, .p (some 21) (.load false 1 (.t 20)), [0], 0⟩,
    ⟨.none, .p (some 22) (.iaddrArr 8 1 (.t 5) (.c (.int .i64 4))), [], 0⟩,
    ⟨.none, .p (some 23) (.load false 1 (.t 22)), [2], 0⟩,
    ⟨.none, .p (some 8) (.move (.t 21)), [1, 0, 1], 0⟩,
    ⟨.none, .p (some 9) (.move (.t 23)), [3, 4, 0, 1, 2, 3, 4], 0⟩])
  (c73_k12)
def c73_k14 : C :=
  .seq (.ops [2, 4, 5, 6, 7, 15, 16, 1000002] [.p (some 18) (.move (.t 16)),
    .p (some 19) (.index false 64 1 (.t 15) (.t 16)),
    .p (some 6) (.move (.t 18)),
    .p (some 7) (.move (.t 19))])
  (c73_k13)
def c73_k15 : C :=
  .seq (.block 1 (c73_k14))
  (.ops [2, 4, 5, 15, 16, 1000002] [.p (some 88) (.bin .add .int [] (.t 16) (.c (.int .i64 1))),
    .p (some 16) (.move (.t 88))])
def c73_k16 : C :=
  .seq (.cond (.t 17)
    (.skip)
    (.exit 0))
  (c73_k15)
def c73_l17 : C :=
  .seq (.ops [2, 4, 5, 15, 16, 17, 1000002] [.p (some 17) (.bin .lss .int [] (.t 16) (.c (.int .i64 64)))])
  (c73_k16)
def c73_k18 : C :=
  .block 0 (.loop [2, 4, 5, 15, 16, 1000002] c73_l17)
def c73_k19 : C :=
  .seq (.seq (.ops [2, 4, 5, 15, 16, 1000002] [.p (some 14) (.move (.t 1)),
    .call (some 15) 85 [(.t 14)],
    .p (some 16) (.move (.c (.int .i64 0)))])
  (c73_k18))
  (c73_k7)
def c73_k20 : C :=
  .seq (.ops [1, 2, 4, 5, 1000002] [.p (some 13) (.load true 8 (.t 2)),
    .e (some 5) (.alloc [(.d (.int .u32 0)), (.d (.int .u32 0)), (.d (.int .u32 0)), (.d (.int .u32 0)), (.d (.int .u32 0)), (.d (.int .u32 0)), (.d (.int .u32 0)), (.d (.int .u32 0))]),
    .e .none (.store 8 (.t 5) (.t 13))])
  (c73_k19)
def c73 : FnC := ⟨2, 102, [.cell 4 true 8],
  .seq (.ops [1, 2, 4, 1000002] [.e (some 2) (.box (.t 0)),
    .e (some 4) (.alloc [(.d (.int .u32 0)), (.d (.int .u32 0)), (.d (.int .u32 0)), (.d (.int .u32 0)), (.d (.int .u32 0)), (.d (.int .u32 0)), (.d (.int .u32 0)), (.d (.int .u32 0))])])
  (c73_k20),
  [(2, g2)]⟩

/-! 85: gossamer/digest.schedule -/
def c85_k0 : C :=
  .seq (.ops [2] [.p (some 64) (.load true 64 (.t 3)),
    .e .none (.store 64 (.t 2) (.t 64))])
  (.ret)
def c85_k1 : C :=
  .drw [0, 2, 3, 9] 0 [⟨.none, .p (some 48) (.move (.t 4)), [], 0⟩,
    ⟨.none, .p (some 49) (.move (.t 8)), [], 0⟩,
    ⟨.none, .p (some 50) (.move (.t 4)), [], 0⟩,
    ⟨.none, .p (some 51) (.bin .sub .int [] (.t 50) (.c (.int .i64 7))), [2], 0⟩,
    ⟨.none, .p (some 52) (.iaddrArr 64 1 (.t 3) (.t 51)), [3], 0⟩,
    ⟨.none, .p (some 53) (.load false 1 (.t 52)), [4], 0⟩,
    ⟨.none, .p (some 54) (.bin .add .int [] (.t 49) (.t 53)), [1, 5], 0⟩,
    ⟨.none, .p (some 55) (.move (.t 7)), [], 0⟩,
    ⟨.none, .p (some 56) (.bin .add .int [] (.t 54) (.t 55)), [6, 7], 0⟩,
    ⟨.none, .p (some 57) (.move (.t 4)), [], 0⟩,
    ⟨.none, .p (some 58) (.bin .sub .int [] (.t 57) (.c (.int .i64 16))), [9], 0⟩,
    ⟨.none, .p (some 59) (.iaddrArr 64 1 (.t 3) (.t 58)), [10], 0⟩,
    ⟨.none, .p (some 60) (.load false 1 (.t 59)), [11], 0⟩,
    ⟨.none, .p (some 61) (.bin .add .int [] (.t 56) (.t 60)), [8, 12], 0⟩,
    ⟨.none, .p (some 62) (.iaddrArr 64 1 (.t 3) (.t 48)), [0, 0, 1, 2, 3, 4, 5, 6, 7, 8, 9, 10, 11, 12, 13], 0⟩,
    ⟨.none, .e .none (.store 1 (.t 62) (.t 61)), [14, 13, 0, 1, 2, 3, 4, 5, 6, 7, 8, 9, 10, 11, 12, 13], 0⟩]
def c85_k2 : C :=
  .seq (.ops [0, 2, 3, 4, 7, 8, 9] [.p (some 40) (.move (.t 6)),
    .call (some 41) 86 [(.t 40), (.c (.int .i64 17))],
    .p (some 42) (.move (.t 6)),
    .call (some 43) 86 [(.t 42), (.c (.int .i64 19))],
    .p (some 44) (.bin .xor .int [] (.t 41) (.t 43)),
    .p (some 45) (.move (.t 6)),
    .p (some 46) (.bin .shr .int [] (.t 45) (.c (.int .u64 10))),
    .p (some 47) (.bin .xor .int [] (.t 44) (.t 46)),
    .p (some 8) (.move (.t 47))])
  (c85_k1)
def c85_k3 : C :=
  .seq (.ops [0, 2, 3, 4, 6, 7, 9] [.p (some 32) (.move (.t 5)),
    .call (some 33) 86 [(.t 32), (.c (.int .i64 7))],
    .p (some 34) (.move (.t 5)),
    .call (some 35) 86 [(.t 34), (.c (.int .i64 18))],
    .p (some 36) (.bin .xor .int [] (.t 33) (.t 35)),
    .p (some 37) (.move (.t 5)),
    .p (some 38) (.bin .shr .int [] (.t 37) (.c (.int .u64 3))),
    .p (some 39) (.bin .xor .int [] (.t 36) (.t 38)),
    .p (some 7) (.move (.t 39))])
  (c85_k2)
def c85_k4 : C :=
  .seq (.drw [0, 2, 3, 4, 5, 6, 9] 0 [⟨.none, .p (some 24) (.move (.t 4)), [], 0⟩,
    ⟨.none, .p (some 25) (.bin .sub .int [] (.t 24) (.c (.int .i64 15))), [0], 0⟩,
    ⟨.none, .p (some 26) (.iaddrArr 64 1 (.t 3) (.t 25)), [1], 0⟩,
    ⟨.none, .p (some 27) (.load false 1 (.t 26)), [2], 0⟩,
    ⟨.none, .p (some 28) (.move (.t 4)), [], 0⟩,
    ⟨.none, .p (some 29) (.bin .sub .int [] (.t 28) (.c (.int .i64 2))), [4], 0⟩,
    ⟨.none, .p (some 30) (.iaddrArr 64 1 (.t 3) (.t 29)), [5], 0⟩,
    ⟨.none, .p (some 31) (.load false 1 (.t 30)), [6], 0⟩,
    ⟨.none, .p (some 5) (.move (.t 27)), [3, 0, 1, 2, 3], 0⟩,
    ⟨.none, .p (some 6) (.move (.t 31)), [7, 8, 0, 1, 2, 3, 4, 5, 6, 7, 8], 0⟩])
  (c85_k3)
def c85_k5 : C :=
  .seq (.ops [0, 2, 3, 9] [.p (some 14) (.move (.t 4)),
      .p (some 15) (.move (.t 0)),
      .p (some 16) (.move (.t 4)),
      .p (some 17) (.bin .mul .int [] (.c (.int .i64 4)) (.t 16)),
      .p (some 18) (.move (.t 4)),
      .p (some 19) (.bin .mul .int [] (.c (.int .i64 4)) (.t 18)),
      .p (some 20) (.bin .add .int [] (.t 19) (.c (.int .i64 4))),
      .p (some 21) (.slice 1 (.t 15) (some (.t 17)) (some (.t 20)) .none),
      .call (some 22) 90 [(.t 21)],
      .p (some 23) (.iaddrArr 64 1 (.t 3) (.t 14)),
      .e .none (.store 1 (.t 23) (.t 22))])
    (.exit 1)
def c85_k6 : C :=
  .cond (.t 13)
    (c85_k5)
    (.skip)
def c85_k7 : C :=
  .seq (.seq (.ops [0, 2, 3, 4, 9, 13] [.p (some 12) (.move (.t 4)),
    .p (some 13) (.bin .lss .int [] (.t 12) (.c (.int .i64 16)))])
  (c85_k6))
  (c85_k4)
def c85_k8 : C :=
  .seq (.ops [0, 2, 3, 4, 9] [.p (some 11) (.move (.t 9)),
    .p (some 4) (.move (.t 11))])
  (c85_k7)
def c85_k9 : C :=
  .seq (.block 1 (c85_k8))
  (.ops [0, 2, 3, 9] [.p (some 63) (.bin .add .int [] (.t 9) (.c (.int .i64 1))),
    .p (some 9) (.move (.t 63))])
def c85_k10 : C :=
  .seq (.cond (.t 10)
    (.skip)
    (.exit 0))
  (c85_k9)
def c85_l11 : C :=
  .seq (.ops [0, 2, 3, 9, 10] [.p (some 10) (.bin .lss .int [] (.t 9) (.c (.int .i64 64)))])
  (c85_k10)
def c85_k12 : C :=
  .block 0 (.loop [0, 2, 3, 9] c85_l11)
def c85_k13 : C :=
  .seq (.seq (.ops [0, 2, 3, 9] [.p (some 9) (.move (.c (.int .i64 0)))])
  (c85_k12))
  (c85_k0)
def c85_k14 : C :=
  .seq (.ops [0, 2, 3] [.e (some 3) (.alloc (List.replicate 64 (.d (.int .u32 0))))])
  (c85_k13)
def c85 : FnC := ⟨1, 65, [.cell 2 true 64],
  .seq (.ops [0, 2] [.e (some 2) (.alloc (List.replicate 64 (.d (.int .u32 0))))])
  (c85_k14),
  []⟩

/-! 90: gossamer/digest.word -/
def c90_k0 : C :=
  .seq (.ops [2] [.p (some 18) (.move (.t 3)),
    .p (some 2) (.move (.t 18))])
  (.ret)
def c90_k1 : C :=
  .ops [3, 6, 7, 8] [.p (some 12) (.move (.t 3)),
    .p (some 13) (.bin .shl .int [] (.t 12) (.c (.int .u64 8))),
    .p (some 14) (.move (.t 5)),
    .p (some 15) (.conv (.int .u32) (.t 14)),
    .p (some 16) (.bin .or .int [] (.t 13) (.t 15)),
    .p (some 3) (.move (.t 16))]
def c90_k2 : C :=
  .seq (.block 1 (.seq (.ops [3, 5, 6, 7, 8] [.p (some 10) (.iaddr 1 (.t 6) (.t 8)),
    .p (some 11) (.load false 1 (.t 10)),
    .p (some 5) (.move (.t 11))])
  (c90_k1)))
  (.ops [3, 6, 7, 8] [.p (some 17) (.bin .add .int [] (.t 8) (.c (.int .i64 1))),
    .p (some 8) (.move (.t 17))])
def c90_k3 : C :=
  .seq (.cond (.t 9)
    (.skip)
    (.exit 0))
  (c90_k2)
def c90_l4 : C :=
  .seq (.ops [3, 6, 7, 8, 9] [.p (some 9) (.bin .lss .int [] (.t 8) (.t 7))])
  (c90_k3)
def c90_k5 : C :=
  .block 0 (.loop [3, 6, 7, 8] c90_l4)
def c90_k6 : C :=
  .seq (.seq (.ops [3, 6, 7, 8] [.p (some 6) (.move (.t 0)),
    .p (some 7) (.len .slice (.t 6)),
    .p (some 8) (.move (.c (.int .i64 0)))])
  (c90_k5))
  (c90_k0)
def c90_k7 : C :=
  .seq (.ops [0, 3] [.p (some 3) (.move (.c (.int .u32 0)))])
  (c90_k6)
def c90 : FnC := ⟨1, 19, [.tmp 2],
  .seq (.ops [0] [.p (some 2) (.move (.c (.int .u32 0)))])
  (c90_k7),
  []⟩

/-! 86: gossamer/digest.right -/
def c86_k0 : C :=
  .seq (.ops [4] [.p (some 5) (.move (.t 0)),
    .p (some 6) (.move (.t 1)),
    .p (some 7) (.una .neg (.t 6)),
    .call (some 8) 91 [(.t 5), (.t 7)],
    .p (some 4) (.move (.t 8))])
  (.ret)
def c86 : FnC := ⟨2, 9, [.tmp 4],
  .seq (.ops [0, 1] [.p (some 4) (.move (.c (.int .u32 0)))])
  (c86_k0),
  []⟩

/-! 91: math/bits.RotateLeft32 -/
def c91_k0 : C :=
  .seq (.ops [4] [.p (some 9) (.move (.t 0)),
    .p (some 10) (.move (.t 5)),
    .p (some 11) (.bin .shl .int [] (.t 9) (.t 10)),
    .p (some 12) (.move (.t 0)),
    .p (some 13) (.move (.t 5)),
    .p (some 14) (.bin .sub .int [] (.c (.int .u64 32)) (.t 13)),
    .p (some 15) (.bin .shr .int [] (.t 12) (.t 14)),
    .p (some 16) (.bin .or .int [] (.t 11) (.t 15)),
    .p (some 4) (.move (.t 16))])
  (.ret)
def c91_k1 : C :=
  .seq (.ops [0, 5] [.p (some 6) (.move (.t 1)),
    .p (some 7) (.conv (.int .u64) (.t 6)),
    .p (some 8) (.bin .and .int [] (.t 7) (.c (.int .u64 31))),
    .p (some 5) (.move (.t 8))])
  (c91_k0)
def c91 : FnC := ⟨2, 17, [.tmp 4],
  .seq (.ops [0, 1] [.p (some 4) (.move (.c (.int .u32 0)))])
  (c91_k1),
  []⟩

/-! 9: gossamer/gossamerref31.Bodies -/
def c9_k0 : C :=
  .seq (.ops [2] [.p (some 26) (.move (.t 3)),
    .p (some 2) (.move (.t 26))])
  (.ret)
def c9_k1 : C :=
  .ops [0, 3, 4] [.p (some 9) (.move (.t 4)),
    .p (some 10) (.bin .add .int [] (.t 9) (.c (.int .i64 1))),
    .p (some 4) (.move (.t 10))]
def c9_k2 : C :=
  .cond (.t 16)
    (.ops [0, 3, 4] [.p (some 17) (.move (.t 3)),
      .p (some 18) (.move (.t 0)),
      .p (some 19) (.move (.t 4)),
      .p (some 20) (.iaddr 11 (.t 18) (.t 19)),
      .p (some 21) (.faddr 8 (.t 20)),
      .p (some 22) (.load true 3 (.t 21)),
      .call (some 23) 21 [(.t 22)],
      .p (some 24) (.bslice 61 1 32 (List.replicate 32 (.int .u8 0)) [(0, (.t 23))]),
      .e (some 25) (.append 61 32 32 (.t 17) (.t 24)),
      .p (some 3) (.move (.t 25))])
    (.skip)
def c9_k3 : C :=
  .seq (.ops [0, 3, 4, 16] [.p (some 11) (.move (.t 0)),
    .p (some 12) (.move (.t 4)),
    .p (some 13) (.iaddr 11 (.t 11) (.t 12)),
    .p (some 14) (.faddr 0 (.t 13)),
    .p (some 15) (.load false 1 (.t 14)),
    .p (some 16) (.bin .eql .int [] (.t 15) (.c (.int .i64 8)))])
  (c9_k2)
def c9_k4 : C :=
  .seq (.block 1 (c9_k3))
  (c9_k1)
def c9_k5 : C :=
  .cond (.t 8)
    (.skip)
    (.exit 0)
def c9_l6 : C :=
  .seq (.seq (.ops [0, 3, 4, 8] [.p (some 5) (.move (.t 4)),
    .p (some 6) (.move (.t 0)),
    .p (some 7) (.len .slice (.t 6)),
    .p (some 8) (.bin .lss .int [] (.t 5) (.t 7))])
  (c9_k5))
  (c9_k4)
def c9_k7 : C :=
  .block 0 (.loop [0, 3, 4] c9_l6)
def c9_k8 : C :=
  .seq (.seq (.ops [0, 3, 4] [.p (some 4) (.move (.c (.int .i64 0)))])
  (c9_k7))
  (c9_k0)
def c9_k9 : C :=
  .seq (.ops [0, 3] [.p (some 3) (.move (.c .nils))])
  (c9_k8)
def c9 : FnC := ⟨1, 27, [.tmp 2],
  .seq (.ops [0] [.p (some 2) (.move (.c .nils))])
  (c9_k9),
  []⟩

/-! 21: gossamer/gossamerref10.Wide -/
def c21_k0 : C :=
  .seq (.ops [2] [.p (some 3) (.load true 3 (.t 1)),
    .call (some 4) 35 [(.t 3)],
    .call (some 5) 27 [(.t 4)],
    .e .none (.store 32 (.t 2) (.t 5))])
  (.ret)
def c21 : FnC := ⟨1, 6, [.cell 2 true 32],
  .seq (.ops [1, 2] [.e (some 1) (.box (.t 0)),
    .e (some 2) (.alloc (List.replicate 32 (.d (.int .u8 0))))])
  (c21_k0),
  []⟩

/-! 35: gossamer/gossamerref10.Bytes -/
def c35_k0 : C :=
  .seq (.ops [2] [.p (some 3) (.load true 3 (.t 1)),
    .call (some 4) 55 [(.t 3), (.c (.bool true))],
    .p (some 2) (.move (.t 4))])
  (.ret)
def c35 : FnC := ⟨1, 5, [.tmp 2],
  .seq (.ops [1] [.e (some 1) (.box (.t 0)),
    .p (some 2) (.move (.c .nils))])
  (c35_k0),
  []⟩

/-! 55: gossamer/gossamerref10.put -/
def c55_k0 : C :=
  .seq (.ops [4] [.p (some 86) (.move (.t 5)),
    .p (some 87) (.bslice 5 1 1 [(.int .u8 0)] [(0, (.c (.int .u8 0)))]),
    .e (some 88) (.append 5 1 1 (.t 86) (.t 87)),
    .p (some 4) (.move (.t 88))])
  (.ret)
def c55_k1 : C :=
  .cond (.t 82)
    (.seq (.ops [4] [.p (some 83) (.move (.t 5)),
      .p (some 84) (.bslice 5 1 1 [(.int .u8 0)] [(0, (.c (.int .u8 1)))]),
      .e (some 85) (.append 5 1 1 (.t 83) (.t 84)),
      .p (some 4) (.move (.t 85))])
    (.ret))
    (.skip)
def c55_k2 : C :=
  .seq (.seq (.ops [5, 82] [.p (some 81) (.faddr 2 (.t 2)),
    .p (some 82) (.load false 1 (.t 81))])
  (c55_k1))
  (c55_k0)
def c55_k3 : C :=
  .ops [2, 5, 8] [.p (some 60) (.move (.t 8)),
    .p (some 61) (.bin .add .int [] (.t 60) (.c (.int .i64 1))),
    .p (some 8) (.move (.t 61))]
def c55_k4 : C :=
  .ops [2, 5, 8] [.p (some 72) (.move (.t 5)),
    .p (some 73) (.faddr 1 (.t 2)),
    .p (some 74) (.load false 1 (.t 73)),
    .p (some 75) (.move (.t 8)),
    .p (some 76) (.iaddr 2 (.t 74) (.t 75)),
    .p (some 77) (.faddr 1 (.t 76)),
    .p (some 78) (.load false 1 (.t 77)),
    .call (some 79) 25 [(.t 78), (.c (.int .i64 8))],
    .e (some 80) (.append 5 1 1 (.t 72) (.t 79)),
    .p (some 5) (.move (.t 80))]
def c55_k5 : C :=
  .seq (.ops [2, 5, 8] [.p (some 62) (.move (.t 5)),
    .p (some 63) (.faddr 1 (.t 2)),
    .p (some 64) (.load false 1 (.t 63)),
    .p (some 65) (.move (.t 8)),
    .p (some 66) (.iaddr 2 (.t 64) (.t 65)),
    .p (some 67) (.faddr 0 (.t 66)),
    .p (some 68) (.load false 1 (.t 67)),
    .p (some 69) (.conv (.int .u64) (.t 68)),
    .call (some 70) 25 [(.t 69), (.c (.int .i64 8))],
    .e (some 71) (.append 5 1 1 (.t 62) (.t 70)),
    .p (some 5) (.move (.t 71))])
  (c55_k4)
def c55_k6 : C :=
  .seq (.block 3 (c55_k5))
  (c55_k3)
def c55_k7 : C :=
  .cond (.t 59)
    (.skip)
    (.exit 2)
def c55_l8 : C :=
  .seq (.seq (.ops [2, 5, 8, 59] [.p (some 55) (.move (.t 8)),
    .p (some 56) (.faddr 1 (.t 2)),
    .p (some 57) (.load false 1 (.t 56)),
    .p (some 58) (.len .slice (.t 57)),
    .p (some 59) (.bin .lss .int [] (.t 55) (.t 58))])
  (c55_k7))
  (c55_k6)
def c55_k9 : C :=
  .block 2 (.loop [2, 5, 8] c55_l8)
def c55_k10 : C :=
  .seq (.seq (.ops [2, 5, 8] [.p (some 8) (.move (.c (.int .i64 0)))])
  (c55_k9))
  (c55_k2)
def c55_k11 : C :=
  .seq (.ops [2, 5] [.p (some 49) (.move (.t 5)),
    .p (some 50) (.faddr 1 (.t 2)),
    .p (some 51) (.load false 1 (.t 50)),
    .p (some 52) (.len .slice (.t 51)),
    .call (some 53) 39 [(.t 52)],
    .e (some 54) (.append 5 1 1 (.t 49) (.t 53)),
    .p (some 5) (.move (.t 54))])
  (c55_k10)
def c55_k12 : C :=
  .ops [1, 2, 5, 6] [.p (some 18) (.move (.t 6)),
    .p (some 19) (.bin .add .int [] (.t 18) (.c (.int .i64 1))),
    .p (some 6) (.move (.t 19))]
def c55_k13 : C :=
  .ops [1, 2, 5, 6] [.p (some 44) (.move (.t 5)),
    .p (some 45) (.faddr 34 (.t 7)),
    .p (some 46) (.load false 1 (.t 45)),
    .call (some 47) 25 [(.t 46), (.c (.int .i64 8))],
    .e (some 48) (.append 5 1 1 (.t 44) (.t 47)),
    .p (some 5) (.move (.t 48))]
def c55_k14 : C :=
  .seq (.ops [1, 2, 5, 6, 7] [.p (some 39) (.move (.t 5)),
      .p (some 40) (.faddr 33 (.t 7)),
      .p (some 41) (.load false 1 (.t 40)),
      .call (some 42) 38 [(.t 41)],
      .e (some 43) (.append 5 1 1 (.t 39) (.t 42)),
      .p (some 5) (.move (.t 43))])
    (c55_k13)
def c55_k15 : C :=
  .cond (.t 38)
    (c55_k14)
    (.skip)
def c55_k16 : C :=
  .seq (.ops [1, 2, 5, 6, 7, 38] [.p (some 38) (.move (.t 1))])
  (c55_k15)
def c55_k17 : C :=
  .seq (.ops [1, 2, 5, 6, 7] [.p (some 31) (.move (.t 5)),
    .p (some 32) (.faddr 0 (.t 7)),
    .p (some 33) (.faddr 32 (.t 32)),
    .p (some 34) (.load false 1 (.t 33)),
    .p (some 35) (.conv (.int .u64) (.t 34)),
    .call (some 36) 25 [(.t 35), (.c (.int .i64 4))],
    .e (some 37) (.append 5 1 1 (.t 31) (.t 36)),
    .p (some 5) (.move (.t 37))])
  (c55_k16)
def c55_k18 : C :=
  .seq (.ops [1, 2, 5, 6, 7] [.p (some 25) (.move (.t 5)),
    .p (some 26) (.faddr 0 (.t 7)),
    .p (some 27) (.faddr 0 (.t 26)),
    .p (some 28) (.load true 32 (.t 27)),
    .call (some 29) 26 [(.t 28)],
    .e (some 30) (.append 5 1 1 (.t 25) (.t 29)),
    .p (some 5) (.move (.t 30))])
  (c55_k17)
def c55_k19 : C :=
  .seq (.ops [1, 2, 5, 6, 7] [.p (some 20) (.faddr 0 (.t 2)),
    .p (some 21) (.load false 1 (.t 20)),
    .p (some 22) (.move (.t 6)),
    .p (some 23) (.iaddr 35 (.t 21) (.t 22)),
    .p (some 24) (.load true 35 (.t 23)),
    .e (some 7) (.alloc [(.d (.int .u8 0)), (.d (.int .u8 0)), (.d (.int .u8 0)), (.d (.int .u8 0)), (.d (.int .u8 0)), (.d (.int .u8 0)), (.d (.int .u8 0)), (.d (.int .u8 0)), (.d (.int .u8 0)), (.d (.int .u8 0)), (.d (.int .u8 0)), (.d (.int .u8 0)), (.d (.int .u8 0)), (.d (.int .u8 0)), (.d (.int .u8 0)), (.d (.int .u8 0)), (.d (.int .u8 0)), (.d (.int .u8 0)), (.d (.int .u8 0)), (.d (.int .u8 0)), (.d (.int .u8 0)), (.d (.int .u8 0)), (.d (.int .u8 0)), (.d (.int .u8 0)), (.d (.int .u8 0)), (.d (.int .u8 0)), (.d (.int .u8 0)), (.d (.int .u8 0)), (.d (.int .u8 0)), (.d (.int .u8 0)), (.d (.int .u8 0)), (.d (.int .u8 0)), (.d (.int .i64 0)), (.d (.str [])), (.d (.int .u64 0))]),
    .e .none (.store 35 (.t 7) (.t 24))])
  (c55_k18)
def c55_k20 : C :=
  .seq (.block 1 (c55_k19))
  (c55_k12)
def c55_k21 : C :=
  .cond (.t 17)
    (.skip)
    (.exit 0)
def c55_l22 : C :=
  .seq (.seq (.ops [1, 2, 5, 6, 17] [.p (some 13) (.move (.t 6)),
    .p (some 14) (.faddr 0 (.t 2)),
    .p (some 15) (.load false 1 (.t 14)),
    .p (some 16) (.len .slice (.t 15)),
    .p (some 17) (.bin .lss .int [] (.t 13) (.t 16))])
  (c55_k21))
  (c55_k20)
def c55_k23 : C :=
  .block 0 (.loop [1, 2, 5, 6] c55_l22)
def c55_k24 : C :=
  .seq (.seq (.ops [1, 2, 5, 6] [.p (some 6) (.move (.c (.int .i64 0)))])
  (c55_k23))
  (c55_k11)
def c55_k25 : C :=
  .seq (.ops [1, 2, 5] [.p (some 9) (.faddr 0 (.t 2)),
    .p (some 10) (.load false 1 (.t 9)),
    .p (some 11) (.len .slice (.t 10)),
    .call (some 12) 39 [(.t 11)],
    .p (some 5) (.move (.t 12))])
  (c55_k24)
def c55 : FnC := ⟨2, 89, [.tmp 4],
  .seq (.ops [1, 2] [.e (some 2) (.box (.t 0)),
    .p (some 4) (.move (.c .nils))])
  (c55_k25),
  []⟩

/-! 39: gossamer/gossamerref08.Count -/
def c39_k0 : C :=
  .seq (.ops [2] [.p (some 28) (.bslice 5 1 1 [(.int .u8 0)] [(0, (.c (.int .u8 255)))]),
    .p (some 29) (.move (.t 0)),
    .p (some 30) (.conv (.int .u64) (.t 29)),
    .call (some 31) 25 [(.t 30), (.c (.int .i64 8))],
    .e (some 32) (.append 5 1 1 (.t 28) (.t 31)),
    .p (some 2) (.move (.t 32))])
  (.ret)
def c39_k1 : C :=
  .cond (.t 20)
    (.seq (.ops [2] [.p (some 23) (.bslice 5 1 1 [(.int .u8 0)] [(0, (.c (.int .u8 254)))]),
      .p (some 24) (.move (.t 0)),
      .p (some 25) (.conv (.int .u64) (.t 24)),
      .call (some 26) 25 [(.t 25), (.c (.int .i64 4))],
      .e (some 27) (.append 5 1 1 (.t 23) (.t 26)),
      .p (some 2) (.move (.t 27))])
    (.ret))
    (.skip)
def c39_k2 : C :=
  .seq (.ops [0, 20] [.p (some 21) (.move (.t 0)),
      .p (some 22) (.bin .leq .int [] (.t 21) (.c (.int .i64 4294967295))),
      .p (some 20) (.move (.t 22))])
    (c39_k1)
def c39_k3 : C :=
  .cond (.t 12)
    (.seq (.ops [2] [.p (some 15) (.bslice 5 1 1 [(.int .u8 0)] [(0, (.c (.int .u8 253)))]),
      .p (some 16) (.move (.t 0)),
      .p (some 17) (.conv (.int .u64) (.t 16)),
      .call (some 18) 25 [(.t 17), (.c (.int .i64 2))],
      .e (some 19) (.append 5 1 1 (.t 15) (.t 18)),
      .p (some 2) (.move (.t 19))])
    (.ret))
    (c39_k2)
def c39_k4 : C :=
  .seq (.ops [0, 12] [.p (some 13) (.move (.t 0)),
      .p (some 14) (.bin .leq .int [] (.t 13) (.c (.int .i64 65535))),
      .p (some 12) (.move (.t 14))])
    (c39_k3)
def c39_k5 : C :=
  .cond (.t 6)
    (.seq (.ops [2] [.p (some 9) (.move (.t 0)),
      .p (some 10) (.conv (.int .u64) (.t 9)),
      .call (some 11) 25 [(.t 10), (.c (.int .i64 1))],
      .p (some 2) (.move (.t 11))])
    (.ret))
    (c39_k4)
def c39_k6 : C :=
  .seq (.ops [0, 6] [.p (some 7) (.move (.t 0)),
      .p (some 8) (.bin .leq .int [] (.t 7) (.c (.int .i64 252))),
      .p (some 6) (.move (.t 8))])
    (c39_k5)
def c39_k7 : C :=
  .cond (.t 3)
    (.seq (.ops [2] [.p (some 2) (.move (.c .nils))])
    (.ret))
    (c39_k6)
def c39_k8 : C :=
  .seq (.ops [0, 3] [.p (some 4) (.move (.t 0)),
    .p (some 5) (.bin .lss .int [] (.t 4) (.c (.int .i64 0))),
    .p (some 3) (.move (.t 5))])
  (c39_k7)
def c39_k9 : C :=
  .seq (.block 0 (c39_k8))
  (c39_k0)
def c39 : FnC := ⟨1, 33, [.tmp 2],
  .seq (.ops [0] [.p (some 2) (.move (.c .nils))])
  (c39_k9),
  []⟩

/-! 25: gossamer/gossamerref08.Num -/
def c25_k0 : C :=
  .seq (.ops [4] [.p (some 35) (.move (.t 5)),
    .p (some 4) (.move (.t 35))])
  (.ret)
def c25_k1 : C :=
  .ops [0, 1, 5, 6] [.p (some 25) (.move (.t 6)),
    .p (some 26) (.bin .add .int [] (.t 25) (.c (.int .i64 1))),
    .p (some 6) (.move (.t 26))]
def c25_k2 : C :=
  .ops [0, 1, 5, 6] [.p (some 33) (.move (.t 0)),
    .p (some 34) (.bin .quo .int [] (.t 33) (.c (.int .u64 256))),
    .p (some 0) (.move (.t 34))]
def c25_k3 : C :=
  .seq (.block 1 (.seq (.ops [0, 1, 5, 6] [.p (some 27) (.move (.t 5)),
    .p (some 28) (.move (.t 0)),
    .p (some 29) (.bin .rem .int [] (.t 28) (.c (.int .u64 256))),
    .p (some 30) (.conv (.int .u8) (.t 29)),
    .p (some 31) (.bslice 5 1 1 [(.int .u8 0)] [(0, (.t 30))]),
    .e (some 32) (.append 5 1 1 (.t 27) (.t 31)),
    .p (some 5) (.move (.t 32))])
  (c25_k2)))
  (c25_k1)
def c25_k4 : C :=
  .cond (.t 24)
    (.skip)
    (.exit 0)
def c25_l5 : C :=
  .seq (.seq (.ops [0, 1, 5, 6, 24] [.p (some 22) (.move (.t 6)),
    .p (some 23) (.move (.t 1)),
    .p (some 24) (.bin .lss .int [] (.t 22) (.t 23))])
  (c25_k4))
  (c25_k3)
def c25_k6 : C :=
  .block 0 (.loop [0, 1, 5, 6] c25_l5)
def c25_k7 : C :=
  .seq (.seq (.ops [0, 1, 5, 6] [.p (some 6) (.move (.c (.int .i64 0)))])
  (c25_k6))
  (c25_k0)
def c25_k8 : C :=
  .cond (.t 20)
    (.seq (.ops [4] [.p (some 21) (.move (.t 5)),
      .p (some 4) (.move (.t 21))])
    (.ret))
    (.skip)
def c25_k9 : C :=
  .seq (.seq (.ops [0, 1, 5, 20] [.p (some 7) (.move (.t 1)),
    .p (some 8) (.bin .neq .int [] (.t 7) (.c (.int .i64 1))),
    .p (some 9) (.move (.t 8)),
    .when 9 true [.p (some 10) (.move (.t 1)),
      .p (some 11) (.bin .neq .int [] (.t 10) (.c (.int .i64 2)))],
    .p (some 12) (.pick (.t 9) (.t 11) (.c (.bool false))),
    .p (some 13) (.move (.t 12)),
    .when 13 true [.p (some 14) (.move (.t 1)),
      .p (some 15) (.bin .neq .int [] (.t 14) (.c (.int .i64 4)))],
    .p (some 16) (.pick (.t 13) (.t 15) (.c (.bool false))),
    .p (some 17) (.move (.t 16)),
    .when 17 true [.p (some 18) (.move (.t 1)),
      .p (some 19) (.bin .neq .int [] (.t 18) (.c (.int .i64 8)))],
    .p (some 20) (.pick (.t 17) (.t 19) (.c (.bool false)))])
  (c25_k8))
  (c25_k7)
def c25_k10 : C :=
  .seq (.ops [0, 1, 5, 11, 15, 19] [.p (some 5) (.move (.c .nils))])
  (c25_k9)
def c25 : FnC := ⟨2, 36, [.tmp 4],
  .seq (.ops [0, 1, 11, 15, 19] [.p (some 4) (.move (.c .nils))])
  (c25_k10),
  []⟩

/-! 26: gossamer/gossamerref08.Hash -/
def c26_k0 : C :=
  .seq (.ops [2] [.p (some 15) (.move (.t 3)),
    .p (some 2) (.move (.t 15))])
  (.ret)
def c26_k1 : C :=
  .ops [1, 3, 4] [.p (some 7) (.move (.t 4)),
    .p (some 8) (.bin .add .int [] (.t 7) (.c (.int .i64 1))),
    .p (some 4) (.move (.t 8))]
def c26_k2 : C :=
  .seq (.block 1 (.ops [1, 3, 4] [.p (some 9) (.move (.t 3)),
    .p (some 10) (.move (.t 4)),
    .p (some 11) (.iaddrArr 32 1 (.t 1) (.t 10)),
    .p (some 12) (.load false 1 (.t 11)),
    .p (some 13) (.bslice 5 1 1 [(.int .u8 0)] [(0, (.t 12))]),
    .e (some 14) (.append 5 1 1 (.t 9) (.t 13)),
    .p (some 3) (.move (.t 14))]))
  (c26_k1)
def c26_k3 : C :=
  .cond (.t 6)
    (.skip)
    (.exit 0)
def c26_l4 : C :=
  .seq (.seq (.ops [1, 3, 4, 6] [.p (some 5) (.move (.t 4)),
    .p (some 6) (.bin .lss .int [] (.t 5) (.c (.int .i64 32)))])
  (c26_k3))
  (c26_k2)
def c26_k5 : C :=
  .block 0 (.loop [1, 3, 4] c26_l4)
def c26_k6 : C :=
  .seq (.seq (.ops [1, 3, 4] [.p (some 4) (.move (.c (.int .i64 0)))])
  (c26_k5))
  (c26_k0)
def c26_k7 : C :=
  .seq (.ops [1, 3] [.p (some 3) (.move (.c .nils))])
  (c26_k6)
def c26 : FnC := ⟨1, 16, [.tmp 2],
  .seq (.ops [1] [.e (some 1) (.box (.t 0)),
    .p (some 2) (.move (.c .nils))])
  (c26_k7),
  []⟩

/-! 38: gossamer/gossamerref08.Text -/
def c38_k0 : C :=
  .seq (.ops [2] [.p (some 3) (.move (.t 0)),
    .p (some 4) (.len .str (.t 3)),
    .call (some 5) 39 [(.t 4)],
    .p (some 6) (.move (.t 0)),
    .e (some 7) (.appendStr 5 (.t 5) (.t 6)),
    .p (some 2) (.move (.t 7))])
  (.ret)
def c38 : FnC := ⟨1, 8, [.tmp 2],
  .seq (.ops [0] [.p (some 2) (.move (.c .nils))])
  (c38_k0),
  []⟩

/-! 27: gossamer/gossamerref07.Double -/
def c27_k0 : C :=
  .seq (.ops [2] [.p (some 3) (.move (.t 0)),
    .call (some 4) 40 [(.t 3)],
    .call (some 5) 41 [(.t 4)],
    .call (some 6) 40 [(.t 5)],
    .e .none (.store 32 (.t 2) (.t 6))])
  (.ret)
def c27 : FnC := ⟨1, 7, [.cell 2 true 32],
  .seq (.ops [0, 2] [.e (some 2) (.alloc (List.replicate 32 (.d (.int .u8 0))))])
  (c27_k0),
  []⟩

/-! 40: gossamer/gossamerref07.Sum -/
def c40_k0 : C :=
  .seq (.ops [2] [.p (some 274) (.load true 32 (.t 15)),
    .e .none (.store 32 (.t 2) (.t 274))])
  (.ret)
def c40_k1 : C :=
  .ops [2, 3, 15, 16] [.p (some 259) (.move (.t 16)),
    .p (some 260) (.bin .add .int [] (.t 259) (.c (.int .i64 1))),
    .p (some 16) (.move (.t 260))]
def c40_k2 : C :=
  .ops [2, 3, 15, 16] [.p (some 261) (.move (.t 16)),
    .p (some 262) (.move (.t 16)),
    .p (some 263) (.bin .quo .int [] (.t 262) (.c (.int .i64 4))),
    .p (some 264) (.iaddrArr 8 1 (.t 3) (.t 263)),
    .p (some 265) (.load false 1 (.t 264)),
    .p (some 266) (.move (.t 16)),
    .p (some 267) (.bin .rem .int [] (.t 266) (.c (.int .i64 4))),
    .p (some 268) (.bin .mul .int [] (.c (.int .i64 8)) (.t 267)),
    .p (some 269) (.bin .sub .int [] (.c (.int .i64 24)) (.t 268)),
    .p (some 270) (.conv (.int .u64) (.t 269)),
    .p (some 271) (.bin .shr .int [] (.t 265) (.t 270)),
    .p (some 272) (.conv (.int .u8) (.t 271)),
    .p (some 273) (.iaddrArr 32 1 (.t 15) (.t 261)),
    .e .none (.store 1 (.t 273) (.t 272))]
def c40_k3 : C :=
  .seq (.block 13 (c40_k2))
  (c40_k1)
def c40_k4 : C :=
  .cond (.t 258)
    (.skip)
    (.exit 12)
def c40_l5 : C :=
  .seq (.seq (.ops [2, 3, 15, 16, 258] [.p (some 257) (.move (.t 16)),
    .p (some 258) (.bin .lss .int [] (.t 257) (.c (.int .i64 32)))])
  (c40_k4))
  (c40_k3)
def c40_k6 : C :=
  .block 12 (.loop [2, 3, 15, 16] c40_l5)
def c40_k7 : C :=
  .seq (.seq (.ops [2, 3, 15, 16] [.p (some 16) (.move (.c (.int .i64 0)))])
  (c40_k6))
  (c40_k0)
def c40_k8 : C :=
  .seq (.ops [2, 3, 15] [.e (some 15) (.alloc (List.replicate 32 (.d (.int .u8 0))))])
  (c40_k7)
def c40_k9 : C :=
  .ops [2, 3, 4, 7, 1000000] [.p (some 52) (.move (.t 7)),
    .p (some 53) (.bin .add .int [] (.t 52) (.c (.int .i64 64))),
    .p (some 7) (.move (.t 53))]
def c40_k10 : C :=
  .ops [2, 3, 4, 7, 10, 14, 1000000] [.p (some 246) (.move (.t 14)),
    .p (some 247) (.bin .add .int [] (.t 246) (.c (.int .i64 1))),
    .p (some 14) (.move (.t 247))]
def c40_k11 : C :=
  .seq (.block 11 (.drw [2, 3, 4, 7, 10, 14, 1000000] 0 [⟨.none, .p (some 248) (.move (.t 14)), [], 0⟩,
    ⟨.none, .p (some 249) (.move (.t 14)), [], 0⟩,
    ⟨.none, .p (some 250) (.iaddrArr 8 1 (.t 3) (.t 249)), [1], 0⟩,
    ⟨.none, .p (some 251) (.load false 1 (.t 250)), [2], 0⟩,
    ⟨.none, .p (some 252) (.move (.t 14)), [], 0⟩,
    ⟨.none, .p (some 253) (.iaddrArr 8 1 (.t 10) (.t 252)), [4], 0⟩,
    ⟨.none, .p (some 254) (.load false 1 (.t 253)), [5], 0⟩,
    ⟨.none, .p (some 255) (.bin .add .int [] (.t 251) (.t 254)), [3, 6], 0⟩,
    ⟨.none, .p (some 256) (.iaddrArr 8 1 (.t 3) (.t 248)), [0, 0, 1, 2, 3, 4, 5, 6, 7], 0⟩,
    ⟨.none, .e .none (.store 1 (.t 256) (.t 255)), [8, 7, 0, 1, 2, 3, 4, 5, 6, 7], 0⟩]))
  (c40_k10)
def c40_k12 : C :=
  .cond (.t 245)
    (.skip)
    (.exit 10)
def c40_l13 : C :=
  .seq (.seq (.ops [2, 3, 4, 7, 10, 14, 245, 1000000] [.p (some 244) (.move (.t 14)),
    .p (some 245) (.bin .lss .int [] (.t 244) (.c (.int .i64 8)))])
  (c40_k12))
  (c40_k11)
def c40_k14 : C :=
  .block 10 (.loop [2, 3, 4, 7, 10, 14, 1000000] c40_l13)
def c40_k15 : C :=
  .seq (.ops [2, 3, 4, 7, 10, 14, 1000000] [.p (some 14) (.move (.c (.int .i64 0)))])
  (c40_k14)
def c40_k16 : C :=
  .ops [2, 3, 4, 7, 8, 10, 11, 1000000] [.p (some 158) (.move (.t 11)),
    .p (some 159) (.bin .add .int [] (.t 158) (.c (.int .i64 1))),
    .p (some 11) (.move (.t 159))]
def c40_k17 : C :=
  .ops [2, 3, 4, 7, 8, 10, 11, 1000000] [.p (some 224) (.move (.t 12)),
    .p (some 225) (.move (.t 13)),
    .p (some 226) (.bin .add .int [] (.t 224) (.t 225)),
    .p (some 227) (.iaddrArr 8 1 (.t 10) (.c (.int .i64 0))),
    .p (some 228) (.load false 1 (.t 227)),
    .p (some 229) (.iaddrArr 8 1 (.t 10) (.c (.int .i64 1))),
    .p (some 230) (.load false 1 (.t 229)),
    .p (some 231) (.iaddrArr 8 1 (.t 10) (.c (.int .i64 2))),
    .p (some 232) (.load false 1 (.t 231)),
    .p (some 233) (.iaddrArr 8 1 (.t 10) (.c (.int .i64 3))),
    .p (some 234) (.load false 1 (.t 233)),
    .p (some 235) (.move (.t 12)),
    .p (some 236) (.bin .add .int [] (.t 234) (.t 235)),
    .p (some 237) (.iaddrArr 8 1 (.t 10) (.c (.int .i64 4))),
    .p (some 238) (.load false 1 (.t 237)),
    .p (some 239) (.iaddrArr 8 1 (.t 10) (.c (.int .i64 5))),
    .p (some 240) (.load false 1 (.t 239)),
    .p (some 241) (.iaddrArr 8 1 (.t 10) (.c (.int .i64 6))),
    .p (some 242) (.load false 1 (.t 241)),
    .p (some 243) (.build [(.int .u32 0), (.int .u32 0), (.int .u32 0), (.int .u32 0), (.int .u32 0), (.int .u32 0), (.int .u32 0), (.int .u32 0)] [(0, 1, (.t 226)), (1, 1, (.t 228)), (2, 1, (.t 230)), (3, 1, (.t 232)), (4, 1, (.t 236)), (5, 1, (.t 238)), (6, 1, (.t 240)), (7, 1, (.t 242))]),
    .e .none (.store 8 (.t 10) (.t 243))]
def c40_k18 : C :=
  .seq (.drw [2, 3, 4, 7, 8, 10, 11, 12, 13, 1000000] 0 [⟨.none, .p (some 195) (.iaddrArr 8 1 (.t 10) (.c (.int .i64 0))), [], 0⟩,
    ⟨.none, .p (some 196) (.load false 1 (.t 195)), [0], 0⟩,
    ⟨.none, .call (some 197) 57 [(.t 196), (.c (.int .u64 2))], [1], 0⟩,
    ⟨.none, .p (some 198) (.iaddrArr 8 1 (.t 10) (.c (.int .i64 0))), [], 0⟩,
    ⟨.none, .p (some 199) (.load false 1 (.t 198)), [3], 0⟩,
    ⟨.none, .call (some 200) 57 [(.t 199), (.c (.int .u64 13))], [4, 2], 0⟩,
    ⟨.none, .p (some 201) (.bin .xor .int [] (.t 197) (.t 200)), [2, 5], 0⟩,
    ⟨.none, .p (some 202) (.iaddrArr 8 1 (.t 10) (.c (.int .i64 0))), [], 0⟩,
    ⟨.none, .p (some 203) (.load false 1 (.t 202)), [7], 0⟩,
    ⟨.none, .call (some 204) 57 [(.t 203), (.c (.int .u64 22))], [8, 5], 0⟩,
    ⟨.none, .p (some 205) (.bin .xor .int [] (.t 201) (.t 204)), [6, 9], 0⟩,
    ⟨.none, .p (some 206) (.iaddrArr 8 1 (.t 10) (.c (.int .i64 0))), [], 0⟩,
    ⟨.none, .p (some 207) (.load false 1 (.t 206)), [11], 0⟩,
    ⟨.none, .p (some 208) (.iaddrArr 8 1 (.t 10) (.c (.int .i64 1))), [], 0⟩,
    ⟨.none, .p (some 209) (.load false 1 (.t 208)), [13], 0⟩,
    ⟨.none, .p (some 210) (.bin .and .int [] (.t 207) (.t 209)), [12, 14], 0⟩,
    ⟨.none, .p (some 211) (.iaddrArr 8 1 (.t 10) (.c (.int .i64 0))), [], 0⟩,
    ⟨.none, .p (some 212) (.load false 1 (.t 211)), [16], 0⟩,
    ⟨.none, .p (some 213) (.iaddrArr 8 1 (.t 10) (.c (.int .i64 2))), [], 0⟩,
    ⟨.none, .p (some 214) (.load false 1 (.t 213)), [18], 0⟩,
    ⟨.none, .p (some 215) (.bin .and .int [] (.t 212) (.t 214)), [17, 19], 0⟩,
    ⟨.none, .p (some 216) (.bin .xor .int [] (.t 210) (.t 215)), [15, 20], 0⟩,
    ⟨.none, .p (some 217) (.iaddrArr 8 1 (.t 10) (.c (.int .i64 1))), [], 0⟩,
    ⟨.none, .p (some 218) (.load false 1 (.t 217)), [22], 0⟩,
    ⟨.none, .p (some 219) (.iaddrArr 8 1 (.t 10) (.c (.int .i64 2))), [], 0⟩,
    ⟨.none, .p (some 220) (.load false 1 (.t 219)), [24], 0⟩,
    ⟨.none, .p (some 221) (.bin .and .int [] (.t 218) (.t 220)), [23, 25], 0⟩,
    ⟨.none, .p (some 222) (.bin .xor .int [] (.t 216) (.t 221)), [21, 26], 0⟩,
    ⟨.none, .p (some 223) (.bin .add .int [] (.t 205) (.t 222)), [10, 27], 0⟩,
    ⟨.none, .p (some 13) (.move (.t 223)), [28, 9, 0, 1, 2, 3, 4, 5, 6, 7, 8, 9, 10, 11, 12, 13, 14, 15, 16, 17, 18, 19, 20, 21, 22, 23, 24, 25, 26, 27, 28], 0⟩])
  (c40_k17)
def c40_k19 : C :=
  .seq (.drw [2, 3, 4, 7, 8, 10, 11, 12, 1000000] 0 [⟨.none, .p (some 160) (.iaddrArr 8 1 (.t 10) (.c (.int .i64 7))), [], 0⟩,
    ⟨.none, .p (some 161) (.load false 1 (.t 160)), [0], 0⟩,
    ⟨.none, .p (some 162) (.iaddrArr 8 1 (.t 10) (.c (.int .i64 4))), [], 0⟩,
    ⟨.none, .p (some 163) (.load false 1 (.t 162)), [2], 0⟩,
    ⟨.none, .call (some 164) 57 [(.t 163), (.c (.int .u64 6))], [3], 0⟩,
    ⟨.none, .p (some 165) (.iaddrArr 8 1 (.t 10) (.c (.int .i64 4))), [], 0⟩,
    ⟨.none, .p (some 166) (.load false 1 (.t 165)), [5], 0⟩,
    ⟨.none, .call (some 167) 57 [(.t 166), (.c (.int .u64 11))], [6, 4], 0⟩,
    ⟨.none, .p (some 168) (.bin .xor .int [] (.t 164) (.t 167)), [4, 7], 0⟩,
    ⟨.none, .p (some 169) (.iaddrArr 8 1 (.t 10) (.c (.int .i64 4))), [], 0⟩,
    ⟨.none, .p (some 170) (.load false 1 (.t 169)), [9], 0⟩,
    ⟨.none, .call (some 171) 57 [(.t 170), (.c (.int .u64 25))], [10, 7], 0⟩,
    ⟨.none, .p (some 172) (.bin .xor .int [] (.t 168) (.t 171)), [8, 11], 0⟩,
    ⟨.none, .p (some 173) (.bin .add .int [] (.t 161) (.t 172)), [1, 12], 0⟩,
    ⟨.none, .p (some 174) (.iaddrArr 8 1 (.t 10) (.c (.int .i64 4))), [], 0⟩,
    ⟨.none, .p (some 175) (.load false 1 (.t 174)), [14], 0⟩,
    ⟨.none, .p (some 176) (.iaddrArr 8 1 (.t 10) (.c (.int .i64 5))), [], 0⟩,
    ⟨.none, .p (some 177) (.load false 1 (.t 176)), [16], 0⟩,
    ⟨.none, .p (some 178) (.bin .and .int [] (.t 175) (.t 177)), [15, 17], 0⟩,
    ⟨.none, .p (some 179) (.iaddrArr 8 1 (.t 10) (.c (.int .i64 4))), [], 0⟩,
    ⟨.none, .p (some 180) (.load false 1 (.t 179)), [19], 0⟩,
    ⟨.none, .p (some 181) (.bin .sub .int [] (.c (.int .u32 4294967295)) (.t 180)), [20], 0⟩,
    ⟨.none, .p (some 182) (.iaddrArr 8 1 (.t 10) (.c (.int .i64 6))), [], 0⟩,
    ⟨.none, .p (some 183) (.load false 1 (.t 182)), [22], 0⟩,
    ⟨.none, .p (some 184) (.bin .and .int [] (.t 181) (.t 183)), [21, 23], 0⟩,
    ⟨.none, .p (some 185) (.bin .xor .int [] (.t 178) (.t 184)), [18, 24], 0⟩,
    ⟨.none, .p (some 186) (.bin .add .int [] (.t 173) (.t 185)), [13, 25], 0⟩,
    ⟨.none, .p (some 187) (.move (.t 11)), [], 0⟩,
    ⟨.none, .p (some 188) (.iaddrArr 64 1 (.t 1000000) (.t 187)), [27], 0⟩,
    ⟨.none, .p (some 189) (.load false 1 (.t 188)), [28], 0⟩,
    ⟨.none, .p (some 190) (.bin .add .int [] (.t 186) (.t 189)), [26, 29], 0⟩,
    ⟨.none, .p (some 191) (.move (.t 11)), [], 0⟩,
    ⟨.none, .p (some 192) (.iaddrArr 64 1 (.t 8) (.t 191)), [31], 0⟩,
    ⟨.none, .p (some 193) (.load false 1 (.t 192)), [32], 0⟩,
    ⟨.none, .p (some 194) (.bin .add .int [] (.t 190) (.t 193)), [30, 33], 0⟩,
    ⟨.none, .p (some 12) (.move (.t 194)), [34, 11, 0, 1, 2, 3, 4, 5, 6, 7, 8, 9, 10, 11, 12, 13, 14, 15, 16, 17, 18, 19, 20, 21, 22, 23, 24, 25, 26, 27, 28, 29, 30, 31, 32, 33, 34], 0⟩])
  (c40_k18)
def c40_k20 : C :=
  .seq (.block 9 (c40_k19))
  (c40_k16)
def c40_k21 : C :=
  .cond (.t 157)
    (.skip)
    (.exit 8)
def c40_l22 : C :=
  .seq (.seq (.ops [2, 3, 4, 7, 8, 10, 11, 157, 1000000] [.p (some 156) (.move (.t 11)),
    .p (some 157) (.bin .lss .int [] (.t 156) (.c (.int .i64 64)))])
  (c40_k21))
  (c40_k20)
def c40_k23 : C :=
  .block 8 (.loop [2, 3, 4, 7, 8, 10, 11, 1000000] c40_l22)
def c40_k24 : C :=
  .seq (.seq (.ops [2, 3, 4, 7, 8, 10, 11, 1000000] [.p (some 11) (.move (.c (.int .i64 0)))])
  (c40_k23))
  (c40_k15)
def c40_k25 : C :=
  .seq (.ops [2, 3, 4, 7, 8, 10, 1000000] [.p (some 155) (.load true 8 (.t 3)),
    .e (some 10) (.alloc [(.d (.int .u32 0)), (.d (.int .u32 0)), (.d (.int .u32 0)), (.d (.int .u32 0)), (.d (.int .u32 0)), (.d (.int .u32 0)), (.d (.int .u32 0)), (.d (.int .u32 0))]),
    .e .none (.store 8 (.t 10) (.t 155))])
  (c40_k24)
def c40_k26 : C :=
  .ops [2, 3, 4, 7, 8, 9, 1000000] [.p (some 56) (.move (.t 9)),
    .p (some 57) (.bin .add .int [] (.t 56) (.c (.int .i64 1))),
    .p (some 9) (.move (.t 57))]
def c40_k27 : C :=
  .drw [2, 3, 4, 7, 8, 9, 1000000] 0 [⟨.none, .p (some 60) (.move (.t 9)), [], 0⟩,
      ⟨.none, .p (some 61) (.move (.t 4)), [], 0⟩,
      ⟨.none, .p (some 62) (.move (.t 7)), [], 0⟩,
      ⟨.none, .p (some 63) (.move (.t 9)), [], 0⟩,
      ⟨.none, .p (some 64) (.bin .mul .int [] (.c (.int .i64 4)) (.t 63)), [3], 0⟩,
      ⟨.none, .p (some 65) (.bin .add .int [] (.t 62) (.t 64)), [2, 4], 0⟩,
      ⟨.none, .p (some 66) (.iaddr 1 (.t 61) (.t 65)), [1, 5], 0⟩,
      ⟨.none, .p (some 67) (.load false 1 (.t 66)), [6], 0⟩,
      ⟨.none, .p (some 68) (.conv (.int .u32) (.t 67)), [7], 0⟩,
      ⟨.none, .p (some 69) (.bin .shl .int [] (.t 68) (.c (.int .u64 24))), [8], 0⟩,
      ⟨.none, .p (some 70) (.move (.t 4)), [], 0⟩,
      ⟨.none, .p (some 71) (.move (.t 7)), [], 0⟩,
      ⟨.none, .p (some 72) (.move (.t 9)), [], 0⟩,
      ⟨.none, .p (some 73) (.bin .mul .int [] (.c (.int .i64 4)) (.t 72)), [12], 0⟩,
      ⟨.none, .p (some 74) (.bin .add .int [] (.t 71) (.t 73)), [11, 13], 0⟩,
      ⟨.none, .p (some 75) (.bin .add .int [] (.t 74) (.c (.int .i64 1))), [14], 0⟩,
      ⟨.none, .p (some 76) (.iaddr 1 (.t 70) (.t 75)), [10, 15], 0⟩,
      ⟨.none, .p (some 77) (.load false 1 (.t 76)), [16], 0⟩,
      ⟨.none, .p (some 78) (.conv (.int .u32) (.t 77)), [17], 0⟩,
      ⟨.none, .p (some 79) (.bin .shl .int [] (.t 78) (.c (.int .u64 16))), [18], 0⟩,
      ⟨.none, .p (some 80) (.bin .add .int [] (.t 69) (.t 79)), [9, 19], 0⟩,
      ⟨.none, .p (some 81) (.move (.t 4)), [], 0⟩,
      ⟨.none, .p (some 82) (.move (.t 7)), [], 0⟩,
      ⟨.none, .p (some 83) (.move (.t 9)), [], 0⟩,
      ⟨.none, .p (some 84) (.bin .mul .int [] (.c (.int .i64 4)) (.t 83)), [23], 0⟩,
      ⟨.none, .p (some 85) (.bin .add .int [] (.t 82) (.t 84)), [22, 24], 0⟩,
      ⟨.none, .p (some 86) (.bin .add .int [] (.t 85) (.c (.int .i64 2))), [25], 0⟩,
      ⟨.none, .p (some 87) (.iaddr 1 (.t 81) (.t 86)), [21, 26], 0⟩,
      ⟨.none, .p (some 88) (.load false 1 (.t 87)), [27], 0⟩,
      ⟨.none, .p (some 89) (.conv (.int .u32) (.t 88)), [28], 0⟩,
      ⟨.none, .p (some 90) (.bin .shl .int [] (.t 89) (.c (.int .u64 8))), [29], 0⟩,
      ⟨.none, .p (some 91) (.bin .add .int [] (.t 80) (.t 90)), [20, 30], 0⟩,
      ⟨.none, .p (some 92) (.move (.t 4)), [], 0⟩,
      ⟨.none, .p (some 93) (.move (.t 7)), [], 0⟩,
      ⟨.none, .p (some 94) (.move (.t 9)), [], 0⟩,
      ⟨.none, .p (some 95) (.bin .mul .int [] (.c (.int .i64 4)) (.t 94)), [34], 0⟩,
      ⟨.none, .p (some 96) (.bin .add .int [] (.t 93) (.t 95)), [33, 35], 0⟩,
      ⟨.none, .p (some 97) (.bin .add .int [] (.t 96) (.c (.int .i64 3))), [36], 0⟩,
      ⟨.none, .p (some 98) (.iaddr 1 (.t 92) (.t 97)), [32, 37], 0⟩,
      ⟨.none, .p (some 99) (.load false 1 (.t 98)), [38], 0⟩,
      ⟨.none, .p (some 100) (.conv (.int .u32) (.t 99)), [39], 0⟩,
      ⟨.none, .p (some 101) (.bin .add .int [] (.t 91) (.t 100)), [31, 40], 0⟩,
      ⟨.none, .p (some 102) (.iaddrArr 64 1 (.t 8) (.t 60)), [0, 0, 1, 2, 3, 4, 5, 6, 7, 8, 9, 10, 11, 12, 13, 14, 15, 16, 17, 18, 19, 20, 21, 22, 23, 24, 25, 26, 27, 28, 29, 30, 31, 32, 33, 34, 35, 36, 37, 38, 39, 40, 41], 0⟩,
      ⟨.none, .e .none (.store 1 (.t 102) (.t 101)), [42, 41, 0, 1, 2, 3, 4, 5, 6, 7, 8, 9, 10, 11, 12, 13, 14, 15, 16, 17, 18, 19, 20, 21, 22, 23, 24, 25, 26, 27, 28, 29, 30, 31, 32, 33, 34, 35, 36, 37, 38, 39, 40, 41], 0⟩]
def c40_k28 : C :=
  .drw [2, 3, 4, 7, 8, 9, 1000000] 0 [⟨.none, .p (some 122) (.move (.t 9)), [], 0⟩,
    ⟨.none, .p (some 123) (.move (.t 9)), [], 0⟩,
    ⟨.none, .p (some 124) (.iaddrArr 64 1 (.t 8) (.t 123)), [1], 0⟩,
    ⟨.none, .p (some 125) (.load false 1 (.t 124)), [2], 0⟩,
    ⟨.none, .p (some 126) (.move (.t 9)), [], 0⟩,
    ⟨.none, .p (some 127) (.bin .sub .int [] (.t 126) (.c (.int .i64 7))), [4], 0⟩,
    ⟨.none, .p (some 128) (.iaddrArr 64 1 (.t 8) (.t 127)), [5], 0⟩,
    ⟨.none, .p (some 129) (.load false 1 (.t 128)), [6], 0⟩,
    ⟨.none, .p (some 130) (.bin .add .int [] (.t 125) (.t 129)), [3, 7], 0⟩,
    ⟨.none, .p (some 131) (.move (.t 9)), [], 0⟩,
    ⟨.none, .p (some 132) (.bin .sub .int [] (.t 131) (.c (.int .i64 15))), [9], 0⟩,
    ⟨.none, .p (some 133) (.iaddrArr 64 1 (.t 8) (.t 132)), [10], 0⟩,
    ⟨.none, .p (some 134) (.load false 1 (.t 133)), [11], 0⟩,
    ⟨.none, .call (some 135) 57 [(.t 134), (.c (.int .u64 7))], [12], 0⟩,
    ⟨.none, .p (some 136) (.move (.t 9)), [], 0⟩,
    ⟨.none, .p (some 137) (.bin .sub .int [] (.t 136) (.c (.int .i64 15))), [14], 0⟩,
    ⟨.none, .p (some 138) (.iaddrArr 64 1 (.t 8) (.t 137)), [15], 0⟩,
    ⟨.none, .p (some 139) (.load false 1 (.t 138)), [16], 0⟩,
    ⟨.none, .call (some 140) 57 [(.t 139), (.c (.int .u64 18))], [17, 13], 0⟩,
    ⟨.none, .p (some 141) (.bin .xor .int [] (.t 135) (.t 140)), [13, 18], 0⟩,
    ⟨.none, .p (some 142) (.move (.t 9)), [], 0⟩,
    ⟨.none, .p (some 143) (.bin .sub .int [] (.t 142) (.c (.int .i64 15))), [20], 0⟩,
    ⟨.none, .p (some 144) (.iaddrArr 64 1 (.t 8) (.t 143)), [21], 0⟩,
    ⟨.none, .p (some 145) (.load false 1 (.t 144)), [22], 0⟩,
    ⟨.none, .p (some 146) (.bin .shr .int [] (.t 145) (.c (.int .u64 3))), [23], 0⟩,
    ⟨.none, .p (some 147) (.bin .xor .int [] (.t 141) (.t 146)), [19, 24], 0⟩,
    ⟨.none, .p (some 148) (.bin .add .int [] (.t 130) (.t 147)), [8, 25], 0⟩,
    ⟨.none, .p (some 149) (.move (.t 9)), [], 0⟩,
    ⟨.none, .p (some 150) (.bin .sub .int [] (.t 149) (.c (.int .i64 16))), [27], 0⟩,
    ⟨.none, .p (some 151) (.iaddrArr 64 1 (.t 8) (.t 150)), [28], 0⟩,
    ⟨.none, .p (some 152) (.load false 1 (.t 151)), [29], 0⟩,
    ⟨.none, .p (some 153) (.bin .add .int [] (.t 148) (.t 152)), [26, 30], 0⟩,
    ⟨.none, .p (some 154) (.iaddrArr 64 1 (.t 8) (.t 122)), [0, 0, 1, 2, 3, 4, 5, 6, 7, 8, 9, 10, 11, 12, 13, 14, 15, 16, 17, 18, 19, 20, 21, 22, 23, 24, 25, 26, 27, 28, 29, 30, 31], 0⟩,
    ⟨.none, .e .none (.store 1 (.t 154) (.t 153)), [32, 31, 18, 0, 1, 2, 3, 4, 5, 6, 7, 8, 9, 10, 11, 12, 13, 14, 15, 16, 17, 18, 19, 20, 21, 22, 23, 24, 25, 26, 27, 28, 29, 30, 31], 0⟩]
def c40_k29 : C :=
  .seq (.drw [2, 3, 4, 7, 8, 9, 1000000] 0 [⟨.none, .p (some 103) (.move (.t 9)), [], 0⟩,
      ⟨.none, .p (some 104) (.move (.t 9)), [], 0⟩,
      ⟨.none, .p (some 105) (.bin .sub .int [] (.t 104) (.c (.int .i64 2))), [1], 0⟩,
      ⟨.none, .p (some 106) (.iaddrArr 64 1 (.t 8) (.t 105)), [2], 0⟩,
      ⟨.none, .p (some 107) (.load false 1 (.t 106)), [3], 0⟩,
      ⟨.none, .call (some 108) 57 [(.t 107), (.c (.int .u64 17))], [4], 0⟩,
      ⟨.none, .p (some 109) (.move (.t 9)), [], 0⟩,
      ⟨.none, .p (some 110) (.bin .sub .int [] (.t 109) (.c (.int .i64 2))), [6], 0⟩,
      ⟨.none, .p (some 111) (.iaddrArr 64 1 (.t 8) (.t 110)), [7], 0⟩,
      ⟨.none, .p (some 112) (.load false 1 (.t 111)), [8], 0⟩,
      ⟨.none, .call (some 113) 57 [(.t 112), (.c (.int .u64 19))], [9, 5], 0⟩,
      ⟨.none, .p (some 114) (.bin .xor .int [] (.t 108) (.t 113)), [5, 10], 0⟩,
      ⟨.none, .p (some 115) (.move (.t 9)), [], 0⟩,
      ⟨.none, .p (some 116) (.bin .sub .int [] (.t 115) (.c (.int .i64 2))), [12], 0⟩,
      ⟨.none, .p (some 117) (.iaddrArr 64 1 (.t 8) (.t 116)), [13], 0⟩,
      ⟨.none, .p (some 118) (.load false 1 (.t 117)), [14], 0⟩,
      ⟨.none, .p (some 119) (.bin .shr .int [] (.t 118) (.c (.int .u64 10))), [15], 0⟩,
      ⟨.none, .p (some 120) (.bin .xor .int [] (.t 114) (.t 119)), [11, 16], 0⟩,
      ⟨.none, .p (some 121) (.iaddrArr 64 1 (.t 8) (.t 103)), [0, 0, 1, 2, 3, 4, 5, 6, 7, 8, 9, 10, 11, 12, 13, 14, 15, 16, 17], 0⟩,
      ⟨.none, .e .none (.store 1 (.t 121) (.t 120)), [18, 17, 10, 0, 1, 2, 3, 4, 5, 6, 7, 8, 9, 10, 11, 12, 13, 14, 15, 16, 17], 0⟩])
    (c40_k28)
def c40_k30 : C :=
  .cond (.t 59)
    (c40_k27)
    (c40_k29)
def c40_k31 : C :=
  .seq (.ops [2, 3, 4, 7, 8, 9, 59, 1000000] [.p (some 58) (.move (.t 9)),
    .p (some 59) (.bin .lss .int [] (.t 58) (.c (.int .i64 16)))])
  (c40_k30)
def c40_k32 : C :=
  .seq (.block 7 (c40_k31))
  (c40_k26)
def c40_k33 : C :=
  .cond (.t 55)
    (.skip)
    (.exit 6)
def c40_l34 : C :=
  .seq (.seq (.ops [2, 3, 4, 7, 8, 9, 55, 1000000] [.p (some 54) (.move (.t 9)),
    .p (some 55) (.bin .lss .int [] (.t 54) (.c (.int .i64 64)))])
  (c40_k33))
  (c40_k32)
def c40_k35 : C :=
  .block 6 (.loop [2, 3, 4, 7, 8, 9, 1000000] c40_l34)
def c40_k36 : C :=
  .seq (.seq (.ops [2, 3, 4, 7, 8, 9, 1000000] [.p (some 9) (.move (.c (.int .i64 0)))])
  (c40_k35))
  (c40_k25)
def c40_k37 : C :=
  .seq (.ops [2, 3, 4, 7, 8, 1000000] [.e (some 8) (.alloc (List.replicate 64 (.d (.int .u32 0))))])
  (c40_k36)
def c40_k38 : C :=
  .seq (.block 5 (c40_k37))
  (c40_k9)
def c40_k39 : C :=
  .cond (.t 51)
    (.skip)
    (.exit 4)
def c40_l40 : C :=
  .seq (.seq (.ops [2, 3, 4, 7, 51, 1000000] [.p (some 47) (.move (.t 7)),
    .p (some 48) (.bin .add .int [] (.t 47) (.c (.int .i64 64))),
    .p (some 49) (.move (.t 4)),
    .p (some 50) (.len .slice (.t 49)),
    .p (some 51) (.bin .leq .int [] (.t 48) (.t 50))])
  (c40_k39))
  (c40_k38)
def c40_k41 : C :=
  .block 4 (.loop [2, 3, 4, 7, 1000000] c40_l40)
def c40_k42 : C :=
  .seq (.seq (.ops [2, 3, 4, 7, 1000000] [.p (some 7) (.move (.c (.int .i64 0)))])
  (c40_k41))
  (c40_k8)
def c40_k43 : C :=
  .ops [2, 3, 4, 5, 6, 1000000] [.p (some 36) (.move (.t 6)),
    .p (some 37) (.bin .sub .int [] (.t 36) (.c (.int .i64 1))),
    .p (some 6) (.move (.t 37))]
def c40_k44 : C :=
  .seq (.block 3 (.ops [2, 3, 4, 5, 6, 1000000] [.p (some 38) (.move (.t 4)),
    .p (some 39) (.move (.t 5)),
    .p (some 40) (.move (.t 6)),
    .p (some 41) (.bin .mul .int [] (.c (.int .i64 8)) (.t 40)),
    .p (some 42) (.conv (.int .u64) (.t 41)),
    .p (some 43) (.bin .shr .int [] (.t 39) (.t 42)),
    .p (some 44) (.conv (.int .u8) (.t 43)),
    .p (some 45) (.bslice 5 1 1 [(.int .u8 0)] [(0, (.t 44))]),
    .e (some 46) (.append 5 1 1 (.t 38) (.t 45)),
    .p (some 4) (.move (.t 46))]))
  (c40_k43)
def c40_k45 : C :=
  .cond (.t 35)
    (.skip)
    (.exit 2)
def c40_l46 : C :=
  .seq (.seq (.ops [2, 3, 4, 5, 6, 35, 1000000] [.p (some 34) (.move (.t 6)),
    .p (some 35) (.bin .geq .int [] (.t 34) (.c (.int .i64 0)))])
  (c40_k45))
  (c40_k44)
def c40_k47 : C :=
  .block 2 (.loop [2, 3, 4, 5, 6, 1000000] c40_l46)
def c40_k48 : C :=
  .seq (.seq (.ops [2, 3, 4, 5, 6, 1000000] [.p (some 6) (.move (.c (.int .i64 7)))])
  (c40_k47))
  (c40_k42)
def c40_k49 : C :=
  .seq (.ops [2, 3, 4, 5, 1000000] [.p (some 30) (.move (.t 0)),
    .p (some 31) (.len .slice (.t 30)),
    .p (some 32) (.conv (.int .u64) (.t 31)),
    .p (some 33) (.bin .mul .int [] (.t 32) (.c (.int .u64 8))),
    .p (some 5) (.move (.t 33))])
  (c40_k48)
def c40_k50 : C :=
  .block 1 (.ops [0, 2, 3, 4, 1000000] [.p (some 27) (.move (.t 4)),
    .p (some 28) (.bslice 5 1 1 [(.int .u8 0)] [(0, (.c (.int .u8 0)))]),
    .e (some 29) (.append 5 1 1 (.t 27) (.t 28)),
    .p (some 4) (.move (.t 29))])
def c40_k51 : C :=
  .cond (.t 26)
    (.skip)
    (.exit 0)
def c40_l52 : C :=
  .seq (.seq (.ops [0, 2, 3, 4, 26, 1000000] [.p (some 23) (.move (.t 4)),
    .p (some 24) (.len .slice (.t 23)),
    .p (some 25) (.bin .rem .int [] (.t 24) (.c (.int .i64 64))),
    .p (some 26) (.bin .neq .int [] (.t 25) (.c (.int .i64 56)))])
  (c40_k51))
  (c40_k50)
def c40_k53 : C :=
  .seq (.block 0 (.loop [0, 2, 3, 4, 1000000] c40_l52))
  (c40_k49)
def c40_k54 : C :=
  .seq (.ops [0, 2, 3, 4, 1000000] [.p (some 18) (.bslice 5 0 1 [(.int .u8 0)] []),
    .p (some 19) (.move (.t 0)),
    .e (some 20) (.append 5 1 1 (.t 18) (.t 19)),
    .p (some 21) (.bslice 5 1 1 [(.int .u8 0)] [(0, (.c (.int .u8 128)))]),
    .e (some 22) (.append 5 1 1 (.t 20) (.t 21)),
    .p (some 4) (.move (.t 22))])
  (c40_k53)
def c40_k55 : C :=
  .seq (.ops [0, 2, 3, 1000000] [.p (some 17) (.build [(.int .u32 0), (.int .u32 0), (.int .u32 0), (.int .u32 0), (.int .u32 0), (.int .u32 0), (.int .u32 0), (.int .u32 0)] [(0, 1, (.c (.int .u32 1779033703))), (1, 1, (.c (.int .u32 3144134277))), (2, 1, (.c (.int .u32 1013904242))), (3, 1, (.c (.int .u32 2773480762))), (4, 1, (.c (.int .u32 1359893119))), (5, 1, (.c (.int .u32 2600822924))), (6, 1, (.c (.int .u32 528734635))), (7, 1, (.c (.int .u32 1541459225)))]),
    .e (some 3) (.alloc [(.d (.int .u32 0)), (.d (.int .u32 0)), (.d (.int .u32 0)), (.d (.int .u32 0)), (.d (.int .u32 0)), (.d (.int .u32 0)), (.d (.int .u32 0)), (.d (.int .u32 0))]),
    .e .none (.store 8 (.t 3) (.t 17))])
  (c40_k54)
def c40 : FnC := ⟨1, 275, [.cell 2 true 32],
  .seq (.ops [0, 2, 1000000] [.e (some 2) (.alloc (List.replicate 32 (.d (.int .u8 0))))])
  (c40_k55),
  [(0, g0)]⟩

/-! 57: gossamer/gossamerref07.turn -/
def c57_k0 : C :=
  .seq (.ops [4] [.p (some 5) (.move (.t 0)),
    .p (some 6) (.move (.t 1)),
    .p (some 7) (.bin .shr .int [] (.t 5) (.t 6)),
    .p (some 8) (.move (.t 0)),
    .p (some 9) (.move (.t 1)),
    .p (some 10) (.bin .sub .int [] (.c (.int .u64 32)) (.t 9)),
    .p (some 11) (.bin .shl .int [] (.t 8) (.t 10)),
    .p (some 12) (.bin .or .int [] (.t 7) (.t 11)),
    .p (some 4) (.move (.t 12))])
  (.ret)
def c57 : FnC := ⟨2, 13, [.tmp 4],
  .seq (.ops [0, 1] [.p (some 4) (.move (.c (.int .u32 0)))])
  (c57_k0),
  []⟩

/-! 41: gossamer/gossamerref07.bytes -/
def c41_k0 : C :=
  .seq (.ops [2] [.p (some 15) (.move (.t 3)),
    .p (some 2) (.move (.t 15))])
  (.ret)
def c41_k1 : C :=
  .ops [1, 3, 4] [.p (some 7) (.move (.t 4)),
    .p (some 8) (.bin .add .int [] (.t 7) (.c (.int .i64 1))),
    .p (some 4) (.move (.t 8))]
def c41_k2 : C :=
  .seq (.block 1 (.ops [1, 3, 4] [.p (some 9) (.move (.t 3)),
    .p (some 10) (.move (.t 4)),
    .p (some 11) (.iaddrArr 32 1 (.t 1) (.t 10)),
    .p (some 12) (.load false 1 (.t 11)),
    .p (some 13) (.bslice 5 1 1 [(.int .u8 0)] [(0, (.t 12))]),
    .e (some 14) (.append 5 1 1 (.t 9) (.t 13)),
    .p (some 3) (.move (.t 14))]))
  (c41_k1)
def c41_k3 : C :=
  .cond (.t 6)
    (.skip)
    (.exit 0)
def c41_l4 : C :=
  .seq (.seq (.ops [1, 3, 4, 6] [.p (some 5) (.move (.t 4)),
    .p (some 6) (.bin .lss .int [] (.t 5) (.c (.int .i64 32)))])
  (c41_k3))
  (c41_k2)
def c41_k5 : C :=
  .block 0 (.loop [1, 3, 4] c41_l4)
def c41_k6 : C :=
  .seq (.seq (.ops [1, 3, 4] [.p (some 4) (.move (.c (.int .i64 0)))])
  (c41_k5))
  (c41_k0)
def c41_k7 : C :=
  .seq (.ops [1, 3] [.p (some 3) (.move (.c .nils))])
  (c41_k6)
def c41 : FnC := ⟨1, 16, [.tmp 2],
  .seq (.ops [1] [.e (some 1) (.box (.t 0)),
    .p (some 2) (.move (.c .nils))])
  (c41_k7),
  []⟩

/-! 7: gossamer/gossamernum.Hashes -/
def c7_k0 : C :=
  .cond (.t 24)
    (.seq (.ops [4] [.p (some 4) (.move (.c (.bool false)))])
    (.ret))
    (.skip)
def c7_k1 : C :=
  .seq (.drw [0, 1, 12, 13, 24] 0 [⟨.none, .p (some 16) (.move (.t 0)), [], 0⟩,
    ⟨.none, .p (some 17) (.move (.t 5)), [], 0⟩,
    ⟨.none, .p (some 18) (.iaddr 32 (.t 16) (.t 17)), [0, 1], 0⟩,
    ⟨.none, .p (some 19) (.load true 32 (.t 18)), [2], 0⟩,
    ⟨.none, .p (some 20) (.move (.t 1)), [], 0⟩,
    ⟨.none, .p (some 21) (.move (.t 5)), [], 0⟩,
    ⟨.none, .p (some 22) (.iaddr 32 (.t 20) (.t 21)), [4, 5], 0⟩,
    ⟨.none, .p (some 23) (.load true 32 (.t 22)), [6], 0⟩,
    ⟨.none, .p (some 24) (.bin .neq .flat (List.replicate 32 (.int .u8)) (.t 19) (.t 23)), [3, 7], 0⟩])
  (c7_k0)
def c7_k2 : C :=
  .seq (.ops [0, 1, 5, 12, 13] [.p (some 15) (.move (.t 13)),
    .p (some 5) (.move (.t 15))])
  (c7_k1)
def c7_k3 : C :=
  .seq (.block 1 (c7_k2))
  (.ops [0, 1, 12, 13] [.p (some 25) (.bin .add .int [] (.t 13) (.c (.int .i64 1))),
    .p (some 13) (.move (.t 25))])
def c7_k4 : C :=
  .seq (.cond (.t 14)
    (.skip)
    (.exit 0))
  (c7_k3)
def c7_l5 : C :=
  .seq (.ops [0, 1, 12, 13, 14] [.p (some 14) (.bin .lss .int [] (.t 13) (.t 12))])
  (c7_k4)
def c7_k6 : C :=
  .block 0 (.loop [0, 1, 12, 13] c7_l5)
def c7_k7 : C :=
  .seq (.seq (.ops [0, 1, 12, 13] [.p (some 11) (.move (.t 0)),
    .p (some 12) (.len .slice (.t 11)),
    .p (some 13) (.move (.c (.int .i64 0)))])
  (c7_k6))
  (.seq (.ops [4] [.p (some 4) (.move (.c (.bool true)))])
  (.ret))
def c7_k8 : C :=
  .cond (.t 10)
    (.seq (.ops [4] [.p (some 4) (.move (.c (.bool false)))])
    (.ret))
    (.skip)
def c7_k9 : C :=
  .seq (.seq (.ops [0, 1, 10] [.p (some 6) (.move (.t 0)),
    .p (some 7) (.len .slice (.t 6)),
    .p (some 8) (.move (.t 1)),
    .p (some 9) (.len .slice (.t 8)),
    .p (some 10) (.bin .neq .int [] (.t 7) (.t 9))])
  (c7_k8))
  (c7_k7)
def c7 : FnC := ⟨2, 26, [.tmp 4],
  .seq (.ops [0, 1] [.p (some 4) (.move (.c (.bool false)))])
  (c7_k9),
  []⟩

/-! 10: gossamer/story.Twice -/
def c10_k0 : C :=
  .seq (.ops [2] [.p (some 32) (.move (.t 3)),
    .p (some 2) (.move (.t 32))])
  (.ret)
def c10_k1 : C :=
  .cond (.t 26)
    (.ops [3, 4, 9, 10, 11, 22, 23, 24, 25] [.p (some 27) (.move (.t 3)),
      .p (some 28) (.load true 32 (.t 6)),
      .p (some 29) (.bslice 61 1 32 (List.replicate 32 (.int .u8 0)) [(0, (.t 28))]),
      .e (some 30) (.append 61 32 32 (.t 27) (.t 29)),
      .p (some 3) (.move (.t 30))])
    (.skip)
def c10_k2 : C :=
  .seq (.drw [3, 4, 6, 9, 10, 11, 22, 23, 24, 25, 26] 0 [⟨.none, .p (some 16) (.move (.t 4)), [], 0⟩,
    ⟨.none, .p (some 17) (.move (.t 5)), [], 0⟩,
    ⟨.none, .p (some 18) (.slice 32 (.t 16) .none (some (.t 17)) .none), [0, 1], 0⟩,
    ⟨.none, .p (some 19) (.load true 32 (.t 6)), [], 0⟩,
    ⟨.none, .call (some 20) 22 [(.t 18), (.t 19)], [2, 3], 0⟩,
    ⟨.none, .p (some 21) (.move (.t 20)), [4, 4], 0⟩,
    ⟨(some (21, true)), .p (some 22) (.move (.t 3)), [5], 0⟩,
    ⟨(some (21, true)), .p (some 23) (.load true 32 (.t 6)), [5], 0⟩,
    ⟨(some (21, true)), .call (some 24) 22 [(.t 22), (.t 23)], [6, 7, 5, 5], 0⟩,
    ⟨(some (21, true)), .p (some 25) (.una .not (.t 24)), [8, 5], 0⟩,
    ⟨.none, .p (some 26) (.pick (.t 21) (.t 25) (.c (.bool false))), [5, 9], 0⟩])
  (c10_k1)
def c10_k3 : C :=
  .seq (.ops [3, 4, 5, 6, 9, 10, 11, 22, 23, 24, 25] [.p (some 13) (.move (.t 11)),
    .p (some 14) (.iaddr 32 (.t 9) (.t 11)),
    .p (some 15) (.load true 32 (.t 14)),
    .e (some 6) (.alloc (List.replicate 32 (.d (.int .u8 0)))),
    .p (some 5) (.move (.t 13)),
    .e .none (.store 32 (.t 6) (.t 15))])
  (c10_k2)
def c10_k4 : C :=
  .seq (.block 1 (c10_k3))
  (.ops [3, 4, 9, 10, 11, 22, 23, 24, 25] [.p (some 31) (.bin .add .int [] (.t 11) (.c (.int .i64 1))),
    .p (some 11) (.move (.t 31))])
def c10_k5 : C :=
  .seq (.cond (.t 12)
    (.skip)
    (.exit 0))
  (c10_k4)
def c10_l6 : C :=
  .seq (.ops [3, 4, 9, 10, 11, 12, 22, 23, 24, 25] [.p (some 12) (.bin .lss .int [] (.t 11) (.t 10))])
  (c10_k5)
def c10_k7 : C :=
  .block 0 (.loop [3, 4, 9, 10, 11, 22, 23, 24, 25] c10_l6)
def c10_k8 : C :=
  .seq (.seq (.ops [3, 4, 9, 10, 11, 22, 23, 24, 25] [.p (some 9) (.move (.t 4)),
    .p (some 10) (.len .slice (.t 9)),
    .p (some 11) (.move (.c (.int .i64 0)))])
  (c10_k7))
  (c10_k0)
def c10_k9 : C :=
  .seq (.ops [3, 4, 22, 23, 24, 25] [.p (some 7) (.move (.t 0)),
    .call (some 8) 8 [(.t 7)],
    .p (some 4) (.move (.t 8))])
  (c10_k8)
def c10_k10 : C :=
  .seq (.ops [0, 3, 22, 23, 24, 25] [.p (some 3) (.move (.c .nils))])
  (c10_k9)
def c10 : FnC := ⟨1, 33, [.tmp 2],
  .seq (.ops [0, 22, 23, 24, 25] [.p (some 2) (.move (.c .nils))])
  (c10_k10),
  []⟩

/-! 22: slices.Contains[[]gossamer/api.Hash,gossamer/api.Hash] -/
def c22_k0 : C :=
  .seq (.ops [4] [.p (some 5) (.move (.t 0)),
    .p (some 6) (.load true 32 (.t 3)),
    .call (some 7) 36 [(.t 5), (.t 6)],
    .p (some 8) (.bin .geq .int [] (.t 7) (.c (.int .i64 0))),
    .p (some 4) (.move (.t 8))])
  (.ret)
def c22 : FnC := ⟨2, 9, [.tmp 4],
  .seq (.ops [0, 3] [.e (some 3) (.box (.t 1)),
    .p (some 4) (.move (.c (.bool false)))])
  (c22_k0),
  []⟩

/-! 36: slices.Index[[]gossamer/api.Hash,gossamer/api.Hash] -/
def c36_k0 : C :=
  .cond (.t 16)
    (.seq (.ops [4] [.p (some 17) (.move (.t 5)),
      .p (some 4) (.move (.t 17))])
    (.ret))
    (.skip)
def c36_k1 : C :=
  .seq (.drw [0, 3, 5, 7, 8, 16] 0 [⟨.none, .p (some 11) (.load true 32 (.t 3)), [], 0⟩,
    ⟨.none, .p (some 12) (.move (.t 0)), [], 0⟩,
    ⟨.none, .p (some 13) (.move (.t 5)), [], 0⟩,
    ⟨.none, .p (some 14) (.iaddr 32 (.t 12) (.t 13)), [1, 2], 0⟩,
    ⟨.none, .p (some 15) (.load true 32 (.t 14)), [3], 0⟩,
    ⟨.none, .p (some 16) (.bin .eql .flat (List.replicate 32 (.int .u8)) (.t 11) (.t 15)), [0, 4], 0⟩])
  (c36_k0)
def c36_k2 : C :=
  .seq (.ops [0, 3, 5, 7, 8] [.p (some 10) (.move (.t 8)),
    .p (some 5) (.move (.t 10))])
  (c36_k1)
def c36_k3 : C :=
  .seq (.block 1 (c36_k2))
  (.ops [0, 3, 7, 8] [.p (some 18) (.bin .add .int [] (.t 8) (.c (.int .i64 1))),
    .p (some 8) (.move (.t 18))])
def c36_k4 : C :=
  .seq (.cond (.t 9)
    (.skip)
    (.exit 0))
  (c36_k3)
def c36_l5 : C :=
  .seq (.ops [0, 3, 7, 8, 9] [.p (some 9) (.bin .lss .int [] (.t 8) (.t 7))])
  (c36_k4)
def c36_k6 : C :=
  .block 0 (.loop [0, 3, 7, 8] c36_l5)
def c36_k7 : C :=
  .seq (.seq (.ops [0, 3, 7, 8] [.p (some 6) (.move (.t 0)),
    .p (some 7) (.len .slice (.t 6)),
    .p (some 8) (.move (.c (.int .i64 0)))])
  (c36_k6))
  (.seq (.ops [4] [.p (some 4) (.move (.c (.int .i64 (-1))))])
  (.ret))
def c36 : FnC := ⟨2, 19, [.tmp 4],
  .seq (.ops [0, 3] [.e (some 3) (.box (.t 1)),
    .p (some 4) (.move (.c (.int .i64 0)))])
  (c36_k7),
  []⟩

/-! 11: gossamer/gossamerref31.Twice -/
def c11_k0 : C :=
  .seq (.ops [2] [.p (some 41) (.move (.t 3)),
    .p (some 2) (.move (.t 41))])
  (.ret)
def c11_k1 : C :=
  .ops [3, 4, 5] [.p (some 14) (.move (.t 5)),
    .p (some 15) (.bin .add .int [] (.t 14) (.c (.int .i64 1))),
    .p (some 5) (.move (.t 15))]
def c11_k2 : C :=
  .cond (.t 33)
    (.ops [3, 4, 5] [.p (some 34) (.move (.t 3)),
      .p (some 35) (.move (.t 4)),
      .p (some 36) (.move (.t 5)),
      .p (some 37) (.iaddr 32 (.t 35) (.t 36)),
      .p (some 38) (.load true 32 (.t 37)),
      .p (some 39) (.bslice 61 1 32 (List.replicate 32 (.int .u8 0)) [(0, (.t 38))]),
      .e (some 40) (.append 61 32 32 (.t 34) (.t 39)),
      .p (some 3) (.move (.t 40))])
    (.skip)
def c11_k3 : C :=
  .seq (.ops [3, 4, 5, 33] [.p (some 32) (.move (.t 6)),
    .p (some 33) (.bin .eql .int [] (.t 32) (.c (.int .i64 1)))])
  (c11_k2)
def c11_k4 : C :=
  .ops [3, 4, 5, 6, 7] [.p (some 19) (.move (.t 7)),
    .p (some 20) (.bin .add .int [] (.t 19) (.c (.int .i64 1))),
    .p (some 7) (.move (.t 20))]
def c11_k5 : C :=
  .cond (.t 29)
    (.ops [3, 4, 5, 6, 7] [.p (some 30) (.move (.t 6)),
      .p (some 31) (.bin .add .int [] (.t 30) (.c (.int .i64 1))),
      .p (some 6) (.move (.t 31))])
    (.skip)
def c11_k6 : C :=
  .seq (.drw [3, 4, 5, 6, 7, 29] 0 [⟨.none, .p (some 21) (.move (.t 4)), [], 0⟩,
    ⟨.none, .p (some 22) (.move (.t 7)), [], 0⟩,
    ⟨.none, .p (some 23) (.iaddr 32 (.t 21) (.t 22)), [0, 1], 0⟩,
    ⟨.none, .p (some 24) (.load true 32 (.t 23)), [2], 0⟩,
    ⟨.none, .p (some 25) (.move (.t 4)), [], 0⟩,
    ⟨.none, .p (some 26) (.move (.t 5)), [], 0⟩,
    ⟨.none, .p (some 27) (.iaddr 32 (.t 25) (.t 26)), [4, 5], 0⟩,
    ⟨.none, .p (some 28) (.load true 32 (.t 27)), [6], 0⟩,
    ⟨.none, .p (some 29) (.bin .eql .flat (List.replicate 32 (.int .u8)) (.t 24) (.t 28)), [3, 7], 0⟩])
  (c11_k5)
def c11_k7 : C :=
  .seq (.block 3 (c11_k6))
  (c11_k4)
def c11_k8 : C :=
  .cond (.t 18)
    (.skip)
    (.exit 2)
def c11_l9 : C :=
  .seq (.seq (.ops [3, 4, 5, 6, 7, 18] [.p (some 16) (.move (.t 7)),
    .p (some 17) (.move (.t 5)),
    .p (some 18) (.bin .lss .int [] (.t 16) (.t 17))])
  (c11_k8))
  (c11_k7)
def c11_k10 : C :=
  .block 2 (.loop [3, 4, 5, 6, 7] c11_l9)
def c11_k11 : C :=
  .seq (.seq (.ops [3, 4, 5, 6, 7] [.p (some 7) (.move (.c (.int .i64 0)))])
  (c11_k10))
  (c11_k3)
def c11_k12 : C :=
  .seq (.ops [3, 4, 5, 6] [.p (some 6) (.move (.c (.int .i64 0)))])
  (c11_k11)
def c11_k13 : C :=
  .seq (.block 1 (c11_k12))
  (c11_k1)
def c11_k14 : C :=
  .cond (.t 13)
    (.skip)
    (.exit 0)
def c11_l15 : C :=
  .seq (.seq (.ops [3, 4, 5, 13] [.p (some 10) (.move (.t 5)),
    .p (some 11) (.move (.t 4)),
    .p (some 12) (.len .slice (.t 11)),
    .p (some 13) (.bin .lss .int [] (.t 10) (.t 12))])
  (c11_k14))
  (c11_k13)
def c11_k16 : C :=
  .block 0 (.loop [3, 4, 5] c11_l15)
def c11_k17 : C :=
  .seq (.seq (.ops [3, 4, 5] [.p (some 5) (.move (.c (.int .i64 0)))])
  (c11_k16))
  (c11_k0)
def c11_k18 : C :=
  .seq (.ops [3, 4] [.p (some 8) (.move (.t 0)),
    .call (some 9) 9 [(.t 8)],
    .p (some 4) (.move (.t 9))])
  (c11_k17)
def c11_k19 : C :=
  .seq (.ops [0, 3] [.p (some 3) (.move (.c .nils))])
  (c11_k18)
def c11 : FnC := ⟨1, 42, [.tmp 2],
  .seq (.ops [0] [.p (some 2) (.move (.c .nils))])
  (c11_k19),
  []⟩

/-! 4: gossamer/gossamerlaw31.StoryCounts -/
def c4_k0 : C :=
  .seq (.drw [2] 0 [⟨.none, .p (some 65) (.move (.t 3)), [], 0⟩,
    ⟨.none, .call (some 66) 15 [(.t 65)], [0], 0⟩,
    ⟨.none, .p (some 67) (.load true 10 (.t 5)), [], 0⟩,
    ⟨.none, .p (some 68) (.bin .eql .flat (List.replicate 10 (.int .i64)) (.t 66) (.t 67)), [1, 2], 0⟩,
    ⟨.none, .p (some 69) (.move (.t 68)), [3, 1], 0⟩,
    ⟨(some (69, true)), .p (some 70) (.move (.t 11)), [4], 0⟩,
    ⟨(some (69, true)), .p (some 71) (.bin .eql .iface [] (.t 70) (.c .nili)), [5, 4], 0⟩,
    ⟨.none, .p (some 72) (.pick (.t 69) (.t 71) (.c (.bool false))), [4, 6], 0⟩,
    ⟨.none, .p (some 73) (.move (.t 72)), [7, 4], 0⟩,
    ⟨(some (73, true)), .p (some 74) (.move (.t 10)), [8], 0⟩,
    ⟨(some (73, true)), .p (some 75) (.move (.t 6)), [8], 0⟩,
    ⟨(some (73, true)), .p (some 76) (.bin .eql .int [] (.t 74) (.t 75)), [9, 10, 8], 0⟩,
    ⟨.none, .p (some 77) (.pick (.t 73) (.t 76) (.c (.bool false))), [8, 11], 0⟩,
    ⟨.none, .p (some 2) (.move (.t 77)), [12, 8, 0, 1, 2, 3, 4, 5, 6, 7, 8, 9, 10, 11, 12], 0⟩])
  (.ret)
def c4_k1 : C :=
  .seq (.drw [2] 0 [⟨.none, .p (some 53) (.move (.t 3)), [], 0⟩,
      ⟨.none, .call (some 54) 15 [(.t 53)], [0], 0⟩,
      ⟨.none, .p (some 55) (.load true 10 (.t 5)), [], 0⟩,
      ⟨.none, .p (some 56) (.bin .eql .flat (List.replicate 10 (.int .i64)) (.t 54) (.t 55)), [1, 2], 0⟩,
      ⟨.none, .p (some 57) (.move (.t 56)), [3, 1], 0⟩,
      ⟨(some (57, true)), .p (some 58) (.move (.t 11)), [4], 0⟩,
      ⟨(some (57, true)), .call (some 59) 16 [(.t 58), (.c (.int .i64 2))], [5, 4, 4], 0⟩,
      ⟨.none, .p (some 60) (.pick (.t 57) (.t 59) (.c (.bool false))), [4, 6], 0⟩,
      ⟨.none, .p (some 61) (.move (.t 60)), [7, 6], 0⟩,
      ⟨(some (61, true)), .p (some 62) (.move (.t 10)), [8], 0⟩,
      ⟨(some (61, true)), .p (some 63) (.bin .eql .int [] (.t 62) (.c (.int .i64 0))), [9, 8], 0⟩,
      ⟨.none, .p (some 64) (.pick (.t 61) (.t 63) (.c (.bool false))), [8, 10], 0⟩,
      ⟨.none, .p (some 2) (.move (.t 64)), [11, 8, 0, 1, 2, 3, 4, 5, 6, 7, 8, 9, 10, 11], 0⟩])
    (.ret)
def c4_k2 : C :=
  .cond (.t 52)
    (c4_k1)
    (.skip)
def c4_k3 : C :=
  .seq (.seq (.ops [3, 5, 6, 10, 11, 52, 58, 59, 62, 63, 70, 71, 74, 75, 76] [.p (some 51) (.move (.t 7)),
    .p (some 52) (.una .not (.t 51))])
  (c4_k2))
  (c4_k0)
def c4_k4 : C :=
  .seq (.ops [3, 5, 6, 7, 10, 11, 58, 59, 62, 63, 70, 71, 74, 75, 76] [.p (some 47) (.move (.t 3)),
    .call (some 48) 14 [(.t 47)],
    .p (some 46) (.move (.t 48)),
    .p (some 49) (.extract (.t 46) 0),
    .p (some 50) (.extract (.t 46) 1),
    .p (some 10) (.move (.t 49)),
    .p (some 11) (.move (.t 50))])
  (c4_k3)
def c4_k5 : C :=
  .ops [3, 5, 6, 7, 22, 23, 24, 58, 59, 62, 63, 70, 71, 74, 75, 76] [.p (some 36) (.move (.t 6)),
    .p (some 37) (.load true 11 (.t 9)),
    .call (some 38) 13 [(.t 37)],
    .p (some 39) (.len .slice (.t 38)),
    .p (some 40) (.bin .add .int [] (.t 36) (.t 39)),
    .p (some 6) (.move (.t 40))]
def c4_k6 : C :=
  .seq (.ops [3, 5, 6, 7, 9, 22, 23, 24, 58, 59, 62, 63, 70, 71, 74, 75, 76] [.p (some 30) (.faddr 0 (.t 9)),
      .p (some 31) (.load false 1 (.t 30)),
      .p (some 32) (.iaddrArr 10 1 (.t 5) (.t 31)),
      .p (some 33) (.load false 1 (.t 32)),
      .p (some 34) (.bin .add .int [] (.t 33) (.c (.int .i64 1))),
      .p (some 35) (.iaddrArr 10 1 (.t 5) (.t 31)),
      .e .none (.store 1 (.t 35) (.t 34))])
    (c4_k5)
def c4_k7 : C :=
  .cond (.t 29)
    (c4_k6)
    (.seq (.ops [3, 5, 6, 22, 23, 24, 58, 59, 62, 63, 70, 71, 74, 75, 76] [.p (some 41) (.iaddrArr 10 1 (.t 5) (.c (.int .i64 0))),
      .p (some 42) (.load false 1 (.t 41)),
      .p (some 43) (.bin .add .int [] (.t 42) (.c (.int .i64 1))),
      .p (some 44) (.iaddrArr 10 1 (.t 5) (.c (.int .i64 0))),
      .e .none (.store 1 (.t 44) (.t 43))])
    (.ops [3, 5, 6, 7, 22, 23, 24, 58, 59, 62, 63, 70, 71, 74, 75, 76] [.p (some 7) (.move (.c (.bool false)))]))
def c4_k8 : C :=
  .seq (.ops [3, 5, 6, 7, 9, 22, 23, 24, 29, 58, 59, 62, 63, 70, 71, 74, 75, 76] [.p (some 28) (.load true 11 (.t 9)),
    .call (some 29) 12 [(.t 28)]])
  (c4_k7)
def c4_k9 : C :=
  .seq (.ops [3, 5, 6, 7, 9, 22, 23, 24, 58, 59, 62, 63, 70, 71, 74, 75, 76] [.p (some 26) (.iaddr 11 (.t 22) (.t 24)),
    .p (some 27) (.load true 11 (.t 26)),
    .e (some 9) (.alloc [(.d (.int .i64 0)), (.d (.int .u64 0)), (.d (.int .i64 0)), (.d (.int .i64 0)), (.d .nils), (.d (.bool false)), (.d .nils), (.d .nils), (.d .nils), (.d .nils), (.d (.bool false))]),
    .e .none (.store 11 (.t 9) (.t 27))])
  (c4_k8)
def c4_k10 : C :=
  .seq (.block 1 (c4_k9))
  (.ops [3, 5, 6, 7, 22, 23, 24, 58, 59, 62, 63, 70, 71, 74, 75, 76] [.p (some 45) (.bin .add .int [] (.t 24) (.c (.int .i64 1))),
    .p (some 24) (.move (.t 45))])
def c4_k11 : C :=
  .seq (.cond (.t 25)
    (.skip)
    (.exit 0))
  (c4_k10)
def c4_l12 : C :=
  .seq (.ops [3, 5, 6, 7, 22, 23, 24, 25, 58, 59, 62, 63, 70, 71, 74, 75, 76] [.p (some 25) (.bin .lss .int [] (.t 24) (.t 23))])
  (c4_k11)
def c4_k13 : C :=
  .block 0 (.loop [3, 5, 6, 7, 22, 23, 24, 58, 59, 62, 63, 70, 71, 74, 75, 76] c4_l12)
def c4_k14 : C :=
  .seq (.seq (.ops [3, 5, 6, 7, 22, 23, 24, 58, 59, 62, 63, 70, 71, 74, 75, 76] [.p (some 22) (.move (.t 0)),
    .p (some 23) (.len .slice (.t 22)),
    .p (some 24) (.move (.c (.int .i64 0)))])
  (c4_k13))
  (c4_k4)
def c4_k15 : C :=
  .seq (.ops [0, 3, 5, 6, 7, 58, 59, 62, 63, 70, 71, 74, 75, 76] [.p (some 21) (.build (List.replicate 10 (.int .i64 0)) []),
    .e (some 5) (.alloc (List.replicate 10 (.d (.int .i64 0)))),
    .e .none (.store 10 (.t 5) (.t 21)),
    .p (some 6) (.move (.c (.int .i64 0))),
    .p (some 7) (.move (.c (.bool true)))])
  (c4_k14)
def c4_k16 : C :=
  .cond (.t 20)
    (.seq (.ops [2] [.p (some 2) (.move (.c (.bool true)))])
    (.ret))
    (.skip)
def c4_k17 : C :=
  .seq (.seq (.ops [0, 3, 20, 58, 59, 62, 63, 70, 71, 74, 75, 76] [.p (some 19) (.move (.t 4)),
    .p (some 20) (.una .not (.t 19))])
  (c4_k16))
  (c4_k15)
def c4_k18 : C :=
  .seq (.ops [0, 3, 4, 58, 59, 62, 63, 70, 71, 74, 75, 76] [.p (some 15) (.move (.t 0)),
    .call (some 16) 6 [(.t 15)],
    .p (some 14) (.move (.t 16)),
    .p (some 17) (.extract (.t 14) 0),
    .p (some 18) (.extract (.t 14) 1),
    .p (some 3) (.move (.t 17)),
    .p (some 4) (.move (.t 18))])
  (c4_k17)
def c4_k19 : C :=
  .cond (.t 13)
    (.seq (.ops [2] [.p (some 2) (.move (.c (.bool false)))])
    (.ret))
    (.skip)
def c4_k20 : C :=
  .seq (.seq (.ops [0, 13, 58, 59, 62, 63, 70, 71, 74, 75, 76] [.call (some 12) 5 [],
    .p (some 13) (.una .not (.t 12))])
  (c4_k19))
  (c4_k18)
def c4 : FnC := ⟨1, 78, [.tmp 2],
  .seq (.ops [0, 58, 59, 62, 63, 70, 71, 74, 75, 76] [.p (some 2) (.move (.c (.bool false)))])
  (c4_k20),
  []⟩

/-! 12: gossamer/gossamerref21.Good -/
def c12_k0 : C :=
  .seq (.ops [2] [.p (some 125) (.faddr 8 (.t 1)),
    .p (some 126) (.load true 3 (.t 125)),
    .call (some 127) 23 [(.t 126)],
    .p (some 128) (.bin .eql .int [] (.t 127) (.c (.int .i64 0))),
    .p (some 2) (.move (.t 128))])
  (.ret)
def c12_k1 : C :=
  .seq (.ops [2] [.p (some 107) (.faddr 8 (.t 1)),
      .p (some 108) (.faddr 0 (.t 107)),
      .p (some 109) (.load false 1 (.t 108)),
      .p (some 110) (.len .slice (.t 109)),
      .p (some 111) (.bin .eql .int [] (.t 110) (.c (.int .i64 0))),
      .p (some 112) (.move (.t 111)),
      .when 112 true [.p (some 113) (.faddr 8 (.t 1)),
        .p (some 114) (.faddr 1 (.t 113)),
        .p (some 115) (.load false 1 (.t 114)),
        .p (some 116) (.len .slice (.t 115)),
        .p (some 117) (.bin .eql .int [] (.t 116) (.c (.int .i64 0)))],
      .p (some 118) (.pick (.t 112) (.t 117) (.c (.bool false))),
      .p (some 119) (.move (.t 118)),
      .when 119 true [.p (some 120) (.faddr 8 (.t 1)),
        .p (some 121) (.faddr 2 (.t 120)),
        .p (some 122) (.load false 1 (.t 121)),
        .p (some 123) (.una .not (.t 122))],
      .p (some 124) (.pick (.t 119) (.t 123) (.c (.bool false))),
      .p (some 2) (.move (.t 124))])
    (.ret)
def c12_k2 : C :=
  .cond (.t 106)
    (c12_k1)
    (.skip)
def c12_k3 : C :=
  .seq (.seq (.ops [1, 106, 117, 123] [.p (some 105) (.move (.t 3)),
    .p (some 106) (.bin .neq .int [] (.t 105) (.c (.int .i64 8)))])
  (c12_k2))
  (c12_k0)
def c12_k4 : C :=
  .cond (.t 104)
    (.seq (.ops [2] [.p (some 2) (.move (.c (.bool false)))])
    (.ret))
    (.skip)
def c12_k5 : C :=
  .seq (.seq (.ops [1, 3, 104, 117, 123] [.p (some 83) (.move (.t 3)),
    .p (some 84) (.bin .neq .int [] (.t 83) (.c (.int .i64 6))),
    .p (some 85) (.move (.t 84)),
    .when 85 true [.p (some 86) (.move (.t 3)),
      .p (some 87) (.bin .neq .int [] (.t 86) (.c (.int .i64 7)))],
    .p (some 88) (.pick (.t 85) (.t 87) (.c (.bool false))),
    .p (some 89) (.move (.t 88)),
    .when 89 true [.p (some 90) (.move (.t 3)),
      .p (some 91) (.bin .neq .int [] (.t 90) (.c (.int .i64 9)))],
    .p (some 92) (.pick (.t 89) (.t 91) (.c (.bool false))),
    .p (some 93) (.move (.t 92)),
    .when 93 true [.p (some 94) (.faddr 7 (.t 1)),
      .p (some 95) (.load false 1 (.t 94)),
      .p (some 96) (.len .slice (.t 95)),
      .p (some 97) (.bin .gtr .int [] (.t 96) (.c (.int .i64 0)))],
    .p (some 98) (.pick (.t 93) (.t 97) (.c (.bool false))),
    .p (some 99) (.move (.t 98)),
    .when 99 false [.p (some 100) (.faddr 7 (.t 1)),
      .p (some 101) (.load false 1 (.t 100)),
      .p (some 102) (.len .slice (.t 101)),
      .p (some 103) (.bin .gtr .int [] (.t 102) (.c (.int .i64 100)))],
    .p (some 104) (.pick (.t 99) (.c (.bool true)) (.t 103))])
  (c12_k4))
  (c12_k3)
def c12_k6 : C :=
  .cond (.t 82)
    (.seq (.ops [2] [.p (some 2) (.move (.c (.bool false)))])
    (.ret))
    (.skip)
def c12_k7 : C :=
  .seq (.seq (.ops [1, 3, 82, 87, 91, 97, 103, 117, 123] [.p (some 65) (.move (.t 3)),
    .p (some 66) (.bin .neq .int [] (.t 65) (.c (.int .i64 5))),
    .p (some 67) (.move (.t 66)),
    .when 67 true [.p (some 68) (.faddr 5 (.t 1)),
      .p (some 69) (.load false 1 (.t 68)),
      .p (some 70) (.move (.t 69))],
    .when 70 false [.p (some 71) (.faddr 6 (.t 1)),
      .p (some 72) (.load false 1 (.t 71)),
      .p (some 73) (.len .slice (.t 72)),
      .p (some 74) (.bin .gtr .int [] (.t 73) (.c (.int .i64 0)))],
    .when 67 true [.p (some 75) (.pick (.t 70) (.c (.bool true)) (.t 74))],
    .p (some 76) (.pick (.t 67) (.t 75) (.c (.bool false))),
    .p (some 77) (.move (.t 76)),
    .when 77 false [.p (some 78) (.faddr 6 (.t 1)),
      .p (some 79) (.load false 1 (.t 78)),
      .p (some 80) (.len .slice (.t 79)),
      .p (some 81) (.bin .gtr .int [] (.t 80) (.c (.int .i64 100)))],
    .p (some 82) (.pick (.t 77) (.c (.bool true)) (.t 81))])
  (c12_k6))
  (c12_k5)
def c12_k8 : C :=
  .cond (.t 64)
    (.seq (.ops [2] [.p (some 2) (.move (.c (.bool false)))])
    (.ret))
    (.skip)
def c12_k9 : C :=
  .seq (.seq (.ops [1, 3, 64, 70, 74, 75, 81, 87, 91, 97, 103, 117, 123] [.p (some 51) (.move (.t 3)),
    .p (some 52) (.bin .neq .int [] (.t 51) (.c (.int .i64 3))),
    .p (some 53) (.move (.t 52)),
    .when 53 true [.p (some 54) (.faddr 4 (.t 1)),
      .p (some 55) (.load false 1 (.t 54)),
      .p (some 56) (.len .slice (.t 55)),
      .p (some 57) (.bin .gtr .int [] (.t 56) (.c (.int .i64 0)))],
    .p (some 58) (.pick (.t 53) (.t 57) (.c (.bool false))),
    .p (some 59) (.move (.t 58)),
    .when 59 false [.p (some 60) (.faddr 4 (.t 1)),
      .p (some 61) (.load false 1 (.t 60)),
      .p (some 62) (.len .slice (.t 61)),
      .p (some 63) (.bin .gtr .int [] (.t 62) (.c (.int .i64 160)))],
    .p (some 64) (.pick (.t 59) (.c (.bool true)) (.t 63))])
  (c12_k8))
  (c12_k7)
def c12_k10 : C :=
  .cond (.t 50)
    (.seq (.ops [2] [.p (some 2) (.move (.c (.bool false)))])
    (.ret))
    (.skip)
def c12_k11 : C :=
  .seq (.seq (.ops [1, 3, 50, 57, 63, 70, 74, 75, 81, 87, 91, 97, 103, 117, 123] [.p (some 19) (.move (.t 3)),
    .p (some 20) (.bin .neq .int [] (.t 19) (.c (.int .i64 2))),
    .p (some 21) (.move (.t 20)),
    .when 21 true [.p (some 22) (.faddr 2 (.t 1)),
      .p (some 23) (.load false 1 (.t 22)),
      .p (some 24) (.bin .neq .int [] (.t 23) (.c (.int .i64 0))),
      .p (some 25) (.move (.t 24))],
    .when 25 false [.p (some 26) (.faddr 3 (.t 1)),
      .p (some 27) (.load false 1 (.t 26)),
      .p (some 28) (.bin .neq .int [] (.t 27) (.c (.int .i64 0)))],
    .when 21 true [.p (some 29) (.pick (.t 25) (.c (.bool true)) (.t 28))],
    .p (some 30) (.pick (.t 21) (.t 29) (.c (.bool false))),
    .p (some 31) (.move (.t 30)),
    .when 31 false [.p (some 32) (.faddr 2 (.t 1)),
      .p (some 33) (.load false 1 (.t 32)),
      .p (some 34) (.bin .lss .int [] (.t 33) (.c (.int .i64 0)))],
    .p (some 35) (.pick (.t 31) (.c (.bool true)) (.t 34)),
    .p (some 36) (.move (.t 35)),
    .when 36 false [.p (some 37) (.faddr 2 (.t 1)),
      .p (some 38) (.load false 1 (.t 37)),
      .p (some 39) (.bin .gtr .int [] (.t 38) (.c (.int .i64 65535)))],
    .p (some 40) (.pick (.t 36) (.c (.bool true)) (.t 39)),
    .p (some 41) (.move (.t 40)),
    .when 41 false [.p (some 42) (.faddr 3 (.t 1)),
      .p (some 43) (.load false 1 (.t 42)),
      .p (some 44) (.bin .lss .int [] (.t 43) (.c (.int .i64 0)))],
    .p (some 45) (.pick (.t 41) (.c (.bool true)) (.t 44)),
    .p (some 46) (.move (.t 45)),
    .when 46 false [.p (some 47) (.faddr 3 (.t 1)),
      .p (some 48) (.load false 1 (.t 47)),
      .p (some 49) (.bin .gtr .int [] (.t 48) (.c (.int .i64 65535)))],
    .p (some 50) (.pick (.t 46) (.c (.bool true)) (.t 49))])
  (c12_k10))
  (c12_k9)
def c12_k12 : C :=
  .cond (.t 18)
    (.seq (.ops [2] [.p (some 2) (.move (.c (.bool false)))])
    (.ret))
    (.skip)
def c12_k13 : C :=
  .seq (.seq (.ops [1, 3, 18, 25, 28, 29, 34, 39, 44, 49, 57, 63, 70, 74, 75, 81, 87, 91, 97, 103, 117, 123] [.p (some 12) (.move (.t 3)),
    .p (some 13) (.bin .neq .int [] (.t 12) (.c (.int .i64 1))),
    .p (some 14) (.move (.t 13)),
    .when 14 true [.p (some 15) (.faddr 1 (.t 1)),
      .p (some 16) (.load false 1 (.t 15)),
      .p (some 17) (.bin .neq .int [] (.t 16) (.c (.int .u64 0)))],
    .p (some 18) (.pick (.t 14) (.t 17) (.c (.bool false)))])
  (c12_k12))
  (c12_k11)
def c12_k14 : C :=
  .cond (.t 11)
    (.seq (.ops [2] [.p (some 2) (.move (.c (.bool false)))])
    (.ret))
    (.skip)
def c12_k15 : C :=
  .seq (.seq (.ops [1, 3, 11, 17, 25, 28, 29, 34, 39, 44, 49, 57, 63, 70, 74, 75, 81, 87, 91, 97, 103, 117, 123] [.p (some 6) (.move (.t 3)),
    .p (some 7) (.bin .lss .int [] (.t 6) (.c (.int .i64 1))),
    .p (some 8) (.move (.t 7)),
    .when 8 false [.p (some 9) (.move (.t 3)),
      .p (some 10) (.bin .gtr .int [] (.t 9) (.c (.int .i64 9)))],
    .p (some 11) (.pick (.t 8) (.c (.bool true)) (.t 10))])
  (c12_k14))
  (c12_k13)
def c12_k16 : C :=
  .seq (.ops [1, 3, 10, 17, 25, 28, 29, 34, 39, 44, 49, 57, 63, 70, 74, 75, 81, 87, 91, 97, 103, 117, 123] [.p (some 4) (.faddr 0 (.t 1)),
    .p (some 5) (.load false 1 (.t 4)),
    .p (some 3) (.move (.t 5))])
  (c12_k15)
def c12 : FnC := ⟨1, 129, [.tmp 2],
  .seq (.ops [1, 10, 17, 25, 28, 29, 34, 39, 44, 49, 57, 63, 70, 74, 75, 81, 87, 91, 97, 103, 117, 123] [.e (some 1) (.box (.t 0)),
    .p (some 2) (.move (.c (.bool false)))])
  (c12_k16),
  []⟩

/-! 23: gossamer/gossamerref10.Check -/
def c23_k0 : C :=
  .ops [1, 6] [.p (some 78) (.move (.t 6)),
    .p (some 79) (.bin .add .int [] (.t 78) (.c (.int .i64 1))),
    .p (some 6) (.move (.t 79))]
def c23_k1 : C :=
  .ops [1, 6, 7] [.p (some 83) (.move (.t 7)),
    .p (some 84) (.bin .add .int [] (.t 83) (.c (.int .i64 1))),
    .p (some 7) (.move (.t 84))]
def c23_k2 : C :=
  .cond (.t 97)
    (.seq (.ops [2] [.p (some 2) (.move (.c (.int .i64 8)))])
    (.ret))
    (.skip)
def c23_k3 : C :=
  .seq (.drw [1, 6, 7, 97] 0 [⟨.none, .p (some 85) (.faddr 0 (.t 1)), [], 0⟩,
    ⟨.none, .p (some 86) (.load false 1 (.t 85)), [0], 0⟩,
    ⟨.none, .p (some 87) (.move (.t 6)), [], 0⟩,
    ⟨.none, .p (some 88) (.iaddr 35 (.t 86) (.t 87)), [1, 2], 0⟩,
    ⟨.none, .p (some 89) (.faddr 0 (.t 88)), [3], 0⟩,
    ⟨.none, .p (some 90) (.load true 33 (.t 89)), [4], 0⟩,
    ⟨.none, .p (some 91) (.faddr 0 (.t 1)), [], 0⟩,
    ⟨.none, .p (some 92) (.load false 1 (.t 91)), [6], 0⟩,
    ⟨.none, .p (some 93) (.move (.t 7)), [], 0⟩,
    ⟨.none, .p (some 94) (.iaddr 35 (.t 92) (.t 93)), [7, 8], 0⟩,
    ⟨.none, .p (some 95) (.faddr 0 (.t 94)), [9], 0⟩,
    ⟨.none, .p (some 96) (.load true 33 (.t 95)), [10], 0⟩,
    ⟨.none, .p (some 97) (.bin .eql .flat (List.replicate 32 (.int .u8) ++ [(.int .i64)]) (.t 90) (.t 96)), [5, 11], 0⟩])
  (c23_k2)
def c23_k4 : C :=
  .seq (.block 5 (c23_k3))
  (c23_k1)
def c23_k5 : C :=
  .cond (.t 82)
    (.skip)
    (.exit 4)
def c23_l6 : C :=
  .seq (.seq (.ops [1, 6, 7, 82] [.p (some 80) (.move (.t 7)),
    .p (some 81) (.move (.t 6)),
    .p (some 82) (.bin .lss .int [] (.t 80) (.t 81))])
  (c23_k5))
  (c23_k4)
def c23_k7 : C :=
  .block 4 (.loop [1, 6, 7] c23_l6)
def c23_k8 : C :=
  .seq (.block 3 (.seq (.ops [1, 6, 7] [.p (some 7) (.move (.c (.int .i64 0)))])
  (c23_k7)))
  (c23_k0)
def c23_k9 : C :=
  .cond (.t 77)
    (.skip)
    (.exit 2)
def c23_l10 : C :=
  .seq (.seq (.ops [1, 6, 77] [.p (some 73) (.move (.t 6)),
    .p (some 74) (.faddr 0 (.t 1)),
    .p (some 75) (.load false 1 (.t 74)),
    .p (some 76) (.len .slice (.t 75)),
    .p (some 77) (.bin .lss .int [] (.t 73) (.t 76))])
  (c23_k9))
  (c23_k8)
def c23_k11 : C :=
  .block 2 (.loop [1, 6] c23_l10)
def c23_k12 : C :=
  .seq (.seq (.ops [1, 6] [.p (some 6) (.move (.c (.int .i64 0)))])
  (c23_k11))
  (.seq (.ops [2] [.p (some 2) (.move (.c (.int .i64 0)))])
  (.ret))
def c23_k13 : C :=
  .cond (.t 71)
    (.seq (.ops [2] [.p (some 72) (.move (.t 5)),
      .p (some 2) (.move (.t 72))])
    (.ret))
    (.skip)
def c23_k14 : C :=
  .seq (.ops [1, 5, 71] [.p (some 70) (.move (.t 5)),
    .p (some 71) (.bin .neq .int [] (.t 70) (.c (.int .i64 0)))])
  (c23_k13)
def c23_k15 : C :=
  .seq (.seq (.ops [1, 5] [.p (some 66) (.load true 3 (.t 1)),
    .call (some 67) 37 [(.t 66)],
    .p (some 65) (.move (.t 67)),
    .p (some 68) (.extract (.t 65) 0),
    .p (some 69) (.extract (.t 65) 1),
    .p (some 4) (.move (.t 68)),
    .p (some 5) (.move (.t 69))])
  (c23_k14))
  (c23_k12)
def c23_k16 : C :=
  .ops [1, 3, 53, 63] [.p (some 35) (.move (.t 3)),
    .p (some 36) (.bin .add .int [] (.t 35) (.c (.int .i64 1))),
    .p (some 3) (.move (.t 36))]
def c23_k17 : C :=
  .cond (.t 64)
    (.seq (.ops [2] [.p (some 2) (.move (.c (.int .i64 2)))])
    (.ret))
    (.skip)
def c23_k18 : C :=
  .seq (.ops [1, 3, 53, 63, 64] [.p (some 37) (.faddr 0 (.t 1)),
    .p (some 38) (.load false 1 (.t 37)),
    .p (some 39) (.move (.t 3)),
    .p (some 40) (.iaddr 35 (.t 38) (.t 39)),
    .p (some 41) (.faddr 33 (.t 40)),
    .p (some 42) (.load false 1 (.t 41)),
    .p (some 43) (.len .str (.t 42)),
    .p (some 44) (.bin .gtr .int [] (.t 43) (.c (.int .i64 32))),
    .p (some 45) (.move (.t 44)),
    .when 45 false [.p (some 46) (.faddr 0 (.t 1)),
      .p (some 47) (.load false 1 (.t 46)),
      .p (some 48) (.move (.t 3)),
      .p (some 49) (.iaddr 35 (.t 47) (.t 48)),
      .p (some 50) (.faddr 0 (.t 49)),
      .p (some 51) (.faddr 32 (.t 50)),
      .p (some 52) (.load false 1 (.t 51)),
      .p (some 53) (.bin .lss .int [] (.t 52) (.c (.int .i64 0)))],
    .p (some 54) (.pick (.t 45) (.c (.bool true)) (.t 53)),
    .p (some 55) (.move (.t 54)),
    .when 55 false [.p (some 56) (.faddr 0 (.t 1)),
      .p (some 57) (.load false 1 (.t 56)),
      .p (some 58) (.move (.t 3)),
      .p (some 59) (.iaddr 35 (.t 57) (.t 58)),
      .p (some 60) (.faddr 0 (.t 59)),
      .p (some 61) (.faddr 32 (.t 60)),
      .p (some 62) (.load false 1 (.t 61)),
      .p (some 63) (.bin .gtr .int [] (.t 62) (.c (.int .i64 7)))],
    .p (some 64) (.pick (.t 55) (.c (.bool true)) (.t 63))])
  (c23_k17)
def c23_k19 : C :=
  .seq (.block 1 (c23_k18))
  (c23_k16)
def c23_k20 : C :=
  .cond (.t 34)
    (.skip)
    (.exit 0)
def c23_l21 : C :=
  .seq (.seq (.ops [1, 3, 34, 53, 63] [.p (some 30) (.move (.t 3)),
    .p (some 31) (.faddr 0 (.t 1)),
    .p (some 32) (.load false 1 (.t 31)),
    .p (some 33) (.len .slice (.t 32)),
    .p (some 34) (.bin .lss .int [] (.t 30) (.t 33))])
  (c23_k20))
  (c23_k19)
def c23_k22 : C :=
  .block 0 (.loop [1, 3, 53, 63] c23_l21)
def c23_k23 : C :=
  .seq (.seq (.ops [1, 3, 53, 63] [.p (some 3) (.move (.c (.int .i64 0)))])
  (c23_k22))
  (c23_k15)
def c23_k24 : C :=
  .cond (.t 29)
    (.seq (.ops [2] [.p (some 2) (.move (.c (.int .i64 2)))])
    (.ret))
    (.skip)
def c23_k25 : C :=
  .seq (.seq (.ops [1, 29, 53, 63] [.p (some 8) (.faddr 0 (.t 1)),
    .p (some 9) (.load false 1 (.t 8)),
    .p (some 10) (.len .slice (.t 9)),
    .p (some 11) (.bin .lss .int [] (.t 10) (.c (.int .i64 1))),
    .p (some 12) (.move (.t 11)),
    .when 12 false [.p (some 13) (.faddr 0 (.t 1)),
      .p (some 14) (.load false 1 (.t 13)),
      .p (some 15) (.len .slice (.t 14)),
      .p (some 16) (.bin .gtr .int [] (.t 15) (.c (.int .i64 8)))],
    .p (some 17) (.pick (.t 12) (.c (.bool true)) (.t 16)),
    .p (some 18) (.move (.t 17)),
    .when 18 false [.p (some 19) (.faddr 1 (.t 1)),
      .p (some 20) (.load false 1 (.t 19)),
      .p (some 21) (.len .slice (.t 20)),
      .p (some 22) (.bin .lss .int [] (.t 21) (.c (.int .i64 1)))],
    .p (some 23) (.pick (.t 18) (.c (.bool true)) (.t 22)),
    .p (some 24) (.move (.t 23)),
    .when 24 false [.p (some 25) (.faddr 1 (.t 1)),
      .p (some 26) (.load false 1 (.t 25)),
      .p (some 27) (.len .slice (.t 26)),
      .p (some 28) (.bin .gtr .int [] (.t 27) (.c (.int .i64 8)))],
    .p (some 29) (.pick (.t 24) (.c (.bool true)) (.t 28))])
  (c23_k24))
  (c23_k23)
def c23 : FnC := ⟨1, 98, [.tmp 2],
  .seq (.ops [1, 16, 22, 28, 53, 63] [.e (some 1) (.box (.t 0)),
    .p (some 2) (.move (.c (.int .i64 0)))])
  (c23_k25),
  []⟩

/-! 37: gossamer/gossamerref10.Out -/
def c37_k0 : C :=
  .seq (.ops [2, 3] [.p (some 22) (.move (.t 4)),
    .call (some 23) 56 [(.t 22)],
    .p (some 24) (.extract (.t 23) 0),
    .p (some 25) (.extract (.t 23) 1),
    .p (some 2) (.move (.t 24)),
    .p (some 3) (.move (.t 25))])
  (.ret)
def c37_k1 : C :=
  .ops [1, 4, 5] [.p (some 11) (.move (.t 5)),
    .p (some 12) (.bin .add .int [] (.t 11) (.c (.int .i64 1))),
    .p (some 5) (.move (.t 12))]
def c37_k2 : C :=
  .seq (.block 1 (.ops [1, 4, 5] [.p (some 13) (.move (.t 4)),
    .p (some 14) (.faddr 1 (.t 1)),
    .p (some 15) (.load false 1 (.t 14)),
    .p (some 16) (.move (.t 5)),
    .p (some 17) (.iaddr 2 (.t 15) (.t 16)),
    .p (some 18) (.faddr 0 (.t 17)),
    .p (some 19) (.load false 1 (.t 18)),
    .p (some 20) (.bslice 3 1 1 [(.int .i64 0)] [(0, (.t 19))]),
    .e (some 21) (.append 3 1 8 (.t 13) (.t 20)),
    .p (some 4) (.move (.t 21))]))
  (c37_k1)
def c37_k3 : C :=
  .cond (.t 10)
    (.skip)
    (.exit 0)
def c37_l4 : C :=
  .seq (.seq (.ops [1, 4, 5, 10] [.p (some 6) (.move (.t 5)),
    .p (some 7) (.faddr 1 (.t 1)),
    .p (some 8) (.load false 1 (.t 7)),
    .p (some 9) (.len .slice (.t 8)),
    .p (some 10) (.bin .lss .int [] (.t 6) (.t 9))])
  (c37_k3))
  (c37_k2)
def c37_k5 : C :=
  .block 0 (.loop [1, 4, 5] c37_l4)
def c37_k6 : C :=
  .seq (.seq (.ops [1, 4, 5] [.p (some 5) (.move (.c (.int .i64 0)))])
  (c37_k5))
  (c37_k0)
def c37_k7 : C :=
  .seq (.ops [1, 4] [.p (some 4) (.move (.c .nils))])
  (c37_k6)
def c37 : FnC := ⟨1, 26, [.tmp 2, .tmp 3],
  .seq (.ops [1] [.e (some 1) (.box (.t 0)),
    .p (some 2) (.move (.c (.int .i64 0))),
    .p (some 3) (.move (.c (.int .i64 0)))])
  (c37_k7),
  []⟩

/-! 56: gossamer/gossamerref09.Total -/
def c56_k0 : C :=
  .seq (.ops [2, 3] [.p (some 27) (.move (.t 4)),
    .p (some 2) (.move (.t 27)),
    .p (some 3) (.move (.c (.int .i64 0)))])
  (.ret)
def c56_k1 : C :=
  .ops [0, 4, 5] [.p (some 10) (.move (.t 5)),
    .p (some 11) (.bin .add .int [] (.t 10) (.c (.int .i64 1))),
    .p (some 5) (.move (.t 11))]
def c56_k2 : C :=
  .cond (.t 26)
    (.seq (.ops [2, 3] [.p (some 2) (.move (.c (.int .i64 0))),
      .p (some 3) (.move (.c (.int .i64 9)))])
    (.ret))
    (.skip)
def c56_k3 : C :=
  .seq (.ops [0, 4, 5, 26] [.p (some 24) (.move (.t 4)),
    .call (some 25) 77 [(.t 24)],
    .p (some 26) (.una .not (.t 25))])
  (c56_k2)
def c56_k4 : C :=
  .seq (.ops [0, 4, 5] [.p (some 18) (.move (.t 4)),
    .p (some 19) (.move (.t 0)),
    .p (some 20) (.move (.t 5)),
    .p (some 21) (.iaddr 1 (.t 19) (.t 20)),
    .p (some 22) (.load false 1 (.t 21)),
    .p (some 23) (.bin .add .int [] (.t 18) (.t 22)),
    .p (some 4) (.move (.t 23))])
  (c56_k3)
def c56_k5 : C :=
  .cond (.t 17)
    (.seq (.ops [2, 3] [.p (some 2) (.move (.c (.int .i64 0))),
      .p (some 3) (.move (.c (.int .i64 9)))])
    (.ret))
    (.skip)
def c56_k6 : C :=
  .seq (.seq (.ops [0, 4, 5, 17] [.p (some 12) (.move (.t 0)),
    .p (some 13) (.move (.t 5)),
    .p (some 14) (.iaddr 1 (.t 12) (.t 13)),
    .p (some 15) (.load false 1 (.t 14)),
    .call (some 16) 77 [(.t 15)],
    .p (some 17) (.una .not (.t 16))])
  (c56_k5))
  (c56_k4)
def c56_k7 : C :=
  .seq (.block 1 (c56_k6))
  (c56_k1)
def c56_k8 : C :=
  .cond (.t 9)
    (.skip)
    (.exit 0)
def c56_l9 : C :=
  .seq (.seq (.ops [0, 4, 5, 9] [.p (some 6) (.move (.t 5)),
    .p (some 7) (.move (.t 0)),
    .p (some 8) (.len .slice (.t 7)),
    .p (some 9) (.bin .lss .int [] (.t 6) (.t 8))])
  (c56_k8))
  (c56_k7)
def c56_k10 : C :=
  .block 0 (.loop [0, 4, 5] c56_l9)
def c56_k11 : C :=
  .seq (.seq (.ops [0, 4, 5] [.p (some 5) (.move (.c (.int .i64 0)))])
  (c56_k10))
  (c56_k0)
def c56_k12 : C :=
  .seq (.ops [0, 4] [.p (some 4) (.move (.c (.int .i64 0)))])
  (c56_k11)
def c56 : FnC := ⟨1, 28, [.tmp 2, .tmp 3],
  .seq (.ops [0] [.p (some 2) (.move (.c (.int .i64 0))),
    .p (some 3) (.move (.c (.int .i64 0)))])
  (c56_k12),
  []⟩

/-! 77: gossamer/gossamerref09.Good -/
def c77_k0 : C :=
  .seq (.ops [2] [.p (some 3) (.move (.t 0)),
    .p (some 4) (.bin .geq .int [] (.t 3) (.c (.int .i64 0))),
    .p (some 5) (.move (.t 4)),
    .when 5 true [.p (some 6) (.move (.t 0)),
      .p (some 7) (.bin .leq .int [] (.t 6) (.c (.int .i64 2100000000000000)))],
    .p (some 8) (.pick (.t 5) (.t 7) (.c (.bool false))),
    .p (some 2) (.move (.t 8))])
  (.ret)
def c77 : FnC := ⟨1, 9, [.tmp 2],
  .seq (.ops [0, 7] [.p (some 2) (.move (.c (.bool false)))])
  (c77_k0),
  []⟩

/-! 13: gossamer/gossamerref21.Frame -/
def c13_k0 : C :=
  .seq (.ops [2] [.p (some 22) (.move (.t 4)),
    .p (some 23) (.move (.t 3)),
    .e (some 24) (.append 5 1 1 (.t 22) (.t 23)),
    .p (some 2) (.move (.t 24))])
  (.ret)
def c13_k1 : C :=
  .seq (.ops [3, 4] [.p (some 16) (.move (.t 4)),
    .p (some 17) (.move (.t 3)),
    .call (some 18) 27 [(.t 17)],
    .call (some 19) 26 [(.t 18)],
    .p (some 20) (.slice 1 (.t 19) .none (some (.c (.int .i64 4))) .none),
    .e (some 21) (.append 5 1 1 (.t 16) (.t 20)),
    .p (some 4) (.move (.t 21))])
  (c13_k0)
def c13_k2 : C :=
  .seq (.ops [3, 4] [.p (some 7) (.faddr 0 (.t 1)),
    .p (some 8) (.load false 1 (.t 7)),
    .p (some 9) (.conv (.int .u64) (.t 8)),
    .call (some 10) 25 [(.t 9), (.c (.int .i64 1))],
    .p (some 11) (.move (.t 3)),
    .p (some 12) (.len .slice (.t 11)),
    .p (some 13) (.conv (.int .u64) (.t 12)),
    .call (some 14) 25 [(.t 13), (.c (.int .i64 4))],
    .e (some 15) (.append 5 1 1 (.t 10) (.t 14)),
    .p (some 4) (.move (.t 15))])
  (c13_k1)
def c13_k3 : C :=
  .seq (.ops [1, 3] [.p (some 5) (.load true 11 (.t 1)),
    .call (some 6) 24 [(.t 5)],
    .p (some 3) (.move (.t 6))])
  (c13_k2)
def c13 : FnC := ⟨1, 25, [.tmp 2],
  .seq (.ops [1] [.e (some 1) (.box (.t 0)),
    .p (some 2) (.move (.c .nils))])
  (c13_k3),
  []⟩

/-! 24: gossamer/gossamerref21.body -/
def c24_k0 : C :=
  .seq (.ops [2] [.p (some 87) (.move (.t 5)),
    .p (some 2) (.move (.t 87))])
  (.ret)
def c24_k1 : C :=
  .ops [1, 5, 6] [.p (some 77) (.move (.t 6)),
    .p (some 78) (.bin .add .int [] (.t 77) (.c (.int .i64 1))),
    .p (some 6) (.move (.t 78))]
def c24_k2 : C :=
  .seq (.block 4 (.ops [1, 5, 6] [.p (some 79) (.move (.t 5)),
    .p (some 80) (.faddr 7 (.t 1)),
    .p (some 81) (.load false 1 (.t 80)),
    .p (some 82) (.move (.t 6)),
    .p (some 83) (.iaddr 32 (.t 81) (.t 82)),
    .p (some 84) (.load true 32 (.t 83)),
    .call (some 85) 26 [(.t 84)],
    .e (some 86) (.append 5 1 1 (.t 79) (.t 85)),
    .p (some 5) (.move (.t 86))]))
  (c24_k1)
def c24_k3 : C :=
  .cond (.t 76)
    (.skip)
    (.exit 3)
def c24_l4 : C :=
  .seq (.seq (.ops [1, 5, 6, 76] [.p (some 72) (.move (.t 6)),
    .p (some 73) (.faddr 7 (.t 1)),
    .p (some 74) (.load false 1 (.t 73)),
    .p (some 75) (.len .slice (.t 74)),
    .p (some 76) (.bin .lss .int [] (.t 72) (.t 75))])
  (c24_k3))
  (c24_k2)
def c24_k5 : C :=
  .block 3 (.loop [1, 5, 6] c24_l4)
def c24_k6 : C :=
  .seq (.seq (.ops [1, 5, 6] [.p (some 6) (.move (.c (.int .i64 0)))])
  (c24_k5))
  (c24_k0)
def c24_k7 : C :=
  .seq (.ops [1, 5] [.p (some 68) (.faddr 7 (.t 1)),
    .p (some 69) (.load false 1 (.t 68)),
    .p (some 70) (.len .slice (.t 69)),
    .call (some 71) 39 [(.t 70)],
    .p (some 5) (.move (.t 71))])
  (c24_k6)
def c24_k8 : C :=
  .seq (.ops [2] [.p (some 62) (.move (.t 3)),
    .p (some 2) (.move (.t 62))])
  (.ret)
def c24_k9 : C :=
  .ops [1, 3, 4] [.p (some 51) (.move (.t 4)),
    .p (some 52) (.bin .add .int [] (.t 51) (.c (.int .i64 1))),
    .p (some 4) (.move (.t 52))]
def c24_k10 : C :=
  .seq (.block 2 (.ops [1, 3, 4] [.p (some 53) (.move (.t 3)),
    .p (some 54) (.faddr 6 (.t 1)),
    .p (some 55) (.load false 1 (.t 54)),
    .p (some 56) (.move (.t 4)),
    .p (some 57) (.iaddr 1 (.t 55) (.t 56)),
    .p (some 58) (.load false 1 (.t 57)),
    .p (some 59) (.conv (.int .u64) (.t 58)),
    .call (some 60) 25 [(.t 59), (.c (.int .i64 4))],
    .e (some 61) (.append 5 1 1 (.t 53) (.t 60)),
    .p (some 3) (.move (.t 61))]))
  (c24_k9)
def c24_k11 : C :=
  .cond (.t 50)
    (.skip)
    (.exit 1)
def c24_l12 : C :=
  .seq (.seq (.ops [1, 3, 4, 50] [.p (some 46) (.move (.t 4)),
    .p (some 47) (.faddr 6 (.t 1)),
    .p (some 48) (.load false 1 (.t 47)),
    .p (some 49) (.len .slice (.t 48)),
    .p (some 50) (.bin .lss .int [] (.t 46) (.t 49))])
  (c24_k11))
  (c24_k10)
def c24_k13 : C :=
  .block 1 (.loop [1, 3, 4] c24_l12)
def c24_k14 : C :=
  .seq (.seq (.ops [1, 3, 4] [.p (some 4) (.move (.c (.int .i64 0)))])
  (c24_k13))
  (c24_k8)
def c24_k15 : C :=
  .seq (.ops [1, 3] [.p (some 40) (.move (.t 3)),
    .p (some 41) (.faddr 6 (.t 1)),
    .p (some 42) (.load false 1 (.t 41)),
    .p (some 43) (.len .slice (.t 42)),
    .call (some 44) 39 [(.t 43)],
    .e (some 45) (.append 5 1 1 (.t 40) (.t 44)),
    .p (some 3) (.move (.t 45))])
  (c24_k14)
def c24_k16 : C :=
  .cond (.t 37)
    (.ops [1, 3] [.p (some 38) (.move (.t 3)),
      .p (some 39) (.iaddr 1 (.t 38) (.c (.int .i64 0))),
      .e .none (.store 1 (.t 39) (.c (.int .u8 1)))])
    (.skip)
def c24_k17 : C :=
  .seq (.seq (.ops [1, 3, 37] [.p (some 36) (.faddr 5 (.t 1)),
    .p (some 37) (.load false 1 (.t 36))])
  (c24_k16))
  (c24_k15)
def c24_k18 : C :=
  .seq (.ops [1, 3] [.p (some 35) (.bslice 5 1 1 [(.int .u8 0)] [(0, (.c (.int .u8 0)))]),
      .p (some 3) (.move (.t 35))])
    (c24_k17)
def c24_k19 : C :=
  .cond (.t 63)
    (.seq (.ops [2] [.p (some 65) (.faddr 8 (.t 1)),
      .p (some 66) (.load true 3 (.t 65)),
      .call (some 67) 35 [(.t 66)],
      .p (some 2) (.move (.t 67))])
    (.ret))
    (.skip)
def c24_k20 : C :=
  .cond (.t 33)
    (c24_k18)
    (.seq (.ops [1, 63] [.p (some 64) (.bin .eql .int [] (.t 8) (.c (.int .i64 8))),
      .p (some 63) (.move (.t 64))])
    (c24_k19))
def c24_k21 : C :=
  .seq (.ops [1, 8, 33] [.p (some 34) (.bin .eql .int [] (.t 8) (.c (.int .i64 5))),
      .p (some 33) (.move (.t 34))])
    (c24_k20)
def c24_k22 : C :=
  .cond (.t 31)
    (.seq (.ops [2] [.p (some 2) (.move (.c .nils))])
    (.ret))
    (c24_k21)
def c24_k23 : C :=
  .seq (.ops [1, 8, 31] [.p (some 32) (.bin .eql .int [] (.t 8) (.c (.int .i64 4))),
      .p (some 31) (.move (.t 32))])
    (c24_k22)
def c24_k24 : C :=
  .cond (.t 25)
    (.seq (.ops [2] [.p (some 27) (.faddr 4 (.t 1)),
      .p (some 28) (.load false 1 (.t 27)),
      .p (some 29) (.conv .bytesStr (.t 28)),
      .call (some 30) 38 [(.t 29)],
      .p (some 2) (.move (.t 30))])
    (.ret))
    (c24_k23)
def c24_k25 : C :=
  .seq (.ops [1, 8, 25] [.p (some 26) (.bin .eql .int [] (.t 8) (.c (.int .i64 3))),
      .p (some 25) (.move (.t 26))])
    (c24_k24)
def c24_k26 : C :=
  .cond (.t 14)
    (.seq (.drw [2] 1 [⟨.none, .p (some 16) (.faddr 2 (.t 1)), [], 0⟩,
      ⟨.none, .p (some 17) (.load false 1 (.t 16)), [0], 0⟩,
      ⟨.none, .p (some 18) (.conv (.int .u64) (.t 17)), [1], 0⟩,
      ⟨.none, .call (some 19) 25 [(.t 18), (.c (.int .i64 2))], [2], 0⟩,
      ⟨.none, .p (some 20) (.faddr 3 (.t 1)), [], 0⟩,
      ⟨.none, .p (some 21) (.load false 1 (.t 20)), [4], 0⟩,
      ⟨.none, .p (some 22) (.conv (.int .u64) (.t 21)), [5], 0⟩,
      ⟨.none, .call (some 23) 25 [(.t 22), (.c (.int .i64 2))], [6, 3], 0⟩,
      ⟨.none, .e (some 24) (.append 5 1 1 (.t 19) (.t 23)), [3, 7, 7], 0⟩,
      ⟨.none, .p (some 2) (.move (.t 24)), [8, 8, 0, 1, 2, 3, 4, 5, 6, 7, 8], 1⟩])
    (.ret))
    (c24_k25)
def c24_k27 : C :=
  .seq (.ops [1, 8, 14] [.p (some 15) (.bin .eql .int [] (.t 8) (.c (.int .i64 2))),
      .p (some 14) (.move (.t 15))])
    (c24_k26)
def c24_k28 : C :=
  .cond (.t 9)
    (.seq (.ops [2] [.p (some 11) (.faddr 1 (.t 1)),
      .p (some 12) (.load false 1 (.t 11)),
      .call (some 13) 25 [(.t 12), (.c (.int .i64 8))],
      .p (some 2) (.move (.t 13))])
    (.ret))
    (c24_k27)
def c24_k29 : C :=
  .seq (.ops [1, 8, 9] [.p (some 10) (.bin .eql .int [] (.t 8) (.c (.int .i64 1))),
    .p (some 9) (.move (.t 10))])
  (c24_k28)
def c24_k30 : C :=
  .block 0 (c24_k29)
def c24_k31 : C :=
  .seq (.seq (.ops [1, 8] [.p (some 7) (.faddr 0 (.t 1)),
    .p (some 8) (.load false 1 (.t 7))])
  (c24_k30))
  (c24_k7)
def c24 : FnC := ⟨1, 88, [.tmp 2],
  .seq (.ops [1] [.e (some 1) (.box (.t 0)),
    .p (some 2) (.move (.c .nils))])
  (c24_k31),
  []⟩

/-! 14: gossamer/story.Bytes -/
def c14_k0 : C :=
  .seq (.ops [2, 3] [.p (some 11) (.move (.t 4)),
    .p (some 12) (.len .slice (.t 11)),
    .p (some 13) (.move (.t 5)),
    .p (some 2) (.move (.t 12)),
    .p (some 3) (.move (.t 13))])
  (.ret)
def c14_k1 : C :=
  .seq (.ops [4, 5] [.p (some 7) (.move (.t 0)),
    .call (some 8) 28 [(.t 7)],
    .p (some 6) (.move (.t 8)),
    .p (some 9) (.extract (.t 6) 0),
    .p (some 10) (.extract (.t 6) 1),
    .p (some 4) (.move (.t 9)),
    .p (some 5) (.move (.t 10))])
  (c14_k0)
def c14 : FnC := ⟨1, 14, [.tmp 2, .tmp 3],
  .seq (.ops [0] [.p (some 2) (.move (.c (.int .i64 0))),
    .p (some 3) (.move (.c .nili))])
  (c14_k1),
  []⟩

/-! 28: gossamer/wire.Frames -/
def c28_k0 : C :=
  .seq (.ops [2, 3] [.p (some 27) (.move (.t 4)),
    .p (some 2) (.move (.t 27)),
    .p (some 3) (.move (.c .nili))])
  (.ret)
def c28_k1 : C :=
  .ops [4, 9, 10, 11] [.p (some 23) (.move (.t 4)),
    .p (some 24) (.move (.t 7)),
    .e (some 25) (.append 5 1 1 (.t 23) (.t 24)),
    .p (some 4) (.move (.t 25))]
def c28_k2 : C :=
  .cond (.t 21)
    (.seq (.ops [2, 3] [.p (some 22) (.move (.t 8)),
      .p (some 2) (.move (.c .nils)),
      .p (some 3) (.move (.t 22))])
    (.ret))
    (.skip)
def c28_k3 : C :=
  .seq (.seq (.ops [4, 7, 8, 9, 10, 11, 21] [.p (some 20) (.move (.t 8)),
    .p (some 21) (.bin .neq .iface [] (.t 20) (.c .nili))])
  (c28_k2))
  (c28_k1)
def c28_k4 : C :=
  .seq (.ops [4, 7, 8, 9, 10, 11] [.p (some 16) (.load true 11 (.t 6)),
    .call (some 17) 42 [(.t 16)],
    .p (some 15) (.move (.t 17)),
    .p (some 18) (.extract (.t 15) 0),
    .p (some 19) (.extract (.t 15) 1),
    .p (some 7) (.move (.t 18)),
    .p (some 8) (.move (.t 19))])
  (c28_k3)
def c28_k5 : C :=
  .seq (.ops [4, 6, 9, 10, 11] [.p (some 13) (.iaddr 11 (.t 9) (.t 11)),
    .p (some 14) (.load true 11 (.t 13)),
    .e (some 6) (.alloc [(.d (.int .i64 0)), (.d (.int .u64 0)), (.d (.int .i64 0)), (.d (.int .i64 0)), (.d .nils), (.d (.bool false)), (.d .nils), (.d .nils), (.d .nils), (.d .nils), (.d (.bool false))]),
    .e .none (.store 11 (.t 6) (.t 14))])
  (c28_k4)
def c28_k6 : C :=
  .seq (.block 1 (c28_k5))
  (.ops [4, 9, 10, 11] [.p (some 26) (.bin .add .int [] (.t 11) (.c (.int .i64 1))),
    .p (some 11) (.move (.t 26))])
def c28_k7 : C :=
  .seq (.cond (.t 12)
    (.skip)
    (.exit 0))
  (c28_k6)
def c28_l8 : C :=
  .seq (.ops [4, 9, 10, 11, 12] [.p (some 12) (.bin .lss .int [] (.t 11) (.t 10))])
  (c28_k7)
def c28_k9 : C :=
  .block 0 (.loop [4, 9, 10, 11] c28_l8)
def c28_k10 : C :=
  .seq (.seq (.ops [4, 9, 10, 11] [.p (some 9) (.move (.t 0)),
    .p (some 10) (.len .slice (.t 9)),
    .p (some 11) (.move (.c (.int .i64 0)))])
  (c28_k9))
  (c28_k0)
def c28_k11 : C :=
  .seq (.ops [0, 4] [.p (some 4) (.move (.c .nils))])
  (c28_k10)
def c28 : FnC := ⟨1, 28, [.tmp 2, .tmp 3],
  .seq (.ops [0] [.p (some 2) (.move (.c .nils)),
    .p (some 3) (.move (.c .nili))])
  (c28_k11),
  []⟩

/-! 42: gossamer/wire.Frame -/
def c42_k0 : C :=
  .seq (.ops [2, 3] [.p (some 24) (.move (.t 5)),
    .call (some 25) 61 [(.t 24)],
    .p (some 26) (.move (.t 4)),
    .call (some 27) 62 [(.t 26)],
    .p (some 28) (.move (.t 4)),
    .p (some 29) (.bslice 34 3 1 [.nils] [(0, (.t 25)), (1, (.t 27)), (2, (.t 28))]),
    .call (some 30) 60 [(.t 29)],
    .p (some 2) (.move (.t 30)),
    .p (some 3) (.move (.c .nili))])
  (.ret)
def c42_k1 : C :=
  .seq (.ops [4, 5] [.p (some 19) (.move (.t 5)),
    .p (some 20) (.move (.t 4)),
    .p (some 21) (.len .slice (.t 20)),
    .p (some 22) (.conv (.int .u64) (.t 21)),
    .call (some 23) 59 [(.t 19), (.t 22), (.c (.int .i64 4))]])
  (c42_k0)
def c42_k2 : C :=
  .seq (.ops [4, 5] [.p (some 14) (.move (.t 5)),
    .p (some 15) (.faddr 0 (.t 1)),
    .p (some 16) (.load false 1 (.t 15)),
    .p (some 17) (.conv (.int .u64) (.t 16)),
    .call (some 18) 59 [(.t 14), (.t 17), (.c (.int .i64 1))]])
  (c42_k1)
def c42_k3 : C :=
  .seq (.ops [1, 4, 5] [.p (some 12) (.build [.nils] []),
    .e (some 13) (.box (.t 12)),
    .p (some 5) (.move (.t 13))])
  (c42_k2)
def c42_k4 : C :=
  .seq (.ops [1, 4] [.p (some 10) (.load true 11 (.t 1)),
    .call (some 11) 58 [(.t 10)],
    .p (some 4) (.move (.t 11))])
  (c42_k3)
def c42_k5 : C :=
  .cond (.t 8)
    (.seq (.ops [2, 3] [.p (some 9) (.mkif 50 (.c (.int .i64 2))),
      .p (some 2) (.move (.c .nils)),
      .p (some 3) (.move (.t 9))])
    (.ret))
    (.skip)
def c42_k6 : C :=
  .seq (.seq (.ops [1, 8] [.p (some 6) (.load true 11 (.t 1)),
    .call (some 7) 29 [(.t 6)],
    .p (some 8) (.una .not (.t 7))])
  (c42_k5))
  (c42_k4)
def c42 : FnC := ⟨1, 31, [.tmp 2, .tmp 3],
  .seq (.ops [1] [.e (some 1) (.box (.t 0)),
    .p (some 2) (.move (.c .nils)),
    .p (some 3) (.move (.c .nili))])
  (c42_k6),
  []⟩

/-! 29: gossamer/wire.Good -/
def c29_k0 : C :=
  .seq (.ops [2] [.p (some 44) (.faddr 0 (.t 1)),
    .p (some 45) (.load false 1 (.t 44)),
    .p (some 46) (.bin .neq .int [] (.t 45) (.c (.int .i64 8))),
    .p (some 47) (.move (.t 46)),
    .when 47 false [.p (some 48) (.faddr 8 (.t 1)),
      .p (some 49) (.load true 3 (.t 48)),
      .call (some 50) 45 [(.t 49)],
      .p (some 51) (.bin .eql .iface [] (.t 50) (.c .nili))],
    .p (some 52) (.pick (.t 47) (.c (.bool true)) (.t 51)),
    .p (some 2) (.move (.t 52))])
  (.ret)
def c29_k1 : C :=
  .cond (.t 43)
    (.seq (.ops [2] [.p (some 2) (.move (.c (.bool false)))])
    (.ret))
    (.skip)
def c29_k2 : C :=
  .seq (.seq (.ops [1, 43, 51] [.p (some 28) (.faddr 4 (.t 1)),
    .p (some 29) (.load false 1 (.t 28)),
    .p (some 30) (.len .slice (.t 29)),
    .p (some 31) (.bin .gtr .int [] (.t 30) (.c (.int .i64 160))),
    .p (some 32) (.move (.t 31)),
    .when 32 false [.p (some 33) (.faddr 6 (.t 1)),
      .p (some 34) (.load false 1 (.t 33)),
      .p (some 35) (.len .slice (.t 34)),
      .p (some 36) (.bin .gtr .int [] (.t 35) (.c (.int .i64 100)))],
    .p (some 37) (.pick (.t 32) (.c (.bool true)) (.t 36)),
    .p (some 38) (.move (.t 37)),
    .when 38 false [.p (some 39) (.faddr 7 (.t 1)),
      .p (some 40) (.load false 1 (.t 39)),
      .p (some 41) (.len .slice (.t 40)),
      .p (some 42) (.bin .gtr .int [] (.t 41) (.c (.int .i64 100)))],
    .p (some 43) (.pick (.t 38) (.c (.bool true)) (.t 42))])
  (c29_k1))
  (c29_k0)
def c29_k3 : C :=
  .cond (.t 27)
    (.seq (.ops [2] [.p (some 2) (.move (.c (.bool false)))])
    (.ret))
    (.skip)
def c29_k4 : C :=
  .seq (.seq (.ops [1, 27, 36, 42, 51] [.p (some 3) (.faddr 0 (.t 1)),
    .p (some 4) (.load false 1 (.t 3)),
    .p (some 5) (.bin .lss .int [] (.t 4) (.c (.int .i64 1))),
    .p (some 6) (.move (.t 5)),
    .when 6 false [.p (some 7) (.faddr 0 (.t 1)),
      .p (some 8) (.load false 1 (.t 7)),
      .p (some 9) (.bin .gtr .int [] (.t 8) (.c (.int .i64 9)))],
    .p (some 10) (.pick (.t 6) (.c (.bool true)) (.t 9)),
    .p (some 11) (.move (.t 10)),
    .when 11 false [.p (some 12) (.load true 11 (.t 1)),
      .call (some 13) 43 [(.t 12)],
      .p (some 14) (.una .not (.t 13))],
    .p (some 15) (.pick (.t 11) (.c (.bool true)) (.t 14)),
    .p (some 16) (.move (.t 15)),
    .when 16 false [.p (some 17) (.faddr 2 (.t 1)),
      .p (some 18) (.load false 1 (.t 17)),
      .call (some 19) 44 [(.t 18)],
      .p (some 20) (.una .not (.t 19))],
    .p (some 21) (.pick (.t 16) (.c (.bool true)) (.t 20)),
    .p (some 22) (.move (.t 21)),
    .when 22 false [.p (some 23) (.faddr 3 (.t 1)),
      .p (some 24) (.load false 1 (.t 23)),
      .call (some 25) 44 [(.t 24)],
      .p (some 26) (.una .not (.t 25))],
    .p (some 27) (.pick (.t 22) (.c (.bool true)) (.t 26))])
  (c29_k3))
  (c29_k2)
def c29 : FnC := ⟨1, 53, [.tmp 2],
  .seq (.ops [1, 9, 14, 20, 26, 36, 42, 51] [.e (some 1) (.box (.t 0)),
    .p (some 2) (.move (.c (.bool false)))])
  (c29_k4),
  []⟩

/-! 43: gossamer/wire.used -/
def c43_k0 : C :=
  .seq (.ops [2] [.p (some 52) (.faddr 0 (.t 1)),
    .p (some 53) (.load false 1 (.t 52)),
    .call (some 54) 63 [(.t 53)],
    .p (some 55) (.move (.t 54)),
    .when 55 false [.p (some 56) (.faddr 7 (.t 1)),
      .p (some 57) (.load false 1 (.t 56)),
      .p (some 58) (.len .slice (.t 57)),
      .p (some 59) (.bin .eql .int [] (.t 58) (.c (.int .i64 0)))],
    .p (some 60) (.pick (.t 55) (.c (.bool true)) (.t 59)),
    .p (some 61) (.move (.t 60)),
    .when 61 true [.p (some 62) (.faddr 0 (.t 1)),
      .p (some 63) (.load false 1 (.t 62)),
      .p (some 64) (.bin .eql .int [] (.t 63) (.c (.int .i64 8))),
      .p (some 65) (.move (.t 64))],
    .when 65 false [.p (some 66) (.faddr 8 (.t 1)),
      .p (some 67) (.load true 3 (.t 66)),
      .call (some 68) 64 [(.t 67)]],
    .when 61 true [.p (some 69) (.pick (.t 65) (.c (.bool true)) (.t 68))],
    .p (some 70) (.pick (.t 61) (.t 69) (.c (.bool false))),
    .p (some 2) (.move (.t 70))])
  (.ret)
def c43_k1 : C :=
  .cond (.t 27)
    (.seq (.ops [2] [.p (some 2) (.move (.c (.bool false)))])
    (.ret))
    (.skip)
def c43_k2 : C :=
  .seq (.ops [1, 27, 59, 65, 68, 69] [.p (some 28) (.faddr 0 (.t 1)),
      .p (some 29) (.load false 1 (.t 28)),
      .p (some 30) (.bin .neq .int [] (.t 29) (.c (.int .i64 3))),
      .p (some 31) (.move (.t 30)),
      .when 31 true [.p (some 32) (.faddr 4 (.t 1)),
        .p (some 33) (.load false 1 (.t 32)),
        .p (some 34) (.len .slice (.t 33)),
        .p (some 35) (.bin .gtr .int [] (.t 34) (.c (.int .i64 0)))],
      .p (some 36) (.pick (.t 31) (.t 35) (.c (.bool false))),
      .p (some 37) (.move (.t 36)),
      .when 37 false [.p (some 38) (.faddr 0 (.t 1)),
        .p (some 39) (.load false 1 (.t 38)),
        .p (some 40) (.bin .neq .int [] (.t 39) (.c (.int .i64 5))),
        .p (some 41) (.move (.t 40))],
      .when 41 true [.p (some 42) (.faddr 5 (.t 1)),
        .p (some 43) (.load false 1 (.t 42)),
        .p (some 44) (.move (.t 43))],
      .when 44 false [.p (some 45) (.faddr 6 (.t 1)),
        .p (some 46) (.load false 1 (.t 45)),
        .p (some 47) (.len .slice (.t 46)),
        .p (some 48) (.bin .gtr .int [] (.t 47) (.c (.int .i64 0)))],
      .when 41 true [.p (some 49) (.pick (.t 44) (.c (.bool true)) (.t 48))],
      .when 37 false [.p (some 50) (.pick (.t 41) (.t 49) (.c (.bool false)))],
      .p (some 51) (.pick (.t 37) (.c (.bool true)) (.t 50)),
      .p (some 27) (.move (.t 51))])
    (c43_k1)
def c43_k3 : C :=
  .cond (.t 3)
    (.seq (.ops [2] [.p (some 2) (.move (.c (.bool false)))])
    (.ret))
    (c43_k2)
def c43_k4 : C :=
  .seq (.ops [1, 3, 35, 41, 44, 48, 49, 50, 59, 65, 68, 69] [.p (some 4) (.faddr 0 (.t 1)),
    .p (some 5) (.load false 1 (.t 4)),
    .p (some 6) (.bin .neq .int [] (.t 5) (.c (.int .i64 1))),
    .p (some 7) (.move (.t 6)),
    .when 7 true [.p (some 8) (.faddr 1 (.t 1)),
      .p (some 9) (.load false 1 (.t 8)),
      .p (some 10) (.bin .neq .int [] (.t 9) (.c (.int .u64 0)))],
    .p (some 11) (.pick (.t 7) (.t 10) (.c (.bool false))),
    .p (some 12) (.move (.t 11)),
    .when 12 false [.p (some 13) (.faddr 0 (.t 1)),
      .p (some 14) (.load false 1 (.t 13)),
      .p (some 15) (.bin .neq .int [] (.t 14) (.c (.int .i64 2))),
      .p (some 16) (.move (.t 15))],
    .when 16 true [.p (some 17) (.faddr 2 (.t 1)),
      .p (some 18) (.load false 1 (.t 17)),
      .p (some 19) (.bin .neq .int [] (.t 18) (.c (.int .i64 0))),
      .p (some 20) (.move (.t 19))],
    .when 20 false [.p (some 21) (.faddr 3 (.t 1)),
      .p (some 22) (.load false 1 (.t 21)),
      .p (some 23) (.bin .neq .int [] (.t 22) (.c (.int .i64 0)))],
    .when 16 true [.p (some 24) (.pick (.t 20) (.c (.bool true)) (.t 23))],
    .when 12 false [.p (some 25) (.pick (.t 16) (.t 24) (.c (.bool false)))],
    .p (some 26) (.pick (.t 12) (.c (.bool true)) (.t 25)),
    .p (some 3) (.move (.t 26))])
  (c43_k3)
def c43_k5 : C :=
  .seq (.block 0 (c43_k4))
  (c43_k0)
def c43 : FnC := ⟨1, 71, [.tmp 2],
  .seq (.ops [1, 10, 16, 20, 23, 24, 25, 35, 41, 44, 48, 49, 50, 59, 65, 68, 69] [.e (some 1) (.box (.t 0)),
    .p (some 2) (.move (.c (.bool false)))])
  (c43_k5),
  []⟩

/-! 63: gossamer/wire.listed -/
def c63_k0 : C :=
  .seq (.ops [2] [.p (some 3) (.move (.t 0)),
    .p (some 4) (.bin .eql .int [] (.t 3) (.c (.int .i64 6))),
    .p (some 5) (.move (.t 4)),
    .when 5 false [.p (some 6) (.move (.t 0)),
      .p (some 7) (.bin .eql .int [] (.t 6) (.c (.int .i64 7)))],
    .p (some 8) (.pick (.t 5) (.c (.bool true)) (.t 7)),
    .p (some 9) (.move (.t 8)),
    .when 9 false [.p (some 10) (.move (.t 0)),
      .p (some 11) (.bin .eql .int [] (.t 10) (.c (.int .i64 9)))],
    .p (some 12) (.pick (.t 9) (.c (.bool true)) (.t 11)),
    .p (some 2) (.move (.t 12))])
  (.ret)
def c63 : FnC := ⟨1, 13, [.tmp 2],
  .seq (.ops [0, 7, 11] [.p (some 2) (.move (.c (.bool false)))])
  (c63_k0),
  []⟩

/-! 64: gossamer/wire.blank -/
def c64_k0 : C :=
  .seq (.ops [2] [.p (some 3) (.faddr 0 (.t 1)),
    .p (some 4) (.load false 1 (.t 3)),
    .p (some 5) (.len .slice (.t 4)),
    .p (some 6) (.faddr 1 (.t 1)),
    .p (some 7) (.load false 1 (.t 6)),
    .p (some 8) (.len .slice (.t 7)),
    .p (some 9) (.bin .add .int [] (.t 5) (.t 8)),
    .p (some 10) (.bin .eql .int [] (.t 9) (.c (.int .i64 0))),
    .p (some 11) (.move (.t 10)),
    .when 11 true [.p (some 12) (.faddr 2 (.t 1)),
      .p (some 13) (.load false 1 (.t 12)),
      .p (some 14) (.una .not (.t 13))],
    .p (some 15) (.pick (.t 11) (.t 14) (.c (.bool false))),
    .p (some 2) (.move (.t 15))])
  (.ret)
def c64 : FnC := ⟨1, 16, [.tmp 2],
  .seq (.ops [1, 14] [.e (some 1) (.box (.t 0)),
    .p (some 2) (.move (.c (.bool false)))])
  (c64_k0),
  []⟩

/-! 44: gossamer/wire.sized -/
def c44_k0 : C :=
  .seq (.ops [2] [.p (some 3) (.move (.t 0)),
    .p (some 4) (.bin .geq .int [] (.t 3) (.c (.int .i64 0))),
    .p (some 5) (.move (.t 4)),
    .when 5 true [.p (some 6) (.move (.t 0)),
      .p (some 7) (.bin .leq .int [] (.t 6) (.c (.int .i64 65535)))],
    .p (some 8) (.pick (.t 5) (.t 7) (.c (.bool false))),
    .p (some 2) (.move (.t 8))])
  (.ret)
def c44 : FnC := ⟨1, 9, [.tmp 2],
  .seq (.ops [0, 7] [.p (some 2) (.move (.c (.bool false)))])
  (c44_k0),
  []⟩

/-! 45: gossamer/tx.Check -/
def c45_k0 : C :=
  .cond (.t 18)
    (.seq (.ops [2] [.p (some 19) (.mkif 50 (.c (.int .i64 8))),
      .p (some 2) (.move (.t 19))])
    (.ret))
    (.skip)
def c45_k1 : C :=
  .seq (.seq (.ops [18] [.p (some 17) (.load true 3 (.t 1)),
    .call (some 18) 67 [(.t 17)]])
  (c45_k0))
  (.seq (.ops [2] [.p (some 2) (.move (.c .nili))])
  (.ret))
def c45_k2 : C :=
  .cond (.t 15)
    (.seq (.ops [2] [.p (some 16) (.move (.t 4)),
      .p (some 2) (.move (.t 16))])
    (.ret))
    (.skip)
def c45_k3 : C :=
  .seq (.ops [1, 4, 15] [.p (some 14) (.move (.t 4)),
    .p (some 15) (.bin .neq .iface [] (.t 14) (.c .nili))])
  (c45_k2)
def c45_k4 : C :=
  .seq (.seq (.ops [1, 4] [.p (some 10) (.load true 3 (.t 1)),
    .call (some 11) 66 [(.t 10)],
    .p (some 9) (.move (.t 11)),
    .p (some 12) (.extract (.t 9) 0),
    .p (some 13) (.extract (.t 9) 1),
    .p (some 3) (.move (.t 12)),
    .p (some 4) (.move (.t 13))])
  (c45_k3))
  (c45_k1)
def c45_k5 : C :=
  .cond (.t 7)
    (.seq (.ops [2] [.p (some 8) (.mkif 50 (.c (.int .i64 2))),
      .p (some 2) (.move (.t 8))])
    (.ret))
    (.skip)
def c45_k6 : C :=
  .seq (.seq (.ops [1, 7] [.p (some 5) (.load true 3 (.t 1)),
    .call (some 6) 65 [(.t 5)],
    .p (some 7) (.una .not (.t 6))])
  (c45_k5))
  (c45_k4)
def c45 : FnC := ⟨1, 20, [.tmp 2],
  .seq (.ops [1] [.e (some 1) (.box (.t 0)),
    .p (some 2) (.move (.c .nili))])
  (c45_k6),
  []⟩

/-! 65: gossamer/tx.shaped -/
def c65_k0 : C :=
  .seq (.ops [2] [.p (some 25) (.faddr 0 (.t 1)),
    .p (some 26) (.load false 1 (.t 25)),
    .call (some 27) 80 [(.t 26), (.f 81)],
    .p (some 28) (.una .not (.t 27)),
    .p (some 2) (.move (.t 28))])
  (.ret)
def c65_k1 : C :=
  .cond (.t 24)
    (.seq (.ops [2] [.p (some 2) (.move (.c (.bool false)))])
    (.ret))
    (.skip)
def c65_k2 : C :=
  .seq (.seq (.ops [1, 24] [.p (some 3) (.faddr 0 (.t 1)),
    .p (some 4) (.load false 1 (.t 3)),
    .p (some 5) (.len .slice (.t 4)),
    .p (some 6) (.bin .lss .int [] (.t 5) (.c (.int .i64 1))),
    .p (some 7) (.move (.t 6)),
    .when 7 false [.p (some 8) (.faddr 0 (.t 1)),
      .p (some 9) (.load false 1 (.t 8)),
      .p (some 10) (.len .slice (.t 9)),
      .p (some 11) (.bin .gtr .int [] (.t 10) (.c (.int .i64 8)))],
    .p (some 12) (.pick (.t 7) (.c (.bool true)) (.t 11)),
    .p (some 13) (.move (.t 12)),
    .when 13 false [.p (some 14) (.faddr 1 (.t 1)),
      .p (some 15) (.load false 1 (.t 14)),
      .p (some 16) (.len .slice (.t 15)),
      .p (some 17) (.bin .lss .int [] (.t 16) (.c (.int .i64 1)))],
    .p (some 18) (.pick (.t 13) (.c (.bool true)) (.t 17)),
    .p (some 19) (.move (.t 18)),
    .when 19 false [.p (some 20) (.faddr 1 (.t 1)),
      .p (some 21) (.load false 1 (.t 20)),
      .p (some 22) (.len .slice (.t 21)),
      .p (some 23) (.bin .gtr .int [] (.t 22) (.c (.int .i64 8)))],
    .p (some 24) (.pick (.t 19) (.c (.bool true)) (.t 23))])
  (c65_k1))
  (c65_k0)
def c65 : FnC := ⟨1, 29, [.tmp 2],
  .seq (.ops [1, 11, 17, 23] [.e (some 1) (.box (.t 0)),
    .p (some 2) (.move (.c (.bool false)))])
  (c65_k2),
  []⟩

/-! 80: slices.ContainsFunc[[]gossamer/api.Spend,gossamer/api.Spend] -/
def c80_k0 : C :=
  .seq (.ops [4] [.p (some 5) (.move (.t 0)),
    .p (some 6) (.move (.t 1)),
    .call (some 7) 88 [(.t 5), (.t 6)],
    .p (some 8) (.bin .geq .int [] (.t 7) (.c (.int .i64 0))),
    .p (some 4) (.move (.t 8))])
  (.ret)
def c80 : FnC := ⟨2, 9, [.tmp 4],
  .seq (.ops [0, 1] [.p (some 4) (.move (.c (.bool false)))])
  (c80_k0),
  []⟩

/-! 88: slices.IndexFunc[[]gossamer/api.Spend,gossamer/api.Spend] -/
def c88_k0 : C :=
  .cond (.t 16)
    (.seq (.ops [4] [.p (some 17) (.move (.t 5)),
      .p (some 4) (.move (.t 17))])
    (.ret))
    (.skip)
def c88_k1 : C :=
  .seq (.ops [0, 1, 5, 7, 8, 16] [.p (some 11) (.move (.t 1)),
    .p (some 12) (.move (.t 0)),
    .p (some 13) (.move (.t 5)),
    .p (some 14) (.iaddr 35 (.t 12) (.t 13)),
    .p (some 15) (.load true 35 (.t 14)),
    .callv (some 16) (.t 11) [(.t 15)]])
  (c88_k0)
def c88_k2 : C :=
  .seq (.ops [0, 1, 5, 7, 8] [.p (some 10) (.move (.t 8)),
    .p (some 5) (.move (.t 10))])
  (c88_k1)
def c88_k3 : C :=
  .seq (.block 1 (c88_k2))
  (.ops [0, 1, 7, 8] [.p (some 18) (.bin .add .int [] (.t 8) (.c (.int .i64 1))),
    .p (some 8) (.move (.t 18))])
def c88_k4 : C :=
  .seq (.cond (.t 9)
    (.skip)
    (.exit 0))
  (c88_k3)
def c88_l5 : C :=
  .seq (.ops [0, 1, 7, 8, 9] [.p (some 9) (.bin .lss .int [] (.t 8) (.t 7))])
  (c88_k4)
def c88_k6 : C :=
  .block 0 (.loop [0, 1, 7, 8] c88_l5)
def c88_k7 : C :=
  .seq (.seq (.ops [0, 1, 7, 8] [.p (some 6) (.move (.t 0)),
    .p (some 7) (.len .slice (.t 6)),
    .p (some 8) (.move (.c (.int .i64 0)))])
  (c88_k6))
  (.seq (.ops [4] [.p (some 4) (.move (.c (.int .i64 (-1))))])
  (.ret))
def c88 : FnC := ⟨2, 19, [.tmp 4],
  .seq (.ops [0, 1] [.p (some 4) (.move (.c (.int .i64 0)))])
  (c88_k7),
  []⟩

/-! 81: gossamer/tx.shaped$1 -/
def c81_k0 : C :=
  .seq (.ops [2] [.p (some 3) (.faddr 33 (.t 1)),
    .p (some 4) (.load false 1 (.t 3)),
    .p (some 5) (.len .str (.t 4)),
    .p (some 6) (.bin .gtr .int [] (.t 5) (.c (.int .i64 32))),
    .p (some 7) (.move (.t 6)),
    .when 7 false [.p (some 8) (.faddr 0 (.t 1)),
      .p (some 9) (.faddr 32 (.t 8)),
      .p (some 10) (.load false 1 (.t 9)),
      .p (some 11) (.bin .lss .int [] (.t 10) (.c (.int .i64 0)))],
    .p (some 12) (.pick (.t 7) (.c (.bool true)) (.t 11)),
    .p (some 13) (.move (.t 12)),
    .when 13 false [.p (some 14) (.faddr 0 (.t 1)),
      .p (some 15) (.faddr 32 (.t 14)),
      .p (some 16) (.load false 1 (.t 15)),
      .p (some 17) (.bin .geq .int [] (.t 16) (.c (.int .i64 8)))],
    .p (some 18) (.pick (.t 13) (.c (.bool true)) (.t 17)),
    .p (some 2) (.move (.t 18))])
  (.ret)
def c81 : FnC := ⟨1, 19, [.tmp 2],
  .seq (.ops [1, 11, 17] [.e (some 1) (.box (.t 0)),
    .p (some 2) (.move (.c (.bool false)))])
  (c81_k0),
  []⟩

/-! 66: gossamer/tx.Out -/
def c66_k0 : C :=
  .seq (.ops [2, 3] [.p (some 20) (.move (.t 4)),
    .call (some 21) 82 [(.t 20)],
    .p (some 22) (.extract (.t 21) 0),
    .p (some 23) (.extract (.t 21) 1),
    .p (some 2) (.move (.t 22)),
    .p (some 3) (.move (.t 23))])
  (.ret)
def c66_k1 : C :=
  .ops [4, 8, 9, 10] [.p (some 14) (.move (.t 4)),
    .p (some 15) (.faddr 0 (.t 6)),
    .p (some 16) (.load false 1 (.t 15)),
    .p (some 17) (.bslice 3 1 1 [(.int .i64 0)] [(0, (.t 16))]),
    .e (some 18) (.append 3 1 8 (.t 14) (.t 17)),
    .p (some 4) (.move (.t 18))]
def c66_k2 : C :=
  .seq (.block 1 (.seq (.ops [4, 6, 8, 9, 10] [.p (some 12) (.iaddr 2 (.t 8) (.t 10)),
    .p (some 13) (.load true 2 (.t 12)),
    .e (some 6) (.alloc [(.d (.int .i64 0)), (.d (.int .u64 0))]),
    .e .none (.store 2 (.t 6) (.t 13))])
  (c66_k1)))
  (.ops [4, 8, 9, 10] [.p (some 19) (.bin .add .int [] (.t 10) (.c (.int .i64 1))),
    .p (some 10) (.move (.t 19))])
def c66_k3 : C :=
  .seq (.cond (.t 11)
    (.skip)
    (.exit 0))
  (c66_k2)
def c66_l4 : C :=
  .seq (.ops [4, 8, 9, 10, 11] [.p (some 11) (.bin .lss .int [] (.t 10) (.t 9))])
  (c66_k3)
def c66_k5 : C :=
  .block 0 (.loop [4, 8, 9, 10] c66_l4)
def c66_k6 : C :=
  .seq (.seq (.ops [4, 8, 9, 10] [.p (some 7) (.faddr 1 (.t 1)),
    .p (some 8) (.load false 1 (.t 7)),
    .p (some 9) (.len .slice (.t 8)),
    .p (some 10) (.move (.c (.int .i64 0)))])
  (c66_k5))
  (c66_k0)
def c66_k7 : C :=
  .seq (.ops [1, 4] [.p (some 4) (.move (.c .nils))])
  (c66_k6)
def c66 : FnC := ⟨1, 24, [.tmp 2, .tmp 3],
  .seq (.ops [1] [.e (some 1) (.box (.t 0)),
    .p (some 2) (.move (.c (.int .i64 0))),
    .p (some 3) (.move (.c .nili))])
  (c66_k7),
  []⟩

/-! 82: gossamer/amount.Total -/
def c82_k0 : C :=
  .seq (.ops [2, 3] [.p (some 28) (.move (.t 4)),
    .p (some 2) (.move (.t 28)),
    .p (some 3) (.move (.c .nili))])
  (.ret)
def c82_k1 : C :=
  .ops [4, 7, 8, 9, 21] [.p (some 24) (.move (.t 4)),
    .p (some 25) (.move (.t 6)),
    .p (some 26) (.bin .add .int [] (.t 24) (.t 25)),
    .p (some 4) (.move (.t 26))]
def c82_k2 : C :=
  .cond (.t 22)
    (.seq (.ops [2, 3] [.p (some 23) (.mkif 50 (.c (.int .i64 9))),
      .p (some 2) (.move (.c (.int .i64 0))),
      .p (some 3) (.move (.t 23))])
    (.ret))
    (.skip)
def c82_k3 : C :=
  .seq (.seq (.ops [4, 6, 7, 8, 9, 21, 22] [.p (some 13) (.move (.t 6)),
    .call (some 14) 89 [(.t 13)],
    .p (some 15) (.una .not (.t 14)),
    .p (some 16) (.move (.t 15)),
    .when 16 false [.p (some 17) (.move (.t 4)),
      .p (some 18) (.move (.t 6)),
      .p (some 19) (.bin .add .int [] (.t 17) (.t 18)),
      .call (some 20) 89 [(.t 19)],
      .p (some 21) (.una .not (.t 20))],
    .p (some 22) (.pick (.t 16) (.c (.bool true)) (.t 21))])
  (c82_k2))
  (c82_k1)
def c82_k4 : C :=
  .seq (.ops [4, 6, 7, 8, 9, 21] [.p (some 11) (.iaddr 1 (.t 7) (.t 9)),
    .p (some 12) (.load false 1 (.t 11)),
    .p (some 6) (.move (.t 12))])
  (c82_k3)
def c82_k5 : C :=
  .seq (.block 1 (c82_k4))
  (.ops [4, 7, 8, 9, 21] [.p (some 27) (.bin .add .int [] (.t 9) (.c (.int .i64 1))),
    .p (some 9) (.move (.t 27))])
def c82_k6 : C :=
  .seq (.cond (.t 10)
    (.skip)
    (.exit 0))
  (c82_k5)
def c82_l7 : C :=
  .seq (.ops [4, 7, 8, 9, 10, 21] [.p (some 10) (.bin .lss .int [] (.t 9) (.t 8))])
  (c82_k6)
def c82_k8 : C :=
  .block 0 (.loop [4, 7, 8, 9, 21] c82_l7)
def c82_k9 : C :=
  .seq (.seq (.ops [4, 7, 8, 9, 21] [.p (some 7) (.move (.t 0)),
    .p (some 8) (.len .slice (.t 7)),
    .p (some 9) (.move (.c (.int .i64 0)))])
  (c82_k8))
  (c82_k0)
def c82_k10 : C :=
  .seq (.ops [0, 4, 21] [.p (some 4) (.move (.c (.int .i64 0)))])
  (c82_k9)
def c82 : FnC := ⟨1, 29, [.tmp 2, .tmp 3],
  .seq (.ops [0, 21] [.p (some 2) (.move (.c (.int .i64 0))),
    .p (some 3) (.move (.c .nili))])
  (c82_k10),
  []⟩

/-! 89: gossamer/amount.Good -/
def c89_k0 : C :=
  .seq (.ops [2] [.p (some 3) (.move (.t 0)),
    .p (some 4) (.bin .geq .int [] (.t 3) (.c (.int .i64 0))),
    .p (some 5) (.move (.t 4)),
    .when 5 true [.p (some 6) (.move (.t 0)),
      .p (some 7) (.bin .leq .int [] (.t 6) (.c (.int .i64 2100000000000000)))],
    .p (some 8) (.pick (.t 5) (.t 7) (.c (.bool false))),
    .p (some 2) (.move (.t 8))])
  (.ret)
def c89 : FnC := ⟨1, 9, [.tmp 2],
  .seq (.ops [0, 7] [.p (some 2) (.move (.c (.bool false)))])
  (c89_k0),
  []⟩

/-! 67: gossamer/tx.twice -/
def c67_k0 : C :=
  .cond (.t 18)
    (.seq (.ops [2] [.p (some 2) (.move (.c (.bool true)))])
    (.ret))
    (.skip)
def c67_k1 : C :=
  .seq (.ops [1, 6, 7, 8, 18] [.p (some 13) (.faddr 0 (.t 1)),
    .p (some 14) (.load false 1 (.t 13)),
    .p (some 15) (.move (.t 3)),
    .p (some 16) (.slice 35 (.t 14) .none (some (.t 15)) .none),
    .p (some 17) (.mkfn (.func 83) [] [(.t 4)]),
    .call (some 18) 80 [(.t 16), (.t 17)]])
  (c67_k0)
def c67_k2 : C :=
  .seq (.ops [1, 3, 4, 6, 7, 8] [.p (some 10) (.move (.t 8)),
    .p (some 11) (.iaddr 35 (.t 6) (.t 8)),
    .p (some 12) (.load true 35 (.t 11)),
    .e (some 4) (.alloc [(.d (.int .u8 0)), (.d (.int .u8 0)), (.d (.int .u8 0)), (.d (.int .u8 0)), (.d (.int .u8 0)), (.d (.int .u8 0)), (.d (.int .u8 0)), (.d (.int .u8 0)), (.d (.int .u8 0)), (.d (.int .u8 0)), (.d (.int .u8 0)), (.d (.int .u8 0)), (.d (.int .u8 0)), (.d (.int .u8 0)), (.d (.int .u8 0)), (.d (.int .u8 0)), (.d (.int .u8 0)), (.d (.int .u8 0)), (.d (.int .u8 0)), (.d (.int .u8 0)), (.d (.int .u8 0)), (.d (.int .u8 0)), (.d (.int .u8 0)), (.d (.int .u8 0)), (.d (.int .u8 0)), (.d (.int .u8 0)), (.d (.int .u8 0)), (.d (.int .u8 0)), (.d (.int .u8 0)), (.d (.int .u8 0)), (.d (.int .u8 0)), (.d (.int .u8 0)), (.d (.int .i64 0)), (.d (.str [])), (.d (.int .u64 0))]),
    .p (some 3) (.move (.t 10)),
    .e .none (.store 35 (.t 4) (.t 12))])
  (c67_k1)
def c67_k3 : C :=
  .seq (.block 1 (c67_k2))
  (.ops [1, 6, 7, 8] [.p (some 19) (.bin .add .int [] (.t 8) (.c (.int .i64 1))),
    .p (some 8) (.move (.t 19))])
def c67_k4 : C :=
  .seq (.cond (.t 9)
    (.skip)
    (.exit 0))
  (c67_k3)
def c67_l5 : C :=
  .seq (.ops [1, 6, 7, 8, 9] [.p (some 9) (.bin .lss .int [] (.t 8) (.t 7))])
  (c67_k4)
def c67_k6 : C :=
  .block 0 (.loop [1, 6, 7, 8] c67_l5)
def c67_k7 : C :=
  .seq (.seq (.ops [1, 6, 7, 8] [.p (some 5) (.faddr 0 (.t 1)),
    .p (some 6) (.load false 1 (.t 5)),
    .p (some 7) (.len .slice (.t 6)),
    .p (some 8) (.move (.c (.int .i64 0)))])
  (c67_k6))
  (.seq (.ops [2] [.p (some 2) (.move (.c (.bool false)))])
  (.ret))
def c67 : FnC := ⟨1, 20, [.tmp 2],
  .seq (.ops [1] [.e (some 1) (.box (.t 0)),
    .p (some 2) (.move (.c (.bool false)))])
  (c67_k7),
  []⟩

/-! 83: gossamer/tx.twice$1 -/
def c83_k0 : C :=
  .seq (.ops [3] [.p (some 4) (.faddr 0 (.t 2)),
    .p (some 5) (.load true 33 (.t 4)),
    .p (some 6) (.faddr 0 (.t 1)),
    .p (some 7) (.load true 33 (.t 6)),
    .p (some 8) (.bin .eql .flat (List.replicate 32 (.int .u8) ++ [(.int .i64)]) (.t 5) (.t 7)),
    .p (some 3) (.move (.t 8))])
  (.ret)
def c83 : FnC := ⟨2, 9, [.tmp 3],
  .seq (.ops [1, 2] [.e (some 2) (.box (.t 0)),
    .p (some 3) (.move (.c (.bool false)))])
  (c83_k0),
  []⟩

/-! 58: gossamer/wire.body -/
def c58_k0 : C :=
  .seq (.ops [2] [.p (some 87) (.move (.t 3)),
    .call (some 88) 61 [(.t 87)],
    .p (some 2) (.move (.t 88))])
  (.ret)
def c58_k1 : C :=
  .ops [3] [.p (some 26) (.move (.t 3)),
    .p (some 27) (.faddr 3 (.t 1)),
    .p (some 28) (.load false 1 (.t 27)),
    .p (some 29) (.conv (.int .u64) (.t 28)),
    .call (some 30) 59 [(.t 26), (.t 29), (.c (.int .i64 2))]]
def c58_k2 : C :=
  .ops [3, 51, 52, 53] [.p (some 57) (.move (.t 3)),
    .p (some 58) (.move (.t 6)),
    .p (some 59) (.conv (.int .u64) (.t 58)),
    .call (some 60) 59 [(.t 57), (.t 59), (.c (.int .i64 4))]]
def c58_k3 : C :=
  .seq (.block 2 (.seq (.ops [3, 6, 51, 52, 53] [.p (some 55) (.iaddr 1 (.t 51) (.t 53)),
    .p (some 56) (.load false 1 (.t 55)),
    .p (some 6) (.move (.t 56))])
  (c58_k2)))
  (.ops [3, 51, 52, 53] [.p (some 61) (.bin .add .int [] (.t 53) (.c (.int .i64 1))),
    .p (some 53) (.move (.t 61))])
def c58_k4 : C :=
  .seq (.cond (.t 54)
    (.skip)
    (.exit 1))
  (c58_k3)
def c58_l5 : C :=
  .seq (.ops [3, 51, 52, 53, 54] [.p (some 54) (.bin .lss .int [] (.t 53) (.t 52))])
  (c58_k4)
def c58_k6 : C :=
  .block 1 (.loop [3, 51, 52, 53] c58_l5)
def c58_k7 : C :=
  .seq (.ops [3, 51, 52, 53] [.p (some 50) (.faddr 6 (.t 1)),
    .p (some 51) (.load false 1 (.t 50)),
    .p (some 52) (.len .slice (.t 51)),
    .p (some 53) (.move (.c (.int .i64 0)))])
  (c58_k6)
def c58_k8 : C :=
  .seq (.ops [1, 3] [.p (some 45) (.move (.t 3)),
    .p (some 46) (.faddr 6 (.t 1)),
    .p (some 47) (.load false 1 (.t 46)),
    .p (some 48) (.len .slice (.t 47)),
    .call (some 49) 74 [(.t 45), (.t 48)]])
  (c58_k7)
def c58_k9 : C :=
  .seq (.ops [1, 3] [.p (some 42) (.move (.t 3)),
    .p (some 43) (.move (.t 4)),
    .call (some 44) 59 [(.t 42), (.t 43), (.c (.int .i64 1))]])
  (c58_k8)
def c58_k10 : C :=
  .cond (.t 41)
    (.ops [1, 3, 4] [.p (some 4) (.move (.c (.int .u64 1)))])
    (.skip)
def c58_k11 : C :=
  .seq (.seq (.ops [1, 3, 4, 41] [.p (some 40) (.faddr 5 (.t 1)),
    .p (some 41) (.load false 1 (.t 40))])
  (c58_k10))
  (c58_k9)
def c58_k12 : C :=
  .seq (.ops [1, 3, 4] [.p (some 4) (.move (.c (.int .u64 0)))])
    (c58_k11)
def c58_k13 : C :=
  .ops [3, 72, 73, 74] [.p (some 78) (.move (.t 3)),
    .p (some 79) (.load true 32 (.t 8)),
    .call (some 80) 75 [(.t 78), (.t 79)]]
def c58_k14 : C :=
  .seq (.block 4 (.seq (.ops [3, 8, 72, 73, 74] [.p (some 76) (.iaddr 32 (.t 72) (.t 74)),
    .p (some 77) (.load true 32 (.t 76)),
    .e (some 8) (.alloc (List.replicate 32 (.d (.int .u8 0)))),
    .e .none (.store 32 (.t 8) (.t 77))])
  (c58_k13)))
  (.ops [3, 72, 73, 74] [.p (some 81) (.bin .add .int [] (.t 74) (.c (.int .i64 1))),
    .p (some 74) (.move (.t 81))])
def c58_k15 : C :=
  .seq (.cond (.t 75)
    (.skip)
    (.exit 3))
  (c58_k14)
def c58_l16 : C :=
  .seq (.ops [3, 72, 73, 74, 75] [.p (some 75) (.bin .lss .int [] (.t 74) (.t 73))])
  (c58_k15)
def c58_k17 : C :=
  .block 3 (.loop [3, 72, 73, 74] c58_l16)
def c58_k18 : C :=
  .seq (.ops [3, 72, 73, 74] [.p (some 71) (.faddr 7 (.t 1)),
    .p (some 72) (.load false 1 (.t 71)),
    .p (some 73) (.len .slice (.t 72)),
    .p (some 74) (.move (.c (.int .i64 0)))])
  (c58_k17)
def c58_k19 : C :=
  .seq (.ops [1, 3] [.p (some 66) (.move (.t 3)),
      .p (some 67) (.faddr 7 (.t 1)),
      .p (some 68) (.load false 1 (.t 67)),
      .p (some 69) (.len .slice (.t 68)),
      .call (some 70) 74 [(.t 66), (.t 69)]])
    (c58_k18)
def c58_k20 : C :=
  .cond (.t 82)
    (.seq (.ops [2] [.p (some 84) (.faddr 8 (.t 1)),
      .p (some 85) (.load true 3 (.t 84)),
      .call (some 86) 34 [(.t 85)],
      .p (some 2) (.move (.t 86))])
    (.ret))
    (.skip)
def c58_k21 : C :=
  .cond (.t 62)
    (c58_k19)
    (.seq (.ops [1, 3, 82] [.p (some 83) (.bin .eql .int [] (.t 12) (.c (.int .i64 8))),
      .p (some 82) (.move (.t 83))])
    (c58_k20))
def c58_k22 : C :=
  .cond (.t 62)
    (.skip)
    (.ops [1, 3, 12, 62] [.p (some 65) (.bin .eql .int [] (.t 12) (.c (.int .i64 9))),
      .p (some 62) (.move (.t 65))])
def c58_k23 : C :=
  .cond (.t 62)
    (.skip)
    (.seq (.ops [1, 3, 12, 62] [.p (some 64) (.bin .eql .int [] (.t 12) (.c (.int .i64 7))),
      .p (some 62) (.move (.t 64))])
    (c58_k22))
def c58_k24 : C :=
  .seq (.seq (.ops [1, 3, 12, 62] [.p (some 63) (.bin .eql .int [] (.t 12) (.c (.int .i64 6))),
      .p (some 62) (.move (.t 63))])
    (c58_k23))
    (c58_k21)
def c58_k25 : C :=
  .cond (.t 38)
    (c58_k12)
    (c58_k24)
def c58_k26 : C :=
  .seq (.ops [1, 3, 12, 38] [.p (some 39) (.bin .eql .int [] (.t 12) (.c (.int .i64 5))),
      .p (some 38) (.move (.t 39))])
    (c58_k25)
def c58_k27 : C :=
  .cond (.t 31)
    (.ops [3] [.p (some 33) (.move (.t 3)),
      .p (some 34) (.faddr 4 (.t 1)),
      .p (some 35) (.load false 1 (.t 34)),
      .p (some 36) (.conv .bytesStr (.t 35)),
      .call (some 37) 76 [(.t 33), (.t 36)]])
    (c58_k26)
def c58_k28 : C :=
  .seq (.ops [1, 3, 12, 31] [.p (some 32) (.bin .eql .int [] (.t 12) (.c (.int .i64 3))),
      .p (some 31) (.move (.t 32))])
    (c58_k27)
def c58_k29 : C :=
  .cond (.t 19)
    (.seq (.ops [1, 3] [.p (some 21) (.move (.t 3)),
      .p (some 22) (.faddr 2 (.t 1)),
      .p (some 23) (.load false 1 (.t 22)),
      .p (some 24) (.conv (.int .u64) (.t 23)),
      .call (some 25) 59 [(.t 21), (.t 24), (.c (.int .i64 2))]])
    (c58_k1))
    (c58_k28)
def c58_k30 : C :=
  .seq (.ops [1, 3, 12, 19] [.p (some 20) (.bin .eql .int [] (.t 12) (.c (.int .i64 2))),
      .p (some 19) (.move (.t 20))])
    (c58_k29)
def c58_k31 : C :=
  .cond (.t 13)
    (.ops [3] [.p (some 15) (.move (.t 3)),
      .p (some 16) (.faddr 1 (.t 1)),
      .p (some 17) (.load false 1 (.t 16)),
      .call (some 18) 59 [(.t 15), (.t 17), (.c (.int .i64 8))]])
    (c58_k30)
def c58_k32 : C :=
  .seq (.ops [1, 3, 12, 13] [.p (some 14) (.bin .eql .int [] (.t 12) (.c (.int .i64 1))),
    .p (some 13) (.move (.t 14))])
  (c58_k31)
def c58_k33 : C :=
  .block 0 (c58_k32)
def c58_k34 : C :=
  .seq (.seq (.ops [1, 3, 12] [.p (some 11) (.faddr 0 (.t 1)),
    .p (some 12) (.load false 1 (.t 11))])
  (c58_k33))
  (c58_k0)
def c58_k35 : C :=
  .seq (.ops [1, 3] [.p (some 9) (.build [.nils] []),
    .e (some 10) (.box (.t 9)),
    .p (some 3) (.move (.t 10))])
  (c58_k34)
def c58 : FnC := ⟨1, 89, [.tmp 2],
  .seq (.ops [1] [.e (some 1) (.box (.t 0)),
    .p (some 2) (.move (.c .nils))])
  (c58_k35),
  []⟩

/-! 62: gossamer/wire.sum -/
def c62_k0 : C :=
  .seq (.ops [2] [.p (some 7) (.sliceArr 32 1 (.t 3) .none (some (.c (.int .i64 4)))),
    .p (some 2) (.move (.t 7))])
  (.ret)
def c62_k1 : C :=
  .seq (.ops [3] [.p (some 4) (.move (.t 0)),
    .p (some 5) (.bslice 34 1 1 [.nils] [(0, (.t 4))]),
    .call (some 6) 33 [(.t 5)],
    .e (some 3) (.alloc (List.replicate 32 (.d (.int .u8 0)))),
    .e .none (.store 32 (.t 3) (.t 6))])
  (c62_k0)
def c62 : FnC := ⟨1, 8, [.tmp 2],
  .seq (.ops [0] [.p (some 2) (.move (.c .nils))])
  (c62_k1),
  []⟩

/-! 15: gossamer/story.Kinds -/
def c15_k0 : C :=
  .seq (.ops [2] [.p (some 25) (.load true 10 (.t 3)),
    .e .none (.store 10 (.t 2) (.t 25))])
  (.ret)
def c15_k1 : C :=
  .cond (.t 13)
    (.ops [2, 3, 6, 7, 8] [.p (some 14) (.faddr 0 (.t 5)),
      .p (some 15) (.load false 1 (.t 14)),
      .p (some 16) (.iaddrArr 10 1 (.t 3) (.t 15)),
      .p (some 17) (.load false 1 (.t 16)),
      .p (some 18) (.bin .add .int [] (.t 17) (.c (.int .i64 1))),
      .p (some 19) (.iaddrArr 10 1 (.t 3) (.t 15)),
      .e .none (.store 1 (.t 19) (.t 18))])
    (.ops [2, 3, 6, 7, 8] [.p (some 20) (.iaddrArr 10 1 (.t 3) (.c (.int .i64 0))),
      .p (some 21) (.load false 1 (.t 20)),
      .p (some 22) (.bin .add .int [] (.t 21) (.c (.int .i64 1))),
      .p (some 23) (.iaddrArr 10 1 (.t 3) (.c (.int .i64 0))),
      .e .none (.store 1 (.t 23) (.t 22))])
def c15_k2 : C :=
  .seq (.ops [2, 3, 5, 6, 7, 8, 13] [.p (some 12) (.load true 11 (.t 5)),
    .call (some 13) 29 [(.t 12)]])
  (c15_k1)
def c15_k3 : C :=
  .seq (.ops [2, 3, 5, 6, 7, 8] [.p (some 10) (.iaddr 11 (.t 6) (.t 8)),
    .p (some 11) (.load true 11 (.t 10)),
    .e (some 5) (.alloc [(.d (.int .i64 0)), (.d (.int .u64 0)), (.d (.int .i64 0)), (.d (.int .i64 0)), (.d .nils), (.d (.bool false)), (.d .nils), (.d .nils), (.d .nils), (.d .nils), (.d (.bool false))]),
    .e .none (.store 11 (.t 5) (.t 11))])
  (c15_k2)
def c15_k4 : C :=
  .seq (.block 1 (c15_k3))
  (.ops [2, 3, 6, 7, 8] [.p (some 24) (.bin .add .int [] (.t 8) (.c (.int .i64 1))),
    .p (some 8) (.move (.t 24))])
def c15_k5 : C :=
  .seq (.cond (.t 9)
    (.skip)
    (.exit 0))
  (c15_k4)
def c15_l6 : C :=
  .seq (.ops [2, 3, 6, 7, 8, 9] [.p (some 9) (.bin .lss .int [] (.t 8) (.t 7))])
  (c15_k5)
def c15_k7 : C :=
  .block 0 (.loop [2, 3, 6, 7, 8] c15_l6)
def c15_k8 : C :=
  .seq (.seq (.ops [2, 3, 6, 7, 8] [.p (some 6) (.move (.t 0)),
    .p (some 7) (.len .slice (.t 6)),
    .p (some 8) (.move (.c (.int .i64 0)))])
  (c15_k7))
  (c15_k0)
def c15_k9 : C :=
  .seq (.ops [0, 2, 3] [.e (some 3) (.alloc (List.replicate 10 (.d (.int .i64 0))))])
  (c15_k8)
def c15 : FnC := ⟨1, 26, [.cell 2 true 10],
  .seq (.ops [0, 2] [.e (some 2) (.alloc (List.replicate 10 (.d (.int .i64 0))))])
  (c15_k9),
  []⟩

/-! 16: gossamer/gossamernum.Is -/
def c16_k0 : C :=
  .seq (.ops [4] [.p (some 5) (.move (.t 0)),
    .call (some 6) 30 [(.t 5)],
    .p (some 7) (.move (.t 1)),
    .p (some 8) (.bin .eql .int [] (.t 6) (.t 7)),
    .p (some 4) (.move (.t 8))])
  (.ret)
def c16 : FnC := ⟨2, 9, [.tmp 4],
  .seq (.ops [0, 1] [.p (some 4) (.move (.c (.bool false)))])
  (c16_k0),
  []⟩

/-! 30: gossamer/gossamernum.Num -/
def c30_k0 : C :=
  .cond (.t 16)
    (.seq (.ops [2] [.p (some 17) (.move (.t 3)),
      .p (some 2) (.move (.t 17))])
    (.ret))
    (.skip)
def c30_k1 : C :=
  .seq (.ops [3, 16] [.p (some 12) (.move (.t 4)),
    .p (some 13) (.move (.t 12)),
    .when 13 true [.p (some 14) (.move (.t 3)),
      .p (some 15) (.bin .neq .int [] (.t 14) (.c (.int .i64 0)))],
    .p (some 16) (.pick (.t 13) (.t 15) (.c (.bool false)))])
  (c30_k0)
def c30_k2 : C :=
  .seq (.seq (.ops [3, 4, 15] [.p (some 8) (.move (.t 0)),
    .p (some 9) (.assert 50 (.c (.int .i64 0)) true (.t 8)),
    .p (some 7) (.move (.t 9)),
    .p (some 10) (.extract (.t 7) 0),
    .p (some 11) (.extract (.t 7) 1),
    .p (some 3) (.move (.t 10)),
    .p (some 4) (.move (.t 11))])
  (c30_k1))
  (.seq (.ops [2] [.p (some 2) (.move (.c (.int .i64 (-1))))])
  (.ret))
def c30_k3 : C :=
  .cond (.t 6)
    (.seq (.ops [2] [.p (some 2) (.move (.c (.int .i64 0)))])
    (.ret))
    (.skip)
def c30_k4 : C :=
  .seq (.seq (.ops [0, 6, 15] [.p (some 5) (.move (.t 0)),
    .p (some 6) (.bin .eql .iface [] (.t 5) (.c .nili))])
  (c30_k3))
  (c30_k2)
def c30 : FnC := ⟨1, 18, [.tmp 2],
  .seq (.ops [0, 15] [.p (some 2) (.move (.c (.int .i64 0)))])
  (c30_k4),
  []⟩


theorem comp3 : ∃ fn code, Tryd.prog.funcs[3]? = some fn ∧ fn.body = some code ∧ (fn.name == "runtime.NumGoroutine") = false ∧ comp Tryd.prog fn.ntmps code = some (erase c3.body) ∧ compRes Tryd.prog fn.results.toList = some c3.res ∧ c3.nparams ≤ fn.ntmps ∧ fn.ntmps ≤ GB := ⟨_, _, Tryd.func3, rfl, by kernel_rfl, by kernel_rfl, by kernel_rfl, by decide, by decide⟩
theorem comp5 : ∃ fn code, Tryd.prog.funcs[5]? = some fn ∧ fn.body = some code ∧ (fn.name == "runtime.NumGoroutine") = false ∧ comp Tryd.prog fn.ntmps code = some (erase c5.body) ∧ compRes Tryd.prog fn.results.toList = some c5.res ∧ c5.nparams ≤ fn.ntmps ∧ fn.ntmps ≤ GB := ⟨_, _, Tryd.func5, rfl, by kernel_rfl, by kernel_rfl, by kernel_rfl, by decide, by decide⟩
theorem comp17 : ∃ fn code, Tryd.prog.funcs[17]? = some fn ∧ fn.body = some code ∧ (fn.name == "runtime.NumGoroutine") = false ∧ comp Tryd.prog fn.ntmps code = some (erase c17.body) ∧ compRes Tryd.prog fn.results.toList = some c17.res ∧ c17.nparams ≤ fn.ntmps ∧ fn.ntmps ≤ GB := ⟨_, _, Tryd.func17, rfl, by kernel_rfl, by kernel_rfl, by kernel_rfl, by decide, by decide⟩
theorem comp31 : ∃ fn code, Tryd.prog.funcs[31]? = some fn ∧ fn.body = some code ∧ (fn.name == "runtime.NumGoroutine") = false ∧ comp Tryd.prog fn.ntmps code = some (erase c31.body) ∧ compRes Tryd.prog fn.results.toList = some c31.res ∧ c31.nparams ≤ fn.ntmps ∧ fn.ntmps ≤ GB := ⟨_, _, Tryd.func31, rfl, by kernel_rfl, by kernel_rfl, by kernel_rfl, by decide, by decide⟩
theorem comp46 : ∃ fn code, Tryd.prog.funcs[46]? = some fn ∧ fn.body = some code ∧ (fn.name == "runtime.NumGoroutine") = false ∧ comp Tryd.prog fn.ntmps code = some (erase c46.body) ∧ compRes Tryd.prog fn.results.toList = some c46.res ∧ c46.nparams ≤ fn.ntmps ∧ fn.ntmps ≤ GB := ⟨_, _, Tryd.func46, rfl, by kernel_rfl, by kernel_rfl, by kernel_rfl, by decide, by decide⟩
theorem comp68 : ∃ fn code, Tryd.prog.funcs[68]? = some fn ∧ fn.body = some code ∧ (fn.name == "runtime.NumGoroutine") = false ∧ comp Tryd.prog fn.ntmps code = some (erase c68.body) ∧ compRes Tryd.prog fn.results.toList = some c68.res ∧ c68.nparams ≤ fn.ntmps ∧ fn.ntmps ≤ GB := ⟨_, _, Tryd.func68, rfl, by kernel_rfl, by kernel_rfl, by kernel_rfl, by decide, by decide⟩
theorem comp47 : ∃ fn code, Tryd.prog.funcs[47]? = some fn ∧ fn.body = some code ∧ (fn.name == "runtime.NumGoroutine") = false ∧ comp Tryd.prog fn.ntmps code = some (erase c47.body) ∧ compRes Tryd.prog fn.results.toList = some c47.res ∧ c47.nparams ≤ fn.ntmps ∧ fn.ntmps ≤ GB := ⟨_, _, Tryd.func47, rfl, by kernel_rfl, by kernel_rfl, by kernel_rfl, by decide, by decide⟩
theorem comp48 : ∃ fn code, Tryd.prog.funcs[48]? = some fn ∧ fn.body = some code ∧ (fn.name == "runtime.NumGoroutine") = false ∧ comp Tryd.prog fn.ntmps code = some (erase c48.body) ∧ compRes Tryd.prog fn.results.toList = some c48.res ∧ c48.nparams ≤ fn.ntmps ∧ fn.ntmps ≤ GB := ⟨_, _, Tryd.func48, rfl, by kernel_rfl, by kernel_rfl, by kernel_rfl, by decide, by decide⟩
theorem comp6 : ∃ fn code, Tryd.prog.funcs[6]? = some fn ∧ fn.body = some code ∧ (fn.name == "runtime.NumGoroutine") = false ∧ comp Tryd.prog fn.ntmps code = some (erase c6.body) ∧ compRes Tryd.prog fn.results.toList = some c6.res ∧ c6.nparams ≤ fn.ntmps ∧ fn.ntmps ≤ GB := ⟨_, _, Tryd.func6, rfl, by kernel_rfl, by kernel_rfl, by kernel_rfl, by decide, by decide⟩
theorem comp18 : ∃ fn code, Tryd.prog.funcs[18]? = some fn ∧ fn.body = some code ∧ (fn.name == "runtime.NumGoroutine") = false ∧ comp Tryd.prog fn.ntmps code = some (erase c18.body) ∧ compRes Tryd.prog fn.results.toList = some c18.res ∧ c18.nparams ≤ fn.ntmps ∧ fn.ntmps ≤ GB := ⟨_, _, Tryd.func18, rfl, by kernel_rfl, by kernel_rfl, by kernel_rfl, by decide, by decide⟩
theorem comp19 : ∃ fn code, Tryd.prog.funcs[19]? = some fn ∧ fn.body = some code ∧ (fn.name == "runtime.NumGoroutine") = false ∧ comp Tryd.prog fn.ntmps code = some (erase c19.body) ∧ compRes Tryd.prog fn.results.toList = some c19.res ∧ c19.nparams ≤ fn.ntmps ∧ fn.ntmps ≤ GB := ⟨_, _, Tryd.func19, rfl, by kernel_rfl, by kernel_rfl, by kernel_rfl, by decide, by decide⟩
theorem comp32 : ∃ fn code, Tryd.prog.funcs[32]? = some fn ∧ fn.body = some code ∧ (fn.name == "runtime.NumGoroutine") = false ∧ comp Tryd.prog fn.ntmps code = some (erase c32.body) ∧ compRes Tryd.prog fn.results.toList = some c32.res ∧ c32.nparams ≤ fn.ntmps ∧ fn.ntmps ≤ GB := ⟨_, _, Tryd.func32, rfl, by kernel_rfl, by kernel_rfl, by kernel_rfl, by decide, by decide⟩
theorem comp49 : ∃ fn code, Tryd.prog.funcs[49]? = some fn ∧ fn.body = some code ∧ (fn.name == "runtime.NumGoroutine") = false ∧ comp Tryd.prog fn.ntmps code = some (erase c49.body) ∧ compRes Tryd.prog fn.results.toList = some c49.res ∧ c49.nparams ≤ fn.ntmps ∧ fn.ntmps ≤ GB := ⟨_, _, Tryd.func49, rfl, by kernel_rfl, by kernel_rfl, by kernel_rfl, by decide, by decide⟩
theorem comp50 : ∃ fn code, Tryd.prog.funcs[50]? = some fn ∧ fn.body = some code ∧ (fn.name == "runtime.NumGoroutine") = false ∧ comp Tryd.prog fn.ntmps code = some (erase c50.body) ∧ compRes Tryd.prog fn.results.toList = some c50.res ∧ c50.nparams ≤ fn.ntmps ∧ fn.ntmps ≤ GB := ⟨_, _, Tryd.func50, rfl, by kernel_rfl, by kernel_rfl, by kernel_rfl, by decide, by decide⟩
theorem comp51 : ∃ fn code, Tryd.prog.funcs[51]? = some fn ∧ fn.body = some code ∧ (fn.name == "runtime.NumGoroutine") = false ∧ comp Tryd.prog fn.ntmps code = some (erase c51.body) ∧ compRes Tryd.prog fn.results.toList = some c51.res ∧ c51.nparams ≤ fn.ntmps ∧ fn.ntmps ≤ GB := ⟨_, _, Tryd.func51, rfl, by kernel_rfl, by kernel_rfl, by kernel_rfl, by decide, by decide⟩
theorem comp52 : ∃ fn code, Tryd.prog.funcs[52]? = some fn ∧ fn.body = some code ∧ (fn.name == "runtime.NumGoroutine") = false ∧ comp Tryd.prog fn.ntmps code = some (erase c52.body) ∧ compRes Tryd.prog fn.results.toList = some c52.res ∧ c52.nparams ≤ fn.ntmps ∧ fn.ntmps ≤ GB := ⟨_, _, Tryd.func52, rfl, by kernel_rfl, by kernel_rfl, by kernel_rfl, by decide, by decide⟩
theorem comp69 : ∃ fn code, Tryd.prog.funcs[69]? = some fn ∧ fn.body = some code ∧ (fn.name == "runtime.NumGoroutine") = false ∧ comp Tryd.prog fn.ntmps code = some (erase c69.body) ∧ compRes Tryd.prog fn.results.toList = some c69.res ∧ c69.nparams ≤ fn.ntmps ∧ fn.ntmps ≤ GB := ⟨_, _, Tryd.func69, rfl, by kernel_rfl, by kernel_rfl, by kernel_rfl, by decide, by decide⟩
theorem comp70 : ∃ fn code, Tryd.prog.funcs[70]? = some fn ∧ fn.body = some code ∧ (fn.name == "runtime.NumGoroutine") = false ∧ comp Tryd.prog fn.ntmps code = some (erase c70.body) ∧ compRes Tryd.prog fn.results.toList = some c70.res ∧ c70.nparams ≤ fn.ntmps ∧ fn.ntmps ≤ GB := ⟨_, _, Tryd.func70, rfl, by kernel_rfl, by kernel_rfl, by kernel_rfl, by decide, by decide⟩
theorem comp8 : ∃ fn code, Tryd.prog.funcs[8]? = some fn ∧ fn.body = some code ∧ (fn.name == "runtime.NumGoroutine") = false ∧ comp Tryd.prog fn.ntmps code = some (erase c8.body) ∧ compRes Tryd.prog fn.results.toList = some c8.res ∧ c8.nparams ≤ fn.ntmps ∧ fn.ntmps ≤ GB := ⟨_, _, Tryd.func8, rfl, by kernel_rfl, by kernel_rfl, by kernel_rfl, by decide, by decide⟩
theorem comp20 : ∃ fn code, Tryd.prog.funcs[20]? = some fn ∧ fn.body = some code ∧ (fn.name == "runtime.NumGoroutine") = false ∧ comp Tryd.prog fn.ntmps code = some (erase c20.body) ∧ compRes Tryd.prog fn.results.toList = some c20.res ∧ c20.nparams ≤ fn.ntmps ∧ fn.ntmps ≤ GB := ⟨_, _, Tryd.func20, rfl, by kernel_rfl, by kernel_rfl, by kernel_rfl, by decide, by decide⟩
theorem comp34 : ∃ fn code, Tryd.prog.funcs[34]? = some fn ∧ fn.body = some code ∧ (fn.name == "runtime.NumGoroutine") = false ∧ comp Tryd.prog fn.ntmps code = some (erase c34.body) ∧ compRes Tryd.prog fn.results.toList = some c34.res ∧ c34.nparams ≤ fn.ntmps ∧ fn.ntmps ≤ GB := ⟨_, _, Tryd.func34, rfl, by kernel_rfl, by kernel_rfl, by kernel_rfl, by decide, by decide⟩
theorem comp54 : ∃ fn code, Tryd.prog.funcs[54]? = some fn ∧ fn.body = some code ∧ (fn.name == "runtime.NumGoroutine") = false ∧ comp Tryd.prog fn.ntmps code = some (erase c54.body) ∧ compRes Tryd.prog fn.results.toList = some c54.res ∧ c54.nparams ≤ fn.ntmps ∧ fn.ntmps ≤ GB := ⟨_, _, Tryd.func54, rfl, by kernel_rfl, by kernel_rfl, by kernel_rfl, by decide, by decide⟩
theorem comp74 : ∃ fn code, Tryd.prog.funcs[74]? = some fn ∧ fn.body = some code ∧ (fn.name == "runtime.NumGoroutine") = false ∧ comp Tryd.prog fn.ntmps code = some (erase c74.body) ∧ compRes Tryd.prog fn.results.toList = some c74.res ∧ c74.nparams ≤ fn.ntmps ∧ fn.ntmps ≤ GB := ⟨_, _, Tryd.func74, rfl, by kernel_rfl, by kernel_rfl, by kernel_rfl, by decide, by decide⟩
theorem comp87 : ∃ fn code, Tryd.prog.funcs[87]? = some fn ∧ fn.body = some code ∧ (fn.name == "runtime.NumGoroutine") = false ∧ comp Tryd.prog fn.ntmps code = some (erase c87.body) ∧ compRes Tryd.prog fn.results.toList = some c87.res ∧ c87.nparams ≤ fn.ntmps ∧ fn.ntmps ≤ GB := ⟨_, _, Tryd.func87, rfl, by kernel_rfl, by kernel_rfl, by kernel_rfl, by decide, by decide⟩
theorem comp59 : ∃ fn code, Tryd.prog.funcs[59]? = some fn ∧ fn.body = some code ∧ (fn.name == "runtime.NumGoroutine") = false ∧ comp Tryd.prog fn.ntmps code = some (erase c59.body) ∧ compRes Tryd.prog fn.results.toList = some c59.res ∧ c59.nparams ≤ fn.ntmps ∧ fn.ntmps ≤ GB := ⟨_, _, Tryd.func59, rfl, by kernel_rfl, by kernel_rfl, by kernel_rfl, by decide, by decide⟩
theorem comp78 : ∃ fn code, Tryd.prog.funcs[78]? = some fn ∧ fn.body = some code ∧ (fn.name == "runtime.NumGoroutine") = false ∧ comp Tryd.prog fn.ntmps code = some (erase c78.body) ∧ compRes Tryd.prog fn.results.toList = some c78.res ∧ c78.nparams ≤ fn.ntmps ∧ fn.ntmps ≤ GB := ⟨_, _, Tryd.func78, rfl, by kernel_rfl, by kernel_rfl, by kernel_rfl, by decide, by decide⟩
theorem comp75 : ∃ fn code, Tryd.prog.funcs[75]? = some fn ∧ fn.body = some code ∧ (fn.name == "runtime.NumGoroutine") = false ∧ comp Tryd.prog fn.ntmps code = some (erase c75.body) ∧ compRes Tryd.prog fn.results.toList = some c75.res ∧ c75.nparams ≤ fn.ntmps ∧ fn.ntmps ≤ GB := ⟨_, _, Tryd.func75, rfl, by kernel_rfl, by kernel_rfl, by kernel_rfl, by decide, by decide⟩
theorem comp76 : ∃ fn code, Tryd.prog.funcs[76]? = some fn ∧ fn.body = some code ∧ (fn.name == "runtime.NumGoroutine") = false ∧ comp Tryd.prog fn.ntmps code = some (erase c76.body) ∧ compRes Tryd.prog fn.results.toList = some c76.res ∧ c76.nparams ≤ fn.ntmps ∧ fn.ntmps ≤ GB := ⟨_, _, Tryd.func76, rfl, by kernel_rfl, by kernel_rfl, by kernel_rfl, by decide, by decide⟩
theorem comp61 : ∃ fn code, Tryd.prog.funcs[61]? = some fn ∧ fn.body = some code ∧ (fn.name == "runtime.NumGoroutine") = false ∧ comp Tryd.prog fn.ntmps code = some (erase c61.body) ∧ compRes Tryd.prog fn.results.toList = some c61.res ∧ c61.nparams ≤ fn.ntmps ∧ fn.ntmps ≤ GB := ⟨_, _, Tryd.func61, rfl, by kernel_rfl, by kernel_rfl, by kernel_rfl, by decide, by decide⟩
theorem comp33 : ∃ fn code, Tryd.prog.funcs[33]? = some fn ∧ fn.body = some code ∧ (fn.name == "runtime.NumGoroutine") = false ∧ comp Tryd.prog fn.ntmps code = some (erase c33.body) ∧ compRes Tryd.prog fn.results.toList = some c33.res ∧ c33.nparams ≤ fn.ntmps ∧ fn.ntmps ≤ GB := ⟨_, _, Tryd.func33, rfl, by kernel_rfl, by kernel_rfl, by kernel_rfl, by decide, by decide⟩
theorem comp53 : ∃ fn code, Tryd.prog.funcs[53]? = some fn ∧ fn.body = some code ∧ (fn.name == "runtime.NumGoroutine") = false ∧ comp Tryd.prog fn.ntmps code = some (erase c53.body) ∧ compRes Tryd.prog fn.results.toList = some c53.res ∧ c53.nparams ≤ fn.ntmps ∧ fn.ntmps ≤ GB := ⟨_, _, Tryd.func53, rfl, by kernel_rfl, by kernel_rfl, by kernel_rfl, by decide, by decide⟩
theorem comp60 : ∃ fn code, Tryd.prog.funcs[60]? = some fn ∧ fn.body = some code ∧ (fn.name == "runtime.NumGoroutine") = false ∧ comp Tryd.prog fn.ntmps code = some (erase c60.body) ∧ compRes Tryd.prog fn.results.toList = some c60.res ∧ c60.nparams ≤ fn.ntmps ∧ fn.ntmps ≤ GB := ⟨_, _, Tryd.func60, rfl, by kernel_rfl, by kernel_rfl, by kernel_rfl, by decide, by decide⟩
theorem comp79 : ∃ fn code, Tryd.prog.funcs[79]? = some fn ∧ fn.body = some code ∧ (fn.name == "runtime.NumGoroutine") = false ∧ comp Tryd.prog fn.ntmps code = some (erase c79.body) ∧ compRes Tryd.prog fn.results.toList = some c79.res ∧ c79.nparams ≤ fn.ntmps ∧ fn.ntmps ≤ GB := ⟨_, _, Tryd.func79, rfl, by kernel_rfl, by kernel_rfl, by kernel_rfl, by decide, by decide⟩
theorem comp72 : ∃ fn code, Tryd.prog.funcs[72]? = some fn ∧ fn.body = some code ∧ (fn.name == "runtime.NumGoroutine") = false ∧ comp Tryd.prog fn.ntmps code = some (erase c72.body) ∧ compRes Tryd.prog fn.results.toList = some c72.res ∧ c72.nparams ≤ fn.ntmps ∧ fn.ntmps ≤ GB := ⟨_, _, Tryd.func72, rfl, by kernel_rfl, by kernel_rfl, by kernel_rfl, by decide, by decide⟩
theorem comp71 : ∃ fn code, Tryd.prog.funcs[71]? = some fn ∧ fn.body = some code ∧ (fn.name == "runtime.NumGoroutine") = false ∧ comp Tryd.prog fn.ntmps code = some (erase c71.body) ∧ compRes Tryd.prog fn.results.toList = some c71.res ∧ c71.nparams ≤ fn.ntmps ∧ fn.ntmps ≤ GB := ⟨_, _, Tryd.func71, rfl, by kernel_rfl, by kernel_rfl, by kernel_rfl, by decide, by decide⟩
theorem comp84 : ∃ fn code, Tryd.prog.funcs[84]? = some fn ∧ fn.body = some code ∧ (fn.name == "runtime.NumGoroutine") = false ∧ comp Tryd.prog fn.ntmps code = some (erase c84.body) ∧ compRes Tryd.prog fn.results.toList = some c84.res ∧ c84.nparams ≤ fn.ntmps ∧ fn.ntmps ≤ GB := ⟨_, _, Tryd.func84, rfl, by kernel_rfl, by kernel_rfl, by kernel_rfl, by decide, by decide⟩
theorem comp73 : ∃ fn code, Tryd.prog.funcs[73]? = some fn ∧ fn.body = some code ∧ (fn.name == "runtime.NumGoroutine") = false ∧ comp Tryd.prog fn.ntmps code = some (erase c73.body) ∧ compRes Tryd.prog fn.results.toList = some c73.res ∧ c73.nparams ≤ fn.ntmps ∧ fn.ntmps ≤ GB := ⟨_, _, Tryd.func73, rfl, by kernel_rfl, by kernel_rfl, by kernel_rfl, by decide, by decide⟩
theorem comp85 : ∃ fn code, Tryd.prog.funcs[85]? = some fn ∧ fn.body = some code ∧ (fn.name == "runtime.NumGoroutine") = false ∧ comp Tryd.prog fn.ntmps code = some (erase c85.body) ∧ compRes Tryd.prog fn.results.toList = some c85.res ∧ c85.nparams ≤ fn.ntmps ∧ fn.ntmps ≤ GB := ⟨_, _, Tryd.func85, rfl, by kernel_rfl, by kernel_rfl, by kernel_rfl, by decide, by decide⟩
theorem comp90 : ∃ fn code, Tryd.prog.funcs[90]? = some fn ∧ fn.body = some code ∧ (fn.name == "runtime.NumGoroutine") = false ∧ comp Tryd.prog fn.ntmps code = some (erase c90.body) ∧ compRes Tryd.prog fn.results.toList = some c90.res ∧ c90.nparams ≤ fn.ntmps ∧ fn.ntmps ≤ GB := ⟨_, _, Tryd.func90, rfl, by kernel_rfl, by kernel_rfl, by kernel_rfl, by decide, by decide⟩
theorem comp86 : ∃ fn code, Tryd.prog.funcs[86]? = some fn ∧ fn.body = some code ∧ (fn.name == "runtime.NumGoroutine") = false ∧ comp Tryd.prog fn.ntmps code = some (erase c86.body) ∧ compRes Tryd.prog fn.results.toList = some c86.res ∧ c86.nparams ≤ fn.ntmps ∧ fn.ntmps ≤ GB := ⟨_, _, Tryd.func86, rfl, by kernel_rfl, by kernel_rfl, by kernel_rfl, by decide, by decide⟩
theorem comp91 : ∃ fn code, Tryd.prog.funcs[91]? = some fn ∧ fn.body = some code ∧ (fn.name == "runtime.NumGoroutine") = false ∧ comp Tryd.prog fn.ntmps code = some (erase c91.body) ∧ compRes Tryd.prog fn.results.toList = some c91.res ∧ c91.nparams ≤ fn.ntmps ∧ fn.ntmps ≤ GB := ⟨_, _, Tryd.func91, rfl, by kernel_rfl, by kernel_rfl, by kernel_rfl, by decide, by decide⟩
theorem comp9 : ∃ fn code, Tryd.prog.funcs[9]? = some fn ∧ fn.body = some code ∧ (fn.name == "runtime.NumGoroutine") = false ∧ comp Tryd.prog fn.ntmps code = some (erase c9.body) ∧ compRes Tryd.prog fn.results.toList = some c9.res ∧ c9.nparams ≤ fn.ntmps ∧ fn.ntmps ≤ GB := ⟨_, _, Tryd.func9, rfl, by kernel_rfl, by kernel_rfl, by kernel_rfl, by decide, by decide⟩
theorem comp21 : ∃ fn code, Tryd.prog.funcs[21]? = some fn ∧ fn.body = some code ∧ (fn.name == "runtime.NumGoroutine") = false ∧ comp Tryd.prog fn.ntmps code = some (erase c21.body) ∧ compRes Tryd.prog fn.results.toList = some c21.res ∧ c21.nparams ≤ fn.ntmps ∧ fn.ntmps ≤ GB := ⟨_, _, Tryd.func21, rfl, by kernel_rfl, by kernel_rfl, by kernel_rfl, by decide, by decide⟩
theorem comp35 : ∃ fn code, Tryd.prog.funcs[35]? = some fn ∧ fn.body = some code ∧ (fn.name == "runtime.NumGoroutine") = false ∧ comp Tryd.prog fn.ntmps code = some (erase c35.body) ∧ compRes Tryd.prog fn.results.toList = some c35.res ∧ c35.nparams ≤ fn.ntmps ∧ fn.ntmps ≤ GB := ⟨_, _, Tryd.func35, rfl, by kernel_rfl, by kernel_rfl, by kernel_rfl, by decide, by decide⟩
theorem comp55 : ∃ fn code, Tryd.prog.funcs[55]? = some fn ∧ fn.body = some code ∧ (fn.name == "runtime.NumGoroutine") = false ∧ comp Tryd.prog fn.ntmps code = some (erase c55.body) ∧ compRes Tryd.prog fn.results.toList = some c55.res ∧ c55.nparams ≤ fn.ntmps ∧ fn.ntmps ≤ GB := ⟨_, _, Tryd.func55, rfl, by kernel_rfl, by kernel_rfl, by kernel_rfl, by decide, by decide⟩
theorem comp39 : ∃ fn code, Tryd.prog.funcs[39]? = some fn ∧ fn.body = some code ∧ (fn.name == "runtime.NumGoroutine") = false ∧ comp Tryd.prog fn.ntmps code = some (erase c39.body) ∧ compRes Tryd.prog fn.results.toList = some c39.res ∧ c39.nparams ≤ fn.ntmps ∧ fn.ntmps ≤ GB := ⟨_, _, Tryd.func39, rfl, by kernel_rfl, by kernel_rfl, by kernel_rfl, by decide, by decide⟩
theorem comp25 : ∃ fn code, Tryd.prog.funcs[25]? = some fn ∧ fn.body = some code ∧ (fn.name == "runtime.NumGoroutine") = false ∧ comp Tryd.prog fn.ntmps code = some (erase c25.body) ∧ compRes Tryd.prog fn.results.toList = some c25.res ∧ c25.nparams ≤ fn.ntmps ∧ fn.ntmps ≤ GB := ⟨_, _, Tryd.func25, rfl, by kernel_rfl, by kernel_rfl, by kernel_rfl, by decide, by decide⟩
theorem comp26 : ∃ fn code, Tryd.prog.funcs[26]? = some fn ∧ fn.body = some code ∧ (fn.name == "runtime.NumGoroutine") = false ∧ comp Tryd.prog fn.ntmps code = some (erase c26.body) ∧ compRes Tryd.prog fn.results.toList = some c26.res ∧ c26.nparams ≤ fn.ntmps ∧ fn.ntmps ≤ GB := ⟨_, _, Tryd.func26, rfl, by kernel_rfl, by kernel_rfl, by kernel_rfl, by decide, by decide⟩
theorem comp38 : ∃ fn code, Tryd.prog.funcs[38]? = some fn ∧ fn.body = some code ∧ (fn.name == "runtime.NumGoroutine") = false ∧ comp Tryd.prog fn.ntmps code = some (erase c38.body) ∧ compRes Tryd.prog fn.results.toList = some c38.res ∧ c38.nparams ≤ fn.ntmps ∧ fn.ntmps ≤ GB := ⟨_, _, Tryd.func38, rfl, by kernel_rfl, by kernel_rfl, by kernel_rfl, by decide, by decide⟩
theorem comp27 : ∃ fn code, Tryd.prog.funcs[27]? = some fn ∧ fn.body = some code ∧ (fn.name == "runtime.NumGoroutine") = false ∧ comp Tryd.prog fn.ntmps code = some (erase c27.body) ∧ compRes Tryd.prog fn.results.toList = some c27.res ∧ c27.nparams ≤ fn.ntmps ∧ fn.ntmps ≤ GB := ⟨_, _, Tryd.func27, rfl, by kernel_rfl, by kernel_rfl, by kernel_rfl, by decide, by decide⟩
theorem comp40 : ∃ fn code, Tryd.prog.funcs[40]? = some fn ∧ fn.body = some code ∧ (fn.name == "runtime.NumGoroutine") = false ∧ comp Tryd.prog fn.ntmps code = some (erase c40.body) ∧ compRes Tryd.prog fn.results.toList = some c40.res ∧ c40.nparams ≤ fn.ntmps ∧ fn.ntmps ≤ GB := ⟨_, _, Tryd.func40, rfl, by kernel_rfl, by kernel_rfl, by kernel_rfl, by decide, by decide⟩
theorem comp57 : ∃ fn code, Tryd.prog.funcs[57]? = some fn ∧ fn.body = some code ∧ (fn.name == "runtime.NumGoroutine") = false ∧ comp Tryd.prog fn.ntmps code = some (erase c57.body) ∧ compRes Tryd.prog fn.results.toList = some c57.res ∧ c57.nparams ≤ fn.ntmps ∧ fn.ntmps ≤ GB := ⟨_, _, Tryd.func57, rfl, by kernel_rfl, by kernel_rfl, by kernel_rfl, by decide, by decide⟩
theorem comp41 : ∃ fn code, Tryd.prog.funcs[41]? = some fn ∧ fn.body = some code ∧ (fn.name == "runtime.NumGoroutine") = false ∧ comp Tryd.prog fn.ntmps code = some (erase c41.body) ∧ compRes Tryd.prog fn.results.toList = some c41.res ∧ c41.nparams ≤ fn.ntmps ∧ fn.ntmps ≤ GB := ⟨_, _, Tryd.func41, rfl, by kernel_rfl, by kernel_rfl, by kernel_rfl, by decide, by decide⟩
theorem comp7 : ∃ fn code, Tryd.prog.funcs[7]? = some fn ∧ fn.body = some code ∧ (fn.name == "runtime.NumGoroutine") = false ∧ comp Tryd.prog fn.ntmps code = some (erase c7.body) ∧ compRes Tryd.prog fn.results.toList = some c7.res ∧ c7.nparams ≤ fn.ntmps ∧ fn.ntmps ≤ GB := ⟨_, _, Tryd.func7, rfl, by kernel_rfl, by kernel_rfl, by kernel_rfl, by decide, by decide⟩
theorem comp10 : ∃ fn code, Tryd.prog.funcs[10]? = some fn ∧ fn.body = some code ∧ (fn.name == "runtime.NumGoroutine") = false ∧ comp Tryd.prog fn.ntmps code = some (erase c10.body) ∧ compRes Tryd.prog fn.results.toList = some c10.res ∧ c10.nparams ≤ fn.ntmps ∧ fn.ntmps ≤ GB := ⟨_, _, Tryd.func10, rfl, by kernel_rfl, by kernel_rfl, by kernel_rfl, by decide, by decide⟩
theorem comp22 : ∃ fn code, Tryd.prog.funcs[22]? = some fn ∧ fn.body = some code ∧ (fn.name == "runtime.NumGoroutine") = false ∧ comp Tryd.prog fn.ntmps code = some (erase c22.body) ∧ compRes Tryd.prog fn.results.toList = some c22.res ∧ c22.nparams ≤ fn.ntmps ∧ fn.ntmps ≤ GB := ⟨_, _, Tryd.func22, rfl, by kernel_rfl, by kernel_rfl, by kernel_rfl, by decide, by decide⟩
theorem comp36 : ∃ fn code, Tryd.prog.funcs[36]? = some fn ∧ fn.body = some code ∧ (fn.name == "runtime.NumGoroutine") = false ∧ comp Tryd.prog fn.ntmps code = some (erase c36.body) ∧ compRes Tryd.prog fn.results.toList = some c36.res ∧ c36.nparams ≤ fn.ntmps ∧ fn.ntmps ≤ GB := ⟨_, _, Tryd.func36, rfl, by kernel_rfl, by kernel_rfl, by kernel_rfl, by decide, by decide⟩
theorem comp11 : ∃ fn code, Tryd.prog.funcs[11]? = some fn ∧ fn.body = some code ∧ (fn.name == "runtime.NumGoroutine") = false ∧ comp Tryd.prog fn.ntmps code = some (erase c11.body) ∧ compRes Tryd.prog fn.results.toList = some c11.res ∧ c11.nparams ≤ fn.ntmps ∧ fn.ntmps ≤ GB := ⟨_, _, Tryd.func11, rfl, by kernel_rfl, by kernel_rfl, by kernel_rfl, by decide, by decide⟩
theorem comp4 : ∃ fn code, Tryd.prog.funcs[4]? = some fn ∧ fn.body = some code ∧ (fn.name == "runtime.NumGoroutine") = false ∧ comp Tryd.prog fn.ntmps code = some (erase c4.body) ∧ compRes Tryd.prog fn.results.toList = some c4.res ∧ c4.nparams ≤ fn.ntmps ∧ fn.ntmps ≤ GB := ⟨_, _, Tryd.func4, rfl, by kernel_rfl, by kernel_rfl, by kernel_rfl, by decide, by decide⟩
theorem comp12 : ∃ fn code, Tryd.prog.funcs[12]? = some fn ∧ fn.body = some code ∧ (fn.name == "runtime.NumGoroutine") = false ∧ comp Tryd.prog fn.ntmps code = some (erase c12.body) ∧ compRes Tryd.prog fn.results.toList = some c12.res ∧ c12.nparams ≤ fn.ntmps ∧ fn.ntmps ≤ GB := ⟨_, _, Tryd.func12, rfl, by kernel_rfl, by kernel_rfl, by kernel_rfl, by decide, by decide⟩
theorem comp23 : ∃ fn code, Tryd.prog.funcs[23]? = some fn ∧ fn.body = some code ∧ (fn.name == "runtime.NumGoroutine") = false ∧ comp Tryd.prog fn.ntmps code = some (erase c23.body) ∧ compRes Tryd.prog fn.results.toList = some c23.res ∧ c23.nparams ≤ fn.ntmps ∧ fn.ntmps ≤ GB := ⟨_, _, Tryd.func23, rfl, by kernel_rfl, by kernel_rfl, by kernel_rfl, by decide, by decide⟩
theorem comp37 : ∃ fn code, Tryd.prog.funcs[37]? = some fn ∧ fn.body = some code ∧ (fn.name == "runtime.NumGoroutine") = false ∧ comp Tryd.prog fn.ntmps code = some (erase c37.body) ∧ compRes Tryd.prog fn.results.toList = some c37.res ∧ c37.nparams ≤ fn.ntmps ∧ fn.ntmps ≤ GB := ⟨_, _, Tryd.func37, rfl, by kernel_rfl, by kernel_rfl, by kernel_rfl, by decide, by decide⟩
theorem comp56 : ∃ fn code, Tryd.prog.funcs[56]? = some fn ∧ fn.body = some code ∧ (fn.name == "runtime.NumGoroutine") = false ∧ comp Tryd.prog fn.ntmps code = some (erase c56.body) ∧ compRes Tryd.prog fn.results.toList = some c56.res ∧ c56.nparams ≤ fn.ntmps ∧ fn.ntmps ≤ GB := ⟨_, _, Tryd.func56, rfl, by kernel_rfl, by kernel_rfl, by kernel_rfl, by decide, by decide⟩
theorem comp77 : ∃ fn code, Tryd.prog.funcs[77]? = some fn ∧ fn.body = some code ∧ (fn.name == "runtime.NumGoroutine") = false ∧ comp Tryd.prog fn.ntmps code = some (erase c77.body) ∧ compRes Tryd.prog fn.results.toList = some c77.res ∧ c77.nparams ≤ fn.ntmps ∧ fn.ntmps ≤ GB := ⟨_, _, Tryd.func77, rfl, by kernel_rfl, by kernel_rfl, by kernel_rfl, by decide, by decide⟩
theorem comp13 : ∃ fn code, Tryd.prog.funcs[13]? = some fn ∧ fn.body = some code ∧ (fn.name == "runtime.NumGoroutine") = false ∧ comp Tryd.prog fn.ntmps code = some (erase c13.body) ∧ compRes Tryd.prog fn.results.toList = some c13.res ∧ c13.nparams ≤ fn.ntmps ∧ fn.ntmps ≤ GB := ⟨_, _, Tryd.func13, rfl, by kernel_rfl, by kernel_rfl, by kernel_rfl, by decide, by decide⟩
theorem comp24 : ∃ fn code, Tryd.prog.funcs[24]? = some fn ∧ fn.body = some code ∧ (fn.name == "runtime.NumGoroutine") = false ∧ comp Tryd.prog fn.ntmps code = some (erase c24.body) ∧ compRes Tryd.prog fn.results.toList = some c24.res ∧ c24.nparams ≤ fn.ntmps ∧ fn.ntmps ≤ GB := ⟨_, _, Tryd.func24, rfl, by kernel_rfl, by kernel_rfl, by kernel_rfl, by decide, by decide⟩
theorem comp14 : ∃ fn code, Tryd.prog.funcs[14]? = some fn ∧ fn.body = some code ∧ (fn.name == "runtime.NumGoroutine") = false ∧ comp Tryd.prog fn.ntmps code = some (erase c14.body) ∧ compRes Tryd.prog fn.results.toList = some c14.res ∧ c14.nparams ≤ fn.ntmps ∧ fn.ntmps ≤ GB := ⟨_, _, Tryd.func14, rfl, by kernel_rfl, by kernel_rfl, by kernel_rfl, by decide, by decide⟩
theorem comp28 : ∃ fn code, Tryd.prog.funcs[28]? = some fn ∧ fn.body = some code ∧ (fn.name == "runtime.NumGoroutine") = false ∧ comp Tryd.prog fn.ntmps code = some (erase c28.body) ∧ compRes Tryd.prog fn.results.toList = some c28.res ∧ c28.nparams ≤ fn.ntmps ∧ fn.ntmps ≤ GB := ⟨_, _, Tryd.func28, rfl, by kernel_rfl, by kernel_rfl, by kernel_rfl, by decide, by decide⟩
theorem comp42 : ∃ fn code, Tryd.prog.funcs[42]? = some fn ∧ fn.body = some code ∧ (fn.name == "runtime.NumGoroutine") = false ∧ comp Tryd.prog fn.ntmps code = some (erase c42.body) ∧ compRes Tryd.prog fn.results.toList = some c42.res ∧ c42.nparams ≤ fn.ntmps ∧ fn.ntmps ≤ GB := ⟨_, _, Tryd.func42, rfl, by kernel_rfl, by kernel_rfl, by kernel_rfl, by decide, by decide⟩
theorem comp29 : ∃ fn code, Tryd.prog.funcs[29]? = some fn ∧ fn.body = some code ∧ (fn.name == "runtime.NumGoroutine") = false ∧ comp Tryd.prog fn.ntmps code = some (erase c29.body) ∧ compRes Tryd.prog fn.results.toList = some c29.res ∧ c29.nparams ≤ fn.ntmps ∧ fn.ntmps ≤ GB := ⟨_, _, Tryd.func29, rfl, by kernel_rfl, by kernel_rfl, by kernel_rfl, by decide, by decide⟩
theorem comp43 : ∃ fn code, Tryd.prog.funcs[43]? = some fn ∧ fn.body = some code ∧ (fn.name == "runtime.NumGoroutine") = false ∧ comp Tryd.prog fn.ntmps code = some (erase c43.body) ∧ compRes Tryd.prog fn.results.toList = some c43.res ∧ c43.nparams ≤ fn.ntmps ∧ fn.ntmps ≤ GB := ⟨_, _, Tryd.func43, rfl, by kernel_rfl, by kernel_rfl, by kernel_rfl, by decide, by decide⟩
theorem comp63 : ∃ fn code, Tryd.prog.funcs[63]? = some fn ∧ fn.body = some code ∧ (fn.name == "runtime.NumGoroutine") = false ∧ comp Tryd.prog fn.ntmps code = some (erase c63.body) ∧ compRes Tryd.prog fn.results.toList = some c63.res ∧ c63.nparams ≤ fn.ntmps ∧ fn.ntmps ≤ GB := ⟨_, _, Tryd.func63, rfl, by kernel_rfl, by kernel_rfl, by kernel_rfl, by decide, by decide⟩
theorem comp64 : ∃ fn code, Tryd.prog.funcs[64]? = some fn ∧ fn.body = some code ∧ (fn.name == "runtime.NumGoroutine") = false ∧ comp Tryd.prog fn.ntmps code = some (erase c64.body) ∧ compRes Tryd.prog fn.results.toList = some c64.res ∧ c64.nparams ≤ fn.ntmps ∧ fn.ntmps ≤ GB := ⟨_, _, Tryd.func64, rfl, by kernel_rfl, by kernel_rfl, by kernel_rfl, by decide, by decide⟩
theorem comp44 : ∃ fn code, Tryd.prog.funcs[44]? = some fn ∧ fn.body = some code ∧ (fn.name == "runtime.NumGoroutine") = false ∧ comp Tryd.prog fn.ntmps code = some (erase c44.body) ∧ compRes Tryd.prog fn.results.toList = some c44.res ∧ c44.nparams ≤ fn.ntmps ∧ fn.ntmps ≤ GB := ⟨_, _, Tryd.func44, rfl, by kernel_rfl, by kernel_rfl, by kernel_rfl, by decide, by decide⟩
theorem comp45 : ∃ fn code, Tryd.prog.funcs[45]? = some fn ∧ fn.body = some code ∧ (fn.name == "runtime.NumGoroutine") = false ∧ comp Tryd.prog fn.ntmps code = some (erase c45.body) ∧ compRes Tryd.prog fn.results.toList = some c45.res ∧ c45.nparams ≤ fn.ntmps ∧ fn.ntmps ≤ GB := ⟨_, _, Tryd.func45, rfl, by kernel_rfl, by kernel_rfl, by kernel_rfl, by decide, by decide⟩
theorem comp65 : ∃ fn code, Tryd.prog.funcs[65]? = some fn ∧ fn.body = some code ∧ (fn.name == "runtime.NumGoroutine") = false ∧ comp Tryd.prog fn.ntmps code = some (erase c65.body) ∧ compRes Tryd.prog fn.results.toList = some c65.res ∧ c65.nparams ≤ fn.ntmps ∧ fn.ntmps ≤ GB := ⟨_, _, Tryd.func65, rfl, by kernel_rfl, by kernel_rfl, by kernel_rfl, by decide, by decide⟩
theorem comp80 : ∃ fn code, Tryd.prog.funcs[80]? = some fn ∧ fn.body = some code ∧ (fn.name == "runtime.NumGoroutine") = false ∧ comp Tryd.prog fn.ntmps code = some (erase c80.body) ∧ compRes Tryd.prog fn.results.toList = some c80.res ∧ c80.nparams ≤ fn.ntmps ∧ fn.ntmps ≤ GB := ⟨_, _, Tryd.func80, rfl, by kernel_rfl, by kernel_rfl, by kernel_rfl, by decide, by decide⟩
theorem comp88 : ∃ fn code, Tryd.prog.funcs[88]? = some fn ∧ fn.body = some code ∧ (fn.name == "runtime.NumGoroutine") = false ∧ comp Tryd.prog fn.ntmps code = some (erase c88.body) ∧ compRes Tryd.prog fn.results.toList = some c88.res ∧ c88.nparams ≤ fn.ntmps ∧ fn.ntmps ≤ GB := ⟨_, _, Tryd.func88, rfl, by kernel_rfl, by kernel_rfl, by kernel_rfl, by decide, by decide⟩
theorem comp81 : ∃ fn code, Tryd.prog.funcs[81]? = some fn ∧ fn.body = some code ∧ (fn.name == "runtime.NumGoroutine") = false ∧ comp Tryd.prog fn.ntmps code = some (erase c81.body) ∧ compRes Tryd.prog fn.results.toList = some c81.res ∧ c81.nparams ≤ fn.ntmps ∧ fn.ntmps ≤ GB := ⟨_, _, Tryd.func81, rfl, by kernel_rfl, by kernel_rfl, by kernel_rfl, by decide, by decide⟩
theorem comp66 : ∃ fn code, Tryd.prog.funcs[66]? = some fn ∧ fn.body = some code ∧ (fn.name == "runtime.NumGoroutine") = false ∧ comp Tryd.prog fn.ntmps code = some (erase c66.body) ∧ compRes Tryd.prog fn.results.toList = some c66.res ∧ c66.nparams ≤ fn.ntmps ∧ fn.ntmps ≤ GB := ⟨_, _, Tryd.func66, rfl, by kernel_rfl, by kernel_rfl, by kernel_rfl, by decide, by decide⟩
theorem comp82 : ∃ fn code, Tryd.prog.funcs[82]? = some fn ∧ fn.body = some code ∧ (fn.name == "runtime.NumGoroutine") = false ∧ comp Tryd.prog fn.ntmps code = some (erase c82.body) ∧ compRes Tryd.prog fn.results.toList = some c82.res ∧ c82.nparams ≤ fn.ntmps ∧ fn.ntmps ≤ GB := ⟨_, _, Tryd.func82, rfl, by kernel_rfl, by kernel_rfl, by kernel_rfl, by decide, by decide⟩
theorem comp89 : ∃ fn code, Tryd.prog.funcs[89]? = some fn ∧ fn.body = some code ∧ (fn.name == "runtime.NumGoroutine") = false ∧ comp Tryd.prog fn.ntmps code = some (erase c89.body) ∧ compRes Tryd.prog fn.results.toList = some c89.res ∧ c89.nparams ≤ fn.ntmps ∧ fn.ntmps ≤ GB := ⟨_, _, Tryd.func89, rfl, by kernel_rfl, by kernel_rfl, by kernel_rfl, by decide, by decide⟩
theorem comp67 : ∃ fn code, Tryd.prog.funcs[67]? = some fn ∧ fn.body = some code ∧ (fn.name == "runtime.NumGoroutine") = false ∧ comp Tryd.prog fn.ntmps code = some (erase c67.body) ∧ compRes Tryd.prog fn.results.toList = some c67.res ∧ c67.nparams ≤ fn.ntmps ∧ fn.ntmps ≤ GB := ⟨_, _, Tryd.func67, rfl, by kernel_rfl, by kernel_rfl, by kernel_rfl, by decide, by decide⟩
theorem comp83 : ∃ fn code, Tryd.prog.funcs[83]? = some fn ∧ fn.body = some code ∧ (fn.name == "runtime.NumGoroutine") = false ∧ comp Tryd.prog fn.ntmps code = some (erase c83.body) ∧ compRes Tryd.prog fn.results.toList = some c83.res ∧ c83.nparams ≤ fn.ntmps ∧ fn.ntmps ≤ GB := ⟨_, _, Tryd.func83, rfl, by kernel_rfl, by kernel_rfl, by kernel_rfl, by decide, by decide⟩
theorem comp58 : ∃ fn code, Tryd.prog.funcs[58]? = some fn ∧ fn.body = some code ∧ (fn.name == "runtime.NumGoroutine") = false ∧ comp Tryd.prog fn.ntmps code = some (erase c58.body) ∧ compRes Tryd.prog fn.results.toList = some c58.res ∧ c58.nparams ≤ fn.ntmps ∧ fn.ntmps ≤ GB := ⟨_, _, Tryd.func58, rfl, by kernel_rfl, by kernel_rfl, by kernel_rfl, by decide, by decide⟩
theorem comp62 : ∃ fn code, Tryd.prog.funcs[62]? = some fn ∧ fn.body = some code ∧ (fn.name == "runtime.NumGoroutine") = false ∧ comp Tryd.prog fn.ntmps code = some (erase c62.body) ∧ compRes Tryd.prog fn.results.toList = some c62.res ∧ c62.nparams ≤ fn.ntmps ∧ fn.ntmps ≤ GB := ⟨_, _, Tryd.func62, rfl, by kernel_rfl, by kernel_rfl, by kernel_rfl, by decide, by decide⟩
theorem comp15 : ∃ fn code, Tryd.prog.funcs[15]? = some fn ∧ fn.body = some code ∧ (fn.name == "runtime.NumGoroutine") = false ∧ comp Tryd.prog fn.ntmps code = some (erase c15.body) ∧ compRes Tryd.prog fn.results.toList = some c15.res ∧ c15.nparams ≤ fn.ntmps ∧ fn.ntmps ≤ GB := ⟨_, _, Tryd.func15, rfl, by kernel_rfl, by kernel_rfl, by kernel_rfl, by decide, by decide⟩
theorem comp16 : ∃ fn code, Tryd.prog.funcs[16]? = some fn ∧ fn.body = some code ∧ (fn.name == "runtime.NumGoroutine") = false ∧ comp Tryd.prog fn.ntmps code = some (erase c16.body) ∧ compRes Tryd.prog fn.results.toList = some c16.res ∧ c16.nparams ≤ fn.ntmps ∧ fn.ntmps ≤ GB := ⟨_, _, Tryd.func16, rfl, by kernel_rfl, by kernel_rfl, by kernel_rfl, by decide, by decide⟩
theorem comp30 : ∃ fn code, Tryd.prog.funcs[30]? = some fn ∧ fn.body = some code ∧ (fn.name == "runtime.NumGoroutine") = false ∧ comp Tryd.prog fn.ntmps code = some (erase c30.body) ∧ compRes Tryd.prog fn.results.toList = some c30.res ∧ c30.nparams ≤ fn.ntmps ∧ fn.ntmps ≤ GB := ⟨_, _, Tryd.func30, rfl, by kernel_rfl, by kernel_rfl, by kernel_rfl, by decide, by decide⟩
def globT : List (Nat × List D) := [(1, g1), (2, g2), (0, g0)]
def Γ : Nat → Option FnC
  | 3 => some c3
  | 4 => some c4
  | 5 => some c5
  | 6 => some c6
  | 7 => some c7
  | 8 => some c8
  | 9 => some c9
  | 10 => some c10
  | 11 => some c11
  | 12 => some c12
  | 13 => some c13
  | 14 => some c14
  | 15 => some c15
  | 16 => some c16
  | 17 => some c17
  | 18 => some c18
  | 19 => some c19
  | 20 => some c20
  | 21 => some c21
  | 22 => some c22
  | 23 => some c23
  | 24 => some c24
  | 25 => some c25
  | 26 => some c26
  | 27 => some c27
  | 28 => some c28
  | 29 => some c29
  | 30 => some c30
  | 31 => some c31
  | 32 => some c32
  | 33 => some c33
  | 34 => some c34
  | 35 => some c35
  | 36 => some c36
  | 37 => some c37
  | 38 => some c38
  | 39 => some c39
  | 40 => some c40
  | 41 => some c41
  | 42 => some c42
  | 43 => some c43
  | 44 => some c44
  | 45 => some c45
  | 46 => some c46
  | 47 => some c47
  | 48 => some c48
  | 49 => some c49
  | 50 => some c50
  | 51 => some c51
  | 52 => some c52
  | 53 => some c53
  | 54 => some c54
  | 55 => some c55
  | 56 => some c56
  | 57 => some c57
  | 58 => some c58
  | 59 => some c59
  | 60 => some c60
  | 61 => some c61
  | 62 => some c62
  | 63 => some c63
  | 64 => some c64
  | 65 => some c65
  | 66 => some c66
  | 67 => some c67
  | 68 => some c68
  | 69 => some c69
  | 70 => some c70
  | 71 => some c71
  | 72 => some c72
  | 73 => some c73
  | 74 => some c74
  | 75 => some c75
  | 76 => some c76
  | 77 => some c77
  | 78 => some c78
  | 79 => some c79
  | 80 => some c80
  | 81 => some c81
  | 82 => some c82
  | 83 => some c83
  | 84 => some c84
  | 85 => some c85
  | 86 => some c86
  | 87 => some c87
  | 88 => some c88
  | 89 => some c89
  | 90 => some c90
  | 91 => some c91
  | _ => none
def cx : Cx := { mode := fun _ => .val, globs := globT, obj := [35] }
theorem hΓ : ∀ (f : Nat) (fc : FnC), Γ f = some fc → Nonempty (Fits Tryd.prog cx.globs f fc) := by
  intro f fc h
  unfold Γ at h
  split at h
  case h_90 => cases h
  all_goals (cases h)
  · obtain ⟨fn, code, h1, h2, h3, h4, h5, h6, h7⟩ := comp3; exact ⟨⟨fn, code, h1, h2, h3, h4, h5, h6, h7, fun x hx => by first | (cases hx; done) | (simp only [c3, List.mem_cons, List.not_mem_nil, or_false] at hx; simp only [cx, globT, List.mem_cons, List.not_mem_nil, or_false]; rcases hx with rfl | rfl | rfl | rfl <;> simp) | (simp only [c3, List.mem_cons, List.not_mem_nil, or_false] at hx; simp only [cx, globT, List.mem_cons, List.not_mem_nil, or_false]; simp [hx])⟩⟩
  · obtain ⟨fn, code, h1, h2, h3, h4, h5, h6, h7⟩ := comp4; exact ⟨⟨fn, code, h1, h2, h3, h4, h5, h6, h7, fun x hx => by first | (cases hx; done) | (simp only [c4, List.mem_cons, List.not_mem_nil, or_false] at hx; simp only [cx, globT, List.mem_cons, List.not_mem_nil, or_false]; rcases hx with rfl | rfl | rfl | rfl <;> simp) | (simp only [c4, List.mem_cons, List.not_mem_nil, or_false] at hx; simp only [cx, globT, List.mem_cons, List.not_mem_nil, or_false]; simp [hx])⟩⟩
  · obtain ⟨fn, code, h1, h2, h3, h4, h5, h6, h7⟩ := comp5; exact ⟨⟨fn, code, h1, h2, h3, h4, h5, h6, h7, fun x hx => by first | (cases hx; done) | (simp only [c5, List.mem_cons, List.not_mem_nil, or_false] at hx; simp only [cx, globT, List.mem_cons, List.not_mem_nil, or_false]; rcases hx with rfl | rfl | rfl | rfl <;> simp) | (simp only [c5, List.mem_cons, List.not_mem_nil, or_false] at hx; simp only [cx, globT, List.mem_cons, List.not_mem_nil, or_false]; simp [hx])⟩⟩
  · obtain ⟨fn, code, h1, h2, h3, h4, h5, h6, h7⟩ := comp6; exact ⟨⟨fn, code, h1, h2, h3, h4, h5, h6, h7, fun x hx => by first | (cases hx; done) | (simp only [c6, List.mem_cons, List.not_mem_nil, or_false] at hx; simp only [cx, globT, List.mem_cons, List.not_mem_nil, or_false]; rcases hx with rfl | rfl | rfl | rfl <;> simp) | (simp only [c6, List.mem_cons, List.not_mem_nil, or_false] at hx; simp only [cx, globT, List.mem_cons, List.not_mem_nil, or_false]; simp [hx])⟩⟩
  · obtain ⟨fn, code, h1, h2, h3, h4, h5, h6, h7⟩ := comp7; exact ⟨⟨fn, code, h1, h2, h3, h4, h5, h6, h7, fun x hx => by first | (cases hx; done) | (simp only [c7, List.mem_cons, List.not_mem_nil, or_false] at hx; simp only [cx, globT, List.mem_cons, List.not_mem_nil, or_false]; rcases hx with rfl | rfl | rfl | rfl <;> simp) | (simp only [c7, List.mem_cons, List.not_mem_nil, or_false] at hx; simp only [cx, globT, List.mem_cons, List.not_mem_nil, or_false]; simp [hx])⟩⟩
  · obtain ⟨fn, code, h1, h2, h3, h4, h5, h6, h7⟩ := comp8; exact ⟨⟨fn, code, h1, h2, h3, h4, h5, h6, h7, fun x hx => by first | (cases hx; done) | (simp only [c8, List.mem_cons, List.not_mem_nil, or_false] at hx; simp only [cx, globT, List.mem_cons, List.not_mem_nil, or_false]; rcases hx with rfl | rfl | rfl | rfl <;> simp) | (simp only [c8, List.mem_cons, List.not_mem_nil, or_false] at hx; simp only [cx, globT, List.mem_cons, List.not_mem_nil, or_false]; simp [hx])⟩⟩
  · obtain ⟨fn, code, h1, h2, h3, h4, h5, h6, h7⟩ := comp9; exact ⟨⟨fn, code, h1, h2, h3, h4, h5, h6, h7, fun x hx => by first | (cases hx; done) | (simp only [c9, List.mem_cons, List.not_mem_nil, or_false] at hx; simp only [cx, globT, List.mem_cons, List.not_mem_nil, or_false]; rcases hx with rfl | rfl | rfl | rfl <;> simp) | (simp only [c9, List.mem_cons, List.not_mem_nil, or_false] at hx; simp only [cx, globT, List.mem_cons, List.not_mem_nil, or_false]; simp [hx])⟩⟩
  · obtain ⟨fn, code, h1, h2, h3, h4, h5, h6, h7⟩ := comp10; exact ⟨⟨fn, code, h1, h2, h3, h4, h5, h6, h7, fun x hx => by first | (cases hx; done) | (simp only [c10, List.mem_cons, List.not_mem_nil, or_false] at hx; simp only [cx, globT, List.mem_cons, List.not_mem_nil, or_false]; rcases hx with rfl | rfl | rfl | rfl <;> simp) | (simp only [c10, List.mem_cons, List.not_mem_nil, or_false] at hx; simp only [cx, globT, List.mem_cons, List.not_mem_nil, or_false]; simp [hx])⟩⟩
  · obtain ⟨fn, code, h1, h2, h3, h4, h5, h6, h7⟩ := comp11; exact ⟨⟨fn, code, h1, h2, h3, h4, h5, h6, h7, fun x hx => by first | (cases hx; done) | (simp only [c11, List.mem_cons, List.not_mem_nil, or_false] at hx; simp only [cx, globT, List.mem_cons, List.not_mem_nil, or_false]; rcases hx with rfl | rfl | rfl | rfl <;> simp) | (simp only [c11, List.mem_cons, List.not_mem_nil, or_false] at hx; simp only [cx, globT, List.mem_cons, List.not_mem_nil, or_false]; simp [hx])⟩⟩
  · obtain ⟨fn, code, h1, h2, h3, h4, h5, h6, h7⟩ := comp12; exact ⟨⟨fn, code, h1, h2, h3, h4, h5, h6, h7, fun x hx => by first | (cases hx; done) | (simp only [c12, List.mem_cons, List.not_mem_nil, or_false] at hx; simp only [cx, globT, List.mem_cons, List.not_mem_nil, or_false]; rcases hx with rfl | rfl | rfl | rfl <;> simp) | (simp only [c12, List.mem_cons, List.not_mem_nil, or_false] at hx; simp only [cx, globT, List.mem_cons, List.not_mem_nil, or_false]; simp [hx])⟩⟩
  · obtain ⟨fn, code, h1, h2, h3, h4, h5, h6, h7⟩ := comp13; exact ⟨⟨fn, code, h1, h2, h3, h4, h5, h6, h7, fun x hx => by first | (cases hx; done) | (simp only [c13, List.mem_cons, List.not_mem_nil, or_false] at hx; simp only [cx, globT, List.mem_cons, List.not_mem_nil, or_false]; rcases hx with rfl | rfl | rfl | rfl <;> simp) | (simp only [c13, List.mem_cons, List.not_mem_nil, or_false] at hx; simp only [cx, globT, List.mem_cons, List.not_mem_nil, or_false]; simp [hx])⟩⟩
  · obtain ⟨fn, code, h1, h2, h3, h4, h5, h6, h7⟩ := comp14; exact ⟨⟨fn, code, h1, h2, h3, h4, h5, h6, h7, fun x hx => by first | (cases hx; done) | (simp only [c14, List.mem_cons, List.not_mem_nil, or_false] at hx; simp only [cx, globT, List.mem_cons, List.not_mem_nil, or_false]; rcases hx with rfl | rfl | rfl | rfl <;> simp) | (simp only [c14, List.mem_cons, List.not_mem_nil, or_false] at hx; simp only [cx, globT, List.mem_cons, List.not_mem_nil, or_false]; simp [hx])⟩⟩
  · obtain ⟨fn, code, h1, h2, h3, h4, h5, h6, h7⟩ := comp15; exact ⟨⟨fn, code, h1, h2, h3, h4, h5, h6, h7, fun x hx => by first | (cases hx; done) | (simp only [c15, List.mem_cons, List.not_mem_nil, or_false] at hx; simp only [cx, globT, List.mem_cons, List.not_mem_nil, or_false]; rcases hx with rfl | rfl | rfl | rfl <;> simp) | (simp only [c15, List.mem_cons, List.not_mem_nil, or_false] at hx; simp only [cx, globT, List.mem_cons, List.not_mem_nil, or_false]; simp [hx])⟩⟩
  · obtain ⟨fn, code, h1, h2, h3, h4, h5, h6, h7⟩ := comp16; exact ⟨⟨fn, code, h1, h2, h3, h4, h5, h6, h7, fun x hx => by first | (cases hx; done) | (simp only [c16, List.mem_cons, List.not_mem_nil, or_false] at hx; simp only [cx, globT, List.mem_cons, List.not_mem_nil, or_false]; rcases hx with rfl | rfl | rfl | rfl <;> simp) | (simp only [c16, List.mem_cons, List.not_mem_nil, or_false] at hx; simp only [cx, globT, List.mem_cons, List.not_mem_nil, or_false]; simp [hx])⟩⟩
  · obtain ⟨fn, code, h1, h2, h3, h4, h5, h6, h7⟩ := comp17; exact ⟨⟨fn, code, h1, h2, h3, h4, h5, h6, h7, fun x hx => by first | (cases hx; done) | (simp only [c17, List.mem_cons, List.not_mem_nil, or_false] at hx; simp only [cx, globT, List.mem_cons, List.not_mem_nil, or_false]; rcases hx with rfl | rfl | rfl | rfl <;> simp) | (simp only [c17, List.mem_cons, List.not_mem_nil, or_false] at hx; simp only [cx, globT, List.mem_cons, List.not_mem_nil, or_false]; simp [hx])⟩⟩
  · obtain ⟨fn, code, h1, h2, h3, h4, h5, h6, h7⟩ := comp18; exact ⟨⟨fn, code, h1, h2, h3, h4, h5, h6, h7, fun x hx => by first | (cases hx; done) | (simp only [c18, List.mem_cons, List.not_mem_nil, or_false] at hx; simp only [cx, globT, List.mem_cons, List.not_mem_nil, or_false]; rcases hx with rfl | rfl | rfl | rfl <;> simp) | (simp only [c18, List.mem_cons, List.not_mem_nil, or_false] at hx; simp only [cx, globT, List.mem_cons, List.not_mem_nil, or_false]; simp [hx])⟩⟩
  · obtain ⟨fn, code, h1, h2, h3, h4, h5, h6, h7⟩ := comp19; exact ⟨⟨fn, code, h1, h2, h3, h4, h5, h6, h7, fun x hx => by first | (cases hx; done) | (simp only [c19, List.mem_cons, List.not_mem_nil, or_false] at hx; simp only [cx, globT, List.mem_cons, List.not_mem_nil, or_false]; rcases hx with rfl | rfl | rfl | rfl <;> simp) | (simp only [c19, List.mem_cons, List.not_mem_nil, or_false] at hx; simp only [cx, globT, List.mem_cons, List.not_mem_nil, or_false]; simp [hx])⟩⟩
  · obtain ⟨fn, code, h1, h2, h3, h4, h5, h6, h7⟩ := comp20; exact ⟨⟨fn, code, h1, h2, h3, h4, h5, h6, h7, fun x hx => by first | (cases hx; done) | (simp only [c20, List.mem_cons, List.not_mem_nil, or_false] at hx; simp only [cx, globT, List.mem_cons, List.not_mem_nil, or_false]; rcases hx with rfl | rfl | rfl | rfl <;> simp) | (simp only [c20, List.mem_cons, List.not_mem_nil, or_false] at hx; simp only [cx, globT, List.mem_cons, List.not_mem_nil, or_false]; simp [hx])⟩⟩
  · obtain ⟨fn, code, h1, h2, h3, h4, h5, h6, h7⟩ := comp21; exact ⟨⟨fn, code, h1, h2, h3, h4, h5, h6, h7, fun x hx => by first | (cases hx; done) | (simp only [c21, List.mem_cons, List.not_mem_nil, or_false] at hx; simp only [cx, globT, List.mem_cons, List.not_mem_nil, or_false]; rcases hx with rfl | rfl | rfl | rfl <;> simp) | (simp only [c21, List.mem_cons, List.not_mem_nil, or_false] at hx; simp only [cx, globT, List.mem_cons, List.not_mem_nil, or_false]; simp [hx])⟩⟩
  · obtain ⟨fn, code, h1, h2, h3, h4, h5, h6, h7⟩ := comp22; exact ⟨⟨fn, code, h1, h2, h3, h4, h5, h6, h7, fun x hx => by first | (cases hx; done) | (simp only [c22, List.mem_cons, List.not_mem_nil, or_false] at hx; simp only [cx, globT, List.mem_cons, List.not_mem_nil, or_false]; rcases hx with rfl | rfl | rfl | rfl <;> simp) | (simp only [c22, List.mem_cons, List.not_mem_nil, or_false] at hx; simp only [cx, globT, List.mem_cons, List.not_mem_nil, or_false]; simp [hx])⟩⟩
  · obtain ⟨fn, code, h1, h2, h3, h4, h5, h6, h7⟩ := comp23; exact ⟨⟨fn, code, h1, h2, h3, h4, h5, h6, h7, fun x hx => by first | (cases hx; done) | (simp only [c23, List.mem_cons, List.not_mem_nil, or_false] at hx; simp only [cx, globT, List.mem_cons, List.not_mem_nil, or_false]; rcases hx with rfl | rfl | rfl | rfl <;> simp) | (simp only [c23, List.mem_cons, List.not_mem_nil, or_false] at hx; simp only [cx, globT, List.mem_cons, List.not_mem_nil, or_false]; simp [hx])⟩⟩
  · obtain ⟨fn, code, h1, h2, h3, h4, h5, h6, h7⟩ := comp24; exact ⟨⟨fn, code, h1, h2, h3, h4, h5, h6, h7, fun x hx => by first | (cases hx; done) | (simp only [c24, List.mem_cons, List.not_mem_nil, or_false] at hx; simp only [cx, globT, List.mem_cons, List.not_mem_nil, or_false]; rcases hx with rfl | rfl | rfl | rfl <;> simp) | (simp only [c24, List.mem_cons, List.not_mem_nil, or_false] at hx; simp only [cx, globT, List.mem_cons, List.not_mem_nil, or_false]; simp [hx])⟩⟩
  · obtain ⟨fn, code, h1, h2, h3, h4, h5, h6, h7⟩ := comp25; exact ⟨⟨fn, code, h1, h2, h3, h4, h5, h6, h7, fun x hx => by first | (cases hx; done) | (simp only [c25, List.mem_cons, List.not_mem_nil, or_false] at hx; simp only [cx, globT, List.mem_cons, List.not_mem_nil, or_false]; rcases hx with rfl | rfl | rfl | rfl <;> simp) | (simp only [c25, List.mem_cons, List.not_mem_nil, or_false] at hx; simp only [cx, globT, List.mem_cons, List.not_mem_nil, or_false]; simp [hx])⟩⟩
  · obtain ⟨fn, code, h1, h2, h3, h4, h5, h6, h7⟩ := comp26; exact ⟨⟨fn, code, h1, h2, h3, h4, h5, h6, h7, fun x hx => by first | (cases hx; done) | (simp only [c26, List.mem_cons, List.not_mem_nil, or_false] at hx; simp only [cx, globT, List.mem_cons, List.not_mem_nil, or_false]; rcases hx with rfl | rfl | rfl | rfl <;> simp) | (simp only [c26, List.mem_cons, List.not_mem_nil, or_false] at hx; simp only [cx, globT, List.mem_cons, List.not_mem_nil, or_false]; simp [hx])⟩⟩
  · obtain ⟨fn, code, h1, h2, h3, h4, h5, h6, h7⟩ := comp27; exact ⟨⟨fn, code, h1, h2, h3, h4, h5, h6, h7, fun x hx => by first | (cases hx; done) | (simp only [c27, List.mem_cons, List.not_mem_nil, or_false] at hx; simp only [cx, globT, List.mem_cons, List.not_mem_nil, or_false]; rcases hx with rfl | rfl | rfl | rfl <;> simp) | (simp only [c27, List.mem_cons, List.not_mem_nil, or_false] at hx; simp only [cx, globT, List.mem_cons, List.not_mem_nil, or_false]; simp [hx])⟩⟩
  · obtain ⟨fn, code, h1, h2, h3, h4, h5, h6, h7⟩ := comp28; exact ⟨⟨fn, code, h1, h2, h3, h4, h5, h6, h7, fun x hx => by first | (cases hx; done) | (simp only [c28, List.mem_cons, List.not_mem_nil, or_false] at hx; simp only [cx, globT, List.mem_cons, List.not_mem_nil, or_false]; rcases hx with rfl | rfl | rfl | rfl <;> simp) | (simp only [c28, List.mem_cons, List.not_mem_nil, or_false] at hx; simp only [cx, globT, List.mem_cons, List.not_mem_nil, or_false]; simp [hx])⟩⟩
  · obtain ⟨fn, code, h1, h2, h3, h4, h5, h6, h7⟩ := comp29; exact ⟨⟨fn, code, h1, h2, h3, h4, h5, h6, h7, fun x hx => by first | (cases hx; done) | (simp only [c29, List.mem_cons, List.not_mem_nil, or_false] at hx; simp only [cx, globT, List.mem_cons, List.not_mem_nil, or_false]; rcases hx with rfl | rfl | rfl | rfl <;> simp) | (simp only [c29, List.mem_cons, List.not_mem_nil, or_false] at hx; simp only [cx, globT, List.mem_cons, List.not_mem_nil, or_false]; simp [hx])⟩⟩
  · obtain ⟨fn, code, h1, h2, h3, h4, h5, h6, h7⟩ := comp30; exact ⟨⟨fn, code, h1, h2, h3, h4, h5, h6, h7, fun x hx => by first | (cases hx; done) | (simp only [c30, List.mem_cons, List.not_mem_nil, or_false] at hx; simp only [cx, globT, List.mem_cons, List.not_mem_nil, or_false]; rcases hx with rfl | rfl | rfl | rfl <;> simp) | (simp only [c30, List.mem_cons, List.not_mem_nil, or_false] at hx; simp only [cx, globT, List.mem_cons, List.not_mem_nil, or_false]; simp [hx])⟩⟩
  · obtain ⟨fn, code, h1, h2, h3, h4, h5, h6, h7⟩ := comp31; exact ⟨⟨fn, code, h1, h2, h3, h4, h5, h6, h7, fun x hx => by first | (cases hx; done) | (simp only [c31, List.mem_cons, List.not_mem_nil, or_false] at hx; simp only [cx, globT, List.mem_cons, List.not_mem_nil, or_false]; rcases hx with rfl | rfl | rfl | rfl <;> simp) | (simp only [c31, List.mem_cons, List.not_mem_nil, or_false] at hx; simp only [cx, globT, List.mem_cons, List.not_mem_nil, or_false]; simp [hx])⟩⟩
  · obtain ⟨fn, code, h1, h2, h3, h4, h5, h6, h7⟩ := comp32; exact ⟨⟨fn, code, h1, h2, h3, h4, h5, h6, h7, fun x hx => by first | (cases hx; done) | (simp only [c32, List.mem_cons, List.not_mem_nil, or_false] at hx; simp only [cx, globT, List.mem_cons, List.not_mem_nil, or_false]; rcases hx with rfl | rfl | rfl | rfl <;> simp) | (simp only [c32, List.mem_cons, List.not_mem_nil, or_false] at hx; simp only [cx, globT, List.mem_cons, List.not_mem_nil, or_false]; simp [hx])⟩⟩
  · obtain ⟨fn, code, h1, h2, h3, h4, h5, h6, h7⟩ := comp33; exact ⟨⟨fn, code, h1, h2, h3, h4, h5, h6, h7, fun x hx => by first | (cases hx; done) | (simp only [c33, List.mem_cons, List.not_mem_nil, or_false] at hx; simp only [cx, globT, List.mem_cons, List.not_mem_nil, or_false]; rcases hx with rfl | rfl | rfl | rfl <;> simp) | (simp only [c33, List.mem_cons, List.not_mem_nil, or_false] at hx; simp only [cx, globT, List.mem_cons, List.not_mem_nil, or_false]; simp [hx])⟩⟩
  · obtain ⟨fn, code, h1, h2, h3, h4, h5, h6, h7⟩ := comp34; exact ⟨⟨fn, code, h1, h2, h3, h4, h5, h6, h7, fun x hx => by first | (cases hx; done) | (simp only [c34, List.mem_cons, List.not_mem_nil, or_false] at hx; simp only [cx, globT, List.mem_cons, List.not_mem_nil, or_false]; rcases hx with rfl | rfl | rfl | rfl <;> simp) | (simp only [c34, List.mem_cons, List.not_mem_nil, or_false] at hx; simp only [cx, globT, List.mem_cons, List.not_mem_nil, or_false]; simp [hx])⟩⟩
  · obtain ⟨fn, code, h1, h2, h3, h4, h5, h6, h7⟩ := comp35; exact ⟨⟨fn, code, h1, h2, h3, h4, h5, h6, h7, fun x hx => by first | (cases hx; done) | (simp only [c35, List.mem_cons, List.not_mem_nil, or_false] at hx; simp only [cx, globT, List.mem_cons, List.not_mem_nil, or_false]; rcases hx with rfl | rfl | rfl | rfl <;> simp) | (simp only [c35, List.mem_cons, List.not_mem_nil, or_false] at hx; simp only [cx, globT, List.mem_cons, List.not_mem_nil, or_false]; simp [hx])⟩⟩
  · obtain ⟨fn, code, h1, h2, h3, h4, h5, h6, h7⟩ := comp36; exact ⟨⟨fn, code, h1, h2, h3, h4, h5, h6, h7, fun x hx => by first | (cases hx; done) | (simp only [c36, List.mem_cons, List.not_mem_nil, or_false] at hx; simp only [cx, globT, List.mem_cons, List.not_mem_nil, or_false]; rcases hx with rfl | rfl | rfl | rfl <;> simp) | (simp only [c36, List.mem_cons, List.not_mem_nil, or_false] at hx; simp only [cx, globT, List.mem_cons, List.not_mem_nil, or_false]; simp [hx])⟩⟩
  · obtain ⟨fn, code, h1, h2, h3, h4, h5, h6, h7⟩ := comp37; exact ⟨⟨fn, code, h1, h2, h3, h4, h5, h6, h7, fun x hx => by first | (cases hx; done) | (simp only [c37, List.mem_cons, List.not_mem_nil, or_false] at hx; simp only [cx, globT, List.mem_cons, List.not_mem_nil, or_false]; rcases hx with rfl | rfl | rfl | rfl <;> simp) | (simp only [c37, List.mem_cons, List.not_mem_nil, or_false] at hx; simp only [cx, globT, List.mem_cons, List.not_mem_nil, or_false]; simp [hx])⟩⟩
  · obtain ⟨fn, code, h1, h2, h3, h4, h5, h6, h7⟩ := comp38; exact ⟨⟨fn, code, h1, h2, h3, h4, h5, h6, h7, fun x hx => by first | (cases hx; done) | (simp only [c38, List.mem_cons, List.not_mem_nil, or_false] at hx; simp only [cx, globT, List.mem_cons, List.not_mem_nil, or_false]; rcases hx with rfl | rfl | rfl | rfl <;> simp) | (simp only [c38, List.mem_cons, List.not_mem_nil, or_false] at hx; simp only [cx, globT, List.mem_cons, List.not_mem_nil, or_false]; simp [hx])⟩⟩
  · obtain ⟨fn, code, h1, h2, h3, h4, h5, h6, h7⟩ := comp39; exact ⟨⟨fn, code, h1, h2, h3, h4, h5, h6, h7, fun x hx => by first | (cases hx; done) | (simp only [c39, List.mem_cons, List.not_mem_nil, or_false] at hx; simp only [cx, globT, List.mem_cons, List.not_mem_nil, or_false]; rcases hx with rfl | rfl | rfl | rfl <;> simp) | (simp only [c39, List.mem_cons, List.not_mem_nil, or_false] at hx; simp only [cx, globT, List.mem_cons, List.not_mem_nil, or_false]; simp [hx])⟩⟩
  · obtain ⟨fn, code, h1, h2, h3, h4, h5, h6, h7⟩ := comp40; exact ⟨⟨fn, code, h1, h2, h3, h4, h5, h6, h7, fun x hx => by first | (cases hx; done) | (simp only [c40, List.mem_cons, List.not_mem_nil, or_false] at hx; simp only [cx, globT, List.mem_cons, List.not_mem_nil, or_false]; rcases hx with rfl | rfl | rfl | rfl <;> simp) | (simp only [c40, List.mem_cons, List.not_mem_nil, or_false] at hx; simp only [cx, globT, List.mem_cons, List.not_mem_nil, or_false]; simp [hx])⟩⟩
  · obtain ⟨fn, code, h1, h2, h3, h4, h5, h6, h7⟩ := comp41; exact ⟨⟨fn, code, h1, h2, h3, h4, h5, h6, h7, fun x hx => by first | (cases hx; done) | (simp only [c41, List.mem_cons, List.not_mem_nil, or_false] at hx; simp only [cx, globT, List.mem_cons, List.not_mem_nil, or_false]; rcases hx with rfl | rfl | rfl | rfl <;> simp) | (simp only [c41, List.mem_cons, List.not_mem_nil, or_false] at hx; simp only [cx, globT, List.mem_cons, List.not_mem_nil, or_false]; simp [hx])⟩⟩
  · obtain ⟨fn, code, h1, h2, h3, h4, h5, h6, h7⟩ := comp42; exact ⟨⟨fn, code, h1, h2, h3, h4, h5, h6, h7, fun x hx => by first | (cases hx; done) | (simp only [c42, List.mem_cons, List.not_mem_nil, or_false] at hx; simp only [cx, globT, List.mem_cons, List.not_mem_nil, or_false]; rcases hx with rfl | rfl | rfl | rfl <;> simp) | (simp only [c42, List.mem_cons, List.not_mem_nil, or_false] at hx; simp only [cx, globT, List.mem_cons, List.not_mem_nil, or_false]; simp [hx])⟩⟩
  · obtain ⟨fn, code, h1, h2, h3, h4, h5, h6, h7⟩ := comp43; exact ⟨⟨fn, code, h1, h2, h3, h4, h5, h6, h7, fun x hx => by first | (cases hx; done) | (simp only [c43, List.mem_cons, List.not_mem_nil, or_false] at hx; simp only [cx, globT, List.mem_cons, List.not_mem_nil, or_false]; rcases hx with rfl | rfl | rfl | rfl <;> simp) | (simp only [c43, List.mem_cons, List.not_mem_nil, or_false] at hx; simp only [cx, globT, List.mem_cons, List.not_mem_nil, or_false]; simp [hx])⟩⟩
  · obtain ⟨fn, code, h1, h2, h3, h4, h5, h6, h7⟩ := comp44; exact ⟨⟨fn, code, h1, h2, h3, h4, h5, h6, h7, fun x hx => by first | (cases hx; done) | (simp only [c44, List.mem_cons, List.not_mem_nil, or_false] at hx; simp only [cx, globT, List.mem_cons, List.not_mem_nil, or_false]; rcases hx with rfl | rfl | rfl | rfl <;> simp) | (simp only [c44, List.mem_cons, List.not_mem_nil, or_false] at hx; simp only [cx, globT, List.mem_cons, List.not_mem_nil, or_false]; simp [hx])⟩⟩
  · obtain ⟨fn, code, h1, h2, h3, h4, h5, h6, h7⟩ := comp45; exact ⟨⟨fn, code, h1, h2, h3, h4, h5, h6, h7, fun x hx => by first | (cases hx; done) | (simp only [c45, List.mem_cons, List.not_mem_nil, or_false] at hx; simp only [cx, globT, List.mem_cons, List.not_mem_nil, or_false]; rcases hx with rfl | rfl | rfl | rfl <;> simp) | (simp only [c45, List.mem_cons, List.not_mem_nil, or_false] at hx; simp only [cx, globT, List.mem_cons, List.not_mem_nil, or_false]; simp [hx])⟩⟩
  · obtain ⟨fn, code, h1, h2, h3, h4, h5, h6, h7⟩ := comp46; exact ⟨⟨fn, code, h1, h2, h3, h4, h5, h6, h7, fun x hx => by first | (cases hx; done) | (simp only [c46, List.mem_cons, List.not_mem_nil, or_false] at hx; simp only [cx, globT, List.mem_cons, List.not_mem_nil, or_false]; rcases hx with rfl | rfl | rfl | rfl <;> simp) | (simp only [c46, List.mem_cons, List.not_mem_nil, or_false] at hx; simp only [cx, globT, List.mem_cons, List.not_mem_nil, or_false]; simp [hx])⟩⟩
  · obtain ⟨fn, code, h1, h2, h3, h4, h5, h6, h7⟩ := comp47; exact ⟨⟨fn, code, h1, h2, h3, h4, h5, h6, h7, fun x hx => by first | (cases hx; done) | (simp only [c47, List.mem_cons, List.not_mem_nil, or_false] at hx; simp only [cx, globT, List.mem_cons, List.not_mem_nil, or_false]; rcases hx with rfl | rfl | rfl | rfl <;> simp) | (simp only [c47, List.mem_cons, List.not_mem_nil, or_false] at hx; simp only [cx, globT, List.mem_cons, List.not_mem_nil, or_false]; simp [hx])⟩⟩
  · obtain ⟨fn, code, h1, h2, h3, h4, h5, h6, h7⟩ := comp48; exact ⟨⟨fn, code, h1, h2, h3, h4, h5, h6, h7, fun x hx => by first | (cases hx; done) | (simp only [c48, List.mem_cons, List.not_mem_nil, or_false] at hx; simp only [cx, globT, List.mem_cons, List.not_mem_nil, or_false]; rcases hx with rfl | rfl | rfl | rfl <;> simp) | (simp only [c48, List.mem_cons, List.not_mem_nil, or_false] at hx; simp only [cx, globT, List.mem_cons, List.not_mem_nil, or_false]; simp [hx])⟩⟩
  · obtain ⟨fn, code, h1, h2, h3, h4, h5, h6, h7⟩ := comp49; exact ⟨⟨fn, code, h1, h2, h3, h4, h5, h6, h7, fun x hx => by first | (cases hx; done) | (simp only [c49, List.mem_cons, List.not_mem_nil, or_false] at hx; simp only [cx, globT, List.mem_cons, List.not_mem_nil, or_false]; rcases hx with rfl | rfl | rfl | rfl <;> simp) | (simp only [c49, List.mem_cons, List.not_mem_nil, or_false] at hx; simp only [cx, globT, List.mem_cons, List.not_mem_nil, or_false]; simp [hx])⟩⟩
  · obtain ⟨fn, code, h1, h2, h3, h4, h5, h6, h7⟩ := comp50; exact ⟨⟨fn, code, h1, h2, h3, h4, h5, h6, h7, fun x hx => by first | (cases hx; done) | (simp only [c50, List.mem_cons, List.not_mem_nil, or_false] at hx; simp only [cx, globT, List.mem_cons, List.not_mem_nil, or_false]; rcases hx with rfl | rfl | rfl | rfl <;> simp) | (simp only [c50, List.mem_cons, List.not_mem_nil, or_false] at hx; simp only [cx, globT, List.mem_cons, List.not_mem_nil, or_false]; simp [hx])⟩⟩
  · obtain ⟨fn, code, h1, h2, h3, h4, h5, h6, h7⟩ := comp51; exact ⟨⟨fn, code, h1, h2, h3, h4, h5, h6, h7, fun x hx => by first | (cases hx; done) | (simp only [c51, List.mem_cons, List.not_mem_nil, or_false] at hx; simp only [cx, globT, List.mem_cons, List.not_mem_nil, or_false]; rcases hx with rfl | rfl | rfl | rfl <;> simp) | (simp only [c51, List.mem_cons, List.not_mem_nil, or_false] at hx; simp only [cx, globT, List.mem_cons, List.not_mem_nil, or_false]; simp [hx])⟩⟩
  · obtain ⟨fn, code, h1, h2, h3, h4, h5, h6, h7⟩ := comp52; exact ⟨⟨fn, code, h1, h2, h3, h4, h5, h6, h7, fun x hx => by first | (cases hx; done) | (simp only [c52, List.mem_cons, List.not_mem_nil, or_false] at hx; simp only [cx, globT, List.mem_cons, List.not_mem_nil, or_false]; rcases hx with rfl | rfl | rfl | rfl <;> simp) | (simp only [c52, List.mem_cons, List.not_mem_nil, or_false] at hx; simp only [cx, globT, List.mem_cons, List.not_mem_nil, or_false]; simp [hx])⟩⟩
  · obtain ⟨fn, code, h1, h2, h3, h4, h5, h6, h7⟩ := comp53; exact ⟨⟨fn, code, h1, h2, h3, h4, h5, h6, h7, fun x hx => by first | (cases hx; done) | (simp only [c53, List.mem_cons, List.not_mem_nil, or_false] at hx; simp only [cx, globT, List.mem_cons, List.not_mem_nil, or_false]; rcases hx with rfl | rfl | rfl | rfl <;> simp) | (simp only [c53, List.mem_cons, List.not_mem_nil, or_false] at hx; simp only [cx, globT, List.mem_cons, List.not_mem_nil, or_false]; simp [hx])⟩⟩
  · obtain ⟨fn, code, h1, h2, h3, h4, h5, h6, h7⟩ := comp54; exact ⟨⟨fn, code, h1, h2, h3, h4, h5, h6, h7, fun x hx => by first | (cases hx; done) | (simp only [c54, List.mem_cons, List.not_mem_nil, or_false] at hx; simp only [cx, globT, List.mem_cons, List.not_mem_nil, or_false]; rcases hx with rfl | rfl | rfl | rfl <;> simp) | (simp only [c54, List.mem_cons, List.not_mem_nil, or_false] at hx; simp only [cx, globT, List.mem_cons, List.not_mem_nil, or_false]; simp [hx])⟩⟩
  · obtain ⟨fn, code, h1, h2, h3, h4, h5, h6, h7⟩ := comp55; exact ⟨⟨fn, code, h1, h2, h3, h4, h5, h6, h7, fun x hx => by first | (cases hx; done) | (simp only [c55, List.mem_cons, List.not_mem_nil, or_false] at hx; simp only [cx, globT, List.mem_cons, List.not_mem_nil, or_false]; rcases hx with rfl | rfl | rfl | rfl <;> simp) | (simp only [c55, List.mem_cons, List.not_mem_nil, or_false] at hx; simp only [cx, globT, List.mem_cons, List.not_mem_nil, or_false]; simp [hx])⟩⟩
  · obtain ⟨fn, code, h1, h2, h3, h4, h5, h6, h7⟩ := comp56; exact ⟨⟨fn, code, h1, h2, h3, h4, h5, h6, h7, fun x hx => by first | (cases hx; done) | (simp only [c56, List.mem_cons, List.not_mem_nil, or_false] at hx; simp only [cx, globT, List.mem_cons, List.not_mem_nil, or_false]; rcases hx with rfl | rfl | rfl | rfl <;> simp) | (simp only [c56, List.mem_cons, List.not_mem_nil, or_false] at hx; simp only [cx, globT, List.mem_cons, List.not_mem_nil, or_false]; simp [hx])⟩⟩
  · obtain ⟨fn, code, h1, h2, h3, h4, h5, h6, h7⟩ := comp57; exact ⟨⟨fn, code, h1, h2, h3, h4, h5, h6, h7, fun x hx => by first | (cases hx; done) | (simp only [c57, List.mem_cons, List.not_mem_nil, or_false] at hx; simp only [cx, globT, List.mem_cons, List.not_mem_nil, or_false]; rcases hx with rfl | rfl | rfl | rfl <;> simp) | (simp only [c57, List.mem_cons, List.not_mem_nil, or_false] at hx; simp only [cx, globT, List.mem_cons, List.not_mem_nil, or_false]; simp [hx])⟩⟩
  · obtain ⟨fn, code, h1, h2, h3, h4, h5, h6, h7⟩ := comp58; exact ⟨⟨fn, code, h1, h2, h3, h4, h5, h6, h7, fun x hx => by first | (cases hx; done) | (simp only [c58, List.mem_cons, List.not_mem_nil, or_false] at hx; simp only [cx, globT, List.mem_cons, List.not_mem_nil, or_false]; rcases hx with rfl | rfl | rfl | rfl <;> simp) | (simp only [c58, List.mem_cons, List.not_mem_nil, or_false] at hx; simp only [cx, globT, List.mem_cons, List.not_mem_nil, or_false]; simp [hx])⟩⟩
  · obtain ⟨fn, code, h1, h2, h3, h4, h5, h6, h7⟩ := comp59; exact ⟨⟨fn, code, h1, h2, h3, h4, h5, h6, h7, fun x hx => by first | (cases hx; done) | (simp only [c59, List.mem_cons, List.not_mem_nil, or_false] at hx; simp only [cx, globT, List.mem_cons, List.not_mem_nil, or_false]; rcases hx with rfl | rfl | rfl | rfl <;> simp) | (simp only [c59, List.mem_cons, List.not_mem_nil, or_false] at hx; simp only [cx, globT, List.mem_cons, List.not_mem_nil, or_false]; simp [hx])⟩⟩
  · obtain ⟨fn, code, h1, h2, h3, h4, h5, h6, h7⟩ := comp60; exact ⟨⟨fn, code, h1, h2, h3, h4, h5, h6, h7, fun x hx => by first | (cases hx; done) | (simp only [c60, List.mem_cons, List.not_mem_nil, or_false] at hx; simp only [cx, globT, List.mem_cons, List.not_mem_nil, or_false]; rcases hx with rfl | rfl | rfl | rfl <;> simp) | (simp only [c60, List.mem_cons, List.not_mem_nil, or_false] at hx; simp only [cx, globT, List.mem_cons, List.not_mem_nil, or_false]; simp [hx])⟩⟩
  · obtain ⟨fn, code, h1, h2, h3, h4, h5, h6, h7⟩ := comp61; exact ⟨⟨fn, code, h1, h2, h3, h4, h5, h6, h7, fun x hx => by first | (cases hx; done) | (simp only [c61, List.mem_cons, List.not_mem_nil, or_false] at hx; simp only [cx, globT, List.mem_cons, List.not_mem_nil, or_false]; rcases hx with rfl | rfl | rfl | rfl <;> simp) | (simp only [c61, List.mem_cons, List.not_mem_nil, or_false] at hx; simp only [cx, globT, List.mem_cons, List.not_mem_nil, or_false]; simp [hx])⟩⟩
  · obtain ⟨fn, code, h1, h2, h3, h4, h5, h6, h7⟩ := comp62; exact ⟨⟨fn, code, h1, h2, h3, h4, h5, h6, h7, fun x hx => by first | (cases hx; done) | (simp only [c62, List.mem_cons, List.not_mem_nil, or_false] at hx; simp only [cx, globT, List.mem_cons, List.not_mem_nil, or_false]; rcases hx with rfl | rfl | rfl | rfl <;> simp) | (simp only [c62, List.mem_cons, List.not_mem_nil, or_false] at hx; simp only [cx, globT, List.mem_cons, List.not_mem_nil, or_false]; simp [hx])⟩⟩
  · obtain ⟨fn, code, h1, h2, h3, h4, h5, h6, h7⟩ := comp63; exact ⟨⟨fn, code, h1, h2, h3, h4, h5, h6, h7, fun x hx => by first | (cases hx; done) | (simp only [c63, List.mem_cons, List.not_mem_nil, or_false] at hx; simp only [cx, globT, List.mem_cons, List.not_mem_nil, or_false]; rcases hx with rfl | rfl | rfl | rfl <;> simp) | (simp only [c63, List.mem_cons, List.not_mem_nil, or_false] at hx; simp only [cx, globT, List.mem_cons, List.not_mem_nil, or_false]; simp [hx])⟩⟩
  · obtain ⟨fn, code, h1, h2, h3, h4, h5, h6, h7⟩ := comp64; exact ⟨⟨fn, code, h1, h2, h3, h4, h5, h6, h7, fun x hx => by first | (cases hx; done) | (simp only [c64, List.mem_cons, List.not_mem_nil, or_false] at hx; simp only [cx, globT, List.mem_cons, List.not_mem_nil, or_false]; rcases hx with rfl | rfl | rfl | rfl <;> simp) | (simp only [c64, List.mem_cons, List.not_mem_nil, or_false] at hx; simp only [cx, globT, List.mem_cons, List.not_mem_nil, or_false]; simp [hx])⟩⟩
  · obtain ⟨fn, code, h1, h2, h3, h4, h5, h6, h7⟩ := comp65; exact ⟨⟨fn, code, h1, h2, h3, h4, h5, h6, h7, fun x hx => by first | (cases hx; done) | (simp only [c65, List.mem_cons, List.not_mem_nil, or_false] at hx; simp only [cx, globT, List.mem_cons, List.not_mem_nil, or_false]; rcases hx with rfl | rfl | rfl | rfl <;> simp) | (simp only [c65, List.mem_cons, List.not_mem_nil, or_false] at hx; simp only [cx, globT, List.mem_cons, List.not_mem_nil, or_false]; simp [hx])⟩⟩
  · obtain ⟨fn, code, h1, h2, h3, h4, h5, h6, h7⟩ := comp66; exact ⟨⟨fn, code, h1, h2, h3, h4, h5, h6, h7, fun x hx => by first | (cases hx; done) | (simp only [c66, List.mem_cons, List.not_mem_nil, or_false] at hx; simp only [cx, globT, List.mem_cons, List.not_mem_nil, or_false]; rcases hx with rfl | rfl | rfl | rfl <;> simp) | (simp only [c66, List.mem_cons, List.not_mem_nil, or_false] at hx; simp only [cx, globT, List.mem_cons, List.not_mem_nil, or_false]; simp [hx])⟩⟩
  · obtain ⟨fn, code, h1, h2, h3, h4, h5, h6, h7⟩ := comp67; exact ⟨⟨fn, code, h1, h2, h3, h4, h5, h6, h7, fun x hx => by first | (cases hx; done) | (simp only [c67, List.mem_cons, List.not_mem_nil, or_false] at hx; simp only [cx, globT, List.mem_cons, List.not_mem_nil, or_false]; rcases hx with rfl | rfl | rfl | rfl <;> simp) | (simp only [c67, List.mem_cons, List.not_mem_nil, or_false] at hx; simp only [cx, globT, List.mem_cons, List.not_mem_nil, or_false]; simp [hx])⟩⟩
  · obtain ⟨fn, code, h1, h2, h3, h4, h5, h6, h7⟩ := comp68; exact ⟨⟨fn, code, h1, h2, h3, h4, h5, h6, h7, fun x hx => by first | (cases hx; done) | (simp only [c68, List.mem_cons, List.not_mem_nil, or_false] at hx; simp only [cx, globT, List.mem_cons, List.not_mem_nil, or_false]; rcases hx with rfl | rfl | rfl | rfl <;> simp) | (simp only [c68, List.mem_cons, List.not_mem_nil, or_false] at hx; simp only [cx, globT, List.mem_cons, List.not_mem_nil, or_false]; simp [hx])⟩⟩
  · obtain ⟨fn, code, h1, h2, h3, h4, h5, h6, h7⟩ := comp69; exact ⟨⟨fn, code, h1, h2, h3, h4, h5, h6, h7, fun x hx => by first | (cases hx; done) | (simp only [c69, List.mem_cons, List.not_mem_nil, or_false] at hx; simp only [cx, globT, List.mem_cons, List.not_mem_nil, or_false]; rcases hx with rfl | rfl | rfl | rfl <;> simp) | (simp only [c69, List.mem_cons, List.not_mem_nil, or_false] at hx; simp only [cx, globT, List.mem_cons, List.not_mem_nil, or_false]; simp [hx])⟩⟩
  · obtain ⟨fn, code, h1, h2, h3, h4, h5, h6, h7⟩ := comp70; exact ⟨⟨fn, code, h1, h2, h3, h4, h5, h6, h7, fun x hx => by first | (cases hx; done) | (simp only [c70, List.mem_cons, List.not_mem_nil, or_false] at hx; simp only [cx, globT, List.mem_cons, List.not_mem_nil, or_false]; rcases hx with rfl | rfl | rfl | rfl <;> simp) | (simp only [c70, List.mem_cons, List.not_mem_nil, or_false] at hx; simp only [cx, globT, List.mem_cons, List.not_mem_nil, or_false]; simp [hx])⟩⟩
  · obtain ⟨fn, code, h1, h2, h3, h4, h5, h6, h7⟩ := comp71; exact ⟨⟨fn, code, h1, h2, h3, h4, h5, h6, h7, fun x hx => by first | (cases hx; done) | (simp only [c71, List.mem_cons, List.not_mem_nil, or_false] at hx; simp only [cx, globT, List.mem_cons, List.not_mem_nil, or_false]; rcases hx with rfl | rfl | rfl | rfl <;> simp) | (simp only [c71, List.mem_cons, List.not_mem_nil, or_false] at hx; simp only [cx, globT, List.mem_cons, List.not_mem_nil, or_false]; simp [hx])⟩⟩
  · obtain ⟨fn, code, h1, h2, h3, h4, h5, h6, h7⟩ := comp72; exact ⟨⟨fn, code, h1, h2, h3, h4, h5, h6, h7, fun x hx => by first | (cases hx; done) | (simp only [c72, List.mem_cons, List.not_mem_nil, or_false] at hx; simp only [cx, globT, List.mem_cons, List.not_mem_nil, or_false]; rcases hx with rfl | rfl | rfl | rfl <;> simp) | (simp only [c72, List.mem_cons, List.not_mem_nil, or_false] at hx; simp only [cx, globT, List.mem_cons, List.not_mem_nil, or_false]; simp [hx])⟩⟩
  · obtain ⟨fn, code, h1, h2, h3, h4, h5, h6, h7⟩ := comp73; exact ⟨⟨fn, code, h1, h2, h3, h4, h5, h6, h7, fun x hx => by first | (cases hx; done) | (simp only [c73, List.mem_cons, List.not_mem_nil, or_false] at hx; simp only [cx, globT, List.mem_cons, List.not_mem_nil, or_false]; rcases hx with rfl | rfl | rfl | rfl <;> simp) | (simp only [c73, List.mem_cons, List.not_mem_nil, or_false] at hx; simp only [cx, globT, List.mem_cons, List.not_mem_nil, or_false]; simp [hx])⟩⟩
  · obtain ⟨fn, code, h1, h2, h3, h4, h5, h6, h7⟩ := comp74; exact ⟨⟨fn, code, h1, h2, h3, h4, h5, h6, h7, fun x hx => by first | (cases hx; done) | (simp only [c74, List.mem_cons, List.not_mem_nil, or_false] at hx; simp only [cx, globT, List.mem_cons, List.not_mem_nil, or_false]; rcases hx with rfl | rfl | rfl | rfl <;> simp) | (simp only [c74, List.mem_cons, List.not_mem_nil, or_false] at hx; simp only [cx, globT, List.mem_cons, List.not_mem_nil, or_false]; simp [hx])⟩⟩
  · obtain ⟨fn, code, h1, h2, h3, h4, h5, h6, h7⟩ := comp75; exact ⟨⟨fn, code, h1, h2, h3, h4, h5, h6, h7, fun x hx => by first | (cases hx; done) | (simp only [c75, List.mem_cons, List.not_mem_nil, or_false] at hx; simp only [cx, globT, List.mem_cons, List.not_mem_nil, or_false]; rcases hx with rfl | rfl | rfl | rfl <;> simp) | (simp only [c75, List.mem_cons, List.not_mem_nil, or_false] at hx; simp only [cx, globT, List.mem_cons, List.not_mem_nil, or_false]; simp [hx])⟩⟩
  · obtain ⟨fn, code, h1, h2, h3, h4, h5, h6, h7⟩ := comp76; exact ⟨⟨fn, code, h1, h2, h3, h4, h5, h6, h7, fun x hx => by first | (cases hx; done) | (simp only [c76, List.mem_cons, List.not_mem_nil, or_false] at hx; simp only [cx, globT, List.mem_cons, List.not_mem_nil, or_false]; rcases hx with rfl | rfl | rfl | rfl <;> simp) | (simp only [c76, List.mem_cons, List.not_mem_nil, or_false] at hx; simp only [cx, globT, List.mem_cons, List.not_mem_nil, or_false]; simp [hx])⟩⟩
  · obtain ⟨fn, code, h1, h2, h3, h4, h5, h6, h7⟩ := comp77; exact ⟨⟨fn, code, h1, h2, h3, h4, h5, h6, h7, fun x hx => by first | (cases hx; done) | (simp only [c77, List.mem_cons, List.not_mem_nil, or_false] at hx; simp only [cx, globT, List.mem_cons, List.not_mem_nil, or_false]; rcases hx with rfl | rfl | rfl | rfl <;> simp) | (simp only [c77, List.mem_cons, List.not_mem_nil, or_false] at hx; simp only [cx, globT, List.mem_cons, List.not_mem_nil, or_false]; simp [hx])⟩⟩
  · obtain ⟨fn, code, h1, h2, h3, h4, h5, h6, h7⟩ := comp78; exact ⟨⟨fn, code, h1, h2, h3, h4, h5, h6, h7, fun x hx => by first | (cases hx; done) | (simp only [c78, List.mem_cons, List.not_mem_nil, or_false] at hx; simp only [cx, globT, List.mem_cons, List.not_mem_nil, or_false]; rcases hx with rfl | rfl | rfl | rfl <;> simp) | (simp only [c78, List.mem_cons, List.not_mem_nil, or_false] at hx; simp only [cx, globT, List.mem_cons, List.not_mem_nil, or_false]; simp [hx])⟩⟩
  · obtain ⟨fn, code, h1, h2, h3, h4, h5, h6, h7⟩ := comp79; exact ⟨⟨fn, code, h1, h2, h3, h4, h5, h6, h7, fun x hx => by first | (cases hx; done) | (simp only [c79, List.mem_cons, List.not_mem_nil, or_false] at hx; simp only [cx, globT, List.mem_cons, List.not_mem_nil, or_false]; rcases hx with rfl | rfl | rfl | rfl <;> simp) | (simp only [c79, List.mem_cons, List.not_mem_nil, or_false] at hx; simp only [cx, globT, List.mem_cons, List.not_mem_nil, or_false]; simp [hx])⟩⟩
  · obtain ⟨fn, code, h1, h2, h3, h4, h5, h6, h7⟩ := comp80; exact ⟨⟨fn, code, h1, h2, h3, h4, h5, h6, h7, fun x hx => by first | (cases hx; done) | (simp only [c80, List.mem_cons, List.not_mem_nil, or_false] at hx; simp only [cx, globT, List.mem_cons, List.not_mem_nil, or_false]; rcases hx with rfl | rfl | rfl | rfl <;> simp) | (simp only [c80, List.mem_cons, List.not_mem_nil, or_false] at hx; simp only [cx, globT, List.mem_cons, List.not_mem_nil, or_false]; simp [hx])⟩⟩
  · obtain ⟨fn, code, h1, h2, h3, h4, h5, h6, h7⟩ := comp81; exact ⟨⟨fn, code, h1, h2, h3, h4, h5, h6, h7, fun x hx => by first | (cases hx; done) | (simp only [c81, List.mem_cons, List.not_mem_nil, or_false] at hx; simp only [cx, globT, List.mem_cons, List.not_mem_nil, or_false]; rcases hx with rfl | rfl | rfl | rfl <;> simp) | (simp only [c81, List.mem_cons, List.not_mem_nil, or_false] at hx; simp only [cx, globT, List.mem_cons, List.not_mem_nil, or_false]; simp [hx])⟩⟩
  · obtain ⟨fn, code, h1, h2, h3, h4, h5, h6, h7⟩ := comp82; exact ⟨⟨fn, code, h1, h2, h3, h4, h5, h6, h7, fun x hx => by first | (cases hx; done) | (simp only [c82, List.mem_cons, List.not_mem_nil, or_false] at hx; simp only [cx, globT, List.mem_cons, List.not_mem_nil, or_false]; rcases hx with rfl | rfl | rfl | rfl <;> simp) | (simp only [c82, List.mem_cons, List.not_mem_nil, or_false] at hx; simp only [cx, globT, List.mem_cons, List.not_mem_nil, or_false]; simp [hx])⟩⟩
  · obtain ⟨fn, code, h1, h2, h3, h4, h5, h6, h7⟩ := comp83; exact ⟨⟨fn, code, h1, h2, h3, h4, h5, h6, h7, fun x hx => by first | (cases hx; done) | (simp only [c83, List.mem_cons, List.not_mem_nil, or_false] at hx; simp only [cx, globT, List.mem_cons, List.not_mem_nil, or_false]; rcases hx with rfl | rfl | rfl | rfl <;> simp) | (simp only [c83, List.mem_cons, List.not_mem_nil, or_false] at hx; simp only [cx, globT, List.mem_cons, List.not_mem_nil, or_false]; simp [hx])⟩⟩
  · obtain ⟨fn, code, h1, h2, h3, h4, h5, h6, h7⟩ := comp84; exact ⟨⟨fn, code, h1, h2, h3, h4, h5, h6, h7, fun x hx => by first | (cases hx; done) | (simp only [c84, List.mem_cons, List.not_mem_nil, or_false] at hx; simp only [cx, globT, List.mem_cons, List.not_mem_nil, or_false]; rcases hx with rfl | rfl | rfl | rfl <;> simp) | (simp only [c84, List.mem_cons, List.not_mem_nil, or_false] at hx; simp only [cx, globT, List.mem_cons, List.not_mem_nil, or_false]; simp [hx])⟩⟩
  · obtain ⟨fn, code, h1, h2, h3, h4, h5, h6, h7⟩ := comp85; exact ⟨⟨fn, code, h1, h2, h3, h4, h5, h6, h7, fun x hx => by first | (cases hx; done) | (simp only [c85, List.mem_cons, List.not_mem_nil, or_false] at hx; simp only [cx, globT, List.mem_cons, List.not_mem_nil, or_false]; rcases hx with rfl | rfl | rfl | rfl <;> simp) | (simp only [c85, List.mem_cons, List.not_mem_nil, or_false] at hx; simp only [cx, globT, List.mem_cons, List.not_mem_nil, or_false]; simp [hx])⟩⟩
  · obtain ⟨fn, code, h1, h2, h3, h4, h5, h6, h7⟩ := comp86; exact ⟨⟨fn, code, h1, h2, h3, h4, h5, h6, h7, fun x hx => by first | (cases hx; done) | (simp only [c86, List.mem_cons, List.not_mem_nil, or_false] at hx; simp only [cx, globT, List.mem_cons, List.not_mem_nil, or_false]; rcases hx with rfl | rfl | rfl | rfl <;> simp) | (simp only [c86, List.mem_cons, List.not_mem_nil, or_false] at hx; simp only [cx, globT, List.mem_cons, List.not_mem_nil, or_false]; simp [hx])⟩⟩
  · obtain ⟨fn, code, h1, h2, h3, h4, h5, h6, h7⟩ := comp87; exact ⟨⟨fn, code, h1, h2, h3, h4, h5, h6, h7, fun x hx => by first | (cases hx; done) | (simp only [c87, List.mem_cons, List.not_mem_nil, or_false] at hx; simp only [cx, globT, List.mem_cons, List.not_mem_nil, or_false]; rcases hx with rfl | rfl | rfl | rfl <;> simp) | (simp only [c87, List.mem_cons, List.not_mem_nil, or_false] at hx; simp only [cx, globT, List.mem_cons, List.not_mem_nil, or_false]; simp [hx])⟩⟩
  · obtain ⟨fn, code, h1, h2, h3, h4, h5, h6, h7⟩ := comp88; exact ⟨⟨fn, code, h1, h2, h3, h4, h5, h6, h7, fun x hx => by first | (cases hx; done) | (simp only [c88, List.mem_cons, List.not_mem_nil, or_false] at hx; simp only [cx, globT, List.mem_cons, List.not_mem_nil, or_false]; rcases hx with rfl | rfl | rfl | rfl <;> simp) | (simp only [c88, List.mem_cons, List.not_mem_nil, or_false] at hx; simp only [cx, globT, List.mem_cons, List.not_mem_nil, or_false]; simp [hx])⟩⟩
  · obtain ⟨fn, code, h1, h2, h3, h4, h5, h6, h7⟩ := comp89; exact ⟨⟨fn, code, h1, h2, h3, h4, h5, h6, h7, fun x hx => by first | (cases hx; done) | (simp only [c89, List.mem_cons, List.not_mem_nil, or_false] at hx; simp only [cx, globT, List.mem_cons, List.not_mem_nil, or_false]; rcases hx with rfl | rfl | rfl | rfl <;> simp) | (simp only [c89, List.mem_cons, List.not_mem_nil, or_false] at hx; simp only [cx, globT, List.mem_cons, List.not_mem_nil, or_false]; simp [hx])⟩⟩
  · obtain ⟨fn, code, h1, h2, h3, h4, h5, h6, h7⟩ := comp90; exact ⟨⟨fn, code, h1, h2, h3, h4, h5, h6, h7, fun x hx => by first | (cases hx; done) | (simp only [c90, List.mem_cons, List.not_mem_nil, or_false] at hx; simp only [cx, globT, List.mem_cons, List.not_mem_nil, or_false]; rcases hx with rfl | rfl | rfl | rfl <;> simp) | (simp only [c90, List.mem_cons, List.not_mem_nil, or_false] at hx; simp only [cx, globT, List.mem_cons, List.not_mem_nil, or_false]; simp [hx])⟩⟩
  · obtain ⟨fn, code, h1, h2, h3, h4, h5, h6, h7⟩ := comp91; exact ⟨⟨fn, code, h1, h2, h3, h4, h5, h6, h7, fun x hx => by first | (cases hx; done) | (simp only [c91, List.mem_cons, List.not_mem_nil, or_false] at hx; simp only [cx, globT, List.mem_cons, List.not_mem_nil, or_false]; rcases hx with rfl | rfl | rfl | rfl <;> simp) | (simp only [c91, List.mem_cons, List.not_mem_nil, or_false] at hx; simp only [cx, globT, List.mem_cons, List.not_mem_nil, or_false]; simp [hx])⟩⟩
end Go.Proofs.YtmcojkkpanijjaaDoor.T
