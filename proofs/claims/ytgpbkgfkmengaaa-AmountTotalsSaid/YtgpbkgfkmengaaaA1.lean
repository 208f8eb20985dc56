import Derived.Test.YtgpbkgfkmengaaaFw34
import Derived.Test.YtgpbkgfkmengaaaRows
namespace Go.Proofs.Ytgpbkgfkmengaaa.T
open Go.Dn
/-! 3: gossamer/gossamerlaw09.AmountRates -/
def c3 : FnC := ⟨2, 52, [.tmp 4],
  .seq (.ops [2, 3, 33, 34, 35, 36, 37, 38, 39, 42, 43, 44, 47, 48, 49, 50] [.e (some 2) (.box (.t 0)),
    .e (some 3) (.box (.t 1)),
    .p (some 4) (.move (.c (.bool false)))])
  (.seq (.seq (.ops [2, 3, 12, 33, 34, 35, 36, 37, 38, 39, 42, 43, 44, 47, 48, 49, 50] [.call (some 11) 7 [],
    .p (some 12) (.una .not (.t 11))])
  (.cond (.t 12)
    (.seq (.ops [4] [.p (some 4) (.move (.c (.bool false)))])
    (.ret))
    (.skip)))
  (.seq (.drw [2, 3, 5, 6, 33, 34, 35, 36, 37, 38, 39, 42, 43, 44, 47, 48, 49, 50] 2 [⟨.none, .p (some 13) (.load true 2 (.t 2)), [], 0⟩,
    ⟨.none, .p (some 14) (.load true 2 (.t 3)), [], 0⟩,
    ⟨.none, .e (some 5) (.alloc [(.d (.int .i64 0)), (.d (.int .i64 0))]), [], 0⟩,
    ⟨.none, .e (some 6) (.alloc [(.d (.int .i64 0)), (.d (.int .i64 0))]), [], 1⟩,
    ⟨.none, .e .none (.store 2 (.t 5) (.t 13)), [2, 0, 0, 2, 3], 2⟩,
    ⟨.none, .e .none (.store 2 (.t 6) (.t 14)), [3, 1, 4, 0, 1, 2, 3, 4], 2⟩])
  (.seq (.ops [2, 3, 5, 6, 7, 8, 33, 34, 35, 36, 37, 38, 39, 42, 43, 44, 47, 48, 49, 50] [.p (some 16) (.load true 2 (.t 5)),
    .p (some 17) (.load true 2 (.t 6)),
    .call (some 18) 8 [(.t 16), (.t 17)],
    .p (some 15) (.move (.t 18)),
    .p (some 19) (.extract (.t 15) 0),
    .p (some 20) (.extract (.t 15) 1),
    .e (some 7) (.alloc [(.d (.int .i64 0)), (.d (.int .i64 0))]),
    .e .none (.store 2 (.t 7) (.t 19)),
    .p (some 8) (.move (.t 20))])
  (.seq (.ops [2, 3, 5, 6, 7, 8, 9, 10, 33, 34, 35, 36, 37, 38, 39, 42, 43, 44, 47, 48, 49, 50] [.p (some 22) (.load true 2 (.t 2)),
    .p (some 23) (.load true 2 (.t 3)),
    .call (some 24) 9 [(.t 22), (.t 23)],
    .p (some 21) (.move (.t 24)),
    .p (some 25) (.extract (.t 21) 0),
    .p (some 26) (.extract (.t 21) 1),
    .e (some 9) (.alloc [(.d (.int .i64 0)), (.d (.int .i64 0))]),
    .e .none (.store 2 (.t 9) (.t 25)),
    .p (some 10) (.move (.t 26))])
  (.seq (.drw [4] 0 [⟨.none, .p (some 27) (.load true 2 (.t 5)), [], 0⟩,
    ⟨.none, .call (some 28) 10 [(.t 27)], [0], 0⟩,
    ⟨.none, .p (some 29) (.load true 2 (.t 2)), [], 0⟩,
    ⟨.none, .call (some 30) 11 [(.t 29)], [2, 1], 0⟩,
    ⟨.none, .p (some 31) (.bin .eql .bool [] (.t 28) (.t 30)), [1, 3], 0⟩,
    ⟨.none, .p (some 32) (.move (.t 31)), [4, 3], 0⟩,
    ⟨(some (32, true)), .p (some 33) (.load true 2 (.t 5)), [5], 0⟩,
    ⟨(some (32, true)), .p (some 34) (.load true 2 (.t 6)), [5], 0⟩,
    ⟨(some (32, true)), .call (some 35) 12 [(.t 33), (.t 34)], [6, 7, 5, 5], 0⟩,
    ⟨(some (32, true)), .p (some 36) (.load true 2 (.t 2)), [5], 0⟩,
    ⟨(some (32, true)), .p (some 37) (.load true 2 (.t 3)), [5], 0⟩,
    ⟨(some (32, true)), .call (some 38) 13 [(.t 36), (.t 37)], [9, 10, 8, 5], 0⟩,
    ⟨(some (32, true)), .p (some 39) (.bin .eql .int [] (.t 35) (.t 38)), [8, 11, 5], 0⟩,
    ⟨.none, .p (some 40) (.pick (.t 32) (.t 39) (.c (.bool false))), [5, 12], 0⟩,
    ⟨.none, .p (some 41) (.move (.t 40)), [13, 11], 0⟩,
    ⟨(some (41, true)), .p (some 42) (.load true 2 (.t 7)), [14], 0⟩,
    ⟨(some (41, true)), .p (some 43) (.load true 2 (.t 9)), [14], 0⟩,
    ⟨(some (41, true)), .p (some 44) (.bin .eql .flat ([(.int .i64), (.int .i64)]) (.t 42) (.t 43)), [15, 16, 14], 0⟩,
    ⟨.none, .p (some 45) (.pick (.t 41) (.t 44) (.c (.bool false))), [14, 17], 0⟩,
    ⟨.none, .p (some 46) (.move (.t 45)), [18, 14], 0⟩,
    ⟨(some (46, true)), .p (some 47) (.move (.t 8)), [19], 0⟩,
    ⟨(some (46, true)), .call (some 48) 14 [(.t 47)], [20, 19, 19], 0⟩,
    ⟨(some (46, true)), .p (some 49) (.move (.t 10)), [19], 0⟩,
    ⟨(some (46, true)), .p (some 50) (.bin .eql .int [] (.t 48) (.t 49)), [21, 22, 19], 0⟩,
    ⟨.none, .p (some 51) (.pick (.t 46) (.t 50) (.c (.bool false))), [19, 23], 0⟩,
    ⟨.none, .p (some 4) (.move (.t 51)), [24, 21, 0, 1, 2, 3, 4, 5, 6, 7, 8, 9, 10, 11, 12, 13, 14, 15, 16, 17, 18, 19, 20, 21, 22, 23, 24], 0⟩])
  (.ret))))))⟩

/-! 7: gossamer/gossamerlaw09.alive -/
def c7 : FnC := ⟨0, 8, [.tmp 0],
  .seq (.ops [6] [.p (some 0) (.move (.c (.bool false)))])
  (.seq (.ops [0] [.p (some 1) (.build [(.int .i64 0), (.int .i64 0)] [(0, 1, (.c (.int .i64 1))), (1, 1, (.c (.int .i64 3)))]),
    .p (some 2) (.build [(.int .i64 0), (.int .i64 0)] [(0, 1, (.c (.int .i64 2))), (1, 1, (.c (.int .i64 5)))]),
    .call (some 3) 12 [(.t 1), (.t 2)],
    .p (some 4) (.bin .eql .int [] (.t 3) (.c (.int .i64 (-1)))),
    .p (some 5) (.move (.t 4)),
    .when 5 true [.call (some 6) 23 [(.c (.int .i64 0))]],
    .p (some 7) (.pick (.t 5) (.t 6) (.c (.bool false))),
    .p (some 0) (.move (.t 7))])
  (.ret))⟩

/-! 12: (gossamer/amount.Rate).Compare -/
def c12 : FnC := ⟨2, 41, [.tmp 4],
  .seq (.ops [2, 3, 15] [.e (some 2) (.box (.t 0)),
    .e (some 3) (.box (.t 1)),
    .p (some 4) (.move (.c (.int .i64 0)))])
  (.seq (.seq (.ops [2, 3, 16] [.p (some 9) (.load true 2 (.t 2)),
    .call (some 10) 10 [(.t 9)],
    .p (some 11) (.una .not (.t 10)),
    .p (some 12) (.move (.t 11)),
    .when 12 false [.p (some 13) (.load true 2 (.t 3)),
      .call (some 14) 10 [(.t 13)],
      .p (some 15) (.una .not (.t 14))],
    .p (some 16) (.pick (.t 12) (.c (.bool true)) (.t 15))])
  (.cond (.t 16)
    (.seq (.ops [4] [.p (some 4) (.move (.c (.int .i64 0)))])
    (.ret))
    (.skip)))
  (.seq (.ops [2, 3, 5, 6] [.p (some 18) (.faddr 0 (.t 2)),
    .p (some 19) (.load false 1 (.t 18)),
    .p (some 20) (.faddr 1 (.t 3)),
    .p (some 21) (.load false 1 (.t 20)),
    .call (some 22) 26 [(.t 19), (.t 21)],
    .p (some 17) (.move (.t 22)),
    .p (some 23) (.extract (.t 17) 0),
    .p (some 24) (.extract (.t 17) 1),
    .p (some 5) (.move (.t 23)),
    .p (some 6) (.move (.t 24))])
  (.seq (.ops [5, 6, 7, 8] [.p (some 26) (.faddr 0 (.t 3)),
    .p (some 27) (.load false 1 (.t 26)),
    .p (some 28) (.faddr 1 (.t 2)),
    .p (some 29) (.load false 1 (.t 28)),
    .call (some 30) 26 [(.t 27), (.t 29)],
    .p (some 25) (.move (.t 30)),
    .p (some 31) (.extract (.t 25) 0),
    .p (some 32) (.extract (.t 25) 1),
    .p (some 7) (.move (.t 31)),
    .p (some 8) (.move (.t 32))])
  (.seq (.ops [4] [.p (some 33) (.move (.t 5)),
    .p (some 34) (.move (.t 7)),
    .call (some 35) 28 [(.t 33), (.t 34)],
    .p (some 36) (.move (.t 6)),
    .p (some 37) (.move (.t 8)),
    .call (some 38) 28 [(.t 36), (.t 37)],
    .p (some 39) (.bslice 3 2 1 [(.int .i64 0)] [(0, (.t 35)), (1, (.t 38))]),
    .call (some 40) 27 [(.t 39)],
    .p (some 4) (.move (.t 40))])
  (.ret)))))⟩

/-! 10: (gossamer/amount.Rate).Good -/
def c10 : FnC := ⟨1, 16, [.tmp 2],
  .seq (.ops [1, 9, 14] [.e (some 1) (.box (.t 0)),
    .p (some 2) (.move (.c (.bool false)))])
  (.seq (.ops [2] [.p (some 3) (.faddr 0 (.t 1)),
    .p (some 4) (.load false 1 (.t 3)),
    .call (some 5) 23 [(.t 4)],
    .p (some 6) (.move (.t 5)),
    .when 6 true [.p (some 7) (.faddr 1 (.t 1)),
      .p (some 8) (.load false 1 (.t 7)),
      .p (some 9) (.bin .geq .int [] (.t 8) (.c (.int .i64 1)))],
    .p (some 10) (.pick (.t 6) (.t 9) (.c (.bool false))),
    .p (some 11) (.move (.t 10)),
    .when 11 true [.p (some 12) (.faddr 1 (.t 1)),
      .p (some 13) (.load false 1 (.t 12)),
      .p (some 14) (.bin .leq .int [] (.t 13) (.c (.int .i64 1099511627776)))],
    .p (some 15) (.pick (.t 11) (.t 14) (.c (.bool false))),
    .p (some 2) (.move (.t 15))])
  (.ret))⟩

/-! 23: gossamer/amount.Good -/
def c23 : FnC := ⟨1, 9, [.tmp 2],
  .seq (.ops [0, 7] [.p (some 2) (.move (.c (.bool false)))])
  (.seq (.ops [2] [.p (some 3) (.move (.t 0)),
    .p (some 4) (.bin .geq .int [] (.t 3) (.c (.int .i64 0))),
    .p (some 5) (.move (.t 4)),
    .when 5 true [.p (some 6) (.move (.t 0)),
      .p (some 7) (.bin .leq .int [] (.t 6) (.c (.int .i64 2100000000000000)))],
    .p (some 8) (.pick (.t 5) (.t 7) (.c (.bool false))),
    .p (some 2) (.move (.t 8))])
  (.ret))⟩

/-! 26: gossamer/amount.times -/
def c26 : FnC := ⟨2, 13, [.tmp 4, .tmp 5],
  .seq (.ops [0, 1] [.p (some 4) (.move (.c (.int .u64 0))),
    .p (some 5) (.move (.c (.int .u64 0)))])
  (.seq (.ops [4, 5] [.p (some 6) (.move (.t 0)),
    .p (some 7) (.conv (.int .u64) (.t 6)),
    .p (some 8) (.move (.t 1)),
    .p (some 9) (.conv (.int .u64) (.t 8)),
    .call (some 10) 29 [(.t 7), (.t 9)],
    .p (some 11) (.extract (.t 10) 0),
    .p (some 12) (.extract (.t 10) 1),
    .p (some 4) (.move (.t 11)),
    .p (some 5) (.move (.t 12))])
  (.ret))⟩

/-! 29: math/bits.Mul64 -/
def c29 : FnC := ⟨2, 51, [.tmp 4, .tmp 5],
  .seq (.ops [0, 1] [.p (some 4) (.move (.c (.int .u64 0))),
    .p (some 5) (.move (.c (.int .u64 0)))])
  (.seq (.ops [0, 1, 6] [.p (some 14) (.move (.t 0)),
    .p (some 15) (.bin .and .int [] (.t 14) (.c (.int .u64 4294967295))),
    .p (some 6) (.move (.t 15))])
  (.seq (.ops [0, 1, 6, 7] [.p (some 16) (.move (.t 0)),
    .p (some 17) (.bin .shr .int [] (.t 16) (.c (.int .u64 32))),
    .p (some 7) (.move (.t 17))])
  (.seq (.ops [0, 1, 6, 7, 8] [.p (some 18) (.move (.t 1)),
    .p (some 19) (.bin .and .int [] (.t 18) (.c (.int .u64 4294967295))),
    .p (some 8) (.move (.t 19))])
  (.seq (.ops [0, 1, 6, 7, 8, 9] [.p (some 20) (.move (.t 1)),
    .p (some 21) (.bin .shr .int [] (.t 20) (.c (.int .u64 32))),
    .p (some 9) (.move (.t 21))])
  (.seq (.ops [0, 1, 6, 7, 8, 9, 10] [.p (some 22) (.move (.t 6)),
    .p (some 23) (.move (.t 8)),
    .p (some 24) (.bin .mul .int [] (.t 22) (.t 23)),
    .p (some 10) (.move (.t 24))])
  (.seq (.ops [0, 1, 6, 7, 9, 11] [.p (some 25) (.move (.t 7)),
    .p (some 26) (.move (.t 8)),
    .p (some 27) (.bin .mul .int [] (.t 25) (.t 26)),
    .p (some 28) (.move (.t 10)),
    .p (some 29) (.bin .shr .int [] (.t 28) (.c (.int .u64 32))),
    .p (some 30) (.bin .add .int [] (.t 27) (.t 29)),
    .p (some 11) (.move (.t 30))])
  (.seq (.ops [0, 1, 6, 7, 9, 11, 12] [.p (some 31) (.move (.t 11)),
    .p (some 32) (.bin .and .int [] (.t 31) (.c (.int .u64 4294967295))),
    .p (some 12) (.move (.t 32))])
  (.seq (.ops [0, 1, 6, 7, 9, 12, 13] [.p (some 33) (.move (.t 11)),
    .p (some 34) (.bin .shr .int [] (.t 33) (.c (.int .u64 32))),
    .p (some 13) (.move (.t 34))])
  (.seq (.ops [0, 1, 7, 9, 12, 13] [.p (some 35) (.move (.t 12)),
    .p (some 36) (.move (.t 6)),
    .p (some 37) (.move (.t 9)),
    .p (some 38) (.bin .mul .int [] (.t 36) (.t 37)),
    .p (some 39) (.bin .add .int [] (.t 35) (.t 38)),
    .p (some 12) (.move (.t 39))])
  (.seq (.ops [0, 1, 4] [.p (some 40) (.move (.t 7)),
    .p (some 41) (.move (.t 9)),
    .p (some 42) (.bin .mul .int [] (.t 40) (.t 41)),
    .p (some 43) (.move (.t 13)),
    .p (some 44) (.bin .add .int [] (.t 42) (.t 43)),
    .p (some 45) (.move (.t 12)),
    .p (some 46) (.bin .shr .int [] (.t 45) (.c (.int .u64 32))),
    .p (some 47) (.bin .add .int [] (.t 44) (.t 46)),
    .p (some 4) (.move (.t 47))])
  (.seq (.ops [4, 5] [.p (some 48) (.move (.t 0)),
    .p (some 49) (.move (.t 1)),
    .p (some 50) (.bin .mul .int [] (.t 48) (.t 49)),
    .p (some 5) (.move (.t 50))])
  (.ret))))))))))))⟩

/-! 28: cmp.Compare[uint64] -/
def c28 : FnC := ⟨2, 20, [.tmp 4],
  .seq (.ops [0, 1] [.p (some 4) (.move (.c (.int .i64 0)))])
  (.seq (.ops [0, 1, 5] [.p (some 7) (.move (.t 0)),
    .call (some 8) 30 [(.t 7)],
    .p (some 5) (.move (.t 8))])
  (.seq (.ops [0, 1, 5, 6] [.p (some 9) (.move (.t 1)),
    .call (some 10) 30 [(.t 9)],
    .p (some 6) (.move (.t 10))])
  (.seq (.seq (.ops [0, 1, 6, 11] [.p (some 11) (.move (.t 5))])
  (.cond (.t 11)
    (.seq (.seq (.ops [12] [.p (some 12) (.move (.t 6))])
    (.cond (.t 12)
      (.seq (.ops [4] [.p (some 4) (.move (.c (.int .i64 0)))])
      (.ret))
      (.skip)))
    (.seq (.ops [4] [.p (some 4) (.move (.c (.int .i64 (-1))))])
    (.ret)))
    (.skip)))
  (.seq (.seq (.ops [0, 1, 13] [.p (some 13) (.move (.t 6))])
  (.cond (.t 13)
    (.seq (.ops [4] [.p (some 4) (.move (.c (.int .i64 1)))])
    (.ret))
    (.skip)))
  (.seq (.seq (.ops [0, 1, 16] [.p (some 14) (.move (.t 0)),
    .p (some 15) (.move (.t 1)),
    .p (some 16) (.bin .lss .int [] (.t 14) (.t 15))])
  (.cond (.t 16)
    (.seq (.ops [4] [.p (some 4) (.move (.c (.int .i64 (-1))))])
    (.ret))
    (.skip)))
  (.seq (.seq (.ops [19] [.p (some 17) (.move (.t 0)),
    .p (some 18) (.move (.t 1)),
    .p (some 19) (.bin .gtr .int [] (.t 17) (.t 18))])
  (.cond (.t 19)
    (.seq (.ops [4] [.p (some 4) (.move (.c (.int .i64 1)))])
    (.ret))
    (.skip)))
  (.seq (.ops [4] [.p (some 4) (.move (.c (.int .i64 0)))])
  (.ret))))))))⟩

/-! 30: cmp.isNaN[uint64] -/
def c30 : FnC := ⟨1, 6, [.tmp 2],
  .seq (.ops [0] [.p (some 2) (.move (.c (.bool false)))])
  (.seq (.ops [2] [.p (some 3) (.move (.t 0)),
    .p (some 4) (.move (.t 0)),
    .p (some 5) (.bin .neq .int [] (.t 3) (.t 4)),
    .p (some 2) (.move (.t 5))])
  (.ret))⟩

/-! 27: cmp.Or[int] -/
def c27_l0 : C :=
  .seq (.ops [3, 6, 7, 8, 9] [.p (some 9) (.bin .lss .int [] (.t 8) (.t 7))])
  (.seq (.cond (.t 9)
    (.skip)
    (.exit 0))
  (.seq (.block 1 (.seq (.ops [3, 5, 6, 7, 8] [.p (some 10) (.iaddr 1 (.t 6) (.t 8)),
    .p (some 11) (.load false 1 (.t 10)),
    .p (some 5) (.move (.t 11))])
  (.seq (.ops [3, 5, 6, 7, 8, 14] [.p (some 12) (.move (.t 5)),
    .p (some 13) (.move (.t 3)),
    .p (some 14) (.bin .neq .int [] (.t 12) (.t 13))])
  (.cond (.t 14)
    (.seq (.ops [2] [.p (some 15) (.move (.t 5)),
      .p (some 2) (.move (.t 15))])
    (.ret))
    (.skip)))))
  (.ops [3, 6, 7, 8] [.p (some 16) (.bin .add .int [] (.t 8) (.c (.int .i64 1))),
    .p (some 8) (.move (.t 16))])))
def c27 : FnC := ⟨1, 18, [.tmp 2],
  .seq (.ops [0] [.p (some 2) (.move (.c (.int .i64 0)))])
  (.seq (.ops [0, 3] [.p (some 3) (.move (.c (.int .i64 0)))])
  (.seq (.seq (.ops [3, 6, 7, 8] [.p (some 6) (.move (.t 0)),
    .p (some 7) (.len .slice (.t 6)),
    .p (some 8) (.move (.c (.int .i64 0)))])
  (.block 0 (.loop [3, 6, 7, 8] c27_l0)))
  (.seq (.ops [2] [.p (some 17) (.move (.t 3)),
    .p (some 2) (.move (.t 17))])
  (.ret))))⟩

/-! 8: (gossamer/amount.Rate).With -/
def c8 : FnC := ⟨2, 34, [.cell 4 true 2, .tmp 5],
  .seq (.ops [2, 3, 4, 13] [.e (some 2) (.box (.t 0)),
    .e (some 3) (.box (.t 1)),
    .e (some 4) (.alloc [(.d (.int .i64 0)), (.d (.int .i64 0))]),
    .p (some 5) (.move (.c .nili))])
  (.seq (.seq (.ops [2, 3, 4, 14] [.p (some 7) (.load true 2 (.t 2)),
    .call (some 8) 10 [(.t 7)],
    .p (some 9) (.una .not (.t 8)),
    .p (some 10) (.move (.t 9)),
    .when 10 false [.p (some 11) (.load true 2 (.t 3)),
      .call (some 12) 10 [(.t 11)],
      .p (some 13) (.una .not (.t 12))],
    .p (some 14) (.pick (.t 10) (.c (.bool true)) (.t 13))])
  (.cond (.t 14)
    (.seq (.ops [4, 5] [.p (some 15) (.build [(.int .i64 0), (.int .i64 0)] []),
      .p (some 16) (.mkif 50 (.c (.int .i64 1))),
      .e .none (.store 2 (.t 4) (.t 15)),
      .p (some 5) (.move (.t 16))])
    (.ret))
    (.skip)))
  (.seq (.ops [4, 6] [.p (some 17) (.faddr 0 (.t 2)),
    .p (some 18) (.load false 1 (.t 17)),
    .p (some 19) (.faddr 0 (.t 3)),
    .p (some 20) (.load false 1 (.t 19)),
    .p (some 21) (.bin .add .int [] (.t 18) (.t 20)),
    .p (some 22) (.faddr 1 (.t 2)),
    .p (some 23) (.load false 1 (.t 22)),
    .p (some 24) (.faddr 1 (.t 3)),
    .p (some 25) (.load false 1 (.t 24)),
    .p (some 26) (.bin .add .int [] (.t 23) (.t 25)),
    .p (some 27) (.build [(.int .i64 0), (.int .i64 0)] [(0, 1, (.t 21)), (1, 1, (.t 26))]),
    .e (some 6) (.alloc [(.d (.int .i64 0)), (.d (.int .i64 0))]),
    .e .none (.store 2 (.t 6) (.t 27))])
  (.seq (.seq (.ops [4, 6, 30] [.p (some 28) (.load true 2 (.t 6)),
    .call (some 29) 10 [(.t 28)],
    .p (some 30) (.una .not (.t 29))])
  (.cond (.t 30)
    (.seq (.ops [4, 5] [.p (some 31) (.build [(.int .i64 0), (.int .i64 0)] []),
      .p (some 32) (.mkif 50 (.c (.int .i64 1))),
      .e .none (.store 2 (.t 4) (.t 31)),
      .p (some 5) (.move (.t 32))])
    (.ret))
    (.skip)))
  (.seq (.ops [4, 5] [.p (some 33) (.load true 2 (.t 6)),
    .e .none (.store 2 (.t 4) (.t 33)),
    .p (some 5) (.move (.c .nili))])
  (.ret)))))⟩

/-! 9: gossamer/gossamerref09.With -/
def c9 : FnC := ⟨2, 33, [.cell 4 true 2, .tmp 5],
  .seq (.ops [2, 3, 4, 24, 29] [.e (some 2) (.box (.t 0)),
    .e (some 3) (.box (.t 1)),
    .e (some 4) (.alloc [(.d (.int .i64 0)), (.d (.int .i64 0))]),
    .p (some 5) (.move (.c (.int .i64 0)))])
  (.seq (.ops [2, 3, 4, 6, 24, 29] [.p (some 7) (.faddr 0 (.t 2)),
    .p (some 8) (.load false 1 (.t 7)),
    .p (some 9) (.faddr 0 (.t 3)),
    .p (some 10) (.load false 1 (.t 9)),
    .p (some 11) (.bin .add .int [] (.t 8) (.t 10)),
    .p (some 12) (.faddr 1 (.t 2)),
    .p (some 13) (.load false 1 (.t 12)),
    .p (some 14) (.faddr 1 (.t 3)),
    .p (some 15) (.load false 1 (.t 14)),
    .p (some 16) (.bin .add .int [] (.t 13) (.t 15)),
    .p (some 17) (.build [(.int .i64 0), (.int .i64 0)] [(0, 1, (.t 11)), (1, 1, (.t 16))]),
    .e (some 6) (.alloc [(.d (.int .i64 0)), (.d (.int .i64 0))]),
    .e .none (.store 2 (.t 6) (.t 17))])
  (.seq (.seq (.ops [4, 6, 30] [.p (some 18) (.load true 2 (.t 2)),
    .call (some 19) 11 [(.t 18)],
    .p (some 20) (.una .not (.t 19)),
    .p (some 21) (.move (.t 20)),
    .when 21 false [.p (some 22) (.load true 2 (.t 3)),
      .call (some 23) 11 [(.t 22)],
      .p (some 24) (.una .not (.t 23))],
    .p (some 25) (.pick (.t 21) (.c (.bool true)) (.t 24)),
    .p (some 26) (.move (.t 25)),
    .when 26 false [.p (some 27) (.load true 2 (.t 6)),
      .call (some 28) 11 [(.t 27)],
      .p (some 29) (.una .not (.t 28))],
    .p (some 30) (.pick (.t 26) (.c (.bool true)) (.t 29))])
  (.cond (.t 30)
    (.seq (.ops [4, 5] [.p (some 31) (.build [(.int .i64 0), (.int .i64 0)] []),
      .e .none (.store 2 (.t 4) (.t 31)),
      .p (some 5) (.move (.c (.int .i64 1)))])
    (.ret))
    (.skip)))
  (.seq (.ops [4, 5] [.p (some 32) (.load true 2 (.t 6)),
    .e .none (.store 2 (.t 4) (.t 32)),
    .p (some 5) (.move (.c (.int .i64 0)))])
  (.ret))))⟩

/-! 11: gossamer/gossamerref09.Right -/
def c11 : FnC := ⟨1, 16, [.tmp 2],
  .seq (.ops [1, 9, 14] [.e (some 1) (.box (.t 0)),
    .p (some 2) (.move (.c (.bool false)))])
  (.seq (.ops [2] [.p (some 3) (.faddr 0 (.t 1)),
    .p (some 4) (.load false 1 (.t 3)),
    .call (some 5) 24 [(.t 4)],
    .p (some 6) (.move (.t 5)),
    .when 6 true [.p (some 7) (.faddr 1 (.t 1)),
      .p (some 8) (.load false 1 (.t 7)),
      .p (some 9) (.bin .geq .int [] (.t 8) (.c (.int .i64 1)))],
    .p (some 10) (.pick (.t 6) (.t 9) (.c (.bool false))),
    .p (some 11) (.move (.t 10)),
    .when 11 true [.p (some 12) (.faddr 1 (.t 1)),
      .p (some 13) (.load false 1 (.t 12)),
      .p (some 14) (.bin .leq .int [] (.t 13) (.c (.int .i64 1099511627776)))],
    .p (some 15) (.pick (.t 11) (.t 14) (.c (.bool false))),
    .p (some 2) (.move (.t 15))])
  (.ret))⟩

/-! 24: gossamer/gossamerref09.Good -/
def c24 : FnC := ⟨1, 9, [.tmp 2],
  .seq (.ops [0, 7] [.p (some 2) (.move (.c (.bool false)))])
  (.seq (.ops [2] [.p (some 3) (.move (.t 0)),
    .p (some 4) (.bin .geq .int [] (.t 3) (.c (.int .i64 0))),
    .p (some 5) (.move (.t 4)),
    .when 5 true [.p (some 6) (.move (.t 0)),
      .p (some 7) (.bin .leq .int [] (.t 6) (.c (.int .i64 2100000000000000)))],
    .p (some 8) (.pick (.t 5) (.t 7) (.c (.bool false))),
    .p (some 2) (.move (.t 8))])
  (.ret))⟩

/-! 13: gossamer/gossamerref09.Compare -/
def c13_l0 : C :=
  .block 1 (.seq (.seq (.drw [5, 6, 7, 8, 9, 32, 54] 0 [⟨.none, .p (some 26) (.move (.t 5)), [], 0⟩,
    ⟨.none, .p (some 27) (.move (.t 6)), [], 0⟩,
    ⟨.none, .p (some 28) (.bin .quo .int [] (.t 26) (.t 27)), [0, 1], 0⟩,
    ⟨.none, .p (some 29) (.move (.t 7)), [], 0⟩,
    ⟨.none, .p (some 30) (.move (.t 8)), [], 0⟩,
    ⟨.none, .p (some 31) (.bin .quo .int [] (.t 29) (.t 30)), [3, 4], 0⟩,
    ⟨.none, .p (some 32) (.bin .neq .int [] (.t 28) (.t 31)), [2, 5], 0⟩])
  (.cond (.t 32)
    (.seq (.seq (.drw [9, 39] 0 [⟨.none, .p (some 33) (.move (.t 5)), [], 0⟩,
      ⟨.none, .p (some 34) (.move (.t 6)), [], 0⟩,
      ⟨.none, .p (some 35) (.bin .quo .int [] (.t 33) (.t 34)), [0, 1], 0⟩,
      ⟨.none, .p (some 36) (.move (.t 7)), [], 0⟩,
      ⟨.none, .p (some 37) (.move (.t 8)), [], 0⟩,
      ⟨.none, .p (some 38) (.bin .quo .int [] (.t 36) (.t 37)), [3, 4], 0⟩,
      ⟨.none, .p (some 39) (.bin .lss .int [] (.t 35) (.t 38)), [2, 5], 0⟩])
    (.cond (.t 39)
      (.seq (.ops [4] [.p (some 40) (.move (.t 9)),
        .p (some 41) (.una .neg (.t 40)),
        .p (some 4) (.move (.t 41))])
      (.ret))
      (.skip)))
    (.seq (.ops [4] [.p (some 42) (.move (.t 9)),
      .p (some 4) (.move (.t 42))])
    (.ret)))
    (.skip)))
  (.seq (.ops [5, 6, 7, 8, 9, 54] [.p (some 43) (.move (.t 5)),
    .p (some 44) (.move (.t 6)),
    .p (some 45) (.bin .rem .int [] (.t 43) (.t 44)),
    .p (some 5) (.move (.t 45))])
  (.seq (.ops [5, 6, 7, 8, 9, 54] [.p (some 46) (.move (.t 7)),
    .p (some 47) (.move (.t 8)),
    .p (some 48) (.bin .rem .int [] (.t 46) (.t 47)),
    .p (some 7) (.move (.t 48))])
  (.seq (.block 2 (.seq (.ops [5, 6, 7, 8, 9, 49, 54] [.p (some 50) (.move (.t 5)),
    .p (some 51) (.bin .eql .int [] (.t 50) (.c (.int .i64 0))),
    .p (some 52) (.move (.t 51)),
    .when 52 true [.p (some 53) (.move (.t 7)),
      .p (some 54) (.bin .eql .int [] (.t 53) (.c (.int .i64 0)))],
    .p (some 55) (.pick (.t 52) (.t 54) (.c (.bool false))),
    .p (some 49) (.move (.t 55))])
  (.cond (.t 49)
    (.seq (.ops [4] [.p (some 4) (.move (.c (.int .i64 0)))])
    (.ret))
    (.seq (.ops [5, 6, 7, 8, 9, 54, 56] [.p (some 57) (.move (.t 5)),
      .p (some 58) (.bin .eql .int [] (.t 57) (.c (.int .i64 0))),
      .p (some 56) (.move (.t 58))])
    (.cond (.t 56)
      (.seq (.ops [4] [.p (some 59) (.move (.t 9)),
        .p (some 60) (.una .neg (.t 59)),
        .p (some 4) (.move (.t 60))])
      (.ret))
      (.seq (.ops [5, 6, 7, 8, 9, 54, 61] [.p (some 62) (.move (.t 7)),
        .p (some 63) (.bin .eql .int [] (.t 62) (.c (.int .i64 0))),
        .p (some 61) (.move (.t 63))])
      (.cond (.t 61)
        (.seq (.ops [4] [.p (some 64) (.move (.t 9)),
          .p (some 4) (.move (.t 64))])
        (.ret))
        (.skip))))))))
  (.seq (.ops [5, 6, 7, 8, 9, 54] [.p (some 65) (.move (.t 6)),
    .p (some 66) (.move (.t 5)),
    .p (some 67) (.move (.t 8)),
    .p (some 68) (.move (.t 7)),
    .p (some 5) (.move (.t 65)),
    .p (some 6) (.move (.t 66)),
    .p (some 7) (.move (.t 67)),
    .p (some 8) (.move (.t 68))])
  (.ops [5, 6, 7, 8, 9, 54] [.p (some 69) (.move (.t 9)),
    .p (some 70) (.una .neg (.t 69)),
    .p (some 9) (.move (.t 70))]))))))
def c13 : FnC := ⟨2, 71, [.tmp 4],
  .seq (.ops [2, 3, 16, 54] [.e (some 2) (.box (.t 0)),
    .e (some 3) (.box (.t 1)),
    .p (some 4) (.move (.c (.int .i64 0)))])
  (.seq (.seq (.ops [2, 3, 17, 54] [.p (some 10) (.load true 2 (.t 2)),
    .call (some 11) 11 [(.t 10)],
    .p (some 12) (.una .not (.t 11)),
    .p (some 13) (.move (.t 12)),
    .when 13 false [.p (some 14) (.load true 2 (.t 3)),
      .call (some 15) 11 [(.t 14)],
      .p (some 16) (.una .not (.t 15))],
    .p (some 17) (.pick (.t 13) (.c (.bool true)) (.t 16))])
  (.cond (.t 17)
    (.seq (.ops [4] [.p (some 4) (.move (.c (.int .i64 0)))])
    (.ret))
    (.skip)))
  (.seq (.drw [5, 6, 7, 8, 54] 0 [⟨.none, .p (some 18) (.faddr 0 (.t 2)), [], 0⟩,
    ⟨.none, .p (some 19) (.load false 1 (.t 18)), [0], 0⟩,
    ⟨.none, .p (some 20) (.faddr 1 (.t 2)), [], 0⟩,
    ⟨.none, .p (some 21) (.load false 1 (.t 20)), [2], 0⟩,
    ⟨.none, .p (some 22) (.faddr 0 (.t 3)), [], 0⟩,
    ⟨.none, .p (some 23) (.load false 1 (.t 22)), [4], 0⟩,
    ⟨.none, .p (some 24) (.faddr 1 (.t 3)), [], 0⟩,
    ⟨.none, .p (some 25) (.load false 1 (.t 24)), [6], 0⟩,
    ⟨.none, .p (some 5) (.move (.t 19)), [1, 0, 1], 0⟩,
    ⟨.none, .p (some 6) (.move (.t 21)), [3, 8, 0, 1, 2, 3, 8], 0⟩,
    ⟨.none, .p (some 7) (.move (.t 23)), [5, 9, 0, 1, 2, 3, 4, 5, 8, 9], 0⟩,
    ⟨.none, .p (some 8) (.move (.t 25)), [7, 10, 0, 1, 2, 3, 4, 5, 6, 7, 8, 9, 10], 0⟩])
  (.seq (.ops [5, 6, 7, 8, 9, 54] [.p (some 9) (.move (.c (.int .i64 1)))])
  (.block 0 (.loop [5, 6, 7, 8, 9, 54] c13_l0)))))⟩

/-! 14: gossamer/gossamernum.Num -/
def c14 : FnC := ⟨1, 18, [.tmp 2],
  .seq (.ops [0, 15] [.p (some 2) (.move (.c (.int .i64 0)))])
  (.seq (.seq (.ops [0, 6, 15] [.p (some 5) (.move (.t 0)),
    .p (some 6) (.bin .eql .iface [] (.t 5) (.c .nili))])
  (.cond (.t 6)
    (.seq (.ops [2] [.p (some 2) (.move (.c (.int .i64 0)))])
    (.ret))
    (.skip)))
  (.seq (.seq (.ops [3, 4, 15] [.p (some 8) (.move (.t 0)),
    .p (some 9) (.assert 50 (.c (.int .i64 0)) true (.t 8)),
    .p (some 7) (.move (.t 9)),
    .p (some 10) (.extract (.t 7) 0),
    .p (some 11) (.extract (.t 7) 1),
    .p (some 3) (.move (.t 10)),
    .p (some 4) (.move (.t 11))])
  (.seq (.ops [3, 16] [.p (some 12) (.move (.t 4)),
    .p (some 13) (.move (.t 12)),
    .when 13 true [.p (some 14) (.move (.t 3)),
      .p (some 15) (.bin .neq .int [] (.t 14) (.c (.int .i64 0)))],
    .p (some 16) (.pick (.t 13) (.t 15) (.c (.bool false)))])
  (.cond (.t 16)
    (.seq (.ops [2] [.p (some 17) (.move (.t 3)),
      .p (some 2) (.move (.t 17))])
    (.ret))
    (.skip))))
  (.seq (.ops [2] [.p (some 2) (.move (.c (.int .i64 (-1))))])
  (.ret))))⟩

/-! 4: gossamer/gossamerlaw09.AmountNeeds -/
def c4 : FnC := ⟨3, 47, [.tmp 6],
  .seq (.ops [1, 2, 3, 31, 32, 33, 34, 37, 38, 39, 40, 41, 42, 43, 44, 45] [.e (some 3) (.box (.t 0)),
    .p (some 6) (.move (.c (.bool false)))])
  (.seq (.seq (.ops [1, 2, 3, 12, 31, 32, 33, 34, 37, 38, 39, 40, 41, 42, 43, 44, 45] [.call (some 11) 7 [],
    .p (some 12) (.una .not (.t 11))])
  (.cond (.t 12)
    (.seq (.ops [6] [.p (some 6) (.move (.c (.bool false)))])
    (.ret))
    (.skip)))
  (.seq (.ops [1, 2, 3, 7, 8, 31, 32, 33, 34, 37, 38, 39, 40, 41, 42, 43, 44, 45] [.p (some 14) (.faddr 1 (.t 3)),
    .p (some 15) (.load false 1 (.t 14)),
    .p (some 16) (.move (.t 1)),
    .call (some 17) 15 [(.t 15), (.t 16)],
    .p (some 13) (.move (.t 17)),
    .p (some 18) (.extract (.t 13) 0),
    .p (some 19) (.extract (.t 13) 1),
    .p (some 7) (.move (.t 18)),
    .p (some 8) (.move (.t 19))])
  (.seq (.ops [1, 2, 3, 7, 8, 9, 10, 31, 32, 33, 34, 37, 38, 39, 40, 41, 42, 43, 44, 45] [.p (some 21) (.faddr 1 (.t 3)),
    .p (some 22) (.load false 1 (.t 21)),
    .p (some 23) (.move (.t 1)),
    .call (some 24) 16 [(.t 22), (.t 23)],
    .p (some 20) (.move (.t 24)),
    .p (some 25) (.extract (.t 20) 0),
    .p (some 26) (.extract (.t 20) 1),
    .p (some 9) (.move (.t 25)),
    .p (some 10) (.move (.t 26))])
  (.seq (.drw [6] 0 [⟨.none, .p (some 27) (.move (.t 7)), [], 0⟩,
    ⟨.none, .p (some 28) (.move (.t 9)), [], 0⟩,
    ⟨.none, .p (some 29) (.bin .eql .int [] (.t 27) (.t 28)), [0, 1], 0⟩,
    ⟨.none, .p (some 30) (.move (.t 29)), [2], 0⟩,
    ⟨(some (30, true)), .p (some 31) (.move (.t 8)), [3], 0⟩,
    ⟨(some (30, true)), .call (some 32) 14 [(.t 31)], [4, 3, 3], 0⟩,
    ⟨(some (30, true)), .p (some 33) (.move (.t 10)), [3], 0⟩,
    ⟨(some (30, true)), .p (some 34) (.bin .eql .int [] (.t 32) (.t 33)), [5, 6, 3], 0⟩,
    ⟨.none, .p (some 35) (.pick (.t 30) (.t 34) (.c (.bool false))), [3, 7], 0⟩,
    ⟨.none, .p (some 36) (.move (.t 35)), [8, 5], 0⟩,
    ⟨(some (36, true)), .p (some 37) (.load true 2 (.t 3)), [9], 0⟩,
    ⟨(some (36, true)), .p (some 38) (.move (.t 1)), [9], 0⟩,
    ⟨(some (36, true)), .p (some 39) (.move (.t 2)), [9], 0⟩,
    ⟨(some (36, true)), .call (some 40) 17 [(.t 37), (.t 38), (.t 39)], [10, 11, 12, 9, 9], 0⟩,
    ⟨(some (36, true)), .p (some 41) (.load true 2 (.t 3)), [9], 0⟩,
    ⟨(some (36, true)), .p (some 42) (.move (.t 1)), [9], 0⟩,
    ⟨(some (36, true)), .p (some 43) (.move (.t 2)), [9], 0⟩,
    ⟨(some (36, true)), .call (some 44) 18 [(.t 41), (.t 42), (.t 43)], [14, 15, 16, 13, 9], 0⟩,
    ⟨(some (36, true)), .p (some 45) (.bin .eql .bool [] (.t 40) (.t 44)), [13, 17, 9], 0⟩,
    ⟨.none, .p (some 46) (.pick (.t 36) (.t 45) (.c (.bool false))), [9, 18], 0⟩,
    ⟨.none, .p (some 6) (.move (.t 46)), [19, 17, 0, 1, 2, 3, 4, 5, 6, 7, 8, 9, 10, 11, 12, 13, 14, 15, 16, 17, 18, 19], 0⟩])
  (.ret)))))⟩

/-! 15: gossamer/amount.Need -/
def c15 : FnC := ⟨2, 27, [.tmp 4, .tmp 5],
  .seq (.ops [0, 1, 10, 14, 18] [.p (some 4) (.move (.c (.int .i64 0))),
    .p (some 5) (.move (.c .nili))])
  (.seq (.seq (.ops [0, 1, 19] [.p (some 6) (.move (.t 0)),
    .p (some 7) (.bin .lss .int [] (.t 6) (.c (.int .i64 1))),
    .p (some 8) (.move (.t 7)),
    .when 8 false [.p (some 9) (.move (.t 0)),
      .p (some 10) (.bin .gtr .int [] (.t 9) (.c (.int .i64 1048576)))],
    .p (some 11) (.pick (.t 8) (.c (.bool true)) (.t 10)),
    .p (some 12) (.move (.t 11)),
    .when 12 false [.p (some 13) (.move (.t 1)),
      .p (some 14) (.bin .lss .int [] (.t 13) (.c (.int .i64 0)))],
    .p (some 15) (.pick (.t 12) (.c (.bool true)) (.t 14)),
    .p (some 16) (.move (.t 15)),
    .when 16 false [.p (some 17) (.move (.t 1)),
      .p (some 18) (.bin .gtr .int [] (.t 17) (.c (.int .i64 1048576)))],
    .p (some 19) (.pick (.t 16) (.c (.bool true)) (.t 18))])
  (.cond (.t 19)
    (.seq (.ops [4, 5] [.p (some 20) (.mkif 50 (.c (.int .i64 1))),
      .p (some 4) (.move (.c (.int .i64 0))),
      .p (some 5) (.move (.t 20))])
    (.ret))
    (.skip)))
  (.seq (.ops [4, 5] [.p (some 21) (.move (.t 0)),
    .p (some 22) (.move (.t 1)),
    .p (some 23) (.bin .mul .int [] (.t 21) (.t 22)),
    .p (some 24) (.bin .add .int [] (.t 23) (.c (.int .i64 1000))),
    .p (some 25) (.bin .sub .int [] (.t 24) (.c (.int .i64 1))),
    .p (some 26) (.bin .quo .int [] (.t 25) (.c (.int .i64 1000))),
    .p (some 4) (.move (.t 26)),
    .p (some 5) (.move (.c .nili))])
  (.ret)))⟩

/-! 16: gossamer/gossamerref09.Need -/
def c16 : FnC := ⟨2, 34, [.tmp 4, .tmp 5],
  .seq (.ops [0, 1, 11, 15, 19] [.p (some 4) (.move (.c (.int .i64 0))),
    .p (some 5) (.move (.c (.int .i64 0)))])
  (.seq (.seq (.ops [0, 1, 20] [.p (some 7) (.move (.t 0)),
    .p (some 8) (.bin .lss .int [] (.t 7) (.c (.int .i64 1))),
    .p (some 9) (.move (.t 8)),
    .when 9 false [.p (some 10) (.move (.t 0)),
      .p (some 11) (.bin .gtr .int [] (.t 10) (.c (.int .i64 1048576)))],
    .p (some 12) (.pick (.t 9) (.c (.bool true)) (.t 11)),
    .p (some 13) (.move (.t 12)),
    .when 13 false [.p (some 14) (.move (.t 1)),
      .p (some 15) (.bin .lss .int [] (.t 14) (.c (.int .i64 0)))],
    .p (some 16) (.pick (.t 13) (.c (.bool true)) (.t 15)),
    .p (some 17) (.move (.t 16)),
    .when 17 false [.p (some 18) (.move (.t 1)),
      .p (some 19) (.bin .gtr .int [] (.t 18) (.c (.int .i64 1048576)))],
    .p (some 20) (.pick (.t 17) (.c (.bool true)) (.t 19))])
  (.cond (.t 20)
    (.seq (.ops [4, 5] [.p (some 4) (.move (.c (.int .i64 0))),
      .p (some 5) (.move (.c (.int .i64 1)))])
    (.ret))
    (.skip)))
  (.seq (.ops [0, 1, 6] [.p (some 21) (.move (.t 0)),
    .p (some 22) (.move (.t 1)),
    .p (some 23) (.bin .mul .int [] (.t 21) (.t 22)),
    .p (some 24) (.bin .quo .int [] (.t 23) (.c (.int .i64 1000))),
    .p (some 6) (.move (.t 24))])
  (.seq (.seq (.ops [6, 30] [.p (some 25) (.move (.t 6)),
    .p (some 26) (.bin .mul .int [] (.t 25) (.c (.int .i64 1000))),
    .p (some 27) (.move (.t 0)),
    .p (some 28) (.move (.t 1)),
    .p (some 29) (.bin .mul .int [] (.t 27) (.t 28)),
    .p (some 30) (.bin .lss .int [] (.t 26) (.t 29))])
  (.cond (.t 30)
    (.ops [6] [.p (some 31) (.move (.t 6)),
      .p (some 32) (.bin .add .int [] (.t 31) (.c (.int .i64 1))),
      .p (some 6) (.move (.t 32))])
    (.skip)))
  (.seq (.ops [4, 5] [.p (some 33) (.move (.t 6)),
    .p (some 4) (.move (.t 33)),
    .p (some 5) (.move (.c (.int .i64 0)))])
  (.ret)))))⟩

/-! 17: (gossamer/amount.Rate).Pays -/
def c17 : FnC := ⟨3, 34, [.tmp 6],
  .seq (.ops [1, 2, 3, 20, 26, 32] [.e (some 3) (.box (.t 0)),
    .p (some 6) (.move (.c (.bool false)))])
  (.seq (.ops [2, 3, 7, 8, 20, 26, 32] [.p (some 10) (.faddr 1 (.t 3)),
    .p (some 11) (.load false 1 (.t 10)),
    .p (some 12) (.move (.t 1)),
    .call (some 13) 15 [(.t 11), (.t 12)],
    .p (some 9) (.move (.t 13)),
    .p (some 14) (.extract (.t 9) 0),
    .p (some 15) (.extract (.t 9) 1),
    .p (some 7) (.move (.t 14)),
    .p (some 8) (.move (.t 15))])
  (.seq (.ops [6] [.p (some 16) (.move (.t 8)),
    .p (some 17) (.bin .eql .iface [] (.t 16) (.c .nili)),
    .p (some 18) (.move (.t 17)),
    .when 18 true [.p (some 19) (.load true 2 (.t 3)),
      .call (some 20) 10 [(.t 19)]],
    .p (some 21) (.pick (.t 18) (.t 20) (.c (.bool false))),
    .p (some 22) (.move (.t 21)),
    .when 22 true [.p (some 23) (.faddr 0 (.t 3)),
      .p (some 24) (.load false 1 (.t 23)),
      .p (some 25) (.move (.t 7)),
      .p (some 26) (.bin .geq .int [] (.t 24) (.t 25))],
    .p (some 27) (.pick (.t 22) (.t 26) (.c (.bool false))),
    .p (some 28) (.move (.t 27)),
    .when 28 true [.p (some 29) (.faddr 0 (.t 3)),
      .p (some 30) (.load false 1 (.t 29)),
      .p (some 31) (.move (.t 2)),
      .p (some 32) (.bin .geq .int [] (.t 30) (.t 31))],
    .p (some 33) (.pick (.t 28) (.t 32) (.c (.bool false))),
    .p (some 6) (.move (.t 33))])
  (.ret)))⟩

/-! 18: gossamer/gossamerref09.Pays -/
def c18 : FnC := ⟨3, 34, [.tmp 6],
  .seq (.ops [1, 2, 3, 20, 26, 32] [.e (some 3) (.box (.t 0)),
    .p (some 6) (.move (.c (.bool false)))])
  (.seq (.ops [2, 3, 7, 8, 20, 26, 32] [.p (some 10) (.faddr 1 (.t 3)),
    .p (some 11) (.load false 1 (.t 10)),
    .p (some 12) (.move (.t 1)),
    .call (some 13) 16 [(.t 11), (.t 12)],
    .p (some 9) (.move (.t 13)),
    .p (some 14) (.extract (.t 9) 0),
    .p (some 15) (.extract (.t 9) 1),
    .p (some 7) (.move (.t 14)),
    .p (some 8) (.move (.t 15))])
  (.seq (.ops [6] [.p (some 16) (.move (.t 8)),
    .p (some 17) (.bin .eql .int [] (.t 16) (.c (.int .i64 0))),
    .p (some 18) (.move (.t 17)),
    .when 18 true [.p (some 19) (.load true 2 (.t 3)),
      .call (some 20) 11 [(.t 19)]],
    .p (some 21) (.pick (.t 18) (.t 20) (.c (.bool false))),
    .p (some 22) (.move (.t 21)),
    .when 22 true [.p (some 23) (.faddr 0 (.t 3)),
      .p (some 24) (.load false 1 (.t 23)),
      .p (some 25) (.move (.t 7)),
      .p (some 26) (.bin .geq .int [] (.t 24) (.t 25))],
    .p (some 27) (.pick (.t 22) (.t 26) (.c (.bool false))),
    .p (some 28) (.move (.t 27)),
    .when 28 true [.p (some 29) (.faddr 0 (.t 3)),
      .p (some 30) (.load false 1 (.t 29)),
      .p (some 31) (.move (.t 2)),
      .p (some 32) (.bin .geq .int [] (.t 30) (.t 31))],
    .p (some 33) (.pick (.t 28) (.t 32) (.c (.bool false))),
    .p (some 6) (.move (.t 33))])
  (.ret)))⟩

/-! 5: gossamer/gossamerlaw09.AmountOrders -/
def c5 : FnC := ⟨3, 104, [.tmp 6],
  .seq (.ops [3, 4, 5, 23, 28, 39, 40, 41, 42, 45, 46, 47, 48, 49, 50, 51, 52, 53, 54, 55, 56, 57, 58, 59, 60, 84, 91, 96, 100, 101, 102] [.e (some 3) (.box (.t 0)),
    .e (some 4) (.box (.t 1)),
    .e (some 5) (.box (.t 2)),
    .p (some 6) (.move (.c (.bool false)))])
  (.seq (.seq (.ops [3, 4, 5, 13, 23, 28, 39, 40, 41, 42, 45, 46, 47, 48, 49, 50, 51, 52, 53, 54, 55, 56, 57, 58, 59, 60, 84, 91, 96, 100, 101, 102] [.call (some 12) 7 [],
    .p (some 13) (.una .not (.t 12))])
  (.cond (.t 13)
    (.seq (.ops [6] [.p (some 6) (.move (.c (.bool false)))])
    (.ret))
    (.skip)))
  (.seq (.drw [7, 8, 9, 23, 28, 39, 40, 41, 42, 45, 46, 47, 48, 49, 50, 51, 52, 53, 54, 55, 56, 57, 58, 59, 60, 84, 91, 96, 100, 101, 102] 3 [⟨.none, .p (some 14) (.load true 2 (.t 3)), [], 0⟩,
    ⟨.none, .p (some 15) (.load true 2 (.t 4)), [], 0⟩,
    ⟨.none, .p (some 16) (.load true 2 (.t 5)), [], 0⟩,
    ⟨.none, .e (some 7) (.alloc [(.d (.int .i64 0)), (.d (.int .i64 0))]), [], 0⟩,
    ⟨.none, .e (some 8) (.alloc [(.d (.int .i64 0)), (.d (.int .i64 0))]), [], 1⟩,
    ⟨.none, .e (some 9) (.alloc [(.d (.int .i64 0)), (.d (.int .i64 0))]), [], 2⟩,
    ⟨.none, .e .none (.store 2 (.t 7) (.t 14)), [3, 0, 0, 3, 4, 5], 3⟩,
    ⟨.none, .e .none (.store 2 (.t 8) (.t 15)), [4, 1, 6, 0, 1, 3, 4, 5, 6], 3⟩,
    ⟨.none, .e .none (.store 2 (.t 9) (.t 16)), [5, 2, 7, 0, 1, 2, 3, 4, 5, 6, 7], 3⟩])
  (.seq (.seq (.ops [7, 8, 9, 29, 39, 40, 41, 42, 45, 46, 47, 48, 49, 50, 51, 52, 53, 54, 55, 56, 57, 58, 59, 60, 84, 91, 96, 100, 101, 102] [.p (some 17) (.load true 2 (.t 7)),
    .call (some 18) 10 [(.t 17)],
    .p (some 19) (.una .not (.t 18)),
    .p (some 20) (.move (.t 19)),
    .when 20 false [.p (some 21) (.load true 2 (.t 8)),
      .call (some 22) 10 [(.t 21)],
      .p (some 23) (.una .not (.t 22))],
    .p (some 24) (.pick (.t 20) (.c (.bool true)) (.t 23)),
    .p (some 25) (.move (.t 24)),
    .when 25 false [.p (some 26) (.load true 2 (.t 9)),
      .call (some 27) 10 [(.t 26)],
      .p (some 28) (.una .not (.t 27))],
    .p (some 29) (.pick (.t 25) (.c (.bool true)) (.t 28))])
  (.cond (.t 29)
    (.seq (.ops [6] [.p (some 6) (.move (.c (.bool true)))])
    (.ret))
    (.skip)))
  (.seq (.seq (.drw [7, 8, 61, 84, 91, 96, 100, 101, 102] 0 [⟨.none, .p (some 30) (.load true 2 (.t 7)), [], 0⟩,
    ⟨.none, .p (some 31) (.load true 2 (.t 8)), [], 0⟩,
    ⟨.none, .call (some 32) 12 [(.t 30), (.t 31)], [0, 1], 0⟩,
    ⟨.none, .p (some 33) (.load true 2 (.t 8)), [], 0⟩,
    ⟨.none, .p (some 34) (.load true 2 (.t 7)), [], 0⟩,
    ⟨.none, .call (some 35) 12 [(.t 33), (.t 34)], [3, 4, 2], 0⟩,
    ⟨.none, .p (some 36) (.una .neg (.t 35)), [5], 0⟩,
    ⟨.none, .p (some 37) (.bin .neq .int [] (.t 32) (.t 36)), [2, 6], 0⟩,
    ⟨.none, .p (some 38) (.move (.t 37)), [7, 5], 0⟩,
    ⟨(some (38, false)), .p (some 39) (.load true 2 (.t 7)), [8], 0⟩,
    ⟨(some (38, false)), .p (some 40) (.load true 2 (.t 7)), [8], 0⟩,
    ⟨(some (38, false)), .call (some 41) 12 [(.t 39), (.t 40)], [9, 10, 8, 8], 0⟩,
    ⟨(some (38, false)), .p (some 42) (.bin .neq .int [] (.t 41) (.c (.int .i64 0))), [11, 8], 0⟩,
    ⟨.none, .p (some 43) (.pick (.t 38) (.c (.bool true)) (.t 42)), [8, 12], 0⟩,
    ⟨.none, .p (some 44) (.move (.t 43)), [13, 11], 0⟩,
    ⟨(some (44, false)), .p (some 45) (.load true 2 (.t 7)), [14], 0⟩,
    ⟨(some (44, false)), .p (some 46) (.load true 2 (.t 8)), [14], 0⟩,
    ⟨(some (44, false)), .call (some 47) 12 [(.t 45), (.t 46)], [15, 16, 14, 14], 0⟩,
    ⟨(some (44, false)), .p (some 48) (.bin .leq .int [] (.t 47) (.c (.int .i64 0))), [17, 14], 0⟩,
    ⟨(some (44, false)), .p (some 49) (.move (.t 48)), [18, 17, 14], 0⟩,
    ⟨(some (49, true)), .p (some 50) (.load true 2 (.t 8)), [19], 0⟩,
    ⟨(some (49, true)), .p (some 51) (.load true 2 (.t 9)), [19], 0⟩,
    ⟨(some (49, true)), .call (some 52) 12 [(.t 50), (.t 51)], [20, 21, 19, 19], 0⟩,
    ⟨(some (49, true)), .p (some 53) (.bin .leq .int [] (.t 52) (.c (.int .i64 0))), [22, 19], 0⟩,
    ⟨(some (44, false)), .p (some 54) (.pick (.t 49) (.t 53) (.c (.bool false))), [19, 23, 14], 0⟩,
    ⟨(some (44, false)), .p (some 55) (.move (.t 54)), [24, 22, 14], 0⟩,
    ⟨(some (55, true)), .p (some 56) (.load true 2 (.t 7)), [25], 0⟩,
    ⟨(some (55, true)), .p (some 57) (.load true 2 (.t 9)), [25], 0⟩,
    ⟨(some (55, true)), .call (some 58) 12 [(.t 56), (.t 57)], [26, 27, 25, 25], 0⟩,
    ⟨(some (55, true)), .p (some 59) (.bin .gtr .int [] (.t 58) (.c (.int .i64 0))), [28, 25], 0⟩,
    ⟨(some (44, false)), .p (some 60) (.pick (.t 55) (.t 59) (.c (.bool false))), [25, 29, 14], 0⟩,
    ⟨.none, .p (some 61) (.pick (.t 44) (.c (.bool true)) (.t 60)), [14, 30], 0⟩])
  (.cond (.t 61)
    (.seq (.ops [6] [.p (some 6) (.move (.c (.bool false)))])
    (.ret))
    (.skip)))
  (.seq (.ops [7, 8, 10, 11, 84, 91, 96, 100, 101, 102] [.p (some 63) (.load true 2 (.t 7)),
    .p (some 64) (.load true 2 (.t 8)),
    .call (some 65) 8 [(.t 63), (.t 64)],
    .p (some 62) (.move (.t 65)),
    .p (some 66) (.extract (.t 62) 0),
    .p (some 67) (.extract (.t 62) 1),
    .e (some 10) (.alloc [(.d (.int .i64 0)), (.d (.int .i64 0))]),
    .e .none (.store 2 (.t 10) (.t 66)),
    .p (some 11) (.move (.t 67))])
  (.seq (.seq (.ops [7, 8, 10, 69, 84, 91, 96, 100, 101, 102] [.p (some 68) (.move (.t 11)),
    .p (some 69) (.bin .neq .iface [] (.t 68) (.c .nili))])
  (.cond (.t 69)
    (.seq (.ops [6] [.p (some 6) (.move (.c (.bool true)))])
    (.ret))
    (.skip)))
  (.seq (.seq (.ops [7, 8, 10, 73, 84, 91, 96, 100, 101, 102] [.p (some 70) (.load true 2 (.t 7)),
    .p (some 71) (.load true 2 (.t 8)),
    .call (some 72) 12 [(.t 70), (.t 71)],
    .p (some 73) (.bin .gtr .int [] (.t 72) (.c (.int .i64 0)))])
  (.cond (.t 73)
    (.ops [7, 8, 10, 84, 91, 96, 100, 101, 102] [.p (some 74) (.load true 2 (.t 8)),
      .p (some 75) (.load true 2 (.t 7)),
      .e .none (.store 2 (.t 7) (.t 74)),
      .e .none (.store 2 (.t 8) (.t 75))])
    (.skip)))
  (.seq (.ops [6] [.p (some 76) (.load true 2 (.t 7)),
    .p (some 77) (.load true 2 (.t 10)),
    .call (some 78) 12 [(.t 76), (.t 77)],
    .p (some 79) (.bin .leq .int [] (.t 78) (.c (.int .i64 0))),
    .p (some 80) (.move (.t 79)),
    .when 80 true [.p (some 81) (.load true 2 (.t 10)),
      .p (some 82) (.load true 2 (.t 8)),
      .call (some 83) 12 [(.t 81), (.t 82)],
      .p (some 84) (.bin .leq .int [] (.t 83) (.c (.int .i64 0)))],
    .p (some 85) (.pick (.t 80) (.t 84) (.c (.bool false))),
    .p (some 86) (.move (.t 85)),
    .when 86 true [.p (some 87) (.load true 2 (.t 7)),
      .p (some 88) (.load true 2 (.t 8)),
      .call (some 89) 12 [(.t 87), (.t 88)],
      .p (some 90) (.bin .eql .int [] (.t 89) (.c (.int .i64 0))),
      .p (some 91) (.move (.t 90))],
    .when 91 false [.p (some 92) (.load true 2 (.t 7)),
      .p (some 93) (.load true 2 (.t 10)),
      .call (some 94) 12 [(.t 92), (.t 93)],
      .p (some 95) (.bin .lss .int [] (.t 94) (.c (.int .i64 0))),
      .p (some 96) (.move (.t 95))],
    .when 96 true [.p (some 97) (.load true 2 (.t 10)),
      .p (some 98) (.load true 2 (.t 8)),
      .call (some 99) 12 [(.t 97), (.t 98)],
      .p (some 100) (.bin .lss .int [] (.t 99) (.c (.int .i64 0)))],
    .when 91 false [.p (some 101) (.pick (.t 96) (.t 100) (.c (.bool false)))],
    .when 86 true [.p (some 102) (.pick (.t 91) (.c (.bool true)) (.t 101))],
    .p (some 103) (.pick (.t 86) (.t 102) (.c (.bool false))),
    .p (some 6) (.move (.t 103))])
  (.ret)))))))))⟩

/-! 6: gossamer/gossamerlaw09.AmountTotals -/
def c6 : FnC := ⟨3, 88, [.tmp 6],
  .seq (.ops [0, 1, 2, 45, 51, 58, 66, 71, 77, 86] [.p (some 6) (.move (.c (.bool false)))])
  (.seq (.seq (.ops [0, 1, 2, 15, 45, 51, 58, 66, 71, 77, 86] [.call (some 14) 7 [],
    .p (some 15) (.una .not (.t 14))])
  (.cond (.t 15)
    (.seq (.ops [6] [.p (some 6) (.move (.c (.bool false)))])
    (.ret))
    (.skip)))
  (.seq (.seq (.ops [0, 1, 2, 18, 45, 51, 58, 66, 71, 77, 86] [.p (some 16) (.move (.t 0)),
    .p (some 17) (.len .slice (.t 16)),
    .p (some 18) (.bin .gtr .int [] (.t 17) (.c (.int .i64 50)))])
  (.cond (.t 18)
    (.seq (.ops [6] [.p (some 6) (.move (.c (.bool true)))])
    (.ret))
    (.skip)))
  (.seq (.ops [0, 1, 2, 7, 45, 51, 58, 66, 71, 77, 86] [.p (some 19) (.bslice 3 0 1 [(.int .i64 0)] []),
    .p (some 20) (.move (.t 0)),
    .e (some 21) (.append 3 1 8 (.t 19) (.t 20)),
    .p (some 7) (.move (.t 21))])
  (.seq (.ops [0, 1, 2, 7, 8, 9, 45, 51, 58, 66, 71, 77, 86] [.p (some 23) (.move (.t 7)),
    .call (some 24) 19 [(.t 23)],
    .p (some 22) (.move (.t 24)),
    .p (some 25) (.extract (.t 22) 0),
    .p (some 26) (.extract (.t 22) 1),
    .p (some 8) (.move (.t 25)),
    .p (some 9) (.move (.t 26))])
  (.seq (.ops [0, 1, 2, 7, 8, 9, 10, 11, 45, 51, 58, 66, 71, 77, 86] [.p (some 28) (.move (.t 0)),
    .call (some 29) 20 [(.t 28)],
    .p (some 27) (.move (.t 29)),
    .p (some 30) (.extract (.t 27) 0),
    .p (some 31) (.extract (.t 27) 1),
    .p (some 10) (.move (.t 30)),
    .p (some 11) (.move (.t 31))])
  (.seq (.ops [0, 1, 2, 7, 8, 9, 10, 11, 12, 13, 45, 51, 58, 66, 71, 77, 86] [.p (some 33) (.move (.t 1)),
    .p (some 34) (.move (.t 2)),
    .call (some 35) 21 [(.t 33), (.t 34)],
    .p (some 32) (.move (.t 35)),
    .p (some 36) (.extract (.t 32) 0),
    .p (some 37) (.extract (.t 32) 1),
    .p (some 12) (.move (.t 36)),
    .p (some 13) (.move (.t 37))])
  (.seq (.seq (.ops [1, 2, 12, 13, 59, 66, 71, 77, 86] [.p (some 38) (.move (.t 8)),
    .p (some 39) (.move (.t 10)),
    .p (some 40) (.bin .neq .int [] (.t 38) (.t 39)),
    .p (some 41) (.move (.t 40)),
    .when 41 false [.p (some 42) (.move (.t 9)),
      .call (some 43) 14 [(.t 42)],
      .p (some 44) (.move (.t 11)),
      .p (some 45) (.bin .neq .int [] (.t 43) (.t 44))],
    .p (some 46) (.pick (.t 41) (.c (.bool true)) (.t 45)),
    .p (some 47) (.move (.t 46)),
    .when 47 false [.p (some 48) (.move (.t 7)),
      .p (some 49) (.move (.t 0)),
      .call (some 50) 22 [(.t 48), (.t 49)],
      .p (some 51) (.una .not (.t 50))],
    .p (some 52) (.pick (.t 47) (.c (.bool true)) (.t 51)),
    .p (some 53) (.move (.t 52)),
    .when 53 false [.p (some 54) (.move (.t 1)),
      .call (some 55) 23 [(.t 54)],
      .p (some 56) (.move (.t 1)),
      .call (some 57) 24 [(.t 56)],
      .p (some 58) (.bin .neq .bool [] (.t 55) (.t 57))],
    .p (some 59) (.pick (.t 53) (.c (.bool true)) (.t 58))])
  (.cond (.t 59)
    (.seq (.ops [6] [.p (some 6) (.move (.c (.bool false)))])
    (.ret))
    (.skip)))
  (.seq (.seq (.ops [1, 2, 12, 13, 72, 77, 86] [.p (some 60) (.move (.t 1)),
    .call (some 61) 24 [(.t 60)],
    .p (some 62) (.una .not (.t 61)),
    .p (some 63) (.move (.t 62)),
    .when 63 false [.p (some 64) (.move (.t 2)),
      .call (some 65) 24 [(.t 64)],
      .p (some 66) (.una .not (.t 65))],
    .p (some 67) (.pick (.t 63) (.c (.bool true)) (.t 66)),
    .p (some 68) (.move (.t 67)),
    .when 68 false [.p (some 69) (.move (.t 2)),
      .p (some 70) (.move (.t 1)),
      .p (some 71) (.bin .gtr .int [] (.t 69) (.t 70))],
    .p (some 72) (.pick (.t 68) (.c (.bool true)) (.t 71))])
  (.cond (.t 72)
    (.seq (.ops [6] [.p (some 73) (.move (.t 13)),
      .call (some 74) 25 [(.t 73), (.c (.int .i64 9))],
      .p (some 75) (.move (.t 74)),
      .when 75 true [.p (some 76) (.move (.t 12)),
        .p (some 77) (.bin .eql .int [] (.t 76) (.c (.int .i64 0)))],
      .p (some 78) (.pick (.t 75) (.t 77) (.c (.bool false))),
      .p (some 6) (.move (.t 78))])
    (.ret))
    (.skip)))
  (.seq (.ops [6] [.p (some 79) (.move (.t 13)),
    .p (some 80) (.bin .eql .iface [] (.t 79) (.c .nili)),
    .p (some 81) (.move (.t 80)),
    .when 81 true [.p (some 82) (.move (.t 12)),
      .p (some 83) (.move (.t 1)),
      .p (some 84) (.move (.t 2)),
      .p (some 85) (.bin .sub .int [] (.t 83) (.t 84)),
      .p (some 86) (.bin .eql .int [] (.t 82) (.t 85))],
    .p (some 87) (.pick (.t 81) (.t 86) (.c (.bool false))),
    .p (some 6) (.move (.t 87))])
  (.ret))))))))))⟩

/-! 19: gossamer/amount.Total -/
def c19_l0 : C :=
  .seq (.ops [4, 7, 8, 9, 10, 21] [.p (some 10) (.bin .lss .int [] (.t 9) (.t 8))])
  (.seq (.cond (.t 10)
    (.skip)
    (.exit 0))
  (.seq (.block 1 (.seq (.ops [4, 6, 7, 8, 9, 21] [.p (some 11) (.iaddr 1 (.t 7) (.t 9)),
    .p (some 12) (.load false 1 (.t 11)),
    .p (some 6) (.move (.t 12))])
  (.seq (.seq (.ops [4, 6, 7, 8, 9, 21, 22] [.p (some 13) (.move (.t 6)),
    .call (some 14) 23 [(.t 13)],
    .p (some 15) (.una .not (.t 14)),
    .p (some 16) (.move (.t 15)),
    .when 16 false [.p (some 17) (.move (.t 4)),
      .p (some 18) (.move (.t 6)),
      .p (some 19) (.bin .add .int [] (.t 17) (.t 18)),
      .call (some 20) 23 [(.t 19)],
      .p (some 21) (.una .not (.t 20))],
    .p (some 22) (.pick (.t 16) (.c (.bool true)) (.t 21))])
  (.cond (.t 22)
    (.seq (.ops [2, 3] [.p (some 23) (.mkif 50 (.c (.int .i64 9))),
      .p (some 2) (.move (.c (.int .i64 0))),
      .p (some 3) (.move (.t 23))])
    (.ret))
    (.skip)))
  (.ops [4, 7, 8, 9, 21] [.p (some 24) (.move (.t 4)),
    .p (some 25) (.move (.t 6)),
    .p (some 26) (.bin .add .int [] (.t 24) (.t 25)),
    .p (some 4) (.move (.t 26))]))))
  (.ops [4, 7, 8, 9, 21] [.p (some 27) (.bin .add .int [] (.t 9) (.c (.int .i64 1))),
    .p (some 9) (.move (.t 27))])))
def c19 : FnC := ⟨1, 29, [.tmp 2, .tmp 3],
  .seq (.ops [0, 21] [.p (some 2) (.move (.c (.int .i64 0))),
    .p (some 3) (.move (.c .nili))])
  (.seq (.ops [0, 4, 21] [.p (some 4) (.move (.c (.int .i64 0)))])
  (.seq (.seq (.ops [4, 7, 8, 9, 21] [.p (some 7) (.move (.t 0)),
    .p (some 8) (.len .slice (.t 7)),
    .p (some 9) (.move (.c (.int .i64 0)))])
  (.block 0 (.loop [4, 7, 8, 9, 21] c19_l0)))
  (.seq (.ops [2, 3] [.p (some 28) (.move (.t 4)),
    .p (some 2) (.move (.t 28)),
    .p (some 3) (.move (.c .nili))])
  (.ret))))⟩

/-! 20: gossamer/gossamerref09.Total -/
def c20_l0 : C :=
  .seq (.seq (.ops [0, 4, 5, 9] [.p (some 6) (.move (.t 5)),
    .p (some 7) (.move (.t 0)),
    .p (some 8) (.len .slice (.t 7)),
    .p (some 9) (.bin .lss .int [] (.t 6) (.t 8))])
  (.cond (.t 9)
    (.skip)
    (.exit 0)))
  (.seq (.block 1 (.seq (.seq (.ops [0, 4, 5, 17] [.p (some 12) (.move (.t 0)),
    .p (some 13) (.move (.t 5)),
    .p (some 14) (.iaddr 1 (.t 12) (.t 13)),
    .p (some 15) (.load false 1 (.t 14)),
    .call (some 16) 24 [(.t 15)],
    .p (some 17) (.una .not (.t 16))])
  (.cond (.t 17)
    (.seq (.ops [2, 3] [.p (some 2) (.move (.c (.int .i64 0))),
      .p (some 3) (.move (.c (.int .i64 9)))])
    (.ret))
    (.skip)))
  (.seq (.ops [0, 4, 5] [.p (some 18) (.move (.t 4)),
    .p (some 19) (.move (.t 0)),
    .p (some 20) (.move (.t 5)),
    .p (some 21) (.iaddr 1 (.t 19) (.t 20)),
    .p (some 22) (.load false 1 (.t 21)),
    .p (some 23) (.bin .add .int [] (.t 18) (.t 22)),
    .p (some 4) (.move (.t 23))])
  (.seq (.ops [0, 4, 5, 26] [.p (some 24) (.move (.t 4)),
    .call (some 25) 24 [(.t 24)],
    .p (some 26) (.una .not (.t 25))])
  (.cond (.t 26)
    (.seq (.ops [2, 3] [.p (some 2) (.move (.c (.int .i64 0))),
      .p (some 3) (.move (.c (.int .i64 9)))])
    (.ret))
    (.skip))))))
  (.ops [0, 4, 5] [.p (some 10) (.move (.t 5)),
    .p (some 11) (.bin .add .int [] (.t 10) (.c (.int .i64 1))),
    .p (some 5) (.move (.t 11))]))
def c20 : FnC := ⟨1, 28, [.tmp 2, .tmp 3],
  .seq (.ops [0] [.p (some 2) (.move (.c (.int .i64 0))),
    .p (some 3) (.move (.c (.int .i64 0)))])
  (.seq (.ops [0, 4] [.p (some 4) (.move (.c (.int .i64 0)))])
  (.seq (.seq (.ops [0, 4, 5] [.p (some 5) (.move (.c (.int .i64 0)))])
  (.block 0 (.loop [0, 4, 5] c20_l0)))
  (.seq (.ops [2, 3] [.p (some 27) (.move (.t 4)),
    .p (some 2) (.move (.t 27)),
    .p (some 3) (.move (.c (.int .i64 0)))])
  (.ret))))⟩

/-! 21: gossamer/amount.Fee -/
def c21 : FnC := ⟨2, 23, [.tmp 4, .tmp 5],
  .seq (.ops [0, 1, 12, 17] [.p (some 4) (.move (.c (.int .i64 0))),
    .p (some 5) (.move (.c .nili))])
  (.seq (.seq (.ops [0, 1, 18] [.p (some 6) (.move (.t 0)),
    .call (some 7) 23 [(.t 6)],
    .p (some 8) (.una .not (.t 7)),
    .p (some 9) (.move (.t 8)),
    .when 9 false [.p (some 10) (.move (.t 1)),
      .call (some 11) 23 [(.t 10)],
      .p (some 12) (.una .not (.t 11))],
    .p (some 13) (.pick (.t 9) (.c (.bool true)) (.t 12)),
    .p (some 14) (.move (.t 13)),
    .when 14 false [.p (some 15) (.move (.t 1)),
      .p (some 16) (.move (.t 0)),
      .p (some 17) (.bin .gtr .int [] (.t 15) (.t 16))],
    .p (some 18) (.pick (.t 14) (.c (.bool true)) (.t 17))])
  (.cond (.t 18)
    (.seq (.ops [4, 5] [.p (some 19) (.mkif 50 (.c (.int .i64 9))),
      .p (some 4) (.move (.c (.int .i64 0))),
      .p (some 5) (.move (.t 19))])
    (.ret))
    (.skip)))
  (.seq (.ops [4, 5] [.p (some 20) (.move (.t 0)),
    .p (some 21) (.move (.t 1)),
    .p (some 22) (.bin .sub .int [] (.t 20) (.t 21)),
    .p (some 4) (.move (.t 22)),
    .p (some 5) (.move (.c .nili))])
  (.ret)))⟩

/-! 22: gossamer/gossamernum.Ints -/
def c22_l0 : C :=
  .seq (.ops [0, 1, 12, 13, 14] [.p (some 14) (.bin .lss .int [] (.t 13) (.t 12))])
  (.seq (.cond (.t 14)
    (.skip)
    (.exit 0))
  (.seq (.block 1 (.seq (.ops [0, 1, 5, 12, 13] [.p (some 15) (.move (.t 13)),
    .p (some 5) (.move (.t 15))])
  (.seq (.drw [0, 1, 12, 13, 24] 0 [⟨.none, .p (some 16) (.move (.t 0)), [], 0⟩,
    ⟨.none, .p (some 17) (.move (.t 5)), [], 0⟩,
    ⟨.none, .p (some 18) (.iaddr 1 (.t 16) (.t 17)), [0, 1], 0⟩,
    ⟨.none, .p (some 19) (.load false 1 (.t 18)), [2], 0⟩,
    ⟨.none, .p (some 20) (.move (.t 1)), [], 0⟩,
    ⟨.none, .p (some 21) (.move (.t 5)), [], 0⟩,
    ⟨.none, .p (some 22) (.iaddr 1 (.t 20) (.t 21)), [4, 5], 0⟩,
    ⟨.none, .p (some 23) (.load false 1 (.t 22)), [6], 0⟩,
    ⟨.none, .p (some 24) (.bin .neq .int [] (.t 19) (.t 23)), [3, 7], 0⟩])
  (.cond (.t 24)
    (.seq (.ops [4] [.p (some 4) (.move (.c (.bool false)))])
    (.ret))
    (.skip)))))
  (.ops [0, 1, 12, 13] [.p (some 25) (.bin .add .int [] (.t 13) (.c (.int .i64 1))),
    .p (some 13) (.move (.t 25))])))
def c22 : FnC := ⟨2, 26, [.tmp 4],
  .seq (.ops [0, 1] [.p (some 4) (.move (.c (.bool false)))])
  (.seq (.seq (.ops [0, 1, 10] [.p (some 6) (.move (.t 0)),
    .p (some 7) (.len .slice (.t 6)),
    .p (some 8) (.move (.t 1)),
    .p (some 9) (.len .slice (.t 8)),
    .p (some 10) (.bin .neq .int [] (.t 7) (.t 9))])
  (.cond (.t 10)
    (.seq (.ops [4] [.p (some 4) (.move (.c (.bool false)))])
    (.ret))
    (.skip)))
  (.seq (.seq (.ops [0, 1, 12, 13] [.p (some 11) (.move (.t 0)),
    .p (some 12) (.len .slice (.t 11)),
    .p (some 13) (.move (.c (.int .i64 0)))])
  (.block 0 (.loop [0, 1, 12, 13] c22_l0)))
  (.seq (.ops [4] [.p (some 4) (.move (.c (.bool true)))])
  (.ret))))⟩

/-! 25: gossamer/gossamernum.Is -/
def c25 : FnC := ⟨2, 9, [.tmp 4],
  .seq (.ops [0, 1] [.p (some 4) (.move (.c (.bool false)))])
  (.seq (.ops [4] [.p (some 5) (.move (.t 0)),
    .call (some 6) 14 [(.t 5)],
    .p (some 7) (.move (.t 1)),
    .p (some 8) (.bin .eql .int [] (.t 6) (.t 7)),
    .p (some 4) (.move (.t 8))])
  (.ret))⟩


theorem comp3 : ∃ fn code, Try.prog.funcs[3]? = some fn ∧ fn.body = some code ∧ (fn.name == "runtime.NumGoroutine") = false ∧ comp Try.prog fn.ntmps code = some (erase c3.body) ∧ compRes Try.prog fn.results.toList = some c3.res ∧ c3.nparams ≤ fn.ntmps := ⟨_, _, Try.func3, rfl, by kernel_rfl, by kernel_rfl, by kernel_rfl, by decide⟩
theorem comp7 : ∃ fn code, Try.prog.funcs[7]? = some fn ∧ fn.body = some code ∧ (fn.name == "runtime.NumGoroutine") = false ∧ comp Try.prog fn.ntmps code = some (erase c7.body) ∧ compRes Try.prog fn.results.toList = some c7.res ∧ c7.nparams ≤ fn.ntmps := ⟨_, _, Try.func7, rfl, by kernel_rfl, by kernel_rfl, by kernel_rfl, by decide⟩
theorem comp12 : ∃ fn code, Try.prog.funcs[12]? = some fn ∧ fn.body = some code ∧ (fn.name == "runtime.NumGoroutine") = false ∧ comp Try.prog fn.ntmps code = some (erase c12.body) ∧ compRes Try.prog fn.results.toList = some c12.res ∧ c12.nparams ≤ fn.ntmps := ⟨_, _, Try.func12, rfl, by kernel_rfl, by kernel_rfl, by kernel_rfl, by decide⟩
theorem comp10 : ∃ fn code, Try.prog.funcs[10]? = some fn ∧ fn.body = some code ∧ (fn.name == "runtime.NumGoroutine") = false ∧ comp Try.prog fn.ntmps code = some (erase c10.body) ∧ compRes Try.prog fn.results.toList = some c10.res ∧ c10.nparams ≤ fn.ntmps := ⟨_, _, Try.func10, rfl, by kernel_rfl, by kernel_rfl, by kernel_rfl, by decide⟩
theorem comp23 : ∃ fn code, Try.prog.funcs[23]? = some fn ∧ fn.body = some code ∧ (fn.name == "runtime.NumGoroutine") = false ∧ comp Try.prog fn.ntmps code = some (erase c23.body) ∧ compRes Try.prog fn.results.toList = some c23.res ∧ c23.nparams ≤ fn.ntmps := ⟨_, _, Try.func23, rfl, by kernel_rfl, by kernel_rfl, by kernel_rfl, by decide⟩
theorem comp26 : ∃ fn code, Try.prog.funcs[26]? = some fn ∧ fn.body = some code ∧ (fn.name == "runtime.NumGoroutine") = false ∧ comp Try.prog fn.ntmps code = some (erase c26.body) ∧ compRes Try.prog fn.results.toList = some c26.res ∧ c26.nparams ≤ fn.ntmps := ⟨_, _, Try.func26, rfl, by kernel_rfl, by kernel_rfl, by kernel_rfl, by decide⟩
theorem comp29 : ∃ fn code, Try.prog.funcs[29]? = some fn ∧ fn.body = some code ∧ (fn.name == "runtime.NumGoroutine") = false ∧ comp Try.prog fn.ntmps code = some (erase c29.body) ∧ compRes Try.prog fn.results.toList = some c29.res ∧ c29.nparams ≤ fn.ntmps := ⟨_, _, Try.func29, rfl, by kernel_rfl, by kernel_rfl, by kernel_rfl, by decide⟩
theorem comp28 : ∃ fn code, Try.prog.funcs[28]? = some fn ∧ fn.body = some code ∧ (fn.name == "runtime.NumGoroutine") = false ∧ comp Try.prog fn.ntmps code = some (erase c28.body) ∧ compRes Try.prog fn.results.toList = some c28.res ∧ c28.nparams ≤ fn.ntmps := ⟨_, _, Try.func28, rfl, by kernel_rfl, by kernel_rfl, by kernel_rfl, by decide⟩
theorem comp30 : ∃ fn code, Try.prog.funcs[30]? = some fn ∧ fn.body = some code ∧ (fn.name == "runtime.NumGoroutine") = false ∧ comp Try.prog fn.ntmps code = some (erase c30.body) ∧ compRes Try.prog fn.results.toList = some c30.res ∧ c30.nparams ≤ fn.ntmps := ⟨_, _, Try.func30, rfl, by kernel_rfl, by kernel_rfl, by kernel_rfl, by decide⟩
theorem comp27 : ∃ fn code, Try.prog.funcs[27]? = some fn ∧ fn.body = some code ∧ (fn.name == "runtime.NumGoroutine") = false ∧ comp Try.prog fn.ntmps code = some (erase c27.body) ∧ compRes Try.prog fn.results.toList = some c27.res ∧ c27.nparams ≤ fn.ntmps := ⟨_, _, Try.func27, rfl, by kernel_rfl, by kernel_rfl, by kernel_rfl, by decide⟩
theorem comp8 : ∃ fn code, Try.prog.funcs[8]? = some fn ∧ fn.body = some code ∧ (fn.name == "runtime.NumGoroutine") = false ∧ comp Try.prog fn.ntmps code = some (erase c8.body) ∧ compRes Try.prog fn.results.toList = some c8.res ∧ c8.nparams ≤ fn.ntmps := ⟨_, _, Try.func8, rfl, by kernel_rfl, by kernel_rfl, by kernel_rfl, by decide⟩
theorem comp9 : ∃ fn code, Try.prog.funcs[9]? = some fn ∧ fn.body = some code ∧ (fn.name == "runtime.NumGoroutine") = false ∧ comp Try.prog fn.ntmps code = some (erase c9.body) ∧ compRes Try.prog fn.results.toList = some c9.res ∧ c9.nparams ≤ fn.ntmps := ⟨_, _, Try.func9, rfl, by kernel_rfl, by kernel_rfl, by kernel_rfl, by decide⟩
theorem comp11 : ∃ fn code, Try.prog.funcs[11]? = some fn ∧ fn.body = some code ∧ (fn.name == "runtime.NumGoroutine") = false ∧ comp Try.prog fn.ntmps code = some (erase c11.body) ∧ compRes Try.prog fn.results.toList = some c11.res ∧ c11.nparams ≤ fn.ntmps := ⟨_, _, Try.func11, rfl, by kernel_rfl, by kernel_rfl, by kernel_rfl, by decide⟩
theorem comp24 : ∃ fn code, Try.prog.funcs[24]? = some fn ∧ fn.body = some code ∧ (fn.name == "runtime.NumGoroutine") = false ∧ comp Try.prog fn.ntmps code = some (erase c24.body) ∧ compRes Try.prog fn.results.toList = some c24.res ∧ c24.nparams ≤ fn.ntmps := ⟨_, _, Try.func24, rfl, by kernel_rfl, by kernel_rfl, by kernel_rfl, by decide⟩
theorem comp13 : ∃ fn code, Try.prog.funcs[13]? = some fn ∧ fn.body = some code ∧ (fn.name == "runtime.NumGoroutine") = false ∧ comp Try.prog fn.ntmps code = some (erase c13.body) ∧ compRes Try.prog fn.results.toList = some c13.res ∧ c13.nparams ≤ fn.ntmps := ⟨_, _, Try.func13, rfl, by kernel_rfl, by kernel_rfl, by kernel_rfl, by decide⟩
theorem comp14 : ∃ fn code, Try.prog.funcs[14]? = some fn ∧ fn.body = some code ∧ (fn.name == "runtime.NumGoroutine") = false ∧ comp Try.prog fn.ntmps code = some (erase c14.body) ∧ compRes Try.prog fn.results.toList = some c14.res ∧ c14.nparams ≤ fn.ntmps := ⟨_, _, Try.func14, rfl, by kernel_rfl, by kernel_rfl, by kernel_rfl, by decide⟩
theorem comp4 : ∃ fn code, Try.prog.funcs[4]? = some fn ∧ fn.body = some code ∧ (fn.name == "runtime.NumGoroutine") = false ∧ comp Try.prog fn.ntmps code = some (erase c4.body) ∧ compRes Try.prog fn.results.toList = some c4.res ∧ c4.nparams ≤ fn.ntmps := ⟨_, _, Try.func4, rfl, by kernel_rfl, by kernel_rfl, by kernel_rfl, by decide⟩
theorem comp15 : ∃ fn code, Try.prog.funcs[15]? = some fn ∧ fn.body = some code ∧ (fn.name == "runtime.NumGoroutine") = false ∧ comp Try.prog fn.ntmps code = some (erase c15.body) ∧ compRes Try.prog fn.results.toList = some c15.res ∧ c15.nparams ≤ fn.ntmps := ⟨_, _, Try.func15, rfl, by kernel_rfl, by kernel_rfl, by kernel_rfl, by decide⟩
theorem comp16 : ∃ fn code, Try.prog.funcs[16]? = some fn ∧ fn.body = some code ∧ (fn.name == "runtime.NumGoroutine") = false ∧ comp Try.prog fn.ntmps code = some (erase c16.body) ∧ compRes Try.prog fn.results.toList = some c16.res ∧ c16.nparams ≤ fn.ntmps := ⟨_, _, Try.func16, rfl, by kernel_rfl, by kernel_rfl, by kernel_rfl, by decide⟩
theorem comp17 : ∃ fn code, Try.prog.funcs[17]? = some fn ∧ fn.body = some code ∧ (fn.name == "runtime.NumGoroutine") = false ∧ comp Try.prog fn.ntmps code = some (erase c17.body) ∧ compRes Try.prog fn.results.toList = some c17.res ∧ c17.nparams ≤ fn.ntmps := ⟨_, _, Try.func17, rfl, by kernel_rfl, by kernel_rfl, by kernel_rfl, by decide⟩
theorem comp18 : ∃ fn code, Try.prog.funcs[18]? = some fn ∧ fn.body = some code ∧ (fn.name == "runtime.NumGoroutine") = false ∧ comp Try.prog fn.ntmps code = some (erase c18.body) ∧ compRes Try.prog fn.results.toList = some c18.res ∧ c18.nparams ≤ fn.ntmps := ⟨_, _, Try.func18, rfl, by kernel_rfl, by kernel_rfl, by kernel_rfl, by decide⟩
theorem comp5 : ∃ fn code, Try.prog.funcs[5]? = some fn ∧ fn.body = some code ∧ (fn.name == "runtime.NumGoroutine") = false ∧ comp Try.prog fn.ntmps code = some (erase c5.body) ∧ compRes Try.prog fn.results.toList = some c5.res ∧ c5.nparams ≤ fn.ntmps := ⟨_, _, Try.func5, rfl, by kernel_rfl, by kernel_rfl, by kernel_rfl, by decide⟩
theorem comp6 : ∃ fn code, Try.prog.funcs[6]? = some fn ∧ fn.body = some code ∧ (fn.name == "runtime.NumGoroutine") = false ∧ comp Try.prog fn.ntmps code = some (erase c6.body) ∧ compRes Try.prog fn.results.toList = some c6.res ∧ c6.nparams ≤ fn.ntmps := ⟨_, _, Try.func6, rfl, by kernel_rfl, by kernel_rfl, by kernel_rfl, by decide⟩
theorem comp19 : ∃ fn code, Try.prog.funcs[19]? = some fn ∧ fn.body = some code ∧ (fn.name == "runtime.NumGoroutine") = false ∧ comp Try.prog fn.ntmps code = some (erase c19.body) ∧ compRes Try.prog fn.results.toList = some c19.res ∧ c19.nparams ≤ fn.ntmps := ⟨_, _, Try.func19, rfl, by kernel_rfl, by kernel_rfl, by kernel_rfl, by decide⟩
theorem comp20 : ∃ fn code, Try.prog.funcs[20]? = some fn ∧ fn.body = some code ∧ (fn.name == "runtime.NumGoroutine") = false ∧ comp Try.prog fn.ntmps code = some (erase c20.body) ∧ compRes Try.prog fn.results.toList = some c20.res ∧ c20.nparams ≤ fn.ntmps := ⟨_, _, Try.func20, rfl, by kernel_rfl, by kernel_rfl, by kernel_rfl, by decide⟩
theorem comp21 : ∃ fn code, Try.prog.funcs[21]? = some fn ∧ fn.body = some code ∧ (fn.name == "runtime.NumGoroutine") = false ∧ comp Try.prog fn.ntmps code = some (erase c21.body) ∧ compRes Try.prog fn.results.toList = some c21.res ∧ c21.nparams ≤ fn.ntmps := ⟨_, _, Try.func21, rfl, by kernel_rfl, by kernel_rfl, by kernel_rfl, by decide⟩
theorem comp22 : ∃ fn code, Try.prog.funcs[22]? = some fn ∧ fn.body = some code ∧ (fn.name == "runtime.NumGoroutine") = false ∧ comp Try.prog fn.ntmps code = some (erase c22.body) ∧ compRes Try.prog fn.results.toList = some c22.res ∧ c22.nparams ≤ fn.ntmps := ⟨_, _, Try.func22, rfl, by kernel_rfl, by kernel_rfl, by kernel_rfl, by decide⟩
theorem comp25 : ∃ fn code, Try.prog.funcs[25]? = some fn ∧ fn.body = some code ∧ (fn.name == "runtime.NumGoroutine") = false ∧ comp Try.prog fn.ntmps code = some (erase c25.body) ∧ compRes Try.prog fn.results.toList = some c25.res ∧ c25.nparams ≤ fn.ntmps := ⟨_, _, Try.func25, rfl, by kernel_rfl, by kernel_rfl, by kernel_rfl, by decide⟩
end Go.Proofs.Ytgpbkgfkmengaaa.T
