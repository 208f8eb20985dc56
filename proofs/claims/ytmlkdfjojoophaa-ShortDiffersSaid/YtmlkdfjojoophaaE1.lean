import Derived.Test.YtmlkdfjojoophaaFw40
import Derived.Test.YtmlkdfjojoophaaRows
namespace Go.Proofs.Ytmlkdfjojoophaa.T
open Go.Dn
def c8_k0 : C :=
 .seq (.ops [4] [.p (some 170) (.move (.t 6)),
  .p (some 171) (.bin .eql .iface [] (.t 170) (.c .nili)),
  .p (some 172) (.move (.t 171)),
  .when 172 true [.p (some 173) (.move (.t 13)),
   .p (some 174) (.len .slice (.t 173)),
   .p (some 175) (.faddr 1 (.t 3)),
   .p (some 176) (.load false 1 (.t 175)),
   .p (some 177) (.len .slice (.t 176)),
   .p (some 178) (.faddr 2 (.t 3)),
   .p (some 179) (.load false 1 (.t 178)),
   .p (some 180) (.len .slice (.t 179)),
   .p (some 181) (.bin .add .int [] (.t 177) (.t 180)),
   .p (some 182) (.bin .eql .int [] (.t 174) (.t 181))],
  .p (some 183) (.pick (.t 172) (.t 182) (.c (.bool false))),
  .p (some 184) (.move (.t 183)),
  .when 184 true [.p (some 185) (.move (.t 14)),
   .p (some 186) (.faddr 1 (.t 3)),
   .p (some 187) (.load false 1 (.t 186)),
   .call (some 188) 34 [(.t 185), (.t 187)]],
  .p (some 189) (.pick (.t 184) (.t 188) (.c (.bool false))),
  .p (some 190) (.move (.t 189)),
  .when 190 true [.p (some 191) (.move (.t 16)),
   .p (some 192) (.faddr 2 (.t 3)),
   .p (some 193) (.load false 1 (.t 192)),
   .call (some 194) 34 [(.t 191), (.t 193)]],
  .p (some 195) (.pick (.t 190) (.t 194) (.c (.bool false))),
  .p (some 196) (.move (.t 195)),
  .when 196 true [.p (some 197) (.move (.t 15)),
   .p (some 198) (.len .slice (.t 197)),
   .p (some 199) (.faddr 2 (.t 3)),
   .p (some 200) (.load false 1 (.t 199)),
   .p (some 201) (.len .slice (.t 200)),
   .p (some 202) (.bin .eql .int [] (.t 198) (.t 201))],
  .p (some 203) (.pick (.t 196) (.t 202) (.c (.bool false))),
  .p (some 204) (.move (.t 203)),
  .when 204 true [.p (some 205) (.move (.t 17)),
   .p (some 206) (.len .slice (.t 205)),
   .p (some 207) (.faddr 1 (.t 3)),
   .p (some 208) (.load false 1 (.t 207)),
   .p (some 209) (.len .slice (.t 208)),
   .p (some 210) (.bin .eql .int [] (.t 206) (.t 209))],
  .p (some 211) (.pick (.t 204) (.t 210) (.c (.bool false))),
  .p (some 4) (.move (.t 211))])
 (.ret)
def c8_k1 : C :=
 .seq (.ops [3, 6, 13, 14, 15, 16, 17] [.p (some 165) (.move (.t 8)),
  .p (some 166) (.move (.t 13)),
  .call (some 167) 33 [(.t 165), (.t 166)],
  .p (some 164) (.move (.t 167)),
  .p (some 168) (.extract (.t 164) 0),
  .p (some 169) (.extract (.t 164) 1),
  .p (some 16) (.move (.t 168)),
  .p (some 17) (.move (.t 169))])
 (c8_k0)
def c8_k2 : C :=
 .seq (.ops [3, 6, 8, 13, 14, 15] [.p (some 159) (.move (.t 7)),
  .p (some 160) (.move (.t 13)),
  .call (some 161) 33 [(.t 159), (.t 160)],
  .p (some 158) (.move (.t 161)),
  .p (some 162) (.extract (.t 158) 0),
  .p (some 163) (.extract (.t 158) 1),
  .p (some 14) (.move (.t 162)),
  .p (some 15) (.move (.t 163))])
 (c8_k1)
def c8_k3 : C :=
 .cond (.t 157)
  (.seq (.ops [4] [.p (some 4) (.move (.c (.bool true)))])
  (.ret))
  (.skip)
def c8_k4 : C :=
 .seq (.seq (.ops [3, 6, 7, 8, 13, 157] [.p (some 148) (.faddr 1 (.t 3)),
  .p (some 149) (.load false 1 (.t 148)),
  .p (some 150) (.len .slice (.t 149)),
  .p (some 151) (.faddr 2 (.t 3)),
  .p (some 152) (.load false 1 (.t 151)),
  .p (some 153) (.len .slice (.t 152)),
  .p (some 154) (.bin .add .int [] (.t 150) (.t 153)),
  .p (some 155) (.faddr 3 (.t 3)),
  .p (some 156) (.load false 1 (.t 155)),
  .p (some 157) (.bin .gtr .int [] (.t 154) (.t 156))])
 (c8_k3))
 (c8_k2)
def c8_k5 : C :=
 .seq (.ops [3, 6, 7, 8, 13] [.p (some 144) (.move (.t 12)),
  .call (some 145) 15 [(.t 144)],
  .p (some 143) (.move (.t 145)),
  .p (some 146) (.extract (.t 143) 0),
  .p (some 147) (.extract (.t 143) 1),
  .p (some 13) (.move (.t 146)),
  .p (some 6) (.move (.t 147))])
 (c8_k4)
def c8_k6 : C :=
 .cond (.t 142)
  (.seq (.ops [4] [.p (some 4) (.move (.c (.bool false)))])
  (.ret))
  (.skip)
def c8_k7 : C :=
 .seq (.seq (.ops [3, 7, 8, 12, 142] [.p (some 141) (.move (.t 6)),
  .p (some 142) (.bin .neq .iface [] (.t 141) (.c .nili))])
 (c8_k6))
 (c8_k5)
def c8_k8 : C :=
 .seq (.ops [3, 6, 7, 8, 12] [.p (some 136) (.move (.t 10)),
  .p (some 137) (.move (.t 11)),
  .call (some 138) 12 [(.t 136), (.t 137)],
  .p (some 135) (.move (.t 138)),
  .p (some 139) (.extract (.t 135) 0),
  .p (some 140) (.extract (.t 135) 1),
  .p (some 12) (.move (.t 139)),
  .p (some 6) (.move (.t 140))])
 (c8_k7)
def c8_k9 : C :=
 .cond (.t 134)
  (.seq (.ops [4] [.p (some 4) (.move (.c (.bool false)))])
  (.ret))
  (.skip)
def c8_k10 : C :=
 .seq (.seq (.ops [3, 7, 8, 10, 11, 134] [.p (some 129) (.move (.t 6)),
  .p (some 130) (.bin .neq .iface [] (.t 129) (.c .nili)),
  .p (some 131) (.move (.t 130)),
  .when 131 false [.p (some 132) (.move (.t 9)),
   .p (some 133) (.bin .neq .iface [] (.t 132) (.c .nili))],
  .p (some 134) (.pick (.t 131) (.c (.bool true)) (.t 133))])
 (c8_k9))
 (c8_k8)
def c8_k11 : C :=
 .seq (.ops [3, 6, 7, 8, 9, 10, 11] [.p (some 123) (.move (.t 8)),
  .p (some 124) (.faddr 3 (.t 3)),
  .p (some 125) (.load false 1 (.t 124)),
  .call (some 126) 32 [(.t 123), (.t 125)],
  .p (some 122) (.move (.t 126)),
  .p (some 127) (.extract (.t 122) 0),
  .p (some 128) (.extract (.t 122) 1),
  .p (some 11) (.move (.t 127)),
  .p (some 9) (.move (.t 128))])
 (c8_k10)
def c8_k12 : C :=
 .seq (.ops [3, 6, 7, 8, 10] [.p (some 116) (.move (.t 7)),
  .p (some 117) (.faddr 3 (.t 3)),
  .p (some 118) (.load false 1 (.t 117)),
  .call (some 119) 32 [(.t 116), (.t 118)],
  .p (some 115) (.move (.t 119)),
  .p (some 120) (.extract (.t 115) 0),
  .p (some 121) (.extract (.t 115) 1),
  .p (some 10) (.move (.t 120)),
  .p (some 6) (.move (.t 121))])
 (c8_k11)
def c8_k13 : C :=
 .cond (.t 114)
  (.seq (.ops [4] [.p (some 4) (.move (.c (.bool false)))])
  (.ret))
  (.skip)
def c8_k14 : C :=
 .seq (.seq (.drw [3, 7, 8, 114] 0 [⟨.none, .p (some 93) (.move (.t 6)), [], 0⟩,
  ⟨.none, .p (some 94) (.bin .neq .iface [] (.t 93) (.c .nili)), [0], 0⟩,
  ⟨.none, .p (some 95) (.move (.t 94)), [1], 0⟩,
  ⟨(some (95, false)), .p (some 96) (.move (.t 9)), [2], 0⟩,
  ⟨(some (95, false)), .p (some 97) (.bin .neq .iface [] (.t 96) (.c .nili)), [3, 2], 0⟩,
  ⟨.none, .p (some 98) (.pick (.t 95) (.c (.bool true)) (.t 97)), [2, 4], 0⟩,
  ⟨.none, .p (some 99) (.move (.t 98)), [5, 2], 0⟩,
  ⟨(some (99, false)), .p (some 100) (.move (.t 5)), [6], 0⟩,
  ⟨(some (99, false)), .call (some 101) 31 [(.t 100)], [7, 6, 6], 0⟩,
  ⟨(some (99, false)), .p (some 102) (.faddr 0 (.t 3)), [6], 0⟩,
  ⟨(some (99, false)), .p (some 103) (.load false 1 (.t 102)), [9, 6], 0⟩,
  ⟨(some (99, false)), .p (some 104) (.len .slice (.t 103)), [10, 6], 0⟩,
  ⟨(some (99, false)), .p (some 105) (.faddr 1 (.t 3)), [6], 0⟩,
  ⟨(some (99, false)), .p (some 106) (.load false 1 (.t 105)), [12, 6], 0⟩,
  ⟨(some (99, false)), .p (some 107) (.len .slice (.t 106)), [13, 6], 0⟩,
  ⟨(some (99, false)), .p (some 108) (.bin .add .int [] (.t 104) (.t 107)), [11, 14, 6], 0⟩,
  ⟨(some (99, false)), .p (some 109) (.faddr 2 (.t 3)), [6], 0⟩,
  ⟨(some (99, false)), .p (some 110) (.load false 1 (.t 109)), [16, 6], 0⟩,
  ⟨(some (99, false)), .p (some 111) (.len .slice (.t 110)), [17, 6], 0⟩,
  ⟨(some (99, false)), .p (some 112) (.bin .add .int [] (.t 108) (.t 111)), [15, 18, 6], 0⟩,
  ⟨(some (99, false)), .p (some 113) (.bin .neq .int [] (.t 101) (.t 112)), [8, 19, 6], 0⟩,
  ⟨.none, .p (some 114) (.pick (.t 99) (.c (.bool true)) (.t 113)), [6, 20], 0⟩])
 (c8_k13))
 (c8_k12)
def c8_k15 : C :=
 .seq (.drw [3, 5, 6, 7, 8, 9] 2 [⟨.none, .p (some 82) (.load true 2 (.t 2)), [], 0⟩,
  ⟨.none, .p (some 83) (.bslice 87 0 32 (List.replicate 32 (.int .u8 0)) []), [], 0⟩,
  ⟨.none, .p (some 84) (.faddr 0 (.t 3)), [], 0⟩,
  ⟨.none, .p (some 85) (.load false 1 (.t 84)), [2], 0⟩,
  ⟨.none, .e (some 86) (.append 87 32 32 (.t 83) (.t 85)), [1, 3], 0⟩,
  ⟨.none, .p (some 87) (.faddr 2 (.t 3)), [], 1⟩,
  ⟨.none, .p (some 88) (.load false 1 (.t 87)), [5], 1⟩,
  ⟨.none, .e (some 89) (.append 87 32 32 (.t 86) (.t 88)), [4, 6, 4], 1⟩,
  ⟨.none, .call (some 90) 30 [(.t 82), (.t 89)], [0, 7, 7], 2⟩,
  ⟨.none, .p (some 81) (.move (.t 90)), [8], 2⟩,
  ⟨.none, .p (some 91) (.extract (.t 81) 0), [9], 2⟩,
  ⟨.none, .p (some 92) (.extract (.t 81) 1), [9], 2⟩,
  ⟨.none, .p (some 8) (.move (.t 91)), [10, 8, 0, 1, 2, 3, 4, 5, 6, 7, 8, 9, 10], 2⟩,
  ⟨.none, .p (some 9) (.move (.t 92)), [11, 12, 0, 1, 2, 3, 4, 5, 6, 7, 8, 9, 10, 11, 12], 2⟩])
 (c8_k14)
def c8_k16 : C :=
 .seq (.drw [2, 3, 5, 6, 7] 2 [⟨.none, .p (some 70) (.load true 2 (.t 2)), [], 0⟩,
  ⟨.none, .p (some 71) (.bslice 87 0 32 (List.replicate 32 (.int .u8 0)) []), [], 0⟩,
  ⟨.none, .p (some 72) (.faddr 0 (.t 3)), [], 0⟩,
  ⟨.none, .p (some 73) (.load false 1 (.t 72)), [2], 0⟩,
  ⟨.none, .e (some 74) (.append 87 32 32 (.t 71) (.t 73)), [1, 3], 0⟩,
  ⟨.none, .p (some 75) (.faddr 1 (.t 3)), [], 1⟩,
  ⟨.none, .p (some 76) (.load false 1 (.t 75)), [5], 1⟩,
  ⟨.none, .e (some 77) (.append 87 32 32 (.t 74) (.t 76)), [4, 6, 4], 1⟩,
  ⟨.none, .call (some 78) 30 [(.t 70), (.t 77)], [0, 7, 7], 2⟩,
  ⟨.none, .p (some 69) (.move (.t 78)), [8], 2⟩,
  ⟨.none, .p (some 79) (.extract (.t 69) 0), [9], 2⟩,
  ⟨.none, .p (some 80) (.extract (.t 69) 1), [9], 2⟩,
  ⟨.none, .p (some 7) (.move (.t 79)), [10, 8, 0, 1, 2, 3, 4, 5, 6, 7, 8, 9, 10], 2⟩,
  ⟨.none, .p (some 6) (.move (.t 80)), [11, 12, 0, 1, 2, 3, 4, 5, 6, 7, 8, 9, 10, 11, 12], 2⟩])
 (c8_k15)
def c8_k17 : C :=
 .cond (.t 62)
  (.seq (.ops [4] [.p (some 63) (.move (.t 6)),
   .call (some 64) 17 [(.t 63), (.c (.int .i64 6))],
   .p (some 65) (.move (.t 64)),
   .when 65 false [.p (some 66) (.move (.t 6)),
    .call (some 67) 17 [(.t 66), (.c (.int .i64 5))]],
   .p (some 68) (.pick (.t 65) (.c (.bool true)) (.t 67)),
   .p (some 4) (.move (.t 68))])
  (.ret))
  (.skip)
def c8_k18 : C :=
 .seq (.seq (.ops [2, 3, 5, 6, 62] [.p (some 61) (.move (.t 6)),
  .p (some 62) (.bin .neq .iface [] (.t 61) (.c .nili))])
 (c8_k17))
 (c8_k16)
def c8_k19 : C :=
 .seq (.drw [2, 3, 5, 6] 3 [⟨.none, .p (some 47) (.load true 2 (.t 2)), [], 0⟩,
  ⟨.none, .p (some 48) (.bslice 87 0 32 (List.replicate 32 (.int .u8 0)) []), [], 0⟩,
  ⟨.none, .p (some 49) (.faddr 0 (.t 3)), [], 0⟩,
  ⟨.none, .p (some 50) (.load false 1 (.t 49)), [2], 0⟩,
  ⟨.none, .e (some 51) (.append 87 32 32 (.t 48) (.t 50)), [1, 3], 0⟩,
  ⟨.none, .p (some 52) (.faddr 1 (.t 3)), [], 1⟩,
  ⟨.none, .p (some 53) (.load false 1 (.t 52)), [5], 1⟩,
  ⟨.none, .e (some 54) (.append 87 32 32 (.t 51) (.t 53)), [4, 6, 4], 1⟩,
  ⟨.none, .p (some 55) (.faddr 2 (.t 3)), [], 2⟩,
  ⟨.none, .p (some 56) (.load false 1 (.t 55)), [8], 2⟩,
  ⟨.none, .e (some 57) (.append 87 32 32 (.t 54) (.t 56)), [7, 9, 7], 2⟩,
  ⟨.none, .call (some 58) 30 [(.t 47), (.t 57)], [0, 10, 10], 3⟩,
  ⟨.none, .p (some 46) (.move (.t 58)), [11], 3⟩,
  ⟨.none, .p (some 59) (.extract (.t 46) 0), [12], 3⟩,
  ⟨.none, .p (some 60) (.extract (.t 46) 1), [12], 3⟩,
  ⟨.none, .p (some 5) (.move (.t 59)), [13, 11, 0, 1, 2, 3, 4, 5, 6, 7, 8, 9, 10, 11, 12, 13], 3⟩,
  ⟨.none, .p (some 6) (.move (.t 60)), [14, 15, 0, 1, 2, 3, 4, 5, 6, 7, 8, 9, 10, 11, 12, 13, 14, 15], 3⟩])
 (c8_k18)
def c8_k20 : C :=
 .cond (.t 45)
  (.seq (.ops [4] [.p (some 4) (.move (.c (.bool true)))])
  (.ret))
  (.skip)
def c8_k21 : C :=
 .seq (.seq (.ops [2, 3, 45] [.p (some 20) (.faddr 0 (.t 3)),
  .p (some 21) (.load false 1 (.t 20)),
  .p (some 22) (.len .slice (.t 21)),
  .p (some 23) (.bin .gtr .int [] (.t 22) (.c (.int .i64 20))),
  .p (some 24) (.move (.t 23)),
  .when 24 false [.p (some 25) (.faddr 1 (.t 3)),
   .p (some 26) (.load false 1 (.t 25)),
   .p (some 27) (.len .slice (.t 26)),
   .p (some 28) (.bin .gtr .int [] (.t 27) (.c (.int .i64 12)))],
  .p (some 29) (.pick (.t 24) (.c (.bool true)) (.t 28)),
  .p (some 30) (.move (.t 29)),
  .when 30 false [.p (some 31) (.faddr 2 (.t 3)),
   .p (some 32) (.load false 1 (.t 31)),
   .p (some 33) (.len .slice (.t 32)),
   .p (some 34) (.bin .gtr .int [] (.t 33) (.c (.int .i64 12)))],
  .p (some 35) (.pick (.t 30) (.c (.bool true)) (.t 34)),
  .p (some 36) (.move (.t 35)),
  .when 36 false [.p (some 37) (.faddr 3 (.t 3)),
   .p (some 38) (.load false 1 (.t 37)),
   .p (some 39) (.bin .lss .int [] (.t 38) (.c (.int .i64 1)))],
  .p (some 40) (.pick (.t 36) (.c (.bool true)) (.t 39)),
  .p (some 41) (.move (.t 40)),
  .when 41 false [.p (some 42) (.faddr 3 (.t 3)),
   .p (some 43) (.load false 1 (.t 42)),
   .p (some 44) (.bin .gtr .int [] (.t 43) (.c (.int .i64 40)))],
  .p (some 45) (.pick (.t 41) (.c (.bool true)) (.t 44))])
 (c8_k20))
 (c8_k19)
def c8_k22 : C :=
 .cond (.t 19)
  (.seq (.ops [4] [.p (some 4) (.move (.c (.bool false)))])
  (.ret))
  (.skip)
def c8_k23 : C :=
 .seq (.seq (.ops [2, 3, 19] [.call (some 18) 29 [],
  .p (some 19) (.una .not (.t 18))])
 (c8_k22))
 (c8_k21)
def c8 : FnC := ⟨2, 212, [.tmp 4],
 .seq (.ops [2, 3] [.e (some 2) (.box (.t 0)),
  .e (some 3) (.box (.t 1)),
  .p (some 4) (.move (.c (.bool false)))])
 (c8_k23),
 []⟩

def c29_k0 : C :=
 .seq (.ops [0] [.p (some 33) (.move (.t 4)),
  .p (some 34) (.len .slice (.t 33)),
  .p (some 35) (.bin .eql .int [] (.t 34) (.c (.int .i64 1))),
  .p (some 36) (.move (.t 35)),
  .when 36 true [.p (some 37) (.move (.t 4)),
   .p (some 38) (.iaddr 32 (.t 37) (.c (.int .i64 0))),
   .p (some 39) (.load true 32 (.t 38)),
   .p (some 40) (.build (List.replicate 32 (.int .u8 0)) [(0, 1, (.c (.int .u8 7)))]),
   .p (some 41) (.bin .eql .flat (List.replicate 32 (.int .u8)) (.t 39) (.t 40))],
  .p (some 42) (.pick (.t 36) (.t 41) (.c (.bool false))),
  .p (some 43) (.move (.t 42)),
  .when 43 true [.p (some 44) (.move (.t 5)),
   .p (some 45) (.len .slice (.t 44)),
   .p (some 46) (.bin .eql .int [] (.t 45) (.c (.int .i64 1)))],
  .p (some 47) (.pick (.t 43) (.t 46) (.c (.bool false))),
  .p (some 48) (.move (.t 47)),
  .when 48 true [.p (some 49) (.move (.t 5)),
   .p (some 50) (.iaddr 1 (.t 49) (.c (.int .i64 0))),
   .p (some 51) (.load false 1 (.t 50)),
   .p (some 52) (.move (.t 3)),
   .p (some 53) (.bin .add .int [] (.t 52) (.c (.int .u32 1))),
   .p (some 54) (.bin .eql .int [] (.t 51) (.t 53))],
  .p (some 55) (.pick (.t 48) (.t 54) (.c (.bool false))),
  .p (some 0) (.move (.t 55))])
 (.ret)
def c29_k1 : C :=
 .seq (.ops [3, 4, 5] [.p (some 23) (.move (.t 1)),
  .p (some 24) (.move (.t 3)),
  .p (some 25) (.bin .add .int [] (.t 24) (.c (.int .u32 1))),
  .p (some 26) (.move (.t 3)),
  .p (some 27) (.move (.t 3)),
  .p (some 28) (.bin .add .int [] (.t 27) (.c (.int .u32 1))),
  .p (some 29) (.bslice 55 3 1 [(.int .u32 0)] [(0, (.t 25)), (1, (.t 26)), (2, (.t 28))]),
  .call (some 30) 33 [(.t 23), (.t 29)],
  .p (some 22) (.move (.t 30)),
  .p (some 31) (.extract (.t 22) 0),
  .p (some 32) (.extract (.t 22) 1),
  .p (some 4) (.move (.t 31)),
  .p (some 5) (.move (.t 32))])
 (c29_k0)
def c29_k2 : C :=
 .seq (.ops [1, 3] [.p (some 19) (.build [(.int .u64 0), (.int .u64 0)] [(0, 1, (.c (.int .u64 1))), (1, 1, (.c (.int .u64 2)))]),
  .p (some 20) (.build (List.replicate 32 (.int .u8 0)) [(0, 1, (.c (.int .u8 7)))]),
  .call (some 21) 56 [(.t 19), (.t 20)],
  .p (some 3) (.move (.t 21))])
 (c29_k1)
def c29_k3 : C :=
 .cond (.t 18)
  (.seq (.ops [0] [.p (some 0) (.move (.c (.bool false)))])
  (.ret))
  (.skip)
def c29_k4 : C :=
 .seq (.seq (.ops [1, 18] [.p (some 13) (.move (.t 2)),
  .p (some 14) (.bin .neq .iface [] (.t 13) (.c .nili)),
  .p (some 15) (.move (.t 14)),
  .when 15 false [.p (some 16) (.move (.t 1)),
   .p (some 17) (.bin .eql .ptr [] (.t 16) (.c .nilp))],
  .p (some 18) (.pick (.t 15) (.c (.bool true)) (.t 17))])
 (c29_k3))
 (c29_k2)
def c29_k5 : C :=
 .seq (.ops [1, 2] [.p (some 7) (.build [(.int .u64 0), (.int .u64 0)] [(0, 1, (.c (.int .u64 1))), (1, 1, (.c (.int .u64 2)))]),
  .p (some 8) (.build (List.replicate 32 (.int .u8 0)) [(0, 1, (.c (.int .u8 7)))]),
  .p (some 9) (.bslice 87 1 32 (List.replicate 32 (.int .u8 0)) [(0, (.t 8))]),
  .call (some 10) 30 [(.t 7), (.t 9)],
  .p (some 6) (.move (.t 10)),
  .p (some 11) (.extract (.t 6) 0),
  .p (some 12) (.extract (.t 6) 1),
  .p (some 1) (.move (.t 11)),
  .p (some 2) (.move (.t 12))])
 (c29_k4)
def c29 : FnC := ⟨0, 56, [.tmp 0],
 .seq (.ops [] [.p (some 0) (.move (.c (.bool false)))])
 (c29_k5),
 []⟩

def c30_k0 : C :=
 .seq (.ops [4, 5] [.p (some 28) (.move (.t 6)),
  .p (some 4) (.move (.t 28)),
  .p (some 5) (.move (.c .nili))])
 (.ret)
def c30_k1 : C :=
 .cond (.t 25)
  (.seq (.ops [4, 5] [.p (some 26) (.move (.t 9)),
   .p (some 4) (.move (.c .nilp)),
   .p (some 5) (.move (.t 26))])
  (.ret))
  (.skip)
def c30_k2 : C :=
 .seq (.ops [6, 9, 15, 16, 17, 25] [.p (some 24) (.move (.t 9)),
  .p (some 25) (.bin .neq .iface [] (.t 24) (.c .nili))])
 (c30_k1)
def c30_k3 : C :=
 .seq (.ops [6, 9, 15, 16, 17] [.p (some 21) (.move (.t 6)),
  .p (some 22) (.load true 32 (.t 8)),
  .call (some 23) 57 [(.t 21), (.t 22)],
  .p (some 9) (.move (.t 23))])
 (c30_k2)
def c30_k4 : C :=
 .seq (.ops [6, 8, 15, 16, 17] [.p (some 19) (.iaddr 32 (.t 15) (.t 17)),
  .p (some 20) (.load true 32 (.t 19)),
  .e (some 8) (.alloc (List.replicate 32 (.d (.int .u8 0)))),
  .e .none (.store 32 (.t 8) (.t 20))])
 (c30_k3)
def c30_k5 : C :=
 .seq (.block 1 (c30_k4))
 (.ops [6, 15, 16, 17] [.p (some 27) (.bin .add .int [] (.t 17) (.c (.int .i64 1))),
  .p (some 17) (.move (.t 27))])
def c30_k6 : C :=
 .seq (.cond (.t 18)
  (.skip)
  (.exit 0))
 (c30_k5)
def c30_l7 : C :=
 .seq (.ops [6, 15, 16, 17, 18] [.p (some 18) (.bin .lss .int [] (.t 17) (.t 16))])
 (c30_k6)
def c30_k8 : C :=
 .block 0 (.loop [6, 15, 16, 17] c30_l7)
def c30_k9 : C :=
 .seq (.seq (.ops [6, 15, 16, 17] [.p (some 15) (.move (.t 1)),
  .p (some 16) (.len .slice (.t 15)),
  .p (some 17) (.move (.c (.int .i64 0)))])
 (c30_k8))
 (c30_k0)
def c30_k10 : C :=
 .seq (.ops [1, 6] [.p (some 10) (.load true 2 (.t 2)),
  .p (some 11) (.build [(.int .u64 0), (.int .u64 0)] [(0, 2, (.t 10))]),
  .e (some 12) (.makeMap),
  .p (some 13) (.build [(.int .u64 0), (.int .u64 0), .nilm] [(0, 2, (.t 11)), (2, 1, (.t 12))]),
  .e (some 14) (.box (.t 13)),
  .p (some 6) (.move (.t 14))])
 (c30_k9)
def c30 : FnC := ⟨2, 29, [.tmp 4, .tmp 5],
 .seq (.ops [1, 2] [.e (some 2) (.box (.t 0)),
  .p (some 4) (.move (.c .nilp)),
  .p (some 5) (.move (.c .nili))])
 (c30_k10),
 []⟩

def c57_k0 : C :=
 .seq (.drw [] 0 [⟨.none, .p (some 37) (.move (.t 0)), [], 0⟩,
  ⟨.none, .p (some 38) (.nilCheck (.t 37)), [0], 0⟩,
  ⟨.none, .p (some 39) (.faddr 2 (.t 38)), [1], 0⟩,
  ⟨.none, .p (some 40) (.load false 1 (.t 39)), [2], 0⟩,
  ⟨.none, .p (some 41) (.move (.t 5)), [], 0⟩,
  ⟨.none, .p (some 42) (.load true 32 (.t 3)), [], 0⟩,
  ⟨.none, .e .none (.mapUpdate false ([(.int .u32)]) (.t 40) (.t 41) (.t 42)), [3, 4, 5, 0, 1, 2, 3, 4, 5], 0⟩])
 (.seq (.ops [4] [.p (some 4) (.move (.c .nili))])
 (.ret))
def c57_k1 : C :=
 .cond (.t 34)
  (.seq (.ops [4] [.p (some 36) (.mkif 39 (.c (.int .i64 5))),
   .p (some 4) (.move (.t 36))])
  (.ret))
  (.skip)
def c57_k2 : C :=
 .cond (.t 26)
  (.seq (.ops [4] [.p (some 33) (.mkif 39 (.c (.int .i64 6))),
   .p (some 4) (.move (.t 33))])
  (.ret))
  (.seq (.ops [0, 3, 5, 34] [.p (some 35) (.move (.t 7)),
   .p (some 34) (.move (.t 35))])
  (c57_k1))
def c57_k3 : C :=
 .seq (.ops [0, 3, 5, 7, 26] [.p (some 27) (.move (.t 7)),
  .p (some 28) (.move (.t 27)),
  .when 28 true [.p (some 29) (.load true 32 (.t 6)),
   .p (some 30) (.load true 32 (.t 3)),
   .p (some 31) (.bin .eql .flat (List.replicate 32 (.int .u8)) (.t 29) (.t 30))],
  .p (some 32) (.pick (.t 28) (.t 31) (.c (.bool false))),
  .p (some 26) (.move (.t 32))])
 (c57_k2)
def c57_k4 : C :=
 .block 0 (c57_k3)
def c57_k5 : C :=
 .seq (.seq (.ops [0, 3, 5, 6, 7] [.p (some 18) (.move (.t 0)),
  .p (some 19) (.nilCheck (.t 18)),
  .p (some 20) (.faddr 2 (.t 19)),
  .p (some 21) (.load false 1 (.t 20)),
  .p (some 22) (.move (.t 5)),
  .p (some 23) (.lookup false ([(.int .u32)]) (.ca (List.replicate 32 (.int .u8 0))) true (.t 21) (.t 22)),
  .p (some 17) (.move (.t 23)),
  .p (some 24) (.extract (.t 17) 0),
  .p (some 25) (.extract (.t 17) 1),
  .e (some 6) (.alloc (List.replicate 32 (.d (.int .u8 0)))),
  .e .none (.store 32 (.t 6) (.t 24)),
  .p (some 7) (.move (.t 25))])
 (c57_k4))
 (c57_k0)
def c57_k6 : C :=
 .seq (.drw [0, 3, 5] 0 [⟨.none, .p (some 11) (.move (.t 0)), [], 0⟩,
  ⟨.none, .p (some 12) (.nilCheck (.t 11)), [0], 0⟩,
  ⟨.none, .p (some 13) (.faddr 0 (.t 12)), [1], 0⟩,
  ⟨.none, .p (some 14) (.load true 2 (.t 13)), [2], 0⟩,
  ⟨.none, .p (some 15) (.load true 32 (.t 3)), [], 0⟩,
  ⟨.none, .call (some 16) 75 [(.t 14), (.t 15)], [3, 4], 0⟩,
  ⟨.none, .p (some 5) (.move (.t 16)), [5, 5, 0, 1, 2, 3, 4, 5], 0⟩])
 (c57_k5)
def c57_k7 : C :=
 .cond (.t 9)
  (.seq (.ops [4] [.p (some 10) (.mkif 39 (.c (.int .i64 4))),
   .p (some 4) (.move (.t 10))])
  (.ret))
  (.skip)
def c57_k8 : C :=
 .seq (.seq (.ops [0, 3, 9] [.p (some 8) (.move (.t 0)),
  .p (some 9) (.bin .eql .ptr [] (.t 8) (.c .nilp))])
 (c57_k7))
 (c57_k6)
def c57 : FnC := ⟨2, 43, [.tmp 4],
 .seq (.ops [0, 3] [.e (some 3) (.box (.t 1)),
  .p (some 4) (.move (.c .nili))])
 (c57_k8),
 []⟩

def c75_k0 : C :=
 .seq (.ops [4] [.p (some 5) (.faddr 0 (.t 2)),
  .p (some 6) (.load true 2 (.t 5)),
  .p (some 7) (.load true 32 (.t 3)),
  .call (some 8) 56 [(.t 6), (.t 7)],
  .p (some 4) (.move (.t 8))])
 (.ret)
def c75 : FnC := ⟨2, 9, [.tmp 4],
 .seq (.ops [2, 3] [.e (some 2) (.box (.t 0)),
  .e (some 3) (.box (.t 1)),
  .p (some 4) (.move (.c (.int .u32 0)))])
 (c75_k0),
 []⟩

def c56_k0 : C :=
 .seq (.drw [4] 0 [⟨.none, .p (some 5) (.load true 2 (.t 2)), [], 0⟩,
  ⟨.none, .p (some 6) (.sliceArr 32 1 (.t 3) .none .none), [], 0⟩,
  ⟨.none, .call (some 7) 74 [(.t 5), (.t 6)], [0, 1], 0⟩,
  ⟨.none, .p (some 8) (.bin .rem .int [] (.t 7) (.c (.int .u64 4294967295))), [2], 0⟩,
  ⟨.none, .p (some 9) (.conv (.int .u32) (.t 8)), [3], 0⟩,
  ⟨.none, .p (some 10) (.bin .add .int [] (.t 9) (.c (.int .u32 1))), [4], 0⟩,
  ⟨.none, .p (some 4) (.move (.t 10)), [5, 2, 0, 1, 2, 3, 4, 5], 0⟩])
 (.ret)
def c56 : FnC := ⟨2, 11, [.tmp 4],
 .seq (.ops [2, 3] [.e (some 2) (.box (.t 0)),
  .e (some 3) (.box (.t 1)),
  .p (some 4) (.move (.c (.int .u32 0)))])
 (c56_k0),
 []⟩

def c74_k0 : C :=
 .seq (.drw [4] 0 [⟨.none, .p (some 64) (.load false 1 (.t 5)), [], 0⟩,
  ⟨.none, .p (some 65) (.nilCheck (.t 64)), [0], 0⟩,
  ⟨.none, .p (some 66) (.faddr 0 (.t 65)), [1], 0⟩,
  ⟨.none, .p (some 67) (.load false 1 (.t 66)), [2], 0⟩,
  ⟨.none, .p (some 68) (.load false 1 (.t 5)), [], 0⟩,
  ⟨.none, .p (some 69) (.nilCheck (.t 68)), [4], 0⟩,
  ⟨.none, .p (some 70) (.faddr 1 (.t 69)), [5], 0⟩,
  ⟨.none, .p (some 71) (.load false 1 (.t 70)), [6], 0⟩,
  ⟨.none, .p (some 72) (.bin .xor .int [] (.t 67) (.t 71)), [3, 7], 0⟩,
  ⟨.none, .p (some 73) (.load false 1 (.t 5)), [], 0⟩,
  ⟨.none, .p (some 74) (.nilCheck (.t 73)), [9], 0⟩,
  ⟨.none, .p (some 75) (.faddr 2 (.t 74)), [10], 0⟩,
  ⟨.none, .p (some 76) (.load false 1 (.t 75)), [11], 0⟩,
  ⟨.none, .p (some 77) (.bin .xor .int [] (.t 72) (.t 76)), [8, 12], 0⟩,
  ⟨.none, .p (some 78) (.load false 1 (.t 5)), [], 0⟩,
  ⟨.none, .p (some 79) (.nilCheck (.t 78)), [14], 0⟩,
  ⟨.none, .p (some 80) (.faddr 3 (.t 79)), [15], 0⟩,
  ⟨.none, .p (some 81) (.load false 1 (.t 80)), [16], 0⟩,
  ⟨.none, .p (some 82) (.bin .xor .int [] (.t 77) (.t 81)), [13, 17], 0⟩,
  ⟨.none, .p (some 4) (.move (.t 82)), [18, 0, 1, 2, 3, 4, 5, 6, 7, 8, 9, 10, 11, 12, 13, 14, 15, 16, 17, 18], 0⟩])
 (.ret)
def c74_k1 : C :=
 .seq (.block 3 (.ops [5, 59] [.p (some 61) (.load false 1 (.t 5)),
  .call (some 62) 94 [(.t 61)]]))
 (.ops [5, 59] [.p (some 63) (.bin .add .int [] (.t 59) (.c (.int .i64 1))),
  .p (some 59) (.move (.t 63))])
def c74_k2 : C :=
 .seq (.cond (.t 60)
  (.skip)
  (.exit 2))
 (c74_k1)
def c74_l3 : C :=
 .seq (.ops [5, 59, 60] [.p (some 60) (.bin .lss .int [] (.t 59) (.c (.int .i64 4)))])
 (c74_k2)
def c74_k4 : C :=
 .block 2 (.loop [5, 59] c74_l3)
def c74_k5 : C :=
 .seq (.seq (.ops [5, 59] [.p (some 59) (.move (.c (.int .i64 0)))])
 (c74_k4))
 (c74_k0)
def c74_k6 : C :=
 .seq (.ops [5] [.p (some 52) (.load false 1 (.t 5)),
  .p (some 53) (.nilCheck (.t 52)),
  .p (some 54) (.faddr 2 (.t 53)),
  .p (some 55) (.load false 1 (.t 54)),
  .p (some 56) (.bin .xor .int [] (.t 55) (.c (.int .u64 255))),
  .p (some 57) (.nilCheck (.t 52)),
  .p (some 58) (.faddr 2 (.t 57)),
  .e .none (.store 1 (.t 58) (.t 56))])
 (c74_k5)
def c74_k7 : C :=
 .seq (.drw [5] 0 [⟨.none, .p (some 41) (.load false 1 (.t 5)), [], 0⟩,
  ⟨.none, .p (some 42) (.move (.t 1)), [], 0⟩,
  ⟨.none, .p (some 43) (.move (.t 6)), [], 0⟩,
  ⟨.none, .p (some 44) (.slice 1 (.t 42) (some (.t 43)) .none .none), [1, 2], 0⟩,
  ⟨.none, .call (some 45) 93 [(.t 44)], [3], 0⟩,
  ⟨.none, .p (some 46) (.move (.t 1)), [], 0⟩,
  ⟨.none, .p (some 47) (.len .slice (.t 46)), [5], 0⟩,
  ⟨.none, .p (some 48) (.conv (.int .u64) (.t 47)), [6], 0⟩,
  ⟨.none, .p (some 49) (.bin .shl .int [] (.t 48) (.c (.int .u64 56))), [7], 0⟩,
  ⟨.none, .p (some 50) (.bin .or .int [] (.t 45) (.t 49)), [4, 8], 0⟩,
  ⟨.none, .call (some 51) 92 [(.t 41), (.t 50)], [0, 9, 4], 0⟩])
 (c74_k6)
def c74_a8 : C :=
 .ops [5, 7] [.p (some 7) (.move (.t 36))]
def c74_b9 : C :=
 .block 1 (.drw [] 0 [⟨.none, .p (some 37) (.load false 1 (.t 5)), [], 0⟩,
  ⟨.none, .p (some 38) (.move (.t 7)), [], 0⟩,
  ⟨.none, .call (some 39) 93 [(.t 38)], [1], 0⟩,
  ⟨.none, .call (some 40) 92 [(.t 37), (.t 39)], [0, 2, 2], 0⟩])
def c74_k10 : C :=
 .block 0 (.rangeF [1, 5, 6] (.t 35) [36] c74_a8 c74_b9)
def c74_k11 : C :=
 .seq (.seq (.ops [1, 5, 6, 35] [.p (some 32) (.move (.t 1)),
  .p (some 33) (.move (.t 6)),
  .p (some 34) (.slice 1 (.t 32) .none (some (.t 33)) .none),
  .call (some 35) 64 [(.t 34), (.c (.int .i64 8))]])
 (c74_k10))
 (c74_k7)
def c74_k12 : C :=
 .seq (.ops [1, 5, 6] [.p (some 26) (.move (.t 1)),
  .p (some 27) (.len .slice (.t 26)),
  .p (some 28) (.move (.t 1)),
  .p (some 29) (.len .slice (.t 28)),
  .p (some 30) (.bin .rem .int [] (.t 29) (.c (.int .i64 8))),
  .p (some 31) (.bin .sub .int [] (.t 27) (.t 30)),
  .p (some 6) (.move (.t 31))])
 (c74_k11)
def c74_k13 : C :=
 .seq (.drw [1, 5] 2 [⟨.none, .p (some 8) (.faddr 0 (.t 2)), [], 0⟩,
  ⟨.none, .p (some 9) (.load false 1 (.t 8)), [0], 0⟩,
  ⟨.none, .call (some 10) 91 [(.c (.int .i64 0))], [], 0⟩,
  ⟨.none, .p (some 11) (.bin .xor .int [] (.t 9) (.t 10)), [1, 2], 0⟩,
  ⟨.none, .p (some 12) (.faddr 1 (.t 2)), [], 0⟩,
  ⟨.none, .p (some 13) (.load false 1 (.t 12)), [4], 0⟩,
  ⟨.none, .call (some 14) 91 [(.c (.int .i64 1))], [2], 0⟩,
  ⟨.none, .p (some 15) (.bin .xor .int [] (.t 13) (.t 14)), [5, 6], 0⟩,
  ⟨.none, .p (some 16) (.faddr 0 (.t 2)), [], 0⟩,
  ⟨.none, .p (some 17) (.load false 1 (.t 16)), [8], 0⟩,
  ⟨.none, .call (some 18) 91 [(.c (.int .i64 2))], [6], 0⟩,
  ⟨.none, .p (some 19) (.bin .xor .int [] (.t 17) (.t 18)), [9, 10], 0⟩,
  ⟨.none, .p (some 20) (.faddr 1 (.t 2)), [], 0⟩,
  ⟨.none, .p (some 21) (.load false 1 (.t 20)), [12], 0⟩,
  ⟨.none, .call (some 22) 91 [(.c (.int .i64 3))], [10], 0⟩,
  ⟨.none, .p (some 23) (.bin .xor .int [] (.t 21) (.t 22)), [13, 14], 0⟩,
  ⟨.none, .p (some 24) (.build [(.int .u64 0), (.int .u64 0), (.int .u64 0), (.int .u64 0)] [(0, 1, (.t 11)), (1, 1, (.t 15)), (2, 1, (.t 19)), (3, 1, (.t 23))]), [3, 7, 11, 15], 0⟩,
  ⟨.none, .e (some 25) (.box (.t 24)), [16], 0⟩,
  ⟨.none, .e (some 5) (.alloc [(.d .nilp)]), [], 1⟩,
  ⟨.none, .e .none (.store 1 (.t 5) (.t 25)), [18, 17, 14, 0, 1, 2, 3, 4, 5, 6, 7, 8, 9, 10, 11, 12, 13, 14, 15, 16, 17, 18], 2⟩])
 (c74_k12)
def c74 : FnC := ⟨2, 83, [.tmp 4],
 .seq (.ops [1, 2] [.e (some 2) (.box (.t 0)),
  .p (some 4) (.move (.c (.int .u64 0)))])
 (c74_k13),
 []⟩

def c91_k0 : C :=
 .seq (.ops [2] [.p (some 3) (.move (.t 0)),
  .p (some 4) (.bin .mul .int [] (.c (.int .i64 8)) (.t 3)),
  .p (some 5) (.move (.t 0)),
  .p (some 6) (.bin .mul .int [] (.c (.int .i64 8)) (.t 5)),
  .p (some 7) (.bin .add .int [] (.t 6) (.c (.int .i64 8))),
  .p (some 8) (.sliceStr (.c (.str [115, 111, 109, 101, 112, 115, 101, 117, 100, 111, 114, 97, 110, 100, 111, 109, 108, 121, 103, 101, 110, 101, 114, 97, 116, 101, 100, 98, 121, 116, 101, 115])) (some (.t 4)) (some (.t 7))),
  .p (some 9) (.conv (.strBytes 5) (.t 8)),
  .call (some 10) 93 [(.t 9)],
  .call (some 11) 111 [(.t 10)],
  .p (some 2) (.move (.t 11))])
 (.ret)
def c91 : FnC := ⟨1, 12, [.tmp 2],
 .seq (.ops [0] [.p (some 2) (.move (.c (.int .u64 0)))])
 (c91_k0),
 []⟩

def c93_k0 : C :=
 .seq (.ops [2] [.p (some 21) (.move (.t 3)),
  .p (some 2) (.move (.t 21))])
 (.ret)
def c93_k1 : C :=
 .ops [3, 6, 7, 8] [.p (some 13) (.move (.t 3)),
  .p (some 14) (.move (.t 5)),
  .p (some 15) (.conv (.int .u64) (.t 14)),
  .p (some 16) (.move (.t 4)),
  .p (some 17) (.bin .mul .int [] (.c (.int .i64 8)) (.t 16)),
  .p (some 18) (.bin .shl .int [] (.t 15) (.t 17)),
  .p (some 19) (.bin .or .int [] (.t 13) (.t 18)),
  .p (some 3) (.move (.t 19))]
def c93_k2 : C :=
 .seq (.ops [3, 4, 5, 6, 7, 8] [.p (some 10) (.move (.t 8)),
  .p (some 11) (.iaddr 1 (.t 6) (.t 8)),
  .p (some 12) (.load false 1 (.t 11)),
  .p (some 4) (.move (.t 10)),
  .p (some 5) (.move (.t 12))])
 (c93_k1)
def c93_k3 : C :=
 .seq (.block 1 (c93_k2))
 (.ops [3, 6, 7, 8] [.p (some 20) (.bin .add .int [] (.t 8) (.c (.int .i64 1))),
  .p (some 8) (.move (.t 20))])
def c93_k4 : C :=
 .seq (.cond (.t 9)
  (.skip)
  (.exit 0))
 (c93_k3)
def c93_l5 : C :=
 .seq (.ops [3, 6, 7, 8, 9] [.p (some 9) (.bin .lss .int [] (.t 8) (.t 7))])
 (c93_k4)
def c93_k6 : C :=
 .block 0 (.loop [3, 6, 7, 8] c93_l5)
def c93_k7 : C :=
 .seq (.seq (.ops [3, 6, 7, 8] [.p (some 6) (.move (.t 0)),
  .p (some 7) (.len .slice (.t 6)),
  .p (some 8) (.move (.c (.int .i64 0)))])
 (c93_k6))
 (c93_k0)
def c93_k8 : C :=
 .seq (.ops [0, 3] [.p (some 3) (.move (.c (.int .u64 0)))])
 (c93_k7)
def c93 : FnC := ⟨1, 22, [.tmp 2],
 .seq (.ops [0] [.p (some 2) (.move (.c (.int .u64 0)))])
 (c93_k8),
 []⟩

def c111_k0 : C :=
 .seq (.ops [2] [.p (some 17) (.move (.t 0)),
  .p (some 18) (.bin .shr .int [] (.t 17) (.c (.int .u64 32))),
  .p (some 19) (.move (.t 0)),
  .p (some 20) (.bin .shl .int [] (.t 19) (.c (.int .u64 32))),
  .p (some 21) (.bin .or .int [] (.t 18) (.t 20)),
  .p (some 2) (.move (.t 21))])
 (.ret)
def c111_k1 : C :=
 .seq (.ops [0] [.p (some 10) (.move (.t 0)),
  .p (some 11) (.bin .shr .int [] (.t 10) (.c (.int .u64 16))),
  .p (some 12) (.bin .and .int [] (.t 11) (.c (.int .u64 281470681808895))),
  .p (some 13) (.move (.t 0)),
  .p (some 14) (.bin .and .int [] (.t 13) (.c (.int .u64 281470681808895))),
  .p (some 15) (.bin .shl .int [] (.t 14) (.c (.int .u64 16))),
  .p (some 16) (.bin .or .int [] (.t 12) (.t 15)),
  .p (some 0) (.move (.t 16))])
 (c111_k0)
def c111_k2 : C :=
 .seq (.ops [0] [.p (some 3) (.move (.t 0)),
  .p (some 4) (.bin .shr .int [] (.t 3) (.c (.int .u64 8))),
  .p (some 5) (.bin .and .int [] (.t 4) (.c (.int .u64 71777214294589695))),
  .p (some 6) (.move (.t 0)),
  .p (some 7) (.bin .and .int [] (.t 6) (.c (.int .u64 71777214294589695))),
  .p (some 8) (.bin .shl .int [] (.t 7) (.c (.int .u64 8))),
  .p (some 9) (.bin .or .int [] (.t 5) (.t 8)),
  .p (some 0) (.move (.t 9))])
 (c111_k1)
def c111 : FnC := ⟨1, 22, [.tmp 2],
 .seq (.ops [0] [.p (some 2) (.move (.c (.int .u64 0)))])
 (c111_k2),
 []⟩

def c64_k0 : C :=
 .seq (.ops [4] [.p (some 8) (.mkfn (.func 83) [] [(.t 2), (.t 3)]),
  .p (some 4) (.move (.t 8))])
 (.ret)
def c64_k1 : C :=
 .cond (.t 6)
  (.ops [2, 3] [.p (some 7) (.mkif 9 (.c (.str [99, 97, 110, 110, 111, 116, 32, 98, 101, 32, 108, 101, 115, 115, 32, 116, 104, 97, 110, 32, 49]))),
   .p .none (.extract (.c .nilp) 0)])
  (.skip)
def c64_k2 : C :=
 .seq (.seq (.ops [2, 3, 6] [.p (some 5) (.load false 1 (.t 3)),
  .p (some 6) (.bin .lss .int [] (.t 5) (.c (.int .i64 1)))])
 (c64_k1))
 (c64_k0)
def c64 : FnC := ⟨2, 9, [.tmp 4],
 .seq (.ops [2, 3] [.e (some 2) (.box (.t 0)),
  .e (some 3) (.box (.t 1)),
  .p (some 4) (.move (.c .nilf))])
 (c64_k2),
 []⟩

def c83_k0 : C :=
 .ops [0, 1, 2, 4] [.p (some 10) (.move (.t 4)),
  .p (some 11) (.load false 1 (.t 2)),
  .p (some 12) (.bin .add .int [] (.t 10) (.t 11)),
  .p (some 4) (.move (.t 12))]
def c83_k1 : C :=
 .cond (.t 30)
  (.ret)
  (.skip)
def c83_k2 : C :=
 .seq (.ops [0, 1, 2, 4, 30] [.p (some 19) (.move (.t 0)),
  .p (some 20) (.load false 1 (.t 1)),
  .p (some 21) (.move (.t 4)),
  .p (some 22) (.move (.t 4)),
  .p (some 23) (.move (.t 5)),
  .p (some 24) (.bin .add .int [] (.t 22) (.t 23)),
  .p (some 25) (.move (.t 4)),
  .p (some 26) (.move (.t 5)),
  .p (some 27) (.bin .add .int [] (.t 25) (.t 26)),
  .p (some 28) (.slice 1 (.t 20) (some (.t 21)) (some (.t 24)) (some (.t 27))),
  .callv (some 29) (.t 19) [(.t 28)],
  .p (some 30) (.una .not (.t 29))])
 (c83_k1)
def c83_k3 : C :=
 .seq (.drw [0, 1, 2, 4, 5] 0 [⟨.none, .p (some 13) (.load false 1 (.t 2)), [], 0⟩,
  ⟨.none, .p (some 14) (.load false 1 (.t 1)), [], 0⟩,
  ⟨.none, .p (some 15) (.move (.t 4)), [], 0⟩,
  ⟨.none, .p (some 16) (.slice 1 (.t 14) (some (.t 15)) .none .none), [1, 2], 0⟩,
  ⟨.none, .p (some 17) (.len .slice (.t 16)), [3], 0⟩,
  ⟨.none, .p (some 18) (.min [(.t 13), (.t 17)]), [0, 4], 0⟩,
  ⟨.none, .p (some 5) (.move (.t 18)), [5, 0, 1, 2, 3, 4, 5], 0⟩])
 (c83_k2)
def c83_k4 : C :=
 .seq (.block 1 (c83_k3))
 (c83_k0)
def c83_k5 : C :=
 .cond (.t 9)
  (.skip)
  (.exit 0)
def c83_l6 : C :=
 .seq (.seq (.ops [0, 1, 2, 4, 9] [.p (some 6) (.move (.t 4)),
  .p (some 7) (.load false 1 (.t 1)),
  .p (some 8) (.len .slice (.t 7)),
  .p (some 9) (.bin .lss .int [] (.t 6) (.t 8))])
 (c83_k5))
 (c83_k4)
def c83_k7 : C :=
 .block 0 (.loop [0, 1, 2, 4] c83_l6)
def c83 : FnC := ⟨3, 31, [],
 .seq (.ops [0, 1, 2, 4] [.p (some 4) (.move (.c (.int .i64 0)))])
 (c83_k7),
 []⟩

def c92_k0 : C :=
 .ops [] [.p (some 17) (.move (.t 0)),
  .p (some 18) (.nilCheck (.t 17)),
  .p (some 19) (.faddr 0 (.t 18)),
  .p (some 20) (.load false 1 (.t 19)),
  .p (some 21) (.move (.t 1)),
  .p (some 22) (.bin .xor .int [] (.t 20) (.t 21)),
  .p (some 23) (.nilCheck (.t 17)),
  .p (some 24) (.faddr 0 (.t 23)),
  .e .none (.store 1 (.t 24) (.t 22))]
def c92_k1 : C :=
 .seq (.block 1 (.ops [0, 1, 12] [.p (some 14) (.move (.t 0)),
  .call (some 15) 94 [(.t 14)]]))
 (.ops [0, 1, 12] [.p (some 16) (.bin .add .int [] (.t 12) (.c (.int .i64 1))),
  .p (some 12) (.move (.t 16))])
def c92_k2 : C :=
 .seq (.cond (.t 13)
  (.skip)
  (.exit 0))
 (c92_k1)
def c92_l3 : C :=
 .seq (.ops [0, 1, 12, 13] [.p (some 13) (.bin .lss .int [] (.t 12) (.c (.int .i64 2)))])
 (c92_k2)
def c92_k4 : C :=
 .block 0 (.loop [0, 1, 12] c92_l3)
def c92_k5 : C :=
 .seq (.seq (.ops [0, 1, 12] [.p (some 12) (.move (.c (.int .i64 0)))])
 (c92_k4))
 (c92_k0)
def c92 : FnC := ⟨2, 25, [],
 .seq (.ops [0, 1] [.p (some 4) (.move (.t 0)),
  .p (some 5) (.nilCheck (.t 4)),
  .p (some 6) (.faddr 3 (.t 5)),
  .p (some 7) (.load false 1 (.t 6)),
  .p (some 8) (.move (.t 1)),
  .p (some 9) (.bin .xor .int [] (.t 7) (.t 8)),
  .p (some 10) (.nilCheck (.t 4)),
  .p (some 11) (.faddr 3 (.t 10)),
  .e .none (.store 1 (.t 11) (.t 9))])
 (c92_k5),
 []⟩

def c94_k0 : C :=
 .ops [] [.p (some 106) (.move (.t 0)),
  .p (some 107) (.move (.t 0)),
  .p (some 108) (.nilCheck (.t 107)),
  .p (some 109) (.faddr 2 (.t 108)),
  .p (some 110) (.load false 1 (.t 109)),
  .call (some 111) 112 [(.t 110), (.c (.int .i64 32))],
  .p (some 112) (.nilCheck (.t 106)),
  .p (some 113) (.faddr 2 (.t 112)),
  .e .none (.store 1 (.t 113) (.t 111))]
def c94_k1 : C :=
 .seq (.drw [0] 0 [⟨.none, .p (some 93) (.move (.t 0)), [], 0⟩,
  ⟨.none, .p (some 94) (.move (.t 0)), [], 0⟩,
  ⟨.none, .p (some 95) (.nilCheck (.t 94)), [1], 0⟩,
  ⟨.none, .p (some 96) (.faddr 1 (.t 95)), [2], 0⟩,
  ⟨.none, .p (some 97) (.load false 1 (.t 96)), [3], 0⟩,
  ⟨.none, .call (some 98) 112 [(.t 97), (.c (.int .i64 17))], [4], 0⟩,
  ⟨.none, .p (some 99) (.move (.t 0)), [], 0⟩,
  ⟨.none, .p (some 100) (.nilCheck (.t 99)), [6], 0⟩,
  ⟨.none, .p (some 101) (.faddr 2 (.t 100)), [7], 0⟩,
  ⟨.none, .p (some 102) (.load false 1 (.t 101)), [8], 0⟩,
  ⟨.none, .p (some 103) (.bin .xor .int [] (.t 98) (.t 102)), [5, 9], 0⟩,
  ⟨.none, .p (some 104) (.nilCheck (.t 93)), [0, 0, 1, 2, 3, 4, 5, 6, 7, 8, 9, 10], 0⟩,
  ⟨.none, .p (some 105) (.faddr 1 (.t 104)), [11, 0, 1, 2, 3, 4, 5, 6, 7, 8, 9, 10], 0⟩,
  ⟨.none, .e .none (.store 1 (.t 105) (.t 103)), [12, 10, 5, 0, 1, 2, 3, 4, 5, 6, 7, 8, 9, 10], 0⟩])
 (c94_k0)
def c94_k2 : C :=
 .seq (.drw [0] 0 [⟨.none, .p (some 82) (.move (.t 0)), [], 0⟩,
  ⟨.none, .p (some 83) (.nilCheck (.t 82)), [0], 0⟩,
  ⟨.none, .p (some 84) (.faddr 2 (.t 83)), [1], 0⟩,
  ⟨.none, .p (some 85) (.load false 1 (.t 84)), [2], 0⟩,
  ⟨.none, .p (some 86) (.move (.t 0)), [], 0⟩,
  ⟨.none, .p (some 87) (.nilCheck (.t 86)), [4], 0⟩,
  ⟨.none, .p (some 88) (.faddr 1 (.t 87)), [5], 0⟩,
  ⟨.none, .p (some 89) (.load false 1 (.t 88)), [6], 0⟩,
  ⟨.none, .p (some 90) (.bin .add .int [] (.t 85) (.t 89)), [3, 7], 0⟩,
  ⟨.none, .p (some 91) (.nilCheck (.t 82)), [0, 0, 1, 2, 3, 4, 5, 6, 7, 8], 0⟩,
  ⟨.none, .p (some 92) (.faddr 2 (.t 91)), [9, 0, 1, 2, 3, 4, 5, 6, 7, 8], 0⟩,
  ⟨.none, .e .none (.store 1 (.t 92) (.t 90)), [10, 8, 0, 1, 2, 3, 4, 5, 6, 7, 8], 0⟩])
 (c94_k1)
def c94_k3 : C :=
 .seq (.drw [0] 0 [⟨.none, .p (some 69) (.move (.t 0)), [], 0⟩,
  ⟨.none, .p (some 70) (.move (.t 0)), [], 0⟩,
  ⟨.none, .p (some 71) (.nilCheck (.t 70)), [1], 0⟩,
  ⟨.none, .p (some 72) (.faddr 3 (.t 71)), [2], 0⟩,
  ⟨.none, .p (some 73) (.load false 1 (.t 72)), [3], 0⟩,
  ⟨.none, .call (some 74) 112 [(.t 73), (.c (.int .i64 21))], [4], 0⟩,
  ⟨.none, .p (some 75) (.move (.t 0)), [], 0⟩,
  ⟨.none, .p (some 76) (.nilCheck (.t 75)), [6], 0⟩,
  ⟨.none, .p (some 77) (.faddr 0 (.t 76)), [7], 0⟩,
  ⟨.none, .p (some 78) (.load false 1 (.t 77)), [8], 0⟩,
  ⟨.none, .p (some 79) (.bin .xor .int [] (.t 74) (.t 78)), [5, 9], 0⟩,
  ⟨.none, .p (some 80) (.nilCheck (.t 69)), [0, 0, 1, 2, 3, 4, 5, 6, 7, 8, 9, 10], 0⟩,
  ⟨.none, .p (some 81) (.faddr 3 (.t 80)), [11, 0, 1, 2, 3, 4, 5, 6, 7, 8, 9, 10], 0⟩,
  ⟨.none, .e .none (.store 1 (.t 81) (.t 79)), [12, 10, 5, 0, 1, 2, 3, 4, 5, 6, 7, 8, 9, 10], 0⟩])
 (c94_k2)
def c94_k4 : C :=
 .seq (.drw [0] 0 [⟨.none, .p (some 58) (.move (.t 0)), [], 0⟩,
  ⟨.none, .p (some 59) (.nilCheck (.t 58)), [0], 0⟩,
  ⟨.none, .p (some 60) (.faddr 0 (.t 59)), [1], 0⟩,
  ⟨.none, .p (some 61) (.load false 1 (.t 60)), [2], 0⟩,
  ⟨.none, .p (some 62) (.move (.t 0)), [], 0⟩,
  ⟨.none, .p (some 63) (.nilCheck (.t 62)), [4], 0⟩,
  ⟨.none, .p (some 64) (.faddr 3 (.t 63)), [5], 0⟩,
  ⟨.none, .p (some 65) (.load false 1 (.t 64)), [6], 0⟩,
  ⟨.none, .p (some 66) (.bin .add .int [] (.t 61) (.t 65)), [3, 7], 0⟩,
  ⟨.none, .p (some 67) (.nilCheck (.t 58)), [0, 0, 1, 2, 3, 4, 5, 6, 7, 8], 0⟩,
  ⟨.none, .p (some 68) (.faddr 0 (.t 67)), [9, 0, 1, 2, 3, 4, 5, 6, 7, 8], 0⟩,
  ⟨.none, .e .none (.store 1 (.t 68) (.t 66)), [10, 8, 0, 1, 2, 3, 4, 5, 6, 7, 8], 0⟩])
 (c94_k3)
def c94_k5 : C :=
 .seq (.drw [0] 0 [⟨.none, .p (some 45) (.move (.t 0)), [], 0⟩,
  ⟨.none, .p (some 46) (.move (.t 0)), [], 0⟩,
  ⟨.none, .p (some 47) (.nilCheck (.t 46)), [1], 0⟩,
  ⟨.none, .p (some 48) (.faddr 3 (.t 47)), [2], 0⟩,
  ⟨.none, .p (some 49) (.load false 1 (.t 48)), [3], 0⟩,
  ⟨.none, .call (some 50) 112 [(.t 49), (.c (.int .i64 16))], [4], 0⟩,
  ⟨.none, .p (some 51) (.move (.t 0)), [], 0⟩,
  ⟨.none, .p (some 52) (.nilCheck (.t 51)), [6], 0⟩,
  ⟨.none, .p (some 53) (.faddr 2 (.t 52)), [7], 0⟩,
  ⟨.none, .p (some 54) (.load false 1 (.t 53)), [8], 0⟩,
  ⟨.none, .p (some 55) (.bin .xor .int [] (.t 50) (.t 54)), [5, 9], 0⟩,
  ⟨.none, .p (some 56) (.nilCheck (.t 45)), [0, 0, 1, 2, 3, 4, 5, 6, 7, 8, 9, 10], 0⟩,
  ⟨.none, .p (some 57) (.faddr 3 (.t 56)), [11, 0, 1, 2, 3, 4, 5, 6, 7, 8, 9, 10], 0⟩,
  ⟨.none, .e .none (.store 1 (.t 57) (.t 55)), [12, 10, 5, 0, 1, 2, 3, 4, 5, 6, 7, 8, 9, 10], 0⟩])
 (c94_k4)
def c94_k6 : C :=
 .seq (.drw [0] 0 [⟨.none, .p (some 34) (.move (.t 0)), [], 0⟩,
  ⟨.none, .p (some 35) (.nilCheck (.t 34)), [0], 0⟩,
  ⟨.none, .p (some 36) (.faddr 2 (.t 35)), [1], 0⟩,
  ⟨.none, .p (some 37) (.load false 1 (.t 36)), [2], 0⟩,
  ⟨.none, .p (some 38) (.move (.t 0)), [], 0⟩,
  ⟨.none, .p (some 39) (.nilCheck (.t 38)), [4], 0⟩,
  ⟨.none, .p (some 40) (.faddr 3 (.t 39)), [5], 0⟩,
  ⟨.none, .p (some 41) (.load false 1 (.t 40)), [6], 0⟩,
  ⟨.none, .p (some 42) (.bin .add .int [] (.t 37) (.t 41)), [3, 7], 0⟩,
  ⟨.none, .p (some 43) (.nilCheck (.t 34)), [0, 0, 1, 2, 3, 4, 5, 6, 7, 8], 0⟩,
  ⟨.none, .p (some 44) (.faddr 2 (.t 43)), [9, 0, 1, 2, 3, 4, 5, 6, 7, 8], 0⟩,
  ⟨.none, .e .none (.store 1 (.t 44) (.t 42)), [10, 8, 0, 1, 2, 3, 4, 5, 6, 7, 8], 0⟩])
 (c94_k5)
def c94_k7 : C :=
 .seq (.ops [0] [.p (some 26) (.move (.t 0)),
  .p (some 27) (.move (.t 0)),
  .p (some 28) (.nilCheck (.t 27)),
  .p (some 29) (.faddr 0 (.t 28)),
  .p (some 30) (.load false 1 (.t 29)),
  .call (some 31) 112 [(.t 30), (.c (.int .i64 32))],
  .p (some 32) (.nilCheck (.t 26)),
  .p (some 33) (.faddr 0 (.t 32)),
  .e .none (.store 1 (.t 33) (.t 31))])
 (c94_k6)
def c94_k8 : C :=
 .seq (.drw [0] 0 [⟨.none, .p (some 13) (.move (.t 0)), [], 0⟩,
  ⟨.none, .p (some 14) (.move (.t 0)), [], 0⟩,
  ⟨.none, .p (some 15) (.nilCheck (.t 14)), [1], 0⟩,
  ⟨.none, .p (some 16) (.faddr 1 (.t 15)), [2], 0⟩,
  ⟨.none, .p (some 17) (.load false 1 (.t 16)), [3], 0⟩,
  ⟨.none, .call (some 18) 112 [(.t 17), (.c (.int .i64 13))], [4], 0⟩,
  ⟨.none, .p (some 19) (.move (.t 0)), [], 0⟩,
  ⟨.none, .p (some 20) (.nilCheck (.t 19)), [6], 0⟩,
  ⟨.none, .p (some 21) (.faddr 0 (.t 20)), [7], 0⟩,
  ⟨.none, .p (some 22) (.load false 1 (.t 21)), [8], 0⟩,
  ⟨.none, .p (some 23) (.bin .xor .int [] (.t 18) (.t 22)), [5, 9], 0⟩,
  ⟨.none, .p (some 24) (.nilCheck (.t 13)), [0, 0, 1, 2, 3, 4, 5, 6, 7, 8, 9, 10], 0⟩,
  ⟨.none, .p (some 25) (.faddr 1 (.t 24)), [11, 0, 1, 2, 3, 4, 5, 6, 7, 8, 9, 10], 0⟩,
  ⟨.none, .e .none (.store 1 (.t 25) (.t 23)), [12, 10, 5, 0, 1, 2, 3, 4, 5, 6, 7, 8, 9, 10], 0⟩])
 (c94_k7)
def c94 : FnC := ⟨1, 114, [],
 .seq (.drw [0] 0 [⟨.none, .p (some 2) (.move (.t 0)), [], 0⟩,
  ⟨.none, .p (some 3) (.nilCheck (.t 2)), [0], 0⟩,
  ⟨.none, .p (some 4) (.faddr 0 (.t 3)), [1], 0⟩,
  ⟨.none, .p (some 5) (.load false 1 (.t 4)), [2], 0⟩,
  ⟨.none, .p (some 6) (.move (.t 0)), [], 0⟩,
  ⟨.none, .p (some 7) (.nilCheck (.t 6)), [4], 0⟩,
  ⟨.none, .p (some 8) (.faddr 1 (.t 7)), [5], 0⟩,
  ⟨.none, .p (some 9) (.load false 1 (.t 8)), [6], 0⟩,
  ⟨.none, .p (some 10) (.bin .add .int [] (.t 5) (.t 9)), [3, 7], 0⟩,
  ⟨.none, .p (some 11) (.nilCheck (.t 2)), [0, 0, 1, 2, 3, 4, 5, 6, 7, 8], 0⟩,
  ⟨.none, .p (some 12) (.faddr 0 (.t 11)), [9, 0, 1, 2, 3, 4, 5, 6, 7, 8], 0⟩,
  ⟨.none, .e .none (.store 1 (.t 12) (.t 10)), [10, 8, 0, 1, 2, 3, 4, 5, 6, 7, 8], 0⟩])
 (c94_k8),
 []⟩

def c112_k0 : C :=
 .seq (.ops [4] [.p (some 9) (.move (.t 0)),
  .p (some 10) (.move (.t 5)),
  .p (some 11) (.bin .shl .int [] (.t 9) (.t 10)),
  .p (some 12) (.move (.t 0)),
  .p (some 13) (.move (.t 5)),
  .p (some 14) (.bin .sub .int [] (.c (.int .u64 64)) (.t 13)),
  .p (some 15) (.bin .shr .int [] (.t 12) (.t 14)),
  .p (some 16) (.bin .or .int [] (.t 11) (.t 15)),
  .p (some 4) (.move (.t 16))])
 (.ret)
def c112_k1 : C :=
 .seq (.ops [0, 5] [.p (some 6) (.move (.t 1)),
  .p (some 7) (.conv (.int .u64) (.t 6)),
  .p (some 8) (.bin .and .int [] (.t 7) (.c (.int .u64 63))),
  .p (some 5) (.move (.t 8))])
 (c112_k0)
def c112 : FnC := ⟨2, 17, [.tmp 4],
 .seq (.ops [0, 1] [.p (some 4) (.move (.c (.int .u64 0)))])
 (c112_k1),
 []⟩

def c33_k0 : C :=
 .seq (.ops [4, 5] [.p (some 42) (.move (.t 6)),
  .p (some 43) (.move (.t 7)),
  .p (some 4) (.move (.t 42)),
  .p (some 5) (.move (.t 43))])
 (.ret)
def c33_k1 : C :=
 .cond (.t 35)
  (.ops [0, 1, 6, 7, 12, 13, 14] [.p (some 37) (.move (.t 6)),
   .p (some 38) (.load true 32 (.t 10)),
   .p (some 39) (.bslice 87 1 32 (List.replicate 32 (.int .u8 0)) [(0, (.t 38))]),
   .e (some 40) (.append 87 32 32 (.t 37) (.t 39)),
   .p (some 6) (.move (.t 40))])
  (.ops [0, 1, 6, 7, 12, 13, 14] [.p (some 25) (.move (.t 7)),
   .p (some 26) (.move (.t 9)),
   .p (some 27) (.bslice 55 1 1 [(.int .u32 0)] [(0, (.t 26))]),
   .e (some 28) (.append 55 1 4 (.t 25) (.t 27)),
   .p (some 7) (.move (.t 28))])
def c33_k2 : C :=
 .seq (.ops [0, 1, 6, 7, 9, 10, 12, 13, 14, 35] [.p (some 36) (.move (.t 11)),
   .p (some 35) (.move (.t 36))])
  (c33_k1)
def c33_k3 : C :=
 .cond (.t 29)
  (.skip)
  (c33_k2)
def c33_k4 : C :=
 .seq (.ops [0, 1, 6, 7, 9, 10, 11, 12, 13, 14, 29] [.p (some 30) (.move (.t 1)),
  .p (some 31) (.move (.t 8)),
  .p (some 32) (.slice 1 (.t 30) .none (some (.t 31)) .none),
  .p (some 33) (.move (.t 9)),
  .call (some 34) 54 [(.t 32), (.t 33)],
  .p (some 29) (.move (.t 34))])
 (c33_k3)
def c33_k5 : C :=
 .block 2 (c33_k4)
def c33_k6 : C :=
 .seq (.ops [0, 1, 6, 7, 8, 9, 10, 11, 12, 13, 14] [.p (some 20) (.move (.t 0)),
  .p (some 21) (.move (.t 9)),
  .call (some 22) 59 [(.t 20), (.t 21)],
  .p (some 19) (.move (.t 22)),
  .p (some 23) (.extract (.t 19) 0),
  .p (some 24) (.extract (.t 19) 1),
  .e (some 10) (.alloc (List.replicate 32 (.d (.int .u8 0)))),
  .e .none (.store 32 (.t 10) (.t 23)),
  .p (some 11) (.move (.t 24))])
 (c33_k5)
def c33_k7 : C :=
 .seq (.ops [0, 1, 6, 7, 8, 9, 12, 13, 14] [.p (some 16) (.move (.t 14)),
  .p (some 17) (.iaddr 1 (.t 12) (.t 14)),
  .p (some 18) (.load false 1 (.t 17)),
  .p (some 8) (.move (.t 16)),
  .p (some 9) (.move (.t 18))])
 (c33_k6)
def c33_k8 : C :=
 .seq (.block 1 (c33_k7))
 (.ops [0, 1, 6, 7, 12, 13, 14] [.p (some 41) (.bin .add .int [] (.t 14) (.c (.int .i64 1))),
  .p (some 14) (.move (.t 41))])
def c33_k9 : C :=
 .seq (.cond (.t 15)
  (.skip)
  (.exit 0))
 (c33_k8)
def c33_l10 : C :=
 .seq (.ops [0, 1, 6, 7, 12, 13, 14, 15] [.p (some 15) (.bin .lss .int [] (.t 14) (.t 13))])
 (c33_k9)
def c33_k11 : C :=
 .block 0 (.loop [0, 1, 6, 7, 12, 13, 14] c33_l10)
def c33_k12 : C :=
 .seq (.seq (.ops [0, 1, 6, 7, 12, 13, 14] [.p (some 12) (.move (.t 1)),
  .p (some 13) (.len .slice (.t 12)),
  .p (some 14) (.move (.c (.int .i64 0)))])
 (c33_k11))
 (c33_k0)
def c33_k13 : C :=
 .seq (.ops [0, 1, 6, 7] [.p (some 7) (.move (.c .nils))])
 (c33_k12)
def c33_k14 : C :=
 .seq (.ops [0, 1, 6] [.p (some 6) (.move (.c .nils))])
 (c33_k13)
def c33 : FnC := ⟨2, 44, [.tmp 4, .tmp 5],
 .seq (.ops [0, 1] [.p (some 4) (.move (.c .nils)),
  .p (some 5) (.move (.c .nils))])
 (c33_k14),
 []⟩

def c59_k0 : C :=
 .seq (.ops [4, 5] [.p (some 20) (.load true 32 (.t 6)),
  .p (some 21) (.move (.t 7)),
  .e .none (.store 32 (.t 4) (.t 20)),
  .p (some 5) (.move (.t 21))])
 (.ret)
def c59_k1 : C :=
 .seq (.ops [4, 6, 7] [.p (some 12) (.move (.t 0)),
  .p (some 13) (.nilCheck (.t 12)),
  .p (some 14) (.faddr 2 (.t 13)),
  .p (some 15) (.load false 1 (.t 14)),
  .p (some 16) (.move (.t 1)),
  .p (some 17) (.lookup false ([(.int .u32)]) (.ca (List.replicate 32 (.int .u8 0))) true (.t 15) (.t 16)),
  .p (some 11) (.move (.t 17)),
  .p (some 18) (.extract (.t 11) 0),
  .p (some 19) (.extract (.t 11) 1),
  .e (some 6) (.alloc (List.replicate 32 (.d (.int .u8 0)))),
  .e .none (.store 32 (.t 6) (.t 18)),
  .p (some 7) (.move (.t 19))])
 (c59_k0)
def c59_k2 : C :=
 .cond (.t 9)
  (.seq (.ops [4, 5] [.p (some 10) (.build (List.replicate 32 (.int .u8 0)) []),
   .e .none (.store 32 (.t 4) (.t 10)),
   .p (some 5) (.move (.c (.bool false)))])
  (.ret))
  (.skip)
def c59_k3 : C :=
 .seq (.seq (.ops [0, 1, 4, 9] [.p (some 8) (.move (.t 0)),
  .p (some 9) (.bin .eql .ptr [] (.t 8) (.c .nilp))])
 (c59_k2))
 (c59_k1)
def c59 : FnC := ⟨2, 22, [.cell 4 true 32, .tmp 5],
 .seq (.ops [0, 1, 4] [.e (some 4) (.alloc (List.replicate 32 (.d (.int .u8 0)))),
  .p (some 5) (.move (.c (.bool false)))])
 (c59_k3),
 []⟩

def c54_k0 : C :=
 .seq (.ops [4] [.p (some 5) (.move (.t 0)),
  .p (some 6) (.move (.t 1)),
  .call (some 7) 71 [(.t 5), (.t 6)],
  .p (some 8) (.bin .geq .int [] (.t 7) (.c (.int .i64 0))),
  .p (some 4) (.move (.t 8))])
 (.ret)
def c54 : FnC := ⟨2, 9, [.tmp 4],
 .seq (.ops [0, 1] [.p (some 4) (.move (.c (.bool false)))])
 (c54_k0),
 []⟩

def c71_k0 : C :=
 .cond (.t 16)
  (.seq (.ops [4] [.p (some 17) (.move (.t 5)),
   .p (some 4) (.move (.t 17))])
  (.ret))
  (.skip)
def c71_k1 : C :=
 .seq (.ops [0, 1, 5, 7, 8, 16] [.p (some 11) (.move (.t 1)),
  .p (some 12) (.move (.t 0)),
  .p (some 13) (.move (.t 5)),
  .p (some 14) (.iaddr 1 (.t 12) (.t 13)),
  .p (some 15) (.load false 1 (.t 14)),
  .p (some 16) (.bin .eql .int [] (.t 11) (.t 15))])
 (c71_k0)
def c71_k2 : C :=
 .seq (.ops [0, 1, 5, 7, 8] [.p (some 10) (.move (.t 8)),
  .p (some 5) (.move (.t 10))])
 (c71_k1)
def c71_k3 : C :=
 .seq (.block 1 (c71_k2))
 (.ops [0, 1, 7, 8] [.p (some 18) (.bin .add .int [] (.t 8) (.c (.int .i64 1))),
  .p (some 8) (.move (.t 18))])
def c71_k4 : C :=
 .seq (.cond (.t 9)
  (.skip)
  (.exit 0))
 (c71_k3)
def c71_l5 : C :=
 .seq (.ops [0, 1, 7, 8, 9] [.p (some 9) (.bin .lss .int [] (.t 8) (.t 7))])
 (c71_k4)
def c71_k6 : C :=
 .block 0 (.loop [0, 1, 7, 8] c71_l5)
def c71_k7 : C :=
 .seq (.seq (.ops [0, 1, 7, 8] [.p (some 6) (.move (.t 0)),
  .p (some 7) (.len .slice (.t 6)),
  .p (some 8) (.move (.c (.int .i64 0)))])
 (c71_k6))
 (.seq (.ops [4] [.p (some 4) (.move (.c (.int .i64 (-1))))])
 (.ret))
def c71 : FnC := ⟨2, 19, [.tmp 4],
 .seq (.ops [0, 1] [.p (some 4) (.move (.c (.int .i64 0)))])
 (c71_k7),
 []⟩

def c17_k0 : C :=
 .seq (.ops [4] [.p (some 5) (.move (.t 0)),
  .call (some 6) 40 [(.t 5)],
  .p (some 7) (.move (.t 1)),
  .p (some 8) (.bin .eql .int [] (.t 6) (.t 7)),
  .p (some 4) (.move (.t 8))])
 (.ret)
def c17 : FnC := ⟨2, 9, [.tmp 4],
 .seq (.ops [0, 1] [.p (some 4) (.move (.c (.bool false)))])
 (c17_k0),
 []⟩

def c40_k0 : C :=
 .cond (.t 16)
  (.seq (.ops [2] [.p (some 17) (.move (.t 3)),
   .p (some 2) (.move (.t 17))])
  (.ret))
  (.skip)
def c40_k1 : C :=
 .seq (.ops [3, 16] [.p (some 12) (.move (.t 4)),
  .p (some 13) (.move (.t 12)),
  .when 13 true [.p (some 14) (.move (.t 3)),
   .p (some 15) (.bin .neq .int [] (.t 14) (.c (.int .i64 0)))],
  .p (some 16) (.pick (.t 13) (.t 15) (.c (.bool false)))])
 (c40_k0)
def c40_k2 : C :=
 .seq (.seq (.ops [3, 4] [.p (some 8) (.move (.t 0)),
  .p (some 9) (.assert 39 (.c (.int .i64 0)) true (.t 8)),
  .p (some 7) (.move (.t 9)),
  .p (some 10) (.extract (.t 7) 0),
  .p (some 11) (.extract (.t 7) 1),
  .p (some 3) (.move (.t 10)),
  .p (some 4) (.move (.t 11))])
 (c40_k1))
 (.seq (.ops [2] [.p (some 2) (.move (.c (.int .i64 (-1))))])
 (.ret))
def c40_k3 : C :=
 .cond (.t 6)
  (.seq (.ops [2] [.p (some 2) (.move (.c (.int .i64 0)))])
  (.ret))
  (.skip)
def c40_k4 : C :=
 .seq (.seq (.ops [0, 6] [.p (some 5) (.move (.t 0)),
  .p (some 6) (.bin .eql .iface [] (.t 5) (.c .nili))])
 (c40_k3))
 (c40_k2)
def c40 : FnC := ⟨1, 18, [.tmp 2],
 .seq (.ops [0] [.p (some 2) (.move (.c (.int .i64 0)))])
 (c40_k4),
 []⟩

def c31_k0 : C :=
 .seq (.ops [2] [.p (some 5) (.move (.t 0)),
  .p (some 6) (.nilCheck (.t 5)),
  .p (some 7) (.faddr 2 (.t 6)),
  .p (some 8) (.load false 1 (.t 7)),
  .p (some 9) (.len .map (.t 8)),
  .p (some 2) (.move (.t 9))])
 (.ret)
def c31_k1 : C :=
 .cond (.t 4)
  (.seq (.ops [2] [.p (some 2) (.move (.c (.int .i64 0)))])
  (.ret))
  (.skip)
def c31_k2 : C :=
 .seq (.seq (.ops [0, 4] [.p (some 3) (.move (.t 0)),
  .p (some 4) (.bin .eql .ptr [] (.t 3) (.c .nilp))])
 (c31_k1))
 (c31_k0)
def c31 : FnC := ⟨1, 10, [.tmp 2],
 .seq (.ops [0] [.p (some 2) (.move (.c (.int .i64 0)))])
 (c31_k2),
 []⟩

def c32_k0 : C :=
 .seq (.ops [4, 5] [.p (some 9) (.move (.t 1)),
  .p (some 10) (.move (.t 0)),
  .call (some 11) 58 [(.t 10)],
  .call (some 12) 11 [(.t 9), (.t 11)],
  .p (some 13) (.extract (.t 12) 0),
  .p (some 14) (.extract (.t 12) 1),
  .p (some 4) (.move (.t 13)),
  .p (some 5) (.move (.t 14))])
 (.ret)
def c32_k1 : C :=
 .cond (.t 7)
  (.seq (.ops [4, 5] [.p (some 8) (.mkif 39 (.c (.int .i64 4))),
   .p (some 4) (.move (.c .nilp)),
   .p (some 5) (.move (.t 8))])
  (.ret))
  (.skip)
def c32_k2 : C :=
 .seq (.seq (.ops [0, 1, 7] [.p (some 6) (.move (.t 0)),
  .p (some 7) (.bin .eql .ptr [] (.t 6) (.c .nilp))])
 (c32_k1))
 (c32_k0)
def c32 : FnC := ⟨2, 15, [.tmp 4, .tmp 5],
 .seq (.ops [0, 1] [.p (some 4) (.move (.c .nilp)),
  .p (some 5) (.move (.c .nili))])
 (c32_k2),
 []⟩

def c58_k0 : C :=
 .seq (.ops [2] [.p (some 5) (.move (.t 0)),
  .p (some 6) (.nilCheck (.t 5)),
  .p (some 7) (.faddr 2 (.t 6)),
  .p (some 8) (.load false 1 (.t 7)),
  .call (some 9) 77 [(.t 8)],
  .call (some 10) 76 [(.t 9)],
  .p (some 2) (.move (.t 10))])
 (.ret)
def c58_k1 : C :=
 .cond (.t 4)
  (.seq (.ops [2] [.p (some 2) (.move (.c .nils))])
  (.ret))
  (.skip)
def c58_k2 : C :=
 .seq (.seq (.ops [0, 4] [.p (some 3) (.move (.t 0)),
  .p (some 4) (.bin .eql .ptr [] (.t 3) (.c .nilp))])
 (c58_k1))
 (c58_k0)
def c58 : FnC := ⟨1, 11, [.tmp 2],
 .seq (.ops [0] [.p (some 2) (.move (.c .nils))])
 (c58_k2),
 []⟩

def c77_k0 : C :=
 .seq (.ops [2] [.p (some 3) (.mkfn (.func 97) [] [(.t 1)]),
  .p (some 2) (.move (.t 3))])
 (.ret)
def c77 : FnC := ⟨1, 4, [.tmp 2],
 .seq (.ops [1] [.e (some 1) (.box (.t 0)),
  .p (some 2) (.move (.c .nilf))])
 (c77_k0),
 []⟩

def c97_k0 : C :=
 .cond (.t 13)
  (.ret)
  (.skip)
def c97_k1 : C :=
 .seq (.ops [0, 5, 13] [.p (some 10) (.move (.t 0)),
  .p (some 11) (.move (.t 3)),
  .callv (some 12) (.t 10) [(.t 11)],
  .p (some 13) (.una .not (.t 12))])
 (c97_k0)
def c97_k2 : C :=
 .seq (.ops [0, 3, 5] [.e (some 8) (.entry (.t 5)),
  .p (some 9) (.extract (.t 8) 0),
  .p (some 3) (.move (.t 9))])
 (c97_k1)
def c97_k3 : C :=
 .block 1 (c97_k2)
def c97_k4 : C :=
 .seq (.cond (.t 7)
  (.skip)
  (.exit 0))
 (c97_k3)
def c97_l5 : C :=
 .seq (.ops [0, 5, 7] [.next (some 6) (.t 5),
  .p (some 7) (.extract (.t 6) 0)])
 (c97_k4)
def c97_k6 : C :=
 .block 0 (.loop [0, 5] c97_l5)
def c97 : FnC := ⟨2, 14, [],
 .seq (.ops [0, 5] [.p (some 4) (.load false 1 (.t 1)),
  .e (some 5) (.range (.t 4))])
 (c97_k6),
 []⟩

def c76_k0 : C :=
 .seq (.ops [2] [.p (some 8) (.move (.t 3)),
  .p (some 2) (.move (.t 8))])
 (.ret)
def c76_k1 : C :=
 .seq (.ops [3] [.p (some 6) (.move (.t 3)),
  .call (some 7) 96 [(.t 6)]])
 (c76_k0)
def c76_k2 : C :=
 .seq (.ops [3] [.p (some 4) (.move (.t 0)),
  .call (some 5) 95 [(.t 4)],
  .p (some 3) (.move (.t 5))])
 (c76_k1)
def c76 : FnC := ⟨1, 9, [.tmp 2],
 .seq (.ops [0] [.p (some 2) (.move (.c .nils))])
 (c76_k2),
 []⟩

def c95_k0 : C :=
 .seq (.ops [2] [.p (some 3) (.move (.t 0)),
  .call (some 4) 113 [(.c .nils), (.t 3)],
  .p (some 2) (.move (.t 4))])
 (.ret)
def c95 : FnC := ⟨1, 5, [.tmp 2],
 .seq (.ops [0] [.p (some 2) (.move (.c .nils))])
 (c95_k0),
 []⟩

def c113_k0 : C :=
 .seq (.ops [4] [.p (some 12) (.load false 1 (.t 2)),
  .p (some 4) (.move (.t 12))])
 (.ret)
def c113_a1 : C :=
 .ops [2, 5] [.p (some 5) (.move (.t 7))]
def c113_b2 : C :=
 .block 1 (.ops [] [.p (some 8) (.load false 1 (.t 2)),
  .p (some 9) (.move (.t 5)),
  .p (some 10) (.bslice 55 1 1 [(.int .u32 0)] [(0, (.t 9))]),
  .e (some 11) (.append 55 1 4 (.t 8) (.t 10)),
  .e .none (.store 1 (.t 2) (.t 11))])
def c113_k3 : C :=
 .block 0 (.rangeF [2] (.t 6) [7] c113_a1 c113_b2)
def c113_k4 : C :=
 .seq (.seq (.ops [2, 6] [.p (some 6) (.move (.t 1))])
 (c113_k3))
 (c113_k0)
def c113 : FnC := ⟨2, 13, [.tmp 4],
 .seq (.ops [1, 2] [.e (some 2) (.box (.t 0)),
  .p (some 4) (.move (.c .nils))])
 (c113_k4),
 []⟩

def c96_k0 : C :=
 .ops [] [.p (some 5) (.move (.t 0)),
  .p (some 6) (.move (.t 2)),
  .p (some 7) (.move (.t 2)),
  .p (some 8) (.conv (.int .u64) (.t 7)),
  .call (some 9) 115 [(.t 8)],
  .call (some 10) 114 [(.t 5), (.c (.int .i64 0)), (.t 6), (.t 9)]]
def c96 : FnC := ⟨1, 11, [],
 .seq (.ops [0, 2] [.p (some 3) (.move (.t 0)),
  .p (some 4) (.len .slice (.t 3)),
  .p (some 2) (.move (.t 4))])
 (c96_k0),
 []⟩

def c115_k0 : C :=
 .seq (.ops [2] [.p (some 6) (.move (.t 0)),
  .call (some 7) 132 [(.t 6)],
  .p (some 2) (.move (.t 7))])
 (.ret)
def c115_k1 : C :=
 .seq (.cond (.c (.bool false))
  (.seq (.ops [2] [.p (some 3) (.move (.t 0)),
   .p (some 4) (.conv (.int .u32) (.t 3)),
   .call (some 5) 131 [(.t 4)],
   .p (some 2) (.move (.t 5))])
  (.ret))
  (.skip))
 (c115_k0)
def c115 : FnC := ⟨1, 8, [.tmp 2],
 .seq (.ops [0] [.p (some 2) (.move (.c (.int .i64 0)))])
 (c115_k1),
 []⟩

def c131_k0 : C :=
 .seq (.ops [2] [.p (some 13) (.move (.t 2)),
  .p (some 14) (.move (.t 0)),
  .p (some 15) (.conv (.int .u8) (.t 14)),
  .p (some 16) (.indexStr (.c (.str [0, 1, 2, 2, 3, 3, 3, 3, 4, 4, 4, 4, 4, 4, 4, 4, 5, 5, 5, 5, 5, 5, 5, 5, 5, 5, 5, 5, 5, 5, 5, 5, 6, 6, 6, 6, 6, 6, 6, 6, 6, 6, 6, 6, 6, 6, 6, 6, 6, 6, 6, 6, 6, 6, 6, 6, 6, 6, 6, 6, 6, 6, 6, 6, 7, 7, 7, 7, 7, 7, 7, 7, 7, 7, 7, 7, 7, 7, 7, 7, 7, 7, 7, 7, 7, 7, 7, 7, 7, 7, 7, 7, 7, 7, 7, 7, 7, 7, 7, 7, 7, 7, 7, 7, 7, 7, 7, 7, 7, 7, 7, 7, 7, 7, 7, 7, 7, 7, 7, 7, 7, 7, 7, 7, 7, 7, 7, 7, 8, 8, 8, 8, 8, 8, 8, 8, 8, 8, 8, 8, 8, 8, 8, 8, 8, 8, 8, 8, 8, 8, 8, 8, 8, 8, 8, 8, 8, 8, 8, 8, 8, 8, 8, 8, 8, 8, 8, 8, 8, 8, 8, 8, 8, 8, 8, 8, 8, 8, 8, 8, 8, 8, 8, 8, 8, 8, 8, 8, 8, 8, 8, 8, 8, 8, 8, 8, 8, 8, 8, 8, 8, 8, 8, 8, 8, 8, 8, 8, 8, 8, 8, 8, 8, 8, 8, 8, 8, 8, 8, 8, 8, 8, 8, 8, 8, 8, 8, 8, 8, 8, 8, 8, 8, 8, 8, 8, 8, 8, 8, 8, 8, 8, 8, 8, 8, 8, 8, 8, 8, 8, 8, 8, 8, 8, 8, 8])) (.t 15)),
  .p (some 17) (.conv (.int .i64) (.t 16)),
  .p (some 18) (.bin .add .int [] (.t 13) (.t 17)),
  .p (some 2) (.move (.t 18))])
 (.ret)
def c131_k1 : C :=
 .ops [0, 2] [.p (some 11) (.move (.t 2)),
  .p (some 12) (.bin .add .int [] (.t 11) (.c (.int .i64 8))),
  .p (some 2) (.move (.t 12))]
def c131_k2 : C :=
 .cond (.t 8)
  (.seq (.ops [0, 2] [.p (some 9) (.move (.t 0)),
   .p (some 10) (.bin .shr .int [] (.t 9) (.c (.int .u64 8))),
   .p (some 0) (.move (.t 10))])
  (c131_k1))
  (.skip)
def c131_k3 : C :=
 .seq (.seq (.ops [0, 2, 8] [.p (some 7) (.move (.t 0)),
  .p (some 8) (.bin .geq .int [] (.t 7) (.c (.int .u32 256)))])
 (c131_k2))
 (c131_k0)
def c131_k4 : C :=
 .cond (.t 4)
  (.seq (.ops [0] [.p (some 5) (.move (.t 0)),
   .p (some 6) (.bin .shr .int [] (.t 5) (.c (.int .u64 16))),
   .p (some 0) (.move (.t 6))])
  (.ops [0, 2] [.p (some 2) (.move (.c (.int .i64 16)))]))
  (.skip)
def c131_k5 : C :=
 .seq (.seq (.ops [0, 2, 4] [.p (some 3) (.move (.t 0)),
  .p (some 4) (.bin .geq .int [] (.t 3) (.c (.int .u32 65536)))])
 (c131_k4))
 (c131_k3)
def c131 : FnC := ⟨1, 19, [.tmp 2],
 .seq (.ops [0, 2] [.p (some 2) (.move (.c (.int .i64 0)))])
 (c131_k5),
 []⟩

def c132_k0 : C :=
 .seq (.ops [2] [.p (some 19) (.move (.t 2)),
  .p (some 20) (.move (.t 0)),
  .p (some 21) (.conv (.int .u8) (.t 20)),
  .p (some 22) (.indexStr (.c (.str [0, 1, 2, 2, 3, 3, 3, 3, 4, 4, 4, 4, 4, 4, 4, 4, 5, 5, 5, 5, 5, 5, 5, 5, 5, 5, 5, 5, 5, 5, 5, 5, 6, 6, 6, 6, 6, 6, 6, 6, 6, 6, 6, 6, 6, 6, 6, 6, 6, 6, 6, 6, 6, 6, 6, 6, 6, 6, 6, 6, 6, 6, 6, 6, 7, 7, 7, 7, 7, 7, 7, 7, 7, 7, 7, 7, 7, 7, 7, 7, 7, 7, 7, 7, 7, 7, 7, 7, 7, 7, 7, 7, 7, 7, 7, 7, 7, 7, 7, 7, 7, 7, 7, 7, 7, 7, 7, 7, 7, 7, 7, 7, 7, 7, 7, 7, 7, 7, 7, 7, 7, 7, 7, 7, 7, 7, 7, 7, 8, 8, 8, 8, 8, 8, 8, 8, 8, 8, 8, 8, 8, 8, 8, 8, 8, 8, 8, 8, 8, 8, 8, 8, 8, 8, 8, 8, 8, 8, 8, 8, 8, 8, 8, 8, 8, 8, 8, 8, 8, 8, 8, 8, 8, 8, 8, 8, 8, 8, 8, 8, 8, 8, 8, 8, 8, 8, 8, 8, 8, 8, 8, 8, 8, 8, 8, 8, 8, 8, 8, 8, 8, 8, 8, 8, 8, 8, 8, 8, 8, 8, 8, 8, 8, 8, 8, 8, 8, 8, 8, 8, 8, 8, 8, 8, 8, 8, 8, 8, 8, 8, 8, 8, 8, 8, 8, 8, 8, 8, 8, 8, 8, 8, 8, 8, 8, 8, 8, 8, 8, 8, 8, 8, 8, 8, 8, 8])) (.t 21)),
  .p (some 23) (.conv (.int .i64) (.t 22)),
  .p (some 24) (.bin .add .int [] (.t 19) (.t 23)),
  .p (some 2) (.move (.t 24))])
 (.ret)
def c132_k1 : C :=
 .ops [0, 2] [.p (some 17) (.move (.t 2)),
  .p (some 18) (.bin .add .int [] (.t 17) (.c (.int .i64 8))),
  .p (some 2) (.move (.t 18))]
def c132_k2 : C :=
 .cond (.t 14)
  (.seq (.ops [0, 2] [.p (some 15) (.move (.t 0)),
   .p (some 16) (.bin .shr .int [] (.t 15) (.c (.int .u64 8))),
   .p (some 0) (.move (.t 16))])
  (c132_k1))
  (.skip)
def c132_k3 : C :=
 .seq (.seq (.ops [0, 2, 14] [.p (some 13) (.move (.t 0)),
  .p (some 14) (.bin .geq .int [] (.t 13) (.c (.int .u64 256)))])
 (c132_k2))
 (c132_k0)
def c132_k4 : C :=
 .ops [0, 2] [.p (some 11) (.move (.t 2)),
  .p (some 12) (.bin .add .int [] (.t 11) (.c (.int .i64 16))),
  .p (some 2) (.move (.t 12))]
def c132_k5 : C :=
 .cond (.t 8)
  (.seq (.ops [0, 2] [.p (some 9) (.move (.t 0)),
   .p (some 10) (.bin .shr .int [] (.t 9) (.c (.int .u64 16))),
   .p (some 0) (.move (.t 10))])
  (c132_k4))
  (.skip)
def c132_k6 : C :=
 .seq (.seq (.ops [0, 2, 8] [.p (some 7) (.move (.t 0)),
  .p (some 8) (.bin .geq .int [] (.t 7) (.c (.int .u64 65536)))])
 (c132_k5))
 (c132_k3)
def c132_k7 : C :=
 .cond (.t 4)
  (.seq (.ops [0] [.p (some 5) (.move (.t 0)),
   .p (some 6) (.bin .shr .int [] (.t 5) (.c (.int .u64 32))),
   .p (some 0) (.move (.t 6))])
  (.ops [0, 2] [.p (some 2) (.move (.c (.int .i64 32)))]))
  (.skip)
def c132_k8 : C :=
 .seq (.seq (.ops [0, 2, 4] [.p (some 3) (.move (.t 0)),
  .p (some 4) (.bin .geq .int [] (.t 3) (.c (.int .u64 4294967296)))])
 (c132_k7))
 (c132_k6)
def c132 : FnC := ⟨1, 25, [.tmp 2],
 .seq (.ops [0, 2] [.p (some 2) (.move (.c (.int .i64 0)))])
 (c132_k8),
 []⟩

def c114_k0 : C :=
 .ops [0, 1, 2, 3, 8, 9] [.p (some 122) (.move (.t 14)),
  .p (some 123) (.bin .add .int [] (.t 122) (.c (.int .i64 1))),
  .p (some 1) (.move (.t 123))]
def c114_k1 : C :=
 .seq (.ops [0, 2, 3, 8, 9, 14] [.p (some 117) (.move (.t 0)),
  .p (some 118) (.move (.t 1)),
  .p (some 119) (.move (.t 14)),
  .p (some 120) (.move (.t 3)),
  .call (some 121) 114 [(.t 117), (.t 118), (.t 119), (.t 120)]])
 (c114_k0)
def c114_k2 : C :=
 .seq (.ops [0, 1, 2, 3, 8, 9, 14] [.p (some 114) (.move (.t 16)),
   .p (some 115) (.move (.t 18)),
   .p (some 116) (.bin .geq .int [] (.t 114) (.t 115)),
   .p (some 8) (.move (.t 116))])
  (c114_k1)
def c114_k3 : C :=
 .seq (.ops [0, 1, 3, 8, 9, 14] [.p (some 127) (.move (.t 0)),
  .p (some 128) (.move (.t 14)),
  .p (some 129) (.bin .add .int [] (.t 128) (.c (.int .i64 1))),
  .p (some 130) (.move (.t 2)),
  .p (some 131) (.move (.t 3)),
  .call (some 132) 114 [(.t 127), (.t 129), (.t 130), (.t 131)]])
 (.ops [0, 1, 2, 3, 8, 9] [.p (some 133) (.move (.t 14)),
  .p (some 2) (.move (.t 133))])
def c114_k4 : C :=
 .seq (.ops [0, 1, 2, 3, 8, 9, 14] [.p (some 124) (.move (.t 17)),
   .p (some 125) (.move (.t 18)),
   .p (some 126) (.bin .geq .int [] (.t 124) (.t 125)),
   .p (some 8) (.move (.t 126))])
  (c114_k3)
def c114_k5 : C :=
 .cond (.t 113)
  (c114_k2)
  (c114_k4)
def c114_k6 : C :=
 .seq (.ops [0, 1, 2, 3, 9, 14, 16, 17, 18, 113] [.p (some 111) (.move (.t 16)),
  .p (some 112) (.move (.t 17)),
  .p (some 113) (.bin .lss .int [] (.t 111) (.t 112))])
 (c114_k5)
def c114_k7 : C :=
 .seq (.ops [0, 1, 2, 3, 9, 14, 16, 17, 18] [.p (some 109) (.move (.t 10)),
  .p (some 110) (.bin .quo .int [] (.t 109) (.c (.int .i64 8))),
  .p (some 18) (.move (.t 110))])
 (c114_k6)
def c114_k8 : C :=
 .seq (.ops [0, 1, 2, 3, 9, 10, 14, 16, 17] [.p (some 103) (.move (.t 14)),
  .p (some 104) (.move (.t 1)),
  .p (some 105) (.bin .sub .int [] (.t 103) (.t 104)),
  .p (some 106) (.move (.t 2)),
  .p (some 107) (.move (.t 14)),
  .p (some 108) (.bin .sub .int [] (.t 106) (.t 107)),
  .p (some 16) (.move (.t 105)),
  .p (some 17) (.move (.t 108))])
 (c114_k7)
def c114_k9 : C :=
 .seq (.ops [0, 1, 2, 3, 9, 10, 14] [.p (some 102) (.move (.t 15)),
  .p (some 9) (.move (.t 102))])
 (c114_k8)
def c114_k10 : C :=
 .seq (.ops [0, 1, 2, 3, 10, 14, 15] [.p (some 95) (.move (.t 0)),
  .p (some 96) (.move (.t 1)),
  .p (some 97) (.move (.t 2)),
  .p (some 98) (.move (.t 11)),
  .call (some 99) 130 [(.t 95), (.t 96), (.t 97), (.t 98)],
  .p (some 94) (.move (.t 99)),
  .p (some 100) (.extract (.t 94) 0),
  .p (some 101) (.extract (.t 94) 1),
  .p (some 14) (.move (.t 100)),
  .p (some 15) (.move (.t 101))])
 (c114_k9)
def c114_k11 : C :=
 .seq (.ops [0, 1, 2, 3, 8, 9] [.p (some 93) (.move (.t 13)),
  .p (some 1) (.move (.t 93))])
 (.exit 1)
def c114_k12 : C :=
 .cond (.t 87)
  (.seq (.ops [0, 2, 3, 8, 9, 13] [.p (some 88) (.move (.t 0)),
   .p (some 89) (.move (.t 1)),
   .p (some 90) (.move (.t 2)),
   .p (some 91) (.move (.t 11)),
   .call (some 92) 129 [(.t 88), (.t 89), (.t 90), (.t 91)],
   .p (some 13) (.move (.t 92))])
  (c114_k11))
  (.skip)
def c114_k13 : C :=
 .seq (.seq (.drw [0, 1, 2, 3, 8, 9, 10, 11, 87] 0 [⟨.none, .p (some 73) (.move (.t 1)), [], 0⟩,
  ⟨.none, .p (some 74) (.bin .gtr .int [] (.t 73) (.c (.int .i64 0))), [0], 0⟩,
  ⟨.none, .p (some 75) (.move (.t 74)), [1], 0⟩,
  ⟨(some (75, true)), .p (some 76) (.move (.t 0)), [2], 0⟩,
  ⟨(some (75, true)), .p (some 77) (.move (.t 1)), [2], 0⟩,
  ⟨(some (75, true)), .p (some 78) (.bin .sub .int [] (.t 77) (.c (.int .i64 1))), [4, 2], 0⟩,
  ⟨(some (75, true)), .p (some 79) (.iaddr 1 (.t 76) (.t 78)), [3, 5, 2], 0⟩,
  ⟨(some (75, true)), .p (some 80) (.load false 1 (.t 79)), [6, 2], 0⟩,
  ⟨(some (75, true)), .p (some 81) (.move (.t 0)), [2], 0⟩,
  ⟨(some (75, true)), .p (some 82) (.move (.t 11)), [2], 0⟩,
  ⟨(some (75, true)), .p (some 83) (.iaddr 1 (.t 81) (.t 82)), [8, 9, 2], 0⟩,
  ⟨(some (75, true)), .p (some 84) (.load false 1 (.t 83)), [10, 2], 0⟩,
  ⟨(some (75, true)), .call (some 85) 128 [(.t 80), (.t 84)], [7, 11, 2, 2], 0⟩,
  ⟨(some (75, true)), .p (some 86) (.una .not (.t 85)), [12, 2], 0⟩,
  ⟨.none, .p (some 87) (.pick (.t 75) (.t 86) (.c (.bool false))), [2, 13], 0⟩])
 (c114_k12))
 (c114_k10)
def c114_k14 : C :=
 .cond (.t 72)
  (.ret)
  (.skip)
def c114_k15 : C :=
 .cond (.t 68)
  (.seq (.ops [0, 1, 2, 3, 8, 9, 10, 11, 72] [.p (some 69) (.move (.t 0)),
   .p (some 70) (.move (.t 1)),
   .p (some 71) (.move (.t 2)),
   .call (some 72) 127 [(.t 69), (.t 70), (.t 71)]])
  (c114_k14))
  (.skip)
def c114_k16 : C :=
 .seq (.seq (.ops [0, 1, 2, 3, 8, 9, 10, 11, 68] [.p (some 61) (.move (.t 8)),
  .p (some 62) (.move (.t 61)),
  .when 62 true [.p (some 63) (.move (.t 9))],
  .p (some 64) (.pick (.t 62) (.t 63) (.c (.bool false))),
  .p (some 65) (.move (.t 64)),
  .when 65 true [.p (some 66) (.move (.t 12)),
   .p (some 67) (.bin .eql .int [] (.t 66) (.c (.int .i64 1)))],
  .p (some 68) (.pick (.t 65) (.t 67) (.c (.bool false)))])
 (c114_k15))
 (c114_k13)
def c114_k17 : C :=
 .seq (.ops [0, 1, 2, 3, 8, 9, 10, 11] [.p (some 55) (.move (.t 2)),
  .p (some 56) (.bin .sub .int [] (.t 55) (.c (.int .i64 1))),
  .p (some 57) (.move (.t 11)),
  .p (some 58) (.move (.t 1)),
  .p (some 59) (.bin .sub .int [] (.t 57) (.t 58)),
  .p (some 60) (.bin .sub .int [] (.t 56) (.t 59)),
  .p (some 11) (.move (.t 60))])
 (.ops [0, 1, 2, 3, 8, 9, 10, 11, 12] [.p (some 12) (.move (.c (.int .i64 1)))])
def c114_k18 : C :=
 .seq (.ops [0, 1, 2, 3, 8, 9, 10, 11] [.p (some 51) (.move (.t 0)),
   .p (some 52) (.move (.t 1)),
   .p (some 53) (.move (.t 2)),
   .call (some 54) 126 [(.t 51), (.t 52), (.t 53)]])
  (c114_k17)
def c114_k19 : C :=
 .cond (.t 50)
  (c114_k18)
  (.skip)
def c114_k20 : C :=
 .seq (.seq (.ops [0, 1, 2, 3, 8, 9, 10, 11, 12, 50] [.p (some 49) (.move (.t 12)),
  .p (some 50) (.bin .eql .int [] (.t 49) (.c (.int .i64 2)))])
 (c114_k19))
 (c114_k16)
def c114_k21 : C :=
 .seq (.ops [0, 1, 2, 3, 8, 9, 10, 11, 12] [.p (some 43) (.move (.t 0)),
  .p (some 44) (.move (.t 1)),
  .p (some 45) (.move (.t 2)),
  .call (some 46) 125 [(.t 43), (.t 44), (.t 45)],
  .p (some 42) (.move (.t 46)),
  .p (some 47) (.extract (.t 42) 0),
  .p (some 48) (.extract (.t 42) 1),
  .p (some 11) (.move (.t 47)),
  .p (some 12) (.move (.t 48))])
 (c114_k20)
def c114_k22 : C :=
 .ops [0, 1, 2, 3, 8, 9, 10] [.p (some 40) (.move (.t 3)),
  .p (some 41) (.bin .sub .int [] (.t 40) (.c (.int .i64 1))),
  .p (some 3) (.move (.t 41))]
def c114_k23 : C :=
 .cond (.t 35)
  (.seq (.ops [0, 1, 2, 3, 8, 9, 10] [.p (some 36) (.move (.t 0)),
   .p (some 37) (.move (.t 1)),
   .p (some 38) (.move (.t 2)),
   .call (some 39) 124 [(.t 36), (.t 37), (.t 38)]])
  (c114_k22))
  (.skip)
def c114_k24 : C :=
 .seq (.seq (.ops [0, 1, 2, 3, 8, 9, 10, 35] [.p (some 34) (.move (.t 8)),
  .p (some 35) (.una .not (.t 34))])
 (c114_k23))
 (c114_k21)
def c114_k25 : C :=
 .cond (.t 29)
  (.seq (.ops [] [.p (some 30) (.move (.t 0)),
   .p (some 31) (.move (.t 1)),
   .p (some 32) (.move (.t 2)),
   .call (some 33) 123 [(.t 30), (.t 31), (.t 32)]])
  (.ret))
  (.skip)
def c114_k26 : C :=
 .seq (.seq (.ops [0, 1, 2, 3, 8, 9, 10, 29] [.p (some 28) (.move (.t 3)),
  .p (some 29) (.bin .eql .int [] (.t 28) (.c (.int .i64 0)))])
 (c114_k25))
 (c114_k24)
def c114_k27 : C :=
 .cond (.t 23)
  (.seq (.ops [] [.p (some 24) (.move (.t 0)),
   .p (some 25) (.move (.t 1)),
   .p (some 26) (.move (.t 2)),
   .call (some 27) 122 [(.t 24), (.t 25), (.t 26)]])
  (.ret))
  (.skip)
def c114_k28 : C :=
 .seq (.seq (.ops [0, 1, 2, 3, 8, 9, 10, 23] [.p (some 22) (.move (.t 10)),
  .p (some 23) (.bin .leq .int [] (.t 22) (.c (.int .i64 12)))])
 (c114_k27))
 (c114_k26)
def c114_k29 : C :=
 .seq (.ops [0, 1, 2, 3, 8, 9, 10] [.p (some 19) (.move (.t 2)),
  .p (some 20) (.move (.t 1)),
  .p (some 21) (.bin .sub .int [] (.t 19) (.t 20)),
  .p (some 10) (.move (.t 21))])
 (c114_k28)
def c114_l30 : C :=
 .block 1 (c114_k29)
def c114_k31 : C :=
 .block 0 (.loop [0, 1, 2, 3, 8, 9] c114_l30)
def c114_k32 : C :=
 .seq (.ops [0, 1, 2, 3, 8, 9] [.p (some 9) (.move (.c (.bool true)))])
 (c114_k31)
def c114 : FnC := ⟨4, 134, [],
 .seq (.ops [0, 1, 2, 3, 8] [.p (some 8) (.move (.c (.bool true)))])
 (c114_k32),
 []⟩

def c122_k0 : C :=
 .ops [0, 1, 2, 6] [.p (some 13) (.move (.t 6)),
  .p (some 14) (.bin .add .int [] (.t 13) (.c (.int .i64 1))),
  .p (some 6) (.move (.t 14))]
def c122_k1 : C :=
 .ops [0, 1, 2, 6, 7] [.p (some 31) (.move (.t 7)),
  .p (some 32) (.bin .sub .int [] (.t 31) (.c (.int .i64 1))),
  .p (some 7) (.move (.t 32))]
def c122_k2 : C :=
 .drw [0, 1, 2, 6, 7] 0 [⟨.none, .p (some 33) (.move (.t 0)), [], 0⟩,
  ⟨.none, .p (some 34) (.move (.t 7)), [], 0⟩,
  ⟨.none, .p (some 35) (.move (.t 0)), [], 0⟩,
  ⟨.none, .p (some 36) (.move (.t 7)), [], 0⟩,
  ⟨.none, .p (some 37) (.bin .sub .int [] (.t 36) (.c (.int .i64 1))), [3], 0⟩,
  ⟨.none, .p (some 38) (.move (.t 0)), [], 0⟩,
  ⟨.none, .p (some 39) (.move (.t 7)), [], 0⟩,
  ⟨.none, .p (some 40) (.bin .sub .int [] (.t 39) (.c (.int .i64 1))), [6], 0⟩,
  ⟨.none, .p (some 41) (.iaddr 1 (.t 38) (.t 40)), [5, 7], 0⟩,
  ⟨.none, .p (some 42) (.load false 1 (.t 41)), [8], 0⟩,
  ⟨.none, .p (some 43) (.move (.t 0)), [], 0⟩,
  ⟨.none, .p (some 44) (.move (.t 7)), [], 0⟩,
  ⟨.none, .p (some 45) (.iaddr 1 (.t 43) (.t 44)), [10, 11], 0⟩,
  ⟨.none, .p (some 46) (.load false 1 (.t 45)), [12], 0⟩,
  ⟨.none, .p (some 47) (.iaddr 1 (.t 33) (.t 34)), [0, 1, 0, 1, 5, 6, 7, 8, 9, 13], 0⟩,
  ⟨.none, .e .none (.store 1 (.t 47) (.t 42)), [14, 9, 0, 1, 5, 6, 7, 8, 9, 13], 0⟩,
  ⟨.none, .p (some 48) (.iaddr 1 (.t 35) (.t 37)), [2, 4, 0, 1, 2, 3, 4, 5, 6, 7, 8, 9, 10, 11, 12, 13, 14, 15], 0⟩,
  ⟨.none, .e .none (.store 1 (.t 48) (.t 46)), [16, 13, 15, 0, 1, 2, 3, 4, 5, 6, 7, 8, 9, 10, 11, 12, 13, 14, 15], 0⟩]
def c122_k3 : C :=
 .seq (.block 3 (c122_k2))
 (c122_k1)
def c122_k4 : C :=
 .cond (.t 30)
  (.skip)
  (.exit 2)
def c122_l5 : C :=
 .seq (.seq (.drw [0, 1, 2, 6, 7, 30] 0 [⟨.none, .p (some 16) (.move (.t 7)), [], 0⟩,
  ⟨.none, .p (some 17) (.move (.t 1)), [], 0⟩,
  ⟨.none, .p (some 18) (.bin .gtr .int [] (.t 16) (.t 17)), [0, 1], 0⟩,
  ⟨.none, .p (some 19) (.move (.t 18)), [2], 0⟩,
  ⟨(some (19, true)), .p (some 20) (.move (.t 0)), [3], 0⟩,
  ⟨(some (19, true)), .p (some 21) (.move (.t 7)), [3], 0⟩,
  ⟨(some (19, true)), .p (some 22) (.iaddr 1 (.t 20) (.t 21)), [4, 5, 3], 0⟩,
  ⟨(some (19, true)), .p (some 23) (.load false 1 (.t 22)), [6, 3], 0⟩,
  ⟨(some (19, true)), .p (some 24) (.move (.t 0)), [3], 0⟩,
  ⟨(some (19, true)), .p (some 25) (.move (.t 7)), [3], 0⟩,
  ⟨(some (19, true)), .p (some 26) (.bin .sub .int [] (.t 25) (.c (.int .i64 1))), [9, 3], 0⟩,
  ⟨(some (19, true)), .p (some 27) (.iaddr 1 (.t 24) (.t 26)), [8, 10, 3], 0⟩,
  ⟨(some (19, true)), .p (some 28) (.load false 1 (.t 27)), [11, 3], 0⟩,
  ⟨(some (19, true)), .call (some 29) 128 [(.t 23), (.t 28)], [7, 12, 3, 3], 0⟩,
  ⟨.none, .p (some 30) (.pick (.t 19) (.t 29) (.c (.bool false))), [3, 13], 0⟩])
 (c122_k4))
 (c122_k3)
def c122_k6 : C :=
 .block 2 (.loop [0, 1, 2, 6, 7] c122_l5)
def c122_k7 : C :=
 .seq (.block 1 (.seq (.ops [0, 1, 2, 6, 7] [.p (some 15) (.move (.t 6)),
  .p (some 7) (.move (.t 15))])
 (c122_k6)))
 (c122_k0)
def c122_k8 : C :=
 .cond (.t 12)
  (.skip)
  (.exit 0)
def c122_l9 : C :=
 .seq (.seq (.ops [0, 1, 2, 6, 12] [.p (some 10) (.move (.t 6)),
  .p (some 11) (.move (.t 2)),
  .p (some 12) (.bin .lss .int [] (.t 10) (.t 11))])
 (c122_k8))
 (c122_k7)
def c122_k10 : C :=
 .block 0 (.loop [0, 1, 2, 6] c122_l9)
def c122 : FnC := ⟨3, 49, [],
 .seq (.ops [0, 1, 2, 6] [.p (some 8) (.move (.t 1)),
  .p (some 9) (.bin .add .int [] (.t 8) (.c (.int .i64 1))),
  .p (some 6) (.move (.t 9))])
 (c122_k10),
 []⟩

def c128_k0 : C :=
 .seq (.ops [4] [.p (some 5) (.move (.t 0)),
  .call (some 6) 142 [(.t 5)],
  .p (some 7) (.move (.t 6)),
  .when 7 true [.p (some 8) (.move (.t 1)),
   .call (some 9) 142 [(.t 8)],
   .p (some 10) (.una .not (.t 9))],
  .p (some 11) (.pick (.t 7) (.t 10) (.c (.bool false))),
  .p (some 12) (.move (.t 11)),
  .when 12 false [.p (some 13) (.move (.t 0)),
   .p (some 14) (.move (.t 1)),
   .p (some 15) (.bin .lss .int [] (.t 13) (.t 14))],
  .p (some 16) (.pick (.t 12) (.c (.bool true)) (.t 15)),
  .p (some 4) (.move (.t 16))])
 (.ret)
def c128 : FnC := ⟨2, 17, [.tmp 4],
 .seq (.ops [0, 1] [.p (some 4) (.move (.c (.bool false)))])
 (c128_k0),
 []⟩

def c142_k0 : C :=
 .seq (.ops [2] [.p (some 3) (.move (.t 0)),
  .p (some 4) (.move (.t 0)),
  .p (some 5) (.bin .neq .int [] (.t 3) (.t 4)),
  .p (some 2) (.move (.t 5))])
 (.ret)
def c142 : FnC := ⟨1, 6, [.tmp 2],
 .seq (.ops [0] [.p (some 2) (.move (.c (.bool false)))])
 (c142_k0),
 []⟩

def c123_k0 : C :=
 .ops [0, 6, 7, 10] [.p (some 31) (.move (.t 10)),
  .p (some 32) (.bin .sub .int [] (.t 31) (.c (.int .i64 1))),
  .p (some 10) (.move (.t 32))]
def c123_k1 : C :=
 .ops [0, 6, 7, 10] [.p (some 51) (.move (.t 0)),
  .p (some 52) (.move (.t 7)),
  .p (some 53) (.move (.t 10)),
  .p (some 54) (.move (.t 6)),
  .call (some 55) 137 [(.t 51), (.t 52), (.t 53), (.t 54)]]
def c123_k2 : C :=
 .seq (.drw [0, 6, 7, 10] 0 [⟨.none, .p (some 33) (.move (.t 0)), [], 0⟩,
  ⟨.none, .p (some 34) (.move (.t 6)), [], 0⟩,
  ⟨.none, .p (some 35) (.move (.t 0)), [], 0⟩,
  ⟨.none, .p (some 36) (.move (.t 6)), [], 0⟩,
  ⟨.none, .p (some 37) (.move (.t 10)), [], 0⟩,
  ⟨.none, .p (some 38) (.bin .add .int [] (.t 36) (.t 37)), [3, 4], 0⟩,
  ⟨.none, .p (some 39) (.move (.t 0)), [], 0⟩,
  ⟨.none, .p (some 40) (.move (.t 6)), [], 0⟩,
  ⟨.none, .p (some 41) (.move (.t 10)), [], 0⟩,
  ⟨.none, .p (some 42) (.bin .add .int [] (.t 40) (.t 41)), [7, 8], 0⟩,
  ⟨.none, .p (some 43) (.iaddr 1 (.t 39) (.t 42)), [6, 9], 0⟩,
  ⟨.none, .p (some 44) (.load false 1 (.t 43)), [10], 0⟩,
  ⟨.none, .p (some 45) (.move (.t 0)), [], 0⟩,
  ⟨.none, .p (some 46) (.move (.t 6)), [], 0⟩,
  ⟨.none, .p (some 47) (.iaddr 1 (.t 45) (.t 46)), [12, 13], 0⟩,
  ⟨.none, .p (some 48) (.load false 1 (.t 47)), [14], 0⟩,
  ⟨.none, .p (some 49) (.iaddr 1 (.t 33) (.t 34)), [0, 1, 0, 1, 6, 7, 8, 9, 10, 11, 15], 0⟩,
  ⟨.none, .e .none (.store 1 (.t 49) (.t 44)), [16, 11, 0, 1, 6, 7, 8, 9, 10, 11, 15], 0⟩,
  ⟨.none, .p (some 50) (.iaddr 1 (.t 35) (.t 38)), [2, 5, 0, 1, 2, 3, 4, 5, 6, 7, 8, 9, 10, 11, 12, 13, 14, 15, 16, 17], 0⟩,
  ⟨.none, .e .none (.store 1 (.t 50) (.t 48)), [18, 15, 17, 0, 1, 2, 3, 4, 5, 6, 7, 8, 9, 10, 11, 12, 13, 14, 15, 16, 17], 0⟩])
 (c123_k1)
def c123_k3 : C :=
 .seq (.block 3 (c123_k2))
 (c123_k0)
def c123_k4 : C :=
 .cond (.t 30)
  (.skip)
  (.exit 2)
def c123_l5 : C :=
 .seq (.seq (.ops [0, 6, 7, 10, 30] [.p (some 29) (.move (.t 10)),
  .p (some 30) (.bin .geq .int [] (.t 29) (.c (.int .i64 0)))])
 (c123_k4))
 (c123_k3)
def c123_k6 : C :=
 .block 2 (.loop [0, 6, 7, 10] c123_l5)
def c123_k7 : C :=
 .seq (.ops [0, 6, 7, 10] [.p (some 27) (.move (.t 8)),
  .p (some 28) (.bin .sub .int [] (.t 27) (.c (.int .i64 1))),
  .p (some 10) (.move (.t 28))])
 (c123_k6)
def c123_k8 : C :=
 .ops [0, 6, 7, 8, 9] [.p (some 20) (.move (.t 9)),
  .p (some 21) (.bin .sub .int [] (.t 20) (.c (.int .i64 1))),
  .p (some 9) (.move (.t 21))]
def c123_k9 : C :=
 .seq (.block 1 (.ops [0, 6, 7, 8, 9] [.p (some 22) (.move (.t 0)),
  .p (some 23) (.move (.t 9)),
  .p (some 24) (.move (.t 8)),
  .p (some 25) (.move (.t 6)),
  .call (some 26) 137 [(.t 22), (.t 23), (.t 24), (.t 25)]]))
 (c123_k8)
def c123_k10 : C :=
 .cond (.t 19)
  (.skip)
  (.exit 0)
def c123_l11 : C :=
 .seq (.seq (.ops [0, 6, 7, 8, 9, 19] [.p (some 18) (.move (.t 9)),
  .p (some 19) (.bin .geq .int [] (.t 18) (.c (.int .i64 0)))])
 (c123_k10))
 (c123_k9)
def c123_k12 : C :=
 .block 0 (.loop [0, 6, 7, 8, 9] c123_l11)
def c123_k13 : C :=
 .seq (.seq (.ops [0, 6, 7, 8, 9] [.p (some 15) (.move (.t 8)),
  .p (some 16) (.bin .sub .int [] (.t 15) (.c (.int .i64 1))),
  .p (some 17) (.bin .quo .int [] (.t 16) (.c (.int .i64 2))),
  .p (some 9) (.move (.t 17))])
 (c123_k12))
 (c123_k7)
def c123_k14 : C :=
 .seq (.ops [0, 6, 7, 8] [.p (some 12) (.move (.t 2)),
  .p (some 13) (.move (.t 1)),
  .p (some 14) (.bin .sub .int [] (.t 12) (.t 13)),
  .p (some 8) (.move (.t 14))])
 (c123_k13)
def c123_k15 : C :=
 .seq (.ops [0, 1, 2, 6, 7] [.p (some 7) (.move (.c (.int .i64 0)))])
 (c123_k14)
def c123 : FnC := ⟨3, 56, [],
 .seq (.ops [0, 1, 2, 6] [.p (some 11) (.move (.t 1)),
  .p (some 6) (.move (.t 11))])
 (c123_k15),
 []⟩

def c137_k0 : C :=
 .seq (.drw [0, 2, 3, 9] 0 [⟨.none, .p (some 53) (.move (.t 0)), [], 0⟩,
  ⟨.none, .p (some 54) (.move (.t 3)), [], 0⟩,
  ⟨.none, .p (some 55) (.move (.t 8)), [], 0⟩,
  ⟨.none, .p (some 56) (.bin .add .int [] (.t 54) (.t 55)), [1, 2], 0⟩,
  ⟨.none, .p (some 57) (.move (.t 0)), [], 0⟩,
  ⟨.none, .p (some 58) (.move (.t 3)), [], 0⟩,
  ⟨.none, .p (some 59) (.move (.t 9)), [], 0⟩,
  ⟨.none, .p (some 60) (.bin .add .int [] (.t 58) (.t 59)), [5, 6], 0⟩,
  ⟨.none, .p (some 61) (.move (.t 0)), [], 0⟩,
  ⟨.none, .p (some 62) (.move (.t 3)), [], 0⟩,
  ⟨.none, .p (some 63) (.move (.t 9)), [], 0⟩,
  ⟨.none, .p (some 64) (.bin .add .int [] (.t 62) (.t 63)), [9, 10], 0⟩,
  ⟨.none, .p (some 65) (.iaddr 1 (.t 61) (.t 64)), [8, 11], 0⟩,
  ⟨.none, .p (some 66) (.load false 1 (.t 65)), [12], 0⟩,
  ⟨.none, .p (some 67) (.move (.t 0)), [], 0⟩,
  ⟨.none, .p (some 68) (.move (.t 3)), [], 0⟩,
  ⟨.none, .p (some 69) (.move (.t 8)), [], 0⟩,
  ⟨.none, .p (some 70) (.bin .add .int [] (.t 68) (.t 69)), [15, 16], 0⟩,
  ⟨.none, .p (some 71) (.iaddr 1 (.t 67) (.t 70)), [14, 17], 0⟩,
  ⟨.none, .p (some 72) (.load false 1 (.t 71)), [18], 0⟩,
  ⟨.none, .p (some 73) (.iaddr 1 (.t 53) (.t 56)), [0, 3, 0, 1, 2, 3, 8, 9, 10, 11, 12, 13, 19], 0⟩,
  ⟨.none, .e .none (.store 1 (.t 73) (.t 66)), [20, 13, 0, 1, 2, 3, 8, 9, 10, 11, 12, 13, 19], 0⟩,
  ⟨.none, .p (some 74) (.iaddr 1 (.t 57) (.t 60)), [4, 7, 0, 1, 2, 3, 4, 5, 6, 7, 8, 9, 10, 11, 12, 13, 14, 15, 16, 17, 18, 19, 20, 21], 0⟩,
  ⟨.none, .e .none (.store 1 (.t 74) (.t 72)), [22, 19, 21, 0, 1, 2, 3, 4, 5, 6, 7, 8, 9, 10, 11, 12, 13, 14, 15, 16, 17, 18, 19, 20, 21], 0⟩])
 (.ops [0, 2, 3, 8] [.p (some 75) (.move (.t 9)),
  .p (some 8) (.move (.t 75))])
def c137_k1 : C :=
 .cond (.t 52)
  (.ret)
  (.skip)
def c137_k2 : C :=
 .seq (.seq (.drw [0, 2, 3, 8, 9, 52] 0 [⟨.none, .p (some 39) (.move (.t 0)), [], 0⟩,
  ⟨.none, .p (some 40) (.move (.t 3)), [], 0⟩,
  ⟨.none, .p (some 41) (.move (.t 8)), [], 0⟩,
  ⟨.none, .p (some 42) (.bin .add .int [] (.t 40) (.t 41)), [1, 2], 0⟩,
  ⟨.none, .p (some 43) (.iaddr 1 (.t 39) (.t 42)), [0, 3], 0⟩,
  ⟨.none, .p (some 44) (.load false 1 (.t 43)), [4], 0⟩,
  ⟨.none, .p (some 45) (.move (.t 0)), [], 0⟩,
  ⟨.none, .p (some 46) (.move (.t 3)), [], 0⟩,
  ⟨.none, .p (some 47) (.move (.t 9)), [], 0⟩,
  ⟨.none, .p (some 48) (.bin .add .int [] (.t 46) (.t 47)), [7, 8], 0⟩,
  ⟨.none, .p (some 49) (.iaddr 1 (.t 45) (.t 48)), [6, 9], 0⟩,
  ⟨.none, .p (some 50) (.load false 1 (.t 49)), [10], 0⟩,
  ⟨.none, .call (some 51) 128 [(.t 44), (.t 50)], [5, 11], 0⟩,
  ⟨.none, .p (some 52) (.una .not (.t 51)), [12], 0⟩])
 (c137_k1))
 (c137_k0)
def c137_k3 : C :=
 .cond (.t 36)
  (.ops [0, 2, 3, 8, 9] [.p (some 37) (.move (.t 9)),
   .p (some 38) (.bin .add .int [] (.t 37) (.c (.int .i64 1))),
   .p (some 9) (.move (.t 38))])
  (.skip)
def c137_k4 : C :=
 .seq (.seq (.drw [0, 2, 3, 8, 9, 36] 0 [⟨.none, .p (some 17) (.move (.t 9)), [], 0⟩,
  ⟨.none, .p (some 18) (.bin .add .int [] (.t 17) (.c (.int .i64 1))), [0], 0⟩,
  ⟨.none, .p (some 19) (.move (.t 2)), [], 0⟩,
  ⟨.none, .p (some 20) (.bin .lss .int [] (.t 18) (.t 19)), [1, 2], 0⟩,
  ⟨.none, .p (some 21) (.move (.t 20)), [3], 0⟩,
  ⟨(some (21, true)), .p (some 22) (.move (.t 0)), [4], 0⟩,
  ⟨(some (21, true)), .p (some 23) (.move (.t 3)), [4], 0⟩,
  ⟨(some (21, true)), .p (some 24) (.move (.t 9)), [4], 0⟩,
  ⟨(some (21, true)), .p (some 25) (.bin .add .int [] (.t 23) (.t 24)), [6, 7, 4], 0⟩,
  ⟨(some (21, true)), .p (some 26) (.iaddr 1 (.t 22) (.t 25)), [5, 8, 4], 0⟩,
  ⟨(some (21, true)), .p (some 27) (.load false 1 (.t 26)), [9, 4], 0⟩,
  ⟨(some (21, true)), .p (some 28) (.move (.t 0)), [4], 0⟩,
  ⟨(some (21, true)), .p (some 29) (.move (.t 3)), [4], 0⟩,
  ⟨(some (21, true)), .p (some 30) (.move (.t 9)), [4], 0⟩,
  ⟨(some (21, true)), .p (some 31) (.bin .add .int [] (.t 29) (.t 30)), [12, 13, 4], 0⟩,
  ⟨(some (21, true)), .p (some 32) (.bin .add .int [] (.t 31) (.c (.int .i64 1))), [14, 4], 0⟩,
  ⟨(some (21, true)), .p (some 33) (.iaddr 1 (.t 28) (.t 32)), [11, 15, 4], 0⟩,
  ⟨(some (21, true)), .p (some 34) (.load false 1 (.t 33)), [16, 4], 0⟩,
  ⟨(some (21, true)), .call (some 35) 128 [(.t 27), (.t 34)], [10, 17, 4, 4], 0⟩,
  ⟨.none, .p (some 36) (.pick (.t 21) (.t 35) (.c (.bool false))), [4, 18], 0⟩])
 (c137_k3))
 (c137_k2)
def c137_k5 : C :=
 .cond (.t 16)
  (.exit 0)
  (.skip)
def c137_k6 : C :=
 .seq (.seq (.ops [0, 2, 3, 8, 9, 16] [.p (some 14) (.move (.t 9)),
  .p (some 15) (.move (.t 2)),
  .p (some 16) (.bin .geq .int [] (.t 14) (.t 15))])
 (c137_k5))
 (c137_k4)
def c137_k7 : C :=
 .seq (.ops [0, 2, 3, 8, 9] [.p (some 11) (.move (.t 8)),
  .p (some 12) (.bin .mul .int [] (.c (.int .i64 2)) (.t 11)),
  .p (some 13) (.bin .add .int [] (.t 12) (.c (.int .i64 1))),
  .p (some 9) (.move (.t 13))])
 (c137_k6)
def c137_l8 : C :=
 .block 1 (c137_k7)
def c137_k9 : C :=
 .block 0 (.loop [0, 2, 3, 8] c137_l8)
def c137 : FnC := ⟨4, 76, [],
 .seq (.ops [0, 2, 3, 8] [.p (some 10) (.move (.t 1)),
  .p (some 8) (.move (.t 10))])
 (c137_k9),
 []⟩

def c124_k0 : C :=
 .ops [0, 1, 6, 7, 8, 9] [.p (some 34) (.move (.t 9)),
  .p (some 35) (.bin .add .int [] (.t 34) (.c (.int .i64 1))),
  .p (some 9) (.move (.t 35))]
def c124_k1 : C :=
 .drw [0, 1, 6, 7, 8, 9] 0 [⟨.none, .p (some 47) (.move (.t 0)), [], 0⟩,
  ⟨.none, .p (some 48) (.move (.t 9)), [], 0⟩,
  ⟨.none, .p (some 49) (.move (.t 0)), [], 0⟩,
  ⟨.none, .p (some 50) (.move (.t 1)), [], 0⟩,
  ⟨.none, .p (some 51) (.move (.t 10)), [], 0⟩,
  ⟨.none, .p (some 52) (.bin .add .int [] (.t 50) (.t 51)), [3, 4], 0⟩,
  ⟨.none, .p (some 53) (.move (.t 0)), [], 0⟩,
  ⟨.none, .p (some 54) (.move (.t 1)), [], 0⟩,
  ⟨.none, .p (some 55) (.move (.t 10)), [], 0⟩,
  ⟨.none, .p (some 56) (.bin .add .int [] (.t 54) (.t 55)), [7, 8], 0⟩,
  ⟨.none, .p (some 57) (.iaddr 1 (.t 53) (.t 56)), [6, 9], 0⟩,
  ⟨.none, .p (some 58) (.load false 1 (.t 57)), [10], 0⟩,
  ⟨.none, .p (some 59) (.move (.t 0)), [], 0⟩,
  ⟨.none, .p (some 60) (.move (.t 9)), [], 0⟩,
  ⟨.none, .p (some 61) (.iaddr 1 (.t 59) (.t 60)), [12, 13], 0⟩,
  ⟨.none, .p (some 62) (.load false 1 (.t 61)), [14], 0⟩,
  ⟨.none, .p (some 63) (.iaddr 1 (.t 47) (.t 48)), [0, 1, 0, 1, 6, 7, 8, 9, 10, 11, 15], 0⟩,
  ⟨.none, .e .none (.store 1 (.t 63) (.t 58)), [16, 11, 0, 1, 6, 7, 8, 9, 10, 11, 15], 0⟩,
  ⟨.none, .p (some 64) (.iaddr 1 (.t 49) (.t 52)), [2, 5, 0, 1, 2, 3, 4, 5, 6, 7, 8, 9, 10, 11, 12, 13, 14, 15, 16, 17], 0⟩,
  ⟨.none, .e .none (.store 1 (.t 64) (.t 62)), [18, 15, 17, 0, 1, 2, 3, 4, 5, 6, 7, 8, 9, 10, 11, 12, 13, 14, 15, 16, 17], 0⟩]
def c124_k2 : C :=
 .cond (.t 43)
  (.ops [0, 1, 6, 7, 8, 9, 10] [.p (some 44) (.move (.t 10)),
   .p (some 45) (.move (.t 6)),
   .p (some 46) (.bin .sub .int [] (.t 44) (.t 45)),
   .p (some 10) (.move (.t 46))])
  (.skip)
def c124_k3 : C :=
 .seq (.seq (.ops [0, 1, 6, 7, 8, 9, 10, 43] [.p (some 41) (.move (.t 10)),
  .p (some 42) (.move (.t 6)),
  .p (some 43) (.bin .geq .int [] (.t 41) (.t 42))])
 (c124_k2))
 (c124_k1)
def c124_k4 : C :=
 .seq (.ops [0, 1, 6, 7, 8, 9, 10] [.call (some 36) 139 [(.t 7)],
  .p (some 37) (.move (.t 8)),
  .p (some 38) (.bin .sub .int [] (.t 37) (.c (.int .u64 1))),
  .p (some 39) (.bin .and .int [] (.t 36) (.t 38)),
  .p (some 40) (.conv (.int .i64) (.t 39)),
  .p (some 10) (.move (.t 40))])
 (c124_k3)
def c124_k5 : C :=
 .seq (.block 1 (c124_k4))
 (c124_k0)
def c124_k6 : C :=
 .cond (.t 33)
  (.skip)
  (.exit 0)
def c124_l7 : C :=
 .seq (.seq (.ops [0, 1, 6, 7, 8, 9, 33] [.p (some 26) (.move (.t 9)),
  .p (some 27) (.move (.t 1)),
  .p (some 28) (.move (.t 6)),
  .p (some 29) (.bin .quo .int [] (.t 28) (.c (.int .i64 4))),
  .p (some 30) (.bin .mul .int [] (.t 29) (.c (.int .i64 2))),
  .p (some 31) (.bin .add .int [] (.t 27) (.t 30)),
  .p (some 32) (.bin .add .int [] (.t 31) (.c (.int .i64 1))),
  .p (some 33) (.bin .leq .int [] (.t 26) (.t 32))])
 (c124_k6))
 (c124_k5)
def c124_k8 : C :=
 .block 0 (.loop [0, 1, 6, 7, 8, 9] c124_l7)
def c124_k9 : C :=
 .seq (.ops [0, 1, 6, 7, 8, 9] [.p (some 20) (.move (.t 1)),
  .p (some 21) (.move (.t 6)),
  .p (some 22) (.bin .quo .int [] (.t 21) (.c (.int .i64 4))),
  .p (some 23) (.bin .mul .int [] (.t 22) (.c (.int .i64 2))),
  .p (some 24) (.bin .add .int [] (.t 20) (.t 23)),
  .p (some 25) (.bin .sub .int [] (.t 24) (.c (.int .i64 1))),
  .p (some 9) (.move (.t 25))])
 (c124_k8)
def c124_k10 : C :=
 .seq (.ops [0, 1, 6, 7, 8] [.p (some 18) (.move (.t 6)),
  .call (some 19) 138 [(.t 18)],
  .p (some 8) (.move (.t 19))])
 (c124_k9)
def c124_k11 : C :=
 .seq (.ops [0, 1, 6, 7] [.p (some 16) (.move (.t 6)),
   .p (some 17) (.conv (.int .u64) (.t 16)),
   .e (some 7) (.alloc [(.d (.int .u64 0))]),
   .e .none (.store 1 (.t 7) (.t 17))])
  (c124_k10)
def c124_k12 : C :=
 .cond (.t 15)
  (c124_k11)
  (.skip)
def c124_k13 : C :=
 .seq (.ops [0, 1, 6, 15] [.p (some 14) (.move (.t 6)),
  .p (some 15) (.bin .geq .int [] (.t 14) (.c (.int .i64 8)))])
 (c124_k12)
def c124 : FnC := ⟨3, 65, [],
 .seq (.ops [0, 1, 6] [.p (some 11) (.move (.t 2)),
  .p (some 12) (.move (.t 1)),
  .p (some 13) (.bin .sub .int [] (.t 11) (.t 12)),
  .p (some 6) (.move (.t 13))])
 (c124_k13),
 []⟩

def c138_k0 : C :=
 .seq (.ops [2] [.p (some 3) (.move (.t 0)),
  .p (some 4) (.conv (.int .u64) (.t 3)),
  .call (some 5) 115 [(.t 4)],
  .p (some 6) (.bin .shl .int [] (.c (.int .u64 1)) (.t 5)),
  .p (some 2) (.move (.t 6))])
 (.ret)
def c138 : FnC := ⟨1, 7, [.tmp 2],
 .seq (.ops [0] [.p (some 2) (.move (.c (.int .u64 0)))])
 (c138_k0),
 []⟩

def c139_k0 : C :=
 .seq (.ops [2] [.p (some 30) (.move (.t 0)),
  .p (some 31) (.nilCheck (.t 30)),
  .p (some 32) (.load false 1 (.t 31)),
  .p (some 2) (.move (.t 32))])
 (.ret)
def c139_k1 : C :=
 .seq (.drw [0] 0 [⟨.none, .p (some 21) (.move (.t 0)), [], 0⟩,
  ⟨.none, .p (some 22) (.nilCheck (.t 21)), [0], 0⟩,
  ⟨.none, .p (some 23) (.load false 1 (.t 22)), [1], 0⟩,
  ⟨.none, .p (some 24) (.move (.t 0)), [], 0⟩,
  ⟨.none, .p (some 25) (.nilCheck (.t 24)), [3], 0⟩,
  ⟨.none, .p (some 26) (.load false 1 (.t 25)), [4], 0⟩,
  ⟨.none, .p (some 27) (.bin .shl .int [] (.t 26) (.c (.int .u64 17))), [5], 0⟩,
  ⟨.none, .p (some 28) (.bin .xor .int [] (.t 23) (.t 27)), [2, 6], 0⟩,
  ⟨.none, .p (some 29) (.nilCheck (.t 21)), [0, 0, 1, 2, 3, 4, 5, 6, 7], 0⟩,
  ⟨.none, .e .none (.store 1 (.t 29) (.t 28)), [8, 7, 0, 1, 2, 3, 4, 5, 6, 7], 0⟩])
 (c139_k0)
def c139_k2 : C :=
 .seq (.drw [0] 0 [⟨.none, .p (some 12) (.move (.t 0)), [], 0⟩,
  ⟨.none, .p (some 13) (.nilCheck (.t 12)), [0], 0⟩,
  ⟨.none, .p (some 14) (.load false 1 (.t 13)), [1], 0⟩,
  ⟨.none, .p (some 15) (.move (.t 0)), [], 0⟩,
  ⟨.none, .p (some 16) (.nilCheck (.t 15)), [3], 0⟩,
  ⟨.none, .p (some 17) (.load false 1 (.t 16)), [4], 0⟩,
  ⟨.none, .p (some 18) (.bin .shr .int [] (.t 17) (.c (.int .u64 7))), [5], 0⟩,
  ⟨.none, .p (some 19) (.bin .xor .int [] (.t 14) (.t 18)), [2, 6], 0⟩,
  ⟨.none, .p (some 20) (.nilCheck (.t 12)), [0, 0, 1, 2, 3, 4, 5, 6, 7], 0⟩,
  ⟨.none, .e .none (.store 1 (.t 20) (.t 19)), [8, 7, 0, 1, 2, 3, 4, 5, 6, 7], 0⟩])
 (c139_k1)
def c139_k3 : C :=
 .seq (.drw [0] 0 [⟨.none, .p (some 3) (.move (.t 0)), [], 0⟩,
  ⟨.none, .p (some 4) (.nilCheck (.t 3)), [0], 0⟩,
  ⟨.none, .p (some 5) (.load false 1 (.t 4)), [1], 0⟩,
  ⟨.none, .p (some 6) (.move (.t 0)), [], 0⟩,
  ⟨.none, .p (some 7) (.nilCheck (.t 6)), [3], 0⟩,
  ⟨.none, .p (some 8) (.load false 1 (.t 7)), [4], 0⟩,
  ⟨.none, .p (some 9) (.bin .shl .int [] (.t 8) (.c (.int .u64 13))), [5], 0⟩,
  ⟨.none, .p (some 10) (.bin .xor .int [] (.t 5) (.t 9)), [2, 6], 0⟩,
  ⟨.none, .p (some 11) (.nilCheck (.t 3)), [0, 0, 1, 2, 3, 4, 5, 6, 7], 0⟩,
  ⟨.none, .e .none (.store 1 (.t 11) (.t 10)), [8, 7, 0, 1, 2, 3, 4, 5, 6, 7], 0⟩])
 (c139_k2)
def c139 : FnC := ⟨1, 33, [.tmp 2],
 .seq (.ops [0] [.p (some 2) (.move (.c (.int .u64 0)))])
 (c139_k3),
 []⟩

def c125_k0 : C :=
 .cond (.t 54)
  (.seq (.ops [6, 7] [.p (some 56) (.move (.t 11)),
   .p (some 6) (.move (.t 56)),
   .p (some 7) (.move (.c (.int .i64 2)))])
  (.ret))
  (.seq (.ops [6, 7] [.p (some 50) (.move (.t 11)),
   .p (some 6) (.move (.t 50)),
   .p (some 7) (.move (.c (.int .i64 0)))])
  (.ret))
def c125_k1 : C :=
 .seq (.ops [11, 54] [.p (some 55) (.bin .eql .int [] (.t 49) (.c (.int .i64 12))),
   .p (some 54) (.move (.t 55))])
  (c125_k0)
def c125_k2 : C :=
 .cond (.t 51)
  (.seq (.ops [6, 7] [.p (some 53) (.move (.t 11)),
   .p (some 6) (.move (.t 53)),
   .p (some 7) (.move (.c (.int .i64 1)))])
  (.ret))
  (c125_k1)
def c125_k3 : C :=
 .seq (.ops [11, 49, 51] [.p (some 52) (.bin .eql .int [] (.t 49) (.c (.int .i64 0))),
  .p (some 51) (.move (.t 52))])
 (c125_k2)
def c125_k4 : C :=
 .block 0 (c125_k3)
def c125_k5 : C :=
 .seq (.ops [11, 49] [.p (some 49) (.load false 1 (.t 9))])
 (c125_k4)
def c125_k6 : C :=
 .ops [9, 11] [.p (some 44) (.move (.t 0)),
  .p (some 45) (.move (.t 10)),
  .p (some 46) (.move (.t 11)),
  .p (some 47) (.move (.t 12)),
  .call (some 48) 141 [(.t 44), (.t 45), (.t 46), (.t 47), (.t 9)],
  .p (some 11) (.move (.t 48))]
def c125_k7 : C :=
 .ops [0, 9, 10, 11, 12] [.p (some 41) (.move (.t 0)),
  .p (some 42) (.move (.t 12)),
  .call (some 43) 140 [(.t 41), (.t 42), (.t 9)],
  .p (some 12) (.move (.t 43))]
def c125_k8 : C :=
 .seq (.ops [0, 9, 10, 11, 12] [.p (some 38) (.move (.t 0)),
  .p (some 39) (.move (.t 11)),
  .call (some 40) 140 [(.t 38), (.t 39), (.t 9)],
  .p (some 11) (.move (.t 40))])
 (c125_k7)
def c125_k9 : C :=
 .seq (.ops [0, 9, 10, 11, 12] [.p (some 35) (.move (.t 0)),
   .p (some 36) (.move (.t 10)),
   .call (some 37) 140 [(.t 35), (.t 36), (.t 9)],
   .p (some 10) (.move (.t 37))])
  (c125_k8)
def c125_k10 : C :=
 .cond (.t 34)
  (c125_k9)
  (.skip)
def c125_k11 : C :=
 .seq (.seq (.ops [0, 9, 10, 11, 12, 34] [.p (some 33) (.move (.t 8)),
   .p (some 34) (.bin .geq .int [] (.t 33) (.c (.int .i64 50)))])
  (c125_k10))
  (c125_k6)
def c125_k12 : C :=
 .cond (.t 32)
  (c125_k11)
  (.skip)
def c125_k13 : C :=
 .seq (.seq (.ops [0, 8, 9, 10, 11, 12, 32] [.p (some 31) (.move (.t 8)),
  .p (some 32) (.bin .geq .int [] (.t 31) (.c (.int .i64 8)))])
 (c125_k12))
 (c125_k5)
def c125_k14 : C :=
 .seq (.ops [0, 8, 9, 10, 11, 12] [.p (some 26) (.move (.t 1)),
  .p (some 27) (.move (.t 8)),
  .p (some 28) (.bin .quo .int [] (.t 27) (.c (.int .i64 4))),
  .p (some 29) (.bin .mul .int [] (.t 28) (.c (.int .i64 3))),
  .p (some 30) (.bin .add .int [] (.t 26) (.t 29)),
  .p (some 12) (.move (.t 30))])
 (c125_k13)
def c125_k15 : C :=
 .seq (.ops [0, 1, 8, 9, 10, 11] [.p (some 21) (.move (.t 1)),
  .p (some 22) (.move (.t 8)),
  .p (some 23) (.bin .quo .int [] (.t 22) (.c (.int .i64 4))),
  .p (some 24) (.bin .mul .int [] (.t 23) (.c (.int .i64 2))),
  .p (some 25) (.bin .add .int [] (.t 21) (.t 24)),
  .p (some 11) (.move (.t 25))])
 (c125_k14)
def c125_k16 : C :=
 .seq (.ops [0, 1, 8, 9, 10] [.p (some 16) (.move (.t 1)),
  .p (some 17) (.move (.t 8)),
  .p (some 18) (.bin .quo .int [] (.t 17) (.c (.int .i64 4))),
  .p (some 19) (.bin .mul .int [] (.t 18) (.c (.int .i64 1))),
  .p (some 20) (.bin .add .int [] (.t 16) (.t 19)),
  .p (some 10) (.move (.t 20))])
 (c125_k15)
def c125_k17 : C :=
 .seq (.ops [0, 1, 8, 9] [.e (some 9) (.alloc [(.d (.int .i64 0))])])
 (c125_k16)
def c125_k18 : C :=
 .seq (.ops [0, 1, 8] [.p (some 13) (.move (.t 2)),
  .p (some 14) (.move (.t 1)),
  .p (some 15) (.bin .sub .int [] (.t 13) (.t 14)),
  .p (some 8) (.move (.t 15))])
 (c125_k17)
def c125 : FnC := ⟨3, 57, [.tmp 6, .tmp 7],
 .seq (.ops [0, 1, 2] [.p (some 6) (.move (.c (.int .i64 0))),
  .p (some 7) (.move (.c (.int .i64 0)))])
 (c125_k18),
 []⟩

def c140_k0 : C :=
 .seq (.ops [6] [.p (some 7) (.move (.t 0)),
  .p (some 8) (.move (.t 1)),
  .p (some 9) (.bin .sub .int [] (.t 8) (.c (.int .i64 1))),
  .p (some 10) (.move (.t 1)),
  .p (some 11) (.move (.t 1)),
  .p (some 12) (.bin .add .int [] (.t 11) (.c (.int .i64 1))),
  .p (some 13) (.move (.t 2)),
  .call (some 14) 141 [(.t 7), (.t 9), (.t 10), (.t 12), (.t 13)],
  .p (some 6) (.move (.t 14))])
 (.ret)
def c140 : FnC := ⟨3, 15, [.tmp 6],
 .seq (.ops [0, 1, 2] [.p (some 6) (.move (.c (.int .i64 0)))])
 (c140_k0),
 []⟩

def c141_k0 : C :=
 .seq (.ops [10] [.p (some 35) (.move (.t 2)),
  .p (some 10) (.move (.t 35))])
 (.ret)
def c141_k1 : C :=
 .seq (.ops [2] [.p (some 28) (.move (.t 0)),
  .p (some 29) (.move (.t 1)),
  .p (some 30) (.move (.t 2)),
  .p (some 31) (.move (.t 4)),
  .call (some 32) 143 [(.t 28), (.t 29), (.t 30), (.t 31)],
  .p (some 27) (.move (.t 32)),
  .p (some 33) (.extract (.t 27) 0),
  .p (some 34) (.extract (.t 27) 1),
  .p (some 1) (.move (.t 33)),
  .p (some 2) (.move (.t 34))])
 (c141_k0)
def c141_k2 : C :=
 .seq (.ops [0, 1, 2, 4] [.p (some 20) (.move (.t 0)),
  .p (some 21) (.move (.t 2)),
  .p (some 22) (.move (.t 3)),
  .p (some 23) (.move (.t 4)),
  .call (some 24) 143 [(.t 20), (.t 21), (.t 22), (.t 23)],
  .p (some 19) (.move (.t 24)),
  .p (some 25) (.extract (.t 19) 0),
  .p (some 26) (.extract (.t 19) 1),
  .p (some 2) (.move (.t 25)),
  .p (some 3) (.move (.t 26))])
 (c141_k1)
def c141_k3 : C :=
 .seq (.ops [0, 1, 2, 3, 4] [.p (some 12) (.move (.t 0)),
  .p (some 13) (.move (.t 1)),
  .p (some 14) (.move (.t 2)),
  .p (some 15) (.move (.t 4)),
  .call (some 16) 143 [(.t 12), (.t 13), (.t 14), (.t 15)],
  .p (some 11) (.move (.t 16)),
  .p (some 17) (.extract (.t 11) 0),
  .p (some 18) (.extract (.t 11) 1),
  .p (some 1) (.move (.t 17)),
  .p (some 2) (.move (.t 18))])
 (c141_k2)
def c141 : FnC := ⟨5, 36, [.tmp 10],
 .seq (.ops [0, 1, 2, 3, 4] [.p (some 10) (.move (.c (.int .i64 0)))])
 (c141_k3),
 []⟩

def c143_k0 : C :=
 .seq (.ops [8, 9] [.p (some 26) (.move (.t 1)),
  .p (some 27) (.move (.t 2)),
  .p (some 8) (.move (.t 26)),
  .p (some 9) (.move (.t 27))])
 (.ret)
def c143_k1 : C :=
 .seq (.ops [8, 9] [.p (some 24) (.move (.t 2)),
  .p (some 25) (.move (.t 1)),
  .p (some 8) (.move (.t 24)),
  .p (some 9) (.move (.t 25))])
 (.ret)
def c143_k2 : C :=
 .seq (.ops [1, 2] [.p (some 19) (.move (.t 3)),
   .p (some 20) (.nilCheck (.t 19)),
   .p (some 21) (.load false 1 (.t 20)),
   .p (some 22) (.bin .add .int [] (.t 21) (.c (.int .i64 1))),
   .p (some 23) (.nilCheck (.t 19)),
   .e .none (.store 1 (.t 23) (.t 22))])
  (c143_k1)
def c143_k3 : C :=
 .cond (.t 18)
  (c143_k2)
  (.skip)
def c143_k4 : C :=
 .seq (.seq (.drw [1, 2, 3, 18] 0 [⟨.none, .p (some 10) (.move (.t 0)), [], 0⟩,
  ⟨.none, .p (some 11) (.move (.t 2)), [], 0⟩,
  ⟨.none, .p (some 12) (.iaddr 1 (.t 10) (.t 11)), [0, 1], 0⟩,
  ⟨.none, .p (some 13) (.load false 1 (.t 12)), [2], 0⟩,
  ⟨.none, .p (some 14) (.move (.t 0)), [], 0⟩,
  ⟨.none, .p (some 15) (.move (.t 1)), [], 0⟩,
  ⟨.none, .p (some 16) (.iaddr 1 (.t 14) (.t 15)), [4, 5], 0⟩,
  ⟨.none, .p (some 17) (.load false 1 (.t 16)), [6], 0⟩,
  ⟨.none, .call (some 18) 128 [(.t 13), (.t 17)], [3, 7], 0⟩])
 (c143_k3))
 (c143_k0)
def c143 : FnC := ⟨4, 28, [.tmp 8, .tmp 9],
 .seq (.ops [0, 1, 2, 3] [.p (some 8) (.move (.c (.int .i64 0))),
  .p (some 9) (.move (.c (.int .i64 0)))])
 (c143_k4),
 []⟩

def c126_k0 : C :=
 .ops [0, 6, 7] [.p (some 30) (.move (.t 7)),
  .p (some 31) (.bin .sub .int [] (.t 30) (.c (.int .i64 1))),
  .p (some 7) (.move (.t 31))]
def c126_k1 : C :=
 .seq (.ops [0, 6, 7] [.p (some 28) (.move (.t 6)),
  .p (some 29) (.bin .add .int [] (.t 28) (.c (.int .i64 1))),
  .p (some 6) (.move (.t 29))])
 (c126_k0)
def c126_k2 : C :=
 .seq (.drw [0, 6, 7] 0 [⟨.none, .p (some 14) (.move (.t 0)), [], 0⟩,
  ⟨.none, .p (some 15) (.move (.t 6)), [], 0⟩,
  ⟨.none, .p (some 16) (.move (.t 0)), [], 0⟩,
  ⟨.none, .p (some 17) (.move (.t 7)), [], 0⟩,
  ⟨.none, .p (some 18) (.move (.t 0)), [], 0⟩,
  ⟨.none, .p (some 19) (.move (.t 7)), [], 0⟩,
  ⟨.none, .p (some 20) (.iaddr 1 (.t 18) (.t 19)), [4, 5], 0⟩,
  ⟨.none, .p (some 21) (.load false 1 (.t 20)), [6], 0⟩,
  ⟨.none, .p (some 22) (.move (.t 0)), [], 0⟩,
  ⟨.none, .p (some 23) (.move (.t 6)), [], 0⟩,
  ⟨.none, .p (some 24) (.iaddr 1 (.t 22) (.t 23)), [8, 9], 0⟩,
  ⟨.none, .p (some 25) (.load false 1 (.t 24)), [10], 0⟩,
  ⟨.none, .p (some 26) (.iaddr 1 (.t 14) (.t 15)), [0, 1, 0, 1, 4, 5, 6, 7, 11], 0⟩,
  ⟨.none, .e .none (.store 1 (.t 26) (.t 21)), [12, 7, 0, 1, 4, 5, 6, 7, 11], 0⟩,
  ⟨.none, .p (some 27) (.iaddr 1 (.t 16) (.t 17)), [2, 3, 0, 1, 2, 3, 4, 5, 6, 7, 8, 9, 10, 11, 12, 13], 0⟩,
  ⟨.none, .e .none (.store 1 (.t 27) (.t 25)), [14, 11, 13, 0, 1, 2, 3, 4, 5, 6, 7, 8, 9, 10, 11, 12, 13], 0⟩])
 (c126_k1)
def c126_k3 : C :=
 .block 1 (c126_k2)
def c126_k4 : C :=
 .cond (.t 13)
  (.skip)
  (.exit 0)
def c126_l5 : C :=
 .seq (.seq (.ops [0, 6, 7, 13] [.p (some 11) (.move (.t 6)),
  .p (some 12) (.move (.t 7)),
  .p (some 13) (.bin .lss .int [] (.t 11) (.t 12))])
 (c126_k4))
 (c126_k3)
def c126_k6 : C :=
 .block 0 (.loop [0, 6, 7] c126_l5)
def c126_k7 : C :=
 .seq (.ops [0, 6, 7] [.p (some 9) (.move (.t 2)),
  .p (some 10) (.bin .sub .int [] (.t 9) (.c (.int .i64 1))),
  .p (some 7) (.move (.t 10))])
 (c126_k6)
def c126 : FnC := ⟨3, 32, [],
 .seq (.ops [0, 2, 6] [.p (some 8) (.move (.t 1)),
  .p (some 6) (.move (.t 8))])
 (c126_k7),
 []⟩

def c127_k0 : C :=
 .ops [0, 1, 2, 7, 8] [.p (some 15) (.move (.t 8)),
  .p (some 16) (.bin .add .int [] (.t 15) (.c (.int .i64 1))),
  .p (some 8) (.move (.t 16))]
def c127_k1 : C :=
 .ops [0, 1, 2, 7, 8, 10] [.p (some 104) (.move (.t 10)),
  .p (some 105) (.bin .add .int [] (.t 104) (.c (.int .i64 1))),
  .p (some 10) (.move (.t 105))]
def c127_k2 : C :=
 .drw [0, 1, 2, 7, 8, 10] 0 [⟨.none, .p (some 117) (.move (.t 0)), [], 0⟩,
  ⟨.none, .p (some 118) (.move (.t 10)), [], 0⟩,
  ⟨.none, .p (some 119) (.move (.t 0)), [], 0⟩,
  ⟨.none, .p (some 120) (.move (.t 10)), [], 0⟩,
  ⟨.none, .p (some 121) (.bin .sub .int [] (.t 120) (.c (.int .i64 1))), [3], 0⟩,
  ⟨.none, .p (some 122) (.move (.t 0)), [], 0⟩,
  ⟨.none, .p (some 123) (.move (.t 10)), [], 0⟩,
  ⟨.none, .p (some 124) (.bin .sub .int [] (.t 123) (.c (.int .i64 1))), [6], 0⟩,
  ⟨.none, .p (some 125) (.iaddr 1 (.t 122) (.t 124)), [5, 7], 0⟩,
  ⟨.none, .p (some 126) (.load false 1 (.t 125)), [8], 0⟩,
  ⟨.none, .p (some 127) (.move (.t 0)), [], 0⟩,
  ⟨.none, .p (some 128) (.move (.t 10)), [], 0⟩,
  ⟨.none, .p (some 129) (.iaddr 1 (.t 127) (.t 128)), [10, 11], 0⟩,
  ⟨.none, .p (some 130) (.load false 1 (.t 129)), [12], 0⟩,
  ⟨.none, .p (some 131) (.iaddr 1 (.t 117) (.t 118)), [0, 1, 0, 1, 5, 6, 7, 8, 9, 13], 0⟩,
  ⟨.none, .e .none (.store 1 (.t 131) (.t 126)), [14, 9, 0, 1, 5, 6, 7, 8, 9, 13], 0⟩,
  ⟨.none, .p (some 132) (.iaddr 1 (.t 119) (.t 121)), [2, 4, 0, 1, 2, 3, 4, 5, 6, 7, 8, 9, 10, 11, 12, 13, 14, 15], 0⟩,
  ⟨.none, .e .none (.store 1 (.t 132) (.t 130)), [16, 13, 15, 0, 1, 2, 3, 4, 5, 6, 7, 8, 9, 10, 11, 12, 13, 14, 15], 0⟩]
def c127_k3 : C :=
 .cond (.t 116)
  (.exit 6)
  (.skip)
def c127_k4 : C :=
 .seq (.seq (.drw [0, 1, 2, 7, 8, 10, 116] 0 [⟨.none, .p (some 106) (.move (.t 0)), [], 0⟩,
  ⟨.none, .p (some 107) (.move (.t 10)), [], 0⟩,
  ⟨.none, .p (some 108) (.iaddr 1 (.t 106) (.t 107)), [0, 1], 0⟩,
  ⟨.none, .p (some 109) (.load false 1 (.t 108)), [2], 0⟩,
  ⟨.none, .p (some 110) (.move (.t 0)), [], 0⟩,
  ⟨.none, .p (some 111) (.move (.t 10)), [], 0⟩,
  ⟨.none, .p (some 112) (.bin .sub .int [] (.t 111) (.c (.int .i64 1))), [5], 0⟩,
  ⟨.none, .p (some 113) (.iaddr 1 (.t 110) (.t 112)), [4, 6], 0⟩,
  ⟨.none, .p (some 114) (.load false 1 (.t 113)), [7], 0⟩,
  ⟨.none, .call (some 115) 128 [(.t 109), (.t 114)], [3, 8], 0⟩,
  ⟨.none, .p (some 116) (.una .not (.t 115)), [9], 0⟩])
 (c127_k3))
 (c127_k2)
def c127_k5 : C :=
 .seq (.block 7 (c127_k4))
 (c127_k1)
def c127_k6 : C :=
 .cond (.t 103)
  (.skip)
  (.exit 6)
def c127_l7 : C :=
 .seq (.seq (.ops [0, 1, 2, 7, 8, 10, 103] [.p (some 101) (.move (.t 10)),
  .p (some 102) (.move (.t 2)),
  .p (some 103) (.bin .lss .int [] (.t 101) (.t 102))])
 (c127_k6))
 (c127_k5)
def c127_k8 : C :=
 .block 6 (.loop [0, 1, 2, 7, 8, 10] c127_l7)
def c127_k9 : C :=
 .cond (.t 98)
  (.seq (.ops [0, 1, 2, 7, 8, 10] [.p (some 99) (.move (.t 7)),
   .p (some 100) (.bin .add .int [] (.t 99) (.c (.int .i64 1))),
   .p (some 10) (.move (.t 100))])
  (c127_k8))
  (.skip)
def c127_k10 : C :=
 .seq (.ops [0, 1, 2, 7, 8, 98] [.p (some 95) (.move (.t 2)),
  .p (some 96) (.move (.t 7)),
  .p (some 97) (.bin .sub .int [] (.t 95) (.t 96)),
  .p (some 98) (.bin .geq .int [] (.t 97) (.c (.int .i64 2)))])
 (c127_k9)
def c127_k11 : C :=
 .ops [0, 1, 2, 7, 8, 9] [.p (some 66) (.move (.t 9)),
  .p (some 67) (.bin .sub .int [] (.t 66) (.c (.int .i64 1))),
  .p (some 9) (.move (.t 67))]
def c127_k12 : C :=
 .drw [0, 1, 2, 7, 8, 9] 0 [⟨.none, .p (some 79) (.move (.t 0)), [], 0⟩,
  ⟨.none, .p (some 80) (.move (.t 9)), [], 0⟩,
  ⟨.none, .p (some 81) (.move (.t 0)), [], 0⟩,
  ⟨.none, .p (some 82) (.move (.t 9)), [], 0⟩,
  ⟨.none, .p (some 83) (.bin .sub .int [] (.t 82) (.c (.int .i64 1))), [3], 0⟩,
  ⟨.none, .p (some 84) (.move (.t 0)), [], 0⟩,
  ⟨.none, .p (some 85) (.move (.t 9)), [], 0⟩,
  ⟨.none, .p (some 86) (.bin .sub .int [] (.t 85) (.c (.int .i64 1))), [6], 0⟩,
  ⟨.none, .p (some 87) (.iaddr 1 (.t 84) (.t 86)), [5, 7], 0⟩,
  ⟨.none, .p (some 88) (.load false 1 (.t 87)), [8], 0⟩,
  ⟨.none, .p (some 89) (.move (.t 0)), [], 0⟩,
  ⟨.none, .p (some 90) (.move (.t 9)), [], 0⟩,
  ⟨.none, .p (some 91) (.iaddr 1 (.t 89) (.t 90)), [10, 11], 0⟩,
  ⟨.none, .p (some 92) (.load false 1 (.t 91)), [12], 0⟩,
  ⟨.none, .p (some 93) (.iaddr 1 (.t 79) (.t 80)), [0, 1, 0, 1, 5, 6, 7, 8, 9, 13], 0⟩,
  ⟨.none, .e .none (.store 1 (.t 93) (.t 88)), [14, 9, 0, 1, 5, 6, 7, 8, 9, 13], 0⟩,
  ⟨.none, .p (some 94) (.iaddr 1 (.t 81) (.t 83)), [2, 4, 0, 1, 2, 3, 4, 5, 6, 7, 8, 9, 10, 11, 12, 13, 14, 15], 0⟩,
  ⟨.none, .e .none (.store 1 (.t 94) (.t 92)), [16, 13, 15, 0, 1, 2, 3, 4, 5, 6, 7, 8, 9, 10, 11, 12, 13, 14, 15], 0⟩]
def c127_k13 : C :=
 .cond (.t 78)
  (.exit 4)
  (.skip)
def c127_k14 : C :=
 .seq (.seq (.drw [0, 1, 2, 7, 8, 9, 78] 0 [⟨.none, .p (some 68) (.move (.t 0)), [], 0⟩,
  ⟨.none, .p (some 69) (.move (.t 9)), [], 0⟩,
  ⟨.none, .p (some 70) (.iaddr 1 (.t 68) (.t 69)), [0, 1], 0⟩,
  ⟨.none, .p (some 71) (.load false 1 (.t 70)), [2], 0⟩,
  ⟨.none, .p (some 72) (.move (.t 0)), [], 0⟩,
  ⟨.none, .p (some 73) (.move (.t 9)), [], 0⟩,
  ⟨.none, .p (some 74) (.bin .sub .int [] (.t 73) (.c (.int .i64 1))), [5], 0⟩,
  ⟨.none, .p (some 75) (.iaddr 1 (.t 72) (.t 74)), [4, 6], 0⟩,
  ⟨.none, .p (some 76) (.load false 1 (.t 75)), [7], 0⟩,
  ⟨.none, .call (some 77) 128 [(.t 71), (.t 76)], [3, 8], 0⟩,
  ⟨.none, .p (some 78) (.una .not (.t 77)), [9], 0⟩])
 (c127_k13))
 (c127_k12)
def c127_k15 : C :=
 .seq (.block 5 (c127_k14))
 (c127_k11)
def c127_k16 : C :=
 .cond (.t 65)
  (.skip)
  (.exit 4)
def c127_l17 : C :=
 .seq (.seq (.ops [0, 1, 2, 7, 8, 9, 65] [.p (some 64) (.move (.t 9)),
  .p (some 65) (.bin .geq .int [] (.t 64) (.c (.int .i64 1)))])
 (c127_k16))
 (c127_k15)
def c127_k18 : C :=
 .block 4 (.loop [0, 1, 2, 7, 8, 9] c127_l17)
def c127_k19 : C :=
 .cond (.t 61)
  (.seq (.ops [0, 1, 2, 7, 8, 9] [.p (some 62) (.move (.t 7)),
   .p (some 63) (.bin .sub .int [] (.t 62) (.c (.int .i64 1))),
   .p (some 9) (.move (.t 63))])
  (c127_k18))
  (.skip)
def c127_k20 : C :=
 .seq (.seq (.ops [0, 1, 2, 7, 8, 61] [.p (some 58) (.move (.t 7)),
  .p (some 59) (.move (.t 1)),
  .p (some 60) (.bin .sub .int [] (.t 58) (.t 59)),
  .p (some 61) (.bin .geq .int [] (.t 60) (.c (.int .i64 2)))])
 (c127_k19))
 (c127_k10)
def c127_k21 : C :=
 .seq (.drw [0, 1, 2, 7, 8] 0 [⟨.none, .p (some 42) (.move (.t 0)), [], 0⟩,
  ⟨.none, .p (some 43) (.move (.t 7)), [], 0⟩,
  ⟨.none, .p (some 44) (.move (.t 0)), [], 0⟩,
  ⟨.none, .p (some 45) (.move (.t 7)), [], 0⟩,
  ⟨.none, .p (some 46) (.bin .sub .int [] (.t 45) (.c (.int .i64 1))), [3], 0⟩,
  ⟨.none, .p (some 47) (.move (.t 0)), [], 0⟩,
  ⟨.none, .p (some 48) (.move (.t 7)), [], 0⟩,
  ⟨.none, .p (some 49) (.bin .sub .int [] (.t 48) (.c (.int .i64 1))), [6], 0⟩,
  ⟨.none, .p (some 50) (.iaddr 1 (.t 47) (.t 49)), [5, 7], 0⟩,
  ⟨.none, .p (some 51) (.load false 1 (.t 50)), [8], 0⟩,
  ⟨.none, .p (some 52) (.move (.t 0)), [], 0⟩,
  ⟨.none, .p (some 53) (.move (.t 7)), [], 0⟩,
  ⟨.none, .p (some 54) (.iaddr 1 (.t 52) (.t 53)), [10, 11], 0⟩,
  ⟨.none, .p (some 55) (.load false 1 (.t 54)), [12], 0⟩,
  ⟨.none, .p (some 56) (.iaddr 1 (.t 42) (.t 43)), [0, 1, 0, 1, 5, 6, 7, 8, 9, 13], 0⟩,
  ⟨.none, .e .none (.store 1 (.t 56) (.t 51)), [14, 9, 0, 1, 5, 6, 7, 8, 9, 13], 0⟩,
  ⟨.none, .p (some 57) (.iaddr 1 (.t 44) (.t 46)), [2, 4, 0, 1, 2, 3, 4, 5, 6, 7, 8, 9, 10, 11, 12, 13, 14, 15], 0⟩,
  ⟨.none, .e .none (.store 1 (.t 57) (.t 55)), [16, 13, 15, 0, 1, 2, 3, 4, 5, 6, 7, 8, 9, 10, 11, 12, 13, 14, 15], 0⟩])
 (c127_k20)
def c127_k22 : C :=
 .cond (.t 41)
  (.seq (.ops [6] [.p (some 6) (.move (.c (.bool false)))])
  (.ret))
  (.skip)
def c127_k23 : C :=
 .seq (.seq (.ops [0, 1, 2, 7, 8, 41] [.p (some 38) (.move (.t 2)),
  .p (some 39) (.move (.t 1)),
  .p (some 40) (.bin .sub .int [] (.t 38) (.t 39)),
  .p (some 41) (.bin .lss .int [] (.t 40) (.c (.int .i64 50)))])
 (c127_k22))
 (c127_k21)
def c127_k24 : C :=
 .cond (.t 37)
  (.seq (.ops [6] [.p (some 6) (.move (.c (.bool true)))])
  (.ret))
  (.skip)
def c127_k25 : C :=
 .seq (.seq (.ops [0, 1, 2, 7, 8, 37] [.p (some 35) (.move (.t 7)),
  .p (some 36) (.move (.t 2)),
  .p (some 37) (.bin .eql .int [] (.t 35) (.t 36))])
 (c127_k24))
 (c127_k23)
def c127_k26 : C :=
 .block 3 (.ops [0, 1, 2, 7, 8] [.p (some 33) (.move (.t 7)),
  .p (some 34) (.bin .add .int [] (.t 33) (.c (.int .i64 1))),
  .p (some 7) (.move (.t 34))])
def c127_k27 : C :=
 .cond (.t 32)
  (.skip)
  (.exit 2)
def c127_l28 : C :=
 .seq (.seq (.drw [0, 1, 2, 7, 8, 32] 0 [⟨.none, .p (some 17) (.move (.t 7)), [], 0⟩,
  ⟨.none, .p (some 18) (.move (.t 2)), [], 0⟩,
  ⟨.none, .p (some 19) (.bin .lss .int [] (.t 17) (.t 18)), [0, 1], 0⟩,
  ⟨.none, .p (some 20) (.move (.t 19)), [2], 0⟩,
  ⟨(some (20, true)), .p (some 21) (.move (.t 0)), [3], 0⟩,
  ⟨(some (20, true)), .p (some 22) (.move (.t 7)), [3], 0⟩,
  ⟨(some (20, true)), .p (some 23) (.iaddr 1 (.t 21) (.t 22)), [4, 5, 3], 0⟩,
  ⟨(some (20, true)), .p (some 24) (.load false 1 (.t 23)), [6, 3], 0⟩,
  ⟨(some (20, true)), .p (some 25) (.move (.t 0)), [3], 0⟩,
  ⟨(some (20, true)), .p (some 26) (.move (.t 7)), [3], 0⟩,
  ⟨(some (20, true)), .p (some 27) (.bin .sub .int [] (.t 26) (.c (.int .i64 1))), [9, 3], 0⟩,
  ⟨(some (20, true)), .p (some 28) (.iaddr 1 (.t 25) (.t 27)), [8, 10, 3], 0⟩,
  ⟨(some (20, true)), .p (some 29) (.load false 1 (.t 28)), [11, 3], 0⟩,
  ⟨(some (20, true)), .call (some 30) 128 [(.t 24), (.t 29)], [7, 12, 3, 3], 0⟩,
  ⟨(some (20, true)), .p (some 31) (.una .not (.t 30)), [13, 3], 0⟩,
  ⟨.none, .p (some 32) (.pick (.t 20) (.t 31) (.c (.bool false))), [3, 14], 0⟩])
 (c127_k27))
 (c127_k26)
def c127_k29 : C :=
 .seq (.block 2 (.loop [0, 1, 2, 7, 8] c127_l28))
 (c127_k25)
def c127_k30 : C :=
 .seq (.block 1 (c127_k29))
 (c127_k0)
def c127_k31 : C :=
 .cond (.t 14)
  (.skip)
  (.exit 0)
def c127_l32 : C :=
 .seq (.seq (.ops [0, 1, 2, 7, 8, 14] [.p (some 13) (.move (.t 8)),
  .p (some 14) (.bin .lss .int [] (.t 13) (.c (.int .i64 5)))])
 (c127_k31))
 (c127_k30)
def c127_k33 : C :=
 .block 0 (.loop [0, 1, 2, 7, 8] c127_l32)
def c127_k34 : C :=
 .seq (.seq (.ops [0, 1, 2, 7, 8] [.p (some 8) (.move (.c (.int .i64 0)))])
 (c127_k33))
 (.seq (.ops [6] [.p (some 6) (.move (.c (.bool false)))])
 (.ret))
def c127_k35 : C :=
 .seq (.ops [0, 1, 2, 7] [.p (some 11) (.move (.t 1)),
  .p (some 12) (.bin .add .int [] (.t 11) (.c (.int .i64 1))),
  .p (some 7) (.move (.t 12))])
 (c127_k34)
def c127 : FnC := ⟨3, 133, [.tmp 6],
 .seq (.ops [0, 1, 2] [.p (some 6) (.move (.c (.bool false)))])
 (c127_k35),
 []⟩

def c129_k0 : C :=
 .seq (.ops [8] [.p (some 83) (.move (.t 9)),
  .p (some 8) (.move (.t 83))])
 (.ret)
def c129_k1 : C :=
 .ops [0, 1, 9, 10] [.p (some 81) (.move (.t 10)),
  .p (some 82) (.bin .sub .int [] (.t 81) (.c (.int .i64 1))),
  .p (some 10) (.move (.t 82))]
def c129_k2 : C :=
 .seq (.ops [0, 1, 9, 10] [.p (some 79) (.move (.t 9)),
  .p (some 80) (.bin .add .int [] (.t 79) (.c (.int .i64 1))),
  .p (some 9) (.move (.t 80))])
 (c129_k1)
def c129_k3 : C :=
 .seq (.drw [0, 1, 9, 10] 0 [⟨.none, .p (some 65) (.move (.t 0)), [], 0⟩,
  ⟨.none, .p (some 66) (.move (.t 9)), [], 0⟩,
  ⟨.none, .p (some 67) (.move (.t 0)), [], 0⟩,
  ⟨.none, .p (some 68) (.move (.t 10)), [], 0⟩,
  ⟨.none, .p (some 69) (.move (.t 0)), [], 0⟩,
  ⟨.none, .p (some 70) (.move (.t 10)), [], 0⟩,
  ⟨.none, .p (some 71) (.iaddr 1 (.t 69) (.t 70)), [4, 5], 0⟩,
  ⟨.none, .p (some 72) (.load false 1 (.t 71)), [6], 0⟩,
  ⟨.none, .p (some 73) (.move (.t 0)), [], 0⟩,
  ⟨.none, .p (some 74) (.move (.t 9)), [], 0⟩,
  ⟨.none, .p (some 75) (.iaddr 1 (.t 73) (.t 74)), [8, 9], 0⟩,
  ⟨.none, .p (some 76) (.load false 1 (.t 75)), [10], 0⟩,
  ⟨.none, .p (some 77) (.iaddr 1 (.t 65) (.t 66)), [0, 1, 0, 1, 4, 5, 6, 7, 11], 0⟩,
  ⟨.none, .e .none (.store 1 (.t 77) (.t 72)), [12, 7, 0, 1, 4, 5, 6, 7, 11], 0⟩,
  ⟨.none, .p (some 78) (.iaddr 1 (.t 67) (.t 68)), [2, 3, 0, 1, 2, 3, 4, 5, 6, 7, 8, 9, 10, 11, 12, 13], 0⟩,
  ⟨.none, .e .none (.store 1 (.t 78) (.t 76)), [14, 11, 13, 0, 1, 2, 3, 4, 5, 6, 7, 8, 9, 10, 11, 12, 13], 0⟩])
 (c129_k2)
def c129_k4 : C :=
 .cond (.t 64)
  (.exit 0)
  (.skip)
def c129_k5 : C :=
 .seq (.seq (.ops [0, 1, 9, 10, 64] [.p (some 62) (.move (.t 9)),
  .p (some 63) (.move (.t 10)),
  .p (some 64) (.bin .gtr .int [] (.t 62) (.t 63))])
 (c129_k4))
 (c129_k3)
def c129_k6 : C :=
 .block 5 (.ops [0, 1, 9, 10] [.p (some 60) (.move (.t 10)),
  .p (some 61) (.bin .sub .int [] (.t 60) (.c (.int .i64 1))),
  .p (some 10) (.move (.t 61))])
def c129_k7 : C :=
 .cond (.t 59)
  (.skip)
  (.exit 4)
def c129_l8 : C :=
 .seq (.seq (.drw [0, 1, 9, 10, 59] 0 [⟨.none, .p (some 46) (.move (.t 9)), [], 0⟩,
  ⟨.none, .p (some 47) (.move (.t 10)), [], 0⟩,
  ⟨.none, .p (some 48) (.bin .leq .int [] (.t 46) (.t 47)), [0, 1], 0⟩,
  ⟨.none, .p (some 49) (.move (.t 48)), [2], 0⟩,
  ⟨(some (49, true)), .p (some 50) (.move (.t 0)), [3], 0⟩,
  ⟨(some (49, true)), .p (some 51) (.move (.t 1)), [3], 0⟩,
  ⟨(some (49, true)), .p (some 52) (.iaddr 1 (.t 50) (.t 51)), [4, 5, 3], 0⟩,
  ⟨(some (49, true)), .p (some 53) (.load false 1 (.t 52)), [6, 3], 0⟩,
  ⟨(some (49, true)), .p (some 54) (.move (.t 0)), [3], 0⟩,
  ⟨(some (49, true)), .p (some 55) (.move (.t 10)), [3], 0⟩,
  ⟨(some (49, true)), .p (some 56) (.iaddr 1 (.t 54) (.t 55)), [8, 9, 3], 0⟩,
  ⟨(some (49, true)), .p (some 57) (.load false 1 (.t 56)), [10, 3], 0⟩,
  ⟨(some (49, true)), .call (some 58) 128 [(.t 53), (.t 57)], [7, 11, 3, 3], 0⟩,
  ⟨.none, .p (some 59) (.pick (.t 49) (.t 58) (.c (.bool false))), [3, 12], 0⟩])
 (c129_k7))
 (c129_k6)
def c129_k9 : C :=
 .seq (.block 4 (.loop [0, 1, 9, 10] c129_l8))
 (c129_k5)
def c129_k10 : C :=
 .block 3 (.ops [0, 1, 9, 10] [.p (some 44) (.move (.t 9)),
  .p (some 45) (.bin .add .int [] (.t 44) (.c (.int .i64 1))),
  .p (some 9) (.move (.t 45))])
def c129_k11 : C :=
 .cond (.t 43)
  (.skip)
  (.exit 2)
def c129_l12 : C :=
 .seq (.seq (.drw [0, 1, 9, 10, 43] 0 [⟨.none, .p (some 29) (.move (.t 9)), [], 0⟩,
  ⟨.none, .p (some 30) (.move (.t 10)), [], 0⟩,
  ⟨.none, .p (some 31) (.bin .leq .int [] (.t 29) (.t 30)), [0, 1], 0⟩,
  ⟨.none, .p (some 32) (.move (.t 31)), [2], 0⟩,
  ⟨(some (32, true)), .p (some 33) (.move (.t 0)), [3], 0⟩,
  ⟨(some (32, true)), .p (some 34) (.move (.t 1)), [3], 0⟩,
  ⟨(some (32, true)), .p (some 35) (.iaddr 1 (.t 33) (.t 34)), [4, 5, 3], 0⟩,
  ⟨(some (32, true)), .p (some 36) (.load false 1 (.t 35)), [6, 3], 0⟩,
  ⟨(some (32, true)), .p (some 37) (.move (.t 0)), [3], 0⟩,
  ⟨(some (32, true)), .p (some 38) (.move (.t 9)), [3], 0⟩,
  ⟨(some (32, true)), .p (some 39) (.iaddr 1 (.t 37) (.t 38)), [8, 9, 3], 0⟩,
  ⟨(some (32, true)), .p (some 40) (.load false 1 (.t 39)), [10, 3], 0⟩,
  ⟨(some (32, true)), .call (some 41) 128 [(.t 36), (.t 40)], [7, 11, 3, 3], 0⟩,
  ⟨(some (32, true)), .p (some 42) (.una .not (.t 41)), [12, 3], 0⟩,
  ⟨.none, .p (some 43) (.pick (.t 32) (.t 42) (.c (.bool false))), [3, 13], 0⟩])
 (c129_k11))
 (c129_k10)
def c129_k13 : C :=
 .seq (.block 2 (.loop [0, 1, 9, 10] c129_l12))
 (c129_k9)
def c129_l14 : C :=
 .block 1 (c129_k13)
def c129_k15 : C :=
 .seq (.block 0 (.loop [0, 1, 9, 10] c129_l14))
 (c129_k0)
def c129_k16 : C :=
 .seq (.ops [0, 1, 9, 10] [.p (some 25) (.move (.t 1)),
  .p (some 26) (.bin .add .int [] (.t 25) (.c (.int .i64 1))),
  .p (some 27) (.move (.t 2)),
  .p (some 28) (.bin .sub .int [] (.t 27) (.c (.int .i64 1))),
  .p (some 9) (.move (.t 26)),
  .p (some 10) (.move (.t 28))])
 (c129_k15)
def c129_k17 : C :=
 .seq (.drw [0, 1, 2] 0 [⟨.none, .p (some 11) (.move (.t 0)), [], 0⟩,
  ⟨.none, .p (some 12) (.move (.t 1)), [], 0⟩,
  ⟨.none, .p (some 13) (.move (.t 0)), [], 0⟩,
  ⟨.none, .p (some 14) (.move (.t 3)), [], 0⟩,
  ⟨.none, .p (some 15) (.move (.t 0)), [], 0⟩,
  ⟨.none, .p (some 16) (.move (.t 3)), [], 0⟩,
  ⟨.none, .p (some 17) (.iaddr 1 (.t 15) (.t 16)), [4, 5], 0⟩,
  ⟨.none, .p (some 18) (.load false 1 (.t 17)), [6], 0⟩,
  ⟨.none, .p (some 19) (.move (.t 0)), [], 0⟩,
  ⟨.none, .p (some 20) (.move (.t 1)), [], 0⟩,
  ⟨.none, .p (some 21) (.iaddr 1 (.t 19) (.t 20)), [8, 9], 0⟩,
  ⟨.none, .p (some 22) (.load false 1 (.t 21)), [10], 0⟩,
  ⟨.none, .p (some 23) (.iaddr 1 (.t 11) (.t 12)), [0, 1, 0, 1, 4, 5, 6, 7, 11], 0⟩,
  ⟨.none, .e .none (.store 1 (.t 23) (.t 18)), [12, 7, 0, 1, 4, 5, 6, 7, 11], 0⟩,
  ⟨.none, .p (some 24) (.iaddr 1 (.t 13) (.t 14)), [2, 3, 0, 1, 2, 3, 4, 5, 6, 7, 8, 9, 10, 11, 12, 13], 0⟩,
  ⟨.none, .e .none (.store 1 (.t 24) (.t 22)), [14, 11, 13, 0, 1, 2, 3, 4, 5, 6, 7, 8, 9, 10, 11, 12, 13], 0⟩])
 (c129_k16)
def c129 : FnC := ⟨4, 84, [.tmp 8],
 .seq (.ops [0, 1, 2, 3] [.p (some 8) (.move (.c (.int .i64 0)))])
 (c129_k17),
 []⟩

def c130_k0 : C :=
 .seq (.ops [8, 9] [.p (some 167) (.move (.t 11)),
  .p (some 8) (.move (.t 167)),
  .p (some 9) (.move (.c (.bool false)))])
 (.ret)
def c130_k1 : C :=
 .seq (.drw [11] 0 [⟨.none, .p (some 153) (.move (.t 0)), [], 0⟩,
  ⟨.none, .p (some 154) (.move (.t 11)), [], 0⟩,
  ⟨.none, .p (some 155) (.move (.t 0)), [], 0⟩,
  ⟨.none, .p (some 156) (.move (.t 1)), [], 0⟩,
  ⟨.none, .p (some 157) (.move (.t 0)), [], 0⟩,
  ⟨.none, .p (some 158) (.move (.t 1)), [], 0⟩,
  ⟨.none, .p (some 159) (.iaddr 1 (.t 157) (.t 158)), [4, 5], 0⟩,
  ⟨.none, .p (some 160) (.load false 1 (.t 159)), [6], 0⟩,
  ⟨.none, .p (some 161) (.move (.t 0)), [], 0⟩,
  ⟨.none, .p (some 162) (.move (.t 11)), [], 0⟩,
  ⟨.none, .p (some 163) (.iaddr 1 (.t 161) (.t 162)), [8, 9], 0⟩,
  ⟨.none, .p (some 164) (.load false 1 (.t 163)), [10], 0⟩,
  ⟨.none, .p (some 165) (.iaddr 1 (.t 153) (.t 154)), [0, 1, 0, 1, 4, 5, 6, 7, 11], 0⟩,
  ⟨.none, .e .none (.store 1 (.t 165) (.t 160)), [12, 7, 0, 1, 4, 5, 6, 7, 11], 0⟩,
  ⟨.none, .p (some 166) (.iaddr 1 (.t 155) (.t 156)), [2, 3, 0, 1, 2, 3, 4, 5, 6, 7, 8, 9, 10, 11, 12, 13], 0⟩,
  ⟨.none, .e .none (.store 1 (.t 166) (.t 164)), [14, 11, 13, 0, 1, 2, 3, 4, 5, 6, 7, 8, 9, 10, 11, 12, 13], 0⟩])
 (c130_k0)
def c130_k2 : C :=
 .ops [0, 1, 10, 11] [.p (some 151) (.move (.t 11)),
  .p (some 152) (.bin .sub .int [] (.t 151) (.c (.int .i64 1))),
  .p (some 11) (.move (.t 152))]
def c130_k3 : C :=
 .seq (.ops [0, 1, 10, 11] [.p (some 149) (.move (.t 10)),
  .p (some 150) (.bin .add .int [] (.t 149) (.c (.int .i64 1))),
  .p (some 10) (.move (.t 150))])
 (c130_k2)
def c130_k4 : C :=
 .seq (.drw [0, 1, 10, 11] 0 [⟨.none, .p (some 135) (.move (.t 0)), [], 0⟩,
  ⟨.none, .p (some 136) (.move (.t 10)), [], 0⟩,
  ⟨.none, .p (some 137) (.move (.t 0)), [], 0⟩,
  ⟨.none, .p (some 138) (.move (.t 11)), [], 0⟩,
  ⟨.none, .p (some 139) (.move (.t 0)), [], 0⟩,
  ⟨.none, .p (some 140) (.move (.t 11)), [], 0⟩,
  ⟨.none, .p (some 141) (.iaddr 1 (.t 139) (.t 140)), [4, 5], 0⟩,
  ⟨.none, .p (some 142) (.load false 1 (.t 141)), [6], 0⟩,
  ⟨.none, .p (some 143) (.move (.t 0)), [], 0⟩,
  ⟨.none, .p (some 144) (.move (.t 10)), [], 0⟩,
  ⟨.none, .p (some 145) (.iaddr 1 (.t 143) (.t 144)), [8, 9], 0⟩,
  ⟨.none, .p (some 146) (.load false 1 (.t 145)), [10], 0⟩,
  ⟨.none, .p (some 147) (.iaddr 1 (.t 135) (.t 136)), [0, 1, 0, 1, 4, 5, 6, 7, 11], 0⟩,
  ⟨.none, .e .none (.store 1 (.t 147) (.t 142)), [12, 7, 0, 1, 4, 5, 6, 7, 11], 0⟩,
  ⟨.none, .p (some 148) (.iaddr 1 (.t 137) (.t 138)), [2, 3, 0, 1, 2, 3, 4, 5, 6, 7, 8, 9, 10, 11, 12, 13], 0⟩,
  ⟨.none, .e .none (.store 1 (.t 148) (.t 146)), [14, 11, 13, 0, 1, 2, 3, 4, 5, 6, 7, 8, 9, 10, 11, 12, 13], 0⟩])
 (c130_k3)
def c130_k5 : C :=
 .cond (.t 134)
  (.exit 4)
  (.skip)
def c130_k6 : C :=
 .seq (.seq (.ops [0, 1, 10, 11, 134] [.p (some 132) (.move (.t 10)),
  .p (some 133) (.move (.t 11)),
  .p (some 134) (.bin .gtr .int [] (.t 132) (.t 133))])
 (c130_k5))
 (c130_k4)
def c130_k7 : C :=
 .block 9 (.ops [0, 1, 10, 11] [.p (some 130) (.move (.t 11)),
  .p (some 131) (.bin .sub .int [] (.t 130) (.c (.int .i64 1))),
  .p (some 11) (.move (.t 131))])
def c130_k8 : C :=
 .cond (.t 129)
  (.skip)
  (.exit 8)
def c130_l9 : C :=
 .seq (.seq (.drw [0, 1, 10, 11, 129] 0 [⟨.none, .p (some 115) (.move (.t 10)), [], 0⟩,
  ⟨.none, .p (some 116) (.move (.t 11)), [], 0⟩,
  ⟨.none, .p (some 117) (.bin .leq .int [] (.t 115) (.t 116)), [0, 1], 0⟩,
  ⟨.none, .p (some 118) (.move (.t 117)), [2], 0⟩,
  ⟨(some (118, true)), .p (some 119) (.move (.t 0)), [3], 0⟩,
  ⟨(some (118, true)), .p (some 120) (.move (.t 11)), [3], 0⟩,
  ⟨(some (118, true)), .p (some 121) (.iaddr 1 (.t 119) (.t 120)), [4, 5, 3], 0⟩,
  ⟨(some (118, true)), .p (some 122) (.load false 1 (.t 121)), [6, 3], 0⟩,
  ⟨(some (118, true)), .p (some 123) (.move (.t 0)), [3], 0⟩,
  ⟨(some (118, true)), .p (some 124) (.move (.t 1)), [3], 0⟩,
  ⟨(some (118, true)), .p (some 125) (.iaddr 1 (.t 123) (.t 124)), [8, 9, 3], 0⟩,
  ⟨(some (118, true)), .p (some 126) (.load false 1 (.t 125)), [10, 3], 0⟩,
  ⟨(some (118, true)), .call (some 127) 128 [(.t 122), (.t 126)], [7, 11, 3, 3], 0⟩,
  ⟨(some (118, true)), .p (some 128) (.una .not (.t 127)), [12, 3], 0⟩,
  ⟨.none, .p (some 129) (.pick (.t 118) (.t 128) (.c (.bool false))), [3, 13], 0⟩])
 (c130_k8))
 (c130_k7)
def c130_k10 : C :=
 .seq (.block 8 (.loop [0, 1, 10, 11] c130_l9))
 (c130_k6)
def c130_k11 : C :=
 .block 7 (.ops [0, 1, 10, 11] [.p (some 113) (.move (.t 10)),
  .p (some 114) (.bin .add .int [] (.t 113) (.c (.int .i64 1))),
  .p (some 10) (.move (.t 114))])
def c130_k12 : C :=
 .cond (.t 112)
  (.skip)
  (.exit 6)
def c130_l13 : C :=
 .seq (.seq (.drw [0, 1, 10, 11, 112] 0 [⟨.none, .p (some 99) (.move (.t 10)), [], 0⟩,
  ⟨.none, .p (some 100) (.move (.t 11)), [], 0⟩,
  ⟨.none, .p (some 101) (.bin .leq .int [] (.t 99) (.t 100)), [0, 1], 0⟩,
  ⟨.none, .p (some 102) (.move (.t 101)), [2], 0⟩,
  ⟨(some (102, true)), .p (some 103) (.move (.t 0)), [3], 0⟩,
  ⟨(some (102, true)), .p (some 104) (.move (.t 10)), [3], 0⟩,
  ⟨(some (102, true)), .p (some 105) (.iaddr 1 (.t 103) (.t 104)), [4, 5, 3], 0⟩,
  ⟨(some (102, true)), .p (some 106) (.load false 1 (.t 105)), [6, 3], 0⟩,
  ⟨(some (102, true)), .p (some 107) (.move (.t 0)), [3], 0⟩,
  ⟨(some (102, true)), .p (some 108) (.move (.t 1)), [3], 0⟩,
  ⟨(some (102, true)), .p (some 109) (.iaddr 1 (.t 107) (.t 108)), [8, 9, 3], 0⟩,
  ⟨(some (102, true)), .p (some 110) (.load false 1 (.t 109)), [10, 3], 0⟩,
  ⟨(some (102, true)), .call (some 111) 128 [(.t 106), (.t 110)], [7, 11, 3, 3], 0⟩,
  ⟨.none, .p (some 112) (.pick (.t 102) (.t 111) (.c (.bool false))), [3, 12], 0⟩])
 (c130_k12))
 (c130_k11)
def c130_k14 : C :=
 .seq (.block 6 (.loop [0, 1, 10, 11] c130_l13))
 (c130_k10)
def c130_l15 : C :=
 .block 5 (c130_k14)
def c130_k16 : C :=
 .seq (.block 4 (.loop [0, 1, 10, 11] c130_l15))
 (c130_k1)
def c130_k17 : C :=
 .seq (.ops [0, 1, 10, 11] [.p (some 97) (.move (.t 11)),
  .p (some 98) (.bin .sub .int [] (.t 97) (.c (.int .i64 1))),
  .p (some 11) (.move (.t 98))])
 (c130_k16)
def c130_k18 : C :=
 .seq (.ops [0, 1, 10, 11] [.p (some 95) (.move (.t 10)),
  .p (some 96) (.bin .add .int [] (.t 95) (.c (.int .i64 1))),
  .p (some 10) (.move (.t 96))])
 (c130_k17)
def c130_k19 : C :=
 .seq (.drw [0, 1, 10, 11] 0 [⟨.none, .p (some 81) (.move (.t 0)), [], 0⟩,
  ⟨.none, .p (some 82) (.move (.t 10)), [], 0⟩,
  ⟨.none, .p (some 83) (.move (.t 0)), [], 0⟩,
  ⟨.none, .p (some 84) (.move (.t 11)), [], 0⟩,
  ⟨.none, .p (some 85) (.move (.t 0)), [], 0⟩,
  ⟨.none, .p (some 86) (.move (.t 11)), [], 0⟩,
  ⟨.none, .p (some 87) (.iaddr 1 (.t 85) (.t 86)), [4, 5], 0⟩,
  ⟨.none, .p (some 88) (.load false 1 (.t 87)), [6], 0⟩,
  ⟨.none, .p (some 89) (.move (.t 0)), [], 0⟩,
  ⟨.none, .p (some 90) (.move (.t 10)), [], 0⟩,
  ⟨.none, .p (some 91) (.iaddr 1 (.t 89) (.t 90)), [8, 9], 0⟩,
  ⟨.none, .p (some 92) (.load false 1 (.t 91)), [10], 0⟩,
  ⟨.none, .p (some 93) (.iaddr 1 (.t 81) (.t 82)), [0, 1, 0, 1, 4, 5, 6, 7, 11], 0⟩,
  ⟨.none, .e .none (.store 1 (.t 93) (.t 88)), [12, 7, 0, 1, 4, 5, 6, 7, 11], 0⟩,
  ⟨.none, .p (some 94) (.iaddr 1 (.t 83) (.t 84)), [2, 3, 0, 1, 2, 3, 4, 5, 6, 7, 8, 9, 10, 11, 12, 13], 0⟩,
  ⟨.none, .e .none (.store 1 (.t 94) (.t 92)), [14, 11, 13, 0, 1, 2, 3, 4, 5, 6, 7, 8, 9, 10, 11, 12, 13], 0⟩])
 (c130_k18)
def c130_k20 : C :=
 .seq (.ops [8, 9] [.p (some 80) (.move (.t 11)),
  .p (some 8) (.move (.t 80)),
  .p (some 9) (.move (.c (.bool true)))])
 (.ret)
def c130_k21 : C :=
 .seq (.drw [11] 0 [⟨.none, .p (some 66) (.move (.t 0)), [], 0⟩,
   ⟨.none, .p (some 67) (.move (.t 11)), [], 0⟩,
   ⟨.none, .p (some 68) (.move (.t 0)), [], 0⟩,
   ⟨.none, .p (some 69) (.move (.t 1)), [], 0⟩,
   ⟨.none, .p (some 70) (.move (.t 0)), [], 0⟩,
   ⟨.none, .p (some 71) (.move (.t 1)), [], 0⟩,
   ⟨.none, .p (some 72) (.iaddr 1 (.t 70) (.t 71)), [4, 5], 0⟩,
   ⟨.none, .p (some 73) (.load false 1 (.t 72)), [6], 0⟩,
   ⟨.none, .p (some 74) (.move (.t 0)), [], 0⟩,
   ⟨.none, .p (some 75) (.move (.t 11)), [], 0⟩,
   ⟨.none, .p (some 76) (.iaddr 1 (.t 74) (.t 75)), [8, 9], 0⟩,
   ⟨.none, .p (some 77) (.load false 1 (.t 76)), [10], 0⟩,
   ⟨.none, .p (some 78) (.iaddr 1 (.t 66) (.t 67)), [0, 1, 0, 1, 4, 5, 6, 7, 11], 0⟩,
   ⟨.none, .e .none (.store 1 (.t 78) (.t 73)), [12, 7, 0, 1, 4, 5, 6, 7, 11], 0⟩,
   ⟨.none, .p (some 79) (.iaddr 1 (.t 68) (.t 69)), [2, 3, 0, 1, 2, 3, 4, 5, 6, 7, 8, 9, 10, 11, 12, 13], 0⟩,
   ⟨.none, .e .none (.store 1 (.t 79) (.t 77)), [14, 11, 13, 0, 1, 2, 3, 4, 5, 6, 7, 8, 9, 10, 11, 12, 13], 0⟩])
  (c130_k20)
def c130_k22 : C :=
 .cond (.t 65)
  (c130_k21)
  (.skip)
def c130_k23 : C :=
 .seq (.seq (.ops [0, 1, 10, 11, 65] [.p (some 63) (.move (.t 10)),
  .p (some 64) (.move (.t 11)),
  .p (some 65) (.bin .gtr .int [] (.t 63) (.t 64))])
 (c130_k22))
 (c130_k19)
def c130_k24 : C :=
 .block 3 (.ops [0, 1, 10, 11] [.p (some 61) (.move (.t 11)),
  .p (some 62) (.bin .sub .int [] (.t 61) (.c (.int .i64 1))),
  .p (some 11) (.move (.t 62))])
def c130_k25 : C :=
 .cond (.t 60)
  (.skip)
  (.exit 2)
def c130_l26 : C :=
 .seq (.seq (.drw [0, 1, 10, 11, 60] 0 [⟨.none, .p (some 46) (.move (.t 10)), [], 0⟩,
  ⟨.none, .p (some 47) (.move (.t 11)), [], 0⟩,
  ⟨.none, .p (some 48) (.bin .leq .int [] (.t 46) (.t 47)), [0, 1], 0⟩,
  ⟨.none, .p (some 49) (.move (.t 48)), [2], 0⟩,
  ⟨(some (49, true)), .p (some 50) (.move (.t 0)), [3], 0⟩,
  ⟨(some (49, true)), .p (some 51) (.move (.t 11)), [3], 0⟩,
  ⟨(some (49, true)), .p (some 52) (.iaddr 1 (.t 50) (.t 51)), [4, 5, 3], 0⟩,
  ⟨(some (49, true)), .p (some 53) (.load false 1 (.t 52)), [6, 3], 0⟩,
  ⟨(some (49, true)), .p (some 54) (.move (.t 0)), [3], 0⟩,
  ⟨(some (49, true)), .p (some 55) (.move (.t 1)), [3], 0⟩,
  ⟨(some (49, true)), .p (some 56) (.iaddr 1 (.t 54) (.t 55)), [8, 9, 3], 0⟩,
  ⟨(some (49, true)), .p (some 57) (.load false 1 (.t 56)), [10, 3], 0⟩,
  ⟨(some (49, true)), .call (some 58) 128 [(.t 53), (.t 57)], [7, 11, 3, 3], 0⟩,
  ⟨(some (49, true)), .p (some 59) (.una .not (.t 58)), [12, 3], 0⟩,
  ⟨.none, .p (some 60) (.pick (.t 49) (.t 59) (.c (.bool false))), [3, 13], 0⟩])
 (c130_k25))
 (c130_k24)
def c130_k27 : C :=
 .seq (.block 2 (.loop [0, 1, 10, 11] c130_l26))
 (c130_k23)
def c130_k28 : C :=
 .block 1 (.ops [0, 1, 10, 11] [.p (some 44) (.move (.t 10)),
  .p (some 45) (.bin .add .int [] (.t 44) (.c (.int .i64 1))),
  .p (some 10) (.move (.t 45))])
def c130_k29 : C :=
 .cond (.t 43)
  (.skip)
  (.exit 0)
def c130_l30 : C :=
 .seq (.seq (.drw [0, 1, 10, 11, 43] 0 [⟨.none, .p (some 30) (.move (.t 10)), [], 0⟩,
  ⟨.none, .p (some 31) (.move (.t 11)), [], 0⟩,
  ⟨.none, .p (some 32) (.bin .leq .int [] (.t 30) (.t 31)), [0, 1], 0⟩,
  ⟨.none, .p (some 33) (.move (.t 32)), [2], 0⟩,
  ⟨(some (33, true)), .p (some 34) (.move (.t 0)), [3], 0⟩,
  ⟨(some (33, true)), .p (some 35) (.move (.t 10)), [3], 0⟩,
  ⟨(some (33, true)), .p (some 36) (.iaddr 1 (.t 34) (.t 35)), [4, 5, 3], 0⟩,
  ⟨(some (33, true)), .p (some 37) (.load false 1 (.t 36)), [6, 3], 0⟩,
  ⟨(some (33, true)), .p (some 38) (.move (.t 0)), [3], 0⟩,
  ⟨(some (33, true)), .p (some 39) (.move (.t 1)), [3], 0⟩,
  ⟨(some (33, true)), .p (some 40) (.iaddr 1 (.t 38) (.t 39)), [8, 9, 3], 0⟩,
  ⟨(some (33, true)), .p (some 41) (.load false 1 (.t 40)), [10, 3], 0⟩,
  ⟨(some (33, true)), .call (some 42) 128 [(.t 37), (.t 41)], [7, 11, 3, 3], 0⟩,
  ⟨.none, .p (some 43) (.pick (.t 33) (.t 42) (.c (.bool false))), [3, 12], 0⟩])
 (c130_k29))
 (c130_k28)
def c130_k31 : C :=
 .seq (.block 0 (.loop [0, 1, 10, 11] c130_l30))
 (c130_k27)
def c130_k32 : C :=
 .seq (.ops [0, 1, 10, 11] [.p (some 26) (.move (.t 1)),
  .p (some 27) (.bin .add .int [] (.t 26) (.c (.int .i64 1))),
  .p (some 28) (.move (.t 2)),
  .p (some 29) (.bin .sub .int [] (.t 28) (.c (.int .i64 1))),
  .p (some 10) (.move (.t 27)),
  .p (some 11) (.move (.t 29))])
 (c130_k31)
def c130_k33 : C :=
 .seq (.drw [0, 1, 2] 0 [⟨.none, .p (some 12) (.move (.t 0)), [], 0⟩,
  ⟨.none, .p (some 13) (.move (.t 1)), [], 0⟩,
  ⟨.none, .p (some 14) (.move (.t 0)), [], 0⟩,
  ⟨.none, .p (some 15) (.move (.t 3)), [], 0⟩,
  ⟨.none, .p (some 16) (.move (.t 0)), [], 0⟩,
  ⟨.none, .p (some 17) (.move (.t 3)), [], 0⟩,
  ⟨.none, .p (some 18) (.iaddr 1 (.t 16) (.t 17)), [4, 5], 0⟩,
  ⟨.none, .p (some 19) (.load false 1 (.t 18)), [6], 0⟩,
  ⟨.none, .p (some 20) (.move (.t 0)), [], 0⟩,
  ⟨.none, .p (some 21) (.move (.t 1)), [], 0⟩,
  ⟨.none, .p (some 22) (.iaddr 1 (.t 20) (.t 21)), [8, 9], 0⟩,
  ⟨.none, .p (some 23) (.load false 1 (.t 22)), [10], 0⟩,
  ⟨.none, .p (some 24) (.iaddr 1 (.t 12) (.t 13)), [0, 1, 0, 1, 4, 5, 6, 7, 11], 0⟩,
  ⟨.none, .e .none (.store 1 (.t 24) (.t 19)), [12, 7, 0, 1, 4, 5, 6, 7, 11], 0⟩,
  ⟨.none, .p (some 25) (.iaddr 1 (.t 14) (.t 15)), [2, 3, 0, 1, 2, 3, 4, 5, 6, 7, 8, 9, 10, 11, 12, 13], 0⟩,
  ⟨.none, .e .none (.store 1 (.t 25) (.t 23)), [14, 11, 13, 0, 1, 2, 3, 4, 5, 6, 7, 8, 9, 10, 11, 12, 13], 0⟩])
 (c130_k32)
def c130 : FnC := ⟨4, 168, [.tmp 8, .tmp 9],
 .seq (.ops [0, 1, 2, 3] [.p (some 8) (.move (.c (.int .i64 0))),
  .p (some 9) (.move (.c (.bool false)))])
 (c130_k33),
 []⟩

def c11_k0 : C :=
 .seq (.ops [4, 5] [.p (some 25) (.move (.t 6)),
  .p (some 4) (.move (.t 25)),
  .p (some 5) (.move (.c .nili))])
 (.ret)
def c11_k1 : C :=
 .cond (.t 23)
  (.seq (.ops [4, 5] [.p (some 24) (.move (.t 7)),
   .p (some 4) (.move (.c .nilp)),
   .p (some 5) (.move (.t 24))])
  (.ret))
  (.skip)
def c11_k2 : C :=
 .seq (.ops [6, 7, 23] [.p (some 22) (.move (.t 7)),
  .p (some 23) (.bin .neq .iface [] (.t 22) (.c .nili))])
 (c11_k1)
def c11_k3 : C :=
 .seq (.seq (.ops [6, 7] [.p (some 19) (.move (.t 6)),
  .p (some 20) (.move (.t 1)),
  .call (some 21) 28 [(.t 19), (.t 20)],
  .p (some 7) (.move (.t 21))])
 (c11_k2))
 (c11_k0)
def c11_k4 : C :=
 .seq (.ops [1, 6] [.p (some 15) (.move (.t 0)),
  .e (some 16) (.makeSlice 55 1 4 [(.int .u32 0)] (.t 15) (.t 15)),
  .p (some 17) (.build [.nils] [(0, 1, (.t 16))]),
  .e (some 18) (.box (.t 17)),
  .p (some 6) (.move (.t 18))])
 (c11_k3)
def c11_k5 : C :=
 .cond (.t 13)
  (.seq (.ops [4, 5] [.p (some 14) (.mkif 39 (.c (.int .i64 1))),
   .p (some 4) (.move (.c .nilp)),
   .p (some 5) (.move (.t 14))])
  (.ret))
  (.skip)
def c11_k6 : C :=
 .seq (.seq (.ops [0, 1, 13] [.p (some 8) (.move (.t 0)),
  .p (some 9) (.bin .lss .int [] (.t 8) (.c (.int .i64 1))),
  .p (some 10) (.move (.t 9)),
  .when 10 false [.p (some 11) (.move (.t 0)),
   .p (some 12) (.bin .gtr .int [] (.t 11) (.c (.int .i64 40)))],
  .p (some 13) (.pick (.t 10) (.c (.bool true)) (.t 12))])
 (c11_k5))
 (c11_k4)
def c11 : FnC := ⟨2, 26, [.tmp 4, .tmp 5],
 .seq (.ops [0, 1] [.p (some 4) (.move (.c .nilp)),
  .p (some 5) (.move (.c .nili))])
 (c11_k6),
 []⟩

def c28_k0 : C :=
 .ops [0, 14, 15, 16] [.p (some 20) (.move (.t 0)),
  .p (some 21) (.nilCheck (.t 20)),
  .p (some 22) (.faddr 0 (.t 21)),
  .p (some 23) (.load false 1 (.t 22)),
  .p (some 24) (.move (.t 6)),
  .call (some 25) 55 [(.t 23), (.t 24)]]
def c28_k1 : C :=
 .seq (.block 1 (.seq (.ops [0, 6, 14, 15, 16] [.p (some 18) (.iaddr 1 (.t 14) (.t 16)),
  .p (some 19) (.load false 1 (.t 18)),
  .p (some 6) (.move (.t 19))])
 (c28_k0)))
 (.ops [0, 14, 15, 16] [.p (some 26) (.bin .add .int [] (.t 16) (.c (.int .i64 1))),
  .p (some 16) (.move (.t 26))])
def c28_k2 : C :=
 .seq (.cond (.t 17)
  (.skip)
  (.exit 0))
 (c28_k1)
def c28_l3 : C :=
 .seq (.ops [0, 14, 15, 16, 17] [.p (some 17) (.bin .lss .int [] (.t 16) (.t 15))])
 (c28_k2)
def c28_k4 : C :=
 .block 0 (.loop [0, 14, 15, 16] c28_l3)
def c28_k5 : C :=
 .seq (.seq (.ops [0, 14, 15, 16] [.p (some 14) (.move (.t 1)),
  .p (some 15) (.len .slice (.t 14)),
  .p (some 16) (.move (.c (.int .i64 0)))])
 (c28_k4))
 (.seq (.ops [4] [.p (some 4) (.move (.c .nili))])
 (.ret))
def c28_k6 : C :=
 .cond (.t 12)
  (.seq (.ops [4] [.p (some 13) (.mkif 39 (.c (.int .i64 1))),
   .p (some 4) (.move (.t 13))])
  (.ret))
  (.skip)
def c28_k7 : C :=
 .seq (.seq (.ops [0, 1, 12] [.p (some 7) (.move (.t 0)),
  .p (some 8) (.bin .eql .ptr [] (.t 7) (.c .nilp)),
  .p (some 9) (.move (.t 8)),
  .when 9 false [.p (some 10) (.move (.t 1)),
   .call (some 11) 54 [(.t 10), (.c (.int .u32 0))]],
  .p (some 12) (.pick (.t 9) (.c (.bool true)) (.t 11))])
 (c28_k6))
 (c28_k5)
def c28 : FnC := ⟨2, 27, [.tmp 4],
 .seq (.ops [0, 1] [.p (some 4) (.move (.c .nili))])
 (c28_k7),
 []⟩

def c55_k0 : C :=
 .ops [0, 1, 4, 10, 11] [.p (some 21) (.move (.t 4)),
  .p (some 22) (.move (.t 1)),
  .call (some 23) 73 [(.t 21), (.t 22)],
  .p (some 1) (.move (.t 23))]
def c55_k1 : C :=
 .seq (.ops [0, 1, 4, 10, 11] [.p (some 14) (.move (.t 0)),
  .p (some 15) (.move (.t 5)),
  .p (some 16) (.iaddr 1 (.t 14) (.t 15)),
  .p (some 17) (.load false 1 (.t 16)),
  .p (some 18) (.move (.t 1)),
  .p (some 19) (.bin .xor .int [] (.t 17) (.t 18)),
  .p (some 20) (.iaddr 1 (.t 14) (.t 15)),
  .e .none (.store 1 (.t 20) (.t 19))])
 (c55_k0)
def c55_k2 : C :=
 .seq (.ops [0, 1, 4, 5, 10, 11] [.p (some 13) (.move (.t 11)),
  .p (some 5) (.move (.t 13))])
 (c55_k1)
def c55_k3 : C :=
 .seq (.block 1 (c55_k2))
 (.ops [0, 1, 4, 10, 11] [.p (some 24) (.bin .add .int [] (.t 11) (.c (.int .i64 1))),
  .p (some 11) (.move (.t 24))])
def c55_k4 : C :=
 .seq (.cond (.t 12)
  (.skip)
  (.exit 0))
 (c55_k3)
def c55_l5 : C :=
 .seq (.ops [0, 1, 4, 10, 11, 12] [.p (some 12) (.bin .lss .int [] (.t 11) (.t 10))])
 (c55_k4)
def c55_k6 : C :=
 .block 0 (.loop [0, 1, 4, 10, 11] c55_l5)
def c55_k7 : C :=
 .seq (.ops [0, 1, 4, 10, 11] [.p (some 9) (.move (.t 0)),
  .p (some 10) (.len .slice (.t 9)),
  .p (some 11) (.move (.c (.int .i64 0)))])
 (c55_k6)
def c55 : FnC := ⟨2, 25, [],
 .seq (.ops [0, 1, 4] [.p (some 6) (.move (.t 1)),
  .call (some 7) 61 [(.t 6)],
  .call (some 8) 72 [(.t 7)],
  .p (some 4) (.move (.t 8))])
 (c55_k7),
 []⟩

def c61_k0 : C :=
 .seq (.ops [2] [.p (some 3) (.move (.t 0)),
  .p (some 4) (.move (.t 0)),
  .call (some 5) 79 [(.t 3), (.t 4)],
  .p (some 2) (.move (.t 5))])
 (.ret)
def c61 : FnC := ⟨1, 6, [.tmp 2],
 .seq (.ops [0] [.p (some 2) (.move (.c (.int .u32 0)))])
 (c61_k0),
 []⟩

def c79_k0 : C :=
 .seq (.ops [4] [.p (some 21) (.move (.t 5)),
  .p (some 4) (.move (.t 21))])
 (.ret)
def c79_k1 : C :=
 .ops [0, 1, 5, 6] [.p (some 9) (.move (.t 6)),
  .p (some 10) (.bin .sub .int [] (.t 9) (.c (.int .i64 1))),
  .p (some 6) (.move (.t 10))]
def c79_k2 : C :=
 .cond (.t 17)
  (.ops [0, 1, 5, 6] [.p (some 18) (.move (.t 5)),
   .p (some 19) (.move (.t 0)),
   .p (some 20) (.bin .xor .int [] (.t 18) (.t 19)),
   .p (some 5) (.move (.t 20))])
  (.skip)
def c79_k3 : C :=
 .seq (.ops [0, 1, 5, 6, 17] [.p (some 13) (.move (.t 1)),
  .p (some 14) (.move (.t 6)),
  .p (some 15) (.bin .shr .int [] (.t 13) (.t 14)),
  .p (some 16) (.bin .and .int [] (.t 15) (.c (.int .u32 1))),
  .p (some 17) (.bin .eql .int [] (.t 16) (.c (.int .u32 1)))])
 (c79_k2)
def c79_k4 : C :=
 .seq (.ops [0, 1, 5, 6] [.p (some 11) (.move (.t 5)),
  .call (some 12) 100 [(.t 11)],
  .p (some 5) (.move (.t 12))])
 (c79_k3)
def c79_k5 : C :=
 .seq (.block 1 (c79_k4))
 (c79_k1)
def c79_k6 : C :=
 .cond (.t 8)
  (.skip)
  (.exit 0)
def c79_l7 : C :=
 .seq (.seq (.ops [0, 1, 5, 6, 8] [.p (some 7) (.move (.t 6)),
  .p (some 8) (.bin .geq .int [] (.t 7) (.c (.int .i64 0)))])
 (c79_k6))
 (c79_k5)
def c79_k8 : C :=
 .block 0 (.loop [0, 1, 5, 6] c79_l7)
def c79_k9 : C :=
 .seq (.seq (.ops [0, 1, 5, 6] [.p (some 6) (.move (.c (.int .i64 31)))])
 (c79_k8))
 (c79_k0)
def c79_k10 : C :=
 .seq (.ops [0, 1, 5] [.p (some 5) (.move (.c (.int .u32 0)))])
 (c79_k9)
def c79 : FnC := ⟨2, 22, [.tmp 4],
 .seq (.ops [0, 1] [.p (some 4) (.move (.c (.int .u32 0)))])
 (c79_k10),
 []⟩

def c100_k0 : C :=
 .seq (.ops [2] [.p (some 9) (.move (.t 0)),
  .p (some 10) (.bin .shl .int [] (.t 9) (.c (.int .u64 1))),
  .p (some 2) (.move (.t 10))])
 (.ret)
def c100_k1 : C :=
 .cond (.t 5)
  (.seq (.ops [2] [.p (some 6) (.move (.t 0)),
   .p (some 7) (.bin .shl .int [] (.t 6) (.c (.int .u64 1))),
   .p (some 8) (.bin .xor .int [] (.t 7) (.c (.int .u32 141))),
   .p (some 2) (.move (.t 8))])
  (.ret))
  (.skip)
def c100_k2 : C :=
 .seq (.seq (.ops [0, 5] [.p (some 3) (.move (.t 0)),
  .p (some 4) (.bin .and .int [] (.t 3) (.c (.int .u32 2147483648))),
  .p (some 5) (.bin .neq .int [] (.t 4) (.c (.int .u32 0)))])
 (c100_k1))
 (c100_k0)
def c100 : FnC := ⟨1, 11, [.tmp 2],
 .seq (.ops [0] [.p (some 2) (.move (.c (.int .u32 0)))])
 (c100_k2),
 []⟩

def c72_k0 : C :=
 .seq (.ops [2] [.p (some 30) (.move (.t 3)),
  .p (some 2) (.move (.t 30))])
 (.ret)
def c72_k1 : C :=
 .drw [0, 3, 4, 8, 11] 0 [⟨.none, .p (some 14) (.move (.t 3)), [], 0⟩,
  ⟨.none, .p (some 15) (.move (.t 4)), [], 0⟩,
  ⟨.none, .p (some 16) (.move (.t 5)), [], 0⟩,
  ⟨.none, .p (some 17) (.move (.t 0)), [], 0⟩,
  ⟨.none, .p (some 18) (.move (.t 5)), [], 0⟩,
  ⟨.none, .p (some 19) (.conv (.int .u32) (.t 18)), [4], 0⟩,
  ⟨.none, .p (some 20) (.move (.t 4)), [], 0⟩,
  ⟨.none, .p (some 21) (.bin .mul .int [] (.c (.int .i64 8)) (.t 20)), [6], 0⟩,
  ⟨.none, .p (some 22) (.bin .shl .int [] (.t 19) (.t 21)), [5, 7], 0⟩,
  ⟨.none, .call (some 23) 79 [(.t 17), (.t 22)], [3, 8], 0⟩,
  ⟨.none, .p (some 24) (.nilCheck (.t 14)), [0], 0⟩,
  ⟨.none, .p (some 25) (.faddr 0 (.t 24)), [10], 0⟩,
  ⟨.none, .p (some 26) (.iaddrArr 4 256 (.t 25) (.t 15)), [11, 1], 0⟩,
  ⟨.none, .p (some 27) (.iaddrArr 256 1 (.t 26) (.t 16)), [12, 2, 0, 1, 2, 3, 4, 5, 6, 7, 8, 9], 0⟩,
  ⟨.none, .e .none (.store 1 (.t 27) (.t 23)), [13, 9, 9, 0, 1, 2, 3, 4, 5, 6, 7, 8, 9], 0⟩]
def c72_k2 : C :=
 .seq (.ops [0, 3, 4, 5, 8, 11] [.p (some 13) (.move (.t 11)),
  .p (some 5) (.move (.t 13))])
 (c72_k1)
def c72_k3 : C :=
 .seq (.block 3 (c72_k2))
 (.ops [0, 3, 4, 8, 11] [.p (some 28) (.bin .add .int [] (.t 11) (.c (.int .i64 1))),
  .p (some 11) (.move (.t 28))])
def c72_k4 : C :=
 .seq (.cond (.t 12)
  (.skip)
  (.exit 2))
 (c72_k3)
def c72_l5 : C :=
 .seq (.ops [0, 3, 4, 8, 11, 12] [.p (some 12) (.bin .lss .int [] (.t 11) (.c (.int .i64 256)))])
 (c72_k4)
def c72_k6 : C :=
 .block 2 (.loop [0, 3, 4, 8, 11] c72_l5)
def c72_k7 : C :=
 .seq (.ops [0, 3, 4, 8, 11] [.p (some 11) (.move (.c (.int .i64 0)))])
 (c72_k6)
def c72_k8 : C :=
 .seq (.block 1 (.seq (.ops [0, 3, 4, 8] [.p (some 10) (.move (.t 8)),
  .p (some 4) (.move (.t 10))])
 (c72_k7)))
 (.ops [0, 3, 8] [.p (some 29) (.bin .add .int [] (.t 8) (.c (.int .i64 1))),
  .p (some 8) (.move (.t 29))])
def c72_k9 : C :=
 .seq (.cond (.t 9)
  (.skip)
  (.exit 0))
 (c72_k8)
def c72_l10 : C :=
 .seq (.ops [0, 3, 8, 9] [.p (some 9) (.bin .lss .int [] (.t 8) (.c (.int .i64 4)))])
 (c72_k9)
def c72_k11 : C :=
 .block 0 (.loop [0, 3, 8] c72_l10)
def c72_k12 : C :=
 .seq (.seq (.ops [0, 3, 8] [.p (some 8) (.move (.c (.int .i64 0)))])
 (c72_k11))
 (c72_k0)
def c72_k13 : C :=
 .seq (.ops [0, 3] [.p (some 6) (.build (List.replicate 1024 (.int .u32 0)) []),
  .e (some 7) (.box (.t 6)),
  .p (some 3) (.move (.t 7))])
 (c72_k12)
def c72 : FnC := ⟨1, 31, [.tmp 2],
 .seq (.ops [0] [.p (some 2) (.move (.c .nilp))])
 (c72_k13),
 []⟩

def c73_k0 : C :=
 .seq (.ops [4] [.p (some 27) (.move (.t 5)),
  .p (some 4) (.move (.t 27))])
 (.ret)
def c73_k1 : C :=
 .drw [0, 1, 5, 9] 0 [⟨.none, .p (some 12) (.move (.t 5)), [], 0⟩,
  ⟨.none, .p (some 13) (.move (.t 0)), [], 0⟩,
  ⟨.none, .p (some 14) (.move (.t 6)), [], 0⟩,
  ⟨.none, .p (some 15) (.move (.t 1)), [], 0⟩,
  ⟨.none, .p (some 16) (.move (.t 6)), [], 0⟩,
  ⟨.none, .p (some 17) (.bin .mul .int [] (.c (.int .i64 8)) (.t 16)), [4], 0⟩,
  ⟨.none, .p (some 18) (.bin .shr .int [] (.t 15) (.t 17)), [3, 5], 0⟩,
  ⟨.none, .p (some 19) (.bin .and .int [] (.t 18) (.c (.int .u32 255))), [6], 0⟩,
  ⟨.none, .p (some 20) (.nilCheck (.t 13)), [1], 0⟩,
  ⟨.none, .p (some 21) (.faddr 0 (.t 20)), [8], 0⟩,
  ⟨.none, .p (some 22) (.iaddrArr 4 256 (.t 21) (.t 14)), [9, 2], 0⟩,
  ⟨.none, .p (some 23) (.iaddrArr 256 1 (.t 22) (.t 19)), [10, 7], 0⟩,
  ⟨.none, .p (some 24) (.load false 1 (.t 23)), [11], 0⟩,
  ⟨.none, .p (some 25) (.bin .xor .int [] (.t 12) (.t 24)), [0, 12], 0⟩,
  ⟨.none, .p (some 5) (.move (.t 25)), [13, 0, 1, 2, 3, 4, 5, 6, 7, 8, 9, 10, 11, 12, 13], 0⟩]
def c73_k2 : C :=
 .seq (.ops [0, 1, 5, 6, 9] [.p (some 11) (.move (.t 9)),
  .p (some 6) (.move (.t 11))])
 (c73_k1)
def c73_k3 : C :=
 .seq (.block 1 (c73_k2))
 (.ops [0, 1, 5, 9] [.p (some 26) (.bin .add .int [] (.t 9) (.c (.int .i64 1))),
  .p (some 9) (.move (.t 26))])
def c73_k4 : C :=
 .seq (.cond (.t 10)
  (.skip)
  (.exit 0))
 (c73_k3)
def c73_l5 : C :=
 .seq (.ops [0, 1, 5, 9, 10] [.p (some 10) (.bin .lss .int [] (.t 9) (.c (.int .i64 4)))])
 (c73_k4)
def c73_k6 : C :=
 .block 0 (.loop [0, 1, 5, 9] c73_l5)
def c73_k7 : C :=
 .seq (.seq (.ops [0, 1, 5, 9] [.p (some 9) (.move (.c (.int .i64 0)))])
 (c73_k6))
 (c73_k0)
def c73_k8 : C :=
 .seq (.ops [0, 1, 5] [.p (some 5) (.move (.c (.int .u32 0)))])
 (c73_k7)
def c73_k9 : C :=
 .cond (.t 8)
  (.seq (.ops [4] [.p (some 4) (.move (.c (.int .u32 0)))])
  (.ret))
  (.skip)
def c73_k10 : C :=
 .seq (.seq (.ops [0, 1, 8] [.p (some 7) (.move (.t 0)),
  .p (some 8) (.bin .eql .ptr [] (.t 7) (.c .nilp))])
 (c73_k9))
 (c73_k8)
def c73 : FnC := ⟨2, 28, [.tmp 4],
 .seq (.ops [0, 1] [.p (some 4) (.move (.c (.int .u32 0)))])
 (c73_k10),
 []⟩

def c12_k0 : C :=
 .seq (.ops [4, 5] [.p (some 51) (.move (.t 6)),
  .p (some 52) (.build [.nils] [(0, 1, (.t 51))]),
  .e (some 53) (.box (.t 52)),
  .p (some 4) (.move (.t 53)),
  .p (some 5) (.move (.c .nili))])
 (.ret)
def c12_k1 : C :=
 .drw [0, 1, 6, 28, 29] 0 [⟨.none, .p (some 32) (.move (.t 6)), [], 0⟩,
  ⟨.none, .p (some 33) (.move (.t 7)), [], 0⟩,
  ⟨.none, .p (some 34) (.move (.t 0)), [], 0⟩,
  ⟨.none, .p (some 35) (.nilCheck (.t 34)), [2], 0⟩,
  ⟨.none, .p (some 36) (.faddr 0 (.t 35)), [3], 0⟩,
  ⟨.none, .p (some 37) (.load false 1 (.t 36)), [4], 0⟩,
  ⟨.none, .p (some 38) (.move (.t 7)), [], 0⟩,
  ⟨.none, .p (some 39) (.iaddr 1 (.t 37) (.t 38)), [5, 6], 0⟩,
  ⟨.none, .p (some 40) (.load false 1 (.t 39)), [7], 0⟩,
  ⟨.none, .p (some 41) (.move (.t 1)), [], 0⟩,
  ⟨.none, .p (some 42) (.nilCheck (.t 41)), [9], 0⟩,
  ⟨.none, .p (some 43) (.faddr 0 (.t 42)), [10], 0⟩,
  ⟨.none, .p (some 44) (.load false 1 (.t 43)), [11], 0⟩,
  ⟨.none, .p (some 45) (.move (.t 7)), [], 0⟩,
  ⟨.none, .p (some 46) (.iaddr 1 (.t 44) (.t 45)), [12, 13], 0⟩,
  ⟨.none, .p (some 47) (.load false 1 (.t 46)), [14], 0⟩,
  ⟨.none, .p (some 48) (.bin .xor .int [] (.t 40) (.t 47)), [8, 15], 0⟩,
  ⟨.none, .p (some 49) (.iaddr 1 (.t 32) (.t 33)), [0, 1, 0, 1, 2, 3, 4, 5, 6, 7, 8, 9, 10, 11, 12, 13, 14, 15, 16], 0⟩,
  ⟨.none, .e .none (.store 1 (.t 49) (.t 48)), [17, 16, 0, 1, 2, 3, 4, 5, 6, 7, 8, 9, 10, 11, 12, 13, 14, 15, 16], 0⟩]
def c12_k2 : C :=
 .seq (.ops [0, 1, 6, 7, 28, 29] [.p (some 31) (.move (.t 29)),
  .p (some 7) (.move (.t 31))])
 (c12_k1)
def c12_k3 : C :=
 .seq (.block 1 (c12_k2))
 (.ops [0, 1, 6, 28, 29] [.p (some 50) (.bin .add .int [] (.t 29) (.c (.int .i64 1))),
  .p (some 29) (.move (.t 50))])
def c12_k4 : C :=
 .seq (.cond (.t 30)
  (.skip)
  (.exit 0))
 (c12_k3)
def c12_l5 : C :=
 .seq (.ops [0, 1, 6, 28, 29, 30] [.p (some 30) (.bin .lss .int [] (.t 29) (.t 28))])
 (c12_k4)
def c12_k6 : C :=
 .block 0 (.loop [0, 1, 6, 28, 29] c12_l5)
def c12_k7 : C :=
 .seq (.seq (.ops [0, 1, 6, 28, 29] [.p (some 27) (.move (.t 6)),
  .p (some 28) (.len .slice (.t 27)),
  .p (some 29) (.move (.c (.int .i64 0)))])
 (c12_k6))
 (c12_k0)
def c12_k8 : C :=
 .seq (.drw [0, 1, 6] 1 [⟨.none, .p (some 15) (.move (.t 0)), [], 0⟩,
  ⟨.none, .p (some 16) (.nilCheck (.t 15)), [0], 0⟩,
  ⟨.none, .p (some 17) (.faddr 0 (.t 16)), [1], 0⟩,
  ⟨.none, .p (some 18) (.load false 1 (.t 17)), [2], 0⟩,
  ⟨.none, .p (some 19) (.len .slice (.t 18)), [3], 0⟩,
  ⟨.none, .p (some 20) (.move (.t 1)), [], 0⟩,
  ⟨.none, .p (some 21) (.nilCheck (.t 20)), [5], 0⟩,
  ⟨.none, .p (some 22) (.faddr 0 (.t 21)), [6], 0⟩,
  ⟨.none, .p (some 23) (.load false 1 (.t 22)), [7], 0⟩,
  ⟨.none, .p (some 24) (.len .slice (.t 23)), [8], 0⟩,
  ⟨.none, .p (some 25) (.min [(.t 19), (.t 24)]), [4, 9], 0⟩,
  ⟨.none, .e (some 26) (.makeSlice 55 1 4 [(.int .u32 0)] (.t 25) (.t 25)), [10, 10], 0⟩,
  ⟨.none, .p (some 6) (.move (.t 26)), [11, 0, 1, 2, 3, 4, 5, 6, 7, 8, 9, 10, 11], 1⟩])
 (c12_k7)
def c12_k9 : C :=
 .cond (.t 13)
  (.seq (.ops [4, 5] [.p (some 14) (.mkif 39 (.c (.int .i64 1))),
   .p (some 4) (.move (.c .nilp)),
   .p (some 5) (.move (.t 14))])
  (.ret))
  (.skip)
def c12_k10 : C :=
 .seq (.seq (.ops [0, 1, 13] [.p (some 8) (.move (.t 0)),
  .p (some 9) (.bin .eql .ptr [] (.t 8) (.c .nilp)),
  .p (some 10) (.move (.t 9)),
  .when 10 false [.p (some 11) (.move (.t 1)),
   .p (some 12) (.bin .eql .ptr [] (.t 11) (.c .nilp))],
  .p (some 13) (.pick (.t 10) (.c (.bool true)) (.t 12))])
 (c12_k9))
 (c12_k8)
def c12 : FnC := ⟨2, 54, [.tmp 4, .tmp 5],
 .seq (.ops [0, 1] [.p (some 4) (.move (.c .nilp)),
  .p (some 5) (.move (.c .nili))])
 (c12_k10),
 []⟩

def c15_k0 : C :=
 .seq (.ops [2, 3] [.p (some 60) (.move (.t 5)),
  .p (some 2) (.move (.t 60)),
  .p (some 3) (.move (.c .nili))])
 (.ret)
def c15_k1 : C :=
 .cond (.t 58)
  (.seq (.ops [2, 3] [.p (some 59) (.mkif 39 (.c (.int .i64 13))),
   .p (some 2) (.move (.c .nils)),
   .p (some 3) (.move (.t 59))])
  (.ret))
  (.skip)
def c15_k2 : C :=
 .seq (.seq (.drw [5, 58] 0 [⟨.none, .p (some 45) (.move (.t 8)), [], 0⟩,
  ⟨.none, .p (some 46) (.bin .neq .iface [] (.t 45) (.c .nili)), [0], 0⟩,
  ⟨.none, .p (some 47) (.move (.t 46)), [1], 0⟩,
  ⟨(some (47, false)), .p (some 48) (.move (.t 7)), [2], 0⟩,
  ⟨(some (47, false)), .p (some 49) (.nilCheck (.t 48)), [3, 2], 0⟩,
  ⟨(some (47, false)), .p (some 50) (.faddr 0 (.t 49)), [4, 2], 0⟩,
  ⟨(some (47, false)), .p (some 51) (.load false 1 (.t 50)), [5, 2], 0⟩,
  ⟨(some (47, false)), .p (some 52) (.move (.t 0)), [2], 0⟩,
  ⟨(some (47, false)), .p (some 53) (.nilCheck (.t 52)), [7, 2], 0⟩,
  ⟨(some (47, false)), .p (some 54) (.faddr 0 (.t 53)), [8, 2], 0⟩,
  ⟨(some (47, false)), .p (some 55) (.load false 1 (.t 54)), [9, 2], 0⟩,
  ⟨(some (47, false)), .call (some 56) 39 [(.t 51), (.t 55)], [6, 10, 2, 2], 0⟩,
  ⟨(some (47, false)), .p (some 57) (.una .not (.t 56)), [11, 2], 0⟩,
  ⟨.none, .p (some 58) (.pick (.t 47) (.c (.bool true)) (.t 57)), [2, 12], 0⟩])
 (c15_k1))
 (c15_k0)
def c15_k3 : C :=
 .seq (.ops [0, 5, 7, 8] [.p (some 36) (.move (.t 0)),
  .p (some 37) (.nilCheck (.t 36)),
  .p (some 38) (.faddr 0 (.t 37)),
  .p (some 39) (.load false 1 (.t 38)),
  .p (some 40) (.len .slice (.t 39)),
  .p (some 41) (.move (.t 5)),
  .call (some 42) 11 [(.t 40), (.t 41)],
  .p (some 35) (.move (.t 42)),
  .p (some 43) (.extract (.t 35) 0),
  .p (some 44) (.extract (.t 35) 1),
  .p (some 7) (.move (.t 43)),
  .p (some 8) (.move (.t 44))])
 (c15_k2)
def c15_k4 : C :=
 .cond (.t 33)
  (.seq (.ops [2, 3] [.p (some 34) (.mkif 39 (.c (.int .i64 13))),
   .p (some 2) (.move (.c .nils)),
   .p (some 3) (.move (.t 34))])
  (.ret))
  (.skip)
def c15_k5 : C :=
 .seq (.seq (.ops [0, 5, 33] [.p (some 32) (.move (.t 6)),
  .p (some 33) (.una .not (.t 32))])
 (c15_k4))
 (c15_k3)
def c15_k6 : C :=
 .seq (.ops [0, 5, 6] [.p (some 28) (.move (.t 4)),
  .call (some 29) 38 [(.t 28)],
  .p (some 27) (.move (.t 29)),
  .p (some 30) (.extract (.t 27) 0),
  .p (some 31) (.extract (.t 27) 1),
  .p (some 5) (.move (.t 30)),
  .p (some 6) (.move (.t 31))])
 (c15_k5)
def c15_k7 : C :=
 .seq (.ops [0, 4] [.p (some 25) (.move (.t 4)),
  .call (some 26) 37 [(.t 25)]])
 (c15_k6)
def c15_k8 : C :=
 .cond (.t 23)
  (.seq (.ops [2, 3] [.p (some 24) (.mkif 39 (.c (.int .i64 13))),
   .p (some 2) (.move (.c .nils)),
   .p (some 3) (.move (.t 24))])
  (.ret))
  (.skip)
def c15_k9 : C :=
 .seq (.seq (.ops [0, 4, 23] [.p (some 15) (.move (.t 4)),
  .p (some 16) (.len .slice (.t 15)),
  .p (some 17) (.bin .sub .int [] (.t 16) (.c (.int .i64 1))),
  .p (some 18) (.move (.t 0)),
  .p (some 19) (.nilCheck (.t 18)),
  .p (some 20) (.faddr 0 (.t 19)),
  .p (some 21) (.load false 1 (.t 20)),
  .p (some 22) (.len .slice (.t 21)),
  .p (some 23) (.bin .gtr .int [] (.t 17) (.t 22))])
 (c15_k8))
 (c15_k7)
def c15_k10 : C :=
 .seq (.ops [0, 4] [.p (some 12) (.move (.t 0)),
  .call (some 13) 36 [(.t 12)],
  .call (some 14) 35 [(.t 13)],
  .p (some 4) (.move (.t 14))])
 (c15_k9)
def c15_k11 : C :=
 .cond (.t 10)
  (.seq (.ops [2, 3] [.p (some 11) (.mkif 39 (.c (.int .i64 13))),
   .p (some 2) (.move (.c .nils)),
   .p (some 3) (.move (.t 11))])
  (.ret))
  (.skip)
def c15_k12 : C :=
 .seq (.seq (.ops [0, 10] [.p (some 9) (.move (.t 0)),
  .p (some 10) (.bin .eql .ptr [] (.t 9) (.c .nilp))])
 (c15_k11))
 (c15_k10)
def c15 : FnC := ⟨1, 61, [.tmp 2, .tmp 3],
 .seq (.ops [0] [.p (some 2) (.move (.c .nils)),
  .p (some 3) (.move (.c .nili))])
 (c15_k12),
 []⟩

def c36_k0 : C :=
 .seq (.ops [2] [.p (some 41) (.move (.t 3)),
  .p (some 2) (.move (.t 41))])
 (.ret)
def c36_k1 : C :=
 .ops [0, 3, 13, 14] [.p (some 20) (.move (.t 3)),
   .p (some 21) (.move (.t 4)),
   .p (some 22) (.move (.t 0)),
   .p (some 23) (.nilCheck (.t 22)),
   .p (some 24) (.faddr 0 (.t 23)),
   .p (some 25) (.load false 1 (.t 24)),
   .p (some 26) (.move (.t 4)),
   .p (some 27) (.bin .quo .int [] (.t 26) (.c (.int .i64 2))),
   .p (some 28) (.iaddr 1 (.t 25) (.t 27)),
   .p (some 29) (.load false 1 (.t 28)),
   .p (some 30) (.iaddr 1 (.t 20) (.t 21)),
   .e .none (.store 1 (.t 30) (.t 29))]
def c36_k2 : C :=
 .cond (.t 19)
  (c36_k1)
  (.ops [0, 3, 13, 14] [.p (some 31) (.move (.t 3)),
   .p (some 32) (.move (.t 4)),
   .p (some 33) (.move (.t 3)),
   .p (some 34) (.move (.t 4)),
   .p (some 35) (.bin .quo .int [] (.t 34) (.c (.int .i64 2))),
   .p (some 36) (.iaddr 1 (.t 33) (.t 35)),
   .p (some 37) (.load false 1 (.t 36)),
   .call (some 38) 61 [(.t 37)],
   .p (some 39) (.iaddr 1 (.t 31) (.t 32)),
   .e .none (.store 1 (.t 39) (.t 38))])
def c36_k3 : C :=
 .seq (.ops [0, 3, 4, 13, 14, 19] [.p (some 17) (.move (.t 4)),
  .p (some 18) (.bin .rem .int [] (.t 17) (.c (.int .i64 2))),
  .p (some 19) (.bin .eql .int [] (.t 18) (.c (.int .i64 0)))])
 (c36_k2)
def c36_k4 : C :=
 .seq (.ops [0, 3, 4, 13, 14] [.p (some 16) (.move (.t 14)),
  .p (some 4) (.move (.t 16))])
 (c36_k3)
def c36_k5 : C :=
 .seq (.block 1 (c36_k4))
 (.ops [0, 3, 13, 14] [.p (some 40) (.bin .add .int [] (.t 14) (.c (.int .i64 1))),
  .p (some 14) (.move (.t 40))])
def c36_k6 : C :=
 .seq (.cond (.t 15)
  (.skip)
  (.exit 0))
 (c36_k5)
def c36_l7 : C :=
 .seq (.ops [0, 3, 13, 14, 15] [.p (some 15) (.bin .lss .int [] (.t 14) (.t 13))])
 (c36_k6)
def c36_k8 : C :=
 .block 0 (.loop [0, 3, 13, 14] c36_l7)
def c36_k9 : C :=
 .seq (.seq (.ops [0, 3, 13, 14] [.p (some 12) (.move (.t 3)),
  .p (some 13) (.len .slice (.t 12)),
  .p (some 14) (.move (.c (.int .i64 0)))])
 (c36_k8))
 (c36_k0)
def c36_k10 : C :=
 .seq (.ops [0, 3] [.p (some 5) (.move (.t 0)),
  .p (some 6) (.nilCheck (.t 5)),
  .p (some 7) (.faddr 0 (.t 6)),
  .p (some 8) (.load false 1 (.t 7)),
  .p (some 9) (.len .slice (.t 8)),
  .p (some 10) (.bin .mul .int [] (.c (.int .i64 2)) (.t 9)),
  .e (some 11) (.makeSlice 55 1 4 [(.int .u32 0)] (.t 10) (.t 10)),
  .p (some 3) (.move (.t 11))])
 (c36_k9)
def c36 : FnC := ⟨1, 42, [.tmp 2],
 .seq (.ops [0] [.p (some 2) (.move (.c .nils))])
 (c36_k10),
 []⟩

def c35_k0 : C :=
 .seq (.ops [2] [.p (some 19) (.move (.t 4)),
  .p (some 2) (.move (.t 19))])
 (.ret)
def c35_k1 : C :=
 .seq (.ops [4] [.p (some 13) (.move (.t 4)),
  .p (some 14) (.move (.t 3)),
  .p (some 15) (.nilCheck (.t 14)),
  .p (some 16) (.faddr 0 (.t 15)),
  .p (some 17) (.load false 1 (.t 16)),
  .e (some 18) (.copy 1 (.t 13) (.t 17))])
 (c35_k0)
def c35_k2 : C :=
 .seq (.ops [3, 4] [.p (some 7) (.move (.t 3)),
  .p (some 8) (.nilCheck (.t 7)),
  .p (some 9) (.faddr 2 (.t 8)),
  .p (some 10) (.load false 1 (.t 9)),
  .p (some 11) (.bin .add .int [] (.t 10) (.c (.int .i64 1))),
  .e (some 12) (.makeSlice 55 1 4 [(.int .u32 0)] (.t 11) (.t 11)),
  .p (some 4) (.move (.t 12))])
 (c35_k1)
def c35_k3 : C :=
 .seq (.ops [3] [.p (some 5) (.move (.t 0)),
  .call (some 6) 60 [(.t 5)],
  .p (some 3) (.move (.t 6))])
 (c35_k2)
def c35 : FnC := ⟨1, 20, [.tmp 2],
 .seq (.ops [0] [.p (some 2) (.move (.c .nils))])
 (c35_k3),
 []⟩

def c60_k0 : C :=
 .seq (.ops [2] [.p (some 19) (.move (.t 3)),
  .p (some 2) (.move (.t 19))])
 (.ret)
def c60_k1 : C :=
 .ops [0, 3, 10, 11] [.p (some 14) (.move (.t 3)),
  .p (some 15) (.move (.t 0)),
  .p (some 16) (.move (.t 4)),
  .call (some 17) 78 [(.t 14), (.t 15), (.t 16)]]
def c60_k2 : C :=
 .seq (.block 1 (.seq (.ops [0, 3, 4, 10, 11] [.p (some 13) (.move (.t 11)),
  .p (some 4) (.move (.t 13))])
 (c60_k1)))
 (.ops [0, 3, 10, 11] [.p (some 18) (.bin .add .int [] (.t 11) (.c (.int .i64 1))),
  .p (some 11) (.move (.t 18))])
def c60_k3 : C :=
 .seq (.cond (.t 12)
  (.skip)
  (.exit 0))
 (c60_k2)
def c60_l4 : C :=
 .seq (.ops [0, 3, 10, 11, 12] [.p (some 12) (.bin .lss .int [] (.t 11) (.t 10))])
 (c60_k3)
def c60_k5 : C :=
 .block 0 (.loop [0, 3, 10, 11] c60_l4)
def c60_k6 : C :=
 .seq (.seq (.ops [0, 3, 10, 11] [.p (some 9) (.move (.t 0)),
  .p (some 10) (.len .slice (.t 9)),
  .p (some 11) (.move (.c (.int .i64 0)))])
 (c60_k5))
 (c60_k0)
def c60_k7 : C :=
 .seq (.ops [0, 3] [.p (some 5) (.bslice 55 1 1 [(.int .u32 0)] [(0, (.c (.int .u32 1)))]),
  .p (some 6) (.bslice 55 1 1 [(.int .u32 0)] [(0, (.c (.int .u32 1)))]),
  .p (some 7) (.build [.nils, .nils, (.int .i64 0), (.int .i64 0), (.int .u32 0)] [(0, 1, (.t 5)), (1, 1, (.t 6)), (4, 1, (.c (.int .u32 1)))]),
  .e (some 8) (.box (.t 7)),
  .p (some 3) (.move (.t 8))])
 (c60_k6)
def c60 : FnC := ⟨1, 20, [.tmp 2],
 .seq (.ops [0] [.p (some 2) (.move (.c .nilp))])
 (c60_k7),
 []⟩

def c78_k0 : C :=
 .ops [] [.p (some 58) (.move (.t 0)),
  .p (some 59) (.move (.t 7)),
  .p (some 60) (.nilCheck (.t 58)),
  .p (some 61) (.faddr 0 (.t 60)),
  .e .none (.store 1 (.t 61) (.t 59))]
def c78_k1 : C :=
 .ops [0, 7] [.p (some 48) (.move (.t 0)),
  .p (some 49) (.move (.t 2)),
  .p (some 50) (.bin .add .int [] (.t 49) (.c (.int .i64 1))),
  .p (some 51) (.move (.t 0)),
  .p (some 52) (.nilCheck (.t 51)),
  .p (some 53) (.faddr 2 (.t 52)),
  .p (some 54) (.load false 1 (.t 53)),
  .p (some 55) (.bin .sub .int [] (.t 50) (.t 54)),
  .p (some 56) (.nilCheck (.t 48)),
  .p (some 57) (.faddr 2 (.t 56)),
  .e .none (.store 1 (.t 57) (.t 55))]
def c78_k2 : C :=
 .seq (.ops [0, 2, 7] [.p (some 34) (.move (.t 0)),
   .p (some 35) (.move (.t 0)),
   .p (some 36) (.move (.t 0)),
   .p (some 37) (.move (.t 0)),
   .p (some 38) (.nilCheck (.t 37)),
   .p (some 39) (.faddr 0 (.t 38)),
   .p (some 40) (.load false 1 (.t 39)),
   .p (some 41) (.move (.t 6)),
   .p (some 42) (.nilCheck (.t 34)),
   .p (some 43) (.faddr 1 (.t 42)),
   .e .none (.store 1 (.t 43) (.t 40)),
   .p (some 44) (.nilCheck (.t 35)),
   .p (some 45) (.faddr 4 (.t 44)),
   .e .none (.store 1 (.t 45) (.t 41)),
   .p (some 46) (.nilCheck (.t 36)),
   .p (some 47) (.faddr 3 (.t 46)),
   .e .none (.store 1 (.t 47) (.c (.int .i64 0)))])
  (c78_k1)
def c78_k3 : C :=
 .cond (.t 33)
  (c78_k2)
  (.skip)
def c78_k4 : C :=
 .seq (.seq (.ops [0, 2, 6, 7, 33] [.p (some 27) (.move (.t 0)),
  .p (some 28) (.nilCheck (.t 27)),
  .p (some 29) (.faddr 2 (.t 28)),
  .p (some 30) (.load false 1 (.t 29)),
  .p (some 31) (.bin .mul .int [] (.c (.int .i64 2)) (.t 30)),
  .p (some 32) (.move (.t 2)),
  .p (some 33) (.bin .leq .int [] (.t 31) (.t 32))])
 (c78_k3))
 (c78_k0)
def c78_k5 : C :=
 .seq (.ops [0, 2, 6, 7] [.p (some 24) (.move (.t 0)),
  .p (some 25) (.move (.t 6)),
  .call (some 26) 99 [(.t 24), (.t 25)],
  .p (some 7) (.move (.t 26))])
 (c78_k4)
def c78_k6 : C :=
 .cond (.t 23)
  (.ret)
  (.skip)
def c78_k7 : C :=
 .seq (.seq (.ops [0, 2, 6, 23] [.p (some 22) (.move (.t 6)),
  .p (some 23) (.bin .eql .int [] (.t 22) (.c (.int .u32 0)))])
 (c78_k6))
 (c78_k5)
def c78_k8 : C :=
 .seq (.ops [0, 2, 6] [.p (some 15) (.move (.t 0)),
  .p (some 16) (.nilCheck (.t 15)),
  .p (some 17) (.faddr 0 (.t 16)),
  .p (some 18) (.load false 1 (.t 17)),
  .p (some 19) (.move (.t 1)),
  .p (some 20) (.move (.t 2)),
  .call (some 21) 98 [(.t 18), (.t 19), (.t 20)],
  .p (some 6) (.move (.t 21))])
 (c78_k7)
def c78 : FnC := ⟨3, 62, [],
 .seq (.ops [0, 1, 2] [.p (some 8) (.move (.t 0)),
  .p (some 9) (.nilCheck (.t 8)),
  .p (some 10) (.faddr 3 (.t 9)),
  .p (some 11) (.load false 1 (.t 10)),
  .p (some 12) (.bin .add .int [] (.t 11) (.c (.int .i64 1))),
  .p (some 13) (.nilCheck (.t 8)),
  .p (some 14) (.faddr 3 (.t 13)),
  .e .none (.store 1 (.t 14) (.t 12))])
 (c78_k8),
 []⟩

def c98_k0 : C :=
 .seq (.ops [6] [.p (some 34) (.move (.t 7)),
  .p (some 6) (.move (.t 34))])
 (.ret)
def c98_k1 : C :=
 .ops [1, 2, 7, 16, 17, 18] [.p (some 23) (.move (.t 7)),
  .p (some 24) (.move (.t 9)),
  .p (some 25) (.move (.t 1)),
  .p (some 26) (.move (.t 2)),
  .p (some 27) (.move (.t 8)),
  .p (some 28) (.bin .sub .int [] (.t 26) (.t 27)),
  .p (some 29) (.iaddr 1 (.t 25) (.t 28)),
  .p (some 30) (.load false 1 (.t 29)),
  .call (some 31) 79 [(.t 24), (.t 30)],
  .p (some 32) (.bin .xor .int [] (.t 23) (.t 31)),
  .p (some 7) (.move (.t 32))]
def c98_k2 : C :=
 .seq (.ops [1, 2, 7, 8, 9, 16, 17, 18] [.p (some 20) (.move (.t 18)),
  .p (some 21) (.iaddr 1 (.t 16) (.t 18)),
  .p (some 22) (.load false 1 (.t 21)),
  .p (some 8) (.move (.t 20)),
  .p (some 9) (.move (.t 22))])
 (c98_k1)
def c98_k3 : C :=
 .seq (.block 1 (c98_k2))
 (.ops [1, 2, 7, 16, 17, 18] [.p (some 33) (.bin .add .int [] (.t 18) (.c (.int .i64 1))),
  .p (some 18) (.move (.t 33))])
def c98_k4 : C :=
 .seq (.cond (.t 19)
  (.skip)
  (.exit 0))
 (c98_k3)
def c98_l5 : C :=
 .seq (.ops [1, 2, 7, 16, 17, 18, 19] [.p (some 19) (.bin .lss .int [] (.t 18) (.t 17))])
 (c98_k4)
def c98_k6 : C :=
 .block 0 (.loop [1, 2, 7, 16, 17, 18] c98_l5)
def c98_k7 : C :=
 .seq (.seq (.ops [1, 2, 7, 16, 17, 18] [.p (some 10) (.move (.t 0)),
  .p (some 11) (.move (.t 0)),
  .p (some 12) (.len .slice (.t 11)),
  .p (some 13) (.move (.t 2)),
  .p (some 14) (.bin .add .int [] (.t 13) (.c (.int .i64 1))),
  .p (some 15) (.min [(.t 12), (.t 14)]),
  .p (some 16) (.slice 1 (.t 10) .none (some (.t 15)) .none),
  .p (some 17) (.len .slice (.t 16)),
  .p (some 18) (.move (.c (.int .i64 0)))])
 (c98_k6))
 (c98_k0)
def c98_k8 : C :=
 .seq (.ops [0, 1, 2, 7] [.p (some 7) (.move (.c (.int .u32 0)))])
 (c98_k7)
def c98 : FnC := ⟨3, 35, [.tmp 6],
 .seq (.ops [0, 1, 2] [.p (some 6) (.move (.c (.int .u32 0)))])
 (c98_k8),
 []⟩

def c99_k0 : C :=
 .seq (.ops [4] [.p (some 61) (.move (.t 5)),
  .p (some 4) (.move (.t 61))])
 (.ret)
def c99_k1 : C :=
 .drw [0, 1, 5, 39, 40, 41] 0 [⟨.none, .p (some 46) (.move (.t 5)), [], 0⟩,
  ⟨.none, .p (some 47) (.move (.t 0)), [], 0⟩,
  ⟨.none, .p (some 48) (.nilCheck (.t 47)), [1], 0⟩,
  ⟨.none, .p (some 49) (.faddr 3 (.t 48)), [2], 0⟩,
  ⟨.none, .p (some 50) (.load false 1 (.t 49)), [3], 0⟩,
  ⟨.none, .p (some 51) (.move (.t 6)), [], 0⟩,
  ⟨.none, .p (some 52) (.bin .add .int [] (.t 50) (.t 51)), [4, 5], 0⟩,
  ⟨.none, .p (some 53) (.iaddr 1 (.t 46) (.t 52)), [0, 6], 0⟩,
  ⟨.none, .p (some 54) (.load false 1 (.t 53)), [7], 0⟩,
  ⟨.none, .p (some 55) (.move (.t 7)), [], 0⟩,
  ⟨.none, .p (some 56) (.move (.t 1)), [], 0⟩,
  ⟨.none, .call (some 57) 79 [(.t 55), (.t 56)], [9, 10], 0⟩,
  ⟨.none, .p (some 58) (.bin .xor .int [] (.t 54) (.t 57)), [8, 11], 0⟩,
  ⟨.none, .p (some 59) (.iaddr 1 (.t 46) (.t 52)), [0, 6, 0, 1, 2, 3, 4, 5, 6, 7, 8, 9, 10, 11, 12], 0⟩,
  ⟨.none, .e .none (.store 1 (.t 59) (.t 58)), [13, 12, 11, 0, 1, 2, 3, 4, 5, 6, 7, 8, 9, 10, 11, 12], 0⟩]
def c99_k2 : C :=
 .seq (.ops [0, 1, 5, 6, 7, 39, 40, 41] [.p (some 43) (.move (.t 41)),
  .p (some 44) (.iaddr 1 (.t 39) (.t 41)),
  .p (some 45) (.load false 1 (.t 44)),
  .p (some 6) (.move (.t 43)),
  .p (some 7) (.move (.t 45))])
 (c99_k1)
def c99_k3 : C :=
 .seq (.block 1 (c99_k2))
 (.ops [0, 1, 5, 39, 40, 41] [.p (some 60) (.bin .add .int [] (.t 41) (.c (.int .i64 1))),
  .p (some 41) (.move (.t 60))])
def c99_k4 : C :=
 .seq (.cond (.t 42)
  (.skip)
  (.exit 0))
 (c99_k3)
def c99_l5 : C :=
 .seq (.ops [0, 1, 5, 39, 40, 41, 42] [.p (some 42) (.bin .lss .int [] (.t 41) (.t 40))])
 (c99_k4)
def c99_k6 : C :=
 .block 0 (.loop [0, 1, 5, 39, 40, 41] c99_l5)
def c99_k7 : C :=
 .seq (.seq (.ops [0, 1, 5, 39, 40, 41] [.p (some 36) (.move (.t 0)),
  .p (some 37) (.nilCheck (.t 36)),
  .p (some 38) (.faddr 1 (.t 37)),
  .p (some 39) (.load false 1 (.t 38)),
  .p (some 40) (.len .slice (.t 39)),
  .p (some 41) (.move (.c (.int .i64 0)))])
 (c99_k6))
 (c99_k0)
def c99_k8 : C :=
 .seq (.drw [0, 1, 5] 1 [⟨.none, .p (some 20) (.move (.t 5)), [], 0⟩,
  ⟨.none, .p (some 21) (.move (.t 0)), [], 0⟩,
  ⟨.none, .p (some 22) (.nilCheck (.t 21)), [1], 0⟩,
  ⟨.none, .p (some 23) (.faddr 3 (.t 22)), [2], 0⟩,
  ⟨.none, .p (some 24) (.load false 1 (.t 23)), [3], 0⟩,
  ⟨.none, .p (some 25) (.move (.t 0)), [], 0⟩,
  ⟨.none, .p (some 26) (.nilCheck (.t 25)), [5], 0⟩,
  ⟨.none, .p (some 27) (.faddr 1 (.t 26)), [6], 0⟩,
  ⟨.none, .p (some 28) (.load false 1 (.t 27)), [7], 0⟩,
  ⟨.none, .p (some 29) (.len .slice (.t 28)), [8], 0⟩,
  ⟨.none, .p (some 30) (.bin .add .int [] (.t 24) (.t 29)), [4, 9], 0⟩,
  ⟨.none, .p (some 31) (.move (.t 5)), [], 0⟩,
  ⟨.none, .p (some 32) (.len .slice (.t 31)), [11], 0⟩,
  ⟨.none, .p (some 33) (.bin .sub .int [] (.t 30) (.t 32)), [10, 12], 0⟩,
  ⟨.none, .p (some 34) (.max [(.c (.int .i64 0)), (.t 33)]), [13], 0⟩,
  ⟨.none, .e (some 35) (.appendZero 55 1 4 [(.int .u32 0)] (.t 20) (.t 34)), [0, 14], 0⟩,
  ⟨.none, .p (some 5) (.move (.t 35)), [15, 15, 0, 1, 2, 3, 4, 5, 6, 7, 8, 9, 10, 11, 12, 13, 14, 15], 1⟩])
 (c99_k7)
def c99_k9 : C :=
 .seq (.ops [0, 1, 5] [.p (some 15) (.move (.t 0)),
  .p (some 16) (.nilCheck (.t 15)),
  .p (some 17) (.faddr 0 (.t 16)),
  .p (some 18) (.load false 1 (.t 17)),
  .call (some 19) 53 [(.t 18)],
  .p (some 5) (.move (.t 19))])
 (c99_k8)
def c99_k10 : C :=
 .seq (.ops [0, 1] [.p (some 8) (.move (.t 1)),
  .p (some 9) (.move (.t 0)),
  .p (some 10) (.nilCheck (.t 9)),
  .p (some 11) (.faddr 4 (.t 10)),
  .p (some 12) (.load false 1 (.t 11)),
  .call (some 13) 116 [(.t 12)],
  .call (some 14) 79 [(.t 8), (.t 13)],
  .p (some 1) (.move (.t 14))])
 (c99_k9)
def c99 : FnC := ⟨2, 62, [.tmp 4],
 .seq (.ops [0, 1] [.p (some 4) (.move (.c .nils))])
 (c99_k10),
 []⟩

def c116_k0 : C :=
 .seq (.ops [2] [.p (some 3) (.move (.t 0)),
  .call (some 4) 133 [(.t 3), (.c (.int .u64 4294967294))],
  .p (some 2) (.move (.t 4))])
 (.ret)
def c116 : FnC := ⟨1, 5, [.tmp 2],
 .seq (.ops [0] [.p (some 2) (.move (.c (.int .u32 0)))])
 (c116_k0),
 []⟩

def c133_k0 : C :=
 .seq (.ops [4] [.p (some 18) (.move (.t 5)),
  .p (some 4) (.move (.t 18))])
 (.ret)
def c133_k1 : C :=
 .ops [0, 1, 5] [.p (some 8) (.move (.t 1)),
  .p (some 9) (.bin .shr .int [] (.t 8) (.c (.int .u64 1))),
  .p (some 1) (.move (.t 9))]
def c133_k2 : C :=
 .ops [0, 1, 5] [.p (some 16) (.move (.t 0)),
  .call (some 17) 61 [(.t 16)],
  .p (some 0) (.move (.t 17))]
def c133_k3 : C :=
 .cond (.t 12)
  (.ops [0, 1, 5] [.p (some 13) (.move (.t 5)),
   .p (some 14) (.move (.t 0)),
   .call (some 15) 79 [(.t 13), (.t 14)],
   .p (some 5) (.move (.t 15))])
  (.skip)
def c133_k4 : C :=
 .seq (.seq (.ops [0, 1, 5, 12] [.p (some 10) (.move (.t 1)),
  .p (some 11) (.bin .and .int [] (.t 10) (.c (.int .u64 1))),
  .p (some 12) (.bin .eql .int [] (.t 11) (.c (.int .u64 1)))])
 (c133_k3))
 (c133_k2)
def c133_k5 : C :=
 .seq (.block 1 (c133_k4))
 (c133_k1)
def c133_k6 : C :=
 .cond (.t 7)
  (.skip)
  (.exit 0)
def c133_l7 : C :=
 .seq (.seq (.ops [0, 1, 5, 7] [.p (some 6) (.move (.t 1)),
  .p (some 7) (.bin .gtr .int [] (.t 6) (.c (.int .u64 0)))])
 (c133_k6))
 (c133_k5)
def c133_k8 : C :=
 .seq (.block 0 (.loop [0, 1, 5] c133_l7))
 (c133_k0)
def c133_k9 : C :=
 .seq (.ops [0, 1, 5] [.p (some 5) (.move (.c (.int .u32 1)))])
 (c133_k8)
def c133 : FnC := ⟨2, 19, [.tmp 4],
 .seq (.ops [0, 1] [.p (some 4) (.move (.c (.int .u32 0)))])
 (c133_k9),
 []⟩

def c53_k0 : C :=
 .seq (.ops [2] [.p (some 5) (.bslice 55 0 1 [(.int .u32 0)] []),
  .p (some 6) (.move (.t 0)),
  .e (some 7) (.append 55 1 4 (.t 5) (.t 6)),
  .p (some 2) (.move (.t 7))])
 (.ret)
def c53_k1 : C :=
 .cond (.t 4)
  (.seq (.ops [2] [.p (some 2) (.move (.c .nils))])
  (.ret))
  (.skip)
def c53_k2 : C :=
 .seq (.seq (.ops [0, 4] [.p (some 3) (.move (.t 0)),
  .p (some 4) (.bin .eql .slice [] (.t 3) (.c .nils))])
 (c53_k1))
 (c53_k0)
def c53 : FnC := ⟨1, 8, [.tmp 2],
 .seq (.ops [0] [.p (some 2) (.move (.c .nils))])
 (c53_k2),
 []⟩

def c37_k0 : C :=
 .ops [0, 2, 3] [.p (some 10) (.move (.t 2)),
  .p (some 11) (.bin .add .int [] (.t 10) (.c (.int .i64 1))),
  .p (some 12) (.move (.t 3)),
  .p (some 13) (.bin .sub .int [] (.t 12) (.c (.int .i64 1))),
  .p (some 2) (.move (.t 11)),
  .p (some 3) (.move (.t 13))]
def c37_k1 : C :=
 .drw [0, 2, 3] 0 [⟨.none, .p (some 14) (.move (.t 0)), [], 0⟩,
  ⟨.none, .p (some 15) (.move (.t 2)), [], 0⟩,
  ⟨.none, .p (some 16) (.move (.t 0)), [], 0⟩,
  ⟨.none, .p (some 17) (.move (.t 3)), [], 0⟩,
  ⟨.none, .p (some 18) (.move (.t 0)), [], 0⟩,
  ⟨.none, .p (some 19) (.move (.t 3)), [], 0⟩,
  ⟨.none, .p (some 20) (.iaddr 1 (.t 18) (.t 19)), [4, 5], 0⟩,
  ⟨.none, .p (some 21) (.load false 1 (.t 20)), [6], 0⟩,
  ⟨.none, .p (some 22) (.move (.t 0)), [], 0⟩,
  ⟨.none, .p (some 23) (.move (.t 2)), [], 0⟩,
  ⟨.none, .p (some 24) (.iaddr 1 (.t 22) (.t 23)), [8, 9], 0⟩,
  ⟨.none, .p (some 25) (.load false 1 (.t 24)), [10], 0⟩,
  ⟨.none, .p (some 26) (.iaddr 1 (.t 14) (.t 15)), [0, 1, 0, 1, 4, 5, 6, 7, 11], 0⟩,
  ⟨.none, .e .none (.store 1 (.t 26) (.t 21)), [12, 7, 0, 1, 4, 5, 6, 7, 11], 0⟩,
  ⟨.none, .p (some 27) (.iaddr 1 (.t 16) (.t 17)), [2, 3, 0, 1, 2, 3, 4, 5, 6, 7, 8, 9, 10, 11, 12, 13], 0⟩,
  ⟨.none, .e .none (.store 1 (.t 27) (.t 25)), [14, 11, 13, 0, 1, 2, 3, 4, 5, 6, 7, 8, 9, 10, 11, 12, 13], 0⟩]
def c37_k2 : C :=
 .seq (.block 1 (c37_k1))
 (c37_k0)
def c37_k3 : C :=
 .cond (.t 9)
  (.skip)
  (.exit 0)
def c37_l4 : C :=
 .seq (.seq (.ops [0, 2, 3, 9] [.p (some 7) (.move (.t 2)),
  .p (some 8) (.move (.t 3)),
  .p (some 9) (.bin .lss .int [] (.t 7) (.t 8))])
 (c37_k3))
 (c37_k2)
def c37_k5 : C :=
 .block 0 (.loop [0, 2, 3] c37_l4)
def c37 : FnC := ⟨1, 28, [],
 .seq (.ops [0, 2, 3] [.p (some 4) (.move (.t 0)),
  .p (some 5) (.len .slice (.t 4)),
  .p (some 6) (.bin .sub .int [] (.t 5) (.c (.int .i64 1))),
  .p (some 2) (.move (.c (.int .i64 0))),
  .p (some 3) (.move (.t 6))])
 (c37_k5),
 []⟩

def c38_k0 : C :=
 .seq (.ops [2, 3] [.p (some 20) (.move (.t 4)),
  .p (some 2) (.move (.t 20)),
  .p (some 3) (.move (.c (.bool true)))])
 (.ret)
def c38_k1 : C :=
 .cond (.t 19)
  (.seq (.ops [2, 3] [.p (some 2) (.move (.c .nils)),
   .p (some 3) (.move (.c (.bool false)))])
  (.ret))
  (.skip)
def c38_k2 : C :=
 .seq (.seq (.ops [4, 19] [.p (some 11) (.move (.t 5)),
  .p (some 12) (.bin .neq .iface [] (.t 11) (.c .nili)),
  .p (some 13) (.move (.t 12)),
  .when 13 false [.p (some 14) (.move (.t 4)),
   .p (some 15) (.len .slice (.t 14)),
   .p (some 16) (.move (.t 0)),
   .call (some 17) 63 [(.t 16)],
   .p (some 18) (.bin .neq .int [] (.t 15) (.t 17))],
  .p (some 19) (.pick (.t 13) (.c (.bool true)) (.t 18))])
 (c38_k1))
 (c38_k0)
def c38_k3 : C :=
 .seq (.ops [0, 4, 5] [.p (some 7) (.move (.t 0)),
  .call (some 8) 62 [(.t 7)],
  .p (some 6) (.move (.t 8)),
  .p (some 9) (.extract (.t 6) 0),
  .p (some 10) (.extract (.t 6) 1),
  .p (some 4) (.move (.t 9)),
  .p (some 5) (.move (.t 10))])
 (c38_k2)
def c38 : FnC := ⟨1, 21, [.tmp 2, .tmp 3],
 .seq (.ops [0] [.p (some 2) (.move (.c .nils)),
  .p (some 3) (.move (.c (.bool false)))])
 (c38_k3),
 []⟩

def c62_k0 : C :=
 .seq (.ops [2, 3] [.p (some 10) (.move (.t 0)),
  .call (some 11) 82 [(.t 10)],
  .call (some 12) 81 [(.t 11)],
  .p (some 2) (.move (.t 12)),
  .p (some 3) (.move (.c .nili))])
 (.ret)
def c62_k1 : C :=
 .cond (.t 8)
  (.seq (.ops [2, 3] [.p (some 9) (.move (.t 4)),
   .p (some 2) (.move (.c .nils)),
   .p (some 3) (.move (.t 9))])
  (.ret))
  (.skip)
def c62_k2 : C :=
 .seq (.ops [0, 4, 8] [.p (some 7) (.move (.t 4)),
  .p (some 8) (.bin .neq .iface [] (.t 7) (.c .nili))])
 (c62_k1)
def c62_k3 : C :=
 .seq (.seq (.ops [0, 4] [.p (some 5) (.move (.t 0)),
  .call (some 6) 80 [(.t 5)],
  .p (some 4) (.move (.t 6))])
 (c62_k2))
 (c62_k0)
def c62 : FnC := ⟨1, 13, [.tmp 2, .tmp 3],
 .seq (.ops [0] [.p (some 2) (.move (.c .nils)),
  .p (some 3) (.move (.c .nili))])
 (c62_k3),
 []⟩

def c80_k0 : C :=
 .cond (.t 11)
  (.seq (.ops [2] [.p (some 12) (.mkif 39 (.c (.int .i64 1))),
   .p (some 2) (.move (.t 12))])
  (.ret))
  (.skip)
def c80_k1 : C :=
 .seq (.ops [11] [.p (some 6) (.move (.t 3)),
  .p (some 7) (.bin .lss .int [] (.t 6) (.c (.int .i64 0))),
  .p (some 8) (.move (.t 7)),
  .when 8 false [.p (some 9) (.move (.t 3)),
   .p (some 10) (.bin .gtr .int [] (.t 9) (.c (.int .i64 60)))],
  .p (some 11) (.pick (.t 8) (.c (.bool true)) (.t 10))])
 (c80_k0)
def c80_k2 : C :=
 .seq (.seq (.ops [3] [.p (some 4) (.move (.t 0)),
  .call (some 5) 63 [(.t 4)],
  .p (some 3) (.move (.t 5))])
 (c80_k1))
 (.seq (.ops [2] [.p (some 2) (.move (.c .nili))])
 (.ret))
def c80 : FnC := ⟨1, 13, [.tmp 2],
 .seq (.ops [0] [.p (some 2) (.move (.c .nili))])
 (c80_k2),
 []⟩

def c63_k0 : C :=
 .seq (.ops [2] [.p (some 18) (.move (.t 3)),
  .p (some 2) (.move (.t 18))])
 (.ret)
def c63_k1 : C :=
 .block 1 (.ops [0, 3] [.p (some 16) (.move (.t 3)),
  .p (some 17) (.bin .sub .int [] (.t 16) (.c (.int .i64 1))),
  .p (some 3) (.move (.t 17))])
def c63_k2 : C :=
 .cond (.t 15)
  (.skip)
  (.exit 0)
def c63_l3 : C :=
 .seq (.seq (.ops [0, 3, 15] [.p (some 7) (.move (.t 3)),
  .p (some 8) (.bin .geq .int [] (.t 7) (.c (.int .i64 0))),
  .p (some 9) (.move (.t 8)),
  .when 9 true [.p (some 10) (.move (.t 0)),
   .p (some 11) (.move (.t 3)),
   .p (some 12) (.iaddr 1 (.t 10) (.t 11)),
   .p (some 13) (.load false 1 (.t 12)),
   .p (some 14) (.bin .eql .int [] (.t 13) (.c (.int .u32 0)))],
  .p (some 15) (.pick (.t 9) (.t 14) (.c (.bool false)))])
 (c63_k2))
 (c63_k1)
def c63_k4 : C :=
 .seq (.block 0 (.loop [0, 3] c63_l3))
 (c63_k0)
def c63_k5 : C :=
 .seq (.ops [0, 3] [.p (some 4) (.move (.t 0)),
  .p (some 5) (.len .slice (.t 4)),
  .p (some 6) (.bin .sub .int [] (.t 5) (.c (.int .i64 1))),
  .p (some 3) (.move (.t 6))])
 (c63_k4)
def c63 : FnC := ⟨1, 19, [.tmp 2],
 .seq (.ops [0] [.p (some 2) (.move (.c (.int .i64 0)))])
 (c63_k5),
 []⟩

def c82_k0 : C :=
 .seq (.ops [2] [.p (some 15) (.move (.t 0)),
  .p (some 16) (.move (.t 4)),
  .p (some 17) (.move (.t 3)),
  .p (some 18) (.bslice 22 2 1 [.nils] [(0, (.t 16)), (1, (.t 17))]),
  .call (some 19) 105 [(.t 18)],
  .call (some 20) 104 [(.t 15), (.t 19)],
  .p (some 2) (.move (.t 20))])
 (.ret)
def c82_k1 : C :=
 .seq (.block 1 (.ops [0, 3, 4, 9] [.p (some 11) (.move (.t 4)),
  .p (some 12) (.move (.t 0)),
  .call (some 13) 103 [(.t 11), (.t 12)],
  .p (some 4) (.move (.t 13))]))
 (.ops [0, 3, 4, 9] [.p (some 14) (.bin .add .int [] (.t 9) (.c (.int .i64 1))),
  .p (some 9) (.move (.t 14))])
def c82_k2 : C :=
 .seq (.cond (.t 10)
  (.skip)
  (.exit 0))
 (c82_k1)
def c82_l3 : C :=
 .seq (.ops [0, 3, 4, 9, 10] [.p (some 10) (.bin .lss .int [] (.t 9) (.c (.int .i64 32)))])
 (c82_k2)
def c82_k4 : C :=
 .block 0 (.loop [0, 3, 4, 9] c82_l3)
def c82_k5 : C :=
 .seq (.seq (.ops [0, 3, 4, 9] [.p (some 9) (.move (.c (.int .i64 0)))])
 (c82_k4))
 (c82_k0)
def c82_k6 : C :=
 .seq (.ops [0, 3, 4] [.p (some 8) (.move (.t 3)),
  .p (some 4) (.move (.t 8))])
 (c82_k5)
def c82_k7 : C :=
 .seq (.ops [0, 3] [.p (some 5) (.bslice 55 2 1 [(.int .u32 0)] [(0, (.c (.int .u32 0))), (1, (.c (.int .u32 1)))]),
  .p (some 6) (.move (.t 0)),
  .call (some 7) 102 [(.t 5), (.t 6)],
  .p (some 3) (.move (.t 7))])
 (c82_k6)
def c82 : FnC := ⟨1, 21, [.tmp 2],
 .seq (.ops [0] [.p (some 2) (.move (.c .nils))])
 (c82_k7),
 []⟩

def c102_k0 : C :=
 .seq (.ops [4] [.p (some 17) (.move (.t 6)),
  .p (some 4) (.move (.t 17))])
 (.ret)
def c102_k1 : C :=
 .cond (.t 16)
  (.seq (.ops [4] [.p (some 4) (.move (.c .nils))])
  (.ret))
  (.skip)
def c102_k2 : C :=
 .seq (.seq (.ops [6, 16] [.p (some 15) (.move (.t 7)),
  .p (some 16) (.bin .neq .iface [] (.t 15) (.c .nili))])
 (c102_k1))
 (c102_k0)
def c102_k3 : C :=
 .seq (.ops [6, 7] [.p (some 9) (.move (.t 0)),
  .p (some 10) (.move (.t 1)),
  .call (some 11) 118 [(.t 9), (.t 10)],
  .p (some 8) (.move (.t 11)),
  .p (some 12) (.extract (.t 8) 0),
  .p (some 13) (.extract (.t 8) 1),
  .p (some 14) (.extract (.t 8) 2),
  .p (some 5) (.move (.t 12)),
  .p (some 6) (.move (.t 13)),
  .p (some 7) (.move (.t 14))])
 (c102_k2)
def c102 : FnC := ⟨2, 18, [.tmp 4],
 .seq (.ops [0, 1] [.p (some 4) (.move (.c .nils))])
 (c102_k3),
 []⟩

def c118_k0 : C :=
 .seq (.ops [4, 5, 6] [.p (some 63) (.move (.t 9)),
  .call (some 64) 121 [(.t 63)],
  .p (some 65) (.move (.t 7)),
  .call (some 66) 121 [(.t 65)],
  .p (some 4) (.move (.t 64)),
  .p (some 5) (.move (.t 66)),
  .p (some 6) (.move (.c .nili))])
 (.ret)
def c118_k1 : C :=
 .ops [1, 7, 9, 10, 11] [.p (some 40) (.move (.t 11)),
  .p (some 41) (.bin .sub .int [] (.t 40) (.c (.int .i64 1))),
  .p (some 11) (.move (.t 41))]
def c118_k2 : C :=
 .ops [1, 7, 9, 10, 11] [.p (some 55) (.move (.t 7)),
  .p (some 56) (.move (.t 1)),
  .p (some 57) (.move (.t 9)),
  .p (some 58) (.move (.t 11)),
  .p (some 59) (.iaddr 1 (.t 57) (.t 58)),
  .p (some 60) (.load false 1 (.t 59)),
  .p (some 61) (.move (.t 11)),
  .call (some 62) 135 [(.t 55), (.t 56), (.t 60), (.t 61)]]
def c118_k3 : C :=
 .seq (.ops [1, 7, 9, 10, 11] [.p (some 42) (.move (.t 9)),
  .p (some 43) (.move (.t 11)),
  .p (some 44) (.move (.t 7)),
  .p (some 45) (.move (.t 11)),
  .p (some 46) (.move (.t 1)),
  .p (some 47) (.len .slice (.t 46)),
  .p (some 48) (.bin .add .int [] (.t 45) (.t 47)),
  .p (some 49) (.bin .sub .int [] (.t 48) (.c (.int .i64 1))),
  .p (some 50) (.iaddr 1 (.t 44) (.t 49)),
  .p (some 51) (.load false 1 (.t 50)),
  .p (some 52) (.move (.t 10)),
  .call (some 53) 79 [(.t 51), (.t 52)],
  .p (some 54) (.iaddr 1 (.t 42) (.t 43)),
  .e .none (.store 1 (.t 54) (.t 53))])
 (c118_k2)
def c118_k4 : C :=
 .seq (.block 1 (c118_k3))
 (c118_k1)
def c118_k5 : C :=
 .cond (.t 39)
  (.skip)
  (.exit 0)
def c118_l6 : C :=
 .seq (.seq (.ops [1, 7, 9, 10, 11, 39] [.p (some 38) (.move (.t 11)),
  .p (some 39) (.bin .geq .int [] (.t 38) (.c (.int .i64 0)))])
 (c118_k5))
 (c118_k4)
def c118_k7 : C :=
 .block 0 (.loop [1, 7, 9, 10, 11] c118_l6)
def c118_k8 : C :=
 .seq (.seq (.ops [1, 7, 9, 10, 11] [.p (some 36) (.move (.t 8)),
  .p (some 37) (.bin .sub .int [] (.t 36) (.c (.int .i64 1))),
  .p (some 11) (.move (.t 37))])
 (c118_k7))
 (c118_k0)
def c118_k9 : C :=
 .seq (.ops [1, 7, 8, 9, 10] [.p (some 29) (.move (.t 1)),
  .p (some 30) (.move (.t 1)),
  .p (some 31) (.len .slice (.t 30)),
  .p (some 32) (.bin .sub .int [] (.t 31) (.c (.int .i64 1))),
  .p (some 33) (.iaddr 1 (.t 29) (.t 32)),
  .p (some 34) (.load false 1 (.t 33)),
  .call (some 35) 116 [(.t 34)],
  .p (some 10) (.move (.t 35))])
 (c118_k8)
def c118_k10 : C :=
 .seq (.ops [1, 7, 8, 9] [.p (some 26) (.move (.t 8)),
  .p (some 27) (.max [(.c (.int .i64 0)), (.t 26)]),
  .e (some 28) (.makeSlice 55 1 4 [(.int .u32 0)] (.t 27) (.t 27)),
  .p (some 9) (.move (.t 28))])
 (c118_k9)
def c118_k11 : C :=
 .seq (.ops [1, 7, 8] [.p (some 20) (.move (.t 7)),
  .p (some 21) (.len .slice (.t 20)),
  .p (some 22) (.move (.t 1)),
  .p (some 23) (.len .slice (.t 22)),
  .p (some 24) (.bin .sub .int [] (.t 21) (.t 23)),
  .p (some 25) (.bin .add .int [] (.t 24) (.c (.int .i64 1))),
  .p (some 8) (.move (.t 25))])
 (c118_k10)
def c118_k12 : C :=
 .seq (.ops [1, 7] [.p (some 18) (.move (.t 0)),
  .call (some 19) 134 [(.t 18)],
  .p (some 7) (.move (.t 19))])
 (c118_k11)
def c118_k13 : C :=
 .cond (.t 16)
  (.seq (.ops [4, 5, 6] [.p (some 17) (.mkif 39 (.c (.int .i64 1))),
   .p (some 4) (.move (.c .nils)),
   .p (some 5) (.move (.c .nils)),
   .p (some 6) (.move (.t 17))])
  (.ret))
  (.skip)
def c118_k14 : C :=
 .seq (.seq (.ops [0, 1, 16] [.p (some 14) (.move (.t 1)),
  .p (some 15) (.len .slice (.t 14)),
  .p (some 16) (.bin .eql .int [] (.t 15) (.c (.int .i64 0)))])
 (c118_k13))
 (c118_k12)
def c118_k15 : C :=
 .seq (.ops [0, 1] [.p (some 12) (.move (.t 1)),
  .call (some 13) 121 [(.t 12)],
  .p (some 1) (.move (.t 13))])
 (c118_k14)
def c118 : FnC := ⟨2, 67, [.tmp 4, .tmp 5, .tmp 6],
 .seq (.ops [0, 1] [.p (some 4) (.move (.c .nils)),
  .p (some 5) (.move (.c .nils)),
  .p (some 6) (.move (.c .nili))])
 (c118_k15),
 []⟩

def c121_k0 : C :=
 .seq (.ops [2] [.p (some 3) (.move (.t 0)),
  .p (some 4) (.move (.t 0)),
  .call (some 5) 63 [(.t 4)],
  .p (some 6) (.bin .add .int [] (.t 5) (.c (.int .i64 1))),
  .p (some 7) (.slice 1 (.t 3) .none (some (.t 6)) .none),
  .p (some 2) (.move (.t 7))])
 (.ret)
def c121 : FnC := ⟨1, 8, [.tmp 2],
 .seq (.ops [0] [.p (some 2) (.move (.c .nils))])
 (c121_k0),
 []⟩

def c134_k0 : C :=
 .seq (.ops [2] [.p (some 3) (.move (.t 0)),
  .call (some 4) 121 [(.t 3)],
  .call (some 5) 53 [(.t 4)],
  .p (some 2) (.move (.t 5))])
 (.ret)
def c134 : FnC := ⟨1, 6, [.tmp 2],
 .seq (.ops [0] [.p (some 2) (.move (.c .nils))])
 (c134_k0),
 []⟩

def c135_k0 : C :=
 .drw [0, 2, 3, 10, 11, 12] 0 [⟨.none, .p (some 17) (.move (.t 0)), [], 0⟩,
  ⟨.none, .p (some 18) (.move (.t 3)), [], 0⟩,
  ⟨.none, .p (some 19) (.move (.t 8)), [], 0⟩,
  ⟨.none, .p (some 20) (.bin .add .int [] (.t 18) (.t 19)), [1, 2], 0⟩,
  ⟨.none, .p (some 21) (.iaddr 1 (.t 17) (.t 20)), [0, 3], 0⟩,
  ⟨.none, .p (some 22) (.load false 1 (.t 21)), [4], 0⟩,
  ⟨.none, .p (some 23) (.move (.t 9)), [], 0⟩,
  ⟨.none, .p (some 24) (.move (.t 2)), [], 0⟩,
  ⟨.none, .call (some 25) 79 [(.t 23), (.t 24)], [6, 7], 0⟩,
  ⟨.none, .p (some 26) (.bin .xor .int [] (.t 22) (.t 25)), [5, 8], 0⟩,
  ⟨.none, .p (some 27) (.iaddr 1 (.t 17) (.t 20)), [0, 3, 0, 1, 2, 3, 4, 5, 6, 7, 8, 9], 0⟩,
  ⟨.none, .e .none (.store 1 (.t 27) (.t 26)), [10, 9, 8, 0, 1, 2, 3, 4, 5, 6, 7, 8, 9], 0⟩]
def c135_k1 : C :=
 .seq (.ops [0, 2, 3, 8, 9, 10, 11, 12] [.p (some 14) (.move (.t 12)),
  .p (some 15) (.iaddr 1 (.t 10) (.t 12)),
  .p (some 16) (.load false 1 (.t 15)),
  .p (some 8) (.move (.t 14)),
  .p (some 9) (.move (.t 16))])
 (c135_k0)
def c135_k2 : C :=
 .seq (.block 1 (c135_k1))
 (.ops [0, 2, 3, 10, 11, 12] [.p (some 28) (.bin .add .int [] (.t 12) (.c (.int .i64 1))),
  .p (some 12) (.move (.t 28))])
def c135_k3 : C :=
 .seq (.cond (.t 13)
  (.skip)
  (.exit 0))
 (c135_k2)
def c135_l4 : C :=
 .seq (.ops [0, 2, 3, 10, 11, 12, 13] [.p (some 13) (.bin .lss .int [] (.t 12) (.t 11))])
 (c135_k3)
def c135_k5 : C :=
 .block 0 (.loop [0, 2, 3, 10, 11, 12] c135_l4)
def c135 : FnC := ⟨4, 29, [],
 .seq (.ops [0, 2, 3, 10, 11, 12] [.p (some 10) (.move (.t 1)),
  .p (some 11) (.len .slice (.t 10)),
  .p (some 12) (.move (.c (.int .i64 0)))])
 (c135_k5),
 []⟩

def c103_k0 : C :=
 .seq (.ops [4] [.p (some 15) (.move (.t 5)),
  .p (some 4) (.move (.t 15))])
 (.ret)
def c103_k1 : C :=
 .cond (.t 14)
  (.seq (.ops [4] [.p (some 4) (.move (.c .nils))])
  (.ret))
  (.skip)
def c103_k2 : C :=
 .seq (.seq (.ops [5, 14] [.p (some 13) (.move (.t 6)),
  .p (some 14) (.bin .neq .iface [] (.t 13) (.c .nili))])
 (c103_k1))
 (c103_k0)
def c103_k3 : C :=
 .seq (.ops [5, 6] [.p (some 8) (.move (.t 0)),
  .p (some 9) (.move (.t 1)),
  .call (some 10) 120 [(.t 8), (.t 9)],
  .p (some 7) (.move (.t 10)),
  .p (some 11) (.extract (.t 7) 0),
  .p (some 12) (.extract (.t 7) 1),
  .p (some 5) (.move (.t 11)),
  .p (some 6) (.move (.t 12))])
 (c103_k2)
def c103 : FnC := ⟨2, 16, [.tmp 4],
 .seq (.ops [0, 1] [.p (some 4) (.move (.c .nils))])
 (c103_k3),
 []⟩

def c120_k0 : C :=
 .seq (.ops [4, 5] [.p (some 39) (.move (.t 10)),
  .p (some 40) (.move (.t 11)),
  .p (some 4) (.move (.t 39)),
  .p (some 5) (.move (.t 40))])
 (.ret)
def c120_k1 : C :=
 .seq (.ops [10, 11] [.p (some 33) (.move (.t 6)),
  .p (some 34) (.move (.t 1)),
  .call (some 35) 118 [(.t 33), (.t 34)],
  .p (some 32) (.move (.t 35)),
  .p (some 36) (.extract (.t 32) 0),
  .p (some 37) (.extract (.t 32) 1),
  .p (some 38) (.extract (.t 32) 2),
  .p (some 9) (.move (.t 36)),
  .p (some 10) (.move (.t 37)),
  .p (some 11) (.move (.t 38))])
 (c120_k0)
def c120_k2 : C :=
 .ops [1, 6, 18, 19, 20] [.p (some 25) (.move (.t 6)),
  .p (some 26) (.move (.t 7)),
  .p (some 27) (.bin .mul .int [] (.c (.int .i64 2)) (.t 26)),
  .p (some 28) (.move (.t 8)),
  .call (some 29) 61 [(.t 28)],
  .p (some 30) (.iaddr 1 (.t 25) (.t 27)),
  .e .none (.store 1 (.t 30) (.t 29))]
def c120_k3 : C :=
 .seq (.ops [1, 6, 7, 8, 18, 19, 20] [.p (some 22) (.move (.t 20)),
  .p (some 23) (.iaddr 1 (.t 18) (.t 20)),
  .p (some 24) (.load false 1 (.t 23)),
  .p (some 7) (.move (.t 22)),
  .p (some 8) (.move (.t 24))])
 (c120_k2)
def c120_k4 : C :=
 .seq (.block 1 (c120_k3))
 (.ops [1, 6, 18, 19, 20] [.p (some 31) (.bin .add .int [] (.t 20) (.c (.int .i64 1))),
  .p (some 20) (.move (.t 31))])
def c120_k5 : C :=
 .seq (.cond (.t 21)
  (.skip)
  (.exit 0))
 (c120_k4)
def c120_l6 : C :=
 .seq (.ops [1, 6, 18, 19, 20, 21] [.p (some 21) (.bin .lss .int [] (.t 20) (.t 19))])
 (c120_k5)
def c120_k7 : C :=
 .block 0 (.loop [1, 6, 18, 19, 20] c120_l6)
def c120_k8 : C :=
 .seq (.seq (.ops [1, 6, 18, 19, 20] [.p (some 18) (.move (.t 0)),
  .p (some 19) (.len .slice (.t 18)),
  .p (some 20) (.move (.c (.int .i64 0)))])
 (c120_k7))
 (c120_k1)
def c120_k9 : C :=
 .seq (.ops [0, 1, 6] [.p (some 12) (.move (.t 0)),
  .p (some 13) (.len .slice (.t 12)),
  .p (some 14) (.bin .mul .int [] (.c (.int .i64 2)) (.t 13)),
  .p (some 15) (.bin .sub .int [] (.t 14) (.c (.int .i64 1))),
  .p (some 16) (.max [(.c (.int .i64 0)), (.t 15)]),
  .e (some 17) (.makeSlice 55 1 4 [(.int .u32 0)] (.t 16) (.t 16)),
  .p (some 6) (.move (.t 17))])
 (c120_k8)
def c120 : FnC := ⟨2, 41, [.tmp 4, .tmp 5],
 .seq (.ops [0, 1] [.p (some 4) (.move (.c .nils)),
  .p (some 5) (.move (.c .nili))])
 (c120_k9),
 []⟩

def c105_k0 : C :=
 .seq (.ops [2] [.p (some 38) (.move (.t 3)),
  .call (some 39) 121 [(.t 38)],
  .p (some 2) (.move (.t 39))])
 (.ret)
def c105_k1 : C :=
 .ops [3, 8, 9, 10, 22, 23, 24] [.p (some 29) (.move (.t 3)),
  .p (some 30) (.move (.t 6)),
  .p (some 31) (.iaddr 1 (.t 29) (.t 30)),
  .p (some 32) (.load false 1 (.t 31)),
  .p (some 33) (.move (.t 7)),
  .p (some 34) (.bin .xor .int [] (.t 32) (.t 33)),
  .p (some 35) (.iaddr 1 (.t 29) (.t 30)),
  .e .none (.store 1 (.t 35) (.t 34))]
def c105_k2 : C :=
 .seq (.ops [3, 6, 7, 8, 9, 10, 22, 23, 24] [.p (some 26) (.move (.t 24)),
  .p (some 27) (.iaddr 1 (.t 22) (.t 24)),
  .p (some 28) (.load false 1 (.t 27)),
  .p (some 6) (.move (.t 26)),
  .p (some 7) (.move (.t 28))])
 (c105_k1)
def c105_k3 : C :=
 .seq (.block 3 (c105_k2))
 (.ops [3, 8, 9, 10, 22, 23, 24] [.p (some 36) (.bin .add .int [] (.t 24) (.c (.int .i64 1))),
  .p (some 24) (.move (.t 36))])
def c105_k4 : C :=
 .seq (.cond (.t 25)
  (.skip)
  (.exit 2))
 (c105_k3)
def c105_l5 : C :=
 .seq (.ops [3, 8, 9, 10, 22, 23, 24, 25] [.p (some 25) (.bin .lss .int [] (.t 24) (.t 23))])
 (c105_k4)
def c105_k6 : C :=
 .block 2 (.loop [3, 8, 9, 10, 22, 23, 24] c105_l5)
def c105_k7 : C :=
 .seq (.ops [3, 8, 9, 10, 22, 23, 24] [.p (some 22) (.move (.t 5)),
  .p (some 23) (.len .slice (.t 22)),
  .p (some 24) (.move (.c (.int .i64 0)))])
 (c105_k6)
def c105_k8 : C :=
 .seq (.ops [3, 5, 8, 9, 10] [.p (some 14) (.move (.t 3)),
  .p (some 15) (.move (.t 5)),
  .p (some 16) (.len .slice (.t 15)),
  .p (some 17) (.move (.t 3)),
  .p (some 18) (.len .slice (.t 17)),
  .p (some 19) (.bin .sub .int [] (.t 16) (.t 18)),
  .p (some 20) (.max [(.c (.int .i64 0)), (.t 19)]),
  .e (some 21) (.appendZero 55 1 4 [(.int .u32 0)] (.t 14) (.t 20)),
  .p (some 3) (.move (.t 21))])
 (c105_k7)
def c105_k9 : C :=
 .seq (.ops [3, 5, 8, 9, 10] [.p (some 12) (.iaddr 1 (.t 8) (.t 10)),
  .p (some 13) (.load false 1 (.t 12)),
  .p (some 5) (.move (.t 13))])
 (c105_k8)
def c105_k10 : C :=
 .seq (.block 1 (c105_k9))
 (.ops [3, 8, 9, 10] [.p (some 37) (.bin .add .int [] (.t 10) (.c (.int .i64 1))),
  .p (some 10) (.move (.t 37))])
def c105_k11 : C :=
 .seq (.cond (.t 11)
  (.skip)
  (.exit 0))
 (c105_k10)
def c105_l12 : C :=
 .seq (.ops [3, 8, 9, 10, 11] [.p (some 11) (.bin .lss .int [] (.t 10) (.t 9))])
 (c105_k11)
def c105_k13 : C :=
 .block 0 (.loop [3, 8, 9, 10] c105_l12)
def c105_k14 : C :=
 .seq (.seq (.ops [3, 8, 9, 10] [.p (some 8) (.move (.t 0)),
  .p (some 9) (.len .slice (.t 8)),
  .p (some 10) (.move (.c (.int .i64 0)))])
 (c105_k13))
 (c105_k0)
def c105_k15 : C :=
 .seq (.ops [0, 3] [.p (some 3) (.move (.c .nils))])
 (c105_k14)
def c105 : FnC := ⟨1, 40, [.tmp 2],
 .seq (.ops [0] [.p (some 2) (.move (.c .nils))])
 (c105_k15),
 []⟩

def c104_k0 : C :=
 .seq (.ops [4] [.p (some 26) (.move (.t 0)),
  .call (some 27) 119 [(.t 26)],
  .p (some 4) (.move (.t 27))])
 (.ret)
def c104_k1 : C :=
 .ops [0, 1] [.p (some 24) (.move (.t 1)),
  .p (some 25) (.move (.t 6)),
  .p (some 0) (.move (.t 24)),
  .p (some 1) (.move (.t 25))]
def c104_k2 : C :=
 .cond (.t 23)
  (.seq (.ops [4] [.p (some 4) (.move (.c .nils))])
  (.ret))
  (.skip)
def c104_k3 : C :=
 .seq (.seq (.ops [1, 6, 23] [.p (some 22) (.move (.t 7)),
  .p (some 23) (.bin .neq .iface [] (.t 22) (.c .nili))])
 (c104_k2))
 (c104_k1)
def c104_k4 : C :=
 .seq (.ops [1, 6, 7] [.p (some 16) (.move (.t 0)),
  .p (some 17) (.move (.t 1)),
  .call (some 18) 118 [(.t 16), (.t 17)],
  .p (some 15) (.move (.t 18)),
  .p (some 19) (.extract (.t 15) 0),
  .p (some 20) (.extract (.t 15) 1),
  .p (some 21) (.extract (.t 15) 2),
  .p (some 5) (.move (.t 19)),
  .p (some 6) (.move (.t 20)),
  .p (some 7) (.move (.t 21))])
 (c104_k3)
def c104_k5 : C :=
 .block 1 (c104_k4)
def c104_k6 : C :=
 .cond (.t 14)
  (.skip)
  (.exit 0)
def c104_l7 : C :=
 .seq (.seq (.ops [0, 1, 14] [.p (some 12) (.move (.t 1)),
  .p (some 13) (.len .slice (.t 12)),
  .p (some 14) (.bin .gtr .int [] (.t 13) (.c (.int .i64 0)))])
 (c104_k6))
 (c104_k5)
def c104_k8 : C :=
 .seq (.block 0 (.loop [0, 1] c104_l7))
 (c104_k0)
def c104_k9 : C :=
 .seq (.ops [0, 1] [.p (some 8) (.move (.t 0)),
  .call (some 9) 121 [(.t 8)],
  .p (some 10) (.move (.t 1)),
  .call (some 11) 121 [(.t 10)],
  .p (some 0) (.move (.t 9)),
  .p (some 1) (.move (.t 11))])
 (c104_k8)
def c104 : FnC := ⟨2, 28, [.tmp 4],
 .seq (.ops [0, 1] [.p (some 4) (.move (.c .nils))])
 (c104_k9),
 []⟩

def c119_k0 : C :=
 .seq (.ops [2] [.p (some 8) (.move (.t 0)),
  .p (some 9) (.move (.t 0)),
  .p (some 10) (.move (.t 0)),
  .p (some 11) (.len .slice (.t 10)),
  .p (some 12) (.bin .sub .int [] (.t 11) (.c (.int .i64 1))),
  .p (some 13) (.iaddr 1 (.t 9) (.t 12)),
  .p (some 14) (.load false 1 (.t 13)),
  .call (some 15) 116 [(.t 14)],
  .call (some 16) 136 [(.t 8), (.t 15)],
  .p (some 2) (.move (.t 16))])
 (.ret)
def c119_k1 : C :=
 .cond (.t 7)
  (.seq (.ops [2] [.p (some 2) (.move (.c .nils))])
  (.ret))
  (.skip)
def c119_k2 : C :=
 .seq (.seq (.ops [0, 7] [.p (some 5) (.move (.t 0)),
  .p (some 6) (.len .slice (.t 5)),
  .p (some 7) (.bin .eql .int [] (.t 6) (.c (.int .i64 0)))])
 (c119_k1))
 (c119_k0)
def c119_k3 : C :=
 .seq (.ops [0] [.p (some 3) (.move (.t 0)),
  .call (some 4) 121 [(.t 3)],
  .p (some 0) (.move (.t 4))])
 (c119_k2)
def c119 : FnC := ⟨1, 17, [.tmp 2],
 .seq (.ops [0] [.p (some 2) (.move (.c .nils))])
 (c119_k3),
 []⟩

def c136_k0 : C :=
 .seq (.ops [4] [.p (some 27) (.move (.t 5)),
  .call (some 28) 121 [(.t 27)],
  .p (some 4) (.move (.t 28))])
 (.ret)
def c136_k1 : C :=
 .ops [5, 6, 13, 14] [.p (some 17) (.move (.t 5)),
  .p (some 18) (.move (.t 7)),
  .p (some 19) (.move (.t 6)),
  .p (some 20) (.move (.t 5)),
  .p (some 21) (.move (.t 7)),
  .p (some 22) (.iaddr 1 (.t 20) (.t 21)),
  .p (some 23) (.load false 1 (.t 22)),
  .call (some 24) 73 [(.t 19), (.t 23)],
  .p (some 25) (.iaddr 1 (.t 17) (.t 18)),
  .e .none (.store 1 (.t 25) (.t 24))]
def c136_k2 : C :=
 .seq (.ops [5, 6, 7, 13, 14] [.p (some 16) (.move (.t 14)),
  .p (some 7) (.move (.t 16))])
 (c136_k1)
def c136_k3 : C :=
 .seq (.block 1 (c136_k2))
 (.ops [5, 6, 13, 14] [.p (some 26) (.bin .add .int [] (.t 14) (.c (.int .i64 1))),
  .p (some 14) (.move (.t 26))])
def c136_k4 : C :=
 .seq (.cond (.t 15)
  (.skip)
  (.exit 0))
 (c136_k3)
def c136_l5 : C :=
 .seq (.ops [5, 6, 13, 14, 15] [.p (some 15) (.bin .lss .int [] (.t 14) (.t 13))])
 (c136_k4)
def c136_k6 : C :=
 .block 0 (.loop [5, 6, 13, 14] c136_l5)
def c136_k7 : C :=
 .seq (.seq (.ops [5, 6, 13, 14] [.p (some 12) (.move (.t 5)),
  .p (some 13) (.len .slice (.t 12)),
  .p (some 14) (.move (.c (.int .i64 0)))])
 (c136_k6))
 (c136_k0)
def c136_k8 : C :=
 .seq (.ops [5, 6] [.p (some 10) (.move (.t 1)),
  .call (some 11) 72 [(.t 10)],
  .p (some 6) (.move (.t 11))])
 (c136_k7)
def c136_k9 : C :=
 .seq (.ops [1, 5] [.p (some 8) (.move (.t 0)),
  .call (some 9) 53 [(.t 8)],
  .p (some 5) (.move (.t 9))])
 (c136_k8)
def c136 : FnC := ⟨2, 29, [.tmp 4],
 .seq (.ops [0, 1] [.p (some 4) (.move (.c .nils))])
 (c136_k9),
 []⟩

def c81_k0 : C :=
 .seq (.ops [2] [.p (some 51) (.move (.t 3)),
  .p (some 2) (.move (.t 51))])
 (.ret)
def c81_k1 : C :=
 .seq (.ops [3] [.p (some 49) (.move (.t 3)),
  .call (some 50) 96 [(.t 49)]])
 (c81_k0)
def c81_k2 : C :=
 .cond (.t 37)
  (.ops [3, 4] [.p (some 45) (.move (.t 4)),
   .p (some 46) (.load true 2 (.t 5)),
   .call (some 47) 101 [(.t 46)],
   .e (some 48) (.append 141 2 32 (.t 45) (.t 47)),
   .p (some 4) (.move (.t 48))])
  (.skip)
def c81_k3 : C :=
 .seq (.ops [3, 4, 5, 37] [.p (some 38) (.move (.t 6)),
   .p (some 39) (.bin .gtr .int [] (.t 38) (.c (.int .i64 1))),
   .p (some 40) (.move (.t 39)),
   .when 40 true [.p (some 41) (.faddr 1 (.t 5)),
    .p (some 42) (.load false 1 (.t 41)),
    .p (some 43) (.bin .lss .int [] (.t 42) (.c (.int .i64 32)))],
   .p (some 44) (.pick (.t 40) (.t 43) (.c (.bool false))),
   .p (some 37) (.move (.t 44))])
  (c81_k2)
def c81_k4 : C :=
 .cond (.t 27)
  (.ops [3, 4] [.p (some 30) (.move (.t 3)),
   .p (some 31) (.faddr 0 (.t 5)),
   .p (some 32) (.load false 1 (.t 31)),
   .p (some 33) (.iaddr 1 (.t 32) (.c (.int .i64 0))),
   .p (some 34) (.load false 1 (.t 33)),
   .p (some 35) (.bslice 55 1 1 [(.int .u32 0)] [(0, (.t 34))]),
   .e (some 36) (.append 55 1 4 (.t 30) (.t 35)),
   .p (some 3) (.move (.t 36))])
  (c81_k3)
def c81_k5 : C :=
 .seq (.ops [3, 4, 5, 6, 27] [.p (some 28) (.move (.t 6)),
  .p (some 29) (.bin .eql .int [] (.t 28) (.c (.int .i64 1))),
  .p (some 27) (.move (.t 29))])
 (c81_k4)
def c81_k6 : C :=
 .block 2 (c81_k5)
def c81_k7 : C :=
 .seq (.ops [3, 4, 5, 6] [.p (some 24) (.faddr 0 (.t 5)),
  .p (some 25) (.load false 1 (.t 24)),
  .call (some 26) 63 [(.t 25)],
  .p (some 6) (.move (.t 26))])
 (c81_k6)
def c81_k8 : C :=
 .seq (.ops [3, 4, 5] [.p (some 19) (.move (.t 4)),
  .p (some 20) (.move (.t 4)),
  .p (some 21) (.len .slice (.t 20)),
  .p (some 22) (.bin .sub .int [] (.t 21) (.c (.int .i64 1))),
  .p (some 23) (.slice 2 (.t 19) .none (some (.t 22)) .none),
  .p (some 4) (.move (.t 23))])
 (c81_k7)
def c81_k9 : C :=
 .seq (.ops [3, 4, 5] [.p (some 13) (.move (.t 4)),
  .p (some 14) (.move (.t 4)),
  .p (some 15) (.len .slice (.t 14)),
  .p (some 16) (.bin .sub .int [] (.t 15) (.c (.int .i64 1))),
  .p (some 17) (.iaddr 2 (.t 13) (.t 16)),
  .p (some 18) (.load true 2 (.t 17)),
  .e (some 5) (.alloc [(.d .nils), (.d (.int .i64 0))]),
  .e .none (.store 2 (.t 5) (.t 18))])
 (c81_k8)
def c81_k10 : C :=
 .block 1 (c81_k9)
def c81_k11 : C :=
 .cond (.t 12)
  (.skip)
  (.exit 0)
def c81_l12 : C :=
 .seq (.seq (.ops [3, 4, 12] [.p (some 10) (.move (.t 4)),
  .p (some 11) (.len .slice (.t 10)),
  .p (some 12) (.bin .gtr .int [] (.t 11) (.c (.int .i64 0)))])
 (c81_k11))
 (c81_k10)
def c81_k13 : C :=
 .seq (.block 0 (.loop [3, 4] c81_l12))
 (c81_k1)
def c81_k14 : C :=
 .seq (.ops [3, 4] [.p (some 7) (.move (.t 0)),
  .p (some 8) (.build [.nils, (.int .i64 0)] [(0, 1, (.t 7)), (1, 1, (.c (.int .i64 0)))]),
  .p (some 9) (.bslice 141 1 2 [.nils, (.int .i64 0)] [(0, (.t 8))]),
  .p (some 4) (.move (.t 9))])
 (c81_k13)
def c81_k15 : C :=
 .seq (.ops [0, 3] [.p (some 3) (.move (.c .nils))])
 (c81_k14)
def c81 : FnC := ⟨1, 52, [.tmp 2],
 .seq (.ops [0] [.p (some 2) (.move (.c .nils))])
 (c81_k15),
 []⟩

def c101_k0 : C :=
 .seq (.drw [2] 0 [⟨.none, .p (some 26) (.move (.t 3)), [], 0⟩,
  ⟨.none, .p (some 27) (.faddr 1 (.t 1)), [], 0⟩,
  ⟨.none, .p (some 28) (.load false 1 (.t 27)), [1], 0⟩,
  ⟨.none, .p (some 29) (.bin .add .int [] (.t 28) (.c (.int .i64 1))), [2], 0⟩,
  ⟨.none, .p (some 30) (.build [.nils, (.int .i64 0)] [(0, 1, (.t 26)), (1, 1, (.t 29))]), [0, 3], 0⟩,
  ⟨.none, .p (some 31) (.move (.t 4)), [], 0⟩,
  ⟨.none, .call (some 32) 119 [(.t 31)], [5], 0⟩,
  ⟨.none, .p (some 33) (.faddr 1 (.t 1)), [], 0⟩,
  ⟨.none, .p (some 34) (.load false 1 (.t 33)), [7], 0⟩,
  ⟨.none, .p (some 35) (.bin .add .int [] (.t 34) (.c (.int .i64 1))), [8], 0⟩,
  ⟨.none, .p (some 36) (.build [.nils, (.int .i64 0)] [(0, 1, (.t 32)), (1, 1, (.t 35))]), [6, 9], 0⟩,
  ⟨.none, .p (some 37) (.bslice 141 2 2 [.nils, (.int .i64 0)] [(0, (.t 30)), (1, (.t 36))]), [4, 10], 0⟩,
  ⟨.none, .p (some 2) (.move (.t 37)), [11, 6, 0, 1, 2, 3, 4, 5, 6, 7, 8, 9, 10, 11], 0⟩])
 (.ret)
def c101_k1 : C :=
 .cond (.t 25)
  (.seq (.ops [2] [.p (some 2) (.move (.c .nils))])
  (.ret))
  (.skip)
def c101_k2 : C :=
 .seq (.seq (.ops [1, 3, 4, 25] [.p (some 24) (.move (.t 6)),
  .p (some 25) (.bin .neq .iface [] (.t 24) (.c .nili))])
 (c101_k1))
 (c101_k0)
def c101_k3 : C :=
 .seq (.ops [1, 3, 4, 6] [.p (some 17) (.faddr 0 (.t 1)),
  .p (some 18) (.load false 1 (.t 17)),
  .p (some 19) (.move (.t 3)),
  .call (some 20) 118 [(.t 18), (.t 19)],
  .p (some 16) (.move (.t 20)),
  .p (some 21) (.extract (.t 16) 0),
  .p (some 22) (.extract (.t 16) 1),
  .p (some 23) (.extract (.t 16) 2),
  .p (some 4) (.move (.t 21)),
  .p (some 5) (.move (.t 22)),
  .p (some 6) (.move (.t 23))])
 (c101_k2)
def c101_k4 : C :=
 .seq (.drw [1, 3] 0 [⟨.none, .p (some 7) (.faddr 0 (.t 1)), [], 0⟩,
  ⟨.none, .p (some 8) (.load false 1 (.t 7)), [0], 0⟩,
  ⟨.none, .p (some 9) (.faddr 0 (.t 1)), [], 0⟩,
  ⟨.none, .p (some 10) (.load false 1 (.t 9)), [2], 0⟩,
  ⟨.none, .p (some 11) (.faddr 1 (.t 1)), [], 0⟩,
  ⟨.none, .p (some 12) (.load false 1 (.t 11)), [4], 0⟩,
  ⟨.none, .p (some 13) (.bin .shl .int [] (.c (.int .u32 1)) (.t 12)), [5], 0⟩,
  ⟨.none, .call (some 14) 117 [(.t 10), (.t 13)], [3, 6], 0⟩,
  ⟨.none, .call (some 15) 104 [(.t 8), (.t 14)], [1, 7, 7], 0⟩,
  ⟨.none, .p (some 3) (.move (.t 15)), [8, 8, 0, 1, 2, 3, 4, 5, 6, 7, 8], 0⟩])
 (c101_k3)
def c101 : FnC := ⟨1, 38, [.tmp 2],
 .seq (.ops [1] [.e (some 1) (.box (.t 0)),
  .p (some 2) (.move (.c .nils))])
 (c101_k4),
 []⟩

def c117_k0 : C :=
 .seq (.ops [4] [.p (some 21) (.move (.t 5)),
  .p (some 4) (.move (.t 21))])
 (.ret)
def c117_k1 : C :=
 .ops [0, 5, 6, 11] [.p (some 17) (.move (.t 6)),
  .p (some 18) (.move (.t 0)),
  .call (some 19) 103 [(.t 17), (.t 18)],
  .p (some 6) (.move (.t 19))]
def c117_k2 : C :=
 .seq (.block 1 (.seq (.ops [0, 5, 6, 11] [.p (some 13) (.move (.t 5)),
  .p (some 14) (.move (.t 6)),
  .p (some 15) (.bslice 22 2 1 [.nils] [(0, (.t 13)), (1, (.t 14))]),
  .call (some 16) 105 [(.t 15)],
  .p (some 5) (.move (.t 16))])
 (c117_k1)))
 (.ops [0, 5, 6, 11] [.p (some 20) (.bin .add .int [] (.t 11) (.c (.int .i64 1))),
  .p (some 11) (.move (.t 20))])
def c117_k3 : C :=
 .seq (.cond (.t 12)
  (.skip)
  (.exit 0))
 (c117_k2)
def c117_l4 : C :=
 .seq (.ops [0, 5, 6, 11, 12] [.p (some 12) (.bin .lss .int [] (.t 11) (.c (.int .i64 32)))])
 (c117_k3)
def c117_k5 : C :=
 .block 0 (.loop [0, 5, 6, 11] c117_l4)
def c117_k6 : C :=
 .seq (.seq (.ops [0, 5, 6, 11] [.p (some 11) (.move (.c (.int .i64 0)))])
 (c117_k5))
 (c117_k0)
def c117_k7 : C :=
 .seq (.ops [0, 5, 6] [.p (some 7) (.move (.t 1)),
  .p (some 8) (.bslice 55 2 1 [(.int .u32 0)] [(0, (.c (.int .u32 0))), (1, (.t 7))]),
  .p (some 9) (.move (.t 0)),
  .call (some 10) 102 [(.t 8), (.t 9)],
  .p (some 6) (.move (.t 10))])
 (c117_k6)
def c117_k8 : C :=
 .seq (.ops [0, 1, 5] [.p (some 5) (.move (.c .nils))])
 (c117_k7)
def c117 : FnC := ⟨2, 22, [.tmp 4],
 .seq (.ops [0, 1] [.p (some 4) (.move (.c .nils))])
 (c117_k8),
 []⟩

def c39_k0 : C :=
 .cond (.t 24)
  (.seq (.ops [4] [.p (some 4) (.move (.c (.bool false)))])
  (.ret))
  (.skip)
def c39_k1 : C :=
 .seq (.drw [0, 1, 12, 13, 24] 0 [⟨.none, .p (some 16) (.move (.t 0)), [], 0⟩,
  ⟨.none, .p (some 17) (.move (.t 5)), [], 0⟩,
  ⟨.none, .p (some 18) (.iaddr 1 (.t 16) (.t 17)), [0, 1], 0⟩,
  ⟨.none, .p (some 19) (.load false 1 (.t 18)), [2], 0⟩,
  ⟨.none, .p (some 20) (.move (.t 1)), [], 0⟩,
  ⟨.none, .p (some 21) (.move (.t 5)), [], 0⟩,
  ⟨.none, .p (some 22) (.iaddr 1 (.t 20) (.t 21)), [4, 5], 0⟩,
  ⟨.none, .p (some 23) (.load false 1 (.t 22)), [6], 0⟩,
  ⟨.none, .p (some 24) (.bin .neq .int [] (.t 19) (.t 23)), [3, 7], 0⟩])
 (c39_k0)
def c39_k2 : C :=
 .seq (.ops [0, 1, 5, 12, 13] [.p (some 15) (.move (.t 13)),
  .p (some 5) (.move (.t 15))])
 (c39_k1)
def c39_k3 : C :=
 .seq (.block 1 (c39_k2))
 (.ops [0, 1, 12, 13] [.p (some 25) (.bin .add .int [] (.t 13) (.c (.int .i64 1))),
  .p (some 13) (.move (.t 25))])
def c39_k4 : C :=
 .seq (.cond (.t 14)
  (.skip)
  (.exit 0))
 (c39_k3)
def c39_l5 : C :=
 .seq (.ops [0, 1, 12, 13, 14] [.p (some 14) (.bin .lss .int [] (.t 13) (.t 12))])
 (c39_k4)
def c39_k6 : C :=
 .block 0 (.loop [0, 1, 12, 13] c39_l5)
def c39_k7 : C :=
 .seq (.seq (.ops [0, 1, 12, 13] [.p (some 11) (.move (.t 0)),
  .p (some 12) (.len .slice (.t 11)),
  .p (some 13) (.move (.c (.int .i64 0)))])
 (c39_k6))
 (.seq (.ops [4] [.p (some 4) (.move (.c (.bool true)))])
 (.ret))
def c39_k8 : C :=
 .cond (.t 10)
  (.seq (.ops [4] [.p (some 4) (.move (.c (.bool false)))])
  (.ret))
  (.skip)
def c39_k9 : C :=
 .seq (.seq (.ops [0, 1, 10] [.p (some 6) (.move (.t 0)),
  .p (some 7) (.len .slice (.t 6)),
  .p (some 8) (.move (.t 1)),
  .p (some 9) (.len .slice (.t 8)),
  .p (some 10) (.bin .neq .int [] (.t 7) (.t 9))])
 (c39_k8))
 (c39_k7)
def c39 : FnC := ⟨2, 26, [.tmp 4],
 .seq (.ops [0, 1] [.p (some 4) (.move (.c (.bool false)))])
 (c39_k9),
 []⟩

def c34_k0 : C :=
 .seq (.ops [4] [.p (some 32) (.move (.t 0)),
  .p (some 33) (.len .slice (.t 32)),
  .p (some 34) (.move (.t 1)),
  .p (some 35) (.len .slice (.t 34)),
  .p (some 36) (.bin .eql .int [] (.t 33) (.t 35)),
  .p (some 4) (.move (.t 36))])
 (.ret)
def c34_k1 : C :=
 .cond (.t 30)
  (.seq (.ops [4] [.p (some 4) (.move (.c (.bool false)))])
  (.ret))
  (.skip)
def c34_k2 : C :=
 .seq (.ops [0, 1, 10, 11, 12, 30] [.p (some 29) (.move (.t 7)),
  .p (some 30) (.una .not (.t 29))])
 (c34_k1)
def c34_k3 : C :=
 .ops [0, 1, 6, 7, 10, 11, 12, 16, 17, 18] [.p (some 22) (.move (.t 7)),
  .p (some 23) (.move (.t 22)),
  .when 23 false [.p (some 24) (.load true 32 (.t 9)),
   .p (some 25) (.load true 32 (.t 6)),
   .p (some 26) (.bin .eql .flat (List.replicate 32 (.int .u8)) (.t 24) (.t 25))],
  .p (some 27) (.pick (.t 23) (.c (.bool true)) (.t 26)),
  .p (some 7) (.move (.t 27))]
def c34_k4 : C :=
 .seq (.block 3 (.seq (.ops [0, 1, 6, 7, 9, 10, 11, 12, 16, 17, 18] [.p (some 20) (.iaddr 32 (.t 16) (.t 18)),
  .p (some 21) (.load true 32 (.t 20)),
  .e (some 9) (.alloc (List.replicate 32 (.d (.int .u8 0)))),
  .e .none (.store 32 (.t 9) (.t 21))])
 (c34_k3)))
 (.ops [0, 1, 6, 7, 10, 11, 12, 16, 17, 18] [.p (some 28) (.bin .add .int [] (.t 18) (.c (.int .i64 1))),
  .p (some 18) (.move (.t 28))])
def c34_k5 : C :=
 .seq (.cond (.t 19)
  (.skip)
  (.exit 2))
 (c34_k4)
def c34_l6 : C :=
 .seq (.ops [0, 1, 6, 7, 10, 11, 12, 16, 17, 18, 19] [.p (some 19) (.bin .lss .int [] (.t 18) (.t 17))])
 (c34_k5)
def c34_k7 : C :=
 .block 2 (.loop [0, 1, 6, 7, 10, 11, 12, 16, 17, 18] c34_l6)
def c34_k8 : C :=
 .seq (.seq (.ops [0, 1, 6, 7, 10, 11, 12, 16, 17, 18] [.p (some 16) (.move (.t 0)),
  .p (some 17) (.len .slice (.t 16)),
  .p (some 18) (.move (.c (.int .i64 0)))])
 (c34_k7))
 (c34_k2)
def c34_k9 : C :=
 .seq (.ops [0, 1, 6, 7, 10, 11, 12] [.p (some 7) (.move (.c (.bool false)))])
 (c34_k8)
def c34_k10 : C :=
 .seq (.ops [0, 1, 6, 10, 11, 12] [.p (some 14) (.iaddr 32 (.t 10) (.t 12)),
  .p (some 15) (.load true 32 (.t 14)),
  .e (some 6) (.alloc (List.replicate 32 (.d (.int .u8 0)))),
  .e .none (.store 32 (.t 6) (.t 15))])
 (c34_k9)
def c34_k11 : C :=
 .seq (.block 1 (c34_k10))
 (.ops [0, 1, 10, 11, 12] [.p (some 31) (.bin .add .int [] (.t 12) (.c (.int .i64 1))),
  .p (some 12) (.move (.t 31))])
def c34_k12 : C :=
 .seq (.cond (.t 13)
  (.skip)
  (.exit 0))
 (c34_k11)
def c34_l13 : C :=
 .seq (.ops [0, 1, 10, 11, 12, 13] [.p (some 13) (.bin .lss .int [] (.t 12) (.t 11))])
 (c34_k12)
def c34_k14 : C :=
 .block 0 (.loop [0, 1, 10, 11, 12] c34_l13)
def c34_k15 : C :=
 .seq (.seq (.ops [0, 1, 10, 11, 12] [.p (some 10) (.move (.t 1)),
  .p (some 11) (.len .slice (.t 10)),
  .p (some 12) (.move (.c (.int .i64 0)))])
 (c34_k14))
 (c34_k0)
def c34 : FnC := ⟨2, 37, [.tmp 4],
 .seq (.ops [0, 1] [.p (some 4) (.move (.c (.bool false)))])
 (c34_k15),
 []⟩

def CompOk (k : Nat) (c : FnC) : Prop := ∃ fn code, Try.prog.funcs[k]? = some fn ∧ fn.body = some code ∧ (fn.name == "runtime.NumGoroutine") = false ∧ comp Try.prog fn.ntmps code = some (erase c.body) ∧ compRes Try.prog fn.results.toList = some c.res ∧ c.nparams ≤ fn.ntmps ∧ fn.ntmps ≤ GB
theorem comp8 : CompOk 8 c8 := ⟨_, _, Try.func8, rfl, by kernel_rfl, by kernel_rfl, by kernel_rfl, by decide, by decide⟩
theorem comp29 : CompOk 29 c29 := ⟨_, _, Try.func29, rfl, by kernel_rfl, by kernel_rfl, by kernel_rfl, by decide, by decide⟩
theorem comp30 : CompOk 30 c30 := ⟨_, _, Try.func30, rfl, by kernel_rfl, by kernel_rfl, by kernel_rfl, by decide, by decide⟩
theorem comp57 : CompOk 57 c57 := ⟨_, _, Try.func57, rfl, by kernel_rfl, by kernel_rfl, by kernel_rfl, by decide, by decide⟩
theorem comp75 : CompOk 75 c75 := ⟨_, _, Try.func75, rfl, by kernel_rfl, by kernel_rfl, by kernel_rfl, by decide, by decide⟩
theorem comp56 : CompOk 56 c56 := ⟨_, _, Try.func56, rfl, by kernel_rfl, by kernel_rfl, by kernel_rfl, by decide, by decide⟩
theorem comp74 : CompOk 74 c74 := ⟨_, _, Try.func74, rfl, by kernel_rfl, by kernel_rfl, by kernel_rfl, by decide, by decide⟩
theorem comp91 : CompOk 91 c91 := ⟨_, _, Try.func91, rfl, by kernel_rfl, by kernel_rfl, by kernel_rfl, by decide, by decide⟩
theorem comp93 : CompOk 93 c93 := ⟨_, _, Try.func93, rfl, by kernel_rfl, by kernel_rfl, by kernel_rfl, by decide, by decide⟩
theorem comp111 : CompOk 111 c111 := ⟨_, _, Try.func111, rfl, by kernel_rfl, by kernel_rfl, by kernel_rfl, by decide, by decide⟩
theorem comp64 : CompOk 64 c64 := ⟨_, _, Try.func64, rfl, by kernel_rfl, by kernel_rfl, by kernel_rfl, by decide, by decide⟩
theorem comp83 : CompOk 83 c83 := ⟨_, _, Try.func83, rfl, by kernel_rfl, by kernel_rfl, by kernel_rfl, by decide, by decide⟩
theorem comp92 : CompOk 92 c92 := ⟨_, _, Try.func92, rfl, by kernel_rfl, by kernel_rfl, by kernel_rfl, by decide, by decide⟩
theorem comp94 : CompOk 94 c94 := ⟨_, _, Try.func94, rfl, by kernel_rfl, by kernel_rfl, by kernel_rfl, by decide, by decide⟩
theorem comp112 : CompOk 112 c112 := ⟨_, _, Try.func112, rfl, by kernel_rfl, by kernel_rfl, by kernel_rfl, by decide, by decide⟩
theorem comp33 : CompOk 33 c33 := ⟨_, _, Try.func33, rfl, by kernel_rfl, by kernel_rfl, by kernel_rfl, by decide, by decide⟩
theorem comp59 : CompOk 59 c59 := ⟨_, _, Try.func59, rfl, by kernel_rfl, by kernel_rfl, by kernel_rfl, by decide, by decide⟩
theorem comp54 : CompOk 54 c54 := ⟨_, _, Try.func54, rfl, by kernel_rfl, by kernel_rfl, by kernel_rfl, by decide, by decide⟩
theorem comp71 : CompOk 71 c71 := ⟨_, _, Try.func71, rfl, by kernel_rfl, by kernel_rfl, by kernel_rfl, by decide, by decide⟩
theorem comp17 : CompOk 17 c17 := ⟨_, _, Try.func17, rfl, by kernel_rfl, by kernel_rfl, by kernel_rfl, by decide, by decide⟩
theorem comp40 : CompOk 40 c40 := ⟨_, _, Try.func40, rfl, by kernel_rfl, by kernel_rfl, by kernel_rfl, by decide, by decide⟩
theorem comp31 : CompOk 31 c31 := ⟨_, _, Try.func31, rfl, by kernel_rfl, by kernel_rfl, by kernel_rfl, by decide, by decide⟩
theorem comp32 : CompOk 32 c32 := ⟨_, _, Try.func32, rfl, by kernel_rfl, by kernel_rfl, by kernel_rfl, by decide, by decide⟩
theorem comp58 : CompOk 58 c58 := ⟨_, _, Try.func58, rfl, by kernel_rfl, by kernel_rfl, by kernel_rfl, by decide, by decide⟩
theorem comp77 : CompOk 77 c77 := ⟨_, _, Try.func77, rfl, by kernel_rfl, by kernel_rfl, by kernel_rfl, by decide, by decide⟩
theorem comp97 : CompOk 97 c97 := ⟨_, _, Try.func97, rfl, by kernel_rfl, by kernel_rfl, by kernel_rfl, by decide, by decide⟩
theorem comp76 : CompOk 76 c76 := ⟨_, _, Try.func76, rfl, by kernel_rfl, by kernel_rfl, by kernel_rfl, by decide, by decide⟩
theorem comp95 : CompOk 95 c95 := ⟨_, _, Try.func95, rfl, by kernel_rfl, by kernel_rfl, by kernel_rfl, by decide, by decide⟩
theorem comp113 : CompOk 113 c113 := ⟨_, _, Try.func113, rfl, by kernel_rfl, by kernel_rfl, by kernel_rfl, by decide, by decide⟩
theorem comp96 : CompOk 96 c96 := ⟨_, _, Try.func96, rfl, by kernel_rfl, by kernel_rfl, by kernel_rfl, by decide, by decide⟩
theorem comp115 : CompOk 115 c115 := ⟨_, _, Try.func115, rfl, by kernel_rfl, by kernel_rfl, by kernel_rfl, by decide, by decide⟩
theorem comp131 : CompOk 131 c131 := ⟨_, _, Try.func131, rfl, by kernel_rfl, by kernel_rfl, by kernel_rfl, by decide, by decide⟩
theorem comp132 : CompOk 132 c132 := ⟨_, _, Try.func132, rfl, by kernel_rfl, by kernel_rfl, by kernel_rfl, by decide, by decide⟩
theorem comp114 : CompOk 114 c114 := ⟨_, _, Try.func114, rfl, by kernel_rfl, by kernel_rfl, by kernel_rfl, by decide, by decide⟩
theorem comp122 : CompOk 122 c122 := ⟨_, _, Try.func122, rfl, by kernel_rfl, by kernel_rfl, by kernel_rfl, by decide, by decide⟩
theorem comp128 : CompOk 128 c128 := ⟨_, _, Try.func128, rfl, by kernel_rfl, by kernel_rfl, by kernel_rfl, by decide, by decide⟩
theorem comp142 : CompOk 142 c142 := ⟨_, _, Try.func142, rfl, by kernel_rfl, by kernel_rfl, by kernel_rfl, by decide, by decide⟩
theorem comp123 : CompOk 123 c123 := ⟨_, _, Try.func123, rfl, by kernel_rfl, by kernel_rfl, by kernel_rfl, by decide, by decide⟩
theorem comp137 : CompOk 137 c137 := ⟨_, _, Try.func137, rfl, by kernel_rfl, by kernel_rfl, by kernel_rfl, by decide, by decide⟩
theorem comp124 : CompOk 124 c124 := ⟨_, _, Try.func124, rfl, by kernel_rfl, by kernel_rfl, by kernel_rfl, by decide, by decide⟩
theorem comp138 : CompOk 138 c138 := ⟨_, _, Try.func138, rfl, by kernel_rfl, by kernel_rfl, by kernel_rfl, by decide, by decide⟩
theorem comp139 : CompOk 139 c139 := ⟨_, _, Try.func139, rfl, by kernel_rfl, by kernel_rfl, by kernel_rfl, by decide, by decide⟩
theorem comp125 : CompOk 125 c125 := ⟨_, _, Try.func125, rfl, by kernel_rfl, by kernel_rfl, by kernel_rfl, by decide, by decide⟩
theorem comp140 : CompOk 140 c140 := ⟨_, _, Try.func140, rfl, by kernel_rfl, by kernel_rfl, by kernel_rfl, by decide, by decide⟩
theorem comp141 : CompOk 141 c141 := ⟨_, _, Try.func141, rfl, by kernel_rfl, by kernel_rfl, by kernel_rfl, by decide, by decide⟩
theorem comp143 : CompOk 143 c143 := ⟨_, _, Try.func143, rfl, by kernel_rfl, by kernel_rfl, by kernel_rfl, by decide, by decide⟩
theorem comp126 : CompOk 126 c126 := ⟨_, _, Try.func126, rfl, by kernel_rfl, by kernel_rfl, by kernel_rfl, by decide, by decide⟩
theorem comp127 : CompOk 127 c127 := ⟨_, _, Try.func127, rfl, by kernel_rfl, by kernel_rfl, by kernel_rfl, by decide, by decide⟩
theorem comp129 : CompOk 129 c129 := ⟨_, _, Try.func129, rfl, by kernel_rfl, by kernel_rfl, by kernel_rfl, by decide, by decide⟩
theorem comp130 : CompOk 130 c130 := ⟨_, _, Try.func130, rfl, by kernel_rfl, by kernel_rfl, by kernel_rfl, by decide, by decide⟩
theorem comp11 : CompOk 11 c11 := ⟨_, _, Try.func11, rfl, by kernel_rfl, by kernel_rfl, by kernel_rfl, by decide, by decide⟩
theorem comp28 : CompOk 28 c28 := ⟨_, _, Try.func28, rfl, by kernel_rfl, by kernel_rfl, by kernel_rfl, by decide, by decide⟩
theorem comp55 : CompOk 55 c55 := ⟨_, _, Try.func55, rfl, by kernel_rfl, by kernel_rfl, by kernel_rfl, by decide, by decide⟩
theorem comp61 : CompOk 61 c61 := ⟨_, _, Try.func61, rfl, by kernel_rfl, by kernel_rfl, by kernel_rfl, by decide, by decide⟩
theorem comp79 : CompOk 79 c79 := ⟨_, _, Try.func79, rfl, by kernel_rfl, by kernel_rfl, by kernel_rfl, by decide, by decide⟩
theorem comp100 : CompOk 100 c100 := ⟨_, _, Try.func100, rfl, by kernel_rfl, by kernel_rfl, by kernel_rfl, by decide, by decide⟩
theorem comp72 : CompOk 72 c72 := ⟨_, _, Try.func72, rfl, by kernel_rfl, by kernel_rfl, by kernel_rfl, by decide, by decide⟩
theorem comp73 : CompOk 73 c73 := ⟨_, _, Try.func73, rfl, by kernel_rfl, by kernel_rfl, by kernel_rfl, by decide, by decide⟩
theorem comp12 : CompOk 12 c12 := ⟨_, _, Try.func12, rfl, by kernel_rfl, by kernel_rfl, by kernel_rfl, by decide, by decide⟩
theorem comp15 : CompOk 15 c15 := ⟨_, _, Try.func15, rfl, by kernel_rfl, by kernel_rfl, by kernel_rfl, by decide, by decide⟩
theorem comp36 : CompOk 36 c36 := ⟨_, _, Try.func36, rfl, by kernel_rfl, by kernel_rfl, by kernel_rfl, by decide, by decide⟩
theorem comp35 : CompOk 35 c35 := ⟨_, _, Try.func35, rfl, by kernel_rfl, by kernel_rfl, by kernel_rfl, by decide, by decide⟩
theorem comp60 : CompOk 60 c60 := ⟨_, _, Try.func60, rfl, by kernel_rfl, by kernel_rfl, by kernel_rfl, by decide, by decide⟩
theorem comp78 : CompOk 78 c78 := ⟨_, _, Try.func78, rfl, by kernel_rfl, by kernel_rfl, by kernel_rfl, by decide, by decide⟩
theorem comp98 : CompOk 98 c98 := ⟨_, _, Try.func98, rfl, by kernel_rfl, by kernel_rfl, by kernel_rfl, by decide, by decide⟩
theorem comp99 : CompOk 99 c99 := ⟨_, _, Try.func99, rfl, by kernel_rfl, by kernel_rfl, by kernel_rfl, by decide, by decide⟩
theorem comp116 : CompOk 116 c116 := ⟨_, _, Try.func116, rfl, by kernel_rfl, by kernel_rfl, by kernel_rfl, by decide, by decide⟩
theorem comp133 : CompOk 133 c133 := ⟨_, _, Try.func133, rfl, by kernel_rfl, by kernel_rfl, by kernel_rfl, by decide, by decide⟩
theorem comp53 : CompOk 53 c53 := ⟨_, _, Try.func53, rfl, by kernel_rfl, by kernel_rfl, by kernel_rfl, by decide, by decide⟩
theorem comp37 : CompOk 37 c37 := ⟨_, _, Try.func37, rfl, by kernel_rfl, by kernel_rfl, by kernel_rfl, by decide, by decide⟩
theorem comp38 : CompOk 38 c38 := ⟨_, _, Try.func38, rfl, by kernel_rfl, by kernel_rfl, by kernel_rfl, by decide, by decide⟩
theorem comp62 : CompOk 62 c62 := ⟨_, _, Try.func62, rfl, by kernel_rfl, by kernel_rfl, by kernel_rfl, by decide, by decide⟩
theorem comp80 : CompOk 80 c80 := ⟨_, _, Try.func80, rfl, by kernel_rfl, by kernel_rfl, by kernel_rfl, by decide, by decide⟩
theorem comp63 : CompOk 63 c63 := ⟨_, _, Try.func63, rfl, by kernel_rfl, by kernel_rfl, by kernel_rfl, by decide, by decide⟩
theorem comp82 : CompOk 82 c82 := ⟨_, _, Try.func82, rfl, by kernel_rfl, by kernel_rfl, by kernel_rfl, by decide, by decide⟩
theorem comp102 : CompOk 102 c102 := ⟨_, _, Try.func102, rfl, by kernel_rfl, by kernel_rfl, by kernel_rfl, by decide, by decide⟩
theorem comp118 : CompOk 118 c118 := ⟨_, _, Try.func118, rfl, by kernel_rfl, by kernel_rfl, by kernel_rfl, by decide, by decide⟩
theorem comp121 : CompOk 121 c121 := ⟨_, _, Try.func121, rfl, by kernel_rfl, by kernel_rfl, by kernel_rfl, by decide, by decide⟩
theorem comp134 : CompOk 134 c134 := ⟨_, _, Try.func134, rfl, by kernel_rfl, by kernel_rfl, by kernel_rfl, by decide, by decide⟩
theorem comp135 : CompOk 135 c135 := ⟨_, _, Try.func135, rfl, by kernel_rfl, by kernel_rfl, by kernel_rfl, by decide, by decide⟩
theorem comp103 : CompOk 103 c103 := ⟨_, _, Try.func103, rfl, by kernel_rfl, by kernel_rfl, by kernel_rfl, by decide, by decide⟩
theorem comp120 : CompOk 120 c120 := ⟨_, _, Try.func120, rfl, by kernel_rfl, by kernel_rfl, by kernel_rfl, by decide, by decide⟩
theorem comp105 : CompOk 105 c105 := ⟨_, _, Try.func105, rfl, by kernel_rfl, by kernel_rfl, by kernel_rfl, by decide, by decide⟩
theorem comp104 : CompOk 104 c104 := ⟨_, _, Try.func104, rfl, by kernel_rfl, by kernel_rfl, by kernel_rfl, by decide, by decide⟩
theorem comp119 : CompOk 119 c119 := ⟨_, _, Try.func119, rfl, by kernel_rfl, by kernel_rfl, by kernel_rfl, by decide, by decide⟩
theorem comp136 : CompOk 136 c136 := ⟨_, _, Try.func136, rfl, by kernel_rfl, by kernel_rfl, by kernel_rfl, by decide, by decide⟩
theorem comp81 : CompOk 81 c81 := ⟨_, _, Try.func81, rfl, by kernel_rfl, by kernel_rfl, by kernel_rfl, by decide, by decide⟩
theorem comp101 : CompOk 101 c101 := ⟨_, _, Try.func101, rfl, by kernel_rfl, by kernel_rfl, by kernel_rfl, by decide, by decide⟩
theorem comp117 : CompOk 117 c117 := ⟨_, _, Try.func117, rfl, by kernel_rfl, by kernel_rfl, by kernel_rfl, by decide, by decide⟩
theorem comp39 : CompOk 39 c39 := ⟨_, _, Try.func39, rfl, by kernel_rfl, by kernel_rfl, by kernel_rfl, by decide, by decide⟩
theorem comp34 : CompOk 34 c34 := ⟨_, _, Try.func34, rfl, by kernel_rfl, by kernel_rfl, by kernel_rfl, by decide, by decide⟩
def globT : List (Nat × List D) := []
def Γ : Nat → Option FnC
 | 8 => some c8
 | 11 => some c11
 | 12 => some c12
 | 15 => some c15
 | 17 => some c17
 | 28 => some c28
 | 29 => some c29
 | 30 => some c30
 | 31 => some c31
 | 32 => some c32
 | 33 => some c33
 | 34 => some c34
 | 35 => some c35
 | 36 => some c36
 | 37 => some c37
 | 38 => some c38
 | 39 => some c39
 | 40 => some c40
 | 53 => some c53
 | 54 => some c54
 | 55 => some c55
 | 56 => some c56
 | 57 => some c57
 | 58 => some c58
 | 59 => some c59
 | 60 => some c60
 | 61 => some c61
 | 62 => some c62
 | 63 => some c63
 | 64 => some c64
 | 71 => some c71
 | 72 => some c72
 | 73 => some c73
 | 74 => some c74
 | 75 => some c75
 | 76 => some c76
 | 77 => some c77
 | 78 => some c78
 | 79 => some c79
 | 80 => some c80
 | 81 => some c81
 | 82 => some c82
 | 83 => some c83
 | 91 => some c91
 | 92 => some c92
 | 93 => some c93
 | 94 => some c94
 | 95 => some c95
 | 96 => some c96
 | 97 => some c97
 | 98 => some c98
 | 99 => some c99
 | 100 => some c100
 | 101 => some c101
 | 102 => some c102
 | 103 => some c103
 | 104 => some c104
 | 105 => some c105
 | 111 => some c111
 | 112 => some c112
 | 113 => some c113
 | 114 => some c114
 | 115 => some c115
 | 116 => some c116
 | 117 => some c117
 | 118 => some c118
 | 119 => some c119
 | 120 => some c120
 | 121 => some c121
 | 122 => some c122
 | 123 => some c123
 | 124 => some c124
 | 125 => some c125
 | 126 => some c126
 | 127 => some c127
 | 128 => some c128
 | 129 => some c129
 | 130 => some c130
 | 131 => some c131
 | 132 => some c132
 | 133 => some c133
 | 134 => some c134
 | 135 => some c135
 | 136 => some c136
 | 137 => some c137
 | 138 => some c138
 | 139 => some c139
 | 140 => some c140
 | 141 => some c141
 | 142 => some c142
 | 143 => some c143
 | _ => none
def cx : Cx := { mode := fun _ => .val, globs := globT, obj := [9] }
theorem CompOk.fits {k : Nat} {c : FnC} (h : CompOk k c) (hg : ∀ x ∈ c.globs, x ∈ globT) : Nonempty (Fits Try.prog cx.globs k c) := by
 obtain ⟨fn, code, h1, h2, h3, h4, h5, h6, h7⟩ := h
 exact ⟨⟨fn, code, h1, h2, h3, h4, h5, h6, h7, hg⟩⟩
theorem hΓ : ∀ (f : Nat) (fc : FnC), Γ f = some fc → Nonempty (Fits Try.prog cx.globs f fc) := by
 intro f fc h
 unfold Γ at h
 split at h
 case h_92 => cases h
 all_goals (cases h)
 ·exact comp8.fits fun x hx => by cases hx
 ·exact comp11.fits fun x hx => by cases hx
 ·exact comp12.fits fun x hx => by cases hx
 ·exact comp15.fits fun x hx => by cases hx
 ·exact comp17.fits fun x hx => by cases hx
 ·exact comp28.fits fun x hx => by cases hx
 ·exact comp29.fits fun x hx => by cases hx
 ·exact comp30.fits fun x hx => by cases hx
 ·exact comp31.fits fun x hx => by cases hx
 ·exact comp32.fits fun x hx => by cases hx
 ·exact comp33.fits fun x hx => by cases hx
 ·exact comp34.fits fun x hx => by cases hx
 ·exact comp35.fits fun x hx => by cases hx
 ·exact comp36.fits fun x hx => by cases hx
 ·exact comp37.fits fun x hx => by cases hx
 ·exact comp38.fits fun x hx => by cases hx
 ·exact comp39.fits fun x hx => by cases hx
 ·exact comp40.fits fun x hx => by cases hx
 ·exact comp53.fits fun x hx => by cases hx
 ·exact comp54.fits fun x hx => by cases hx
 ·exact comp55.fits fun x hx => by cases hx
 ·exact comp56.fits fun x hx => by cases hx
 ·exact comp57.fits fun x hx => by cases hx
 ·exact comp58.fits fun x hx => by cases hx
 ·exact comp59.fits fun x hx => by cases hx
 ·exact comp60.fits fun x hx => by cases hx
 ·exact comp61.fits fun x hx => by cases hx
 ·exact comp62.fits fun x hx => by cases hx
 ·exact comp63.fits fun x hx => by cases hx
 ·exact comp64.fits fun x hx => by cases hx
 ·exact comp71.fits fun x hx => by cases hx
 ·exact comp72.fits fun x hx => by cases hx
 ·exact comp73.fits fun x hx => by cases hx
 ·exact comp74.fits fun x hx => by cases hx
 ·exact comp75.fits fun x hx => by cases hx
 ·exact comp76.fits fun x hx => by cases hx
 ·exact comp77.fits fun x hx => by cases hx
 ·exact comp78.fits fun x hx => by cases hx
 ·exact comp79.fits fun x hx => by cases hx
 ·exact comp80.fits fun x hx => by cases hx
 ·exact comp81.fits fun x hx => by cases hx
 ·exact comp82.fits fun x hx => by cases hx
 ·exact comp83.fits fun x hx => by cases hx
 ·exact comp91.fits fun x hx => by cases hx
 ·exact comp92.fits fun x hx => by cases hx
 ·exact comp93.fits fun x hx => by cases hx
 ·exact comp94.fits fun x hx => by cases hx
 ·exact comp95.fits fun x hx => by cases hx
 ·exact comp96.fits fun x hx => by cases hx
 ·exact comp97.fits fun x hx => by cases hx
 ·exact comp98.fits fun x hx => by cases hx
 ·exact comp99.fits fun x hx => by cases hx
 ·exact comp100.fits fun x hx => by cases hx
 ·exact comp101.fits fun x hx => by cases hx
 ·exact comp102.fits fun x hx => by cases hx
 ·exact comp103.fits fun x hx => by cases hx
 ·exact comp104.fits fun x hx => by cases hx
 ·exact comp105.fits fun x hx => by cases hx
 ·exact comp111.fits fun x hx => by cases hx
 ·exact comp112.fits fun x hx => by cases hx
 ·exact comp113.fits fun x hx => by cases hx
 ·exact comp114.fits fun x hx => by cases hx
 ·exact comp115.fits fun x hx => by cases hx
 ·exact comp116.fits fun x hx => by cases hx
 ·exact comp117.fits fun x hx => by cases hx
 ·exact comp118.fits fun x hx => by cases hx
 ·exact comp119.fits fun x hx => by cases hx
 ·exact comp120.fits fun x hx => by cases hx
 ·exact comp121.fits fun x hx => by cases hx
 ·exact comp122.fits fun x hx => by cases hx
 ·exact comp123.fits fun x hx => by cases hx
 ·exact comp124.fits fun x hx => by cases hx
 ·exact comp125.fits fun x hx => by cases hx
 ·exact comp126.fits fun x hx => by cases hx
 ·exact comp127.fits fun x hx => by cases hx
 ·exact comp128.fits fun x hx => by cases hx
 ·exact comp129.fits fun x hx => by cases hx
 ·exact comp130.fits fun x hx => by cases hx
 ·exact comp131.fits fun x hx => by cases hx
 ·exact comp132.fits fun x hx => by cases hx
 ·exact comp133.fits fun x hx => by cases hx
 ·exact comp134.fits fun x hx => by cases hx
 ·exact comp135.fits fun x hx => by cases hx
 ·exact comp136.fits fun x hx => by cases hx
 ·exact comp137.fits fun x hx => by cases hx
 ·exact comp138.fits fun x hx => by cases hx
 ·exact comp139.fits fun x hx => by cases hx
 ·exact comp140.fits fun x hx => by cases hx
 ·exact comp141.fits fun x hx => by cases hx
 ·exact comp142.fits fun x hx => by cases hx
 ·exact comp143.fits fun x hx => by cases hx
end Go.Proofs.Ytmlkdfjojoophaa.T
