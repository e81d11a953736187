/- The functions that KidsHeard reach, digested for the evaluator by values; that they are the program's. Printed by mkpv.py of this repo. -/
import Derived.Test.YtccgolmdhikdoaaChecked
import Derived.Test.YtccgolmdhikdoaaPvE
import Derived.KernelRfl
namespace Go.Proofs.Ytccgolmdhikdoaa.Pk
open Go.Ab
abbrev u_ (t : Nat) (o : AOp) : AOper × PM := (⟨some t, o, none⟩, ⟨.n, []⟩)
def c_pleachlaw6_KidsHeard_0 : PCode := .fin (.reg [u_ 86 (.mv (.t 11)), u_ 5 (.mv (.t 86))]) [] [] [0, 1, 5, 6, 7] []
def c_pleachlaw6_KidsHeard_1 : PCode := .fin (.reg [u_ 31 (.mv (.t 7)), u_ 32 (.bin .add (.t 31) (.c (.int .i64 1))), u_ 7 (.mv (.t 32))]) [] [] [0, 1, 5, 6, 7] []
def c_pleachlaw6_KidsHeard_2 : PCode := .seq (.seq (.reg [u_ 27 (.mv (.t 7)), u_ 28 (.mv (.t 0)), u_ 29 (.len (.t 28)), u_ 30 (.bin .lss (.t 27) (.t 29))]) (.cond (.t 30) .skip (.keep [1, 5, 6] [] (.exit 0)))) (.seq (.block 1 (.seq (.dreg 1 [((⟨some 33, .mv (.t 0), none⟩, .q), ⟨.n, []⟩), ((⟨some 34, .mv (.t 7), none⟩, .q), ⟨.n, []⟩), ((⟨some 35, .iad 3 (.t 33) (.t 34), none⟩, .q), ⟨.n, []⟩), ((⟨some 36, .iaa 3 1 (.t 35) (.c (.int .i64 0)), none⟩, .q), ⟨.n, []⟩), ((⟨some 37, .ld (.t 36), none⟩, .q), ⟨.n, []⟩), ((⟨some 38, .bin .rem (.t 37) (.c (.int .u8 8)), none⟩, .q), ⟨.n, []⟩), ((⟨some 39, .cvi .i64 (.t 38), none⟩, .q), ⟨.n, []⟩), ((⟨some 40, .bin .add (.c (.int .i64 1)) (.t 39), none⟩, .q), ⟨.n, []⟩), ((⟨some 41, .mv (.t 0), none⟩, .q), ⟨.n, []⟩), ((⟨some 42, .mv (.t 7), none⟩, .q), ⟨.n, []⟩), ((⟨some 43, .iad 3 (.t 41) (.t 42), none⟩, .q), ⟨.n, []⟩), ((⟨some 44, .iaa 3 1 (.t 43) (.c (.int .i64 1)), none⟩, .q), ⟨.n, []⟩), ((⟨some 45, .ld (.t 44), none⟩, .q), ⟨.n, []⟩), ((⟨some 46, .bin .rem (.t 45) (.c (.int .u8 3)), none⟩, .q), ⟨.n, []⟩), ((⟨some 47, .cvi .i64 (.t 46), none⟩, .q), ⟨.n, []⟩), ((⟨some 48, .bin .add (.c (.int .i64 1)) (.t 47), none⟩, .q), ⟨.n, []⟩), ((⟨some 49, .mv (.t 0), none⟩, .q), ⟨.n, []⟩), ((⟨some 50, .mv (.t 7), none⟩, .q), ⟨.n, []⟩), ((⟨some 51, .iad 3 (.t 49) (.t 50), none⟩, .q), ⟨.n, []⟩), ((⟨some 52, .iaa 3 1 (.t 51) (.c (.int .i64 2)), none⟩, .q), ⟨.n, []⟩), ((⟨some 53, .ld (.t 52), none⟩, .q), ⟨.n, []⟩), ((⟨some 54, .bin .rem (.t 53) (.c (.int .u8 50)), none⟩, .q), ⟨.n, []⟩), ((⟨some 55, .cvi .i64 (.t 54), none⟩, .q), ⟨.n, []⟩), ((⟨some 56, .build [.int .i64 0, .int .i64 0, .int .i64 0] [(0, 1, .t 40), (1, 1, .t 48), (2, 1, .t 55)], none⟩, .q), ⟨.n, []⟩), ((⟨some 8, .newc [.int .i64 0, .int .i64 0, .int .i64 0], none⟩, .al 0), ⟨.s 3, []⟩), ((⟨none, .st 3 (.t 8) (.t 56), none⟩, .ef []), ⟨.n, []⟩)]) (.seq (.reg [u_ 58 (.mv (.t 6)), u_ 59 (.fad 0 (.t 8)), u_ 60 (.ld (.t 59)), u_ 61 (.mlk .i (.agg [.int .i64 0, .int .i64 0, .int .i64 0]) true (.t 58) (.t 60)), u_ 57 (.mv (.t 61)), u_ 62 (.ext (.t 57) 0), u_ 63 (.ext (.t 57) 1), (⟨some 9, .newc [.int .i64 0, .int .i64 0, .int .i64 0], none⟩, ⟨.s 3, []⟩), (⟨none, .st 3 (.t 9) (.t 62), none⟩, ⟨.n, []⟩), u_ 10 (.mv (.t 63))]) (.seq (.reg [u_ 65 (.mv (.t 5)), u_ 66 (.ldn 3 (.t 8)), u_ 67 (.call (.c (.fn 48 [] [])) [.t 65, .t 66]), u_ 64 (.mv (.t 67)), u_ 68 (.ext (.t 64) 0), u_ 69 (.ext (.t 64) 1), u_ 11 (.mv (.t 68)), u_ 12 (.mv (.t 69))]) (.seq (.seq (.reg [u_ 70 (.mv (.t 12)), u_ 71 (.mv (.t 10)), u_ 72 (.un .not (.t 71)), u_ 73 (.mv (.t 72)), (⟨some 74, .fad 1 (.t 9), some (73, false)⟩, ⟨.n, []⟩), (⟨some 75, .ld (.t 74), some (73, false)⟩, ⟨.n, []⟩), (⟨some 76, .fad 1 (.t 8), some (73, false)⟩, ⟨.n, []⟩), (⟨some 77, .ld (.t 76), some (73, false)⟩, ⟨.n, []⟩), (⟨some 78, .bin .leq (.t 75) (.t 77), some (73, false)⟩, ⟨.n, []⟩), u_ 79 (.pick (.t 73) (.c (.bool true)) (.t 78)), u_ 80 (.eqs true .b (.t 70) (.t 79))]) (.cond (.t 80) (.seq (.reg [u_ 4 (.mv (.c (.bool false)))]) (.keep [4] [] .ret)) .skip)) (.seq (.seq (.reg [u_ 81 (.mv (.t 12))]) (.cond (.t 81) (.fin (.reg [u_ 82 (.mv (.t 6)), u_ 83 (.fad 0 (.t 8)), u_ 84 (.ld (.t 83)), u_ 85 (.ldn 3 (.t 8)), (⟨none, .mup .i (.t 82) (.t 84) (.t 85), none⟩, ⟨.n, []⟩)]) [] [] [0, 1, 6, 7, 11] []) (.fin .skip [] [] [0, 1, 6, 7, 11] []))) c_pleachlaw6_KidsHeard_0)))))) c_pleachlaw6_KidsHeard_1)
def c_pleachlaw6_KidsHeard_3 : PCode := .seq (.seq (.reg [u_ 101 (.mv (.t 14)), u_ 102 (.bin .leq (.t 101) (.c (.int .i64 8)))]) (.cond (.t 102) .skip (.keep [13] [] (.exit 2)))) (.seq (.block 3 (.seq (.reg [u_ 106 (.mv (.t 6)), u_ 107 (.mv (.t 14)), u_ 108 (.mlk .i (.agg [.int .i64 0, .int .i64 0, .int .i64 0]) true (.t 106) (.t 107)), u_ 105 (.mv (.t 108)), u_ 109 (.ext (.t 105) 0), u_ 110 (.ext (.t 105) 1), (⟨some 15, .newc [.int .i64 0, .int .i64 0, .int .i64 0], none⟩, ⟨.s 3, []⟩), (⟨none, .st 3 (.t 15) (.t 109), none⟩, ⟨.n, []⟩), u_ 16 (.mv (.t 110))]) (.seq (.reg [u_ 112 (.mv (.t 5)), u_ 113 (.mv (.t 14)), u_ 114 (.call (.c (.fn 51 [] [])) [.t 112, .t 113]), u_ 111 (.mv (.t 114)), u_ 115 (.ext (.t 111) 0), u_ 116 (.ext (.t 111) 1), (⟨some 17, .newc [.int .i64 0, .int .i64 0, .int .i64 0], none⟩, ⟨.s 3, []⟩), (⟨none, .st 3 (.t 17) (.t 115), none⟩, ⟨.n, []⟩), u_ 18 (.mv (.t 116))]) (.seq (.reg [u_ 118 (.mv (.t 13)), u_ 119 (.mv (.t 14)), u_ 120 (.call (.c (.fn 51 [] [])) [.t 118, .t 119]), u_ 117 (.mv (.t 120)), u_ 121 (.ext (.t 117) 0), u_ 122 (.ext (.t 117) 1), (⟨some 19, .newc [.int .i64 0, .int .i64 0, .int .i64 0], none⟩, ⟨.s 3, []⟩), (⟨none, .st 3 (.t 19) (.t 121), none⟩, ⟨.n, []⟩), u_ 20 (.mv (.t 122))]) (.seq (.reg [u_ 123 (.mv (.t 18)), u_ 124 (.mv (.t 16)), u_ 125 (.eqs true .b (.t 123) (.t 124)), u_ 126 (.mv (.t 125)), (⟨some 127, .mv (.t 18), some (126, false)⟩, ⟨.n, []⟩), (⟨some 128, .mv (.t 127), some (126, false)⟩, ⟨.n, []⟩), (⟨some 129, .ldn 3 (.t 17), some (128, true)⟩, ⟨.n, []⟩), (⟨some 130, .ldn 3 (.t 15), some (128, true)⟩, ⟨.n, []⟩), (⟨some 131, .eqs true (.st [(0, 1, .i), (1, 1, .i), (2, 1, .i)]) (.t 129) (.t 130), some (128, true)⟩, ⟨.n, []⟩), (⟨some 132, .pick (.t 128) (.t 131) (.c (.bool false)), some (126, false)⟩, ⟨.n, []⟩), u_ 133 (.pick (.t 126) (.c (.bool true)) (.t 132)), u_ 134 (.mv (.t 133)), (⟨some 135, .mv (.t 20), some (134, false)⟩, ⟨.n, []⟩), (⟨some 136, .mv (.t 16), some (134, false)⟩, ⟨.n, []⟩), (⟨some 137, .mv (.t 136), some (134, false)⟩, ⟨.n, []⟩), (⟨some 138, .mv (.t 1), some (137, true)⟩, ⟨.n, []⟩), (⟨some 139, .cvi .i64 (.t 138), some (137, true)⟩, ⟨.n, []⟩), (⟨some 140, .fad 2 (.t 15), some (137, true)⟩, ⟨.n, []⟩), (⟨some 141, .ld (.t 140), some (137, true)⟩, ⟨.n, []⟩), (⟨some 142, .bin .sub (.t 139) (.t 141), some (137, true)⟩, ⟨.n, []⟩), (⟨some 143, .bin .leq (.t 142) (.c (.int .i64 20)), some (137, true)⟩, ⟨.n, []⟩), (⟨some 144, .pick (.t 137) (.t 143) (.c (.bool false)), some (134, false)⟩, ⟨.n, []⟩), (⟨some 145, .eqs true .b (.t 135) (.t 144), some (134, false)⟩, ⟨.n, []⟩), u_ 146 (.pick (.t 134) (.c (.bool true)) (.t 145))]) (.cond (.t 146) (.seq (.reg [u_ 4 (.mv (.c (.bool false)))]) (.keep [4] [] .ret)) .skip)))))) (.fin (.reg [u_ 103 (.mv (.t 14)), u_ 104 (.bin .add (.t 103) (.c (.int .i64 1))), u_ 14 (.mv (.t 104))]) [] [] [1, 5, 6, 13, 14] []))
def c_pleachlaw6_KidsHeard_4 : PCode := .seq (.reg [u_ 147 (.mv (.t 13)), u_ 148 (.call (.c (.fn 49 [] [])) [.t 147]), u_ 4 (.mv (.t 148))]) .ret
def c_pleachlaw6_KidsHeard_5 : PCode := .seq (.seq (.reg [u_ 87 (.mv (.t 5)), u_ 88 (.call (.c (.fn 49 [] [])) [.t 87]), u_ 89 (.un .not (.t 88)), u_ 90 (.mv (.t 89)), (⟨some 91, .mv (.t 5), some (90, false)⟩, ⟨.n, []⟩), (⟨some 92, .len (.t 91), some (90, false)⟩, ⟨.n, []⟩), (⟨some 93, .mv (.t 6), some (90, false)⟩, ⟨.n, []⟩), (⟨some 94, .lnm (.t 93), some (90, false)⟩, ⟨.n, []⟩), (⟨some 95, .bin .neq (.t 92) (.t 94), some (90, false)⟩, ⟨.n, []⟩), u_ 96 (.pick (.t 90) (.c (.bool true)) (.t 95))]) (.cond (.t 96) (.seq (.reg [u_ 4 (.mv (.c (.bool false)))]) .ret) .skip)) (.seq (.reg [u_ 97 (.mv (.t 5)), u_ 98 (.mv (.t 1)), u_ 99 (.cvi .i64 (.t 98)), u_ 100 (.call (.c (.fn 50 [] [])) [.t 97, .t 99]), u_ 13 (.mv (.t 100))]) (.seq (.seq (.reg [u_ 14 (.mv (.c (.int .i64 1)))]) (.block 2 (.keep [1, 5, 6, 13, 14] [] (.loop c_pleachlaw6_KidsHeard_3)))) c_pleachlaw6_KidsHeard_4))
def c_pleachlaw6_KidsHeard : PCode := .seq (.reg [u_ 4 (.mv (.c (.bool false)))]) (.seq (.seq (.reg [u_ 21 (.call (.c (.fn 47 [] [])) []), u_ 22 (.un .not (.t 21))]) (.cond (.t 22) (.seq (.reg [u_ 4 (.mv (.c (.bool false)))]) .ret) .skip)) (.seq (.seq (.reg [u_ 23 (.mv (.t 0)), u_ 24 (.len (.t 23)), u_ 25 (.bin .gtr (.t 24) (.c (.int .i64 20)))]) (.cond (.t 25) (.seq (.reg [u_ 4 (.mv (.c (.bool true)))]) .ret) .skip)) (.seq (.reg [u_ 5 (.mv (.c .nils))]) (.seq (.reg [u_ 26 (.mkm), u_ 6 (.mv (.t 26))]) (.seq (.seq (.reg [u_ 7 (.mv (.c (.int .i64 0)))]) (.block 0 (.keep [0, 1, 5, 6, 7] [] (.loop c_pleachlaw6_KidsHeard_2)))) c_pleachlaw6_KidsHeard_5)))))
def pf_pleachlaw6_KidsHeard : PFn := ⟨149, [], c_pleachlaw6_KidsHeard, [.tmp 4], [.n]⟩
def c_kids_Hear : PCode := .seq (.reg [(⟨some 3, .box (.t 1), none⟩, ⟨.s 3, []⟩), u_ 4 (.mv (.c .nils)), u_ 5 (.mv (.c (.bool false)))]) (.seq (.reg [u_ 9 (.mv (.t 0)), (⟨some 10, .call (.c (.fn 75 [] [])) [.t 9], none⟩, ⟨.s 3, []⟩), u_ 6 (.mv (.t 10))]) (.seq (.seq (.reg [u_ 11 (.mv (.t 0)), u_ 12 (.fad 0 (.t 3)), u_ 13 (.ld (.t 12)), u_ 14 (.fad 1 (.t 3)), u_ 15 (.ld (.t 14)), u_ 16 (.call (.c (.fn 53 [] [])) [.t 11, .t 13, .t 15])]) (.cond (.t 16) (.seq (.reg [u_ 17 (.mv (.t 6)), u_ 4 (.mv (.t 17)), u_ 5 (.mv (.c (.bool false)))]) .ret) .skip)) (.seq (.reg [u_ 19 (.mv (.t 0)), u_ 20 (.fad 0 (.t 3)), u_ 21 (.ld (.t 20)), u_ 22 (.call (.c (.fn 76 [] [])) [.t 19, .t 21]), u_ 18 (.mv (.t 22)), u_ 23 (.ext (.t 18) 0), u_ 24 (.ext (.t 18) 1), u_ 7 (.mv (.t 23)), u_ 8 (.mv (.t 24))]) (.seq (.seq (.reg [u_ 25 (.mv (.t 8))]) (.cond (.t 25) (.seq (.reg [u_ 26 (.mv (.t 6)), u_ 27 (.mv (.t 7)), u_ 28 (.ldn 3 (.t 3)), u_ 29 (.iad 3 (.t 26) (.t 27)), (⟨none, .st 3 (.t 29) (.t 28), none⟩, ⟨.n, []⟩)]) (.seq (.reg [u_ 30 (.mv (.t 6)), u_ 4 (.mv (.t 30)), u_ 5 (.mv (.c (.bool true)))]) .ret)) .skip)) (.seq (.reg [u_ 31 (.mv (.t 6)), u_ 32 (.mv (.t 7)), u_ 33 (.ldn 3 (.t 3)), (⟨some 34, .bsl 3 [.int .i64 0, .int .i64 0, .int .i64 0] 1 [(0, 3, .t 33)], none⟩, ⟨.i, []⟩), (⟨some 35, .call (.c (.fn 77 [] [])) [.t 31, .t 32, .t 34], none⟩, ⟨.t 3, []⟩), u_ 4 (.mv (.t 35)), u_ 5 (.mv (.c (.bool true)))]) .ret)))))
def pf_kids_Hear : PFn := ⟨36, [], c_kids_Hear, [.tmp 4, .tmp 5], [.f 3, .n]⟩
def c_kids_May_0 : PCode := .seq (.reg [u_ 9 (.bin .lss (.t 8) (.t 7))]) (.seq (.cond (.t 9) .skip (.keep [] [] (.exit 0))) (.seq (.block 1 (.seq (.reg [u_ 10 (.iad 3 (.t 6) (.t 8)), u_ 11 (.ldn 3 (.t 10)), (⟨some 5, .newc [.int .i64 0, .int .i64 0, .int .i64 0], none⟩, ⟨.s 3, []⟩), (⟨none, .st 3 (.t 5) (.t 11), none⟩, ⟨.n, []⟩)]) (.seq (.seq (.reg [u_ 12 (.fad 0 (.t 5)), u_ 13 (.ld (.t 12)), u_ 14 (.mv (.t 3)), u_ 15 (.bin .leq (.t 13) (.t 14)), u_ 16 (.mv (.t 15)), (⟨some 17, .fad 0 (.t 5), some (16, false)⟩, ⟨.n, []⟩), (⟨some 18, .ld (.t 17), some (16, false)⟩, ⟨.n, []⟩), (⟨some 19, .bin .gtr (.t 18) (.c (.int .i64 8)), some (16, false)⟩, ⟨.n, []⟩), u_ 20 (.pick (.t 16) (.c (.bool true)) (.t 19)), u_ 21 (.mv (.t 20)), (⟨some 22, .fad 1 (.t 5), some (21, false)⟩, ⟨.n, []⟩), (⟨some 23, .ld (.t 22), some (21, false)⟩, ⟨.n, []⟩), (⟨some 24, .bin .lss (.t 23) (.c (.int .i64 1)), some (21, false)⟩, ⟨.n, []⟩), u_ 25 (.pick (.t 21) (.c (.bool true)) (.t 24)), u_ 26 (.mv (.t 25)), (⟨some 27, .fad 1 (.t 5), some (26, false)⟩, ⟨.n, []⟩), (⟨some 28, .ld (.t 27), some (26, false)⟩, ⟨.n, []⟩), (⟨some 29, .bin .gtr (.t 28) (.c (.int .i64 1073741824)), some (26, false)⟩, ⟨.n, []⟩), u_ 30 (.pick (.t 26) (.c (.bool true)) (.t 29)), u_ 31 (.mv (.t 30)), (⟨some 32, .fad 2 (.t 5), some (31, false)⟩, ⟨.n, []⟩), (⟨some 33, .ld (.t 32), some (31, false)⟩, ⟨.n, []⟩), (⟨some 34, .bin .lss (.t 33) (.c (.int .i64 0)), some (31, false)⟩, ⟨.n, []⟩), u_ 35 (.pick (.t 31) (.c (.bool true)) (.t 34)), u_ 36 (.mv (.t 35)), (⟨some 37, .fad 2 (.t 5), some (36, false)⟩, ⟨.n, []⟩), (⟨some 38, .ld (.t 37), some (36, false)⟩, ⟨.n, []⟩), (⟨some 39, .bin .gtr (.t 38) (.c (.int .i64 1073741824)), some (36, false)⟩, ⟨.n, []⟩), u_ 40 (.pick (.t 36) (.c (.bool true)) (.t 39))]) (.cond (.t 40) (.seq (.reg [u_ 2 (.mv (.c (.bool false)))]) (.keep [2] [] .ret)) .skip)) (.reg [u_ 41 (.fad 0 (.t 5)), u_ 42 (.ld (.t 41)), u_ 3 (.mv (.t 42))])))) (.fin (.reg [u_ 43 (.bin .add (.t 8) (.c (.int .i64 1))), u_ 8 (.mv (.t 43))]) [] [] [3, 6, 7, 8] [])))
def c_kids_May_1 : PCode := .seq (.reg [u_ 2 (.mv (.c (.bool true)))]) .ret
def c_kids_May : PCode := .seq (.reg [u_ 2 (.mv (.c (.bool false)))]) (.seq (.reg [u_ 3 (.mv (.c (.int .i64 0)))]) (.seq (.seq (.reg [u_ 6 (.mv (.t 0)), u_ 7 (.len (.t 6)), u_ 8 (.mv (.c (.int .i64 0)))]) (.block 0 (.keep [3, 6, 7, 8] [] (.loop c_kids_May_0)))) c_kids_May_1))
def pf_kids_May : PFn := ⟨44, [], c_kids_May, [.tmp 2], [.n]⟩
def c_kids_Prune : PCode := .seq (.reg [(⟨some 3, .box (.t 1), none⟩, ⟨.s 1, []⟩), u_ 4 (.mv (.c .nils))]) (.seq (.reg [u_ 5 (.mv (.t 0)), (⟨some 6, .call (.c (.fn 75 [] [])) [.t 5], none⟩, ⟨.s 3, []⟩), (⟨some 7, .mkf 79 [] [.t 3], none⟩, ⟨.n, [3]⟩), (⟨some 8, .call (.c (.fn 78 [] [])) [.t 6, .t 7], none⟩, ⟨.tf 3, []⟩), u_ 4 (.mv (.t 8))]) .ret)
def pf_kids_Prune : PFn := ⟨9, [], c_kids_Prune, [.tmp 4], [.f 3]⟩
def c_kids_Find : PCode := .seq (.reg [(⟨some 4, .newc [.int .i64 0, .int .i64 0, .int .i64 0], none⟩, ⟨.s 3, []⟩), u_ 5 (.mv (.c (.bool false)))]) (.seq (.reg [u_ 9 (.mv (.t 0)), u_ 10 (.mv (.t 1)), u_ 11 (.call (.c (.fn 76 [] [])) [.t 9, .t 10]), u_ 8 (.mv (.t 11)), u_ 12 (.ext (.t 8) 0), u_ 13 (.ext (.t 8) 1), u_ 6 (.mv (.t 12)), u_ 7 (.mv (.t 13))]) (.seq (.seq (.reg [u_ 14 (.mv (.t 7)), u_ 15 (.un .not (.t 14))]) (.cond (.t 15) (.seq (.reg [u_ 16 (.build [.int .i64 0, .int .i64 0, .int .i64 0] []), (⟨none, .st 3 (.t 4) (.t 16), none⟩, ⟨.n, []⟩), u_ 5 (.mv (.c (.bool false)))]) .ret) .skip)) (.seq (.reg [u_ 17 (.mv (.t 0)), u_ 18 (.mv (.t 6)), u_ 19 (.iad 3 (.t 17) (.t 18)), u_ 20 (.ldn 3 (.t 19)), (⟨none, .st 3 (.t 4) (.t 20), none⟩, ⟨.n, []⟩), u_ 5 (.mv (.c (.bool true)))]) .ret)))
def pf_kids_Find : PFn := ⟨21, [], c_kids_Find, [.cell 4 (some 3), .tmp 5], [.n, .n]⟩
def c_kids_Old : PCode := .seq (.reg [u_ 6 (.mv (.c (.bool false)))]) (.seq (.reg [u_ 10 (.mv (.t 0)), u_ 11 (.mv (.t 1)), u_ 12 (.call (.c (.fn 51 [] [])) [.t 10, .t 11]), u_ 9 (.mv (.t 12)), u_ 13 (.ext (.t 9) 0), u_ 14 (.ext (.t 9) 1), (⟨some 7, .newc [.int .i64 0, .int .i64 0, .int .i64 0], none⟩, ⟨.s 3, []⟩), (⟨none, .st 3 (.t 7) (.t 13), none⟩, ⟨.n, []⟩), u_ 8 (.mv (.t 14))]) (.seq (.reg [u_ 15 (.mv (.t 8)), u_ 16 (.mv (.t 15)), (⟨some 17, .fad 1 (.t 7), some (16, true)⟩, ⟨.n, []⟩), (⟨some 18, .ld (.t 17), some (16, true)⟩, ⟨.n, []⟩), (⟨some 19, .mv (.t 2), some (16, true)⟩, ⟨.n, []⟩), (⟨some 20, .bin .gtr (.t 18) (.t 19), some (16, true)⟩, ⟨.n, []⟩), u_ 21 (.pick (.t 16) (.t 20) (.c (.bool false))), u_ 6 (.mv (.t 21))]) .ret))
def pf_kids_Old : PFn := ⟨22, [], c_kids_Old, [.tmp 6], [.n]⟩
def c_kids_Drop : PCode := .seq (.reg [(⟨some 3, .box (.t 1), none⟩, ⟨.s 1, []⟩), u_ 4 (.mv (.c .nils))]) (.seq (.reg [u_ 5 (.mv (.t 0)), (⟨some 6, .call (.c (.fn 75 [] [])) [.t 5], none⟩, ⟨.s 3, []⟩), (⟨some 7, .mkf 80 [] [.t 3], none⟩, ⟨.n, [3]⟩), (⟨some 8, .call (.c (.fn 78 [] [])) [.t 6, .t 7], none⟩, ⟨.tf 3, []⟩), u_ 4 (.mv (.t 8))]) .ret)
def pf_kids_Drop : PFn := ⟨9, [], c_kids_Drop, [.tmp 4], [.f 3]⟩
def c_kids_place : PCode := .seq (.reg [u_ 4 (.mv (.c (.int .i64 0))), u_ 5 (.mv (.c (.bool false)))]) (.seq (.reg [u_ 6 (.mv (.t 0)), u_ 7 (.mv (.t 1)), u_ 8 (.call (.c (.fn 94 [] [])) [.t 6, .t 7, .c (.fn 95 [] [])]), u_ 9 (.ext (.t 8) 0), u_ 10 (.ext (.t 8) 1), u_ 4 (.mv (.t 9)), u_ 5 (.mv (.t 10))]) .ret)
def pf_kids_place : PFn := ⟨11, [], c_kids_place, [.tmp 4, .tmp 5], [.n, .n]⟩
def c_slices_DeleteFunc_api_Kid_api_Kid_0 : PCode := .fin (.reg [u_ 20 (.mv (.t 6)), u_ 21 (.bin .add (.t 20) (.c (.int .i64 1))), u_ 6 (.mv (.t 21))]) [] [] [0, 1, 5, 6] [(0, 0)]
def c_slices_DeleteFunc_api_Kid_api_Kid_1 : PCode := .seq (.seq (.reg [u_ 16 (.mv (.t 6)), u_ 17 (.mv (.t 0)), u_ 18 (.len (.t 17)), u_ 19 (.bin .lss (.t 16) (.t 18))]) (.cond (.t 19) .skip (.keep [0, 5] [(0, 0)] (.exit 0)))) (.seq (.block 1 (.seq (.reg [u_ 22 (.mv (.t 0)), u_ 23 (.mv (.t 6)), u_ 24 (.iad 3 (.t 22) (.t 23)), u_ 25 (.ldn 3 (.t 24)), (⟨some 7, .newc [.int .i64 0, .int .i64 0, .int .i64 0], none⟩, ⟨.s 3, []⟩), (⟨none, .st 3 (.t 7) (.t 25), none⟩, ⟨.n, []⟩)]) (.seq (.reg [u_ 26 (.mv (.t 1)), u_ 27 (.ldn 3 (.t 7)), u_ 28 (.call (.t 26) [.t 27]), u_ 29 (.un .not (.t 28))]) (.fin (.cond (.t 29) (.seq (.reg [u_ 30 (.mv (.t 0)), u_ 31 (.mv (.t 5)), u_ 32 (.ldn 3 (.t 7)), u_ 33 (.iad 3 (.t 30) (.t 31)), (⟨none, .st 3 (.t 33) (.t 32), none⟩, ⟨.n, []⟩)]) (.fin (.reg [u_ 34 (.mv (.t 5)), u_ 35 (.bin .add (.t 34) (.c (.int .i64 1))), u_ 5 (.mv (.t 35))]) [] [] [0, 1, 5, 6] [(0, 0)])) (.fin .skip [] [] [0, 1, 5, 6] [(0, 0)])) [] [] [0, 1, 5, 6] [(0, 0)])))) c_slices_DeleteFunc_api_Kid_api_Kid_0)
def c_slices_DeleteFunc_api_Kid_api_Kid_2 : PCode := .seq (.reg [u_ 36 (.mv (.t 0)), u_ 37 (.mv (.t 5)), (⟨some 38, .slc 3 (.t 36) (some (.t 37)) none none, none⟩, ⟨.s 3, []⟩), (⟨none, .clr 3 [.int .i64 0, .int .i64 0, .int .i64 0] (.t 38), none⟩, ⟨.n, []⟩)]) (.seq (.reg [u_ 39 (.mv (.t 0)), u_ 40 (.mv (.t 5)), (⟨some 41, .slc 3 (.t 39) none (some (.t 40)) none, none⟩, ⟨.n, [39]⟩), u_ 4 (.mv (.t 41))]) .ret)
def c_slices_DeleteFunc_api_Kid_api_Kid : PCode := .seq (.reg [u_ 4 (.mv (.c .nils))]) (.seq (.reg [u_ 8 (.mv (.t 0)), u_ 9 (.mv (.t 1)), (⟨some 10, .call (.c (.fn 98 [] [])) [.t 8, .t 9], none⟩, ⟨.l, []⟩), u_ 5 (.mv (.t 10))]) (.seq (.seq (.reg [u_ 11 (.mv (.t 5)), u_ 12 (.bin .eql (.t 11) (.c (.int .i64 (-1))))]) (.cond (.t 12) (.seq (.reg [u_ 13 (.mv (.t 0)), u_ 4 (.mv (.t 13))]) .ret) .skip)) (.seq (.seq (.reg [u_ 14 (.mv (.t 5)), u_ 15 (.bin .add (.t 14) (.c (.int .i64 1))), u_ 6 (.mv (.t 15))]) (.block 0 (.keep [0, 1, 5, 6] [(0, 0)] (.loop c_slices_DeleteFunc_api_Kid_api_Kid_1)))) c_slices_DeleteFunc_api_Kid_api_Kid_2)))
def pf_slices_DeleteFunc_api_Kid_api_Kid : PFn := ⟨42, [(0, 3)], c_slices_DeleteFunc_api_Kid_api_Kid, [.tmp 4], [.f 3]⟩
def c_kids_Prune_1 : PCode := .seq (.reg [(⟨some 2, .box (.t 0), none⟩, ⟨.s 3, []⟩), u_ 3 (.mv (.c (.bool false)))]) (.seq (.reg [u_ 4 (.ld (.t 1)), u_ 5 (.fad 2 (.t 2)), u_ 6 (.ld (.t 5)), u_ 7 (.bin .sub (.t 4) (.t 6)), u_ 8 (.bin .gtr (.t 7) (.c (.int .i64 20))), u_ 3 (.mv (.t 8))]) .ret)
def pf_kids_Prune_1 : PFn := ⟨9, [], c_kids_Prune_1, [.tmp 3], [.n]⟩
def c_kids_Drop_1 : PCode := .seq (.reg [(⟨some 2, .box (.t 0), none⟩, ⟨.s 3, []⟩), u_ 3 (.mv (.c (.bool false)))]) (.seq (.reg [u_ 4 (.fad 0 (.t 2)), u_ 5 (.ld (.t 4)), u_ 6 (.ld (.t 1)), u_ 7 (.bin .eql (.t 5) (.t 6)), u_ 3 (.mv (.t 7))]) .ret)
def pf_kids_Drop_1 : PFn := ⟨8, [], c_kids_Drop_1, [.tmp 3], [.n]⟩
def c_cmp_Compare_int : PCode := .seq (.reg [u_ 4 (.mv (.c (.int .i64 0)))]) (.seq (.reg [u_ 7 (.mv (.t 0)), u_ 8 (.call (.c (.fn 99 [] [])) [.t 7]), u_ 5 (.mv (.t 8))]) (.seq (.reg [u_ 9 (.mv (.t 1)), u_ 10 (.call (.c (.fn 99 [] [])) [.t 9]), u_ 6 (.mv (.t 10))]) (.seq (.seq (.reg [u_ 11 (.mv (.t 5))]) (.cond (.t 11) (.seq (.seq (.reg [u_ 12 (.mv (.t 6))]) (.cond (.t 12) (.seq (.reg [u_ 4 (.mv (.c (.int .i64 0)))]) .ret) .skip)) (.seq (.reg [u_ 4 (.mv (.c (.int .i64 (-1))))]) .ret)) .skip)) (.seq (.seq (.reg [u_ 13 (.mv (.t 6))]) (.cond (.t 13) (.seq (.reg [u_ 4 (.mv (.c (.int .i64 1)))]) .ret) .skip)) (.seq (.seq (.reg [u_ 14 (.mv (.t 0)), u_ 15 (.mv (.t 1)), u_ 16 (.bin .lss (.t 14) (.t 15))]) (.cond (.t 16) (.seq (.reg [u_ 4 (.mv (.c (.int .i64 (-1))))]) .ret) .skip)) (.seq (.seq (.reg [u_ 17 (.mv (.t 0)), u_ 18 (.mv (.t 1)), u_ 19 (.bin .gtr (.t 17) (.t 18))]) (.cond (.t 19) (.seq (.reg [u_ 4 (.mv (.c (.int .i64 1)))]) .ret) .skip)) (.seq (.reg [u_ 4 (.mv (.c (.int .i64 0)))]) .ret)))))))
def pf_cmp_Compare_int : PFn := ⟨20, [], c_cmp_Compare_int, [.tmp 4], [.n]⟩
def c_slices_BinarySearchFunc_api_Kid_api_Kid_int_0 : PCode := .seq (.seq (.reg [u_ 15 (.mv (.t 9)), u_ 16 (.mv (.t 10)), u_ 17 (.bin .lss (.t 15) (.t 16))]) (.cond (.t 17) .skip (.keep [0, 1, 2, 8, 9] [] (.exit 0)))) (.fin (.block 1 (.seq (.reg [u_ 18 (.mv (.t 9)), u_ 19 (.mv (.t 10)), u_ 20 (.bin .add (.t 18) (.t 19)), u_ 21 (.cvi .u64 (.t 20)), u_ 22 (.bin .shr (.t 21) (.c (.int .u64 1))), u_ 23 (.cvi .i64 (.t 22)), u_ 11 (.mv (.t 23))]) (.seq (.reg [u_ 24 (.mv (.t 2)), u_ 25 (.mv (.t 0)), u_ 26 (.mv (.t 11)), u_ 27 (.iad 3 (.t 25) (.t 26)), u_ 28 (.ldn 3 (.t 27)), u_ 29 (.mv (.t 1)), u_ 30 (.call (.t 24) [.t 28, .t 29]), u_ 31 (.bin .lss (.t 30) (.c (.int .i64 0)))]) (.fin (.cond (.t 31) (.fin (.reg [u_ 32 (.mv (.t 11)), u_ 33 (.bin .add (.t 32) (.c (.int .i64 1))), u_ 9 (.mv (.t 33))]) [] [] [0, 1, 2, 8, 9, 10] []) (.fin (.reg [u_ 34 (.mv (.t 11)), u_ 10 (.mv (.t 34))]) [] [] [0, 1, 2, 8, 9, 10] [])) [] [] [0, 1, 2, 8, 9, 10] [])))) [] [] [0, 1, 2, 8, 9, 10] [])
def c_slices_BinarySearchFunc_api_Kid_api_Kid_int_1 : PCode := .seq (.reg [u_ 35 (.mv (.t 9)), u_ 36 (.mv (.t 9)), u_ 37 (.mv (.t 8)), u_ 38 (.bin .lss (.t 36) (.t 37)), u_ 39 (.mv (.t 38)), (⟨some 40, .mv (.t 2), some (39, true)⟩, ⟨.n, []⟩), (⟨some 41, .mv (.t 0), some (39, true)⟩, ⟨.n, []⟩), (⟨some 42, .mv (.t 9), some (39, true)⟩, ⟨.n, []⟩), (⟨some 43, .iad 3 (.t 41) (.t 42), some (39, true)⟩, ⟨.n, []⟩), (⟨some 44, .ldn 3 (.t 43), some (39, true)⟩, ⟨.n, []⟩), (⟨some 45, .mv (.t 1), some (39, true)⟩, ⟨.n, []⟩), (⟨some 46, .call (.t 40) [.t 44, .t 45], some (39, true)⟩, ⟨.n, []⟩), (⟨some 47, .bin .eql (.t 46) (.c (.int .i64 0)), some (39, true)⟩, ⟨.n, []⟩), u_ 48 (.pick (.t 39) (.t 47) (.c (.bool false))), u_ 6 (.mv (.t 35)), u_ 7 (.mv (.t 48))]) .ret
def c_slices_BinarySearchFunc_api_Kid_api_Kid_int : PCode := .seq (.reg [u_ 6 (.mv (.c (.int .i64 0))), u_ 7 (.mv (.c (.bool false)))]) (.seq (.reg [u_ 12 (.mv (.t 0)), u_ 13 (.len (.t 12)), u_ 8 (.mv (.t 13))]) (.seq (.reg [u_ 14 (.mv (.t 8)), u_ 9 (.mv (.c (.int .i64 0))), u_ 10 (.mv (.t 14))]) (.seq (.block 0 (.keep [0, 1, 2, 8, 9, 10] [] (.loop c_slices_BinarySearchFunc_api_Kid_api_Kid_int_0))) c_slices_BinarySearchFunc_api_Kid_api_Kid_int_1)))
def pf_slices_BinarySearchFunc_api_Kid_api_Kid_int : PFn := ⟨49, [], c_slices_BinarySearchFunc_api_Kid_api_Kid_int, [.tmp 6, .tmp 7], [.n, .n]⟩
def c_kids_place_1 : PCode := .seq (.reg [(⟨some 2, .box (.t 0), none⟩, ⟨.s 3, []⟩), u_ 4 (.mv (.c (.int .i64 0)))]) (.seq (.reg [u_ 5 (.fad 0 (.t 2)), u_ 6 (.ld (.t 5)), u_ 7 (.mv (.t 1)), u_ 8 (.call (.c (.fn 85 [] [])) [.t 6, .t 7]), u_ 4 (.mv (.t 8))]) .ret)
def pf_kids_place_1 : PFn := ⟨9, [], c_kids_place_1, [.tmp 4], [.n]⟩
def c_slices_IndexFunc_api_Kid_api_Kid_0 : PCode := .seq (.reg [u_ 9 (.bin .lss (.t 8) (.t 7))]) (.seq (.cond (.t 9) .skip (.keep [] [] (.exit 0))) (.seq (.block 1 (.seq (.reg [u_ 10 (.mv (.t 8)), u_ 5 (.mv (.t 10))]) (.seq (.reg [u_ 11 (.mv (.t 1)), u_ 12 (.mv (.t 0)), u_ 13 (.mv (.t 5)), u_ 14 (.iad 3 (.t 12) (.t 13)), u_ 15 (.ldn 3 (.t 14)), u_ 16 (.call (.t 11) [.t 15])]) (.cond (.t 16) (.seq (.reg [u_ 17 (.mv (.t 5)), u_ 4 (.mv (.t 17))]) (.keep [4] [] .ret)) .skip)))) (.fin (.reg [u_ 18 (.bin .add (.t 8) (.c (.int .i64 1))), u_ 8 (.mv (.t 18))]) [] [] [0, 1, 7, 8] [])))
def c_slices_IndexFunc_api_Kid_api_Kid_1 : PCode := .seq (.reg [u_ 4 (.mv (.c (.int .i64 (-1))))]) .ret
def c_slices_IndexFunc_api_Kid_api_Kid : PCode := .seq (.reg [u_ 4 (.mv (.c (.int .i64 0)))]) (.seq (.seq (.reg [u_ 6 (.mv (.t 0)), u_ 7 (.len (.t 6)), u_ 8 (.mv (.c (.int .i64 0)))]) (.block 0 (.keep [0, 1, 7, 8] [] (.loop c_slices_IndexFunc_api_Kid_api_Kid_0)))) c_slices_IndexFunc_api_Kid_api_Kid_1)
def pf_slices_IndexFunc_api_Kid_api_Kid : PFn := ⟨19, [], c_slices_IndexFunc_api_Kid_api_Kid, [.tmp 4], [.n]⟩
def c_cmp_isNaN_int : PCode := .seq (.reg [u_ 2 (.mv (.c (.bool false)))]) (.seq (.reg [u_ 3 (.mv (.t 0)), u_ 4 (.mv (.t 0)), u_ 5 (.bin .neq (.t 3) (.t 4)), u_ 2 (.mv (.t 5))]) .ret)
def pf_cmp_isNaN_int : PFn := ⟨6, [], c_cmp_isNaN_int, [.tmp 2], [.n]⟩
set_option maxRecDepth 100000
def ac_pleachlaw6_begun : AFn := ⟨78, .seq (.reg [⟨some 0, .mv (.c (.bool false)), none⟩]) (.seq (.reg [⟨some 8, .build [.int (.i64) 0, .int (.i64) 0, .int (.i64) 0] [(0, 1, .c (.int (.i64) 3)), (1, 1, .c (.int (.i64) 2)), (2, 1, .c (.int (.i64) 1))], none⟩, ⟨some 9, .call (.c (.fn 48 [] [])) [.c (.nils), .t 8], none⟩, ⟨some 7, .mv (.t 9), none⟩, ⟨some 10, .ext (.t 7) 0, none⟩, ⟨some 11, .ext (.t 7) 1, none⟩, ⟨some 1, .mv (.t 10), none⟩, ⟨some 2, .mv (.t 11), none⟩]) (.seq (.reg [⟨some 13, .mv (.t 1), none⟩, ⟨some 14, .build [.int (.i64) 0, .int (.i64) 0, .int (.i64) 0] [(0, 1, .c (.int (.i64) 3)), (1, 1, .c (.int (.i64) 1)), (2, 1, .c (.int (.i64) 9))], none⟩, ⟨some 15, .call (.c (.fn 48 [] [])) [.t 13, .t 14], none⟩, ⟨some 12, .mv (.t 15), none⟩, ⟨some 16, .ext (.t 12) 0, none⟩, ⟨some 17, .ext (.t 12) 1, none⟩, ⟨some 3, .mv (.t 16), none⟩, ⟨some 4, .mv (.t 17), none⟩]) (.seq (.reg [⟨some 19, .mv (.t 1), none⟩, ⟨some 20, .call (.c (.fn 51 [] [])) [.t 19, .c (.int (.i64) 3)], none⟩, ⟨some 18, .mv (.t 20), none⟩, ⟨some 21, .ext (.t 18) 0, none⟩, ⟨some 22, .ext (.t 18) 1, none⟩, ⟨some 5, .newc [.int (.i64) 0, .int (.i64) 0, .int (.i64) 0], none⟩, ⟨none, .st 3 (.t 5) (.t 21), none⟩, ⟨some 6, .mv (.t 22), none⟩]) (.seq (.reg [⟨some 23, .mv (.t 2), none⟩, ⟨some 24, .mv (.t 23), none⟩, ⟨some 25, .mv (.t 1), some (24, true)⟩, ⟨some 26, .len (.t 25), some (24, true)⟩, ⟨some 27, .bin (.eql) (.t 26) (.c (.int (.i64) 1)), some (24, true)⟩, ⟨some 28, .pick (.t 24) (.t 27) (.c (.bool false)), none⟩, ⟨some 29, .mv (.t 28), none⟩, ⟨some 30, .mv (.t 4), some (29, true)⟩, ⟨some 31, .un (.not) (.t 30), some (29, true)⟩, ⟨some 32, .pick (.t 29) (.t 31) (.c (.bool false)), none⟩, ⟨some 33, .mv (.t 32), none⟩, ⟨some 34, .fad 1 (.t 5), some (33, true)⟩, ⟨some 35, .ld (.t 34), some (33, true)⟩, ⟨some 36, .bin (.eql) (.t 35) (.c (.int (.i64) 2)), some (33, true)⟩, ⟨some 37, .pick (.t 33) (.t 36) (.c (.bool false)), none⟩, ⟨some 38, .mv (.t 37), none⟩, ⟨some 39, .mv (.t 6), some (38, true)⟩, ⟨some 40, .pick (.t 38) (.t 39) (.c (.bool false)), none⟩, ⟨some 41, .mv (.t 40), none⟩, ⟨some 42, .mv (.t 1), some (41, true)⟩, ⟨some 43, .call (.c (.fn 53 [] [])) [.t 42, .c (.int (.i64) 3), .c (.int (.i64) 1)], some (41, true)⟩, ⟨some 44, .pick (.t 41) (.t 43) (.c (.bool false)), none⟩, ⟨some 45, .mv (.t 44), none⟩, ⟨some 46, .mv (.t 1), some (45, true)⟩, ⟨some 47, .call (.c (.fn 53 [] [])) [.t 46, .c (.int (.i64) 3), .c (.int (.i64) 2)], some (45, true)⟩, ⟨some 48, .un (.not) (.t 47), some (45, true)⟩, ⟨some 49, .pick (.t 45) (.t 48) (.c (.bool false)), none⟩, ⟨some 50, .mv (.t 49), none⟩, ⟨some 51, .mv (.t 1), some (50, true)⟩, ⟨some 52, .call (.c (.fn 54 [] [])) [.t 51, .c (.int (.i64) 3)], some (50, true)⟩, ⟨some 53, .len (.t 52), some (50, true)⟩, ⟨some 54, .bin (.eql) (.t 53) (.c (.int (.i64) 0)), some (50, true)⟩, ⟨some 55, .pick (.t 50) (.t 54) (.c (.bool false)), none⟩, ⟨some 56, .mv (.t 55), none⟩, ⟨some 57, .mv (.t 1), some (56, true)⟩, ⟨some 58, .call (.c (.fn 50 [] [])) [.t 57, .c (.int (.i64) 22)], some (56, true)⟩, ⟨some 59, .len (.t 58), some (56, true)⟩, ⟨some 60, .bin (.eql) (.t 59) (.c (.int (.i64) 0)), some (56, true)⟩, ⟨some 61, .pick (.t 56) (.t 60) (.c (.bool false)), none⟩, ⟨some 62, .mv (.t 61), none⟩, ⟨some 63, .mv (.t 1), some (62, true)⟩, ⟨some 64, .call (.c (.fn 50 [] [])) [.t 63, .c (.int (.i64) 21)], some (62, true)⟩, ⟨some 65, .len (.t 64), some (62, true)⟩, ⟨some 66, .bin (.eql) (.t 65) (.c (.int (.i64) 1)), some (62, true)⟩, ⟨some 67, .pick (.t 62) (.t 66) (.c (.bool false)), none⟩, ⟨some 68, .mv (.t 67), none⟩, ⟨some 69, .mv (.t 1), some (68, true)⟩, ⟨some 70, .call (.c (.fn 49 [] [])) [.t 69], some (68, true)⟩, ⟨some 71, .pick (.t 68) (.t 70) (.c (.bool false)), none⟩, ⟨some 72, .mv (.t 71), none⟩, ⟨some 73, .build [.int (.i64) 0, .int (.i64) 0, .int (.i64) 0] [], some (72, true)⟩, ⟨some 74, .bsl 3 [.int (.i64) 0, .int (.i64) 0, .int (.i64) 0] 1 [(0, 3, .t 73)], some (72, true)⟩, ⟨some 75, .call (.c (.fn 49 [] [])) [.t 74], some (72, true)⟩, ⟨some 76, .un (.not) (.t 75), some (72, true)⟩, ⟨some 77, .pick (.t 72) (.t 76) (.c (.bool false)), none⟩, ⟨some 0, .mv (.t 77), none⟩]) (.ret))))), [.tmp 0]⟩
def ac_slices_Clone_api_Kid_api_Kid : AFn := ⟨8, .seq (.reg [⟨some 2, .mv (.c (.nils)), none⟩]) (.seq (.seq (.reg [⟨some 3, .mv (.t 0), none⟩, ⟨some 4, .eqn false 0 (.t 3), none⟩]) (.cond (.t 4) (.seq (.reg [⟨some 2, .mv (.c (.nils)), none⟩]) (.ret)) (.skip))) (.seq (.reg [⟨some 5, .bsl 3 [.int (.i64) 0, .int (.i64) 0, .int (.i64) 0] 0 [], none⟩, ⟨some 6, .mv (.t 0), none⟩, ⟨some 7, .app 3 24 [.int (.i64) 0, .int (.i64) 0, .int (.i64) 0] (.t 5) (.t 6), none⟩, ⟨some 2, .mv (.t 7), none⟩]) (.ret))), [.tmp 2]⟩
theorem ok_pleachlaw6_KidsHeard : Callable Try.prog 12 ∧ ∃ fn, Try.prog.funcs[12]? = some fn ∧ dFn Try.prog fn = some (pf_pleachlaw6_KidsHeard.un) := ⟨⟨_, _, Try.func12, rfl, by kernel_rfl⟩, _, Try.func12, by kernel_rfl⟩
theorem go_pleachlaw6_KidsHeard : pf_pleachlaw6_KidsHeard.ok = true := by kernel_rfl
theorem ok_kids_Hear : Callable Try.prog 48 ∧ ∃ fn, Try.prog.funcs[48]? = some fn ∧ dFn Try.prog fn = some (pf_kids_Hear.un) := ⟨⟨_, _, Try.func48, rfl, by kernel_rfl⟩, _, Try.func48, by kernel_rfl⟩
theorem go_kids_Hear : pf_kids_Hear.ok = true := by kernel_rfl
theorem ok_kids_May : Callable Try.prog 49 ∧ ∃ fn, Try.prog.funcs[49]? = some fn ∧ dFn Try.prog fn = some (pf_kids_May.un) := ⟨⟨_, _, Try.func49, rfl, by kernel_rfl⟩, _, Try.func49, by kernel_rfl⟩
theorem go_kids_May : pf_kids_May.ok = true := by kernel_rfl
theorem ok_kids_Prune : Callable Try.prog 50 ∧ ∃ fn, Try.prog.funcs[50]? = some fn ∧ dFn Try.prog fn = some (pf_kids_Prune.un) := ⟨⟨_, _, Try.func50, rfl, by kernel_rfl⟩, _, Try.func50, by kernel_rfl⟩
theorem go_kids_Prune : pf_kids_Prune.ok = true := by kernel_rfl
theorem ok_kids_Find : Callable Try.prog 51 ∧ ∃ fn, Try.prog.funcs[51]? = some fn ∧ dFn Try.prog fn = some (pf_kids_Find.un) := ⟨⟨_, _, Try.func51, rfl, by kernel_rfl⟩, _, Try.func51, by kernel_rfl⟩
theorem go_kids_Find : pf_kids_Find.ok = true := by kernel_rfl
theorem ok_kids_Old : Callable Try.prog 53 ∧ ∃ fn, Try.prog.funcs[53]? = some fn ∧ dFn Try.prog fn = some (pf_kids_Old.un) := ⟨⟨_, _, Try.func53, rfl, by kernel_rfl⟩, _, Try.func53, by kernel_rfl⟩
theorem go_kids_Old : pf_kids_Old.ok = true := by kernel_rfl
theorem ok_kids_Drop : Callable Try.prog 54 ∧ ∃ fn, Try.prog.funcs[54]? = some fn ∧ dFn Try.prog fn = some (pf_kids_Drop.un) := ⟨⟨_, _, Try.func54, rfl, by kernel_rfl⟩, _, Try.func54, by kernel_rfl⟩
theorem go_kids_Drop : pf_kids_Drop.ok = true := by kernel_rfl
theorem ok_kids_place : Callable Try.prog 76 ∧ ∃ fn, Try.prog.funcs[76]? = some fn ∧ dFn Try.prog fn = some (pf_kids_place.un) := ⟨⟨_, _, Try.func76, rfl, by kernel_rfl⟩, _, Try.func76, by kernel_rfl⟩
theorem go_kids_place : pf_kids_place.ok = true := by kernel_rfl
theorem ok_slices_DeleteFunc_api_Kid_api_Kid : Callable Try.prog 78 ∧ ∃ fn, Try.prog.funcs[78]? = some fn ∧ dFn Try.prog fn = some (pf_slices_DeleteFunc_api_Kid_api_Kid.un) := ⟨⟨_, _, Try.func78, rfl, by kernel_rfl⟩, _, Try.func78, by kernel_rfl⟩
theorem go_slices_DeleteFunc_api_Kid_api_Kid : pf_slices_DeleteFunc_api_Kid_api_Kid.ok = true := by kernel_rfl
theorem ok_kids_Prune_1 : Callable Try.prog 79 ∧ ∃ fn, Try.prog.funcs[79]? = some fn ∧ dFn Try.prog fn = some (pf_kids_Prune_1.un) := ⟨⟨_, _, Try.func79, rfl, by kernel_rfl⟩, _, Try.func79, by kernel_rfl⟩
theorem go_kids_Prune_1 : pf_kids_Prune_1.ok = true := by kernel_rfl
theorem ok_kids_Drop_1 : Callable Try.prog 80 ∧ ∃ fn, Try.prog.funcs[80]? = some fn ∧ dFn Try.prog fn = some (pf_kids_Drop_1.un) := ⟨⟨_, _, Try.func80, rfl, by kernel_rfl⟩, _, Try.func80, by kernel_rfl⟩
theorem go_kids_Drop_1 : pf_kids_Drop_1.ok = true := by kernel_rfl
theorem ok_cmp_Compare_int : Callable Try.prog 85 ∧ ∃ fn, Try.prog.funcs[85]? = some fn ∧ dFn Try.prog fn = some (pf_cmp_Compare_int.un) := ⟨⟨_, _, Try.func85, rfl, by kernel_rfl⟩, _, Try.func85, by kernel_rfl⟩
theorem go_cmp_Compare_int : pf_cmp_Compare_int.ok = true := by kernel_rfl
theorem ok_slices_BinarySearchFunc_api_Kid_api_Kid_int : Callable Try.prog 94 ∧ ∃ fn, Try.prog.funcs[94]? = some fn ∧ dFn Try.prog fn = some (pf_slices_BinarySearchFunc_api_Kid_api_Kid_int.un) := ⟨⟨_, _, Try.func94, rfl, by kernel_rfl⟩, _, Try.func94, by kernel_rfl⟩
theorem go_slices_BinarySearchFunc_api_Kid_api_Kid_int : pf_slices_BinarySearchFunc_api_Kid_api_Kid_int.ok = true := by kernel_rfl
theorem ok_kids_place_1 : Callable Try.prog 95 ∧ ∃ fn, Try.prog.funcs[95]? = some fn ∧ dFn Try.prog fn = some (pf_kids_place_1.un) := ⟨⟨_, _, Try.func95, rfl, by kernel_rfl⟩, _, Try.func95, by kernel_rfl⟩
theorem go_kids_place_1 : pf_kids_place_1.ok = true := by kernel_rfl
theorem ok_slices_IndexFunc_api_Kid_api_Kid : Callable Try.prog 98 ∧ ∃ fn, Try.prog.funcs[98]? = some fn ∧ dFn Try.prog fn = some (pf_slices_IndexFunc_api_Kid_api_Kid.un) := ⟨⟨_, _, Try.func98, rfl, by kernel_rfl⟩, _, Try.func98, by kernel_rfl⟩
theorem go_slices_IndexFunc_api_Kid_api_Kid : pf_slices_IndexFunc_api_Kid_api_Kid.ok = true := by kernel_rfl
theorem ok_cmp_isNaN_int : Callable Try.prog 99 ∧ ∃ fn, Try.prog.funcs[99]? = some fn ∧ dFn Try.prog fn = some (pf_cmp_isNaN_int.un) := ⟨⟨_, _, Try.func99, rfl, by kernel_rfl⟩, _, Try.func99, by kernel_rfl⟩
theorem go_cmp_isNaN_int : pf_cmp_isNaN_int.ok = true := by kernel_rfl
theorem ok_slices_Clone_api_Kid_api_Kid : Callable Try.prog 75 ∧ ∃ fn, Try.prog.funcs[75]? = some fn ∧ dFn Try.prog fn = some (ac_slices_Clone_api_Kid_api_Kid) := ⟨⟨_, _, Try.func75, rfl, by kernel_rfl⟩, _, Try.func75, by kernel_rfl⟩
theorem ok_pleachlaw6_begun : Callable Try.prog 47 ∧ ∃ fn, Try.prog.funcs[47]? = some fn ∧ dFn Try.prog fn = some (ac_pleachlaw6_begun) := ⟨⟨_, _, Try.func47, rfl, by kernel_rfl⟩, _, Try.func47, by kernel_rfl⟩
def afns : Nat → Option AFn
  | 12 => some pf_pleachlaw6_KidsHeard.un
  | 48 => some pf_kids_Hear.un
  | 49 => some pf_kids_May.un
  | 50 => some pf_kids_Prune.un
  | 51 => some pf_kids_Find.un
  | 53 => some pf_kids_Old.un
  | 54 => some pf_kids_Drop.un
  | 76 => some pf_kids_place.un
  | 78 => some pf_slices_DeleteFunc_api_Kid_api_Kid.un
  | 79 => some pf_kids_Prune_1.un
  | 80 => some pf_kids_Drop_1.un
  | 85 => some pf_cmp_Compare_int.un
  | 94 => some pf_slices_BinarySearchFunc_api_Kid_api_Kid_int.un
  | 95 => some pf_kids_place_1.un
  | 98 => some pf_slices_IndexFunc_api_Kid_api_Kid.un
  | 99 => some pf_cmp_isNaN_int.un
  | 75 => some ac_slices_Clone_api_Kid_api_Kid
  | 47 => some ac_pleachlaw6_begun
  | _ => none
def pfns : Nat → Option PFn
  | 12 => some pf_pleachlaw6_KidsHeard
  | 48 => some pf_kids_Hear
  | 49 => some pf_kids_May
  | 50 => some pf_kids_Prune
  | 51 => some pf_kids_Find
  | 53 => some pf_kids_Old
  | 54 => some pf_kids_Drop
  | 76 => some pf_kids_place
  | 1000078 => some pf_slices_DeleteFunc_api_Kid_api_Kid
  | 79 => some pf_kids_Prune_1
  | 80 => some pf_kids_Drop_1
  | 85 => some pf_cmp_Compare_int
  | 94 => some pf_slices_BinarySearchFunc_api_Kid_api_Kid_int
  | 95 => some pf_kids_place_1
  | 98 => some pf_slices_IndexFunc_api_Kid_api_Kid
  | 99 => some pf_cmp_isNaN_int
  | _ => none
abbrev Specs := List (Nat × (List AV → AHeap → Option (AV × AHeap)))
def env (s : Specs) : Env := ⟨afns, fun f => s.lookup f⟩
def SpecsOk (s : Specs) : Prop := ∀ p ∈ s, SpecOk Try.prog p.1 p.2
theorem lookup_mem {s : Specs} {f : Nat} {g : List AV → AHeap → Option (AV × AHeap)} (h : s.lookup f = some g) : (f, g) ∈ s := by
  induction s with
  | nil => cases h
  | cons p l ih =>
    obtain ⟨a, b⟩ := p
    rw [List.lookup_cons] at h
    split at h
    · rename_i e
      obtain rfl := Option.some.inj h
      rw [eq_of_beq e]
      exact List.mem_cons_self
    · exact List.mem_cons_of_mem _ (ih h)
theorem ok_nil : SpecsOk [] := fun p h => by cases h
theorem ok_cons {n : Nat} {g : List AV → AHeap → Option (AV × AHeap)} {s : Specs} (h : SpecOk Try.prog n g) (hs : SpecsOk s) : SpecsOk ((n, g) :: s) := fun p hp => by
  rcases List.mem_cons.1 hp with rfl | hp
  · exact h
  · exact hs p hp
theorem envOk {s : Specs} (hs : SpecsOk s) : EnvOk Try.prog (env s) := by
  refine ⟨Try.checked.mixed, fun f af h => ?_, fun f g h => hs _ (lookup_mem h)⟩
  change afns f = some af at h
  unfold afns at h
  split at h
  · obtain rfl := Option.some.inj h; exact ok_pleachlaw6_KidsHeard
  · obtain rfl := Option.some.inj h; exact ok_kids_Hear
  · obtain rfl := Option.some.inj h; exact ok_kids_May
  · obtain rfl := Option.some.inj h; exact ok_kids_Prune
  · obtain rfl := Option.some.inj h; exact ok_kids_Find
  · obtain rfl := Option.some.inj h; exact ok_kids_Old
  · obtain rfl := Option.some.inj h; exact ok_kids_Drop
  · obtain rfl := Option.some.inj h; exact ok_kids_place
  · obtain rfl := Option.some.inj h; exact ok_slices_DeleteFunc_api_Kid_api_Kid
  · obtain rfl := Option.some.inj h; exact ok_kids_Prune_1
  · obtain rfl := Option.some.inj h; exact ok_kids_Drop_1
  · obtain rfl := Option.some.inj h; exact ok_cmp_Compare_int
  · obtain rfl := Option.some.inj h; exact ok_slices_BinarySearchFunc_api_Kid_api_Kid_int
  · obtain rfl := Option.some.inj h; exact ok_kids_place_1
  · obtain rfl := Option.some.inj h; exact ok_slices_IndexFunc_api_Kid_api_Kid
  · obtain rfl := Option.some.inj h; exact ok_cmp_isNaN_int
  · obtain rfl := Option.some.inj h; exact ok_slices_Clone_api_Kid_api_Kid
  · obtain rfl := Option.some.inj h; exact ok_pleachlaw6_begun
  · cases h
theorem fok (s : Specs) : FOk (env s) := by
  intro f af h
  change afns f = some af at h
  unfold afns at h
  split at h
  · obtain rfl := Option.some.inj h; kernel_rfl
  · obtain rfl := Option.some.inj h; kernel_rfl
  · obtain rfl := Option.some.inj h; kernel_rfl
  · obtain rfl := Option.some.inj h; kernel_rfl
  · obtain rfl := Option.some.inj h; kernel_rfl
  · obtain rfl := Option.some.inj h; kernel_rfl
  · obtain rfl := Option.some.inj h; kernel_rfl
  · obtain rfl := Option.some.inj h; kernel_rfl
  · obtain rfl := Option.some.inj h; kernel_rfl
  · obtain rfl := Option.some.inj h; kernel_rfl
  · obtain rfl := Option.some.inj h; kernel_rfl
  · obtain rfl := Option.some.inj h; kernel_rfl
  · obtain rfl := Option.some.inj h; kernel_rfl
  · obtain rfl := Option.some.inj h; kernel_rfl
  · obtain rfl := Option.some.inj h; kernel_rfl
  · obtain rfl := Option.some.inj h; kernel_rfl
  · obtain rfl := Option.some.inj h; kernel_rfl
  · obtain rfl := Option.some.inj h; kernel_rfl
  · cases h
abbrev PSpecs := List (Nat × (List AV → Option AV))
def penv (s : PSpecs) : PEnv := ⟨pfns, fun f => s.lookup f⟩
def bases : List Nat := [12, 48, 49, 50, 51, 53, 54, 76, 78, 79, 80, 85, 94, 95, 98, 99]
theorem penvOk {s : Specs} {p : PSpecs} (h0 : ∀ n ∈ bases, s.lookup n = none) (hp : ∀ q ∈ p, SpecOkP (env s) q.1 q.2) : PEnvOk (env s) (penv p) := by
  refine ⟨fun f fn h => ?_, fun f g h => ?_⟩
  · have hb := h0
    change pfns f = some fn at h
    unfold pfns at h
    split at h
    · obtain rfl := Option.some.inj h; exact ⟨go_pleachlaw6_KidsHeard, hb 12 (by simp [bases]), rfl, fun _ => rfl, fun h => absurd h (by decide)⟩
    · obtain rfl := Option.some.inj h; exact ⟨go_kids_Hear, hb 48 (by simp [bases]), rfl, fun _ => rfl, fun h => absurd h (by decide)⟩
    · obtain rfl := Option.some.inj h; exact ⟨go_kids_May, hb 49 (by simp [bases]), rfl, fun _ => rfl, fun h => absurd h (by decide)⟩
    · obtain rfl := Option.some.inj h; exact ⟨go_kids_Prune, hb 50 (by simp [bases]), rfl, fun _ => rfl, fun h => absurd h (by decide)⟩
    · obtain rfl := Option.some.inj h; exact ⟨go_kids_Find, hb 51 (by simp [bases]), rfl, fun _ => rfl, fun h => absurd h (by decide)⟩
    · obtain rfl := Option.some.inj h; exact ⟨go_kids_Old, hb 53 (by simp [bases]), rfl, fun _ => rfl, fun h => absurd h (by decide)⟩
    · obtain rfl := Option.some.inj h; exact ⟨go_kids_Drop, hb 54 (by simp [bases]), rfl, fun _ => rfl, fun h => absurd h (by decide)⟩
    · obtain rfl := Option.some.inj h; exact ⟨go_kids_place, hb 76 (by simp [bases]), rfl, fun _ => rfl, fun h => absurd h (by decide)⟩
    · obtain rfl := Option.some.inj h; exact ⟨go_slices_DeleteFunc_api_Kid_api_Kid, hb 78 (by simp [bases]), rfl, fun h => absurd h (by decide), fun _ => ⟨3, rfl⟩⟩
    · obtain rfl := Option.some.inj h; exact ⟨go_kids_Prune_1, hb 79 (by simp [bases]), rfl, fun _ => rfl, fun h => absurd h (by decide)⟩
    · obtain rfl := Option.some.inj h; exact ⟨go_kids_Drop_1, hb 80 (by simp [bases]), rfl, fun _ => rfl, fun h => absurd h (by decide)⟩
    · obtain rfl := Option.some.inj h; exact ⟨go_cmp_Compare_int, hb 85 (by simp [bases]), rfl, fun _ => rfl, fun h => absurd h (by decide)⟩
    · obtain rfl := Option.some.inj h; exact ⟨go_slices_BinarySearchFunc_api_Kid_api_Kid_int, hb 94 (by simp [bases]), rfl, fun _ => rfl, fun h => absurd h (by decide)⟩
    · obtain rfl := Option.some.inj h; exact ⟨go_kids_place_1, hb 95 (by simp [bases]), rfl, fun _ => rfl, fun h => absurd h (by decide)⟩
    · obtain rfl := Option.some.inj h; exact ⟨go_slices_IndexFunc_api_Kid_api_Kid, hb 98 (by simp [bases]), rfl, fun _ => rfl, fun h => absurd h (by decide)⟩
    · obtain rfl := Option.some.inj h; exact ⟨go_cmp_isNaN_int, hb 99 (by simp [bases]), rfl, fun _ => rfl, fun h => absurd h (by decide)⟩
    · cases h
  · have : ∀ (p : PSpecs), (∀ q ∈ p, SpecOkP (env s) q.1 q.2) → p.lookup f = some g → SpecOkP (env s) f g := by
      intro p
      induction p with
      | nil => intro _ h; cases h
      | cons a l ih =>
        intro hq h
        obtain ⟨a, b⟩ := a
        rw [List.lookup_cons] at h
        split at h
        · rename_i e
          obtain rfl := Option.some.inj h
          rw [eq_of_beq e]
          exact hq _ List.mem_cons_self
        · exact ih (fun q hm => hq q (List.mem_cons_of_mem _ hm)) h
    exact this p hp h
theorem clone_slices_Clone_api_Kid_api_Kid {s : Specs} (h : s.lookup 75 = none) : SpecOkP (env s) 75 (gClone 3 24) := clone_ok (env s) (zero := [.int .i64 0, .int .i64 0, .int .i64 0]) (f := 75) h rfl (by decide) rfl
end Go.Proofs.Ytccgolmdhikdoaa.Pk
