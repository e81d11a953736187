/- The functions that NetMade reach, digested for the evaluator by values; that they are the program's. Printed by mkpv.py of this repo. -/
import Derived.Test.YtldehmfhgmmkhaaChecked
import Derived.Test.YtldehmfhgmmkhaaPvE
import Derived.KernelRfl
namespace Go.Proofs.Ytldehmfhgmmkhaa.Pn
open Go.Ab
abbrev u_ (t : Nat) (o : AOp) : AOper × PM := (⟨some t, o, none⟩, ⟨.n, []⟩)
def c_pleachlaw13_NetMade_0 : PCode := .fin (.cond (.t 57) (.seq (.reg [u_ 61 (.mv (.t 5)), u_ 62 (.bin .rem (.t 61) (.c (.int .i64 26))), u_ 63 (.cvi .u8 (.t 62)), u_ 64 (.bin .add (.c (.int .u8 97)) (.t 63)), u_ 65 (.mv (.t 5)), u_ 66 (.bin .quo (.t 65) (.c (.int .i64 26))), u_ 67 (.cvi .u8 (.t 66)), u_ 68 (.bin .add (.c (.int .u8 97)) (.t 67)), (⟨some 69, .bsl 1 [.int .u8 0] 3 [(0, 1, .t 64), (1, 1, .t 68), (2, 1, .c (.int .u8 122))], none⟩, ⟨.f, []⟩), u_ 70 (.b2s (.t 69)), u_ 71 (.build [.int .i64 0, .str [], .bool false] [(0, 1, .c (.int .i64 2)), (1, 1, .t 70)]), (⟨some 7, .newc [.int .i64 0, .str [], .bool false], none⟩, ⟨.s 3, []⟩), (⟨none, .st 3 (.t 7) (.t 71), none⟩, ⟨.n, []⟩)]) (.seq (.reg [u_ 72 (.mv (.t 3)), u_ 73 (.len (.t 72)), u_ 8 (.mv (.t 73))]) (.seq (.dreg 1 [((⟨some 74, .mv (.t 3), none⟩, .q), ⟨.n, []⟩), ((⟨some 75, .ldn 3 (.t 7), none⟩, .q), ⟨.n, []⟩), ((⟨some 77, .mv (.t 4), none⟩, .q), ⟨.n, []⟩), ((⟨some 78, .ldn 3 (.t 7), none⟩, .q), ⟨.n, []⟩), ((⟨some 79, .bsl 3 [.int .i64 0, .str [], .bool false] 1 [(0, 3, .t 78)], none⟩, .al 0), ⟨.f, []⟩), ((⟨some 76, .call (.c (.fn 29 [] [])) [.t 74, .t 75], none⟩, .ef [3, 4]), ⟨.n, []⟩), ((⟨some 80, .app 3 32 [.int .i64 0, .str [], .bool false] (.t 77) (.t 79), none⟩, .ef [1, 3]), ⟨.s 3, []⟩), ((⟨some 3, .mv (.t 76), none⟩, .q), ⟨.n, []⟩), ((⟨some 4, .mv (.t 80), none⟩, .q), ⟨.n, []⟩)]) (.seq (.reg [u_ 81 (.mv (.t 3)), u_ 82 (.len (.t 81)), u_ 83 (.mv (.t 8)), u_ 84 (.bin .add (.t 83) (.c (.int .i64 1))), u_ 85 (.mni [.t 84, .c (.int .i64 60)]), u_ 86 (.bin .neq (.t 82) (.t 85))]) (.fin (.cond (.t 86) (.seq (.reg [u_ 2 (.mv (.c (.bool false)))]) (.keep [2] [] .ret)) .skip) [] [] [0, 3, 4, 5] [(4, 4)]))))) (.seq (.reg [u_ 88 (.bin .eql (.t 36) (.c (.int .u8 3))), u_ 87 (.mv (.t 88))]) (.fin (.cond (.t 87) (.fin (.reg [u_ 90 (.mv (.t 3)), u_ 91 (.mv (.t 6)), u_ 92 (.call (.c (.fn 31 [] [])) [.t 90, .t 91]), u_ 89 (.mv (.t 92)), u_ 93 (.ext (.t 89) 0), u_ 94 (.ext (.t 89) 1), u_ 95 (.ext (.t 89) 2), u_ 3 (.mv (.t 93))]) [] [] [0, 3, 4, 5] [(4, 4)]) (.seq (.reg [u_ 97 (.bin .eql (.t 36) (.c (.int .u8 4))), u_ 96 (.mv (.t 97))]) (.fin (.cond (.t 96) (.fin (.reg [u_ 99 (.mv (.t 3)), u_ 100 (.mv (.t 6)), u_ 101 (.call (.c (.fn 33 [] [])) [.t 99, .t 100]), u_ 98 (.mv (.t 101)), u_ 102 (.ext (.t 98) 0), u_ 103 (.ext (.t 98) 1), u_ 3 (.mv (.t 102))]) [] [] [0, 3, 4, 5] [(4, 4)]) (.seq (.reg [u_ 105 (.bin .eql (.t 36) (.c (.int .u8 5))), u_ 104 (.mv (.t 105))]) (.fin (.cond (.t 104) (.fin (.reg [u_ 107 (.mv (.t 3)), u_ 108 (.mv (.t 6)), u_ 109 (.call (.c (.fn 34 [] [])) [.t 107, .t 108]), u_ 106 (.mv (.t 109)), u_ 110 (.ext (.t 106) 0), u_ 111 (.ext (.t 106) 1), u_ 3 (.mv (.t 110))]) [] [] [0, 3, 4, 5] [(4, 4)]) (.fin (.dreg 0 [((⟨some 38, .mv (.t 3), none⟩, .q), ⟨.n, []⟩), ((⟨some 39, .mv (.t 6), none⟩, .q), ⟨.n, []⟩), ((⟨some 40, .mv (.t 0), none⟩, .q), ⟨.n, []⟩), ((⟨some 41, .mv (.t 5), none⟩, .q), ⟨.n, []⟩), ((⟨some 42, .iad 4 (.t 40) (.t 41), none⟩, .q), ⟨.n, []⟩), ((⟨some 43, .iaa 4 1 (.t 42) (.c (.int .i64 2)), none⟩, .q), ⟨.n, []⟩), ((⟨some 44, .ld (.t 43), none⟩, .q), ⟨.n, []⟩), ((⟨some 45, .cvi .i64 (.t 44), none⟩, .q), ⟨.n, []⟩), ((⟨some 46, .bin .mul (.t 45) (.c (.int .i64 256)), none⟩, .q), ⟨.n, []⟩), ((⟨some 47, .mv (.t 0), none⟩, .q), ⟨.n, []⟩), ((⟨some 48, .mv (.t 5), none⟩, .q), ⟨.n, []⟩), ((⟨some 49, .iad 4 (.t 47) (.t 48), none⟩, .q), ⟨.n, []⟩), ((⟨some 50, .iaa 4 1 (.t 49) (.c (.int .i64 3)), none⟩, .q), ⟨.n, []⟩), ((⟨some 51, .ld (.t 50), none⟩, .q), ⟨.n, []⟩), ((⟨some 52, .cvi .i64 (.t 51), none⟩, .q), ⟨.n, []⟩), ((⟨some 53, .bin .add (.t 46) (.t 52), none⟩, .q), ⟨.n, []⟩), ((⟨some 54, .call (.c (.fn 36 [] [])) [.t 38, .t 39, .t 53], none⟩, .ef [6, 13]), ⟨.n, []⟩), ((⟨some 37, .mv (.t 54), none⟩, .q), ⟨.n, []⟩), ((⟨some 55, .ext (.t 37) 0, none⟩, .q), ⟨.n, []⟩), ((⟨some 56, .ext (.t 37) 1, none⟩, .q), ⟨.n, []⟩), ((⟨some 3, .mv (.t 55), none⟩, .q), ⟨.n, []⟩)]) [] [] [0, 3, 4, 5] [(4, 4)])) [] [] [0, 3, 4, 5] [(4, 4)]))) [] [] [0, 3, 4, 5] [(4, 4)]))) [] [] [0, 3, 4, 5] [(4, 4)]))) [] [] [0, 3, 4, 5] [(4, 4)]
def c_pleachlaw13_NetMade_1 : PCode := .seq (.seq (.reg [u_ 126 (.mv (.t 12)), u_ 127 (.mv (.t 4)), u_ 128 (.len (.t 127)), u_ 129 (.bin .lss (.t 126) (.t 128))]) (.cond (.t 129) .skip (.keep [0, 3, 4, 5, 9, 10] [(4, 4)] (.exit 5)))) (.seq (.block 6 (.dreg 0 [((⟨some 132, .mv (.t 10), none⟩, .q), ⟨.n, []⟩), ((⟨some 133, .mv (.t 132), none⟩, .q), ⟨.n, []⟩), ((⟨some 134, .mv (.t 3), some (133, false)⟩, .q), ⟨.n, []⟩), ((⟨some 135, .mv (.t 9), some (133, false)⟩, .q), ⟨.n, []⟩), ((⟨some 136, .iad 3 (.t 134) (.t 135), some (133, false)⟩, .q), ⟨.n, []⟩), ((⟨some 137, .fad 1 (.t 136), some (133, false)⟩, .q), ⟨.n, []⟩), ((⟨some 138, .ld (.t 137), some (133, false)⟩, .q), ⟨.n, []⟩), ((⟨some 139, .mv (.t 4), some (133, false)⟩, .q), ⟨.n, []⟩), ((⟨some 140, .mv (.t 12), some (133, false)⟩, .q), ⟨.n, []⟩), ((⟨some 141, .iad 3 (.t 139) (.t 140), some (133, false)⟩, .q), ⟨.n, []⟩), ((⟨some 142, .fad 1 (.t 141), some (133, false)⟩, .q), ⟨.n, []⟩), ((⟨some 143, .ld (.t 142), some (133, false)⟩, .q), ⟨.n, []⟩), ((⟨some 145, .mv (.t 11), some (133, false)⟩, .q), ⟨.n, []⟩), ((⟨some 144, .call (.c (.fn 39 [] [])) [.t 138, .t 143], some (133, false)⟩, .ef []), ⟨.n, []⟩), ((⟨some 146, .bin .eql (.t 144) (.t 145), some (133, false)⟩, .q), ⟨.n, []⟩), ((⟨some 147, .mv (.t 146), some (133, false)⟩, .q), ⟨.n, []⟩), ((⟨some 148, .mv (.t 3), some (147, true)⟩, .q), ⟨.n, []⟩), ((⟨some 149, .mv (.t 9), some (147, true)⟩, .q), ⟨.n, []⟩), ((⟨some 150, .iad 3 (.t 148) (.t 149), some (147, true)⟩, .q), ⟨.n, []⟩), ((⟨some 151, .fad 0 (.t 150), some (147, true)⟩, .q), ⟨.n, []⟩), ((⟨some 152, .ld (.t 151), some (147, true)⟩, .q), ⟨.n, []⟩), ((⟨some 153, .bin .eql (.t 152) (.c (.int .i64 2)), some (147, true)⟩, .q), ⟨.n, []⟩), ((⟨some 154, .pick (.t 147) (.t 153) (.c (.bool false)), some (133, false)⟩, .q), ⟨.n, []⟩), ((⟨some 155, .pick (.t 133) (.c (.bool true)) (.t 154), none⟩, .q), ⟨.n, []⟩), ((⟨some 10, .mv (.t 155), none⟩, .q), ⟨.n, []⟩)])) (.fin (.reg [u_ 130 (.mv (.t 12)), u_ 131 (.bin .add (.t 130) (.c (.int .i64 1))), u_ 12 (.mv (.t 131))]) [] [] [0, 3, 4, 5, 9, 10, 11, 12] [(4, 4)]))
def c_pleachlaw13_NetMade_2 : PCode := .seq (.reg [u_ 156 (.mv (.t 10)), u_ 157 (.un .not (.t 156))]) (.fin (.cond (.t 157) (.seq (.reg [u_ 2 (.mv (.c (.bool false)))]) (.keep [2] [] .ret)) .skip) [] [] [0, 3, 4, 5, 9] [(4, 4)])
def c_pleachlaw13_NetMade_3 : PCode := .seq (.seq (.reg [u_ 12 (.mv (.c (.int .i64 0)))]) (.block 5 (.keep [0, 3, 4, 5, 9, 10, 11, 12] [(4, 4)] (.loop c_pleachlaw13_NetMade_1)))) c_pleachlaw13_NetMade_2
def c_pleachlaw13_NetMade_4 : PCode := .fin (.reg [u_ 119 (.mv (.t 9)), u_ 120 (.bin .add (.t 119) (.c (.int .i64 1))), u_ 9 (.mv (.t 120))]) [] [] [0, 3, 4, 5, 9] [(4, 4)]
def c_pleachlaw13_NetMade_5 : PCode := .seq (.seq (.reg [u_ 115 (.mv (.t 9)), u_ 116 (.mv (.t 3)), u_ 117 (.len (.t 116)), u_ 118 (.bin .lss (.t 115) (.t 117))]) (.cond (.t 118) .skip (.keep [0, 3, 4, 5] [(4, 4)] (.exit 3)))) (.seq (.block 4 (.seq (.reg [u_ 10 (.mv (.c (.bool false))), u_ 11 (.mv (.c (.int .i64 0)))]) (.seq (.seq (.reg [u_ 121 (.mv (.t 3)), u_ 122 (.mv (.t 9)), u_ 123 (.iad 3 (.t 121) (.t 122)), u_ 124 (.fad 2 (.t 123)), u_ 125 (.ld (.t 124))]) (.cond (.t 125) (.fin (.reg [u_ 11 (.mv (.c (.int .i64 1)))]) [] [] [0, 3, 4, 5, 9, 10, 11] [(4, 4)]) (.fin .skip [] [] [0, 3, 4, 5, 9, 10, 11] [(4, 4)]))) c_pleachlaw13_NetMade_3))) c_pleachlaw13_NetMade_4)
def c_pleachlaw13_NetMade_6 : PCode := .seq (.seq (.reg [u_ 112 (.mv (.t 3)), u_ 113 (.len (.t 112)), u_ 114 (.bin .gtr (.t 113) (.c (.int .i64 60)))]) (.cond (.t 114) (.seq (.reg [u_ 2 (.mv (.c (.bool false)))]) (.keep [2] [] .ret)) .skip)) (.seq (.reg [u_ 9 (.mv (.c (.int .i64 0)))]) (.fin (.block 3 (.keep [0, 3, 4, 5, 9] [(4, 4)] (.loop c_pleachlaw13_NetMade_5))) [] [] [0, 3, 4, 5] [(4, 4)]))
def c_pleachlaw13_NetMade_7 : PCode := .fin (.reg [u_ 22 (.mv (.t 5)), u_ 23 (.bin .add (.t 22) (.c (.int .i64 1))), u_ 5 (.mv (.t 23))]) [] [] [0, 3, 4, 5] [(4, 4)]
def c_pleachlaw13_NetMade_8 : PCode := .seq (.seq (.reg [u_ 18 (.mv (.t 5)), u_ 19 (.mv (.t 0)), u_ 20 (.len (.t 19)), u_ 21 (.bin .lss (.t 18) (.t 20))]) (.cond (.t 21) .skip (.keep [] [] (.exit 0)))) (.seq (.block 1 (.seq (.reg [u_ 24 (.mv (.t 0)), u_ 25 (.mv (.t 5)), u_ 26 (.iad 4 (.t 24) (.t 25)), u_ 27 (.iaa 4 1 (.t 26) (.c (.int .i64 1))), u_ 28 (.ld (.t 27)), u_ 29 (.cvi .i64 (.t 28)), u_ 30 (.bin .rem (.t 29) (.c (.int .i64 24))), u_ 6 (.mv (.t 30))]) (.seq (.seq (.reg [u_ 31 (.mv (.t 0)), u_ 32 (.mv (.t 5)), u_ 33 (.iad 4 (.t 31) (.t 32)), u_ 34 (.iaa 4 1 (.t 33) (.c (.int .i64 0))), u_ 35 (.ld (.t 34)), u_ 36 (.bin .rem (.t 35) (.c (.int .u8 7)))]) (.block 2 (.seq (.seq (.reg [u_ 58 (.bin .eql (.t 36) (.c (.int .u8 0))), u_ 57 (.mv (.t 58))]) (.cond (.t 57) (.fin .skip [] [] [0, 3, 4, 5, 6, 36, 57] [(4, 4)]) (.seq (.reg [u_ 59 (.bin .eql (.t 36) (.c (.int .u8 1))), u_ 57 (.mv (.t 59))]) (.fin (.cond (.t 57) (.fin .skip [] [] [0, 3, 4, 5, 6, 36, 57] [(4, 4)]) (.fin (.reg [u_ 60 (.bin .eql (.t 36) (.c (.int .u8 2))), u_ 57 (.mv (.t 60))]) [] [] [0, 3, 4, 5, 6, 36, 57] [(4, 4)])) [] [] [0, 3, 4, 5, 6, 36, 57] [(4, 4)])))) c_pleachlaw13_NetMade_0))) c_pleachlaw13_NetMade_6))) c_pleachlaw13_NetMade_7)
def c_pleachlaw13_NetMade_9 : PCode := .seq (.reg [u_ 2 (.mv (.c (.bool true)))]) .ret
def c_pleachlaw13_NetMade : PCode := .seq (.reg [u_ 2 (.mv (.c (.bool false)))]) (.seq (.seq (.reg [u_ 13 (.call (.c (.fn 28 [] [])) []), u_ 14 (.un .not (.t 13))]) (.cond (.t 14) (.seq (.reg [u_ 2 (.mv (.c (.bool false)))]) .ret) .skip)) (.seq (.seq (.reg [u_ 15 (.mv (.t 0)), u_ 16 (.len (.t 15)), u_ 17 (.bin .gtr (.t 16) (.c (.int .i64 80)))]) (.cond (.t 17) (.seq (.reg [u_ 2 (.mv (.c (.bool true)))]) .ret) .skip)) (.seq (.reg [u_ 3 (.mv (.c .nils)), u_ 4 (.mv (.c .nils))]) (.seq (.seq (.reg [u_ 5 (.mv (.c (.int .i64 0)))]) (.block 0 (.own 4 3 (.keep [0, 3, 4, 5] [(4, 4)] (.loop c_pleachlaw13_NetMade_8))))) c_pleachlaw13_NetMade_9))))
def pf_pleachlaw13_NetMade : PFn := ⟨158, [], c_pleachlaw13_NetMade, [.tmp 2], [.n]⟩
def c_net_Send : PCode := .seq (.reg [(⟨some 3, .box (.t 1), none⟩, ⟨.s 3, []⟩), u_ 4 (.mv (.c .nils))]) (.seq (.reg [u_ 5 (.mv (.t 0)), (⟨some 6, .call (.c (.fn 58 [] [])) [.t 5], none⟩, ⟨.s 3, []⟩), u_ 0 (.mv (.t 6))]) (.seq (.seq (.reg [u_ 7 (.mv (.t 0)), u_ 8 (.len (.t 7)), u_ 9 (.bin .geq (.t 8) (.c (.int .i64 60)))]) (.cond (.t 9) (.seq (.reg [u_ 10 (.mv (.t 0)), u_ 4 (.mv (.t 10))]) .ret) .skip)) (.seq (.reg [u_ 11 (.mv (.t 0)), u_ 12 (.ldn 3 (.t 3)), (⟨some 13, .bsl 3 [.int .i64 0, .str [], .bool false] 1 [(0, 3, .t 12)], none⟩, ⟨.f, []⟩), (⟨some 14, .app 3 32 [.int .i64 0, .str [], .bool false] (.t 11) (.t 13), none⟩, ⟨.s 3, []⟩), u_ 4 (.mv (.t 14))]) .ret)))
def pf_net_Send : PFn := ⟨15, [], c_net_Send, [.tmp 4], [.o 3]⟩
def c_net_Comes : PCode := .seq (.reg [u_ 4 (.mv (.c .nils)), (⟨some 5, .newc [.int .i64 0, .str [], .bool false], none⟩, ⟨.s 3, []⟩), u_ 6 (.mv (.c (.bool false)))]) (.seq (.reg [u_ 8 (.mv (.t 0)), (⟨some 9, .call (.c (.fn 58 [] [])) [.t 8], none⟩, ⟨.s 3, []⟩), u_ 0 (.mv (.t 9))]) (.seq (.seq (.reg [u_ 10 (.mv (.t 0)), u_ 11 (.mv (.t 1)), (⟨some 12, .call (.c (.fn 59 [] [])) [.t 10, .t 11], none⟩, ⟨.l, []⟩), u_ 13 (.un .not (.t 12))]) (.cond (.t 13) (.seq (.reg [u_ 14 (.mv (.t 0)), u_ 15 (.build [.int .i64 0, .str [], .bool false] []), u_ 4 (.mv (.t 14)), (⟨none, .st 3 (.t 5) (.t 15), none⟩, ⟨.n, []⟩), u_ 6 (.mv (.c (.bool false)))]) .ret) .skip)) (.seq (.reg [u_ 16 (.mv (.t 0)), u_ 17 (.mv (.t 1)), u_ 18 (.iad 3 (.t 16) (.t 17)), u_ 19 (.ldn 3 (.t 18)), (⟨some 7, .newc [.int .i64 0, .str [], .bool false], none⟩, ⟨.s 3, []⟩), (⟨none, .st 3 (.t 7) (.t 19), none⟩, ⟨.n, []⟩)]) (.seq (.dreg 0 [((⟨some 20, .mv (.t 0), none⟩, .q), ⟨.n, []⟩), ((⟨some 21, .mv (.t 1), none⟩, .q), ⟨.n, []⟩), ((⟨some 22, .mv (.t 1), none⟩, .q), ⟨.n, []⟩), ((⟨some 23, .bin .add (.t 22) (.c (.int .i64 1)), none⟩, .q), ⟨.n, []⟩), ((⟨some 25, .ldn 3 (.t 7), none⟩, .q), ⟨.n, []⟩), ((⟨some 24, .call (.c (.fn 60 [] [])) [.t 20, .t 21, .t 23], none⟩, .ef [4]), ⟨.t 3, []⟩), ((⟨some 4, .mv (.t 24), none⟩, .q), ⟨.n, []⟩), ((⟨none, .st 3 (.t 5) (.t 25), none⟩, .ef []), ⟨.n, []⟩), ((⟨some 6, .mv (.c (.bool true)), none⟩, .q), ⟨.n, []⟩)]) .ret))))
def pf_net_Comes : PFn := ⟨26, [], c_net_Comes, [.tmp 4, .cell 5 (some 3), .tmp 6], [.f 3, .n, .n]⟩
def c_net_Lost : PCode := .seq (.reg [u_ 4 (.mv (.c .nils)), u_ 5 (.mv (.c (.bool false)))]) (.seq (.reg [u_ 9 (.mv (.t 0)), u_ 10 (.mv (.t 1)), u_ 11 (.call (.c (.fn 31 [] [])) [.t 9, .t 10]), u_ 8 (.mv (.t 11)), u_ 12 (.ext (.t 8) 0), u_ 13 (.ext (.t 8) 1), u_ 14 (.ext (.t 8) 2), (⟨some 6, .newc [.int .i64 0, .str [], .bool false], none⟩, ⟨.s 3, []⟩), u_ 0 (.mv (.t 12)), (⟨none, .st 3 (.t 6) (.t 13), none⟩, ⟨.n, []⟩), u_ 7 (.mv (.t 14))]) (.seq (.reg [u_ 15 (.mv (.t 0)), u_ 16 (.mv (.t 7)), u_ 4 (.mv (.t 15)), u_ 5 (.mv (.t 16))]) .ret))
def pf_net_Lost : PFn := ⟨17, [], c_net_Lost, [.tmp 4, .tmp 5], [.f 3, .n]⟩
def c_net_Twice : PCode := .seq (.reg [u_ 4 (.mv (.c .nils)), u_ 5 (.mv (.c (.bool false)))]) (.seq (.seq (.reg [u_ 6 (.mv (.t 0)), u_ 7 (.mv (.t 1)), u_ 8 (.call (.c (.fn 59 [] [])) [.t 6, .t 7]), u_ 9 (.un .not (.t 8)), u_ 10 (.mv (.t 9)), (⟨some 11, .mv (.t 0), some (10, false)⟩, ⟨.n, []⟩), (⟨some 12, .len (.t 11), some (10, false)⟩, ⟨.n, []⟩), (⟨some 13, .bin .geq (.t 12) (.c (.int .i64 60)), some (10, false)⟩, ⟨.n, []⟩), u_ 14 (.pick (.t 10) (.c (.bool true)) (.t 13))]) (.cond (.t 14) (.seq (.reg [u_ 15 (.mv (.t 0)), u_ 16 (.call (.c (.fn 58 [] [])) [.t 15]), u_ 4 (.mv (.t 16)), u_ 5 (.mv (.c (.bool false)))]) .ret) .skip)) (.seq (.reg [u_ 17 (.mv (.t 0)), u_ 18 (.mv (.t 0)), u_ 19 (.mv (.t 1)), u_ 20 (.iad 3 (.t 18) (.t 19)), u_ 21 (.ldn 3 (.t 20)), u_ 22 (.call (.c (.fn 29 [] [])) [.t 17, .t 21]), u_ 4 (.mv (.t 22)), u_ 5 (.mv (.c (.bool true)))]) .ret))
def pf_net_Twice : PFn := ⟨23, [], c_net_Twice, [.tmp 4, .tmp 5], [.f 3, .n]⟩
def c_net_Turned : PCode := .seq (.reg [u_ 6 (.mv (.c .nils)), u_ 7 (.mv (.c (.bool false)))]) (.seq (.reg [u_ 9 (.mv (.t 0)), (⟨some 10, .call (.c (.fn 58 [] [])) [.t 9], none⟩, ⟨.s 3, []⟩), u_ 0 (.mv (.t 10))]) (.seq (.seq (.reg [u_ 11 (.mv (.t 0)), u_ 12 (.mv (.t 1)), (⟨some 13, .call (.c (.fn 59 [] [])) [.t 11, .t 12], none⟩, ⟨.l, []⟩), u_ 14 (.un .not (.t 13)), u_ 15 (.mv (.t 14)), (⟨some 16, .mv (.t 0), some (15, false)⟩, ⟨.n, []⟩), (⟨some 17, .mv (.t 1), some (15, false)⟩, ⟨.n, []⟩), (⟨some 18, .iad 3 (.t 16) (.t 17), some (15, false)⟩, ⟨.n, []⟩), (⟨some 19, .fad 2 (.t 18), some (15, false)⟩, ⟨.n, []⟩), (⟨some 20, .ld (.t 19), some (15, false)⟩, ⟨.n, []⟩), u_ 21 (.pick (.t 15) (.c (.bool true)) (.t 20)), u_ 22 (.mv (.t 21)), (⟨some 23, .mv (.t 0), some (22, false)⟩, ⟨.n, []⟩), (⟨some 24, .mv (.t 1), some (22, false)⟩, ⟨.n, []⟩), (⟨some 25, .iad 3 (.t 23) (.t 24), some (22, false)⟩, ⟨.n, []⟩), (⟨some 26, .fad 1 (.t 25), some (22, false)⟩, ⟨.n, []⟩), (⟨some 27, .ld (.t 26), some (22, false)⟩, ⟨.n, []⟩), (⟨some 28, .bin .eql (.t 27) (.c (.str [])), some (22, false)⟩, ⟨.n, []⟩), u_ 29 (.pick (.t 22) (.c (.bool true)) (.t 28)), u_ 30 (.mv (.t 29)), (⟨some 31, .mv (.t 2), some (30, false)⟩, ⟨.n, []⟩), (⟨some 32, .bin .lss (.t 31) (.c (.int .i64 0)), some (30, false)⟩, ⟨.n, []⟩), u_ 33 (.pick (.t 30) (.c (.bool true)) (.t 32)), u_ 34 (.mv (.t 33)), (⟨some 35, .mv (.t 2), some (34, false)⟩, ⟨.n, []⟩), (⟨some 36, .bin .rem (.t 35) (.c (.int .i64 256)), some (34, false)⟩, ⟨.n, []⟩), (⟨some 37, .bin .eql (.t 36) (.c (.int .i64 0)), some (34, false)⟩, ⟨.n, []⟩), u_ 38 (.pick (.t 34) (.c (.bool true)) (.t 37))]) (.cond (.t 38) (.seq (.reg [u_ 39 (.mv (.t 0)), u_ 6 (.mv (.t 39)), u_ 7 (.mv (.c (.bool false)))]) .ret) .skip)) (.seq (.reg [u_ 40 (.mv (.t 0)), u_ 41 (.mv (.t 1)), u_ 42 (.iad 3 (.t 40) (.t 41)), u_ 43 (.fad 1 (.t 42)), u_ 44 (.ld (.t 43)), (⟨some 45, .s2b (.t 44), none⟩, ⟨.s 1, []⟩), u_ 8 (.mv (.t 45))]) (.seq (.reg [u_ 46 (.mv (.t 8)), u_ 47 (.mv (.t 2)), u_ 48 (.bin .quo (.t 47) (.c (.int .i64 256))), u_ 49 (.mv (.t 8)), u_ 50 (.len (.t 49)), u_ 51 (.bin .rem (.t 48) (.t 50)), u_ 52 (.iad 1 (.t 46) (.t 51)), u_ 53 (.ld (.t 52)), u_ 54 (.mv (.t 2)), u_ 55 (.bin .rem (.t 54) (.c (.int .i64 256))), u_ 56 (.cvi .u8 (.t 55)), u_ 57 (.bin .xor (.t 53) (.t 56)), u_ 58 (.iad 1 (.t 46) (.t 51)), (⟨none, .st 1 (.t 58) (.t 57), none⟩, ⟨.n, []⟩)]) (.seq (.reg [u_ 59 (.mv (.t 0)), u_ 60 (.mv (.t 1)), u_ 61 (.mv (.t 0)), u_ 62 (.mv (.t 1)), u_ 63 (.mv (.t 8)), u_ 64 (.b2s (.t 63)), u_ 65 (.iad 3 (.t 59) (.t 60)), u_ 66 (.fad 1 (.t 65)), (⟨none, .st 1 (.t 66) (.t 64), none⟩, ⟨.n, []⟩), u_ 67 (.iad 3 (.t 61) (.t 62)), u_ 68 (.fad 2 (.t 67)), (⟨none, .st 1 (.t 68) (.c (.bool true)), none⟩, ⟨.n, []⟩)]) (.seq (.reg [u_ 69 (.mv (.t 0)), u_ 6 (.mv (.t 69)), u_ 7 (.mv (.c (.bool true)))]) .ret))))))
def pf_net_Turned : PFn := ⟨70, [], c_net_Turned, [.tmp 6, .tmp 7], [.f 3, .n]⟩
def c_pleachlaw13_apart_0 : PCode := .fin (.reg [u_ 16 (.mv (.t 6)), u_ 17 (.bin .add (.t 16) (.c (.int .i64 1))), u_ 6 (.mv (.t 17))]) [] [] [0, 1, 5, 6] []
def c_pleachlaw13_apart_1 : PCode := .seq (.seq (.reg [u_ 12 (.mv (.t 6)), u_ 13 (.mv (.t 0)), u_ 14 (.lens (.t 13)), u_ 15 (.bin .lss (.t 12) (.t 14))]) (.cond (.t 15) .skip (.keep [5] [] (.exit 0)))) (.seq (.block 1 (.seq (.dreg 0 [((⟨some 18, .mv (.t 0), none⟩, .q), ⟨.n, []⟩), ((⟨some 19, .mv (.t 6), none⟩, .q), ⟨.n, []⟩), ((⟨some 20, .ixs (.t 18) (.t 19), none⟩, .q), ⟨.n, []⟩), ((⟨some 21, .mv (.t 1), none⟩, .q), ⟨.n, []⟩), ((⟨some 22, .mv (.t 6), none⟩, .q), ⟨.n, []⟩), ((⟨some 23, .ixs (.t 21) (.t 22), none⟩, .q), ⟨.n, []⟩), ((⟨some 24, .bin .neq (.t 20) (.t 23), none⟩, .q), ⟨.n, []⟩)]) (.fin (.cond (.t 24) (.fin (.reg [u_ 25 (.mv (.t 5)), u_ 26 (.bin .add (.t 25) (.c (.int .i64 1))), u_ 5 (.mv (.t 26))]) [] [] [0, 1, 5, 6] []) (.fin .skip [] [] [0, 1, 5, 6] [])) [] [] [0, 1, 5, 6] []))) c_pleachlaw13_apart_0)
def c_pleachlaw13_apart_2 : PCode := .seq (.reg [u_ 27 (.mv (.t 5)), u_ 4 (.mv (.t 27))]) .ret
def c_pleachlaw13_apart : PCode := .seq (.reg [u_ 4 (.mv (.c (.int .i64 0)))]) (.seq (.seq (.reg [u_ 7 (.mv (.t 0)), u_ 8 (.lens (.t 7)), u_ 9 (.mv (.t 1)), u_ 10 (.lens (.t 9)), u_ 11 (.bin .neq (.t 8) (.t 10))]) (.cond (.t 11) (.seq (.reg [u_ 4 (.mv (.c (.int .i64 9)))]) .ret) .skip)) (.seq (.reg [u_ 5 (.mv (.c (.int .i64 0)))]) (.seq (.seq (.reg [u_ 6 (.mv (.c (.int .i64 0)))]) (.block 0 (.keep [0, 1, 5, 6] [] (.loop c_pleachlaw13_apart_1)))) c_pleachlaw13_apart_2)))
def pf_pleachlaw13_apart : PFn := ⟨28, [], c_pleachlaw13_apart, [.tmp 4], [.n]⟩
def c_net_there : PCode := .seq (.reg [u_ 4 (.mv (.c (.bool false)))]) (.seq (.reg [u_ 5 (.mv (.t 1)), u_ 6 (.bin .geq (.t 5) (.c (.int .i64 0))), u_ 7 (.mv (.t 6)), (⟨some 8, .mv (.t 1), some (7, true)⟩, ⟨.n, []⟩), (⟨some 9, .mv (.t 0), some (7, true)⟩, ⟨.n, []⟩), (⟨some 10, .len (.t 9), some (7, true)⟩, ⟨.n, []⟩), (⟨some 11, .bin .lss (.t 8) (.t 10), some (7, true)⟩, ⟨.n, []⟩), u_ 12 (.pick (.t 7) (.t 11) (.c (.bool false))), u_ 4 (.mv (.t 12))]) .ret)
def pf_net_there : PFn := ⟨13, [], c_net_there, [.tmp 4], [.n]⟩
set_option maxRecDepth 100000
def ac_pleachlaw13_begun : AFn := ⟨78, .seq (.reg [⟨some 0, .mv (.c (.bool false)), none⟩]) (.seq (.reg [⟨some 11, .build [.int (.i64) 0, .str [], .bool false] [(0, 1, .c (.int (.i64) 2)), (1, 1, .c (.str [97, 98]))], none⟩, ⟨some 12, .call (.c (.fn 29 [] [])) [.c (.nils), .t 11], none⟩, ⟨some 1, .mv (.t 12), none⟩]) (.seq (.reg [⟨some 14, .mv (.t 1), none⟩, ⟨some 15, .call (.c (.fn 36 [] [])) [.t 14, .c (.int (.i64) 0), .c (.int (.i64) 259)], none⟩, ⟨some 13, .mv (.t 15), none⟩, ⟨some 16, .ext (.t 13) 0, none⟩, ⟨some 17, .ext (.t 13) 1, none⟩, ⟨some 2, .mv (.t 16), none⟩, ⟨some 3, .mv (.t 17), none⟩]) (.seq (.reg [⟨some 19, .mv (.t 1), none⟩, ⟨some 20, .call (.c (.fn 34 [] [])) [.t 19, .c (.int (.i64) 0)], none⟩, ⟨some 18, .mv (.t 20), none⟩, ⟨some 21, .ext (.t 18) 0, none⟩, ⟨some 22, .ext (.t 18) 1, none⟩, ⟨some 4, .mv (.t 21), none⟩, ⟨some 5, .mv (.t 22), none⟩]) (.seq (.reg [⟨some 24, .mv (.t 1), none⟩, ⟨some 25, .call (.c (.fn 31 [] [])) [.t 24, .c (.int (.i64) 0)], none⟩, ⟨some 23, .mv (.t 25), none⟩, ⟨some 26, .ext (.t 23) 0, none⟩, ⟨some 27, .ext (.t 23) 1, none⟩, ⟨some 28, .ext (.t 23) 2, none⟩, ⟨some 7, .newc [.int (.i64) 0, .str [], .bool false], none⟩, ⟨some 6, .mv (.t 26), none⟩, ⟨none, .st 3 (.t 7) (.t 27), none⟩, ⟨some 8, .mv (.t 28), none⟩]) (.seq (.reg [⟨some 30, .mv (.t 1), none⟩, ⟨some 31, .call (.c (.fn 33 [] [])) [.t 30, .c (.int (.i64) 1)], none⟩, ⟨some 29, .mv (.t 31), none⟩, ⟨some 32, .ext (.t 29) 0, none⟩, ⟨some 33, .ext (.t 29) 1, none⟩, ⟨some 9, .mv (.t 32), none⟩, ⟨some 10, .mv (.t 33), none⟩]) (.seq (.reg [⟨some 34, .mv (.t 1), none⟩, ⟨some 35, .len (.t 34), none⟩, ⟨some 36, .bin (.eql) (.t 35) (.c (.int (.i64) 1)), none⟩, ⟨some 37, .mv (.t 36), none⟩, ⟨some 38, .mv (.t 3), some (37, true)⟩, ⟨some 39, .pick (.t 37) (.t 38) (.c (.bool false)), none⟩, ⟨some 40, .mv (.t 39), none⟩, ⟨some 41, .mv (.t 2), some (40, true)⟩, ⟨some 42, .len (.t 41), some (40, true)⟩, ⟨some 43, .bin (.eql) (.t 42) (.c (.int (.i64) 1)), some (40, true)⟩, ⟨some 44, .pick (.t 40) (.t 43) (.c (.bool false)), none⟩, ⟨some 45, .mv (.t 44), none⟩, ⟨some 46, .mv (.t 2), some (45, true)⟩, ⟨some 47, .iad 3 (.t 46) (.c (.int (.i64) 0)), some (45, true)⟩, ⟨some 48, .fad 1 (.t 47), some (45, true)⟩, ⟨some 49, .ld (.t 48), some (45, true)⟩, ⟨some 50, .bin (.eql) (.t 49) (.c (.str [97, 97])), some (45, true)⟩, ⟨some 51, .pick (.t 45) (.t 50) (.c (.bool false)), none⟩, ⟨some 52, .mv (.t 51), none⟩, ⟨some 53, .mv (.t 2), some (52, true)⟩, ⟨some 54, .iad 3 (.t 53) (.c (.int (.i64) 0)), some (52, true)⟩, ⟨some 55, .fad 2 (.t 54), some (52, true)⟩, ⟨some 56, .ld (.t 55), some (52, true)⟩, ⟨some 57, .pick (.t 52) (.t 56) (.c (.bool false)), none⟩, ⟨some 58, .mv (.t 57), none⟩, ⟨some 59, .mv (.t 5), some (58, true)⟩, ⟨some 60, .pick (.t 58) (.t 59) (.c (.bool false)), none⟩, ⟨some 61, .mv (.t 60), none⟩, ⟨some 62, .mv (.t 4), some (61, true)⟩, ⟨some 63, .len (.t 62), some (61, true)⟩, ⟨some 64, .bin (.eql) (.t 63) (.c (.int (.i64) 2)), some (61, true)⟩, ⟨some 65, .pick (.t 61) (.t 64) (.c (.bool false)), none⟩, ⟨some 66, .mv (.t 65), none⟩, ⟨some 67, .mv (.t 8), some (66, true)⟩, ⟨some 68, .pick (.t 66) (.t 67) (.c (.bool false)), none⟩, ⟨some 69, .mv (.t 68), none⟩, ⟨some 70, .fad 1 (.t 7), some (69, true)⟩, ⟨some 71, .ld (.t 70), some (69, true)⟩, ⟨some 72, .bin (.eql) (.t 71) (.c (.str [97, 98])), some (69, true)⟩, ⟨some 73, .pick (.t 69) (.t 72) (.c (.bool false)), none⟩, ⟨some 74, .mv (.t 73), none⟩, ⟨some 75, .mv (.t 10), some (74, true)⟩, ⟨some 76, .un (.not) (.t 75), some (74, true)⟩, ⟨some 77, .pick (.t 74) (.t 76) (.c (.bool false)), none⟩, ⟨some 0, .mv (.t 77), none⟩]) (.ret))))))), [.tmp 0]⟩
def ac_slices_Clone_api_Gram_api_Gram : AFn := ⟨8, .seq (.reg [⟨some 2, .mv (.c (.nils)), none⟩]) (.seq (.seq (.reg [⟨some 3, .mv (.t 0), none⟩, ⟨some 4, .eqn false 0 (.t 3), none⟩]) (.cond (.t 4) (.seq (.reg [⟨some 2, .mv (.c (.nils)), none⟩]) (.ret)) (.skip))) (.seq (.reg [⟨some 5, .bsl 3 [.int (.i64) 0, .str [], .bool false] 0 [], none⟩, ⟨some 6, .mv (.t 0), none⟩, ⟨some 7, .app 3 32 [.int (.i64) 0, .str [], .bool false] (.t 5) (.t 6), none⟩, ⟨some 2, .mv (.t 7), none⟩]) (.ret))), [.tmp 2]⟩
theorem ok_pleachlaw13_NetMade : Callable Try.prog 8 ∧ ∃ fn, Try.prog.funcs[8]? = some fn ∧ dFn Try.prog fn = some (pf_pleachlaw13_NetMade.un) := ⟨⟨_, _, Try.func8, rfl, by kernel_rfl⟩, _, Try.func8, by kernel_rfl⟩
theorem go_pleachlaw13_NetMade : pf_pleachlaw13_NetMade.ok = true := by kernel_rfl
theorem ok_net_Send : Callable Try.prog 29 ∧ ∃ fn, Try.prog.funcs[29]? = some fn ∧ dFn Try.prog fn = some (pf_net_Send.un) := ⟨⟨_, _, Try.func29, rfl, by kernel_rfl⟩, _, Try.func29, by kernel_rfl⟩
theorem go_net_Send : pf_net_Send.ok = true := by kernel_rfl
theorem ok_net_Comes : Callable Try.prog 31 ∧ ∃ fn, Try.prog.funcs[31]? = some fn ∧ dFn Try.prog fn = some (pf_net_Comes.un) := ⟨⟨_, _, Try.func31, rfl, by kernel_rfl⟩, _, Try.func31, by kernel_rfl⟩
theorem go_net_Comes : pf_net_Comes.ok = true := by kernel_rfl
theorem ok_net_Lost : Callable Try.prog 33 ∧ ∃ fn, Try.prog.funcs[33]? = some fn ∧ dFn Try.prog fn = some (pf_net_Lost.un) := ⟨⟨_, _, Try.func33, rfl, by kernel_rfl⟩, _, Try.func33, by kernel_rfl⟩
theorem go_net_Lost : pf_net_Lost.ok = true := by kernel_rfl
theorem ok_net_Twice : Callable Try.prog 34 ∧ ∃ fn, Try.prog.funcs[34]? = some fn ∧ dFn Try.prog fn = some (pf_net_Twice.un) := ⟨⟨_, _, Try.func34, rfl, by kernel_rfl⟩, _, Try.func34, by kernel_rfl⟩
theorem go_net_Twice : pf_net_Twice.ok = true := by kernel_rfl
theorem ok_net_Turned : Callable Try.prog 36 ∧ ∃ fn, Try.prog.funcs[36]? = some fn ∧ dFn Try.prog fn = some (pf_net_Turned.un) := ⟨⟨_, _, Try.func36, rfl, by kernel_rfl⟩, _, Try.func36, by kernel_rfl⟩
theorem go_net_Turned : pf_net_Turned.ok = true := by kernel_rfl
theorem ok_pleachlaw13_apart : Callable Try.prog 39 ∧ ∃ fn, Try.prog.funcs[39]? = some fn ∧ dFn Try.prog fn = some (pf_pleachlaw13_apart.un) := ⟨⟨_, _, Try.func39, rfl, by kernel_rfl⟩, _, Try.func39, by kernel_rfl⟩
theorem go_pleachlaw13_apart : pf_pleachlaw13_apart.ok = true := by kernel_rfl
theorem ok_net_there : Callable Try.prog 59 ∧ ∃ fn, Try.prog.funcs[59]? = some fn ∧ dFn Try.prog fn = some (pf_net_there.un) := ⟨⟨_, _, Try.func59, rfl, by kernel_rfl⟩, _, Try.func59, by kernel_rfl⟩
theorem go_net_there : pf_net_there.ok = true := by kernel_rfl
theorem ok_slices_Clone_api_Gram_api_Gram : Callable Try.prog 58 ∧ ∃ fn, Try.prog.funcs[58]? = some fn ∧ dFn Try.prog fn = some (ac_slices_Clone_api_Gram_api_Gram) := ⟨⟨_, _, Try.func58, rfl, by kernel_rfl⟩, _, Try.func58, by kernel_rfl⟩
theorem ok_pleachlaw13_begun : Callable Try.prog 28 ∧ ∃ fn, Try.prog.funcs[28]? = some fn ∧ dFn Try.prog fn = some (ac_pleachlaw13_begun) := ⟨⟨_, _, Try.func28, rfl, by kernel_rfl⟩, _, Try.func28, by kernel_rfl⟩
def afns : Nat → Option AFn
  | 8 => some pf_pleachlaw13_NetMade.un
  | 29 => some pf_net_Send.un
  | 31 => some pf_net_Comes.un
  | 33 => some pf_net_Lost.un
  | 34 => some pf_net_Twice.un
  | 36 => some pf_net_Turned.un
  | 39 => some pf_pleachlaw13_apart.un
  | 59 => some pf_net_there.un
  | 58 => some ac_slices_Clone_api_Gram_api_Gram
  | 28 => some ac_pleachlaw13_begun
  | _ => none
def pfns : Nat → Option PFn
  | 8 => some pf_pleachlaw13_NetMade
  | 29 => some pf_net_Send
  | 31 => some pf_net_Comes
  | 33 => some pf_net_Lost
  | 34 => some pf_net_Twice
  | 36 => some pf_net_Turned
  | 39 => some pf_pleachlaw13_apart
  | 59 => some pf_net_there
  | _ => none
abbrev Specs := List (Nat × (List AV → AHeap → Option (AV × AHeap)))
def env (s : Specs) : Env := ⟨afns, fun f => s.lookup f⟩
def SpecsOk (s : Specs) : Prop := ∀ p ∈ s, SpecOk Try.prog p.1 p.2
theorem lookup_mem {s : Specs} {f : Nat} {g : List AV → AHeap → Option (AV × AHeap)} (h : s.lookup f = some g) : (f, g) ∈ s := by
  induction s with
  | nil => cases h
  | cons p l ih =>
    obtain ⟨a, b⟩ := p
    rw [List.lookup_cons] at h
    split at h
    · rename_i e
      obtain rfl := Option.some.inj h
      rw [eq_of_beq e]
      exact List.mem_cons_self
    · exact List.mem_cons_of_mem _ (ih h)
theorem ok_nil : SpecsOk [] := fun p h => by cases h
theorem ok_cons {n : Nat} {g : List AV → AHeap → Option (AV × AHeap)} {s : Specs} (h : SpecOk Try.prog n g) (hs : SpecsOk s) : SpecsOk ((n, g) :: s) := fun p hp => by
  rcases List.mem_cons.1 hp with rfl | hp
  · exact h
  · exact hs p hp
theorem envOk {s : Specs} (hs : SpecsOk s) : EnvOk Try.prog (env s) := by
  refine ⟨Try.checked.mixed, fun f af h => ?_, fun f g h => hs _ (lookup_mem h)⟩
  change afns f = some af at h
  unfold afns at h
  split at h
  · obtain rfl := Option.some.inj h; exact ok_pleachlaw13_NetMade
  · obtain rfl := Option.some.inj h; exact ok_net_Send
  · obtain rfl := Option.some.inj h; exact ok_net_Comes
  · obtain rfl := Option.some.inj h; exact ok_net_Lost
  · obtain rfl := Option.some.inj h; exact ok_net_Twice
  · obtain rfl := Option.some.inj h; exact ok_net_Turned
  · obtain rfl := Option.some.inj h; exact ok_pleachlaw13_apart
  · obtain rfl := Option.some.inj h; exact ok_net_there
  · obtain rfl := Option.some.inj h; exact ok_slices_Clone_api_Gram_api_Gram
  · obtain rfl := Option.some.inj h; exact ok_pleachlaw13_begun
  · cases h
theorem fok (s : Specs) : FOk (env s) := by
  intro f af h
  change afns f = some af at h
  unfold afns at h
  split at h
  · obtain rfl := Option.some.inj h; kernel_rfl
  · obtain rfl := Option.some.inj h; kernel_rfl
  · obtain rfl := Option.some.inj h; kernel_rfl
  · obtain rfl := Option.some.inj h; kernel_rfl
  · obtain rfl := Option.some.inj h; kernel_rfl
  · obtain rfl := Option.some.inj h; kernel_rfl
  · obtain rfl := Option.some.inj h; kernel_rfl
  · obtain rfl := Option.some.inj h; kernel_rfl
  · obtain rfl := Option.some.inj h; kernel_rfl
  · obtain rfl := Option.some.inj h; kernel_rfl
  · cases h
abbrev PSpecs := List (Nat × (List AV → Option AV))
def penv (s : PSpecs) : PEnv := ⟨pfns, fun f => s.lookup f⟩
def bases : List Nat := [8, 29, 31, 33, 34, 36, 39, 59]
theorem penvOk {s : Specs} {p : PSpecs} (h0 : ∀ n ∈ bases, s.lookup n = none) (hp : ∀ q ∈ p, SpecOkP (env s) q.1 q.2) : PEnvOk (env s) (penv p) := by
  refine ⟨fun f fn h => ?_, fun f g h => ?_⟩
  · have hb := h0
    change pfns f = some fn at h
    unfold pfns at h
    split at h
    · obtain rfl := Option.some.inj h; exact ⟨go_pleachlaw13_NetMade, hb 8 (by simp [bases]), rfl, fun _ => rfl, fun h => absurd h (by decide)⟩
    · obtain rfl := Option.some.inj h; exact ⟨go_net_Send, hb 29 (by simp [bases]), rfl, fun _ => rfl, fun h => absurd h (by decide)⟩
    · obtain rfl := Option.some.inj h; exact ⟨go_net_Comes, hb 31 (by simp [bases]), rfl, fun _ => rfl, fun h => absurd h (by decide)⟩
    · obtain rfl := Option.some.inj h; exact ⟨go_net_Lost, hb 33 (by simp [bases]), rfl, fun _ => rfl, fun h => absurd h (by decide)⟩
    · obtain rfl := Option.some.inj h; exact ⟨go_net_Twice, hb 34 (by simp [bases]), rfl, fun _ => rfl, fun h => absurd h (by decide)⟩
    · obtain rfl := Option.some.inj h; exact ⟨go_net_Turned, hb 36 (by simp [bases]), rfl, fun _ => rfl, fun h => absurd h (by decide)⟩
    · obtain rfl := Option.some.inj h; exact ⟨go_pleachlaw13_apart, hb 39 (by simp [bases]), rfl, fun _ => rfl, fun h => absurd h (by decide)⟩
    · obtain rfl := Option.some.inj h; exact ⟨go_net_there, hb 59 (by simp [bases]), rfl, fun _ => rfl, fun h => absurd h (by decide)⟩
    · cases h
  · have : ∀ (p : PSpecs), (∀ q ∈ p, SpecOkP (env s) q.1 q.2) → p.lookup f = some g → SpecOkP (env s) f g := by
      intro p
      induction p with
      | nil => intro _ h; cases h
      | cons a l ih =>
        intro hq h
        obtain ⟨a, b⟩ := a
        rw [List.lookup_cons] at h
        split at h
        · rename_i e
          obtain rfl := Option.some.inj h
          rw [eq_of_beq e]
          exact hq _ List.mem_cons_self
        · exact ih (fun q hm => hq q (List.mem_cons_of_mem _ hm)) h
    exact this p hp h
theorem clone_slices_Clone_api_Gram_api_Gram {s : Specs} (h : s.lookup 58 = none) : SpecOkP (env s) 58 (gClone 3 32) := clone_ok (env s) (zero := [.int .i64 0, .str [], .bool false]) (f := 58) h rfl (by decide) rfl
end Go.Proofs.Ytldehmfhgmmkhaa.Pn
