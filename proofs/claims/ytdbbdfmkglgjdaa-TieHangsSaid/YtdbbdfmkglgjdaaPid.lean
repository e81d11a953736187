/- The functions that TieHangs reach, digested for the evaluator by values; that they are the program's. Printed by mkpv.py of this repo. -/
import Derived.Test.YtdbbdfmkglgjdaaChecked
import Derived.Test.YtdbbdfmkglgjdaaPvE
import Derived.KernelRfl
namespace Go.Proofs.Ytdbbdfmkglgjdaa.Pi
open Go.Ab
def qn (t:Nat) (o:AOp):(zj × DK) × PM:=((⟨some t,o,none⟩,.q),⟨.n,[]⟩)
def qg (t g:Nat) (b:Bool) (o:AOp):(zj × DK) × PM:=((⟨some t,o,some (g,b)⟩,.q),⟨.n,[]⟩)
def ug (t g:Nat) (b:Bool) (o:AOp):zj × PM:=(⟨some t,o,some (g,b)⟩,⟨.n,[]⟩)
def ua (t:Nat) (o:AOp):zj:=⟨some t,o,none⟩
def ub (o:AOp):zj:=⟨none,o,none⟩
abbrev u_ (t:Nat) (o:AOp):zj × PM:=(⟨some t,o,none⟩,⟨.n,[]⟩)
def xn:zb:=.seq (.reg [u_ 69 (.ldn 13 (.t 12)),u_ 70 (.ldn 10 (.t 13)),u_ 71 (.call (.c (.fn 22 [] [])) [.t 69,.t 70,.c (.int .i64 1)]),u_ 68 (.mv (.t 71)),u_ 72 (.ext (.t 68) 0),u_ 73 (.ext (.t 68) 1),(⟨some 14,.newc [.int .i64 0,.int .i64 0,.int .i64 0,.int .i64 0,.int .i64 0,.int .i64 0,.nils,.int .i64 0,.int .i64 0,.int .i64 0,.int .i64 0,.int .i64 0,.nils],none⟩,⟨.s 13,[]⟩),(⟨none,.st 13 (.t 14) (.t 72),none⟩,⟨.n,[]⟩),u_ 15 (.mv (.t 73))]) (.seq (.reg [u_ 75 (.fad 6 (.t 13)),u_ 76 (.ld (.t 75)),u_ 77 (.mv (.t 11)),u_ 78 (.call (.c (.fn 35 [] [])) [.t 76,.t 77]),u_ 74 (.mv (.t 78)),u_ 79 (.ext (.t 74) 0),u_ 80 (.ext (.t 74) 1),u_ 16 (.mv (.t 79)),u_ 17 (.mv (.t 80))]) (.seq (.seq (.reg [u_ 81 (.fad 3 (.t 12)),u_ 82 (.ld (.t 81)),u_ 83 (.bin .eql (.t 82) (.c (.int .i64 0))),u_ 84 (.mv (.t 83)),ug 85 84 true (.fad 9 (.t 12)),ug 86 84 true (.ld (.t 85)),ug 87 84 true (.fad 1 (.t 13)),ug 88 84 true (.ld (.t 87)),ug 89 84 true (.bin .eql (.t 86) (.t 88)),u_ 90 (.pick (.t 84) (.t 89) (.c (.bool false))),u_ 91 (.mv (.t 90)),ug 92 91 true (.mv (.t 17)),u_ 93 (.pick (.t 91) (.t 92) (.c (.bool false))),u_ 94 (.mv (.t 93)),ug 95 94 true (.fad 5 (.t 13)),ug 96 94 true (.ld (.t 95)),ug 97 94 true (.bin .leq (.t 96) (.c (.int .i64 20))),u_ 98 (.pick (.t 94) (.t 97) (.c (.bool false)))]) (.cond (.t 98) (.seq (.reg [u_ 99 (.fad 3 (.t 14)),u_ 100 (.ld (.t 99)),u_ 101 (.fad 1 (.t 13)),u_ 102 (.ld (.t 101)),u_ 103 (.bin .eql (.t 100) (.t 102)),u_ 104 (.mv (.t 103)),ug 105 104 true (.fad 4 (.t 14)),ug 106 104 true (.ld (.t 105)),ug 107 104 true (.bin .eql (.t 106) (.c (.int .i64 9))),u_ 108 (.pick (.t 104) (.t 107) (.c (.bool false))),u_ 109 (.mv (.t 108)),ug 110 109 true (.fad 6 (.t 14)),ug 111 109 true (.ld (.t 110)),ug 112 109 true (.mv (.t 16)),ug 113 109 true (.call (.c (.fn 36 [] [])) [.t 111,.t 112]),u_ 114 (.pick (.t 109) (.t 113) (.c (.bool false))),u_ 115 (.mv (.t 114)),ug 116 115 true (.fad 9 (.t 14)),ug 117 115 true (.ld (.t 116)),ug 118 115 true (.bin .eql (.t 117) (.c (.int .i64 0))),u_ 119 (.pick (.t 115) (.t 118) (.c (.bool false))),u_ 120 (.mv (.t 119)),ug 121 120 true (.fad 11 (.t 14)),ug 122 120 true (.ld (.t 121)),ug 123 120 true (.bin .eql (.t 122) (.c (.int .i64 0))),u_ 124 (.pick (.t 120) (.t 123) (.c (.bool false))),u_ 125 (.mv (.t 124)),ug 126 125 true (.fad 8 (.t 14)),ug 127 125 true (.ld (.t 126)),ug 128 125 true (.fad 2 (.t 12)),ug 129 125 true (.ld (.t 128)),ug 130 125 true (.fad 5 (.t 13)),ug 131 125 true (.ld (.t 130)),ug 132 125 true (.bin .sub (.t 129) (.t 131)),ug 133 125 true (.bin .eql (.t 127) (.t 132)),u_ 134 (.pick (.t 125) (.t 133) (.c (.bool false))),u_ 135 (.mv (.t 134)),ug 136 135 true (.mv (.t 15)),ug 137 135 true (.len (.t 136)),ug 138 135 true (.bin .eql (.t 137) (.c (.int .i64 0))),u_ 139 (.pick (.t 135) (.t 138) (.c (.bool false))),u_ 10 (.mv (.t 139))]) .ret) .skip)) (.seq (.dreg 0 [qn 140 (.mv (.t 15)),qn 141 (.len (.t 140)),qn 142 (.bin .eql (.t 141) (.c (.int .i64 1))),qn 143 (.mv (.t 142)),qg 144 143 true (.mv (.t 15)),qg 145 143 true (.iad 10 (.t 144) (.c (.int .i64 0))),qg 146 143 true (.fad 0 (.t 145)),qg 147 143 true (.ld (.t 146)),qg 148 143 true (.bin .eql (.t 147) (.c (.int .i64 6))),qn 149 (.pick (.t 143) (.t 148) (.c (.bool false))),qn 150 (.mv (.t 149)),qg 151 150 true (.mv (.t 15)),qg 152 150 true (.iad 10 (.t 151) (.c (.int .i64 0))),qg 153 150 true (.fad 2 (.t 152)),qg 154 150 true (.ld (.t 153)),qg 155 150 true (.fad 1 (.t 13)),qg 156 150 true (.ld (.t 155)),qg 157 150 true (.bin .eql (.t 154) (.t 156)),qn 158 (.pick (.t 150) (.t 157) (.c (.bool false))),qn 159 (.mv (.t 158)),qg 160 159 true (.fad 3 (.t 14)),qg 161 159 true (.ld (.t 160)),qg 162 159 true (.fad 3 (.t 12)),qg 163 159 true (.ld (.t 162)),qg 164 159 true (.bin .eql (.t 161) (.t 163)),qg 165 159 true (.mv (.t 164)),qg 166 165 false (.fad 3 (.t 14)),qg 167 165 false (.ld (.t 166)),qg 168 165 false (.bin .eql (.t 167) (.c (.int .i64 0))),qg 169 159 true (.pick (.t 165) (.c (.bool true)) (.t 168)),qn 170 (.pick (.t 159) (.t 169) (.c (.bool false))),qn 171 (.mv (.t 170)),qg 172 171 true (.fad 3 (.t 14)),qg 173 171 true (.ld (.t 172)),qg 174 171 true (.fad 1 (.t 13)),qg 175 171 true (.ld (.t 174)),qg 176 171 true (.bin .neq (.t 173) (.t 175)),qn 177 (.pick (.t 171) (.t 176) (.c (.bool false))),qn 10 (.mv (.t 177))]) .ret)))
def wh:zb:=.seq (.reg [u_ 10 (.mv (.c (.bool false)))]) (.seq (.seq (.reg [u_ 18 (.call (.c (.fn 11 [] [])) []),u_ 19 (.un .not (.t 18))]) (.cond (.t 19) (.seq (.reg [u_ 10 (.mv (.c (.bool false)))]) .ret) .skip)) (.seq (.seq (.reg [u_ 20 (.mv (.t 0)),u_ 21 (.len (.t 20)),u_ 22 (.bin .gtr (.t 21) (.c (.int .i64 200))),u_ 23 (.mv (.t 22)),ug 24 23 false (.mv (.t 1)),ug 25 23 false (.len (.t 24)),ug 26 23 false (.bin .gtr (.t 25) (.c (.int .i64 6))),u_ 27 (.pick (.t 23) (.c (.bool true)) (.t 26))]) (.cond (.t 27) (.seq (.reg [u_ 10 (.mv (.c (.bool true)))]) .ret) .skip)) (.seq (.reg [u_ 28 (.mv (.t 2)),u_ 29 (.bin .rem (.t 28) (.c (.int .u8 7))),u_ 30 (.cvi .i64 (.t 29)),u_ 31 (.bin .add (.c (.int .i64 2)) (.t 30)),u_ 11 (.mv (.t 31))]) (.seq (.reg [u_ 32 (.mv (.t 0)),u_ 33 (.call (.c (.fn 12 [] [])) [.t 32]),u_ 34 (.mv (.t 11)),u_ 35 (.call (.c (.fn 33 [] [])) [.t 33,.t 34,.c (.int .i64 40)]),(⟨some 12,.newc [.int .i64 0,.int .i64 0,.int .i64 0,.int .i64 0,.int .i64 0,.int .i64 0,.nils,.int .i64 0,.int .i64 0,.int .i64 0,.int .i64 0,.int .i64 0,.nils],none⟩,⟨.s 13,[]⟩),(⟨none,.st 13 (.t 12) (.t 35),none⟩,⟨.n,[]⟩)]) (.seq (.reg [u_ 36 (.mv (.t 3)),u_ 37 (.bin .rem (.t 36) (.c (.int .u8 8))),u_ 38 (.cvi .i64 (.t 37)),u_ 39 (.bin .add (.c (.int .i64 1)) (.t 38)),u_ 40 (.mv (.t 11)),u_ 41 (.mv (.t 4)),u_ 42 (.bin .rem (.t 41) (.c (.int .u8 30))),u_ 43 (.cvi .i64 (.t 42)),u_ 44 (.mv (.t 1)),u_ 45 (.call (.c (.fn 12 [] [])) [.t 44]),u_ 46 (.call (.c (.fn 21 [] [])) [.t 45]),u_ 47 (.build [.int .i64 0,.int .i64 0,.int .i64 0,.int .i64 0,.int .i64 0,.int .i64 0,.nils,.int .i64 0,.int .i64 0,.str []] [(0,1,.c (.int .i64 2)),(1,1,.t 39),(2,1,.t 40),(3,1,.c (.int .i64 9)),(4,1,.c (.int .i64 3)),(5,1,.t 43),(6,1,.t 46),(7,1,.c (.int .i64 1))]),(⟨some 13,.newc [.int .i64 0,.int .i64 0,.int .i64 0,.int .i64 0,.int .i64 0,.int .i64 0,.nils,.int .i64 0,.int .i64 0,.str []],none⟩,⟨.s 10,[]⟩),(⟨none,.st 10 (.t 13) (.t 47),none⟩,⟨.n,[]⟩)]) (.seq (.seq (.reg [u_ 48 (.fad 1 (.t 13)),u_ 49 (.ld (.t 48)),u_ 50 (.mv (.t 11)),u_ 51 (.bin .eql (.t 49) (.t 50))]) (.cond (.t 51) (.seq (.reg [u_ 10 (.mv (.c (.bool true)))]) .ret) .skip)) (.seq (.seq (.reg [u_ 52 (.mv (.t 3)),u_ 53 (.bin .geq (.t 52) (.c (.int .u8 128))),u_ 54 (.mv (.t 53)),ug 55 54 true (.fad 9 (.t 12)),ug 56 54 true (.ld (.t 55)),ug 57 54 true (.bin .neq (.t 56) (.c (.int .i64 0))),u_ 58 (.pick (.t 54) (.t 57) (.c (.bool false))),u_ 59 (.mv (.t 58)),ug 60 59 true (.fad 9 (.t 12)),ug 61 59 true (.ld (.t 60)),ug 62 59 true (.mv (.t 11)),ug 63 59 true (.bin .neq (.t 61) (.t 62)),u_ 64 (.pick (.t 59) (.t 63) (.c (.bool false)))]) (.cond (.t 64) (.fin (.reg [u_ 65 (.fad 9 (.t 12)),u_ 66 (.ld (.t 65)),u_ 67 (.fad 1 (.t 13)),(⟨none,.st 1 (.t 67) (.t 66),none⟩,⟨.n,[]⟩)]) [] [] [11,12,13] [(12,12),(13,13)]) (.fin .skip [] [] [11,12,13] [(12,12),(13,13)]))) xn)))))))
def yO:PFn:=⟨178,[],wh,[.tmp 10],[.n]⟩
def Yq:zb:=.seq (.reg [u_ 2 (.mv (.c .nilp))]) (.seq (.reg [u_ 3 (.mv (.t 0)),u_ 4 (.build [.nils,.int .i64 0] [(0,1,.t 3)]),u_ 5 (.box (.t 4)),u_ 2 (.mv (.t 5))]) .ret)
def xW:PFn:=⟨6,[],Yq,[.tmp 2],[.n]⟩
def wj:zb:=.seq (.reg [u_ 4 (.mv (.c (.int .i64 0)))]) (.seq (.seq (.dreg 0 [qn 5 (.mv (.t 0)),qn 6 (.nck (.t 5)),qn 7 (.fad 1 (.t 6)),qn 8 (.ld (.t 7)),qn 9 (.mv (.t 0)),qn 10 (.nck (.t 9)),qn 11 (.fad 0 (.t 10)),qn 12 (.ld (.t 11)),qn 13 (.len (.t 12)),qn 14 (.bin .geq (.t 8) (.t 13)),qn 15 (.mv (.t 14)),qg 16 15 false (.mv (.t 1)),qg 17 15 false (.bin .lss (.t 16) (.c (.int .i64 1))),qn 18 (.pick (.t 15) (.c (.bool true)) (.t 17))]) (.cond (.t 18) (.seq (.reg [u_ 4 (.mv (.c (.int .i64 0)))]) .ret) .skip)) (.seq (.reg [u_ 19 (.mv (.t 0)),u_ 20 (.nck (.t 19)),u_ 21 (.fad 1 (.t 20)),u_ 22 (.ld (.t 21)),u_ 23 (.bin .add (.t 22) (.c (.int .i64 1))),u_ 24 (.nck (.t 19)),u_ 25 (.fad 1 (.t 24)),(⟨none,.st 1 (.t 25) (.t 23),none⟩,⟨.n,[]⟩)]) (.seq (.dreg 0 [qn 26 (.mv (.t 0)),qn 27 (.nck (.t 26)),qn 28 (.fad 0 (.t 27)),qn 29 (.ld (.t 28)),qn 30 (.mv (.t 0)),qn 31 (.nck (.t 30)),qn 32 (.fad 1 (.t 31)),qn 33 (.ld (.t 32)),qn 34 (.bin .sub (.t 33) (.c (.int .i64 1))),qn 35 (.iad 1 (.t 29) (.t 34)),qn 36 (.ld (.t 35)),qn 37 (.cvi .i64 (.t 36)),qn 38 (.mv (.t 1)),qn 39 (.bin .rem (.t 37) (.t 38)),qn 4 (.mv (.t 39))]) .ret)))
def yP:PFn:=⟨40,[],wj,[.tmp 4],[.n]⟩
def z5c:zb:=.seq (.reg [u_ 21 (.ldn 13 (.t 9)),(⟨none,.st 13 (.t 8) (.t 21),none⟩,⟨.n,[]⟩)]) .ret
def z8r:zb:=.seq (.reg [(⟨some 8,.newc [.int .i64 0,.int .i64 0,.int .i64 0,.int .i64 0,.int .i64 0,.int .i64 0,.nils,.int .i64 0,.int .i64 0,.int .i64 0,.int .i64 0,.int .i64 0,.nils],none⟩,⟨.s 13,[]⟩)]) (.seq (.reg [u_ 10 (.mv (.t 0)),u_ 11 (.mv (.t 1)),u_ 12 (.mv (.t 2)),u_ 13 (.mv (.t 3)),u_ 14 (.build [.int .i64 0,.int .i64 0,.int .i64 0,.int .i64 0,.int .i64 0,.int .i64 0,.nils,.int .i64 0,.int .i64 0,.int .i64 0,.int .i64 0,.int .i64 0,.nils] [(0,1,.t 10),(1,1,.t 11),(2,1,.t 12),(5,1,.t 13)]),(⟨some 9,.newc [.int .i64 0,.int .i64 0,.int .i64 0,.int .i64 0,.int .i64 0,.int .i64 0,.nils,.int .i64 0,.int .i64 0,.int .i64 0,.int .i64 0,.int .i64 0,.nils],none⟩,⟨.s 13,[]⟩),(⟨none,.st 13 (.t 9) (.t 14),none⟩,⟨.n,[]⟩)]) (.seq (.seq (.reg [u_ 15 (.mv (.t 0)),u_ 16 (.bin .eql (.t 15) (.c (.int .i64 1)))]) (.cond (.t 16) (.fin (.reg [(⟨some 17,.bsl 1 [.int .i64 0] 1 [(0,1,.c (.int .i64 1))],none⟩,⟨.f,[]⟩),u_ 18 (.mv (.t 2)),u_ 19 (.fad 6 (.t 9)),(⟨none,.st 1 (.t 19) (.t 17),none⟩,⟨.n,[]⟩),u_ 20 (.fad 8 (.t 9)),(⟨none,.st 1 (.t 20) (.t 18),none⟩,⟨.n,[]⟩)]) [] [] [8,9] [(8,8),(9,9)]) (.fin .skip [] [] [8,9] [(8,8),(9,9)]))) z5c))
def Qe:PFn:=⟨22,[],z8r,[.cell 8 (some 13)],[.n]⟩
def kM:zb:=.seq (.reg [u_ 21 (.ldn 13 (.t 9)),(⟨none,.st 13 (.t 8) (.t 21),none⟩,⟨.n,[]⟩)]) .ret
def Yr:zb:=.seq (.reg [(⟨some 8,.newc [.int .i64 0,.int .i64 0,.int .i64 0,.int .i64 0,.int .i64 0,.int .i64 0,.nils,.int .i64 0,.int .i64 0,.int .i64 0,.int .i64 0,.int .i64 0,.nils],none⟩,⟨.s 13,[]⟩)]) (.seq (.reg [u_ 10 (.mv (.t 0)),u_ 11 (.mv (.t 1)),u_ 12 (.mv (.t 2)),u_ 13 (.mv (.t 3)),u_ 14 (.build [.int .i64 0,.int .i64 0,.int .i64 0,.int .i64 0,.int .i64 0,.int .i64 0,.nils,.int .i64 0,.int .i64 0,.int .i64 0,.int .i64 0,.int .i64 0,.nils] [(0,1,.t 10),(1,1,.t 11),(2,1,.t 12),(5,1,.t 13)]),(⟨some 9,.newc [.int .i64 0,.int .i64 0,.int .i64 0,.int .i64 0,.int .i64 0,.int .i64 0,.nils,.int .i64 0,.int .i64 0,.int .i64 0,.int .i64 0,.int .i64 0,.nils],none⟩,⟨.s 13,[]⟩),(⟨none,.st 13 (.t 9) (.t 14),none⟩,⟨.n,[]⟩)]) (.seq (.seq (.reg [u_ 15 (.mv (.t 0)),u_ 16 (.bin .eql (.t 15) (.c (.int .i64 1)))]) (.cond (.t 16) (.fin (.reg [(⟨some 17,.bsl 1 [.int .i64 0] 1 [(0,1,.c (.int .i64 1))],none⟩,⟨.f,[]⟩),u_ 18 (.mv (.t 2)),u_ 19 (.fad 6 (.t 9)),(⟨none,.st 1 (.t 19) (.t 17),none⟩,⟨.n,[]⟩),u_ 20 (.fad 8 (.t 9)),(⟨none,.st 1 (.t 20) (.t 18),none⟩,⟨.n,[]⟩)]) [] [] [8,9] [(8,8),(9,9)]) (.fin .skip [] [] [8,9] [(8,8),(9,9)]))) kM))
def xX:PFn:=⟨22,[],Yr,[.cell 8 (some 13)],[.n]⟩
def vI:zb:=.seq (.reg [u_ 2 (.mv (.c (.bool false)))]) (.seq (.dreg 0 [qn 3 (.mv (.t 0)),qn 4 (.nck (.t 3)),qn 5 (.fad 1 (.t 4)),qn 6 (.ld (.t 5)),qn 7 (.mv (.t 0)),qn 8 (.nck (.t 7)),qn 9 (.fad 0 (.t 8)),qn 10 (.ld (.t 9)),qn 11 (.len (.t 10)),qn 12 (.bin .geq (.t 6) (.t 11)),qn 2 (.mv (.t 12))]) .ret)
def yE:PFn:=⟨13,[],vI,[.tmp 2],[.n]⟩
def z45:zb:=.seq (.reg [u_ 91 (.mv (.t 4)),u_ 92 (.call (.c (.fn 41 [] [])) [.t 91])]) (.seq (.reg [u_ 93 (.mv (.t 4)),u_ 94 (.call (.c (.fn 42 [] [])) [.t 93])]) (.seq (.dreg 0 [qn 95 (.mv (.t 4)),qn 96 (.nck (.t 95)),qn 97 (.fad 0 (.t 96)),qn 98 (.ldn 13 (.t 97)),qn 99 (.mv (.t 4)),qn 100 (.nck (.t 99)),qn 101 (.fad 13 (.t 100)),qn 102 (.ld (.t 101)),((⟨none,.st 13 (.t 2) (.t 98),none⟩,.ef [7]),⟨.n,[]⟩),qn 3 (.mv (.t 102))]) (.hf 3 10 .ret)))
def z6S:zb:=.seq (.reg [(⟨some 1,.box (.t 0),none⟩,⟨.s 13,[]⟩),(⟨some 2,.newc [.int .i64 0,.int .i64 0,.int .i64 0,.int .i64 0,.int .i64 0,.int .i64 0,.nils,.int .i64 0,.int .i64 0,.int .i64 0,.int .i64 0,.int .i64 0,.nils],none⟩,⟨.s 13,[]⟩),u_ 3 (.mv (.c .nils))]) (.seq (.reg [u_ 5 (.ldn 13 (.t 1)),u_ 6 (.call (.c (.fn 38 [] [])) [.t 5]),u_ 4 (.mv (.t 6))]) (.seq (.reg [u_ 7 (.mv (.t 4)),u_ 8 (.nck (.t 7)),u_ 9 (.fad 0 (.t 8)),u_ 10 (.fad 2 (.t 9)),u_ 11 (.ld (.t 10)),u_ 12 (.bin .add (.t 11) (.c (.int .i64 1))),u_ 13 (.nck (.t 7)),u_ 14 (.fad 0 (.t 13)),u_ 15 (.fad 2 (.t 14)),(⟨none,.st 1 (.t 15) (.t 12),none⟩,⟨.n,[]⟩)]) (.seq (.dreg 0 [qn 16 (.mv (.t 4)),qn 17 (.mv (.t 4)),qn 18 (.nck (.t 17)),qn 19 (.fad 0 (.t 18)),qn 20 (.fad 12 (.t 19)),qn 21 (.ld (.t 20)),qn 22 (.mv (.t 4)),qn 23 (.nck (.t 22)),qn 24 (.fad 0 (.t 23)),qn 25 (.fad 2 (.t 24)),qn 26 (.ld (.t 25)),((⟨some 27,.call (.c (.fn 39 [] [])) [.t 21,.t 26],none⟩,.ef []),⟨.n,[]⟩),qn 28 (.nck (.t 16)),qn 29 (.fad 0 (.t 28)),qn 30 (.fad 12 (.t 29)),((⟨none,.st 1 (.t 30) (.t 27),none⟩,.ef []),⟨.n,[]⟩)]) (.seq (.block 0 (.seq (.reg [u_ 32 (.mv (.t 4)),u_ 33 (.nck (.t 32)),u_ 34 (.fad 0 (.t 33)),u_ 35 (.fad 0 (.t 34)),u_ 36 (.ld (.t 35)),u_ 37 (.bin .eql (.t 36) (.c (.int .i64 1))),u_ 38 (.mv (.t 37)),ug 39 38 true (.mv (.t 4)),ug 40 38 true (.nck (.t 39)),ug 41 38 true (.fad 0 (.t 40)),ug 42 38 true (.fad 2 (.t 41)),ug 43 38 true (.ld (.t 42)),ug 44 38 true (.bin .rem (.t 43) (.c (.int .i64 2))),ug 45 38 true (.bin .eql (.t 44) (.c (.int .i64 0))),u_ 46 (.pick (.t 38) (.t 45) (.c (.bool false))),u_ 31 (.mv (.t 46))]) (.fin (.cond (.t 31) (.fin (.dreg 0 [qn 47 (.mv (.t 4)),qn 48 (.mv (.t 4)),qn 49 (.mv (.t 4)),qn 50 (.nck (.t 49)),qn 51 (.fad 0 (.t 50)),qn 52 (.fad 7 (.t 51)),qn 53 (.ld (.t 52)),qn 54 (.bin .add (.t 53) (.c (.int .i64 1))),qn 55 (.mv (.t 4)),qn 56 (.nck (.t 55)),qn 57 (.fad 0 (.t 56)),qn 58 (.fad 2 (.t 57)),qn 59 (.ld (.t 58)),qn 60 (.nck (.t 47)),qn 61 (.fad 0 (.t 60)),qn 62 (.fad 7 (.t 61)),((⟨none,.st 1 (.t 62) (.t 54),none⟩,.ef []),⟨.n,[]⟩),qn 63 (.nck (.t 48)),qn 64 (.fad 0 (.t 63)),qn 65 (.fad 8 (.t 64)),((⟨none,.st 1 (.t 65) (.t 59),none⟩,.ef []),⟨.n,[]⟩)]) [] [] [2,4] [(2,2)]) (.seq (.reg [u_ 67 (.mv (.t 4)),u_ 68 (.nck (.t 67)),u_ 69 (.fad 0 (.t 68)),u_ 70 (.fad 0 (.t 69)),u_ 71 (.ld (.t 70)),u_ 72 (.bin .neq (.t 71) (.c (.int .i64 1))),u_ 73 (.mv (.t 72)),ug 74 73 true (.mv (.t 4)),ug 75 73 true (.nck (.t 74)),ug 76 73 true (.fad 0 (.t 75)),ug 77 73 true (.fad 3 (.t 76)),ug 78 73 true (.ld (.t 77)),ug 79 73 true (.bin .neq (.t 78) (.c (.int .i64 0))),u_ 80 (.pick (.t 73) (.t 79) (.c (.bool false))),u_ 81 (.mv (.t 80)),ug 82 81 true (.mv (.t 4)),ug 83 81 true (.nck (.t 82)),ug 84 81 true (.fad 0 (.t 83)),ug 85 81 true (.ldn 13 (.t 84)),ug 86 81 true (.call (.c (.fn 25 [] [])) [.t 85]),ug 87 81 true (.un .not (.t 86)),u_ 88 (.pick (.t 81) (.t 87) (.c (.bool false))),u_ 66 (.mv (.t 88))]) (.fin (.cond (.t 66) (.fin (.reg [u_ 89 (.mv (.t 4)),u_ 90 (.call (.c (.fn 40 [] [])) [.t 89,.c (.int .i64 0)])]) [] [] [2,4] [(2,2)]) (.fin .skip [] [] [2,4] [(2,2)])) [] [] [2,4] [(2,2)]))) [] [] [2,4] [(2,2)]))) z45))))
def Ys:PFn:=⟨103,[],z6S,[.cell 2 (some 13),.tmp 3],[.n,.f 10]⟩
def jX:zb:=.fin (.reg [u_ 86 (.mv (.t 5)),u_ 87 (.ldn 13 (.t 1)),u_ 88 (.fad 9 (.t 1)),u_ 89 (.ld (.t 88)),u_ 90 (.call (.c (.fn 45 [] [])) [.t 87,.c (.int .i64 1),.t 89]),(⟨some 91,.bsl 10 [.int .i64 0,.int .i64 0,.int .i64 0,.int .i64 0,.int .i64 0,.int .i64 0,.nils,.int .i64 0,.int .i64 0,.str []] 1 [(0,10,.t 90)],none⟩,⟨.f,[]⟩),(⟨some 92,.app 10 104 [.int .i64 0,.int .i64 0,.int .i64 0,.int .i64 0,.int .i64 0,.int .i64 0,.nils,.int .i64 0,.int .i64 0,.str []] (.t 86) (.t 91),none⟩,⟨.s 10,[]⟩),u_ 5 (.mv (.t 92))]) [] [] [1,2,4,5] [(1,1),(2,2),(92,5)]
def qx:zb:=.seq (.reg [u_ 60 (.fad 9 (.t 1)),u_ 61 (.ld (.t 60)),u_ 62 (.bin .eql (.t 61) (.c (.int .i64 0)))]) (.fin (.cond (.t 62) (.seq (.reg [u_ 63 (.fad 2 (.t 1)),u_ 64 (.ld (.t 63)),u_ 65 (.bin .add (.t 64) (.c (.int .i64 3))),u_ 66 (.fad 9 (.t 1)),(⟨none,.st 1 (.t 66) (.c (.int .i64 1)),none⟩,⟨.n,[]⟩),u_ 67 (.fad 10 (.t 1)),(⟨none,.st 1 (.t 67) (.t 65),none⟩,⟨.n,[]⟩)]) (.seq (.seq (.reg [u_ 68 (.fad 11 (.t 1)),u_ 69 (.ld (.t 68)),u_ 70 (.bin .eql (.t 69) (.c (.int .i64 0))),u_ 71 (.mv (.t 70)),ug 72 71 true (.fad 5 (.t 1)),ug 73 71 true (.ld (.t 72)),ug 74 71 true (.bin .neq (.t 73) (.c (.int .i64 0))),u_ 75 (.pick (.t 71) (.t 74) (.c (.bool false))),u_ 76 (.mv (.t 75)),ug 77 76 true (.fad 5 (.t 1)),ug 78 76 true (.ld (.t 77)),ug 79 76 true (.fad 0 (.t 1)),ug 80 76 true (.ld (.t 79)),ug 81 76 true (.bin .neq (.t 78) (.t 80)),u_ 82 (.pick (.t 76) (.t 81) (.c (.bool false)))]) (.cond (.t 82) (.fin (.reg [u_ 83 (.fad 5 (.t 1)),u_ 84 (.ld (.t 83)),u_ 85 (.fad 9 (.t 1)),(⟨none,.st 1 (.t 85) (.t 84),none⟩,⟨.n,[]⟩)]) [] [] [1,2,4,5] [(1,1),(2,2)]) (.fin .skip [] [] [1,2,4,5] [(1,1),(2,2)]))) jX)) (.fin .skip [(5,10)] [] [1,2,4,5] [(1,1),(2,2),(5,5)])) [] [] [1,2,4,5] [(1,1),(2,2),(5,5)])
def qy:zb:=.seq (.reg [u_ 42 (.fad 3 (.t 1)),u_ 43 (.ld (.t 42)),u_ 44 (.bin .eql (.t 43) (.c (.int .i64 0)))]) (.fin (.cond (.t 44) (.seq (.seq (.reg [u_ 45 (.fad 9 (.t 1)),u_ 46 (.ld (.t 45)),u_ 47 (.bin .neq (.t 46) (.c (.int .i64 0))),u_ 48 (.mv (.t 47)),ug 49 48 true (.fad 2 (.t 1)),ug 50 48 true (.ld (.t 49)),ug 51 48 true (.fad 10 (.t 1)),ug 52 48 true (.ld (.t 51)),ug 53 48 true (.bin .geq (.t 50) (.t 52)),u_ 54 (.pick (.t 48) (.t 53) (.c (.bool false)))]) (.cond (.t 54) (.fin (.reg [u_ 55 (.fad 11 (.t 1)),u_ 56 (.ld (.t 55)),u_ 57 (.bin .add (.t 56) (.c (.int .i64 1))),u_ 58 (.fad 9 (.t 1)),(⟨none,.st 1 (.t 58) (.c (.int .i64 0)),none⟩,⟨.n,[]⟩),u_ 59 (.fad 11 (.t 1)),(⟨none,.st 1 (.t 59) (.t 57),none⟩,⟨.n,[]⟩)]) [] [] [1,2,4,5] [(1,1),(2,2)]) (.fin .skip [] [] [1,2,4,5] [(1,1),(2,2)]))) qx) (.fin .skip [(5,10)] [] [1,2,4,5] [(1,1),(2,2),(5,5)])) [] [] [1,2,4,5] [(1,1),(2,2),(5,5)])
def yl:zb:=.seq (.seq (.reg [u_ 107 (.mv (.t 6)),u_ 108 (.fad 12 (.t 1)),u_ 109 (.ld (.t 108)),u_ 110 (.len (.t 109)),u_ 111 (.bin .lss (.t 107) (.t 110)),u_ 112 (.mv (.t 111)),ug 113 112 true (.ldn 13 (.t 1)),ug 114 112 true (.call (.c (.fn 26 [] [])) [.t 113]),u_ 115 (.pick (.t 112) (.t 114) (.c (.bool false)))]) (.cond (.t 115) .skip (.keep [1,2,5] [(1,1),(2,2),(5,5)] (.exit 0)))) (.seq (.block 1 (.dreg 1 [qn 118 (.mv (.t 5)),qn 119 (.ldn 13 (.t 1)),qn 120 (.fad 12 (.t 1)),qn 121 (.ld (.t 120)),qn 122 (.mv (.t 6)),qn 123 (.iad 3 (.t 121) (.t 122)),qn 124 (.fad 0 (.t 123)),qn 125 (.ld (.t 124)),((⟨some 126,.call (.c (.fn 46 [] [])) [.t 119,.c (.int .i64 5),.t 125],none⟩,.ef []),⟨.n,[]⟩),((⟨some 127,.bsl 10 [.int .i64 0,.int .i64 0,.int .i64 0,.int .i64 0,.int .i64 0,.int .i64 0,.nils,.int .i64 0,.int .i64 0,.str []] 1 [(0,10,.t 126)],none⟩,.al 0),⟨.f,[]⟩),((⟨some 128,.app 10 104 [.int .i64 0,.int .i64 0,.int .i64 0,.int .i64 0,.int .i64 0,.int .i64 0,.nils,.int .i64 0,.int .i64 0,.str []] (.t 118) (.t 127),none⟩,.ef []),⟨.s 10,[]⟩),qn 5 (.mv (.t 128))])) (.fin (.reg [u_ 116 (.mv (.t 6)),u_ 117 (.bin .add (.t 116) (.c (.int .i64 1))),u_ 6 (.mv (.t 117))]) [] [] [1,2,5,6] [(1,1),(2,2),(5,5)]))
def jY:zb:=.seq (.reg [u_ 129 (.ldn 13 (.t 1)),u_ 130 (.mv (.t 5)),(⟨none,.st 13 (.t 2) (.t 129),none⟩,⟨.n,[]⟩),u_ 3 (.mv (.t 130))]) .ret
def jZ:zb:=.seq (.seq (.reg [u_ 6 (.mv (.c (.int .i64 0)))]) (.block 0 (.keep [1,2,5,6] [(1,1),(2,2),(5,5)] (.loop yl)))) jY
def qz:zb:=.seq (.seq (.reg [u_ 93 (.mv (.t 4)),u_ 94 (.un .not (.t 93))]) (.cond (.t 94) (.seq (.reg [u_ 95 (.ldn 13 (.t 1)),u_ 96 (.mv (.t 5)),(⟨none,.st 13 (.t 2) (.t 95),none⟩,⟨.n,[]⟩),u_ 3 (.mv (.t 96))]) .ret) .skip)) (.seq (.seq (.reg [u_ 97 (.fad 3 (.t 1)),u_ 98 (.ld (.t 97)),u_ 99 (.bin .neq (.t 98) (.c (.int .i64 0)))]) (.cond (.t 99) (.fin (.reg [u_ 100 (.mv (.t 5)),u_ 101 (.ldn 13 (.t 1)),u_ 102 (.fad 3 (.t 1)),u_ 103 (.ld (.t 102)),u_ 104 (.call (.c (.fn 45 [] [])) [.t 101,.c (.int .i64 4),.t 103]),(⟨some 105,.bsl 10 [.int .i64 0,.int .i64 0,.int .i64 0,.int .i64 0,.int .i64 0,.int .i64 0,.nils,.int .i64 0,.int .i64 0,.str []] 1 [(0,10,.t 104)],none⟩,⟨.f,[]⟩),(⟨some 106,.app 10 104 [.int .i64 0,.int .i64 0,.int .i64 0,.int .i64 0,.int .i64 0,.int .i64 0,.nils,.int .i64 0,.int .i64 0,.str []] (.t 100) (.t 105),none⟩,⟨.s 10,[]⟩),u_ 5 (.mv (.t 106))]) [] [] [1,2,5] [(1,1),(2,2),(5,5)]) (.fin .skip [] [] [1,2,5] [(1,1),(2,2),(5,5)]))) jZ)
def ZY:zb:=.seq (.reg [(⟨some 1,.box (.t 0),none⟩,⟨.s 13,[]⟩),(⟨some 2,.newc [.int .i64 0,.int .i64 0,.int .i64 0,.int .i64 0,.int .i64 0,.int .i64 0,.nils,.int .i64 0,.int .i64 0,.int .i64 0,.int .i64 0,.int .i64 0,.nils],none⟩,⟨.s 13,[]⟩),u_ 3 (.mv (.c .nils))]) (.seq (.reg [u_ 7 (.fad 2 (.t 1)),u_ 8 (.ld (.t 7)),u_ 9 (.bin .add (.t 8) (.c (.int .i64 1))),u_ 10 (.fad 2 (.t 1)),(⟨none,.st 1 (.t 10) (.t 9),none⟩,⟨.n,[]⟩)]) (.seq (.reg [u_ 11 (.fad 12 (.t 1)),u_ 12 (.ld (.t 11)),u_ 13 (.fad 2 (.t 1)),u_ 14 (.ld (.t 13)),u_ 15 (.call (.c (.fn 43 [] [])) [.t 12,.t 14]),u_ 16 (.fad 12 (.t 1)),(⟨none,.st 1 (.t 16) (.t 15),none⟩,⟨.n,[]⟩)]) (.seq (.reg [u_ 17 (.fad 2 (.t 1)),u_ 18 (.ld (.t 17)),u_ 19 (.bin .rem (.t 18) (.c (.int .i64 2))),u_ 20 (.bin .eql (.t 19) (.c (.int .i64 0))),u_ 4 (.mv (.t 20))]) (.seq (.reg [u_ 5 (.mv (.c .nils))]) (.seq (.seq (.reg [u_ 21 (.fad 0 (.t 1)),u_ 22 (.ld (.t 21)),u_ 23 (.bin .eql (.t 22) (.c (.int .i64 1)))]) (.cond (.t 23) (.seq (.reg [u_ 24 (.mv (.t 4))]) (.fin (.cond (.t 24) (.fin (.reg [u_ 25 (.fad 7 (.t 1)),u_ 26 (.ld (.t 25)),u_ 27 (.bin .add (.t 26) (.c (.int .i64 1))),u_ 28 (.fad 2 (.t 1)),u_ 29 (.ld (.t 28)),u_ 30 (.fad 7 (.t 1)),(⟨none,.st 1 (.t 30) (.t 27),none⟩,⟨.n,[]⟩),u_ 31 (.fad 8 (.t 1)),(⟨none,.st 1 (.t 31) (.t 29),none⟩,⟨.n,[]⟩)]) [] [] [1,2,4,5] [(1,1),(2,2)]) (.fin .skip [] [] [1,2,4,5] [(1,1),(2,2)])) [(5,10)] [] [1,2,4,5] [(1,1),(2,2),(5,5)])) (.seq (.seq (.reg [u_ 32 (.fad 3 (.t 1)),u_ 33 (.ld (.t 32)),u_ 34 (.bin .neq (.t 33) (.c (.int .i64 0))),u_ 35 (.mv (.t 34)),ug 36 35 true (.ldn 13 (.t 1)),ug 37 35 true (.call (.c (.fn 26 [] [])) [.t 36]),ug 38 35 true (.un .not (.t 37)),u_ 39 (.pick (.t 35) (.t 38) (.c (.bool false)))]) (.cond (.t 39) (.fin (.reg [u_ 40 (.ldn 13 (.t 1)),u_ 41 (.call (.c (.fn 44 [] [])) [.t 40,.c (.int .i64 0)]),(⟨none,.st 13 (.t 1) (.t 41),none⟩,⟨.n,[]⟩)]) [] [] [1,2,4,5] [(1,1),(2,2)]) (.fin .skip [] [] [1,2,4,5] [(1,1),(2,2)]))) qy))) qz)))))
def xF:PFn:=⟨131,[],ZY,[.cell 2 (some 13),.tmp 3],[.n,.f 10]⟩
def qI:zb:=.fin (.cond (.t 64) (.seq (.reg [u_ 67 (.mv (.t 0)),u_ 68 (.call (.c (.fn 13 [] [])) [.t 67,.c (.int .i64 9)]),u_ 69 (.bin .add (.c (.int .i64 1)) (.t 68)),u_ 70 (.fad 7 (.t 6)),(⟨none,.st 1 (.t 70) (.t 69),none⟩,⟨.n,[]⟩)]) (.fin (.dreg 0 [qn 71 (.fad 7 (.t 6)),qn 72 (.ld (.t 71)),qn 73 (.mv (.t 0)),((⟨some 74,.call (.c (.fn 13 [] [])) [.t 73,.c (.int .i64 6)],none⟩,.ef [1]),⟨.n,[]⟩),qn 75 (.bin .add (.t 72) (.t 74)),qn 76 (.fad 8 (.t 6)),((⟨none,.st 1 (.t 76) (.t 75),none⟩,.ef []),⟨.n,[]⟩)]) [] [] [4,6] [(4,4),(6,6)])) (.fin .skip [] [] [4,6] [(4,4),(6,6)])) [] [] [4,6] [(4,4),(6,6)]
def qJ:zb:=.seq (.reg [u_ 77 (.ldn 10 (.t 6)),(⟨none,.st 10 (.t 4) (.t 77),none⟩,⟨.n,[]⟩)]) .ret
def xo:zb:=.seq (.reg [u_ 16 (.mv (.t 0)),u_ 17 (.call (.c (.fn 13 [] [])) [.t 16,.c (.int .i64 9)]),u_ 18 (.bin .add (.c (.int .i64 1)) (.t 17)),u_ 19 (.mv (.t 5)),u_ 20 (.mv (.t 1)),u_ 21 (.mv (.t 0)),u_ 22 (.call (.c (.fn 13 [] [])) [.t 21,.c (.int .i64 3)]),u_ 23 (.bin .add (.c (.int .i64 1)) (.t 22)),u_ 24 (.build [.int .i64 0,.int .i64 0,.int .i64 0,.int .i64 0,.int .i64 0,.int .i64 0,.nils,.int .i64 0,.int .i64 0,.str []] [(0,1,.t 18),(1,1,.t 19),(2,1,.t 20),(3,1,.t 23)]),(⟨some 6,.newc [.int .i64 0,.int .i64 0,.int .i64 0,.int .i64 0,.int .i64 0,.int .i64 0,.nils,.int .i64 0,.int .i64 0,.str []],none⟩,⟨.s 10,[]⟩),(⟨none,.st 10 (.t 6) (.t 24),none⟩,⟨.n,[]⟩)]) (.seq (.seq (.reg [u_ 25 (.fad 0 (.t 6)),u_ 26 (.ld (.t 25))]) (.block 0 (.seq (.reg [u_ 28 (.bin .eql (.t 26) (.c (.int .i64 2))),u_ 27 (.mv (.t 28))]) (.fin (.cond (.t 27) (.fin (.reg [u_ 29 (.mv (.t 0)),u_ 30 (.call (.c (.fn 13 [] [])) [.t 29,.c (.int .i64 20)]),u_ 31 (.mv (.t 0)),u_ 32 (.call (.c (.fn 13 [] [])) [.t 31,.c (.int .i64 25)]),u_ 33 (.mv (.t 0)),u_ 34 (.call (.c (.fn 21 [] [])) [.t 33]),u_ 35 (.mv (.t 0)),u_ 36 (.call (.c (.fn 13 [] [])) [.t 35,.c (.int .i64 9)]),u_ 37 (.fad 4 (.t 6)),(⟨none,.st 1 (.t 37) (.t 30),none⟩,⟨.n,[]⟩),u_ 38 (.fad 5 (.t 6)),(⟨none,.st 1 (.t 38) (.t 32),none⟩,⟨.n,[]⟩),u_ 39 (.fad 6 (.t 6)),(⟨none,.st 1 (.t 39) (.t 34),none⟩,⟨.n,[]⟩),u_ 40 (.fad 7 (.t 6)),(⟨none,.st 1 (.t 40) (.t 36),none⟩,⟨.n,[]⟩)]) [] [] [4,6] [(4,4),(6,6)]) (.seq (.reg [u_ 42 (.bin .eql (.t 26) (.c (.int .i64 5))),u_ 41 (.mv (.t 42))]) (.fin (.cond (.t 41) (.fin (.reg [u_ 43 (.mv (.t 0)),u_ 44 (.call (.c (.fn 13 [] [])) [.t 43,.c (.int .i64 20)]),u_ 45 (.mv (.t 0)),u_ 46 (.call (.c (.fn 13 [] [])) [.t 45,.c (.int .i64 25)]),u_ 47 (.mv (.t 0)),u_ 48 (.call (.c (.fn 21 [] [])) [.t 47]),u_ 49 (.mv (.t 0)),u_ 50 (.call (.c (.fn 13 [] [])) [.t 49,.c (.int .i64 12)]),u_ 51 (.fad 4 (.t 6)),(⟨none,.st 1 (.t 51) (.t 44),none⟩,⟨.n,[]⟩),u_ 52 (.fad 5 (.t 6)),(⟨none,.st 1 (.t 52) (.t 46),none⟩,⟨.n,[]⟩),u_ 53 (.fad 6 (.t 6)),(⟨none,.st 1 (.t 53) (.t 48),none⟩,⟨.n,[]⟩),u_ 54 (.fad 8 (.t 6)),(⟨none,.st 1 (.t 54) (.t 50),none⟩,⟨.n,[]⟩)]) [] [] [4,6] [(4,4),(6,6)]) (.seq (.reg [u_ 56 (.bin .eql (.t 26) (.c (.int .i64 7))),u_ 55 (.mv (.t 56))]) (.fin (.cond (.t 55) (.fin (.reg [u_ 57 (.mv (.t 0)),u_ 58 (.call (.c (.fn 13 [] [])) [.t 57,.c (.int .i64 12)]),u_ 59 (.bin .add (.c (.int .i64 1)) (.t 58)),u_ 60 (.mv (.t 0)),u_ 61 (.call (.c (.fn 47 [] [])) [.t 60]),u_ 62 (.fad 7 (.t 6)),(⟨none,.st 1 (.t 62) (.t 59),none⟩,⟨.n,[]⟩),u_ 63 (.fad 9 (.t 6)),(⟨none,.st 1 (.t 63) (.t 61),none⟩,⟨.n,[]⟩)]) [] [] [4,6] [(4,4),(6,6)]) (.seq (.seq (.reg [u_ 65 (.bin .eql (.t 26) (.c (.int .i64 8))),u_ 64 (.mv (.t 65))]) (.cond (.t 64) (.fin .skip [] [] [0,4,6,64] [(4,4),(6,6)]) (.fin (.reg [u_ 66 (.bin .eql (.t 26) (.c (.int .i64 9))),u_ 64 (.mv (.t 66))]) [] [] [0,4,6,64] [(4,4),(6,6)]))) qI)) [] [] [4,6] [(4,4),(6,6)]))) [] [] [4,6] [(4,4),(6,6)]))) [] [] [4,6] [(4,4),(6,6)])))) qJ)
def wk:zb:=.seq (.reg [(⟨some 4,.newc [.int .i64 0,.int .i64 0,.int .i64 0,.int .i64 0,.int .i64 0,.int .i64 0,.nils,.int .i64 0,.int .i64 0,.str []],none⟩,⟨.s 10,[]⟩)]) (.seq (.reg [u_ 7 (.mv (.t 0)),u_ 8 (.call (.c (.fn 13 [] [])) [.t 7,.c (.int .i64 8)]),u_ 9 (.bin .add (.c (.int .i64 1)) (.t 8)),u_ 5 (.mv (.t 9))]) (.seq (.seq (.reg [u_ 10 (.mv (.t 5)),u_ 11 (.mv (.t 1)),u_ 12 (.bin .eql (.t 10) (.t 11))]) (.cond (.t 12) (.fin (.reg [u_ 13 (.mv (.t 1)),u_ 14 (.bin .rem (.t 13) (.c (.int .i64 8))),u_ 15 (.bin .add (.c (.int .i64 1)) (.t 14)),u_ 5 (.mv (.t 15))]) [] [] [0,1,4,5] [(4,4)]) (.fin .skip [] [] [0,1,4,5] [(4,4)]))) xo))
def yQ:PFn:=⟨78,[],wk,[.cell 4 (some 10)],[.n]⟩
def qo:zb:=.fin (.reg [u_ 12 (.mv (.t 4)),u_ 13 (.bin .sub (.t 12) (.c (.int .i64 1))),u_ 4 (.mv (.t 13))]) [] [] [0,3,4] []
def zP:zb:=.seq (.seq (.reg [u_ 10 (.mv (.t 4)),u_ 11 (.bin .gtr (.t 10) (.c (.int .i64 0)))]) (.cond (.t 11) .skip (.keep [3] [] (.exit 0)))) (.seq (.block 1 (.seq (.reg [u_ 15 (.mv (.t 3)),u_ 16 (.mv (.t 0)),u_ 17 (.call (.c (.fn 13 [] [])) [.t 16,.c (.int .i64 7)]),u_ 18 (.bin .add (.c (.int .i64 2)) (.t 17)),u_ 19 (.call (.c (.fn 35 [] [])) [.t 15,.t 18]),u_ 14 (.mv (.t 19)),u_ 20 (.ext (.t 14) 0),u_ 21 (.ext (.t 14) 1),u_ 5 (.mv (.t 20)),u_ 6 (.mv (.t 21))]) (.seq (.reg [u_ 22 (.mv (.t 6))]) (.fin (.cond (.t 22) (.fin (.reg [u_ 23 (.mv (.t 5)),u_ 3 (.mv (.t 23))]) [] [] [0,3,4] []) (.fin .skip [] [] [0,3,4] [])) [] [] [0,3,4] [])))) qo)
def qp:zb:=.seq (.reg [u_ 24 (.mv (.t 3)),u_ 2 (.mv (.t 24))]) .ret
def vJ:zb:=.seq (.reg [u_ 2 (.mv (.c .nils))]) (.seq (.reg [(⟨some 7,.bsl 1 [.int .i64 0] 1 [(0,1,.c (.int .i64 1))],none⟩,⟨.s 1,[]⟩),u_ 3 (.mv (.t 7))]) (.seq (.seq (.reg [u_ 8 (.mv (.t 0)),u_ 9 (.call (.c (.fn 13 [] [])) [.t 8,.c (.int .i64 4)]),u_ 4 (.mv (.t 9))]) (.block 0 (.frz [3] (.keep [0,3,4] [] (.loop zP))))) qp))
def yF:PFn:=⟨25,[],vJ,[.tmp 2],[.f 1]⟩
def wV:zb:=.seq (.dreg 0 [qn 115 (.mv (.t 8)),qn 116 (.nck (.t 115)),qn 117 (.fad 0 (.t 116)),qn 118 (.ldn 13 (.t 117)),qn 119 (.mv (.t 8)),qn 120 (.nck (.t 119)),qn 121 (.fad 13 (.t 120)),qn 122 (.ld (.t 121)),((⟨none,.st 13 (.t 6) (.t 118),none⟩,.ef [7]),⟨.n,[]⟩),qn 7 (.mv (.t 122))]) (.hf 7 10 .ret)
def wW:zb:=.seq (.seq (.reg [u_ 73 (.fad 0 (.t 4)),u_ 74 (.ld (.t 73))]) (.block 0 (.seq (.reg [u_ 76 (.bin .eql (.t 74) (.c (.int .i64 1))),u_ 75 (.mv (.t 76))]) (.fin (.cond (.t 75) (.fin (.reg [u_ 77 (.mv (.t 8)),u_ 78 (.ldn 10 (.t 4)),u_ 79 (.mv (.t 2)),u_ 80 (.call (.c (.fn 49 [] [])) [.t 77,.t 78,.t 79])]) [] [] [6,8] [(6,6)]) (.seq (.reg [u_ 82 (.bin .eql (.t 74) (.c (.int .i64 2))),u_ 81 (.mv (.t 82))]) (.fin (.cond (.t 81) (.fin (.reg [u_ 83 (.mv (.t 8)),u_ 84 (.ldn 10 (.t 4)),u_ 85 (.call (.c (.fn 50 [] [])) [.t 83,.t 84])]) [] [] [6,8] [(6,6)]) (.seq (.reg [u_ 87 (.bin .eql (.t 74) (.c (.int .i64 3))),u_ 86 (.mv (.t 87))]) (.fin (.cond (.t 86) (.fin (.reg [u_ 88 (.mv (.t 8)),u_ 89 (.ldn 10 (.t 4)),u_ 90 (.call (.c (.fn 51 [] [])) [.t 88,.t 89])]) [] [] [6,8] [(6,6)]) (.seq (.reg [u_ 92 (.bin .eql (.t 74) (.c (.int .i64 4))),u_ 91 (.mv (.t 92))]) (.fin (.cond (.t 91) (.fin (.reg [u_ 93 (.mv (.t 8)),u_ 94 (.ldn 10 (.t 4)),u_ 95 (.call (.c (.fn 52 [] [])) [.t 93,.t 94])]) [] [] [6,8] [(6,6)]) (.seq (.reg [u_ 97 (.bin .eql (.t 74) (.c (.int .i64 5))),u_ 96 (.mv (.t 97))]) (.fin (.cond (.t 96) (.fin (.reg [u_ 98 (.mv (.t 8)),u_ 99 (.ldn 10 (.t 4)),u_ 100 (.call (.c (.fn 53 [] [])) [.t 98,.t 99])]) [] [] [6,8] [(6,6)]) (.seq (.reg [u_ 102 (.bin .eql (.t 74) (.c (.int .i64 6))),u_ 101 (.mv (.t 102))]) (.fin (.cond (.t 101) (.fin (.dreg 0 [qn 103 (.mv (.t 8)),qn 104 (.mv (.t 8)),qn 105 (.nck (.t 104)),qn 106 (.fad 0 (.t 105)),qn 107 (.fad 12 (.t 106)),qn 108 (.ld (.t 107)),qn 109 (.fad 1 (.t 4)),qn 110 (.ld (.t 109)),((⟨some 111,.call (.c (.fn 54 [] [])) [.t 108,.t 110],none⟩,.ef []),⟨.n,[]⟩),qn 112 (.nck (.t 103)),qn 113 (.fad 0 (.t 112)),qn 114 (.fad 12 (.t 113)),((⟨none,.st 1 (.t 114) (.t 111),none⟩,.ef []),⟨.n,[]⟩)]) [] [] [6,8] [(6,6)]) (.fin .skip [] [] [6,8] [(6,6)])) [] [] [6,8] [(6,6)]))) [] [] [6,8] [(6,6)]))) [] [] [6,8] [(6,6)]))) [] [] [6,8] [(6,6)]))) [] [] [6,8] [(6,6)]))) [] [] [6,8] [(6,6)])))) wV
def z0R:zb:=.seq (.reg [(⟨some 3,.box (.t 0),none⟩,⟨.s 13,[]⟩),(⟨some 4,.box (.t 1),none⟩,⟨.s 10,[]⟩),(⟨some 6,.newc [.int .i64 0,.int .i64 0,.int .i64 0,.int .i64 0,.int .i64 0,.int .i64 0,.nils,.int .i64 0,.int .i64 0,.int .i64 0,.int .i64 0,.int .i64 0,.nils],none⟩,⟨.s 13,[]⟩),u_ 7 (.mv (.c .nils))]) (.seq (.reg [u_ 9 (.ldn 13 (.t 3)),u_ 10 (.call (.c (.fn 38 [] [])) [.t 9]),u_ 8 (.mv (.t 10))]) (.seq (.seq (.dreg 0 [qn 11 (.mv (.t 8)),qn 12 (.nck (.t 11)),qn 13 (.fad 0 (.t 12)),qn 14 (.fad 12 (.t 13)),qn 15 (.ld (.t 14)),qn 16 (.fad 1 (.t 4)),qn 17 (.ld (.t 16)),qn 18 (.fad 3 (.t 4)),qn 19 (.ld (.t 18)),((⟨some 20,.call (.c (.fn 48 [] [])) [.t 15,.t 17,.t 19],none⟩,.ef []),⟨.n,[]⟩),qn 21 (.mv (.t 20)),qg 22 21 false (.fad 1 (.t 4)),qg 23 21 false (.ld (.t 22)),qg 24 21 false (.mv (.t 8)),qg 25 21 false (.nck (.t 24)),qg 26 21 false (.fad 0 (.t 25)),qg 27 21 false (.fad 3 (.t 26)),qg 28 21 false (.ld (.t 27)),qg 29 21 false (.bin .eql (.t 23) (.t 28)),qg 30 21 false (.mv (.t 29)),qg 31 30 true (.fad 3 (.t 4)),qg 32 30 true (.ld (.t 31)),qg 33 30 true (.mv (.t 8)),qg 34 30 true (.nck (.t 33)),qg 35 30 true (.fad 0 (.t 34)),qg 36 30 true (.fad 4 (.t 35)),qg 37 30 true (.ld (.t 36)),qg 38 30 true (.bin .lss (.t 32) (.t 37)),qg 39 21 false (.pick (.t 30) (.t 38) (.c (.bool false))),qn 40 (.pick (.t 21) (.c (.bool true)) (.t 39))]) (.cond (.t 40) (.seq (.reg [u_ 41 (.mv (.t 8)),u_ 42 (.nck (.t 41)),u_ 43 (.fad 0 (.t 42)),u_ 44 (.ldn 13 (.t 43)),(⟨none,.st 13 (.t 6) (.t 44),none⟩,⟨.n,[]⟩),u_ 7 (.mv (.c .nils))]) .ret) .skip)) (.seq (.seq (.dreg 0 [qn 45 (.mv (.t 8)),qn 46 (.nck (.t 45)),qn 47 (.fad 0 (.t 46)),qn 48 (.fad 3 (.t 47)),qn 49 (.ld (.t 48)),qn 50 (.bin .neq (.t 49) (.c (.int .i64 0))),qn 51 (.mv (.t 50)),qg 52 51 true (.fad 1 (.t 4)),qg 53 51 true (.ld (.t 52)),qg 54 51 true (.mv (.t 8)),qg 55 51 true (.nck (.t 54)),qg 56 51 true (.fad 0 (.t 55)),qg 57 51 true (.fad 3 (.t 56)),qg 58 51 true (.ld (.t 57)),qg 59 51 true (.bin .eql (.t 53) (.t 58)),qn 60 (.pick (.t 51) (.t 59) (.c (.bool false))),qn 61 (.mv (.t 60)),qg 62 61 true (.fad 3 (.t 4)),qg 63 61 true (.ld (.t 62)),qg 64 61 true (.mv (.t 8)),qg 65 61 true (.nck (.t 64)),qg 66 61 true (.fad 0 (.t 65)),qg 67 61 true (.fad 4 (.t 66)),qg 68 61 true (.ld (.t 67)),qg 69 61 true (.bin .gtr (.t 63) (.t 68)),qn 70 (.pick (.t 61) (.t 69) (.c (.bool false)))]) (.cond (.t 70) (.fin (.reg [u_ 71 (.mv (.t 8)),u_ 72 (.call (.c (.fn 40 [] [])) [.t 71,.c (.int .i64 0)])]) [] [] [2,4,6,8] [(4,4),(6,6)]) (.fin .skip [] [] [2,4,6,8] [(4,4),(6,6)]))) wW)))
def wl:PFn:=⟨123,[],z0R,[.cell 6 (some 13),.tmp 7],[.n,.f 10]⟩
def jG:zb:=.seq (.seq (.reg [u_ 78 (.ldn 13 (.t 3)),u_ 79 (.call (.c (.fn 26 [] [])) [.t 78]),u_ 80 (.un .not (.t 79)),u_ 81 (.mv (.t 80)),ug 82 81 false (.fad 6 (.t 3)),ug 83 81 false (.ld (.t 82)),ug 84 81 false (.fad 1 (.t 4)),ug 85 81 false (.ld (.t 84)),ug 86 81 false (.call (.c (.fn 32 [] [])) [.t 83,.t 85]),u_ 87 (.pick (.t 81) (.c (.bool true)) (.t 86)),u_ 88 (.mv (.t 87)),ug 89 88 false (.mv (.t 10)),ug 90 88 false (.un .not (.t 89)),ug 91 88 false (.mv (.t 90)),ug 92 91 true (.fad 12 (.t 3)),ug 93 91 true (.ld (.t 92)),ug 94 91 true (.len (.t 93)),ug 95 91 true (.mv (.t 11)),ug 96 91 true (.bin .geq (.t 94) (.t 95)),ug 97 88 false (.pick (.t 91) (.t 96) (.c (.bool false))),u_ 98 (.pick (.t 88) (.c (.bool true)) (.t 97))]) (.cond (.t 98) (.seq (.dreg 1 [qn 99 (.ldn 13 (.t 3)),qn 100 (.ldn 13 (.t 3)),qn 101 (.fad 1 (.t 4)),qn 102 (.ld (.t 101)),((⟨some 103,.call (.c (.fn 45 [] [])) [.t 100,.c (.int .i64 3),.t 102],none⟩,.ef [0]),⟨.n,[]⟩),((⟨some 104,.bsl 10 [.int .i64 0,.int .i64 0,.int .i64 0,.int .i64 0,.int .i64 0,.int .i64 0,.nils,.int .i64 0,.int .i64 0,.str []] 1 [(0,10,.t 103)],none⟩,.al 0),⟨.s 10,[]⟩),((⟨none,.st 13 (.t 6) (.t 99),none⟩,.ef [5]),⟨.n,[]⟩),qn 7 (.mv (.t 104))]) (.keep [6,7] [(6,6),(104,7)] .ret)) .skip)) (.seq (.reg [u_ 106 (.fad 12 (.t 3)),u_ 107 (.ld (.t 106)),u_ 108 (.fad 1 (.t 4)),u_ 109 (.ld (.t 108)),u_ 110 (.fad 3 (.t 4)),u_ 111 (.ld (.t 110)),u_ 112 (.fad 2 (.t 3)),u_ 113 (.ld (.t 112)),u_ 114 (.build [.int .i64 0,.int .i64 0,.int .i64 0] [(0,1,.t 109),(1,1,.t 111),(2,1,.t 113)]),u_ 115 (.call (.c (.fn 56 [] [])) [.t 107,.t 114]),u_ 105 (.mv (.t 115)),u_ 116 (.ext (.t 105) 0),u_ 117 (.ext (.t 105) 1),u_ 118 (.fad 12 (.t 3)),(⟨none,.st 1 (.t 118) (.t 116),none⟩,⟨.n,[]⟩)]) (.seq (.reg [u_ 119 (.ldn 13 (.t 3)),u_ 120 (.fad 1 (.t 4)),u_ 121 (.ld (.t 120)),u_ 122 (.call (.c (.fn 46 [] [])) [.t 119,.c (.int .i64 2),.t 121]),(⟨some 12,.newc [.int .i64 0,.int .i64 0,.int .i64 0,.int .i64 0,.int .i64 0,.int .i64 0,.nils,.int .i64 0,.int .i64 0,.str []],none⟩,⟨.s 10,[]⟩),(⟨none,.st 10 (.t 12) (.t 122),none⟩,⟨.n,[]⟩)]) (.seq (.reg [u_ 123 (.mv (.t 2)),u_ 124 (.fad 7 (.t 12)),(⟨none,.st 1 (.t 124) (.t 123),none⟩,⟨.n,[]⟩)]) (.seq (.dreg 1 [qn 125 (.ldn 13 (.t 3)),qn 126 (.ldn 10 (.t 12)),((⟨some 127,.bsl 10 [.int .i64 0,.int .i64 0,.int .i64 0,.int .i64 0,.int .i64 0,.int .i64 0,.nils,.int .i64 0,.int .i64 0,.str []] 1 [(0,10,.t 126)],none⟩,.al 0),⟨.s 10,[]⟩),((⟨none,.st 13 (.t 6) (.t 125),none⟩,.ef [1,2]),⟨.n,[]⟩),qn 7 (.mv (.t 127))]) (.keep [6,7] [(6,6),(127,7)] .ret)))))
def jH:zb:=.seq (.reg [u_ 152 (.mv (.t 8))]) (.fin (.cond (.t 152) (.fin (.reg [u_ 153 (.ldn 13 (.t 3)),u_ 154 (.call (.c (.fn 44 [] [])) [.t 153,.c (.int .i64 0)]),(⟨none,.st 13 (.t 3) (.t 154),none⟩,⟨.n,[]⟩)]) [] [] [3,6] [(3,3),(6,6)]) (.fin .skip [] [] [3,6] [(3,3),(6,6)])) [] [] [3,6] [(3,3),(6,6)])
def jI:zb:=.seq (.reg [u_ 245 (.ldn 13 (.t 3)),(⟨none,.st 13 (.t 6) (.t 245),none⟩,⟨.n,[]⟩),u_ 7 (.mv (.c .nils))]) .ret
def qk:zb:=.seq (.reg [u_ 53 (.fad 3 (.t 3)),u_ 54 (.ld (.t 53)),u_ 55 (.bin .neq (.t 54) (.c (.int .i64 0))),u_ 56 (.mv (.t 55)),ug 57 56 true (.fad 1 (.t 4)),ug 58 56 true (.ld (.t 57)),ug 59 56 true (.fad 3 (.t 3)),ug 60 56 true (.ld (.t 59)),ug 61 56 true (.bin .eql (.t 58) (.t 60)),u_ 62 (.pick (.t 56) (.t 61) (.c (.bool false))),u_ 8 (.mv (.t 62))]) (.seq (.seq (.reg [u_ 63 (.fad 0 (.t 4)),u_ 64 (.ld (.t 63))]) (.block 0 (.seq (.reg [u_ 66 (.bin .eql (.t 64) (.c (.int .i64 1))),u_ 65 (.mv (.t 66))]) (.fin (.cond (.t 65) (.seq (.reg [u_ 68 (.fad 12 (.t 3)),u_ 69 (.ld (.t 68)),u_ 70 (.fad 1 (.t 4)),u_ 71 (.ld (.t 70)),u_ 72 (.call (.c (.fn 34 [] [])) [.t 69,.t 71]),u_ 67 (.mv (.t 72)),u_ 73 (.ext (.t 67) 0),u_ 74 (.ext (.t 67) 1),(⟨some 9,.newc [.int .i64 0,.int .i64 0,.int .i64 0],none⟩,⟨.s 3,[]⟩),(⟨none,.st 3 (.t 9) (.t 73),none⟩,⟨.n,[]⟩),u_ 10 (.mv (.t 74))]) (.seq (.reg [u_ 11 (.mv (.c (.int .i64 3)))]) (.seq (.seq (.reg [u_ 75 (.fad 0 (.t 3)),u_ 76 (.ld (.t 75)),u_ 77 (.bin .eql (.t 76) (.c (.int .i64 1)))]) (.cond (.t 77) (.fin (.reg [u_ 11 (.mv (.c (.int .i64 8)))]) [] [] [2,3,4,6,10,11] [(3,3),(4,4),(6,6)]) (.fin .skip [] [] [2,3,4,6,10,11] [(3,3),(4,4),(6,6)]))) jG))) (.seq (.reg [u_ 129 (.bin .eql (.t 64) (.c (.int .i64 2))),u_ 128 (.mv (.t 129))]) (.cond (.t 128) (.seq (.reg [u_ 130 (.ldn 13 (.t 3)),u_ 131 (.ldn 10 (.t 4)),u_ 132 (.call (.c (.fn 57 [] [])) [.t 130,.t 131]),u_ 133 (.ext (.t 132) 0),u_ 134 (.ext (.t 132) 1),(⟨none,.st 13 (.t 6) (.t 133),none⟩,⟨.n,[]⟩),u_ 7 (.mv (.t 134))]) (.keep [6,7] [(6,6)] .ret)) (.seq (.reg [u_ 136 (.bin .eql (.t 64) (.c (.int .i64 3))),u_ 135 (.mv (.t 136))]) (.cond (.t 135) (.seq (.seq (.reg [u_ 137 (.fad 9 (.t 3)),u_ 138 (.ld (.t 137)),u_ 139 (.bin .neq (.t 138) (.c (.int .i64 0))),u_ 140 (.mv (.t 139)),ug 141 140 true (.fad 9 (.t 3)),ug 142 140 true (.ld (.t 141)),ug 143 140 true (.fad 1 (.t 4)),ug 144 140 true (.ld (.t 143)),ug 145 140 true (.bin .eql (.t 142) (.t 144)),u_ 146 (.pick (.t 140) (.t 145) (.c (.bool false)))]) (.cond (.t 146) (.fin (.reg [u_ 147 (.fad 11 (.t 3)),u_ 148 (.ld (.t 147)),u_ 149 (.bin .add (.t 148) (.c (.int .i64 1))),u_ 150 (.fad 9 (.t 3)),(⟨none,.st 1 (.t 150) (.c (.int .i64 0)),none⟩,⟨.n,[]⟩),u_ 151 (.fad 11 (.t 3)),(⟨none,.st 1 (.t 151) (.t 149),none⟩,⟨.n,[]⟩)]) [] [] [3,6,8] [(3,3),(6,6)]) (.fin .skip [] [] [3,6,8] [(3,3),(6,6)]))) jH) (.seq (.reg [u_ 156 (.bin .eql (.t 64) (.c (.int .i64 4))),u_ 155 (.mv (.t 156))]) (.fin (.cond (.t 155) (.seq (.reg [u_ 158 (.fad 12 (.t 3)),u_ 159 (.ld (.t 158)),u_ 160 (.fad 1 (.t 4)),u_ 161 (.ld (.t 160)),u_ 162 (.call (.c (.fn 34 [] [])) [.t 159,.t 161]),u_ 157 (.mv (.t 162)),u_ 163 (.ext (.t 157) 0),u_ 164 (.ext (.t 157) 1),(⟨some 13,.newc [.int .i64 0,.int .i64 0,.int .i64 0],none⟩,⟨.s 3,[]⟩),(⟨none,.st 3 (.t 13) (.t 163),none⟩,⟨.n,[]⟩),u_ 14 (.mv (.t 164))]) (.seq (.seq (.reg [u_ 165 (.mv (.t 14)),u_ 166 (.un .not (.t 165))]) (.cond (.t 166) (.seq (.dreg 1 [qn 167 (.ldn 13 (.t 3)),qn 168 (.ldn 13 (.t 3)),qn 169 (.fad 1 (.t 4)),qn 170 (.ld (.t 169)),((⟨some 171,.call (.c (.fn 45 [] [])) [.t 168,.c (.int .i64 3),.t 170],none⟩,.ef [0]),⟨.n,[]⟩),((⟨some 172,.bsl 10 [.int .i64 0,.int .i64 0,.int .i64 0,.int .i64 0,.int .i64 0,.int .i64 0,.nils,.int .i64 0,.int .i64 0,.str []] 1 [(0,10,.t 171)],none⟩,.al 0),⟨.s 10,[]⟩),((⟨none,.st 13 (.t 6) (.t 167),none⟩,.ef [5]),⟨.n,[]⟩),qn 7 (.mv (.t 172))]) (.keep [6,7] [(6,6),(172,7)] .ret)) .skip)) (.fin (.reg [u_ 174 (.fad 12 (.t 3)),u_ 175 (.ld (.t 174)),u_ 176 (.fad 1 (.t 4)),u_ 177 (.ld (.t 176)),u_ 178 (.fad 3 (.t 4)),u_ 179 (.ld (.t 178)),u_ 180 (.fad 2 (.t 3)),u_ 181 (.ld (.t 180)),u_ 182 (.build [.int .i64 0,.int .i64 0,.int .i64 0] [(0,1,.t 177),(1,1,.t 179),(2,1,.t 181)]),u_ 183 (.call (.c (.fn 56 [] [])) [.t 175,.t 182]),u_ 173 (.mv (.t 183)),u_ 184 (.ext (.t 173) 0),u_ 185 (.ext (.t 173) 1),u_ 186 (.fad 12 (.t 3)),(⟨none,.st 1 (.t 186) (.t 184),none⟩,⟨.n,[]⟩)]) [] [] [3,6] [(3,3),(6,6)]))) (.seq (.reg [u_ 188 (.bin .eql (.t 64) (.c (.int .i64 5))),u_ 187 (.mv (.t 188))]) (.fin (.cond (.t 187) (.seq (.seq (.reg [u_ 189 (.mv (.t 8)),u_ 190 (.un .not (.t 189))]) (.cond (.t 190) (.seq (.dreg 1 [qn 191 (.ldn 13 (.t 3)),qn 192 (.ldn 13 (.t 3)),qn 193 (.fad 1 (.t 4)),qn 194 (.ld (.t 193)),((⟨some 195,.call (.c (.fn 45 [] [])) [.t 192,.c (.int .i64 6),.t 194],none⟩,.ef [0]),⟨.n,[]⟩),((⟨some 196,.bsl 10 [.int .i64 0,.int .i64 0,.int .i64 0,.int .i64 0,.int .i64 0,.int .i64 0,.nils,.int .i64 0,.int .i64 0,.str []] 1 [(0,10,.t 195)],none⟩,.al 0),⟨.s 10,[]⟩),((⟨none,.st 13 (.t 6) (.t 191),none⟩,.ef [5]),⟨.n,[]⟩),qn 7 (.mv (.t 196))]) (.keep [6,7] [(6,6),(196,7)] .ret)) .skip)) (.seq (.reg [u_ 198 (.fad 6 (.t 4)),u_ 199 (.ld (.t 198)),u_ 200 (.fad 0 (.t 3)),u_ 201 (.ld (.t 200)),u_ 202 (.call (.c (.fn 35 [] [])) [.t 199,.t 201]),u_ 197 (.mv (.t 202)),u_ 203 (.ext (.t 197) 0),u_ 204 (.ext (.t 197) 1),u_ 15 (.mv (.t 203)),u_ 16 (.mv (.t 204))]) (.seq (.seq (.reg [u_ 205 (.mv (.t 16)),u_ 206 (.un .not (.t 205))]) (.cond (.t 206) (.seq (.dreg 1 [qn 207 (.ldn 13 (.t 3)),qn 209 (.ldn 13 (.t 3)),qn 210 (.fad 1 (.t 4)),qn 211 (.ld (.t 210)),((⟨some 208,.call (.c (.fn 44 [] [])) [.t 207,.c (.int .i64 1)],none⟩,.ef [1,3]),⟨.n,[]⟩),((⟨some 212,.call (.c (.fn 45 [] [])) [.t 209,.c (.int .i64 6),.t 211],none⟩,.ef []),⟨.n,[]⟩),((⟨some 213,.bsl 10 [.int .i64 0,.int .i64 0,.int .i64 0,.int .i64 0,.int .i64 0,.int .i64 0,.nils,.int .i64 0,.int .i64 0,.str []] 1 [(0,10,.t 212)],none⟩,.al 0),⟨.s 10,[]⟩),((⟨none,.st 13 (.t 6) (.t 208),none⟩,.ef [6]),⟨.n,[]⟩),qn 7 (.mv (.t 213))]) (.keep [6,7] [(6,6),(213,7)] .ret)) .skip)) (.seq (.reg [u_ 214 (.mv (.t 15)),u_ 215 (.fad 6 (.t 4)),u_ 216 (.ld (.t 215)),u_ 217 (.call (.c (.fn 58 [] [])) [.t 216]),u_ 218 (.fad 6 (.t 3)),(⟨none,.st 1 (.t 218) (.t 214),none⟩,⟨.n,[]⟩),u_ 219 (.fad 5 (.t 3)),(⟨none,.st 1 (.t 219) (.t 217),none⟩,⟨.n,[]⟩)]) (.seq (.reg [u_ 220 (.fad 2 (.t 3)),u_ 221 (.ld (.t 220)),u_ 222 (.fad 5 (.t 4)),u_ 223 (.ld (.t 222)),u_ 224 (.bin .sub (.t 221) (.t 223)),u_ 225 (.fad 8 (.t 3)),u_ 226 (.ld (.t 225)),u_ 227 (.bin .gtr (.t 224) (.t 226))]) (.fin (.cond (.t 227) (.fin (.dreg 0 [qn 228 (.fad 2 (.t 3)),qn 229 (.ld (.t 228)),qn 230 (.fad 5 (.t 4)),qn 231 (.ld (.t 230)),qn 232 (.bin .sub (.t 229) (.t 231)),qn 233 (.fad 4 (.t 4)),qn 234 (.ld (.t 233)),qn 235 (.fad 8 (.t 3)),((⟨none,.st 1 (.t 235) (.t 232),none⟩,.ef [6]),⟨.n,[]⟩),qn 236 (.fad 7 (.t 3)),((⟨none,.st 1 (.t 236) (.t 234),none⟩,.ef []),⟨.n,[]⟩)]) [] [] [3,6] [(3,3),(6,6)]) (.fin .skip [] [] [3,6] [(3,3),(6,6)])) [] [] [3,6] [(3,3),(6,6)])))))) (.seq (.reg [u_ 238 (.bin .eql (.t 64) (.c (.int .i64 6))),u_ 237 (.mv (.t 238))]) (.fin (.cond (.t 237) (.fin (.reg [u_ 239 (.fad 12 (.t 3)),u_ 240 (.ld (.t 239)),u_ 241 (.fad 1 (.t 4)),u_ 242 (.ld (.t 241)),u_ 243 (.call (.c (.fn 59 [] [])) [.t 240,.t 242]),u_ 244 (.fad 12 (.t 3)),(⟨none,.st 1 (.t 244) (.t 243),none⟩,⟨.n,[]⟩)]) [] [] [3,6] [(3,3),(6,6)]) (.fin .skip [] [] [3,6] [(3,3),(6,6)])) [] [] [3,6] [(3,3),(6,6)]))) [] [] [3,6] [(3,3),(6,6)]))) [] [] [3,6] [(3,3),(6,6)]))))))) [] [] [3,6] [(3,3),(6,6)])))) jI)
def Zz:zb:=.seq (.reg [(⟨some 3,.box (.t 0),none⟩,⟨.s 13,[]⟩),(⟨some 4,.box (.t 1),none⟩,⟨.s 10,[]⟩),(⟨some 6,.newc [.int .i64 0,.int .i64 0,.int .i64 0,.int .i64 0,.int .i64 0,.int .i64 0,.nils,.int .i64 0,.int .i64 0,.int .i64 0,.int .i64 0,.int .i64 0,.nils],none⟩,⟨.s 13,[]⟩),u_ 7 (.mv (.c .nils))]) (.seq (.seq (.reg [u_ 17 (.fad 12 (.t 3)),u_ 18 (.ld (.t 17)),u_ 19 (.fad 1 (.t 4)),u_ 20 (.ld (.t 19)),u_ 21 (.fad 3 (.t 4)),u_ 22 (.ld (.t 21)),u_ 23 (.call (.c (.fn 55 [] [])) [.t 18,.t 20,.t 22]),u_ 24 (.mv (.t 23)),ug 25 24 false (.fad 1 (.t 4)),ug 26 24 false (.ld (.t 25)),ug 27 24 false (.fad 3 (.t 3)),ug 28 24 false (.ld (.t 27)),ug 29 24 false (.bin .eql (.t 26) (.t 28)),ug 30 24 false (.mv (.t 29)),ug 31 30 true (.fad 3 (.t 4)),ug 32 30 true (.ld (.t 31)),ug 33 30 true (.fad 4 (.t 3)),ug 34 30 true (.ld (.t 33)),ug 35 30 true (.bin .lss (.t 32) (.t 34)),ug 36 24 false (.pick (.t 30) (.t 35) (.c (.bool false))),u_ 37 (.pick (.t 24) (.c (.bool true)) (.t 36))]) (.cond (.t 37) (.seq (.reg [u_ 38 (.ldn 13 (.t 3)),(⟨none,.st 13 (.t 6) (.t 38),none⟩,⟨.n,[]⟩),u_ 7 (.mv (.c .nils))]) .ret) .skip)) (.seq (.seq (.reg [u_ 39 (.fad 1 (.t 4)),u_ 40 (.ld (.t 39)),u_ 41 (.fad 3 (.t 3)),u_ 42 (.ld (.t 41)),u_ 43 (.bin .eql (.t 40) (.t 42)),u_ 44 (.mv (.t 43)),ug 45 44 true (.fad 3 (.t 4)),ug 46 44 true (.ld (.t 45)),ug 47 44 true (.fad 4 (.t 3)),ug 48 44 true (.ld (.t 47)),ug 49 44 true (.bin .gtr (.t 46) (.t 48)),u_ 50 (.pick (.t 44) (.t 49) (.c (.bool false)))]) (.cond (.t 50) (.fin (.reg [u_ 51 (.ldn 13 (.t 3)),u_ 52 (.call (.c (.fn 44 [] [])) [.t 51,.c (.int .i64 0)]),(⟨none,.st 13 (.t 3) (.t 52),none⟩,⟨.n,[]⟩)]) [] [] [2,3,4,6] [(3,3),(4,4),(6,6)]) (.fin .skip [] [] [2,3,4,6] [(3,3),(4,4),(6,6)]))) qk))
def xw:PFn:=⟨246,[],Zz,[.cell 6 (some 13),.tmp 7],[.n,.f 10]⟩
def z0S:zb:=.seq (.reg [(⟨some 1,.box (.t 0),none⟩,⟨.s 13,[]⟩),u_ 2 (.mv (.c (.bool false)))]) (.seq (.reg [u_ 3 (.fad 0 (.t 1)),u_ 4 (.ld (.t 3)),u_ 5 (.bin .eql (.t 4) (.c (.int .i64 1))),u_ 6 (.mv (.t 5)),ug 7 6 false (.fad 3 (.t 1)),ug 8 6 false (.ld (.t 7)),ug 9 6 false (.bin .neq (.t 8) (.c (.int .i64 0))),ug 10 6 false (.mv (.t 9)),ug 11 10 true (.fad 2 (.t 1)),ug 12 10 true (.ld (.t 11)),ug 13 10 true (.fad 8 (.t 1)),ug 14 10 true (.ld (.t 13)),ug 15 10 true (.bin .sub (.t 12) (.t 14)),ug 16 10 true (.bin .leq (.t 15) (.c (.int .i64 20))),ug 17 6 false (.pick (.t 10) (.t 16) (.c (.bool false))),u_ 18 (.pick (.t 6) (.c (.bool true)) (.t 17)),u_ 2 (.mv (.t 18))]) .ret)
def wm:PFn:=⟨19,[],z0S,[.tmp 2],[.n]⟩
def ZA:zb:=.seq (.reg [(⟨some 1,.box (.t 0),none⟩,⟨.s 13,[]⟩),u_ 2 (.mv (.c (.bool false)))]) (.seq (.reg [u_ 3 (.fad 0 (.t 1)),u_ 4 (.ld (.t 3)),u_ 5 (.bin .eql (.t 4) (.c (.int .i64 1))),u_ 6 (.mv (.t 5)),ug 7 6 false (.fad 3 (.t 1)),ug 8 6 false (.ld (.t 7)),ug 9 6 false (.bin .neq (.t 8) (.c (.int .i64 0))),ug 10 6 false (.mv (.t 9)),ug 11 10 true (.fad 2 (.t 1)),ug 12 10 true (.ld (.t 11)),ug 13 10 true (.fad 8 (.t 1)),ug 14 10 true (.ld (.t 13)),ug 15 10 true (.bin .sub (.t 12) (.t 14)),ug 16 10 true (.bin .leq (.t 15) (.c (.int .i64 20))),ug 17 6 false (.pick (.t 10) (.t 16) (.c (.bool false))),u_ 18 (.pick (.t 6) (.c (.bool true)) (.t 17)),u_ 2 (.mv (.t 18))]) .ret)
def xx:PFn:=⟨19,[],ZA,[.tmp 2],[.n]⟩
def z2I:zb:=.seq (.reg [u_ 28 (.bin .lss (.t 27) (.t 26))]) (.seq (.cond (.t 28) .skip (.keep [3] [] (.exit 0))) (.seq (.block 1 (.seq (.reg [u_ 29 (.iad 3 (.t 25) (.t 27)),u_ 30 (.ldn 3 (.t 29)),(⟨some 5,.newc [.int .i64 0,.int .i64 0,.int .i64 0],none⟩,⟨.s 3,[]⟩),(⟨none,.st 3 (.t 5) (.t 30),none⟩,⟨.n,[]⟩)]) (.reg [u_ 31 (.mv (.t 3)),u_ 32 (.fad 0 (.t 5)),u_ 33 (.ld (.t 32)),u_ 34 (.call (.c (.fn 61 [] [])) [.t 31,.c (.int .i64 3),.t 33,.c (.int .i64 0)])]))) (.fin (.reg [u_ 35 (.bin .add (.t 27) (.c (.int .i64 1))),u_ 27 (.mv (.t 35))]) [] [] [3,25,26,27] [])))
def z2J:zb:=.seq (.reg [u_ 36 (.mv (.t 3)),u_ 37 (.nck (.t 36)),u_ 38 (.fad 13 (.t 37)),u_ 39 (.ld (.t 38)),u_ 2 (.mv (.t 39))]) (.hf 2 10 .ret)
def z2K:zb:=.seq (.seq (.reg [u_ 21 (.mv (.t 3)),u_ 22 (.nck (.t 21)),u_ 23 (.fad 0 (.t 22)),u_ 24 (.fad 12 (.t 23)),u_ 25 (.ld (.t 24)),u_ 26 (.len (.t 25)),u_ 27 (.mv (.c (.int .i64 0)))]) (.block 0 (.keep [3,25,26,27] [] (.loop z2I)))) z2J
def z5d:zb:=.seq (.reg [(⟨some 1,.box (.t 0),none⟩,⟨.s 13,[]⟩),u_ 2 (.mv (.c .nils))]) (.seq (.reg [u_ 6 (.ldn 13 (.t 1)),u_ 7 (.call (.c (.fn 38 [] [])) [.t 6]),u_ 3 (.mv (.t 7))]) (.seq (.seq (.reg [u_ 8 (.mv (.t 3)),u_ 9 (.nck (.t 8)),u_ 10 (.fad 0 (.t 9)),u_ 11 (.fad 3 (.t 10)),u_ 12 (.ld (.t 11)),u_ 13 (.bin .neq (.t 12) (.c (.int .i64 0)))]) (.cond (.t 13) (.fin (.reg [u_ 14 (.mv (.t 3)),u_ 15 (.mv (.t 3)),u_ 16 (.nck (.t 15)),u_ 17 (.fad 0 (.t 16)),u_ 18 (.fad 3 (.t 17)),u_ 19 (.ld (.t 18)),u_ 20 (.call (.c (.fn 61 [] [])) [.t 14,.c (.int .i64 6),.t 19,.c (.int .i64 0)])]) [] [] [3] []) (.fin .skip [] [] [3] []))) z2K))
def ZJ:PFn:=⟨40,[],z5d,[.tmp 2],[.f 10]⟩
def y8:zb:=.seq (.seq (.reg [u_ 18 (.mv (.t 3)),u_ 19 (.mv (.t 0)),u_ 20 (.len (.t 19)),u_ 21 (.bin .lss (.t 18) (.t 20))]) (.cond (.t 21) .skip (.keep [] [] (.exit 0)))) (.seq (.block 1 (.seq (.dreg 0 [qn 24 (.mv (.t 0)),qn 25 (.mv (.t 3)),qn 26 (.iad 1 (.t 24) (.t 25)),qn 27 (.ld (.t 26)),qn 28 (.bin .lss (.t 27) (.c (.int .i64 1))),qn 29 (.mv (.t 28)),qg 30 29 false (.mv (.t 0)),qg 31 29 false (.mv (.t 3)),qg 32 29 false (.iad 1 (.t 30) (.t 31)),qg 33 29 false (.ld (.t 32)),qg 34 29 false (.bin .gtr (.t 33) (.c (.int .i64 8))),qn 35 (.pick (.t 29) (.c (.bool true)) (.t 34)),qn 36 (.mv (.t 35)),qg 37 36 false (.mv (.t 0)),qg 38 36 false (.mv (.t 3)),qg 39 36 false (.slc 1 (.t 37) none (some (.t 38)) none),qg 40 36 false (.mv (.t 0)),qg 41 36 false (.mv (.t 3)),qg 42 36 false (.iad 1 (.t 40) (.t 41)),qg 43 36 false (.ld (.t 42)),((⟨some 44,.call (.c (.fn 32 [] [])) [.t 39,.t 43],some (36,false)⟩,.ef []),⟨.n,[]⟩),qn 45 (.pick (.t 36) (.c (.bool true)) (.t 44))]) (.cond (.t 45) (.seq (.reg [u_ 2 (.mv (.c (.bool false)))]) (.keep [2] [] .ret)) .skip))) (.fin (.reg [u_ 22 (.mv (.t 3)),u_ 23 (.bin .add (.t 22) (.c (.int .i64 1))),u_ 3 (.mv (.t 23))]) [] [] [0,3] []))
def jo:zb:=.seq (.reg [u_ 2 (.mv (.c (.bool true)))]) .ret
def Z9:zb:=.seq (.reg [u_ 2 (.mv (.c (.bool false)))]) (.seq (.seq (.reg [u_ 4 (.mv (.t 0)),u_ 5 (.len (.t 4)),u_ 6 (.bin .lss (.t 5) (.c (.int .i64 1))),u_ 7 (.mv (.t 6)),ug 8 7 false (.mv (.t 0)),ug 9 7 false (.len (.t 8)),ug 10 7 false (.bin .gtr (.t 9) (.c (.int .i64 10))),u_ 11 (.pick (.t 7) (.c (.bool true)) (.t 10)),u_ 12 (.mv (.t 11)),ug 13 12 false (.mv (.t 0)),ug 14 12 false (.iad 1 (.t 13) (.c (.int .i64 0))),ug 15 12 false (.ld (.t 14)),ug 16 12 false (.bin .neq (.t 15) (.c (.int .i64 1))),u_ 17 (.pick (.t 12) (.c (.bool true)) (.t 16))]) (.cond (.t 17) (.seq (.reg [u_ 2 (.mv (.c (.bool false)))]) .ret) .skip)) (.seq (.seq (.reg [u_ 3 (.mv (.c (.int .i64 0)))]) (.block 0 (.keep [0,3] [] (.loop y8)))) jo))
def xh:PFn:=⟨46,[],Z9,[.tmp 2],[.n]⟩
def yM:zb:=.seq (.seq (.reg [u_ 6 (.mv (.t 5)),u_ 7 (.mv (.t 0)),u_ 8 (.len (.t 7)),u_ 9 (.bin .lss (.t 6) (.t 8))]) (.cond (.t 9) .skip (.keep [] [] (.exit 0)))) (.seq (.block 1 (.seq (.reg [u_ 12 (.mv (.t 0)),u_ 13 (.mv (.t 5)),u_ 14 (.iad 1 (.t 12) (.t 13)),u_ 15 (.ld (.t 14)),u_ 16 (.mv (.t 1)),u_ 17 (.bin .eql (.t 15) (.t 16))]) (.cond (.t 17) (.seq (.reg [u_ 4 (.mv (.c (.bool true)))]) (.keep [4] [] .ret)) .skip))) (.fin (.reg [u_ 10 (.mv (.t 5)),u_ 11 (.bin .add (.t 10) (.c (.int .i64 1))),u_ 5 (.mv (.t 11))]) [] [] [0,1,5] []))
def vu:zb:=.seq (.reg [u_ 4 (.mv (.c (.bool false)))]) .ret
def X6:zb:=.seq (.reg [u_ 4 (.mv (.c (.bool false)))]) (.seq (.seq (.reg [u_ 5 (.mv (.c (.int .i64 0)))]) (.block 0 (.keep [0,1,5] [] (.loop yM)))) vu)
def qA:PFn:=⟨18,[],X6,[.tmp 4],[.n]⟩
def qK:zb:=.fin (.reg [u_ 78 (.ldn 13 (.t 7)),u_ 79 (.ldn 10 (.t 9)),u_ 80 (.call (.c (.fn 23 [] [])) [.t 78,.t 79,.c (.int .i64 1)]),u_ 77 (.mv (.t 80)),u_ 81 (.ext (.t 77) 0),u_ 82 (.ext (.t 77) 1),(⟨none,.st 13 (.t 7) (.t 81),none⟩,⟨.n,[]⟩)]) [] [] [0,1,2,6,7,8] [(6,6),(7,7)]
def qL:zb:=.fin (.reg [u_ 106 (.ldn 13 (.t 7)),u_ 107 (.ldn 10 (.t 10)),u_ 108 (.call (.c (.fn 23 [] [])) [.t 106,.t 107,.c (.int .i64 1)]),u_ 105 (.mv (.t 108)),u_ 109 (.ext (.t 105) 0),u_ 110 (.ext (.t 105) 1),(⟨none,.st 13 (.t 7) (.t 109),none⟩,⟨.n,[]⟩)]) [] [] [0,1,2,6,7,8] [(6,6),(7,7)]
def qM:zb:=.fin (.reg [u_ 25 (.mv (.t 8)),u_ 26 (.bin .add (.t 25) (.c (.int .i64 1))),u_ 8 (.mv (.t 26))]) [] [] [0,1,2,6,7,8] [(6,6),(7,7)]
def zU:zb:=.seq (.seq (.reg [u_ 17 (.mv (.t 8)),u_ 18 (.mv (.t 2)),u_ 19 (.bin .lss (.t 17) (.t 18)),u_ 20 (.mv (.t 19)),ug 21 20 true (.mv (.t 0)),ug 22 20 true (.call (.c (.fn 17 [] [])) [.t 21]),ug 23 20 true (.un .not (.t 22)),u_ 24 (.pick (.t 20) (.t 23) (.c (.bool false)))]) (.cond (.t 24) .skip (.keep [6,7] [(6,6),(7,7)] (.exit 0)))) (.seq (.block 1 (.seq (.reg [u_ 27 (.mv (.t 0)),u_ 28 (.call (.c (.fn 13 [] [])) [.t 27,.c (.int .i64 4)])]) (.fin (.block 2 (.seq (.reg [u_ 38 (.bin .eql (.t 28) (.c (.int .i64 0))),u_ 37 (.mv (.t 38))]) (.fin (.cond (.t 37) (.fin (.reg [u_ 40 (.ldn 13 (.t 7)),u_ 41 (.call (.c (.fn 19 [] [])) [.t 40]),u_ 39 (.mv (.t 41)),u_ 42 (.ext (.t 39) 0),u_ 43 (.ext (.t 39) 1),(⟨none,.st 13 (.t 7) (.t 42),none⟩,⟨.n,[]⟩)]) [] [] [0,1,2,6,7,8] [(6,6),(7,7)]) (.seq (.reg [u_ 45 (.bin .eql (.t 28) (.c (.int .i64 1))),u_ 44 (.mv (.t 45))]) (.fin (.cond (.t 44) (.seq (.reg [u_ 46 (.mv (.t 0)),u_ 47 (.mv (.t 1)),u_ 48 (.call (.c (.fn 20 [] [])) [.t 46,.t 47]),(⟨some 9,.newc [.int .i64 0,.int .i64 0,.int .i64 0,.int .i64 0,.int .i64 0,.int .i64 0,.nils,.int .i64 0,.int .i64 0,.str []],none⟩,⟨.s 10,[]⟩),(⟨none,.st 10 (.t 9) (.t 48),none⟩,⟨.n,[]⟩)]) (.seq (.seq (.reg [u_ 49 (.fad 9 (.t 7)),u_ 50 (.ld (.t 49)),u_ 51 (.bin .neq (.t 50) (.c (.int .i64 0))),u_ 52 (.mv (.t 51)),ug 53 52 true (.fad 9 (.t 7)),ug 54 52 true (.ld (.t 53)),ug 55 52 true (.mv (.t 1)),ug 56 52 true (.bin .neq (.t 54) (.t 55)),u_ 57 (.pick (.t 52) (.t 56) (.c (.bool false)))]) (.cond (.t 57) (.fin (.dreg 1 [qn 58 (.fad 9 (.t 7)),qn 59 (.ld (.t 58)),qn 60 (.mv (.t 1)),qn 61 (.mv (.t 0)),qn 64 (.mv (.t 0)),qn 66 (.mv (.t 0)),((⟨some 68,.bsl 1 [.int .i64 0] 1 [(0,1,.c (.int .i64 1))],none⟩,.al 0),⟨.i,[]⟩),qn 69 (.mv (.t 0)),qn 73 (.mv (.t 0)),((⟨some 62,.call (.c (.fn 13 [] [])) [.t 61,.c (.int .i64 2)],none⟩,.ef [1,6]),⟨.n,[]⟩),qn 63 (.bin .add (.c (.int .i64 1)) (.t 62)),((⟨some 65,.call (.c (.fn 13 [] [])) [.t 64,.c (.int .i64 9)],none⟩,.ef [1,6]),⟨.n,[]⟩),((⟨some 67,.call (.c (.fn 13 [] [])) [.t 66,.c (.int .i64 22)],none⟩,.ef [1,6]),⟨.n,[]⟩),((⟨some 70,.call (.c (.fn 21 [] [])) [.t 69],none⟩,.ef [1,6]),⟨.n,[]⟩),qn 71 (.slc 1 (.t 70) (some (.c (.int .i64 1))) none none),((⟨some 72,.app 1 8 [.int .i64 0] (.t 68) (.t 71),none⟩,.ef [1]),⟨.s 1,[]⟩),((⟨some 74,.call (.c (.fn 13 [] [])) [.t 73,.c (.int .i64 4)],none⟩,.ef [1]),⟨.n,[]⟩),qn 75 (.bin .add (.c (.int .i64 1)) (.t 74)),qn 76 (.build [.int .i64 0,.int .i64 0,.int .i64 0,.int .i64 0,.int .i64 0,.int .i64 0,.nils,.int .i64 0,.int .i64 0,.str []] [(0,1,.c (.int .i64 2)),(1,1,.t 59),(2,1,.t 60),(3,1,.t 63),(4,1,.t 65),(5,1,.t 67),(6,1,.t 72),(7,1,.t 75)]),((⟨none,.st 10 (.t 9) (.t 76),none⟩,.ef []),⟨.n,[]⟩)]) [] [] [0,1,2,6,7,8,9] [(6,6),(7,7),(9,9)]) (.fin .skip [] [] [0,1,2,6,7,8,9] [(6,6),(7,7),(9,9)]))) qK)) (.seq (.reg [u_ 84 (.bin .eql (.t 28) (.c (.int .i64 2))),u_ 83 (.mv (.t 84))]) (.fin (.cond (.t 83) (.seq (.reg [u_ 85 (.mv (.t 0)),u_ 86 (.mv (.t 1)),u_ 87 (.call (.c (.fn 20 [] [])) [.t 85,.t 86]),(⟨some 10,.newc [.int .i64 0,.int .i64 0,.int .i64 0,.int .i64 0,.int .i64 0,.int .i64 0,.nils,.int .i64 0,.int .i64 0,.str []],none⟩,⟨.s 10,[]⟩),(⟨none,.st 10 (.t 10) (.t 87),none⟩,⟨.n,[]⟩)]) (.seq (.seq (.reg [u_ 88 (.fad 3 (.t 7)),u_ 89 (.ld (.t 88)),u_ 90 (.bin .neq (.t 89) (.c (.int .i64 0)))]) (.cond (.t 90) (.fin (.dreg 0 [qn 91 (.fad 3 (.t 7)),qn 92 (.ld (.t 91)),qn 93 (.mv (.t 1)),qn 94 (.fad 4 (.t 7)),qn 95 (.ld (.t 94)),qn 96 (.mv (.t 0)),qn 98 (.mv (.t 0)),qn 100 (.mv (.t 0)),qn 102 (.mv (.t 0)),((⟨some 97,.call (.c (.fn 13 [] [])) [.t 96,.c (.int .i64 30)],none⟩,.ef [1,4]),⟨.n,[]⟩),((⟨some 99,.call (.c (.fn 13 [] [])) [.t 98,.c (.int .i64 20)],none⟩,.ef [1,4]),⟨.n,[]⟩),((⟨some 101,.call (.c (.fn 21 [] [])) [.t 100],none⟩,.ef [1,4]),⟨.n,[]⟩),((⟨some 103,.call (.c (.fn 13 [] [])) [.t 102,.c (.int .i64 9)],none⟩,.ef [1,4]),⟨.n,[]⟩),qn 104 (.build [.int .i64 0,.int .i64 0,.int .i64 0,.int .i64 0,.int .i64 0,.int .i64 0,.nils,.int .i64 0,.int .i64 0,.str []] [(0,1,.c (.int .i64 5)),(1,1,.t 92),(2,1,.t 93),(3,1,.t 95),(4,1,.t 97),(5,1,.t 99),(6,1,.t 101),(8,1,.t 103)]),((⟨none,.st 10 (.t 10) (.t 104),none⟩,.ef []),⟨.n,[]⟩)]) [] [] [0,1,2,6,7,8,10] [(6,6),(7,7),(10,10)]) (.fin .skip [] [] [0,1,2,6,7,8,10] [(6,6),(7,7),(10,10)]))) qL)) (.fin (.dreg 0 [qn 30 (.ldn 13 (.t 7)),qn 31 (.mv (.t 0)),qn 32 (.mv (.t 1)),((⟨some 33,.call (.c (.fn 20 [] [])) [.t 31,.t 32],none⟩,.ef [0]),⟨.n,[]⟩),((⟨some 34,.call (.c (.fn 23 [] [])) [.t 30,.t 33,.c (.int .i64 1)],none⟩,.ef []),⟨.n,[]⟩),qn 29 (.mv (.t 34)),qn 35 (.ext (.t 29) 0),qn 36 (.ext (.t 29) 1),((⟨none,.st 13 (.t 7) (.t 35),none⟩,.ef []),⟨.n,[]⟩)]) [] [] [0,1,2,6,7,8] [(6,6),(7,7)])) [] [] [0,1,2,6,7,8] [(6,6),(7,7)]))) [] [] [0,1,2,6,7,8] [(6,6),(7,7)]))) [] [] [0,1,2,6,7,8] [(6,6),(7,7)]))) [] [] [0,1,2,6,7,8] [(6,6),(7,7)]))) qM)
def qN:zb:=.seq (.reg [u_ 111 (.ldn 13 (.t 7)),(⟨none,.st 13 (.t 6) (.t 111),none⟩,⟨.n,[]⟩)]) .ret
def wn:zb:=.seq (.reg [(⟨some 6,.newc [.int .i64 0,.int .i64 0,.int .i64 0,.int .i64 0,.int .i64 0,.int .i64 0,.nils,.int .i64 0,.int .i64 0,.int .i64 0,.int .i64 0,.int .i64 0,.nils],none⟩,⟨.s 13,[]⟩)]) (.seq (.reg [u_ 11 (.mv (.t 1)),u_ 12 (.mv (.t 0)),u_ 13 (.call (.c (.fn 13 [] [])) [.t 12,.c (.int .i64 5)]),u_ 14 (.mv (.t 0)),u_ 15 (.call (.c (.fn 13 [] [])) [.t 14,.c (.int .i64 4)]),u_ 16 (.call (.c (.fn 15 [] [])) [.t 11,.c (.int .i64 2),.t 13,.t 15]),(⟨some 7,.newc [.int .i64 0,.int .i64 0,.int .i64 0,.int .i64 0,.int .i64 0,.int .i64 0,.nils,.int .i64 0,.int .i64 0,.int .i64 0,.int .i64 0,.int .i64 0,.nils],none⟩,⟨.s 13,[]⟩),(⟨none,.st 13 (.t 7) (.t 16),none⟩,⟨.n,[]⟩)]) (.seq (.seq (.reg [u_ 8 (.mv (.c (.int .i64 0)))]) (.block 0 (.keep [0,1,2,6,7,8] [(6,6),(7,7)] (.loop zU)))) qN))
def yR:PFn:=⟨112,[],wn,[.cell 6 (some 13)],[.n]⟩
def yx:zb:=.seq (.seq (.reg [u_ 7 (.mv (.t 6)),u_ 8 (.mv (.t 0)),u_ 9 (.len (.t 8)),u_ 10 (.bin .lss (.t 7) (.t 9))]) (.cond (.t 10) .skip (.keep [4] [(4,4)] (.exit 0)))) (.seq (.block 1 (.seq (.reg [u_ 13 (.mv (.t 0)),u_ 14 (.mv (.t 6)),u_ 15 (.iad 3 (.t 13) (.t 14)),u_ 16 (.fad 0 (.t 15)),u_ 17 (.ld (.t 16)),u_ 18 (.mv (.t 1)),u_ 19 (.bin .eql (.t 17) (.t 18))]) (.cond (.t 19) (.seq (.reg [u_ 20 (.mv (.t 0)),u_ 21 (.mv (.t 6)),u_ 22 (.iad 3 (.t 20) (.t 21)),u_ 23 (.ldn 3 (.t 22)),(⟨none,.st 3 (.t 4) (.t 23),none⟩,⟨.n,[]⟩),u_ 5 (.mv (.c (.bool true)))]) (.keep [4,5] [(4,4)] .ret)) .skip))) (.fin (.reg [u_ 11 (.mv (.t 6)),u_ 12 (.bin .add (.t 11) (.c (.int .i64 1))),u_ 6 (.mv (.t 12))]) [] [] [0,1,4,6] [(4,4)]))
def kN:zb:=.seq (.reg [u_ 24 (.build [.int .i64 0,.int .i64 0,.int .i64 0] []),(⟨none,.st 3 (.t 4) (.t 24),none⟩,⟨.n,[]⟩),u_ 5 (.mv (.c (.bool false)))]) .ret
def Yt:zb:=.seq (.reg [(⟨some 4,.newc [.int .i64 0,.int .i64 0,.int .i64 0],none⟩,⟨.s 3,[]⟩),u_ 5 (.mv (.c (.bool false)))]) (.seq (.seq (.reg [u_ 6 (.mv (.c (.int .i64 0)))]) (.block 0 (.keep [0,1,4,6] [(4,4)] (.loop yx)))) kN)
def xY:PFn:=⟨25,[],Yt,[.cell 4 (some 3),.tmp 5],[.n,.n]⟩
def Za:zb:=.seq (.reg [u_ 4 (.mv (.c .nils)),u_ 5 (.mv (.c (.bool false)))]) (.seq (.reg [(⟨some 7,.bsl 1 [.int .i64 0] 0 [],none⟩,⟨.s 1,[]⟩),u_ 8 (.mv (.t 0)),(⟨some 9,.app 1 8 [.int .i64 0] (.t 7) (.t 8),none⟩,⟨.s 1,[]⟩),u_ 10 (.mv (.t 1)),(⟨some 11,.bsl 1 [.int .i64 0] 1 [(0,1,.t 10)],none⟩,⟨.f,[]⟩),(⟨some 12,.app 1 8 [.int .i64 0] (.t 9) (.t 11),none⟩,⟨.s 1,[]⟩),u_ 6 (.mv (.t 12))]) (.seq (.seq (.reg [u_ 13 (.mv (.t 6)),(⟨some 14,.call (.c (.fn 29 [] [])) [.t 13],none⟩,⟨.l,[]⟩),u_ 15 (.un .not (.t 14))]) (.cond (.t 15) (.seq (.reg [u_ 4 (.mv (.c .nils)),u_ 5 (.mv (.c (.bool false)))]) .ret) .skip)) (.seq (.reg [u_ 16 (.mv (.t 6)),u_ 4 (.mv (.t 16)),u_ 5 (.mv (.c (.bool true)))]) .ret)))
def xi:PFn:=⟨17,[],Za,[.tmp 4,.tmp 5],[.f 1,.n]⟩
def zZ:zb:=.seq (.seq (.reg [u_ 11 (.mv (.t 5)),u_ 12 (.mv (.t 0)),u_ 13 (.len (.t 12)),u_ 14 (.bin .lss (.t 11) (.t 13))]) (.cond (.t 14) .skip (.keep [] [] (.exit 0)))) (.seq (.block 1 (.seq (.dreg 0 [qn 17 (.mv (.t 0)),qn 18 (.mv (.t 5)),qn 19 (.iad 1 (.t 17) (.t 18)),qn 20 (.ld (.t 19)),qn 21 (.mv (.t 1)),qn 22 (.mv (.t 5)),qn 23 (.iad 1 (.t 21) (.t 22)),qn 24 (.ld (.t 23)),qn 25 (.bin .neq (.t 20) (.t 24))]) (.cond (.t 25) (.seq (.reg [u_ 4 (.mv (.c (.bool false)))]) (.keep [4] [] .ret)) .skip))) (.fin (.reg [u_ 15 (.mv (.t 5)),u_ 16 (.bin .add (.t 15) (.c (.int .i64 1))),u_ 5 (.mv (.t 16))]) [] [] [0,1,5] []))
def jc:zb:=.seq (.reg [u_ 4 (.mv (.c (.bool true)))]) .ret
def wI:zb:=.seq (.reg [u_ 4 (.mv (.c (.bool false)))]) (.seq (.seq (.reg [u_ 6 (.mv (.t 0)),u_ 7 (.len (.t 6)),u_ 8 (.mv (.t 1)),u_ 9 (.len (.t 8)),u_ 10 (.bin .neq (.t 7) (.t 9))]) (.cond (.t 10) (.seq (.reg [u_ 4 (.mv (.c (.bool false)))]) .ret) .skip)) (.seq (.seq (.reg [u_ 5 (.mv (.c (.int .i64 0)))]) (.block 0 (.keep [0,1,5] [] (.loop zZ)))) jc))
def x4:PFn:=⟨26,[],wI,[.tmp 4],[.n]⟩
def z5e:zb:=.seq (.reg [(⟨some 1,.box (.t 0),none⟩,⟨.s 13,[]⟩),u_ 2 (.mv (.c .nilp))]) (.seq (.dreg 0 [qn 3 (.fad 6 (.t 1)),qn 4 (.ld (.t 3)),qn 6 (.fad 12 (.t 1)),qn 7 (.ld (.t 6)),((⟨some 5,.call (.c (.fn 64 [] [])) [.t 4],none⟩,.ef [3]),⟨.n,[]⟩),qn 9 (.fad 6 (.t 1)),((⟨some 8,.call (.c (.fn 65 [] [])) [.t 7],none⟩,.ef []),⟨.n,[]⟩),((⟨none,.st 1 (.t 9) (.t 5),none⟩,.ef []),⟨.n,[]⟩),qn 10 (.fad 12 (.t 1)),((⟨none,.st 1 (.t 10) (.t 8),none⟩,.ef []),⟨.n,[]⟩)]) (.seq (.reg [u_ 11 (.ldn 13 (.t 1)),u_ 12 (.build [.int .i64 0,.int .i64 0,.int .i64 0,.int .i64 0,.int .i64 0,.int .i64 0,.nils,.int .i64 0,.int .i64 0,.int .i64 0,.int .i64 0,.int .i64 0,.nils,.nils] [(0,13,.t 11)]),u_ 13 (.box (.t 12)),u_ 2 (.mv (.t 13))]) .ret))
def X7:PFn:=⟨14,[],z5e,[.tmp 2],[.n]⟩
def z46:zb:=.seq (.reg [(⟨some 3,.box (.t 1),none⟩,⟨.s 1,[]⟩),u_ 4 (.mv (.c .nils))]) (.seq (.reg [u_ 5 (.mv (.t 0)),(⟨some 6,.call (.c (.fn 65 [] [])) [.t 5],none⟩,⟨.s 3,[]⟩),(⟨some 7,.mkf 67 [] [.t 3],none⟩,⟨.n,[3]⟩),(⟨some 8,.call (.c (.fn 66 [] [])) [.t 6,.t 7],none⟩,⟨.tf 3,[]⟩),u_ 4 (.mv (.t 8))]) .ret)
def wX:PFn:=⟨9,[],z46,[.tmp 4],[.f 3]⟩
def QJ:zb:=.reg [u_ 4 (.mv (.t 0)),u_ 5 (.mv (.t 0)),u_ 6 (.mv (.t 0)),u_ 7 (.mv (.t 0)),u_ 8 (.mv (.t 0)),u_ 9 (.mv (.t 1)),u_ 10 (.nck (.t 4)),u_ 11 (.fad 0 (.t 10)),u_ 12 (.fad 3 (.t 11)),(⟨none,.st 1 (.t 12) (.c (.int .i64 0)),none⟩,⟨.n,[]⟩),u_ 13 (.nck (.t 5)),u_ 14 (.fad 0 (.t 13)),u_ 15 (.fad 4 (.t 14)),(⟨none,.st 1 (.t 15) (.c (.int .i64 0)),none⟩,⟨.n,[]⟩),u_ 16 (.nck (.t 6)),u_ 17 (.fad 0 (.t 16)),u_ 18 (.fad 6 (.t 17)),(⟨none,.st 1 (.t 18) (.c .nils),none⟩,⟨.n,[]⟩),u_ 19 (.nck (.t 7)),u_ 20 (.fad 0 (.t 19)),u_ 21 (.fad 9 (.t 20)),(⟨none,.st 1 (.t 21) (.c (.int .i64 0)),none⟩,⟨.n,[]⟩),u_ 22 (.nck (.t 8)),u_ 23 (.fad 0 (.t 22)),u_ 24 (.fad 11 (.t 23)),(⟨none,.st 1 (.t 24) (.t 9),none⟩,⟨.n,[]⟩)]
def jd:PFn:=⟨25,[],QJ,[],[]⟩
def VR:zb:=.seq (.reg [u_ 94 (.mv (.t 0)),u_ 95 (.mv (.t 0)),u_ 96 (.nck (.t 95)),u_ 97 (.fad 0 (.t 96)),u_ 98 (.fad 2 (.t 97)),u_ 99 (.ld (.t 98)),u_ 100 (.bin .add (.t 99) (.c (.int .i64 3))),u_ 101 (.nck (.t 94)),u_ 102 (.fad 0 (.t 101)),u_ 103 (.fad 10 (.t 102)),(⟨none,.st 1 (.t 103) (.t 100),none⟩,⟨.n,[]⟩)]) (.reg [u_ 104 (.mv (.t 0)),u_ 105 (.mv (.t 0)),u_ 106 (.nck (.t 105)),u_ 107 (.fad 0 (.t 106)),u_ 108 (.fad 9 (.t 107)),u_ 109 (.ld (.t 108)),u_ 110 (.call (.c (.fn 61 [] [])) [.t 104,.c (.int .i64 1),.t 109,.c (.int .i64 0)])])
def VS:zb:=.seq (.seq (.reg [u_ 48 (.mv (.t 0)),u_ 49 (.nck (.t 48)),u_ 50 (.fad 0 (.t 49)),u_ 51 (.fad 9 (.t 50)),u_ 52 (.ld (.t 51)),u_ 53 (.bin .neq (.t 52) (.c (.int .i64 0)))]) (.cond (.t 53) .ret .skip)) (.seq (.reg [u_ 54 (.mv (.t 0)),u_ 55 (.nck (.t 54)),u_ 56 (.fad 0 (.t 55)),u_ 57 (.fad 9 (.t 56)),(⟨none,.st 1 (.t 57) (.c (.int .i64 1)),none⟩,⟨.n,[]⟩)]) (.seq (.seq (.dreg 0 [qn 58 (.mv (.t 0)),qn 59 (.nck (.t 58)),qn 60 (.fad 0 (.t 59)),qn 61 (.fad 11 (.t 60)),qn 62 (.ld (.t 61)),qn 63 (.bin .eql (.t 62) (.c (.int .i64 0))),qn 64 (.mv (.t 63)),qg 65 64 true (.mv (.t 0)),qg 66 64 true (.nck (.t 65)),qg 67 64 true (.fad 0 (.t 66)),qg 68 64 true (.fad 5 (.t 67)),qg 69 64 true (.ld (.t 68)),qg 70 64 true (.bin .neq (.t 69) (.c (.int .i64 0))),qn 71 (.pick (.t 64) (.t 70) (.c (.bool false))),qn 72 (.mv (.t 71)),qg 73 72 true (.mv (.t 0)),qg 74 72 true (.nck (.t 73)),qg 75 72 true (.fad 0 (.t 74)),qg 76 72 true (.fad 5 (.t 75)),qg 77 72 true (.ld (.t 76)),qg 78 72 true (.mv (.t 0)),qg 79 72 true (.nck (.t 78)),qg 80 72 true (.fad 0 (.t 79)),qg 81 72 true (.fad 0 (.t 80)),qg 82 72 true (.ld (.t 81)),qg 83 72 true (.bin .neq (.t 77) (.t 82)),qn 84 (.pick (.t 72) (.t 83) (.c (.bool false)))]) (.cond (.t 84) (.fin (.reg [u_ 85 (.mv (.t 0)),u_ 86 (.mv (.t 0)),u_ 87 (.nck (.t 86)),u_ 88 (.fad 0 (.t 87)),u_ 89 (.fad 5 (.t 88)),u_ 90 (.ld (.t 89)),u_ 91 (.nck (.t 85)),u_ 92 (.fad 0 (.t 91)),u_ 93 (.fad 9 (.t 92)),(⟨none,.st 1 (.t 93) (.t 90),none⟩,⟨.n,[]⟩)]) [] [] [0] []) (.fin .skip [] [] [0] []))) VR))
def z1e:zb:=.seq (.seq (.reg [u_ 2 (.mv (.t 0)),u_ 3 (.nck (.t 2)),u_ 4 (.fad 0 (.t 3)),u_ 5 (.fad 0 (.t 4)),u_ 6 (.ld (.t 5)),u_ 7 (.bin .eql (.t 6) (.c (.int .i64 1))),u_ 8 (.mv (.t 7)),ug 9 8 false (.mv (.t 0)),ug 10 8 false (.nck (.t 9)),ug 11 8 false (.fad 0 (.t 10)),ug 12 8 false (.fad 3 (.t 11)),ug 13 8 false (.ld (.t 12)),ug 14 8 false (.bin .neq (.t 13) (.c (.int .i64 0))),u_ 15 (.pick (.t 8) (.c (.bool true)) (.t 14))]) (.cond (.t 15) .ret .skip)) (.seq (.seq (.dreg 0 [qn 16 (.mv (.t 0)),qn 17 (.nck (.t 16)),qn 18 (.fad 0 (.t 17)),qn 19 (.fad 9 (.t 18)),qn 20 (.ld (.t 19)),qn 21 (.bin .neq (.t 20) (.c (.int .i64 0))),qn 22 (.mv (.t 21)),qg 23 22 true (.mv (.t 0)),qg 24 22 true (.nck (.t 23)),qg 25 22 true (.fad 0 (.t 24)),qg 26 22 true (.fad 2 (.t 25)),qg 27 22 true (.ld (.t 26)),qg 28 22 true (.mv (.t 0)),qg 29 22 true (.nck (.t 28)),qg 30 22 true (.fad 0 (.t 29)),qg 31 22 true (.fad 10 (.t 30)),qg 32 22 true (.ld (.t 31)),qg 33 22 true (.bin .geq (.t 27) (.t 32)),qn 34 (.pick (.t 22) (.t 33) (.c (.bool false)))]) (.cond (.t 34) (.seq (.reg [u_ 35 (.mv (.t 0)),u_ 36 (.nck (.t 35)),u_ 37 (.fad 0 (.t 36)),u_ 38 (.fad 9 (.t 37)),(⟨none,.st 1 (.t 38) (.c (.int .i64 0)),none⟩,⟨.n,[]⟩)]) (.fin (.reg [u_ 39 (.mv (.t 0)),u_ 40 (.nck (.t 39)),u_ 41 (.fad 0 (.t 40)),u_ 42 (.fad 11 (.t 41)),u_ 43 (.ld (.t 42)),u_ 44 (.bin .add (.t 43) (.c (.int .i64 1))),u_ 45 (.nck (.t 39)),u_ 46 (.fad 0 (.t 45)),u_ 47 (.fad 11 (.t 46)),(⟨none,.st 1 (.t 47) (.t 44),none⟩,⟨.n,[]⟩)]) [] [] [0] [])) (.fin .skip [] [] [0] []))) VS)
def kr:PFn:=⟨111,[],z1e,[],[]⟩
def KO:zb:=.fin (.reg [u_ 43 (.bin .add (.t 30) (.c (.int .i64 1))),u_ 30 (.mv (.t 43))]) [] [] [0,28,29,30] []
def KP:zb:=.seq (.reg [u_ 31 (.bin .lss (.t 30) (.t 29))]) (.seq (.cond (.t 31) .skip (.keep [] [] (.exit 0))) (.seq (.block 1 (.seq (.reg [u_ 32 (.iad 3 (.t 28) (.t 30)),u_ 33 (.ldn 3 (.t 32)),(⟨some 3,.newc [.int .i64 0,.int .i64 0,.int .i64 0],none⟩,⟨.s 3,[]⟩),(⟨none,.st 3 (.t 3) (.t 33),none⟩,⟨.n,[]⟩)]) (.seq (.reg [u_ 34 (.mv (.t 0)),u_ 35 (.nck (.t 34)),u_ 36 (.fad 0 (.t 35)),u_ 37 (.ldn 13 (.t 36)),u_ 38 (.call (.c (.fn 25 [] [])) [.t 37])]) (.fin (.cond (.t 38) (.fin (.reg [u_ 39 (.mv (.t 0)),u_ 40 (.fad 0 (.t 3)),u_ 41 (.ld (.t 40)),u_ 42 (.call (.c (.fn 61 [] [])) [.t 39,.c (.int .i64 5),.t 41,.c (.int .i64 0)])]) [] [] [0,28,29,30] []) (.fin .skip [] [] [0,28,29,30] [])) [] [] [0,28,29,30] [])))) KO))
def KQ:zb:=.seq (.reg [u_ 24 (.mv (.t 0)),u_ 25 (.nck (.t 24)),u_ 26 (.fad 0 (.t 25)),u_ 27 (.fad 12 (.t 26)),u_ 28 (.ld (.t 27)),u_ 29 (.len (.t 28)),u_ 30 (.mv (.c (.int .i64 0)))]) (.block 0 (.keep [0,28,29,30] [] (.loop KP)))
def z04:zb:=.seq (.seq (.reg [u_ 4 (.mv (.t 0)),u_ 5 (.nck (.t 4)),u_ 6 (.fad 0 (.t 5)),u_ 7 (.fad 2 (.t 6)),u_ 8 (.ld (.t 7)),u_ 9 (.bin .rem (.t 8) (.c (.int .i64 2))),u_ 10 (.bin .neq (.t 9) (.c (.int .i64 0)))]) (.cond (.t 10) .ret .skip)) (.seq (.seq (.reg [u_ 11 (.mv (.t 0)),u_ 12 (.nck (.t 11)),u_ 13 (.fad 0 (.t 12)),u_ 14 (.fad 3 (.t 13)),u_ 15 (.ld (.t 14)),u_ 16 (.bin .neq (.t 15) (.c (.int .i64 0)))]) (.cond (.t 16) (.fin (.reg [u_ 17 (.mv (.t 0)),u_ 18 (.mv (.t 0)),u_ 19 (.nck (.t 18)),u_ 20 (.fad 0 (.t 19)),u_ 21 (.fad 3 (.t 20)),u_ 22 (.ld (.t 21)),u_ 23 (.call (.c (.fn 61 [] [])) [.t 17,.c (.int .i64 4),.t 22,.c (.int .i64 0)])]) [] [] [0] []) (.fin .skip [] [] [0] []))) KQ)
def jM:PFn:=⟨44,[],z04,[],[]⟩
def ka:zb:=.fin (.reg [u_ 11 (.mv (.t 6)),u_ 12 (.bin .add (.t 11) (.c (.int .i64 1))),u_ 6 (.mv (.t 12))]) [] [] [0,1,5,6] [(5,5)]
def ym:zb:=.seq (.seq (.reg [u_ 7 (.mv (.t 6)),u_ 8 (.mv (.t 0)),u_ 9 (.len (.t 8)),u_ 10 (.bin .lss (.t 7) (.t 9))]) (.cond (.t 10) .skip (.keep [5] [(5,5)] (.exit 0)))) (.seq (.block 1 (.seq (.reg [u_ 13 (.mv (.t 1)),u_ 14 (.mv (.t 0)),u_ 15 (.mv (.t 6)),u_ 16 (.iad 3 (.t 14) (.t 15)),u_ 17 (.fad 2 (.t 16)),u_ 18 (.ld (.t 17)),u_ 19 (.bin .sub (.t 13) (.t 18)),u_ 20 (.bin .leq (.t 19) (.c (.int .i64 20)))]) (.fin (.cond (.t 20) (.fin (.reg [u_ 21 (.mv (.t 5)),u_ 22 (.mv (.t 0)),u_ 23 (.mv (.t 6)),u_ 24 (.iad 3 (.t 22) (.t 23)),u_ 25 (.ldn 3 (.t 24)),(⟨some 26,.bsl 3 [.int .i64 0,.int .i64 0,.int .i64 0] 1 [(0,3,.t 25)],none⟩,⟨.f,[]⟩),(⟨some 27,.app 3 24 [.int .i64 0,.int .i64 0,.int .i64 0] (.t 21) (.t 26),none⟩,⟨.s 3,[]⟩),u_ 5 (.mv (.t 27))]) [] [] [0,1,5,6] [(5,5)]) (.fin .skip [] [] [0,1,5,6] [(5,5)])) [] [] [0,1,5,6] [(5,5)]))) ka)
def kb:zb:=.seq (.reg [u_ 28 (.mv (.t 5)),u_ 4 (.mv (.t 28))]) .ret
def ZZ:zb:=.seq (.reg [u_ 4 (.mv (.c .nils))]) (.seq (.reg [u_ 5 (.mv (.c .nils))]) (.seq (.seq (.reg [u_ 6 (.mv (.c (.int .i64 0)))]) (.block 0 (.own 5 3 (.keep [0,1,5,6] [(5,5)] (.loop ym))))) kb))
def xG:PFn:=⟨29,[],ZZ,[.tmp 4],[.o 3]⟩
def Yu:zb:=.seq (.reg [(⟨some 2,.box (.t 0),none⟩,⟨.s 13,[]⟩),(⟨some 4,.newc [.int .i64 0,.int .i64 0,.int .i64 0,.int .i64 0,.int .i64 0,.int .i64 0,.nils,.int .i64 0,.int .i64 0,.int .i64 0,.int .i64 0,.int .i64 0,.nils],none⟩,⟨.s 13,[]⟩)]) (.seq (.reg [u_ 5 (.mv (.t 1)),u_ 6 (.fad 3 (.t 2)),(⟨none,.st 1 (.t 6) (.c (.int .i64 0)),none⟩,⟨.n,[]⟩),u_ 7 (.fad 4 (.t 2)),(⟨none,.st 1 (.t 7) (.c (.int .i64 0)),none⟩,⟨.n,[]⟩),u_ 8 (.fad 6 (.t 2)),(⟨none,.st 1 (.t 8) (.c .nils),none⟩,⟨.n,[]⟩),u_ 9 (.fad 9 (.t 2)),(⟨none,.st 1 (.t 9) (.c (.int .i64 0)),none⟩,⟨.n,[]⟩),u_ 10 (.fad 11 (.t 2)),(⟨none,.st 1 (.t 10) (.t 5),none⟩,⟨.n,[]⟩)]) (.seq (.reg [u_ 11 (.ldn 13 (.t 2)),(⟨none,.st 13 (.t 4) (.t 11),none⟩,⟨.n,[]⟩)]) .ret))
def xZ:PFn:=⟨12,[],Yu,[.cell 4 (some 13)],[.n]⟩
def Y0:zb:=.seq (.reg [(⟨some 3,.box (.t 0),none⟩,⟨.s 13,[]⟩),(⟨some 6,.newc [.int .i64 0,.int .i64 0,.int .i64 0,.int .i64 0,.int .i64 0,.int .i64 0,.nils,.int .i64 0,.int .i64 0,.str []],none⟩,⟨.s 10,[]⟩)]) (.seq (.reg [u_ 7 (.mv (.t 1)),u_ 8 (.fad 0 (.t 3)),u_ 9 (.ld (.t 8)),u_ 10 (.mv (.t 2)),u_ 11 (.fad 1 (.t 3)),u_ 12 (.ld (.t 11)),u_ 13 (.build [.int .i64 0,.int .i64 0,.int .i64 0,.int .i64 0,.int .i64 0,.int .i64 0,.nils,.int .i64 0,.int .i64 0,.str []] [(0,1,.t 7),(1,1,.t 9),(2,1,.t 10),(3,1,.t 12)]),(⟨none,.st 10 (.t 6) (.t 13),none⟩,⟨.n,[]⟩)]) .ret)
def xH:PFn:=⟨14,[],Y0,[.cell 6 (some 10)],[.n]⟩
def Y1:zb:=.seq (.reg [(⟨some 3,.box (.t 0),none⟩,⟨.s 13,[]⟩),(⟨some 6,.newc [.int .i64 0,.int .i64 0,.int .i64 0,.int .i64 0,.int .i64 0,.int .i64 0,.nils,.int .i64 0,.int .i64 0,.str []],none⟩,⟨.s 10,[]⟩)]) (.seq (.reg [u_ 8 (.ldn 13 (.t 3)),u_ 9 (.mv (.t 1)),u_ 10 (.mv (.t 2)),u_ 11 (.call (.c (.fn 45 [] [])) [.t 8,.t 9,.t 10]),(⟨some 7,.newc [.int .i64 0,.int .i64 0,.int .i64 0,.int .i64 0,.int .i64 0,.int .i64 0,.nils,.int .i64 0,.int .i64 0,.str []],none⟩,⟨.s 10,[]⟩),(⟨none,.st 10 (.t 7) (.t 11),none⟩,⟨.n,[]⟩)]) (.seq (.dreg 1 [qn 12 (.fad 7 (.t 3)),qn 13 (.ld (.t 12)),qn 14 (.fad 2 (.t 3)),qn 15 (.ld (.t 14)),qn 16 (.fad 8 (.t 3)),qn 17 (.ld (.t 16)),qn 18 (.bin .sub (.t 15) (.t 17)),((⟨some 19,.bsl 1 [.int .i64 0] 0 [],none⟩,.al 0),⟨.i,[]⟩),qn 20 (.fad 6 (.t 3)),qn 21 (.ld (.t 20)),qn 23 (.fad 4 (.t 7)),((⟨some 22,.app 1 8 [.int .i64 0] (.t 19) (.t 21),none⟩,.ef [1,3,5]),⟨.s 1,[]⟩),((⟨none,.st 1 (.t 23) (.t 13),none⟩,.ef [3,5]),⟨.n,[]⟩),qn 24 (.fad 5 (.t 7)),((⟨none,.st 1 (.t 24) (.t 18),none⟩,.ef []),⟨.n,[]⟩),qn 25 (.fad 6 (.t 7)),((⟨none,.st 1 (.t 25) (.t 22),none⟩,.ef []),⟨.n,[]⟩)]) (.seq (.reg [u_ 26 (.ldn 10 (.t 7)),(⟨none,.st 10 (.t 6) (.t 26),none⟩,⟨.n,[]⟩)]) .ret)))
def xI:PFn:=⟨27,[],Y1,[.cell 6 (some 10)],[.n]⟩
def vK:zb:=.seq (.reg [u_ 2 (.mv (.c (.str [])))]) (.seq (.reg [(⟨some 3,.bsl 1 [.str []] 5 [(0,1,.c (.str [])),(1,1,.c (.str [97])),(2,1,.c (.str [98,99])),(3,1,.c (.str [104,101,108,108,111])),(4,1,.c (.str [116,119,101,108,118,101,32,98,121,116,101,115]))],none⟩,⟨.f,[]⟩),u_ 4 (.mv (.t 0)),u_ 5 (.call (.c (.fn 13 [] [])) [.t 4,.c (.int .i64 5)]),u_ 6 (.iad 1 (.t 3) (.t 5)),u_ 7 (.ld (.t 6)),u_ 2 (.mv (.t 7))]) .ret)
def yG:PFn:=⟨8,[],vK,[.tmp 2],[.n]⟩
def z1V:zb:=.seq (.reg [u_ 6 (.mv (.c (.bool false)))]) (.seq (.reg [u_ 10 (.mv (.t 0)),u_ 11 (.mv (.t 1)),u_ 12 (.call (.c (.fn 68 [] [])) [.t 10,.t 11]),u_ 9 (.mv (.t 12)),u_ 13 (.ext (.t 9) 0),u_ 14 (.ext (.t 9) 1),(⟨some 7,.newc [.int .i64 0,.int .i64 0,.int .i64 0],none⟩,⟨.s 3,[]⟩),(⟨none,.st 3 (.t 7) (.t 13),none⟩,⟨.n,[]⟩),u_ 8 (.mv (.t 14))]) (.seq (.reg [u_ 15 (.mv (.t 8)),u_ 16 (.mv (.t 15)),ug 17 16 true (.fad 1 (.t 7)),ug 18 16 true (.ld (.t 17)),ug 19 16 true (.mv (.t 2)),ug 20 16 true (.bin .gtr (.t 18) (.t 19)),u_ 21 (.pick (.t 16) (.t 20) (.c (.bool false))),u_ 6 (.mv (.t 21))]) .ret))
def Zb:PFn:=⟨22,[],z1V,[.tmp 6],[.n]⟩
def Yv:zb:=.seq (.reg [(⟨some 4,.box (.t 1),none⟩,⟨.s 10,[]⟩)]) (.seq (.seq (.reg [u_ 6 (.mv (.t 0)),u_ 7 (.fad 1 (.t 4)),u_ 8 (.ld (.t 7)),u_ 9 (.call (.c (.fn 69 [] [])) [.t 6,.t 8]),u_ 10 (.un .not (.t 9))]) (.cond (.t 10) (.seq (.reg [u_ 11 (.mv (.t 0)),u_ 12 (.fad 1 (.t 4)),u_ 13 (.ld (.t 12)),u_ 14 (.call (.c (.fn 61 [] [])) [.t 11,.c (.int .i64 3),.t 13,.c (.int .i64 0)])]) .ret) .skip)) (.seq (.reg [u_ 15 (.mv (.t 0)),u_ 16 (.ldn 10 (.t 4)),u_ 17 (.call (.c (.fn 70 [] [])) [.t 15,.t 16])]) (.reg [u_ 18 (.mv (.t 0)),u_ 19 (.fad 1 (.t 4)),u_ 20 (.ld (.t 19)),u_ 21 (.mv (.t 2)),u_ 22 (.call (.c (.fn 61 [] [])) [.t 18,.c (.int .i64 2),.t 20,.t 21])])))
def q6:PFn:=⟨23,[],Yv,[],[]⟩
def ZB:zb:=.seq (.reg [u_ 34 (.mv (.t 0)),u_ 35 (.nck (.t 34)),u_ 36 (.fad 0 (.t 35)),u_ 37 (.fad 9 (.t 36)),(⟨none,.st 1 (.t 37) (.c (.int .i64 0)),none⟩,⟨.n,[]⟩)]) (.seq (.dreg 0 [qn 39 (.fad 6 (.t 3)),qn 40 (.ld (.t 39)),qn 41 (.mv (.t 0)),qn 42 (.nck (.t 41)),qn 43 (.fad 0 (.t 42)),qn 44 (.fad 0 (.t 43)),qn 45 (.ld (.t 44)),((⟨some 46,.call (.c (.fn 71 [] [])) [.t 40,.t 45],none⟩,.ef []),⟨.n,[]⟩),qn 38 (.mv (.t 46)),qn 47 (.ext (.t 38) 0),qn 48 (.ext (.t 38) 1),qn 4 (.mv (.t 47)),qn 5 (.mv (.t 48))]) (.seq (.seq (.reg [u_ 49 (.mv (.t 5)),u_ 50 (.un .not (.t 49)),u_ 51 (.mv (.t 50)),ug 52 51 false (.fad 5 (.t 3)),ug 53 51 false (.ld (.t 52)),ug 54 51 false (.bin .gtr (.t 53) (.c (.int .i64 20))),u_ 55 (.pick (.t 51) (.c (.bool true)) (.t 54))]) (.cond (.t 55) (.seq (.reg [u_ 56 (.mv (.t 0)),u_ 57 (.fad 1 (.t 3)),u_ 58 (.ld (.t 57)),u_ 59 (.call (.c (.fn 61 [] [])) [.t 56,.c (.int .i64 6),.t 58,.c (.int .i64 0)])]) (.seq (.reg [u_ 60 (.mv (.t 0)),u_ 61 (.nck (.t 60)),u_ 62 (.fad 0 (.t 61)),u_ 63 (.fad 11 (.t 62)),u_ 64 (.ld (.t 63)),u_ 65 (.bin .add (.t 64) (.c (.int .i64 1))),u_ 66 (.nck (.t 60)),u_ 67 (.fad 0 (.t 66)),u_ 68 (.fad 11 (.t 67)),(⟨none,.st 1 (.t 68) (.t 65),none⟩,⟨.n,[]⟩)]) .ret)) .skip)) (.seq (.reg [u_ 69 (.mv (.t 0)),u_ 70 (.ldn 10 (.t 3)),u_ 71 (.mv (.t 4)),u_ 72 (.call (.c (.fn 72 [] [])) [.t 69,.t 70,.t 71])]) (.dreg 0 [qn 73 (.mv (.t 0)),qn 74 (.mv (.t 0)),qn 75 (.mv (.t 0)),qn 76 (.mv (.t 0)),qn 77 (.mv (.t 0)),qn 78 (.fad 1 (.t 3)),qn 79 (.ld (.t 78)),qn 80 (.fad 3 (.t 3)),qn 81 (.ld (.t 80)),qn 82 (.fad 4 (.t 3)),qn 83 (.ld (.t 82)),qn 84 (.mv (.t 0)),qn 85 (.nck (.t 84)),qn 86 (.fad 0 (.t 85)),qn 87 (.fad 2 (.t 86)),qn 88 (.ld (.t 87)),qn 89 (.fad 5 (.t 3)),qn 90 (.ld (.t 89)),qn 91 (.bin .sub (.t 88) (.t 90)),qn 92 (.nck (.t 73)),qn 93 (.fad 0 (.t 92)),qn 94 (.fad 3 (.t 93)),((⟨none,.st 1 (.t 94) (.t 79),none⟩,.ef [8,10,17]),⟨.n,[]⟩),qn 95 (.nck (.t 74)),qn 96 (.fad 0 (.t 95)),qn 97 (.fad 4 (.t 96)),((⟨none,.st 1 (.t 97) (.t 81),none⟩,.ef [10,17]),⟨.n,[]⟩),qn 98 (.nck (.t 75)),qn 99 (.fad 0 (.t 98)),qn 100 (.fad 7 (.t 99)),((⟨none,.st 1 (.t 100) (.t 83),none⟩,.ef [17]),⟨.n,[]⟩),qn 101 (.nck (.t 76)),qn 102 (.fad 0 (.t 101)),qn 103 (.fad 8 (.t 102)),((⟨none,.st 1 (.t 103) (.t 91),none⟩,.ef []),⟨.n,[]⟩),qn 104 (.nck (.t 77)),qn 105 (.fad 0 (.t 104)),qn 106 (.fad 11 (.t 105)),((⟨none,.st 1 (.t 106) (.c (.int .i64 0)),none⟩,.ef []),⟨.n,[]⟩)]))))
def Yw:zb:=.seq (.reg [(⟨some 3,.box (.t 1),none⟩,⟨.s 10,[]⟩)]) (.seq (.seq (.dreg 0 [qn 6 (.mv (.t 0)),qn 7 (.nck (.t 6)),qn 8 (.fad 0 (.t 7)),qn 9 (.fad 9 (.t 8)),qn 10 (.ld (.t 9)),qn 11 (.fad 1 (.t 3)),qn 12 (.ld (.t 11)),qn 13 (.bin .neq (.t 10) (.t 12)),qn 14 (.mv (.t 13)),qg 15 14 false (.mv (.t 0)),qg 16 14 false (.nck (.t 15)),qg 17 14 false (.fad 0 (.t 16)),qg 18 14 false (.fad 3 (.t 17)),qg 19 14 false (.ld (.t 18)),qg 20 14 false (.bin .neq (.t 19) (.c (.int .i64 0))),qn 21 (.pick (.t 14) (.c (.bool true)) (.t 20))]) (.cond (.t 21) (.seq (.seq (.dreg 0 [qn 22 (.mv (.t 0)),qn 23 (.nck (.t 22)),qn 24 (.fad 0 (.t 23)),qn 25 (.fad 3 (.t 24)),qn 26 (.ld (.t 25)),qn 27 (.fad 1 (.t 3)),qn 28 (.ld (.t 27)),qn 29 (.bin .neq (.t 26) (.t 28))]) (.cond (.t 29) (.fin (.reg [u_ 30 (.mv (.t 0)),u_ 31 (.fad 1 (.t 3)),u_ 32 (.ld (.t 31)),u_ 33 (.call (.c (.fn 61 [] [])) [.t 30,.c (.int .i64 6),.t 32,.c (.int .i64 0)])]) [] [] [] []) (.fin .skip [] [] [] []))) .ret) .skip)) ZB)
def q7:PFn:=⟨107,[],Yw,[],[]⟩
def Yx:zb:=.seq (.reg [(⟨some 3,.box (.t 1),none⟩,⟨.s 10,[]⟩)]) (.seq (.reg [u_ 4 (.fad 1 (.t 3)),u_ 5 (.ld (.t 4))]) (.block 0 (.seq (.reg [u_ 7 (.mv (.t 0)),u_ 8 (.nck (.t 7)),u_ 9 (.fad 0 (.t 8)),u_ 10 (.fad 9 (.t 9)),u_ 11 (.ld (.t 10)),u_ 12 (.bin .eql (.t 5) (.t 11)),u_ 6 (.mv (.t 12))]) (.fin (.cond (.t 6) (.seq (.reg [u_ 13 (.mv (.t 0)),u_ 14 (.nck (.t 13)),u_ 15 (.fad 0 (.t 14)),u_ 16 (.fad 9 (.t 15)),(⟨none,.st 1 (.t 16) (.c (.int .i64 0)),none⟩,⟨.n,[]⟩)]) (.fin (.reg [u_ 17 (.mv (.t 0)),u_ 18 (.nck (.t 17)),u_ 19 (.fad 0 (.t 18)),u_ 20 (.fad 11 (.t 19)),u_ 21 (.ld (.t 20)),u_ 22 (.bin .add (.t 21) (.c (.int .i64 1))),u_ 23 (.nck (.t 17)),u_ 24 (.fad 0 (.t 23)),u_ 25 (.fad 11 (.t 24)),(⟨none,.st 1 (.t 25) (.t 22),none⟩,⟨.n,[]⟩)]) [] [] [] [])) (.seq (.reg [u_ 27 (.mv (.t 0)),u_ 28 (.nck (.t 27)),u_ 29 (.fad 0 (.t 28)),u_ 30 (.fad 3 (.t 29)),u_ 31 (.ld (.t 30)),u_ 32 (.bin .eql (.t 5) (.t 31)),u_ 26 (.mv (.t 32))]) (.fin (.cond (.t 26) (.fin (.reg [u_ 33 (.mv (.t 0)),u_ 34 (.call (.c (.fn 40 [] [])) [.t 33,.c (.int .i64 0)])]) [] [] [] []) (.fin .skip [] [] [] [])) [] [] [] []))) [] [] [] []))))
def q8:PFn:=⟨35,[],Yx,[],[]⟩
def Yy:zb:=.seq (.reg [(⟨some 3,.box (.t 1),none⟩,⟨.s 10,[]⟩)]) (.seq (.dreg 1 [qn 7 (.mv (.t 0)),qn 8 (.nck (.t 7)),qn 9 (.fad 0 (.t 8)),qn 10 (.fad 12 (.t 9)),qn 11 (.ld (.t 10)),qn 12 (.fad 1 (.t 3)),qn 13 (.ld (.t 12)),((⟨some 4,.newc [.int .i64 0,.int .i64 0,.int .i64 0],none⟩,.al 0),⟨.s 3,[]⟩),((⟨some 14,.call (.c (.fn 68 [] [])) [.t 11,.t 13],none⟩,.ef [7]),⟨.n,[]⟩),qn 6 (.mv (.t 14)),qn 15 (.ext (.t 6) 0),qn 16 (.ext (.t 6) 1),((⟨none,.st 3 (.t 4) (.t 15),none⟩,.ef []),⟨.n,[]⟩),qn 5 (.mv (.t 16))]) (.seq (.reg [u_ 17 (.mv (.t 5))]) (.cond (.t 17) (.fin (.reg [u_ 18 (.mv (.t 0)),u_ 19 (.ldn 10 (.t 3)),u_ 20 (.call (.c (.fn 70 [] [])) [.t 18,.t 19])]) [] [] [] []) (.fin (.reg [u_ 21 (.mv (.t 0)),u_ 22 (.fad 1 (.t 3)),u_ 23 (.ld (.t 22)),u_ 24 (.call (.c (.fn 61 [] [])) [.t 21,.c (.int .i64 3),.t 23,.c (.int .i64 0)])]) [] [] [] []))))
def q9:PFn:=⟨25,[],Yy,[],[]⟩
def Yz:zb:=.seq (.reg [(⟨some 3,.box (.t 1),none⟩,⟨.s 10,[]⟩)]) (.seq (.seq (.dreg 0 [qn 6 (.fad 1 (.t 3)),qn 7 (.ld (.t 6)),qn 8 (.mv (.t 0)),qn 9 (.nck (.t 8)),qn 10 (.fad 0 (.t 9)),qn 11 (.fad 3 (.t 10)),qn 12 (.ld (.t 11)),qn 13 (.bin .neq (.t 7) (.t 12))]) (.cond (.t 13) (.seq (.reg [u_ 14 (.mv (.t 0)),u_ 15 (.fad 1 (.t 3)),u_ 16 (.ld (.t 15)),u_ 17 (.call (.c (.fn 61 [] [])) [.t 14,.c (.int .i64 6),.t 16,.c (.int .i64 0)])]) .ret) .skip)) (.seq (.dreg 0 [qn 19 (.fad 6 (.t 3)),qn 20 (.ld (.t 19)),qn 21 (.mv (.t 0)),qn 22 (.nck (.t 21)),qn 23 (.fad 0 (.t 22)),qn 24 (.fad 0 (.t 23)),qn 25 (.ld (.t 24)),((⟨some 26,.call (.c (.fn 71 [] [])) [.t 20,.t 25],none⟩,.ef []),⟨.n,[]⟩),qn 18 (.mv (.t 26)),qn 27 (.ext (.t 18) 0),qn 28 (.ext (.t 18) 1),qn 4 (.mv (.t 27)),qn 5 (.mv (.t 28))]) (.seq (.seq (.reg [u_ 29 (.mv (.t 5)),u_ 30 (.un .not (.t 29))]) (.cond (.t 30) (.seq (.reg [u_ 31 (.mv (.t 0)),u_ 32 (.fad 1 (.t 3)),u_ 33 (.ld (.t 32)),u_ 34 (.call (.c (.fn 61 [] [])) [.t 31,.c (.int .i64 6),.t 33,.c (.int .i64 0)])]) (.seq (.reg [u_ 35 (.mv (.t 0)),u_ 36 (.call (.c (.fn 40 [] [])) [.t 35,.c (.int .i64 1)])]) .ret)) .skip)) (.seq (.reg [u_ 37 (.mv (.t 0)),u_ 38 (.ldn 10 (.t 3)),u_ 39 (.mv (.t 4)),u_ 40 (.call (.c (.fn 72 [] [])) [.t 37,.t 38,.t 39])]) (.seq (.dreg 0 [qn 41 (.mv (.t 0)),qn 42 (.nck (.t 41)),qn 43 (.fad 0 (.t 42)),qn 44 (.fad 2 (.t 43)),qn 45 (.ld (.t 44)),qn 46 (.fad 5 (.t 3)),qn 47 (.ld (.t 46)),qn 48 (.bin .sub (.t 45) (.t 47)),qn 49 (.mv (.t 0)),qn 50 (.nck (.t 49)),qn 51 (.fad 0 (.t 50)),qn 52 (.fad 8 (.t 51)),qn 53 (.ld (.t 52)),qn 54 (.bin .gtr (.t 48) (.t 53))]) (.cond (.t 54) (.fin (.dreg 0 [qn 55 (.mv (.t 0)),qn 56 (.mv (.t 0)),qn 57 (.mv (.t 0)),qn 58 (.nck (.t 57)),qn 59 (.fad 0 (.t 58)),qn 60 (.fad 2 (.t 59)),qn 61 (.ld (.t 60)),qn 62 (.fad 5 (.t 3)),qn 63 (.ld (.t 62)),qn 64 (.bin .sub (.t 61) (.t 63)),qn 65 (.fad 4 (.t 3)),qn 66 (.ld (.t 65)),qn 67 (.nck (.t 55)),qn 68 (.fad 0 (.t 67)),qn 69 (.fad 8 (.t 68)),((⟨none,.st 1 (.t 69) (.t 64),none⟩,.ef [11]),⟨.n,[]⟩),qn 70 (.nck (.t 56)),qn 71 (.fad 0 (.t 70)),qn 72 (.fad 7 (.t 71)),((⟨none,.st 1 (.t 72) (.t 66),none⟩,.ef []),⟨.n,[]⟩)]) [] [] [] []) (.fin .skip [] [] [] [])))))))
def qa:PFn:=⟨73,[],Yz,[],[]⟩
def z0T:zb:=.seq (.reg [(⟨some 3,.box (.t 1),none⟩,⟨.s 1,[]⟩),u_ 4 (.mv (.c .nils))]) (.seq (.reg [u_ 5 (.mv (.t 0)),(⟨some 6,.call (.c (.fn 65 [] [])) [.t 5],none⟩,⟨.s 3,[]⟩),(⟨some 7,.mkf 73 [] [.t 3],none⟩,⟨.n,[3]⟩),(⟨some 8,.call (.c (.fn 66 [] [])) [.t 6,.t 7],none⟩,⟨.tf 3,[]⟩),u_ 4 (.mv (.t 8))]) .ret)
def wo:PFn:=⟨9,[],z0T,[.tmp 4],[.f 3]⟩
def X8:zb:=.seq (.reg [u_ 6 (.mv (.c (.bool false)))]) (.seq (.reg [u_ 10 (.mv (.t 0)),u_ 11 (.mv (.t 1)),u_ 12 (.call (.c (.fn 34 [] [])) [.t 10,.t 11]),u_ 9 (.mv (.t 12)),u_ 13 (.ext (.t 9) 0),u_ 14 (.ext (.t 9) 1),(⟨some 7,.newc [.int .i64 0,.int .i64 0,.int .i64 0],none⟩,⟨.s 3,[]⟩),(⟨none,.st 3 (.t 7) (.t 13),none⟩,⟨.n,[]⟩),u_ 8 (.mv (.t 14))]) (.seq (.reg [u_ 15 (.mv (.t 8)),u_ 16 (.mv (.t 15)),ug 17 16 true (.fad 1 (.t 7)),ug 18 16 true (.ld (.t 17)),ug 19 16 true (.mv (.t 2)),ug 20 16 true (.bin .gtr (.t 18) (.t 19)),u_ 21 (.pick (.t 16) (.t 20) (.c (.bool false))),u_ 6 (.mv (.t 21))]) .ret))
def qB:PFn:=⟨22,[],X8,[.tmp 6],[.n]⟩
def yy:zb:=.seq (.seq (.reg [u_ 19 (.mv (.t 7)),u_ 20 (.mv (.t 6)),u_ 21 (.len (.t 20)),u_ 22 (.bin .lss (.t 19) (.t 21))]) (.cond (.t 22) .skip (.keep [3,6] [(3,3),(6,6)] (.exit 0)))) (.seq (.block 1 (.seq (.dreg 0 [qn 25 (.mv (.t 6)),qn 26 (.mv (.t 7)),qn 27 (.iad 3 (.t 25) (.t 26)),qn 28 (.fad 0 (.t 27)),qn 29 (.ld (.t 28)),qn 30 (.fad 0 (.t 3)),qn 31 (.ld (.t 30)),qn 32 (.bin .gtr (.t 29) (.t 31))]) (.cond (.t 32) (.seq (.frz [6] (.dreg 2 [((⟨some 33,.bsl 3 [.int .i64 0,.int .i64 0,.int .i64 0] 0 [],none⟩,.al 0),⟨.s 3,[]⟩),qn 34 (.mv (.t 6)),qn 35 (.mv (.t 7)),qn 36 (.slc 3 (.t 34) none (some (.t 35)) none),qn 38 (.ldn 3 (.t 3)),((⟨some 39,.bsl 3 [.int .i64 0,.int .i64 0,.int .i64 0] 1 [(0,3,.t 38)],none⟩,.al 1),⟨.f,[]⟩),qn 41 (.mv (.t 6)),qn 42 (.mv (.t 7)),qn 43 (.slc 3 (.t 41) (some (.t 42)) none none),((⟨some 37,.app 3 24 [.int .i64 0,.int .i64 0,.int .i64 0] (.t 33) (.t 36),none⟩,.ef [4,5,8]),⟨.s 3,[]⟩),((⟨some 40,.app 3 24 [.int .i64 0,.int .i64 0,.int .i64 0] (.t 37) (.t 39),none⟩,.ef [8]),⟨.s 3,[]⟩),((⟨some 44,.app 3 24 [.int .i64 0,.int .i64 0,.int .i64 0] (.t 40) (.t 43),none⟩,.ef []),⟨.s 3,[]⟩),qn 4 (.mv (.t 44)),qn 5 (.mv (.c (.bool true)))])) (.keep [4,5] [(33,4)] .ret)) .skip))) (.fin (.reg [u_ 23 (.mv (.t 7)),u_ 24 (.bin .add (.t 23) (.c (.int .i64 1))),u_ 7 (.mv (.t 24))]) [] [] [3,6,7] [(3,3),(6,6)]))
def kO:zb:=.seq (.reg [u_ 45 (.mv (.t 6)),u_ 46 (.ldn 3 (.t 3)),(⟨some 47,.bsl 3 [.int .i64 0,.int .i64 0,.int .i64 0] 1 [(0,3,.t 46)],none⟩,⟨.f,[]⟩),(⟨some 48,.app 3 24 [.int .i64 0,.int .i64 0,.int .i64 0] (.t 45) (.t 47),none⟩,⟨.s 3,[]⟩),u_ 4 (.mv (.t 48)),u_ 5 (.mv (.c (.bool true)))]) .ret
def YA:zb:=.seq (.reg [(⟨some 3,.box (.t 1),none⟩,⟨.s 3,[]⟩),u_ 4 (.mv (.c .nils)),u_ 5 (.mv (.c (.bool false)))]) (.seq (.seq (.reg [u_ 8 (.mv (.t 0)),u_ 9 (.fad 0 (.t 3)),u_ 10 (.ld (.t 9)),u_ 11 (.fad 1 (.t 3)),u_ 12 (.ld (.t 11)),u_ 13 (.call (.c (.fn 55 [] [])) [.t 8,.t 10,.t 12])]) (.cond (.t 13) (.seq (.reg [u_ 14 (.mv (.t 0)),u_ 4 (.mv (.t 14)),u_ 5 (.mv (.c (.bool false)))]) .ret) .skip)) (.seq (.reg [u_ 15 (.mv (.t 0)),u_ 16 (.fad 0 (.t 3)),u_ 17 (.ld (.t 16)),(⟨some 18,.call (.c (.fn 59 [] [])) [.t 15,.t 17],none⟩,⟨.s 3,[]⟩),u_ 6 (.mv (.t 18))]) (.seq (.seq (.reg [u_ 7 (.mv (.c (.int .i64 0)))]) (.block 0 (.keep [3,6,7] [(3,3),(18,6)] (.loop yy)))) kO)))
def qb:PFn:=⟨49,[],YA,[.tmp 4,.tmp 5],[.f 3,.n]⟩
def wq:zb:=.seq (.reg [(⟨some 2,.box (.t 0),none⟩,⟨.s 13,[]⟩),(⟨some 3,.box (.t 1),none⟩,⟨.s 10,[]⟩),(⟨some 4,.newc [.int .i64 0,.int .i64 0,.int .i64 0,.int .i64 0,.int .i64 0,.int .i64 0,.nils,.int .i64 0,.int .i64 0,.int .i64 0,.int .i64 0,.int .i64 0,.nils],none⟩,⟨.s 13,[]⟩),u_ 5 (.mv (.c .nils))]) (.seq (.seq (.reg [u_ 8 (.fad 3 (.t 2)),u_ 9 (.ld (.t 8)),u_ 10 (.bin .neq (.t 9) (.c (.int .i64 0))),u_ 11 (.mv (.t 10)),ug 12 11 true (.fad 1 (.t 3)),ug 13 11 true (.ld (.t 12)),ug 14 11 true (.fad 3 (.t 2)),ug 15 11 true (.ld (.t 14)),ug 16 11 true (.bin .eql (.t 13) (.t 15)),u_ 17 (.pick (.t 11) (.t 16) (.c (.bool false)))]) (.cond (.t 17) (.seq (.reg [u_ 18 (.ldn 13 (.t 2)),(⟨none,.st 13 (.t 4) (.t 18),none⟩,⟨.n,[]⟩),u_ 5 (.mv (.c .nils))]) .ret) .skip)) (.seq (.seq (.reg [u_ 19 (.fad 9 (.t 2)),u_ 20 (.ld (.t 19)),u_ 21 (.bin .eql (.t 20) (.c (.int .i64 0))),u_ 22 (.mv (.t 21)),ug 23 22 false (.fad 9 (.t 2)),ug 24 22 false (.ld (.t 23)),ug 25 22 false (.fad 1 (.t 3)),ug 26 22 false (.ld (.t 25)),ug 27 22 false (.bin .neq (.t 24) (.t 26)),u_ 28 (.pick (.t 22) (.c (.bool true)) (.t 27)),u_ 29 (.mv (.t 28)),ug 30 29 false (.fad 3 (.t 2)),ug 31 29 false (.ld (.t 30)),ug 32 29 false (.bin .neq (.t 31) (.c (.int .i64 0))),u_ 33 (.pick (.t 29) (.c (.bool true)) (.t 32))]) (.cond (.t 33) (.seq (.dreg 1 [qn 34 (.ldn 13 (.t 2)),qn 35 (.ldn 13 (.t 2)),qn 36 (.fad 1 (.t 3)),qn 37 (.ld (.t 36)),((⟨some 38,.call (.c (.fn 45 [] [])) [.t 35,.c (.int .i64 6),.t 37],none⟩,.ef [0]),⟨.n,[]⟩),((⟨some 39,.bsl 10 [.int .i64 0,.int .i64 0,.int .i64 0,.int .i64 0,.int .i64 0,.int .i64 0,.nils,.int .i64 0,.int .i64 0,.str []] 1 [(0,10,.t 38)],none⟩,.al 0),⟨.s 10,[]⟩),((⟨none,.st 13 (.t 4) (.t 34),none⟩,.ef [5]),⟨.n,[]⟩),qn 5 (.mv (.t 39))]) .ret) .skip)) (.seq (.reg [u_ 41 (.fad 6 (.t 3)),u_ 42 (.ld (.t 41)),u_ 43 (.fad 0 (.t 2)),u_ 44 (.ld (.t 43)),u_ 45 (.call (.c (.fn 35 [] [])) [.t 42,.t 44]),u_ 40 (.mv (.t 45)),u_ 46 (.ext (.t 40) 0),u_ 47 (.ext (.t 40) 1),u_ 6 (.mv (.t 46)),u_ 7 (.mv (.t 47))]) (.seq (.reg [u_ 48 (.fad 9 (.t 2)),(⟨none,.st 1 (.t 48) (.c (.int .i64 0)),none⟩,⟨.n,[]⟩)]) (.seq (.seq (.reg [u_ 49 (.mv (.t 7)),u_ 50 (.un .not (.t 49)),u_ 51 (.mv (.t 50)),ug 52 51 false (.fad 5 (.t 3)),ug 53 51 false (.ld (.t 52)),ug 54 51 false (.bin .gtr (.t 53) (.c (.int .i64 20))),u_ 55 (.pick (.t 51) (.c (.bool true)) (.t 54))]) (.cond (.t 55) (.seq (.reg [u_ 56 (.fad 11 (.t 2)),u_ 57 (.ld (.t 56)),u_ 58 (.bin .add (.t 57) (.c (.int .i64 1))),u_ 59 (.fad 11 (.t 2)),(⟨none,.st 1 (.t 59) (.t 58),none⟩,⟨.n,[]⟩)]) (.seq (.dreg 1 [qn 60 (.ldn 13 (.t 2)),qn 61 (.ldn 13 (.t 2)),qn 62 (.fad 1 (.t 3)),qn 63 (.ld (.t 62)),((⟨some 64,.call (.c (.fn 45 [] [])) [.t 61,.c (.int .i64 6),.t 63],none⟩,.ef [0]),⟨.n,[]⟩),((⟨some 65,.bsl 10 [.int .i64 0,.int .i64 0,.int .i64 0,.int .i64 0,.int .i64 0,.int .i64 0,.nils,.int .i64 0,.int .i64 0,.str []] 1 [(0,10,.t 64)],none⟩,.al 0),⟨.s 10,[]⟩),((⟨none,.st 13 (.t 4) (.t 60),none⟩,.ef [5]),⟨.n,[]⟩),qn 5 (.mv (.t 65))]) .ret)) .skip)) (.seq (.dreg 0 [qn 66 (.fad 1 (.t 3)),qn 67 (.ld (.t 66)),qn 68 (.fad 3 (.t 3)),qn 69 (.ld (.t 68)),qn 70 (.mv (.t 6)),qn 71 (.fad 6 (.t 3)),qn 72 (.ld (.t 71)),qn 74 (.fad 3 (.t 2)),((⟨some 73,.call (.c (.fn 58 [] [])) [.t 72],none⟩,.ef [1,3]),⟨.n,[]⟩),((⟨none,.st 1 (.t 74) (.t 67),none⟩,.ef [3]),⟨.n,[]⟩),qn 75 (.fad 4 (.t 2)),((⟨none,.st 1 (.t 75) (.t 69),none⟩,.ef []),⟨.n,[]⟩),qn 76 (.fad 6 (.t 2)),((⟨none,.st 1 (.t 76) (.t 70),none⟩,.ef []),⟨.n,[]⟩),qn 77 (.fad 5 (.t 2)),((⟨none,.st 1 (.t 77) (.t 73),none⟩,.ef []),⟨.n,[]⟩)]) (.seq (.dreg 0 [qn 78 (.fad 4 (.t 3)),qn 79 (.ld (.t 78)),qn 80 (.fad 2 (.t 2)),qn 81 (.ld (.t 80)),qn 82 (.fad 5 (.t 3)),qn 83 (.ld (.t 82)),qn 84 (.bin .sub (.t 81) (.t 83)),qn 85 (.fad 7 (.t 2)),((⟨none,.st 1 (.t 85) (.t 79),none⟩,.ef [5]),⟨.n,[]⟩),qn 86 (.fad 8 (.t 2)),((⟨none,.st 1 (.t 86) (.t 84),none⟩,.ef []),⟨.n,[]⟩),qn 87 (.fad 11 (.t 2)),((⟨none,.st 1 (.t 87) (.c (.int .i64 0)),none⟩,.ef []),⟨.n,[]⟩)]) (.seq (.reg [u_ 88 (.ldn 13 (.t 2)),(⟨none,.st 13 (.t 4) (.t 88),none⟩,⟨.n,[]⟩),u_ 5 (.mv (.c .nils))]) .ret))))))))
def yS:PFn:=⟨89,[],wq,[.cell 4 (some 13),.tmp 5],[.n,.f 10]⟩
def ZC:zb:=.seq (.reg [u_ 2 (.mv (.c (.int .i64 0)))]) (.seq (.reg [u_ 4 (.mv (.t 0)),u_ 5 (.call (.c (.fn 74 [] [])) [.t 4]),u_ 3 (.mv (.t 5))]) (.seq (.seq (.reg [u_ 6 (.mv (.t 3)),u_ 7 (.bin .eql (.t 6) (.c (.int .i64 0)))]) (.cond (.t 7) (.seq (.reg [u_ 2 (.mv (.c (.int .i64 1)))]) .ret) .skip)) (.seq (.reg [u_ 8 (.mv (.t 3)),u_ 2 (.mv (.t 8))]) .ret)))
def xy:PFn:=⟨9,[],ZC,[.tmp 2],[.n]⟩
def kP:zb:=.fin (.reg [u_ 11 (.mv (.t 6)),u_ 12 (.bin .add (.t 11) (.c (.int .i64 1))),u_ 6 (.mv (.t 12))]) [] [] [0,1,5,6] [(5,5)]
def yz:zb:=.seq (.seq (.reg [u_ 7 (.mv (.t 6)),u_ 8 (.mv (.t 0)),u_ 9 (.len (.t 8)),u_ 10 (.bin .lss (.t 7) (.t 9))]) (.cond (.t 10) .skip (.keep [5] [(5,5)] (.exit 0)))) (.seq (.block 1 (.seq (.reg [u_ 13 (.mv (.t 0)),u_ 14 (.mv (.t 6)),u_ 15 (.iad 3 (.t 13) (.t 14)),u_ 16 (.fad 0 (.t 15)),u_ 17 (.ld (.t 16)),u_ 18 (.mv (.t 1)),u_ 19 (.bin .neq (.t 17) (.t 18))]) (.fin (.cond (.t 19) (.fin (.reg [u_ 20 (.mv (.t 5)),u_ 21 (.mv (.t 0)),u_ 22 (.mv (.t 6)),u_ 23 (.iad 3 (.t 21) (.t 22)),u_ 24 (.ldn 3 (.t 23)),(⟨some 25,.bsl 3 [.int .i64 0,.int .i64 0,.int .i64 0] 1 [(0,3,.t 24)],none⟩,⟨.f,[]⟩),(⟨some 26,.app 3 24 [.int .i64 0,.int .i64 0,.int .i64 0] (.t 20) (.t 25),none⟩,⟨.s 3,[]⟩),u_ 5 (.mv (.t 26))]) [] [] [0,1,5,6] [(5,5)]) (.fin .skip [] [] [0,1,5,6] [(5,5)])) [] [] [0,1,5,6] [(5,5)]))) kP)
def kQ:zb:=.seq (.reg [u_ 27 (.mv (.t 5)),u_ 4 (.mv (.t 27))]) .ret
def YB:zb:=.seq (.reg [u_ 4 (.mv (.c .nils))]) (.seq (.reg [u_ 5 (.mv (.c .nils))]) (.seq (.seq (.reg [u_ 6 (.mv (.c (.int .i64 0)))]) (.block 0 (.own 5 3 (.keep [0,1,5,6] [(5,5)] (.loop yz))))) kQ))
def qc:PFn:=⟨28,[],YB,[.tmp 4],[.o 3]⟩
def vw:zb:=.dreg 1 [qn 54 (.mv (.t 0)),qn 55 (.mv (.t 0)),qn 56 (.nck (.t 55)),qn 57 (.fad 13 (.t 56)),qn 58 (.ld (.t 57)),qn 59 (.ldn 10 (.t 8)),((⟨some 60,.bsl 10 [.int .i64 0,.int .i64 0,.int .i64 0,.int .i64 0,.int .i64 0,.int .i64 0,.nils,.int .i64 0,.int .i64 0,.str []] 1 [(0,10,.t 59)],none⟩,.al 0),⟨.f,[]⟩),((⟨some 61,.app 10 104 [.int .i64 0,.int .i64 0,.int .i64 0,.int .i64 0,.int .i64 0,.int .i64 0,.nils,.int .i64 0,.int .i64 0,.str []] (.t 58) (.t 60),none⟩,.ef []),⟨.i,[]⟩),qn 62 (.nck (.t 54)),qn 63 (.fad 13 (.t 62)),((⟨none,.st 1 (.t 63) (.t 61),none⟩,.ef []),⟨.n,[]⟩)]
def X9:zb:=.seq (.dreg 1 [qn 9 (.mv (.t 1)),qn 10 (.mv (.t 0)),qn 11 (.nck (.t 10)),qn 12 (.fad 0 (.t 11)),qn 13 (.fad 0 (.t 12)),qn 14 (.ld (.t 13)),qn 15 (.mv (.t 2)),qn 16 (.mv (.t 0)),qn 17 (.nck (.t 16)),qn 18 (.fad 0 (.t 17)),qn 19 (.fad 1 (.t 18)),qn 20 (.ld (.t 19)),qn 21 (.mv (.t 3)),qn 22 (.build [.int .i64 0,.int .i64 0,.int .i64 0,.int .i64 0,.int .i64 0,.int .i64 0,.nils,.int .i64 0,.int .i64 0,.str []] [(0,1,.t 9),(1,1,.t 14),(2,1,.t 15),(3,1,.t 20),(7,1,.t 21)]),((⟨some 8,.newc [.int .i64 0,.int .i64 0,.int .i64 0,.int .i64 0,.int .i64 0,.int .i64 0,.nils,.int .i64 0,.int .i64 0,.str []],none⟩,.al 0),⟨.s 10,[]⟩),((⟨none,.st 10 (.t 8) (.t 22),none⟩,.ef []),⟨.n,[]⟩)]) (.seq (.seq (.reg [u_ 23 (.mv (.t 1)),u_ 24 (.bin .eql (.t 23) (.c (.int .i64 2))),u_ 25 (.mv (.t 24)),ug 26 25 false (.mv (.t 1)),ug 27 25 false (.bin .eql (.t 26) (.c (.int .i64 5))),u_ 28 (.pick (.t 25) (.c (.bool true)) (.t 27))]) (.cond (.t 28) (.fin (.dreg 0 [qn 29 (.mv (.t 0)),qn 30 (.nck (.t 29)),qn 31 (.fad 0 (.t 30)),qn 32 (.fad 7 (.t 31)),qn 33 (.ld (.t 32)),qn 34 (.mv (.t 0)),qn 35 (.nck (.t 34)),qn 36 (.fad 0 (.t 35)),qn 37 (.fad 2 (.t 36)),qn 38 (.ld (.t 37)),qn 39 (.mv (.t 0)),qn 40 (.nck (.t 39)),qn 41 (.fad 0 (.t 40)),qn 42 (.fad 8 (.t 41)),qn 43 (.ld (.t 42)),qn 44 (.bin .sub (.t 38) (.t 43)),qn 45 (.mv (.t 0)),qn 46 (.nck (.t 45)),qn 47 (.fad 0 (.t 46)),qn 48 (.fad 6 (.t 47)),qn 49 (.ld (.t 48)),qn 51 (.fad 4 (.t 8)),((⟨some 50,.call (.c (.fn 64 [] [])) [.t 49],none⟩,.ef [4,9,14]),⟨.n,[]⟩),((⟨none,.st 1 (.t 51) (.t 33),none⟩,.ef [9,14]),⟨.n,[]⟩),qn 52 (.fad 5 (.t 8)),((⟨none,.st 1 (.t 52) (.t 44),none⟩,.ef []),⟨.n,[]⟩),qn 53 (.fad 6 (.t 8)),((⟨none,.st 1 (.t 53) (.t 50),none⟩,.ef []),⟨.n,[]⟩)]) [] [] [0,8] [(8,8)]) (.fin .skip [] [] [0,8] [(8,8)]))) vw)
def qC:PFn:=⟨64,[],X9,[],[]⟩
def yp:zb:=.fin (.reg [u_ 20 (.mv (.t 6)),u_ 21 (.bin .add (.t 20) (.c (.int .i64 1))),u_ 6 (.mv (.t 21))]) [] [] [0,1,5,6] [(0,0)]
def zq:zb:=.seq (.seq (.reg [u_ 16 (.mv (.t 6)),u_ 17 (.mv (.t 0)),u_ 18 (.len (.t 17)),u_ 19 (.bin .lss (.t 16) (.t 18))]) (.cond (.t 19) .skip (.keep [0,5] [(0,0)] (.exit 0)))) (.seq (.block 1 (.seq (.reg [u_ 22 (.mv (.t 0)),u_ 23 (.mv (.t 6)),u_ 24 (.iad 3 (.t 22) (.t 23)),u_ 25 (.ldn 3 (.t 24)),(⟨some 7,.newc [.int .i64 0,.int .i64 0,.int .i64 0],none⟩,⟨.s 3,[]⟩),(⟨none,.st 3 (.t 7) (.t 25),none⟩,⟨.n,[]⟩)]) (.seq (.reg [u_ 26 (.mv (.t 1)),u_ 27 (.ldn 3 (.t 7)),u_ 28 (.call (.t 26) [.t 27]),u_ 29 (.un .not (.t 28))]) (.fin (.cond (.t 29) (.seq (.reg [u_ 30 (.mv (.t 0)),u_ 31 (.mv (.t 5)),u_ 32 (.ldn 3 (.t 7)),u_ 33 (.iad 3 (.t 30) (.t 31)),(⟨none,.st 3 (.t 33) (.t 32),none⟩,⟨.n,[]⟩)]) (.fin (.reg [u_ 34 (.mv (.t 5)),u_ 35 (.bin .add (.t 34) (.c (.int .i64 1))),u_ 5 (.mv (.t 35))]) [] [] [0,1,5,6] [(0,0)])) (.fin .skip [] [] [0,1,5,6] [(0,0)])) [] [] [0,1,5,6] [(0,0)])))) yp)
def yq:zb:=.seq (.reg [u_ 36 (.mv (.t 0)),u_ 37 (.mv (.t 5)),(⟨some 38,.slc 3 (.t 36) (some (.t 37)) none none,none⟩,⟨.s 3,[]⟩),(⟨none,.clr 3 [.int .i64 0,.int .i64 0,.int .i64 0] (.t 38),none⟩,⟨.n,[]⟩)]) (.seq (.reg [u_ 39 (.mv (.t 0)),u_ 40 (.mv (.t 5)),(⟨some 41,.slc 3 (.t 39) none (some (.t 40)) none,none⟩,⟨.n,[39]⟩),u_ 4 (.mv (.t 41))]) .ret)
def xR:zb:=.seq (.reg [u_ 4 (.mv (.c .nils))]) (.seq (.reg [u_ 8 (.mv (.t 0)),u_ 9 (.mv (.t 1)),(⟨some 10,.call (.c (.fn 75 [] [])) [.t 8,.t 9],none⟩,⟨.l,[]⟩),u_ 5 (.mv (.t 10))]) (.seq (.seq (.reg [u_ 11 (.mv (.t 5)),u_ 12 (.bin .eql (.t 11) (.c (.int .i64 (-1))))]) (.cond (.t 12) (.seq (.reg [u_ 13 (.mv (.t 0)),u_ 4 (.mv (.t 13))]) .ret) .skip)) (.seq (.seq (.reg [u_ 14 (.mv (.t 5)),u_ 15 (.bin .add (.t 14) (.c (.int .i64 1))),u_ 6 (.mv (.t 15))]) (.block 0 (.keep [0,1,5,6] [(0,0)] (.loop zq)))) yq)))
def zJ:PFn:=⟨42,[(0,3)],xR,[.tmp 4],[.f 3]⟩
def z1W:zb:=.seq (.reg [(⟨some 2,.box (.t 0),none⟩,⟨.s 3,[]⟩),u_ 3 (.mv (.c (.bool false)))]) (.seq (.reg [u_ 4 (.ld (.t 1)),u_ 5 (.fad 2 (.t 2)),u_ 6 (.ld (.t 5)),u_ 7 (.bin .sub (.t 4) (.t 6)),u_ 8 (.bin .gtr (.t 7) (.c (.int .i64 20))),u_ 3 (.mv (.t 8))]) .ret)
def vq:PFn:=⟨9,[],z1W,[.tmp 3],[.n]⟩
def z0U:zb:=.seq (.reg [(⟨some 4,.newc [.int .i64 0,.int .i64 0,.int .i64 0],none⟩,⟨.s 3,[]⟩),u_ 5 (.mv (.c (.bool false)))]) (.seq (.reg [u_ 9 (.mv (.t 0)),u_ 10 (.mv (.t 1)),u_ 11 (.call (.c (.fn 76 [] [])) [.t 9,.t 10]),u_ 8 (.mv (.t 11)),u_ 12 (.ext (.t 8) 0),u_ 13 (.ext (.t 8) 1),u_ 6 (.mv (.t 12)),u_ 7 (.mv (.t 13))]) (.seq (.seq (.reg [u_ 14 (.mv (.t 7)),u_ 15 (.un .not (.t 14))]) (.cond (.t 15) (.seq (.reg [u_ 16 (.build [.int .i64 0,.int .i64 0,.int .i64 0] []),(⟨none,.st 3 (.t 4) (.t 16),none⟩,⟨.n,[]⟩),u_ 5 (.mv (.c (.bool false)))]) .ret) .skip)) (.seq (.reg [u_ 17 (.mv (.t 0)),u_ 18 (.mv (.t 6)),u_ 19 (.iad 3 (.t 17) (.t 18)),u_ 20 (.ldn 3 (.t 19)),(⟨none,.st 3 (.t 4) (.t 20),none⟩,⟨.n,[]⟩),u_ 5 (.mv (.c (.bool true)))]) .ret)))
def wr:PFn:=⟨21,[],z0U,[.cell 4 (some 3),.tmp 5],[.n,.n]⟩
def wt:zb:=.seq (.reg [u_ 15 (.mv (.t 0)),u_ 16 (.nck (.t 15)),u_ 17 (.fad 0 (.t 16)),u_ 18 (.fad 12 (.t 17)),u_ 19 (.ld (.t 18)),u_ 20 (.mv (.t 1)),u_ 21 (.call (.c (.fn 68 [] [])) [.t 19,.t 20]),u_ 14 (.mv (.t 21)),u_ 22 (.ext (.t 14) 0),u_ 23 (.ext (.t 14) 1),(⟨some 6,.newc [.int .i64 0,.int .i64 0,.int .i64 0],none⟩,⟨.s 3,[]⟩),(⟨none,.st 3 (.t 6) (.t 22),none⟩,⟨.n,[]⟩),u_ 7 (.mv (.t 23))]) (.seq (.reg [u_ 24 (.mv (.t 0)),u_ 25 (.nck (.t 24)),u_ 26 (.fad 0 (.t 25)),u_ 27 (.ldn 13 (.t 26)),u_ 28 (.call (.c (.fn 25 [] [])) [.t 27]),u_ 29 (.mv (.t 28)),ug 30 29 true (.mv (.t 0)),ug 31 29 true (.nck (.t 30)),ug 32 29 true (.fad 0 (.t 31)),ug 33 29 true (.fad 6 (.t 32)),ug 34 29 true (.ld (.t 33)),ug 35 29 true (.mv (.t 1)),ug 36 29 true (.call (.c (.fn 77 [] [])) [.t 34,.t 35]),ug 37 29 true (.un .not (.t 36)),u_ 38 (.pick (.t 29) (.t 37) (.c (.bool false))),u_ 39 (.mv (.t 38)),ug 40 39 true (.mv (.t 7)),ug 41 39 true (.mv (.t 40)),ug 42 41 false (.mv (.t 0)),ug 43 41 false (.nck (.t 42)),ug 44 41 false (.fad 0 (.t 43)),ug 45 41 false (.fad 12 (.t 44)),ug 46 41 false (.ld (.t 45)),ug 47 41 false (.len (.t 46)),ug 48 41 false (.mv (.t 5)),ug 49 41 false (.bin .lss (.t 47) (.t 48)),ug 50 39 true (.pick (.t 41) (.c (.bool true)) (.t 49)),u_ 51 (.pick (.t 39) (.t 50) (.c (.bool false))),u_ 4 (.mv (.t 51))]) .ret)
def QK:zb:=.seq (.reg [u_ 4 (.mv (.c (.bool false)))]) (.seq (.reg [u_ 5 (.mv (.c (.int .i64 3)))]) (.seq (.seq (.reg [u_ 8 (.mv (.t 0)),u_ 9 (.nck (.t 8)),u_ 10 (.fad 0 (.t 9)),u_ 11 (.fad 0 (.t 10)),u_ 12 (.ld (.t 11)),u_ 13 (.bin .eql (.t 12) (.c (.int .i64 1)))]) (.cond (.t 13) (.fin (.reg [u_ 5 (.mv (.c (.int .i64 8)))]) [] [] [0,1,5] []) (.fin .skip [] [] [0,1,5] []))) wt))
def je:PFn:=⟨52,[],QK,[.tmp 4],[.n]⟩
def Xa:zb:=.seq (.reg [(⟨some 3,.box (.t 1),none⟩,⟨.s 10,[]⟩)]) (.dreg 0 [qn 5 (.mv (.t 0)),qn 6 (.mv (.t 0)),qn 7 (.nck (.t 6)),qn 8 (.fad 0 (.t 7)),qn 9 (.fad 12 (.t 8)),qn 10 (.ld (.t 9)),qn 11 (.fad 1 (.t 3)),qn 12 (.ld (.t 11)),qn 13 (.fad 3 (.t 3)),qn 14 (.ld (.t 13)),qn 15 (.mv (.t 0)),qn 16 (.nck (.t 15)),qn 17 (.fad 0 (.t 16)),qn 18 (.fad 2 (.t 17)),qn 19 (.ld (.t 18)),qn 20 (.build [.int .i64 0,.int .i64 0,.int .i64 0] [(0,1,.t 12),(1,1,.t 14),(2,1,.t 19)]),((⟨some 21,.call (.c (.fn 78 [] [])) [.t 10,.t 20],none⟩,.ef []),⟨.n,[]⟩),qn 4 (.mv (.t 21)),qn 22 (.ext (.t 4) 0),qn 23 (.ext (.t 4) 1),qn 24 (.nck (.t 5)),qn 25 (.fad 0 (.t 24)),qn 26 (.fad 12 (.t 25)),((⟨none,.st 1 (.t 26) (.t 22),none⟩,.ef []),⟨.n,[]⟩)])
def qD:PFn:=⟨27,[],Xa,[],[]⟩
def z1X:zb:=.seq (.reg [u_ 4 (.mv (.c .nils)),u_ 5 (.mv (.c (.bool false)))]) (.seq (.reg [u_ 7 (.mv (.t 0)),(⟨some 8,.call (.c (.fn 64 [] [])) [.t 7],none⟩,⟨.s 1,[]⟩),u_ 9 (.mv (.t 1)),(⟨some 10,.bsl 1 [.int .i64 0] 1 [(0,1,.t 9)],none⟩,⟨.f,[]⟩),(⟨some 11,.app 1 8 [.int .i64 0] (.t 8) (.t 10),none⟩,⟨.s 1,[]⟩),u_ 6 (.mv (.t 11))]) (.seq (.seq (.reg [u_ 12 (.mv (.t 6)),(⟨some 13,.call (.c (.fn 79 [] [])) [.t 12],none⟩,⟨.l,[]⟩),u_ 14 (.un .not (.t 13))]) (.cond (.t 14) (.seq (.reg [u_ 4 (.mv (.c .nils)),u_ 5 (.mv (.c (.bool false)))]) .ret) .skip)) (.seq (.reg [u_ 15 (.mv (.t 6)),u_ 4 (.mv (.t 15)),u_ 5 (.mv (.c (.bool true)))]) .ret)))
def Zc:PFn:=⟨16,[],z1X,[.tmp 4,.tmp 5],[.f 1,.n]⟩
def Jb:zb:=.seq (.reg [(⟨some 4,.box (.t 1),none⟩,⟨.s 10,[]⟩)]) (.seq (.reg [u_ 6 (.mv (.t 0)),u_ 7 (.mv (.t 0)),u_ 8 (.mv (.t 2)),u_ 9 (.fad 6 (.t 4)),u_ 10 (.ld (.t 9)),u_ 11 (.call (.c (.fn 80 [] [])) [.t 10]),u_ 12 (.nck (.t 6)),u_ 13 (.fad 0 (.t 12)),u_ 14 (.fad 6 (.t 13)),(⟨none,.st 1 (.t 14) (.t 8),none⟩,⟨.n,[]⟩),u_ 15 (.nck (.t 7)),u_ 16 (.fad 0 (.t 15)),u_ 17 (.fad 5 (.t 16)),(⟨none,.st 1 (.t 17) (.t 11),none⟩,⟨.n,[]⟩)]) (.seq (.reg [u_ 18 (.mv (.t 0)),u_ 19 (.nck (.t 18)),u_ 20 (.fad 0 (.t 19)),u_ 21 (.fad 5 (.t 20)),u_ 22 (.ld (.t 21)),u_ 23 (.bin .eql (.t 22) (.c (.int .i64 0)))]) (.cond (.t 23) (.fin (.reg [u_ 24 (.mv (.t 0)),u_ 25 (.nck (.t 24)),u_ 26 (.fad 0 (.t 25)),u_ 27 (.fad 5 (.t 26)),(⟨none,.st 1 (.t 27) (.c (.int .i64 1)),none⟩,⟨.n,[]⟩)]) [] [] [] []) (.fin .skip [] [] [] []))))
def ju:PFn:=⟨28,[],Jb,[],[]⟩
def Kv:zb:=.seq (.reg [(⟨some 2,.box (.t 0),none⟩,⟨.s 3,[]⟩),u_ 3 (.mv (.c (.bool false)))]) (.seq (.reg [u_ 4 (.fad 0 (.t 2)),u_ 5 (.ld (.t 4)),u_ 6 (.ld (.t 1)),u_ 7 (.bin .eql (.t 5) (.t 6)),u_ 3 (.mv (.t 7))]) .ret)
def ke:PFn:=⟨8,[],Kv,[.tmp 3],[.n]⟩
def Y2:zb:=.seq (.reg [u_ 2 (.mv (.c (.int .i64 0)))]) (.seq (.seq (.reg [u_ 3 (.mv (.t 0)),u_ 4 (.len (.t 3)),u_ 5 (.bin .lss (.t 4) (.c (.int .i64 2)))]) (.cond (.t 5) (.seq (.reg [u_ 2 (.mv (.c (.int .i64 0)))]) .ret) .skip)) (.seq (.reg [u_ 6 (.mv (.t 0)),u_ 7 (.mv (.t 0)),u_ 8 (.len (.t 7)),u_ 9 (.bin .sub (.t 8) (.c (.int .i64 2))),u_ 10 (.iad 1 (.t 6) (.t 9)),u_ 11 (.ld (.t 10)),u_ 2 (.mv (.t 11))]) .ret))
def xJ:PFn:=⟨12,[],Y2,[.tmp 2],[.n]⟩
def zr:zb:=.seq (.reg [u_ 9 (.bin .lss (.t 8) (.t 7))]) (.seq (.cond (.t 9) .skip (.keep [] [] (.exit 0))) (.seq (.block 1 (.seq (.reg [u_ 10 (.mv (.t 8)),u_ 5 (.mv (.t 10))]) (.seq (.reg [u_ 11 (.mv (.t 1)),u_ 12 (.mv (.t 0)),u_ 13 (.mv (.t 5)),u_ 14 (.iad 3 (.t 12) (.t 13)),u_ 15 (.ldn 3 (.t 14)),u_ 16 (.call (.t 11) [.t 15])]) (.cond (.t 16) (.seq (.reg [u_ 17 (.mv (.t 5)),u_ 4 (.mv (.t 17))]) (.keep [4] [] .ret)) .skip)))) (.fin (.reg [u_ 18 (.bin .add (.t 8) (.c (.int .i64 1))),u_ 8 (.mv (.t 18))]) [] [] [0,1,7,8] [])))
def yA:zb:=.seq (.reg [u_ 4 (.mv (.c (.int .i64 (-1))))]) .ret
def qd:zb:=.seq (.reg [u_ 4 (.mv (.c (.int .i64 0)))]) (.seq (.seq (.reg [u_ 6 (.mv (.t 0)),u_ 7 (.len (.t 6)),u_ 8 (.mv (.c (.int .i64 0)))]) (.block 0 (.keep [0,1,7,8] [] (.loop zr)))) yA)
def zL:PFn:=⟨19,[],qd,[.tmp 4],[.n]⟩
def VT:zb:=.seq (.reg [u_ 4 (.mv (.c (.int .i64 0))),u_ 5 (.mv (.c (.bool false)))]) (.seq (.reg [u_ 6 (.mv (.t 0)),u_ 7 (.mv (.t 1)),u_ 8 (.call (.c (.fn 81 [] [])) [.t 6,.t 7,.c (.fn 82 [] [])]),u_ 9 (.ext (.t 8) 0),u_ 10 (.ext (.t 8) 1),u_ 4 (.mv (.t 9)),u_ 5 (.mv (.t 10))]) .ret)
def kX:PFn:=⟨11,[],VT,[.tmp 4,.tmp 5],[.n,.n]⟩
def z1Y:zb:=.seq (.reg [u_ 4 (.mv (.c (.bool false)))]) (.seq (.reg [u_ 5 (.mv (.t 0)),u_ 6 (.mv (.t 1)),u_ 7 (.call (.c (.fn 84 [] [])) [.t 5,.t 6]),u_ 4 (.mv (.t 7))]) .ret)
def Zd:PFn:=⟨8,[],z1Y,[.tmp 4],[.n]⟩
def z0V:zb:=.seq (.reg [(⟨some 3,.box (.t 1),none⟩,⟨.s 3,[]⟩),u_ 4 (.mv (.c .nils)),u_ 5 (.mv (.c (.bool false)))]) (.seq (.reg [u_ 9 (.mv (.t 0)),(⟨some 10,.call (.c (.fn 65 [] [])) [.t 9],none⟩,⟨.s 3,[]⟩),u_ 6 (.mv (.t 10))]) (.seq (.seq (.reg [u_ 11 (.mv (.t 0)),u_ 12 (.fad 0 (.t 3)),u_ 13 (.ld (.t 12)),u_ 14 (.fad 1 (.t 3)),u_ 15 (.ld (.t 14)),u_ 16 (.call (.c (.fn 48 [] [])) [.t 11,.t 13,.t 15])]) (.cond (.t 16) (.seq (.reg [u_ 17 (.mv (.t 6)),u_ 4 (.mv (.t 17)),u_ 5 (.mv (.c (.bool false)))]) .ret) .skip)) (.seq (.reg [u_ 19 (.mv (.t 0)),u_ 20 (.fad 0 (.t 3)),u_ 21 (.ld (.t 20)),u_ 22 (.call (.c (.fn 76 [] [])) [.t 19,.t 21]),u_ 18 (.mv (.t 22)),u_ 23 (.ext (.t 18) 0),u_ 24 (.ext (.t 18) 1),u_ 7 (.mv (.t 23)),u_ 8 (.mv (.t 24))]) (.seq (.seq (.reg [u_ 25 (.mv (.t 8))]) (.cond (.t 25) (.seq (.reg [u_ 26 (.mv (.t 6)),u_ 27 (.mv (.t 7)),u_ 28 (.ldn 3 (.t 3)),u_ 29 (.iad 3 (.t 26) (.t 27)),(⟨none,.st 3 (.t 29) (.t 28),none⟩,⟨.n,[]⟩)]) (.seq (.reg [u_ 30 (.mv (.t 6)),u_ 4 (.mv (.t 30)),u_ 5 (.mv (.c (.bool true)))]) .ret)) .skip)) (.seq (.reg [u_ 31 (.mv (.t 6)),u_ 32 (.mv (.t 7)),u_ 33 (.ldn 3 (.t 3)),(⟨some 34,.bsl 3 [.int .i64 0,.int .i64 0,.int .i64 0] 1 [(0,3,.t 33)],none⟩,⟨.i,[]⟩),(⟨some 35,.call (.c (.fn 85 [] [])) [.t 31,.t 32,.t 34],none⟩,⟨.t 3,[]⟩),u_ 4 (.mv (.t 35)),u_ 5 (.mv (.c (.bool true)))]) .ret)))))
def wu:PFn:=⟨36,[],z0V,[.tmp 4,.tmp 5],[.f 3,.n]⟩
def z1Z:zb:=.seq (.reg [u_ 2 (.mv (.c (.bool false)))]) (.seq (.reg [u_ 6 (.mv (.t 0)),u_ 7 (.call (.c (.fn 86 [] [])) [.t 6]),u_ 8 (.tas 101 (.agg [.int .i64 0]) true (.t 7)),u_ 5 (.mv (.t 8)),u_ 9 (.ext (.t 5) 0),u_ 10 (.ext (.t 5) 1),(⟨some 3,.newc [.int .i64 0],none⟩,⟨.s 1,[]⟩),(⟨none,.st 1 (.t 3) (.t 9),none⟩,⟨.n,[]⟩),u_ 4 (.mv (.t 10))]) (.seq (.reg [u_ 11 (.mv (.t 4)),u_ 12 (.un .not (.t 11)),u_ 2 (.mv (.t 12))]) .ret))
def Ze:PFn:=⟨13,[],z1Z,[.tmp 2],[.n]⟩
def VU:zb:=.seq (.reg [u_ 2 (.mv (.c (.int .i64 0)))]) (.seq (.seq (.reg [u_ 3 (.mv (.t 0)),u_ 4 (.len (.t 3)),u_ 5 (.bin .lss (.t 4) (.c (.int .i64 2)))]) (.cond (.t 5) (.seq (.reg [u_ 2 (.mv (.c (.int .i64 0)))]) .ret) .skip)) (.seq (.reg [u_ 6 (.mv (.t 0)),u_ 7 (.mv (.t 0)),u_ 8 (.len (.t 7)),u_ 9 (.bin .sub (.t 8) (.c (.int .i64 2))),u_ 10 (.iad 1 (.t 6) (.t 9)),u_ 11 (.ld (.t 10)),u_ 2 (.mv (.t 11))]) .ret))
def kY:PFn:=⟨12,[],VU,[.tmp 2],[.n]⟩
def zk:zb:=.seq (.seq (.reg [u_ 15 (.mv (.t 9)),u_ 16 (.mv (.t 10)),u_ 17 (.bin .lss (.t 15) (.t 16))]) (.cond (.t 17) .skip (.keep [0,1,2,8,9] [] (.exit 0)))) (.fin (.block 1 (.seq (.reg [u_ 18 (.mv (.t 9)),u_ 19 (.mv (.t 10)),u_ 20 (.bin .add (.t 18) (.t 19)),u_ 21 (.cvi .u64 (.t 20)),u_ 22 (.bin .shr (.t 21) (.c (.int .u64 1))),u_ 23 (.cvi .i64 (.t 22)),u_ 11 (.mv (.t 23))]) (.seq (.reg [u_ 24 (.mv (.t 2)),u_ 25 (.mv (.t 0)),u_ 26 (.mv (.t 11)),u_ 27 (.iad 3 (.t 25) (.t 26)),u_ 28 (.ldn 3 (.t 27)),u_ 29 (.mv (.t 1)),u_ 30 (.call (.t 24) [.t 28,.t 29]),u_ 31 (.bin .lss (.t 30) (.c (.int .i64 0)))]) (.fin (.cond (.t 31) (.fin (.reg [u_ 32 (.mv (.t 11)),u_ 33 (.bin .add (.t 32) (.c (.int .i64 1))),u_ 9 (.mv (.t 33))]) [] [] [0,1,2,8,9,10] []) (.fin (.reg [u_ 34 (.mv (.t 11)),u_ 10 (.mv (.t 34))]) [] [] [0,1,2,8,9,10] [])) [] [] [0,1,2,8,9,10] [])))) [] [] [0,1,2,8,9,10] [])
def zR:zb:=.seq (.reg [u_ 35 (.mv (.t 9)),u_ 36 (.mv (.t 9)),u_ 37 (.mv (.t 8)),u_ 38 (.bin .lss (.t 36) (.t 37)),u_ 39 (.mv (.t 38)),ug 40 39 true (.mv (.t 2)),ug 41 39 true (.mv (.t 0)),ug 42 39 true (.mv (.t 9)),ug 43 39 true (.iad 3 (.t 41) (.t 42)),ug 44 39 true (.ldn 3 (.t 43)),ug 45 39 true (.mv (.t 1)),ug 46 39 true (.call (.t 40) [.t 44,.t 45]),ug 47 39 true (.bin .eql (.t 46) (.c (.int .i64 0))),u_ 48 (.pick (.t 39) (.t 47) (.c (.bool false))),u_ 6 (.mv (.t 35)),u_ 7 (.mv (.t 48))]) .ret
def yJ:zb:=.seq (.reg [u_ 6 (.mv (.c (.int .i64 0))),u_ 7 (.mv (.c (.bool false)))]) (.seq (.reg [u_ 12 (.mv (.t 0)),u_ 13 (.len (.t 12)),u_ 8 (.mv (.t 13))]) (.seq (.reg [u_ 14 (.mv (.t 8)),u_ 9 (.mv (.c (.int .i64 0))),u_ 10 (.mv (.t 14))]) (.seq (.block 0 (.keep [0,1,2,8,9,10] [] (.loop zk))) zR)))
def zt:PFn:=⟨49,[],yJ,[.tmp 6,.tmp 7],[.n,.n]⟩
def Jc:zb:=.seq (.reg [(⟨some 2,.box (.t 0),none⟩,⟨.s 3,[]⟩),u_ 4 (.mv (.c (.int .i64 0)))]) (.seq (.reg [u_ 5 (.fad 0 (.t 2)),u_ 6 (.ld (.t 5)),u_ 7 (.mv (.t 1)),u_ 8 (.call (.c (.fn 83 [] [])) [.t 6,.t 7]),u_ 4 (.mv (.t 8))]) .ret)
def jv:PFn:=⟨9,[],Jc,[.tmp 4],[.n]⟩
def YC:zb:=.seq (.reg [u_ 4 (.mv (.c (.int .i64 0)))]) (.seq (.reg [u_ 7 (.mv (.t 0)),u_ 8 (.call (.c (.fn 87 [] [])) [.t 7]),u_ 5 (.mv (.t 8))]) (.seq (.reg [u_ 9 (.mv (.t 1)),u_ 10 (.call (.c (.fn 87 [] [])) [.t 9]),u_ 6 (.mv (.t 10))]) (.seq (.seq (.reg [u_ 11 (.mv (.t 5))]) (.cond (.t 11) (.seq (.seq (.reg [u_ 12 (.mv (.t 6))]) (.cond (.t 12) (.seq (.reg [u_ 4 (.mv (.c (.int .i64 0)))]) .ret) .skip)) (.seq (.reg [u_ 4 (.mv (.c (.int .i64 (-1))))]) .ret)) .skip)) (.seq (.seq (.reg [u_ 13 (.mv (.t 6))]) (.cond (.t 13) (.seq (.reg [u_ 4 (.mv (.c (.int .i64 1)))]) .ret) .skip)) (.seq (.seq (.reg [u_ 14 (.mv (.t 0)),u_ 15 (.mv (.t 1)),u_ 16 (.bin .lss (.t 14) (.t 15))]) (.cond (.t 16) (.seq (.reg [u_ 4 (.mv (.c (.int .i64 (-1))))]) .ret) .skip)) (.seq (.seq (.reg [u_ 17 (.mv (.t 0)),u_ 18 (.mv (.t 1)),u_ 19 (.bin .gtr (.t 17) (.t 18))]) (.cond (.t 19) (.seq (.reg [u_ 4 (.mv (.c (.int .i64 1)))]) .ret) .skip)) (.seq (.reg [u_ 4 (.mv (.c (.int .i64 0)))]) .ret)))))))
def qe:PFn:=⟨20,[],YC,[.tmp 4],[.n]⟩
def kF:zb:=.seq (.reg [u_ 4 (.mv (.c (.bool false)))]) (.seq (.reg [u_ 5 (.mv (.t 0)),u_ 6 (.mv (.t 1)),u_ 7 (.call (.c (.fn 88 [] [])) [.t 5,.t 6]),u_ 8 (.bin .geq (.t 7) (.c (.int .i64 0))),u_ 4 (.mv (.t 8))]) .ret)
def yn:PFn:=⟨9,[],kF,[.tmp 4],[.n]⟩
def qO:zb:=.seq (.reg [u_ 24 (.bin .lss (.t 23) (.t 22))]) (.seq (.cond (.t 24) .skip (.keep [] [] (.exit 0))) (.seq (.block 1 (.seq (.reg [u_ 25 (.mv (.t 23)),u_ 26 (.iad 1 (.t 21) (.t 23)),u_ 27 (.ld (.t 26)),u_ 3 (.mv (.t 25)),u_ 4 (.mv (.t 27))]) (.seq (.reg [u_ 28 (.mv (.t 4)),u_ 29 (.bin .lss (.t 28) (.c (.int .i64 1))),u_ 30 (.mv (.t 29)),ug 31 30 false (.mv (.t 4)),ug 32 30 false (.bin .gtr (.t 31) (.c (.int .i64 8))),u_ 33 (.pick (.t 30) (.c (.bool true)) (.t 32)),u_ 34 (.mv (.t 33)),ug 35 34 false (.mv (.t 0)),ug 36 34 false (.mv (.t 3)),ug 37 34 false (.slc 1 (.t 35) none (some (.t 36)) none),ug 38 34 false (.mv (.t 4)),ug 39 34 false (.call (.c (.fn 84 [] [])) [.t 37,.t 38]),u_ 40 (.pick (.t 34) (.c (.bool true)) (.t 39))]) (.cond (.t 40) (.seq (.reg [u_ 41 (.mv (.t 3)),u_ 42 (.build [.int .i64 0] [(0,1,.t 41)]),u_ 43 (.mki 101 (.t 42)),u_ 2 (.mv (.t 43))]) (.keep [2] [] .ret)) .skip)))) (.fin (.reg [u_ 44 (.bin .add (.t 23) (.c (.int .i64 1))),u_ 23 (.mv (.t 44))]) [] [] [0,21,22,23] [])))
def YL:zb:=.seq (.reg [u_ 2 (.mv (.c .nilifc))]) .ret
def z0W:zb:=.seq (.reg [u_ 2 (.mv (.c .nilifc))]) (.seq (.seq (.reg [u_ 5 (.mv (.t 0)),u_ 6 (.len (.t 5)),u_ 7 (.bin .lss (.t 6) (.c (.int .i64 1))),u_ 8 (.mv (.t 7)),ug 9 8 false (.mv (.t 0)),ug 10 8 false (.len (.t 9)),ug 11 8 false (.bin .gtr (.t 10) (.c (.int .i64 10))),u_ 12 (.pick (.t 8) (.c (.bool true)) (.t 11)),u_ 13 (.mv (.t 12)),ug 14 13 false (.mv (.t 0)),ug 15 13 false (.iad 1 (.t 14) (.c (.int .i64 0))),ug 16 13 false (.ld (.t 15)),ug 17 13 false (.bin .neq (.t 16) (.c (.int .i64 1))),u_ 18 (.pick (.t 13) (.c (.bool true)) (.t 17))]) (.cond (.t 18) (.seq (.reg [u_ 19 (.build [.int .i64 0] []),u_ 20 (.mki 101 (.t 19)),u_ 2 (.mv (.t 20))]) .ret) .skip)) (.seq (.seq (.reg [u_ 21 (.mv (.t 0)),u_ 22 (.len (.t 21)),u_ 23 (.mv (.c (.int .i64 0)))]) (.block 0 (.keep [0,21,22,23] [] (.loop qO)))) YL))
def ww:PFn:=⟨45,[],z0W,[.tmp 2],[.n]⟩
def QL:zb:=.seq (.reg [u_ 2 (.mv (.c (.bool false)))]) (.seq (.reg [u_ 3 (.mv (.t 0)),u_ 4 (.mv (.t 0)),u_ 5 (.bin .neq (.t 3) (.t 4)),u_ 2 (.mv (.t 5))]) .ret)
def jf:PFn:=⟨6,[],QL,[.tmp 2],[.n]⟩
def zV:zb:=.seq (.reg [u_ 9 (.bin .lss (.t 8) (.t 7))]) (.seq (.cond (.t 9) .skip (.keep [] [] (.exit 0))) (.seq (.block 1 (.seq (.reg [u_ 10 (.mv (.t 8)),u_ 5 (.mv (.t 10))]) (.seq (.reg [u_ 11 (.mv (.t 1)),u_ 12 (.mv (.t 0)),u_ 13 (.mv (.t 5)),u_ 14 (.iad 1 (.t 12) (.t 13)),u_ 15 (.ld (.t 14)),u_ 16 (.bin .eql (.t 11) (.t 15))]) (.cond (.t 16) (.seq (.reg [u_ 17 (.mv (.t 5)),u_ 4 (.mv (.t 17))]) (.keep [4] [] .ret)) .skip)))) (.fin (.reg [u_ 18 (.bin .add (.t 8) (.c (.int .i64 1))),u_ 8 (.mv (.t 18))]) [] [] [0,1,7,8] [])))
def qP:zb:=.seq (.reg [u_ 4 (.mv (.c (.int .i64 (-1))))]) .ret
def wx:zb:=.seq (.reg [u_ 4 (.mv (.c (.int .i64 0)))]) (.seq (.seq (.reg [u_ 6 (.mv (.t 0)),u_ 7 (.len (.t 6)),u_ 8 (.mv (.c (.int .i64 0)))]) (.block 0 (.keep [0,1,7,8] [] (.loop zV)))) qP)
def yT:PFn:=⟨19,[],wx,[.tmp 4],[.n]⟩
set_option maxRecDepth 100000
def Zf:AFn:=⟨82,.seq (.reg [⟨some 0,.mv (.c (.bool false)),none⟩]) (.seq (.reg [⟨some 7,.call (.c (.fn 14 [] [])) [.c (.int (.i64) 3),.c (.int (.i64) 1),.c (.int .i64 0),.c (.int (.i64) 2)],none⟩,⟨some 8,.call (.c (.fn 18 [] [])) [.t 7],none⟩,⟨some 6,.mv (.t 8),none⟩,⟨some 9,.ext (.t 6) 0,none⟩,⟨some 10,.ext (.t 6) 1,none⟩,⟨some 1,.newc [.int .i64 0,.int .i64 0,.int .i64 0,.int .i64 0,.int .i64 0,.int .i64 0,.nils,.int .i64 0,.int .i64 0,.int .i64 0,.int .i64 0,.int .i64 0,.nils],none⟩,⟨none,.st 13 (.t 1) (.t 9),none⟩,⟨some 2,.mv (.t 10),none⟩]) (.seq (.reg [⟨some 12,.ldn 13 (.t 1),none⟩,⟨some 13,.bsl 1 [.int .i64 0] 2 [(0,1,.c (.int (.i64) 1)),(1,1,.c (.int (.i64) 2))],none⟩,⟨some 14,.build [.int .i64 0,.int .i64 0,.int .i64 0,.int .i64 0,.int .i64 0,.int .i64 0,.nils,.int .i64 0,.int .i64 0,.str []] [(0,1,.c (.int (.i64) 2)),(1,1,.c (.int (.i64) 2)),(2,1,.c (.int (.i64) 3)),(3,1,.c (.int (.i64) 1)),(4,1,.c (.int (.i64) 4)),(5,1,.c (.int (.i64) 1)),(6,1,.t 13),(7,1,.c (.int (.i64) 1))],none⟩,⟨some 15,.call (.c (.fn 22 [] [])) [.t 12,.t 14,.c (.int (.i64) 1)],none⟩,⟨some 11,.mv (.t 15),none⟩,⟨some 16,.ext (.t 11) 0,none⟩,⟨some 17,.ext (.t 11) 1,none⟩,⟨some 3,.newc [.int .i64 0,.int .i64 0,.int .i64 0,.int .i64 0,.int .i64 0,.int .i64 0,.nils,.int .i64 0,.int .i64 0,.int .i64 0,.int .i64 0,.int .i64 0,.nils],none⟩,⟨none,.st 13 (.t 3) (.t 16),none⟩,⟨some 4,.mv (.t 17),none⟩]) (.seq (.reg [⟨some 18,.call (.c (.fn 14 [] [])) [.c (.int (.i64) 1),.c (.int (.i64) 1),.c (.int .i64 0),.c (.int .i64 0)],none⟩,⟨some 5,.newc [.int .i64 0,.int .i64 0,.int .i64 0,.int .i64 0,.int .i64 0,.int .i64 0,.nils,.int .i64 0,.int .i64 0,.int .i64 0,.int .i64 0,.int .i64 0,.nils],none⟩,⟨none,.st 13 (.t 5) (.t 18),none⟩]) (.seq (.reg [⟨some 19,.mv (.t 2),none⟩,⟨some 20,.len (.t 19),none⟩,⟨some 21,.bin (.eql) (.t 20) (.c (.int (.i64) 1)),none⟩,⟨some 22,.mv (.t 21),none⟩,⟨some 23,.mv (.t 2),some (22,true)⟩,⟨some 24,.iad 10 (.t 23) (.c (.int .i64 0)),some (22,true)⟩,⟨some 25,.fad 0 (.t 24),some (22,true)⟩,⟨some 26,.ld (.t 25),some (22,true)⟩,⟨some 27,.bin (.eql) (.t 26) (.c (.int (.i64) 1)),some (22,true)⟩,⟨some 28,.pick (.t 22) (.t 27) (.c (.bool false)),none⟩,⟨some 29,.mv (.t 28),none⟩,⟨some 30,.mv (.t 2),some (29,true)⟩,⟨some 31,.iad 10 (.t 30) (.c (.int .i64 0)),some (29,true)⟩,⟨some 32,.fad 2 (.t 31),some (29,true)⟩,⟨some 33,.ld (.t 32),some (29,true)⟩,⟨some 34,.bin (.eql) (.t 33) (.c (.int (.i64) 2)),some (29,true)⟩,⟨some 35,.pick (.t 29) (.t 34) (.c (.bool false)),none⟩,⟨some 36,.mv (.t 35),none⟩,⟨some 37,.fad 9 (.t 1),some (36,true)⟩,⟨some 38,.ld (.t 37),some (36,true)⟩,⟨some 39,.bin (.eql) (.t 38) (.c (.int (.i64) 2)),some (36,true)⟩,⟨some 40,.pick (.t 36) (.t 39) (.c (.bool false)),none⟩,⟨some 41,.mv (.t 40),none⟩,⟨some 42,.fad 3 (.t 3),some (41,true)⟩,⟨some 43,.ld (.t 42),some (41,true)⟩,⟨some 44,.bin (.eql) (.t 43) (.c (.int (.i64) 2)),some (41,true)⟩,⟨some 45,.pick (.t 41) (.t 44) (.c (.bool false)),none⟩,⟨some 46,.mv (.t 45),none⟩,⟨some 47,.fad 6 (.t 3),some (46,true)⟩,⟨some 48,.ld (.t 47),some (46,true)⟩,⟨some 49,.len (.t 48),some (46,true)⟩,⟨some 50,.bin (.eql) (.t 49) (.c (.int (.i64) 3)),some (46,true)⟩,⟨some 51,.pick (.t 46) (.t 50) (.c (.bool false)),none⟩,⟨some 52,.mv (.t 51),none⟩,⟨some 53,.mv (.t 4),some (52,true)⟩,⟨some 54,.len (.t 53),some (52,true)⟩,⟨some 55,.bin (.eql) (.t 54) (.c (.int .i64 0)),some (52,true)⟩,⟨some 56,.pick (.t 52) (.t 55) (.c (.bool false)),none⟩,⟨some 57,.mv (.t 56),none⟩,⟨some 58,.ldn 13 (.t 3),some (57,true)⟩,⟨some 59,.call (.c (.fn 25 [] [])) [.t 58],some (57,true)⟩,⟨some 60,.pick (.t 57) (.t 59) (.c (.bool false)),none⟩,⟨some 61,.mv (.t 60),none⟩,⟨some 62,.ldn 13 (.t 5),some (61,true)⟩,⟨some 63,.call (.c (.fn 25 [] [])) [.t 62],some (61,true)⟩,⟨some 64,.pick (.t 61) (.t 63) (.c (.bool false)),none⟩,⟨some 65,.mv (.t 64),none⟩,⟨some 66,.ldn 13 (.t 1),some (65,true)⟩,⟨some 67,.call (.c (.fn 25 [] [])) [.t 66],some (65,true)⟩,⟨some 68,.un (.not) (.t 67),some (65,true)⟩,⟨some 69,.pick (.t 65) (.t 68) (.c (.bool false)),none⟩,⟨some 70,.mv (.t 69),none⟩,⟨some 71,.fad 6 (.t 5),some (70,true)⟩,⟨some 72,.ld (.t 71),some (70,true)⟩,⟨some 73,.len (.t 72),some (70,true)⟩,⟨some 74,.bin (.eql) (.t 73) (.c (.int (.i64) 1)),some (70,true)⟩,⟨some 75,.pick (.t 70) (.t 74) (.c (.bool false)),none⟩,⟨some 76,.mv (.t 75),none⟩,⟨some 77,.ldn 13 (.t 3),some (76,true)⟩,⟨some 78,.call (.c (.fn 27 [] [])) [.t 77],some (76,true)⟩,⟨some 79,.len (.t 78),some (76,true)⟩,⟨some 80,.bin (.eql) (.t 79) (.c (.int (.i64) 1)),some (76,true)⟩,⟨some 81,.pick (.t 76) (.t 80) (.c (.bool false)),none⟩,⟨some 0,.mv (.t 81),none⟩]) (.ret))))),[.tmp 0]⟩
def vL:AFn:=⟨8,.seq (.reg [⟨some 2,.mv (.c (.nils)),none⟩]) (.seq (.seq (.reg [⟨some 3,.mv (.t 0),none⟩,⟨some 4,.eqn false 0 (.t 3),none⟩]) (.cond (.t 4) (.seq (.reg [⟨some 2,.mv (.c (.nils)),none⟩]) (.ret)) (.skip))) (.seq (.reg [⟨some 5,.bsl 1 [.int .i64 0] 0 [],none⟩,⟨some 6,.mv (.t 0),none⟩,⟨some 7,.app 1 8 [.int .i64 0] (.t 5) (.t 6),none⟩,⟨some 2,.mv (.t 7),none⟩]) (.ret))),[.tmp 2]⟩
def qX:AFn:=⟨8,.seq (.reg [⟨some 2,.mv (.c (.nils)),none⟩]) (.seq (.seq (.reg [⟨some 3,.mv (.t 0),none⟩,⟨some 4,.eqn false 0 (.t 3),none⟩]) (.cond (.t 4) (.seq (.reg [⟨some 2,.mv (.c (.nils)),none⟩]) (.ret)) (.skip))) (.seq (.reg [⟨some 5,.bsl 3 [.int .i64 0,.int .i64 0,.int .i64 0] 0 [],none⟩,⟨some 6,.mv (.t 0),none⟩,⟨some 7,.app 3 24 [.int .i64 0,.int .i64 0,.int .i64 0] (.t 5) (.t 6),none⟩,⟨some 2,.mv (.t 7),none⟩]) (.ret))),[.tmp 2]⟩
theorem Xb:zf Try.prog 10∧∃ fn,Try.prog.funcs[10]? = some fn∧dFn Try.prog fn=some (yO.un):=⟨⟨_,_,Try.func10,rfl,by kernel_rfl⟩,_,Try.func10,by kernel_rfl⟩
theorem Xc:yO.ok=true:=by kernel_rfl
theorem KR:zf Try.prog 12∧∃ fn,Try.prog.funcs[12]? = some fn∧dFn Try.prog fn=some (xW.un):=⟨⟨_,_,Try.func12,rfl,by kernel_rfl⟩,_,Try.func12,by kernel_rfl⟩
theorem KT:xW.ok=true:=by kernel_rfl
theorem Xd:zf Try.prog 13∧∃ fn,Try.prog.funcs[13]? = some fn∧dFn Try.prog fn=some (yP.un):=⟨⟨_,_,Try.func13,rfl,by kernel_rfl⟩,_,Try.func13,by kernel_rfl⟩
theorem Xe:yP.ok=true:=by kernel_rfl
theorem z6T:zf Try.prog 14∧∃ fn,Try.prog.funcs[14]? = some fn∧dFn Try.prog fn=some (Qe.un):=⟨⟨_,_,Try.func14,rfl,by kernel_rfl⟩,_,Try.func14,by kernel_rfl⟩
theorem z6U:Qe.ok=true:=by kernel_rfl
theorem KU:zf Try.prog 15∧∃ fn,Try.prog.funcs[15]? = some fn∧dFn Try.prog fn=some (xX.un):=⟨⟨_,_,Try.func15,rfl,by kernel_rfl⟩,_,Try.func15,by kernel_rfl⟩
theorem KV:xX.ok=true:=by kernel_rfl
theorem YM:zf Try.prog 17∧∃ fn,Try.prog.funcs[17]? = some fn∧dFn Try.prog fn=some (yE.un):=⟨⟨_,_,Try.func17,rfl,by kernel_rfl⟩,_,Try.func17,by kernel_rfl⟩
theorem YN:yE.ok=true:=by kernel_rfl
theorem z5f:zf Try.prog 18∧∃ fn,Try.prog.funcs[18]? = some fn∧dFn Try.prog fn=some (Ys.un):=⟨⟨_,_,Try.func18,rfl,by kernel_rfl⟩,_,Try.func18,by kernel_rfl⟩
theorem z5g:Ys.ok=true:=by kernel_rfl
theorem K2:zf Try.prog 19∧∃ fn,Try.prog.funcs[19]? = some fn∧dFn Try.prog fn=some (xF.un):=⟨⟨_,_,Try.func19,rfl,by kernel_rfl⟩,_,Try.func19,by kernel_rfl⟩
theorem K3:xF.ok=true:=by kernel_rfl
theorem Xf:zf Try.prog 20∧∃ fn,Try.prog.funcs[20]? = some fn∧dFn Try.prog fn=some (yQ.un):=⟨⟨_,_,Try.func20,rfl,by kernel_rfl⟩,_,Try.func20,by kernel_rfl⟩
theorem Xg:yQ.ok=true:=by kernel_rfl
theorem YO:zf Try.prog 21∧∃ fn,Try.prog.funcs[21]? = some fn∧dFn Try.prog fn=some (yF.un):=⟨⟨_,_,Try.func21,rfl,by kernel_rfl⟩,_,Try.func21,by kernel_rfl⟩
theorem YP:yF.ok=true:=by kernel_rfl
theorem z47:zf Try.prog 22∧∃ fn,Try.prog.funcs[22]? = some fn∧dFn Try.prog fn=some (wl.un):=⟨⟨_,_,Try.func22,rfl,by kernel_rfl⟩,_,Try.func22,by kernel_rfl⟩
theorem z48:wl.ok=true:=by kernel_rfl
theorem Jd:zf Try.prog 23∧∃ fn,Try.prog.funcs[23]? = some fn∧dFn Try.prog fn=some (xw.un):=⟨⟨_,_,Try.func23,rfl,by kernel_rfl⟩,_,Try.func23,by kernel_rfl⟩
theorem Je:xw.ok=true:=by kernel_rfl
theorem z49:zf Try.prog 25∧∃ fn,Try.prog.funcs[25]? = some fn∧dFn Try.prog fn=some (wm.un):=⟨⟨_,_,Try.func25,rfl,by kernel_rfl⟩,_,Try.func25,by kernel_rfl⟩
theorem z4a:wm.ok=true:=by kernel_rfl
theorem Jf:zf Try.prog 26∧∃ fn,Try.prog.funcs[26]? = some fn∧dFn Try.prog fn=some (xx.un):=⟨⟨_,_,Try.func26,rfl,by kernel_rfl⟩,_,Try.func26,by kernel_rfl⟩
theorem Jg:xx.ok=true:=by kernel_rfl
theorem z4b:zf Try.prog 27∧∃ fn,Try.prog.funcs[27]? = some fn∧dFn Try.prog fn=some (ZJ.un):=⟨⟨_,_,Try.func27,rfl,by kernel_rfl⟩,_,Try.func27,by kernel_rfl⟩
theorem z4c:ZJ.ok=true:=by kernel_rfl
theorem QO:zf Try.prog 29∧∃ fn,Try.prog.funcs[29]? = some fn∧dFn Try.prog fn=some (xh.un):=⟨⟨_,_,Try.func29,rfl,by kernel_rfl⟩,_,Try.func29,by kernel_rfl⟩
theorem QP:xh.ok=true:=by kernel_rfl
theorem VV:zf Try.prog 32∧∃ fn,Try.prog.funcs[32]? = some fn∧dFn Try.prog fn=some (qA.un):=⟨⟨_,_,Try.func32,rfl,by kernel_rfl⟩,_,Try.func32,by kernel_rfl⟩
theorem VW:qA.ok=true:=by kernel_rfl
theorem Xh:zf Try.prog 33∧∃ fn,Try.prog.funcs[33]? = some fn∧dFn Try.prog fn=some (yR.un):=⟨⟨_,_,Try.func33,rfl,by kernel_rfl⟩,_,Try.func33,by kernel_rfl⟩
theorem Xi:yR.ok=true:=by kernel_rfl
theorem KW:zf Try.prog 34∧∃ fn,Try.prog.funcs[34]? = some fn∧dFn Try.prog fn=some (xY.un):=⟨⟨_,_,Try.func34,rfl,by kernel_rfl⟩,_,Try.func34,by kernel_rfl⟩
theorem KX:xY.ok=true:=by kernel_rfl
theorem QQ:zf Try.prog 35∧∃ fn,Try.prog.funcs[35]? = some fn∧dFn Try.prog fn=some (xi.un):=⟨⟨_,_,Try.func35,rfl,by kernel_rfl⟩,_,Try.func35,by kernel_rfl⟩
theorem QR:xi.ok=true:=by kernel_rfl
theorem Qf:zf Try.prog 36∧∃ fn,Try.prog.funcs[36]? = some fn∧dFn Try.prog fn=some (x4.un):=⟨⟨_,_,Try.func36,rfl,by kernel_rfl⟩,_,Try.func36,by kernel_rfl⟩
theorem Qg:x4.ok=true:=by kernel_rfl
theorem z8s:zf Try.prog 38∧∃ fn,Try.prog.funcs[38]? = some fn∧dFn Try.prog fn=some (X7.un):=⟨⟨_,_,Try.func38,rfl,by kernel_rfl⟩,_,Try.func38,by kernel_rfl⟩
theorem z8t:X7.ok=true:=by kernel_rfl
theorem z2L:zf Try.prog 39∧∃ fn,Try.prog.funcs[39]? = some fn∧dFn Try.prog fn=some (wX.un):=⟨⟨_,_,Try.func39,rfl,by kernel_rfl⟩,_,Try.func39,by kernel_rfl⟩
theorem z2M:wX.ok=true:=by kernel_rfl
theorem z05:zf Try.prog 40∧∃ fn,Try.prog.funcs[40]? = some fn∧dFn Try.prog fn=some (jd.un):=⟨⟨_,_,Try.func40,rfl,by kernel_rfl⟩,_,Try.func40,by kernel_rfl⟩
theorem z06:jd.ok=true:=by kernel_rfl
theorem z07:zf Try.prog 41∧∃ fn,Try.prog.funcs[41]? = some fn∧dFn Try.prog fn=some (kr.un):=⟨⟨_,_,Try.func41,rfl,by kernel_rfl⟩,_,Try.func41,by kernel_rfl⟩
theorem z08:kr.ok=true:=by kernel_rfl
theorem VX:zf Try.prog 42∧∃ fn,Try.prog.funcs[42]? = some fn∧dFn Try.prog fn=some (jM.un):=⟨⟨_,_,Try.func42,rfl,by kernel_rfl⟩,_,Try.func42,by kernel_rfl⟩
theorem VY:jM.ok=true:=by kernel_rfl
theorem K4:zf Try.prog 43∧∃ fn,Try.prog.funcs[43]? = some fn∧dFn Try.prog fn=some (xG.un):=⟨⟨_,_,Try.func43,rfl,by kernel_rfl⟩,_,Try.func43,by kernel_rfl⟩
theorem K5:xG.ok=true:=by kernel_rfl
theorem KY:zf Try.prog 44∧∃ fn,Try.prog.funcs[44]? = some fn∧dFn Try.prog fn=some (xZ.un):=⟨⟨_,_,Try.func44,rfl,by kernel_rfl⟩,_,Try.func44,by kernel_rfl⟩
theorem KZ:xZ.ok=true:=by kernel_rfl
theorem K6:zf Try.prog 45∧∃ fn,Try.prog.funcs[45]? = some fn∧dFn Try.prog fn=some (xH.un):=⟨⟨_,_,Try.func45,rfl,by kernel_rfl⟩,_,Try.func45,by kernel_rfl⟩
theorem K7:xH.ok=true:=by kernel_rfl
theorem K8:zf Try.prog 46∧∃ fn,Try.prog.funcs[46]? = some fn∧dFn Try.prog fn=some (xI.un):=⟨⟨_,_,Try.func46,rfl,by kernel_rfl⟩,_,Try.func46,by kernel_rfl⟩
theorem K9:xI.ok=true:=by kernel_rfl
theorem YQ:zf Try.prog 47∧∃ fn,Try.prog.funcs[47]? = some fn∧dFn Try.prog fn=some (yG.un):=⟨⟨_,_,Try.func47,rfl,by kernel_rfl⟩,_,Try.func47,by kernel_rfl⟩
theorem YR:yG.ok=true:=by kernel_rfl
theorem z5h:zf Try.prog 48∧∃ fn,Try.prog.funcs[48]? = some fn∧dFn Try.prog fn=some (Zb.un):=⟨⟨_,_,Try.func48,rfl,by kernel_rfl⟩,_,Try.func48,by kernel_rfl⟩
theorem z5i:Zb.ok=true:=by kernel_rfl
theorem V0:zf Try.prog 49∧∃ fn,Try.prog.funcs[49]? = some fn∧dFn Try.prog fn=some (q6.un):=⟨⟨_,_,Try.func49,rfl,by kernel_rfl⟩,_,Try.func49,by kernel_rfl⟩
theorem V1:q6.ok=true:=by kernel_rfl
theorem V2:zf Try.prog 50∧∃ fn,Try.prog.funcs[50]? = some fn∧dFn Try.prog fn=some (q7.un):=⟨⟨_,_,Try.func50,rfl,by kernel_rfl⟩,_,Try.func50,by kernel_rfl⟩
theorem V3:q7.ok=true:=by kernel_rfl
theorem V4:zf Try.prog 51∧∃ fn,Try.prog.funcs[51]? = some fn∧dFn Try.prog fn=some (q8.un):=⟨⟨_,_,Try.func51,rfl,by kernel_rfl⟩,_,Try.func51,by kernel_rfl⟩
theorem V5:q8.ok=true:=by kernel_rfl
theorem V6:zf Try.prog 52∧∃ fn,Try.prog.funcs[52]? = some fn∧dFn Try.prog fn=some (q9.un):=⟨⟨_,_,Try.func52,rfl,by kernel_rfl⟩,_,Try.func52,by kernel_rfl⟩
theorem V7:q9.ok=true:=by kernel_rfl
theorem V8:zf Try.prog 53∧∃ fn,Try.prog.funcs[53]? = some fn∧dFn Try.prog fn=some (qa.un):=⟨⟨_,_,Try.func53,rfl,by kernel_rfl⟩,_,Try.func53,by kernel_rfl⟩
theorem V9:qa.ok=true:=by kernel_rfl
theorem z4d:zf Try.prog 54∧∃ fn,Try.prog.funcs[54]? = some fn∧dFn Try.prog fn=some (wo.un):=⟨⟨_,_,Try.func54,rfl,by kernel_rfl⟩,_,Try.func54,by kernel_rfl⟩
theorem z4e:wo.ok=true:=by kernel_rfl
theorem VZ:zf Try.prog 55∧∃ fn,Try.prog.funcs[55]? = some fn∧dFn Try.prog fn=some (qB.un):=⟨⟨_,_,Try.func55,rfl,by kernel_rfl⟩,_,Try.func55,by kernel_rfl⟩
theorem W0:qB.ok=true:=by kernel_rfl
theorem Va:zf Try.prog 56∧∃ fn,Try.prog.funcs[56]? = some fn∧dFn Try.prog fn=some (qb.un):=⟨⟨_,_,Try.func56,rfl,by kernel_rfl⟩,_,Try.func56,by kernel_rfl⟩
theorem Vb:qb.ok=true:=by kernel_rfl
theorem Xj:zf Try.prog 57∧∃ fn,Try.prog.funcs[57]? = some fn∧dFn Try.prog fn=some (yS.un):=⟨⟨_,_,Try.func57,rfl,by kernel_rfl⟩,_,Try.func57,by kernel_rfl⟩
theorem Xk:yS.ok=true:=by kernel_rfl
theorem Jh:zf Try.prog 58∧∃ fn,Try.prog.funcs[58]? = some fn∧dFn Try.prog fn=some (xy.un):=⟨⟨_,_,Try.func58,rfl,by kernel_rfl⟩,_,Try.func58,by kernel_rfl⟩
theorem Ji:xy.ok=true:=by kernel_rfl
theorem Vc:zf Try.prog 59∧∃ fn,Try.prog.funcs[59]? = some fn∧dFn Try.prog fn=some (qc.un):=⟨⟨_,_,Try.func59,rfl,by kernel_rfl⟩,_,Try.func59,by kernel_rfl⟩
theorem Vd:qc.ok=true:=by kernel_rfl
theorem W1:zf Try.prog 61∧∃ fn,Try.prog.funcs[61]? = some fn∧dFn Try.prog fn=some (qC.un):=⟨⟨_,_,Try.func61,rfl,by kernel_rfl⟩,_,Try.func61,by kernel_rfl⟩
theorem W2:qC.ok=true:=by kernel_rfl
theorem kR:zf Try.prog 66∧∃ fn,Try.prog.funcs[66]? = some fn∧dFn Try.prog fn=some (zJ.un):=⟨⟨_,_,Try.func66,rfl,by kernel_rfl⟩,_,Try.func66,by kernel_rfl⟩
theorem kS:zJ.ok=true:=by kernel_rfl
theorem z1f:zf Try.prog 67∧∃ fn,Try.prog.funcs[67]? = some fn∧dFn Try.prog fn=some (vq.un):=⟨⟨_,_,Try.func67,rfl,by kernel_rfl⟩,_,Try.func67,by kernel_rfl⟩
theorem z1g:vq.ok=true:=by kernel_rfl
theorem z4f:zf Try.prog 68∧∃ fn,Try.prog.funcs[68]? = some fn∧dFn Try.prog fn=some (wr.un):=⟨⟨_,_,Try.func68,rfl,by kernel_rfl⟩,_,Try.func68,by kernel_rfl⟩
theorem z4g:wr.ok=true:=by kernel_rfl
theorem z09:zf Try.prog 69∧∃ fn,Try.prog.funcs[69]? = some fn∧dFn Try.prog fn=some (je.un):=⟨⟨_,_,Try.func69,rfl,by kernel_rfl⟩,_,Try.func69,by kernel_rfl⟩
theorem z0a:je.ok=true:=by kernel_rfl
theorem W3:zf Try.prog 70∧∃ fn,Try.prog.funcs[70]? = some fn∧dFn Try.prog fn=some (qD.un):=⟨⟨_,_,Try.func70,rfl,by kernel_rfl⟩,_,Try.func70,by kernel_rfl⟩
theorem W4:qD.ok=true:=by kernel_rfl
theorem z5j:zf Try.prog 71∧∃ fn,Try.prog.funcs[71]? = some fn∧dFn Try.prog fn=some (Zc.un):=⟨⟨_,_,Try.func71,rfl,by kernel_rfl⟩,_,Try.func71,by kernel_rfl⟩
theorem z5k:Zc.ok=true:=by kernel_rfl
theorem z1h:zf Try.prog 72∧∃ fn,Try.prog.funcs[72]? = some fn∧dFn Try.prog fn=some (ju.un):=⟨⟨_,_,Try.func72,rfl,by kernel_rfl⟩,_,Try.func72,by kernel_rfl⟩
theorem z1i:ju.ok=true:=by kernel_rfl
theorem z20:zf Try.prog 73∧∃ fn,Try.prog.funcs[73]? = some fn∧dFn Try.prog fn=some (ke.un):=⟨⟨_,_,Try.func73,rfl,by kernel_rfl⟩,_,Try.func73,by kernel_rfl⟩
theorem z21:ke.ok=true:=by kernel_rfl
theorem Ka:zf Try.prog 74∧∃ fn,Try.prog.funcs[74]? = some fn∧dFn Try.prog fn=some (xJ.un):=⟨⟨_,_,Try.func74,rfl,by kernel_rfl⟩,_,Try.func74,by kernel_rfl⟩
theorem Kb:xJ.ok=true:=by kernel_rfl
theorem kZ:zf Try.prog 75∧∃ fn,Try.prog.funcs[75]? = some fn∧dFn Try.prog fn=some (zL.un):=⟨⟨_,_,Try.func75,rfl,by kernel_rfl⟩,_,Try.func75,by kernel_rfl⟩
theorem v6:zL.ok=true:=by kernel_rfl
theorem z2N:zf Try.prog 76∧∃ fn,Try.prog.funcs[76]? = some fn∧dFn Try.prog fn=some (kX.un):=⟨⟨_,_,Try.func76,rfl,by kernel_rfl⟩,_,Try.func76,by kernel_rfl⟩
theorem z2O:kX.ok=true:=by kernel_rfl
theorem z5l:zf Try.prog 77∧∃ fn,Try.prog.funcs[77]? = some fn∧dFn Try.prog fn=some (Zd.un):=⟨⟨_,_,Try.func77,rfl,by kernel_rfl⟩,_,Try.func77,by kernel_rfl⟩
theorem z5m:Zd.ok=true:=by kernel_rfl
theorem z4h:zf Try.prog 78∧∃ fn,Try.prog.funcs[78]? = some fn∧dFn Try.prog fn=some (wu.un):=⟨⟨_,_,Try.func78,rfl,by kernel_rfl⟩,_,Try.func78,by kernel_rfl⟩
theorem z4i:wu.ok=true:=by kernel_rfl
theorem z5n:zf Try.prog 79∧∃ fn,Try.prog.funcs[79]? = some fn∧dFn Try.prog fn=some (Ze.un):=⟨⟨_,_,Try.func79,rfl,by kernel_rfl⟩,_,Try.func79,by kernel_rfl⟩
theorem z5o:Ze.ok=true:=by kernel_rfl
theorem z2P:zf Try.prog 80∧∃ fn,Try.prog.funcs[80]? = some fn∧dFn Try.prog fn=some (kY.un):=⟨⟨_,_,Try.func80,rfl,by kernel_rfl⟩,_,Try.func80,by kernel_rfl⟩
theorem z2Q:kY.ok=true:=by kernel_rfl
theorem qQ:zf Try.prog 81∧∃ fn,Try.prog.funcs[81]? = some fn∧dFn Try.prog fn=some (zt.un):=⟨⟨_,_,Try.func81,rfl,by kernel_rfl⟩,_,Try.func81,by kernel_rfl⟩
theorem qR:zt.ok=true:=by kernel_rfl
theorem z1j:zf Try.prog 82∧∃ fn,Try.prog.funcs[82]? = some fn∧dFn Try.prog fn=some (jv.un):=⟨⟨_,_,Try.func82,rfl,by kernel_rfl⟩,_,Try.func82,by kernel_rfl⟩
theorem z1k:jv.ok=true:=by kernel_rfl
theorem Ve:zf Try.prog 83∧∃ fn,Try.prog.funcs[83]? = some fn∧dFn Try.prog fn=some (qe.un):=⟨⟨_,_,Try.func83,rfl,by kernel_rfl⟩,_,Try.func83,by kernel_rfl⟩
theorem Vf:qe.ok=true:=by kernel_rfl
theorem Y3:zf Try.prog 84∧∃ fn,Try.prog.funcs[84]? = some fn∧dFn Try.prog fn=some (yn.un):=⟨⟨_,_,Try.func84,rfl,by kernel_rfl⟩,_,Try.func84,by kernel_rfl⟩
theorem Y4:yn.ok=true:=by kernel_rfl
theorem z4j:zf Try.prog 86∧∃ fn,Try.prog.funcs[86]? = some fn∧dFn Try.prog fn=some (ww.un):=⟨⟨_,_,Try.func86,rfl,by kernel_rfl⟩,_,Try.func86,by kernel_rfl⟩
theorem z4k:ww.ok=true:=by kernel_rfl
theorem z0b:zf Try.prog 87∧∃ fn,Try.prog.funcs[87]? = some fn∧dFn Try.prog fn=some (jf.un):=⟨⟨_,_,Try.func87,rfl,by kernel_rfl⟩,_,Try.func87,by kernel_rfl⟩
theorem z0c:jf.ok=true:=by kernel_rfl
theorem Xl:zf Try.prog 88∧∃ fn,Try.prog.funcs[88]? = some fn∧dFn Try.prog fn=some (yT.un):=⟨⟨_,_,Try.func88,rfl,by kernel_rfl⟩,_,Try.func88,by kernel_rfl⟩
theorem Xm:yT.ok=true:=by kernel_rfl
theorem Xn:zf Try.prog 64∧∃ fn,Try.prog.funcs[64]? = some fn∧dFn Try.prog fn=some (vL):=⟨⟨_,_,Try.func64,rfl,by kernel_rfl⟩,_,Try.func64,by kernel_rfl⟩
theorem wG:zf Try.prog 65∧∃ fn,Try.prog.funcs[65]? = some fn∧dFn Try.prog fn=some (qX):=⟨⟨_,_,Try.func65,rfl,by kernel_rfl⟩,_,Try.func65,by kernel_rfl⟩
theorem Jj:zf Try.prog 11∧∃ fn,Try.prog.funcs[11]? = some fn∧dFn Try.prog fn=some (Zf):=⟨⟨_,_,Try.func11,rfl,by kernel_rfl⟩,_,Try.func11,by kernel_rfl⟩
def za7:Nat→Option AFn
 | 10=>some yO.un
 | 12=>some xW.un
 | 13=>some yP.un
 | 14=>some Qe.un
 | 15=>some xX.un
 | 17=>some yE.un
 | 18=>some Ys.un
 | 19=>some xF.un
 | 20=>some yQ.un
 | 21=>some yF.un
 | 22=>some wl.un
 | 23=>some xw.un
 | 25=>some wm.un
 | 26=>some xx.un
 | 27=>some ZJ.un
 | 29=>some xh.un
 | 32=>some qA.un
 | 33=>some yR.un
 | 34=>some xY.un
 | 35=>some xi.un
 | 36=>some x4.un
 | 38=>some X7.un
 | 39=>some wX.un
 | 40=>some jd.un
 | 41=>some kr.un
 | 42=>some jM.un
 | 43=>some xG.un
 | 44=>some xZ.un
 | 45=>some xH.un
 | 46=>some xI.un
 | 47=>some yG.un
 | 48=>some Zb.un
 | 49=>some q6.un
 | 50=>some q7.un
 | 51=>some q8.un
 | 52=>some q9.un
 | 53=>some qa.un
 | 54=>some wo.un
 | 55=>some qB.un
 | 56=>some qb.un
 | 57=>some yS.un
 | 58=>some xy.un
 | 59=>some qc.un
 | 61=>some qC.un
 | 66=>some zJ.un
 | 67=>some vq.un
 | 68=>some wr.un
 | 69=>some je.un
 | 70=>some qD.un
 | 71=>some Zc.un
 | 72=>some ju.un
 | 73=>some ke.un
 | 74=>some xJ.un
 | 75=>some zL.un
 | 76=>some kX.un
 | 77=>some Zd.un
 | 78=>some wu.un
 | 79=>some Ze.un
 | 80=>some kY.un
 | 81=>some zt.un
 | 82=>some jv.un
 | 83=>some qe.un
 | 84=>some yn.un
 | 86=>some ww.un
 | 87=>some jf.un
 | 88=>some yT.un
 | 64=>some vL
 | 65=>some qX
 | 11=>some Zf
 | _=>none
def zcx:Nat→Option PFn
 | 10=>some yO
 | 12=>some xW
 | 13=>some yP
 | 14=>some Qe
 | 15=>some xX
 | 17=>some yE
 | 18=>some Ys
 | 19=>some xF
 | 20=>some yQ
 | 21=>some yF
 | 22=>some wl
 | 23=>some xw
 | 25=>some wm
 | 26=>some xx
 | 27=>some ZJ
 | 29=>some xh
 | 32=>some qA
 | 33=>some yR
 | 34=>some xY
 | 35=>some xi
 | 36=>some x4
 | 38=>some X7
 | 39=>some wX
 | 40=>some jd
 | 41=>some kr
 | 42=>some jM
 | 43=>some xG
 | 44=>some xZ
 | 45=>some xH
 | 46=>some xI
 | 47=>some yG
 | 48=>some Zb
 | 49=>some q6
 | 50=>some q7
 | 51=>some q8
 | 52=>some q9
 | 53=>some qa
 | 54=>some wo
 | 55=>some qB
 | 56=>some qb
 | 57=>some yS
 | 58=>some xy
 | 59=>some qc
 | 61=>some qC
 | 1000066=>some zJ
 | 67=>some vq
 | 68=>some wr
 | 69=>some je
 | 70=>some qD
 | 71=>some Zc
 | 72=>some ju
 | 73=>some ke
 | 74=>some xJ
 | 75=>some zL
 | 76=>some kX
 | 77=>some Zd
 | 78=>some wu
 | 79=>some Ze
 | 80=>some kY
 | 81=>some zt
 | 82=>some jv
 | 83=>some qe
 | 84=>some yn
 | 86=>some ww
 | 87=>some jf
 | 88=>some yT
 | _=>none
abbrev kE:=List (Nat × (List AV→z3→Option (AV × z3)))
def env (s:kE):Env:=⟨za7,fun f=>s.lookup f⟩
def vp (s:kE):Prop:=∀ p ∈ s,xV Try.prog p.1 p.2
theorem KL {s:kE} {f:Nat} {g:List AV→z3→Option (AV × z3)} (h:s.lookup f=some g):(f,g) ∈ s:=by
 induction s with
 | nil=>cases h
 | cons p l ih =>
  obtain⟨a,b⟩:=p
  rw [List.lookup_cons] at h
  split at h
  ·rename_i e
   obtain rfl:=Option.some.inj h
   rw [eq_of_beq e]
   exact List.mem_cons_self
  ·exact List.mem_cons_of_mem _ (ih h)
theorem z6J:vp []:=fun p h=>by cases h
theorem z1x {n:Nat} {g:List AV→z3→Option (AV × z3)} {s:kE} (h:xV Try.prog n g) (hs:vp s):vp ((n,g)::s):=fun p hp=>by
 rcases List.mem_cons.1 hp with rfl | hp
 ·exact h
 ·exact hs p hp
theorem z57 {s:kE} (hs:vp s):z0O Try.prog (env s):=by
 refine⟨Try.checked.mixed,fun f af h=>?_,fun f g h=>hs _ (KL h)⟩
 change za7 f=some af at h
 unfold za7 at h
 split at h
 ·obtain rfl:=Option.some.inj h;exact Xb
 ·obtain rfl:=Option.some.inj h;exact KR
 ·obtain rfl:=Option.some.inj h;exact Xd
 ·obtain rfl:=Option.some.inj h;exact z6T
 ·obtain rfl:=Option.some.inj h;exact KU
 ·obtain rfl:=Option.some.inj h;exact YM
 ·obtain rfl:=Option.some.inj h;exact z5f
 ·obtain rfl:=Option.some.inj h;exact K2
 ·obtain rfl:=Option.some.inj h;exact Xf
 ·obtain rfl:=Option.some.inj h;exact YO
 ·obtain rfl:=Option.some.inj h;exact z47
 ·obtain rfl:=Option.some.inj h;exact Jd
 ·obtain rfl:=Option.some.inj h;exact z49
 ·obtain rfl:=Option.some.inj h;exact Jf
 ·obtain rfl:=Option.some.inj h;exact z4b
 ·obtain rfl:=Option.some.inj h;exact QO
 ·obtain rfl:=Option.some.inj h;exact VV
 ·obtain rfl:=Option.some.inj h;exact Xh
 ·obtain rfl:=Option.some.inj h;exact KW
 ·obtain rfl:=Option.some.inj h;exact QQ
 ·obtain rfl:=Option.some.inj h;exact Qf
 ·obtain rfl:=Option.some.inj h;exact z8s
 ·obtain rfl:=Option.some.inj h;exact z2L
 ·obtain rfl:=Option.some.inj h;exact z05
 ·obtain rfl:=Option.some.inj h;exact z07
 ·obtain rfl:=Option.some.inj h;exact VX
 ·obtain rfl:=Option.some.inj h;exact K4
 ·obtain rfl:=Option.some.inj h;exact KY
 ·obtain rfl:=Option.some.inj h;exact K6
 ·obtain rfl:=Option.some.inj h;exact K8
 ·obtain rfl:=Option.some.inj h;exact YQ
 ·obtain rfl:=Option.some.inj h;exact z5h
 ·obtain rfl:=Option.some.inj h;exact V0
 ·obtain rfl:=Option.some.inj h;exact V2
 ·obtain rfl:=Option.some.inj h;exact V4
 ·obtain rfl:=Option.some.inj h;exact V6
 ·obtain rfl:=Option.some.inj h;exact V8
 ·obtain rfl:=Option.some.inj h;exact z4d
 ·obtain rfl:=Option.some.inj h;exact VZ
 ·obtain rfl:=Option.some.inj h;exact Va
 ·obtain rfl:=Option.some.inj h;exact Xj
 ·obtain rfl:=Option.some.inj h;exact Jh
 ·obtain rfl:=Option.some.inj h;exact Vc
 ·obtain rfl:=Option.some.inj h;exact W1
 ·obtain rfl:=Option.some.inj h;exact kR
 ·obtain rfl:=Option.some.inj h;exact z1f
 ·obtain rfl:=Option.some.inj h;exact z4f
 ·obtain rfl:=Option.some.inj h;exact z09
 ·obtain rfl:=Option.some.inj h;exact W3
 ·obtain rfl:=Option.some.inj h;exact z5j
 ·obtain rfl:=Option.some.inj h;exact z1h
 ·obtain rfl:=Option.some.inj h;exact z20
 ·obtain rfl:=Option.some.inj h;exact Ka
 ·obtain rfl:=Option.some.inj h;exact kZ
 ·obtain rfl:=Option.some.inj h;exact z2N
 ·obtain rfl:=Option.some.inj h;exact z5l
 ·obtain rfl:=Option.some.inj h;exact z4h
 ·obtain rfl:=Option.some.inj h;exact z5n
 ·obtain rfl:=Option.some.inj h;exact z2P
 ·obtain rfl:=Option.some.inj h;exact qQ
 ·obtain rfl:=Option.some.inj h;exact z1j
 ·obtain rfl:=Option.some.inj h;exact Ve
 ·obtain rfl:=Option.some.inj h;exact Y3
 ·obtain rfl:=Option.some.inj h;exact z4j
 ·obtain rfl:=Option.some.inj h;exact z0b
 ·obtain rfl:=Option.some.inj h;exact Xl
 ·obtain rfl:=Option.some.inj h;exact Xn
 ·obtain rfl:=Option.some.inj h;exact wG
 ·obtain rfl:=Option.some.inj h;exact Jj
 ·cases h
theorem fok (s:kE):FOk (env s):=by
 intro f af h
 change za7 f=some af at h
 unfold za7 at h
 split at h
 ·obtain rfl:=Option.some.inj h;kernel_rfl
 ·obtain rfl:=Option.some.inj h;kernel_rfl
 ·obtain rfl:=Option.some.inj h;kernel_rfl
 ·obtain rfl:=Option.some.inj h;kernel_rfl
 ·obtain rfl:=Option.some.inj h;kernel_rfl
 ·obtain rfl:=Option.some.inj h;kernel_rfl
 ·obtain rfl:=Option.some.inj h;kernel_rfl
 ·obtain rfl:=Option.some.inj h;kernel_rfl
 ·obtain rfl:=Option.some.inj h;kernel_rfl
 ·obtain rfl:=Option.some.inj h;kernel_rfl
 ·obtain rfl:=Option.some.inj h;kernel_rfl
 ·obtain rfl:=Option.some.inj h;kernel_rfl
 ·obtain rfl:=Option.some.inj h;kernel_rfl
 ·obtain rfl:=Option.some.inj h;kernel_rfl
 ·obtain rfl:=Option.some.inj h;kernel_rfl
 ·obtain rfl:=Option.some.inj h;kernel_rfl
 ·obtain rfl:=Option.some.inj h;kernel_rfl
 ·obtain rfl:=Option.some.inj h;kernel_rfl
 ·obtain rfl:=Option.some.inj h;kernel_rfl
 ·obtain rfl:=Option.some.inj h;kernel_rfl
 ·obtain rfl:=Option.some.inj h;kernel_rfl
 ·obtain rfl:=Option.some.inj h;kernel_rfl
 ·obtain rfl:=Option.some.inj h;kernel_rfl
 ·obtain rfl:=Option.some.inj h;kernel_rfl
 ·obtain rfl:=Option.some.inj h;kernel_rfl
 ·obtain rfl:=Option.some.inj h;kernel_rfl
 ·obtain rfl:=Option.some.inj h;kernel_rfl
 ·obtain rfl:=Option.some.inj h;kernel_rfl
 ·obtain rfl:=Option.some.inj h;kernel_rfl
 ·obtain rfl:=Option.some.inj h;kernel_rfl
 ·obtain rfl:=Option.some.inj h;kernel_rfl
 ·obtain rfl:=Option.some.inj h;kernel_rfl
 ·obtain rfl:=Option.some.inj h;kernel_rfl
 ·obtain rfl:=Option.some.inj h;kernel_rfl
 ·obtain rfl:=Option.some.inj h;kernel_rfl
 ·obtain rfl:=Option.some.inj h;kernel_rfl
 ·obtain rfl:=Option.some.inj h;kernel_rfl
 ·obtain rfl:=Option.some.inj h;kernel_rfl
 ·obtain rfl:=Option.some.inj h;kernel_rfl
 ·obtain rfl:=Option.some.inj h;kernel_rfl
 ·obtain rfl:=Option.some.inj h;kernel_rfl
 ·obtain rfl:=Option.some.inj h;kernel_rfl
 ·obtain rfl:=Option.some.inj h;kernel_rfl
 ·obtain rfl:=Option.some.inj h;kernel_rfl
 ·obtain rfl:=Option.some.inj h;kernel_rfl
 ·obtain rfl:=Option.some.inj h;kernel_rfl
 ·obtain rfl:=Option.some.inj h;kernel_rfl
 ·obtain rfl:=Option.some.inj h;kernel_rfl
 ·obtain rfl:=Option.some.inj h;kernel_rfl
 ·obtain rfl:=Option.some.inj h;kernel_rfl
 ·obtain rfl:=Option.some.inj h;kernel_rfl
 ·obtain rfl:=Option.some.inj h;kernel_rfl
 ·obtain rfl:=Option.some.inj h;kernel_rfl
 ·obtain rfl:=Option.some.inj h;kernel_rfl
 ·obtain rfl:=Option.some.inj h;kernel_rfl
 ·obtain rfl:=Option.some.inj h;kernel_rfl
 ·obtain rfl:=Option.some.inj h;kernel_rfl
 ·obtain rfl:=Option.some.inj h;kernel_rfl
 ·obtain rfl:=Option.some.inj h;kernel_rfl
 ·obtain rfl:=Option.some.inj h;kernel_rfl
 ·obtain rfl:=Option.some.inj h;kernel_rfl
 ·obtain rfl:=Option.some.inj h;kernel_rfl
 ·obtain rfl:=Option.some.inj h;kernel_rfl
 ·obtain rfl:=Option.some.inj h;kernel_rfl
 ·obtain rfl:=Option.some.inj h;kernel_rfl
 ·obtain rfl:=Option.some.inj h;kernel_rfl
 ·obtain rfl:=Option.some.inj h;kernel_rfl
 ·obtain rfl:=Option.some.inj h;kernel_rfl
 ·obtain rfl:=Option.some.inj h;kernel_rfl
 ·cases h
abbrev zg:=List (Nat × (List AV→Option AV))
def z6 (s:zg):z2a:=⟨zcx,fun f=>s.lookup f⟩
def zK:List Nat:=[10,12,13,14,15,17,18,19,20,21,22,23,25,26,27,29,32,33,34,35,36,38,39,40,41,42,43,44,45,46,47,48,49,50,51,52,53,54,55,56,57,58,59,61,66,67,68,69,70,71,72,73,74,75,76,77,78,79,80,81,82,83,84,86,87,88]
theorem zcy {s:kE} {p:zg} (h0:∀ n ∈ zK,s.lookup n=none) (hp:∀ q ∈ p,ZL (env s) q.1 q.2):z0A (env s) (z6 p):=by
 refine⟨fun f fn h=>?_,fun f g h=>?_⟩
 ·have hb:=h0
  change zcx f=some fn at h
  unfold zcx at h
  split at h
  ·obtain rfl:=Option.some.inj h;exact⟨Xc,hb 10 (by simp [zK]),rfl,fun _=>rfl,fun h=>absurd h (by decide)⟩
  ·obtain rfl:=Option.some.inj h;exact⟨KT,hb 12 (by simp [zK]),rfl,fun _=>rfl,fun h=>absurd h (by decide)⟩
  ·obtain rfl:=Option.some.inj h;exact⟨Xe,hb 13 (by simp [zK]),rfl,fun _=>rfl,fun h=>absurd h (by decide)⟩
  ·obtain rfl:=Option.some.inj h;exact⟨z6U,hb 14 (by simp [zK]),rfl,fun _=>rfl,fun h=>absurd h (by decide)⟩
  ·obtain rfl:=Option.some.inj h;exact⟨KV,hb 15 (by simp [zK]),rfl,fun _=>rfl,fun h=>absurd h (by decide)⟩
  ·obtain rfl:=Option.some.inj h;exact⟨YN,hb 17 (by simp [zK]),rfl,fun _=>rfl,fun h=>absurd h (by decide)⟩
  ·obtain rfl:=Option.some.inj h;exact⟨z5g,hb 18 (by simp [zK]),rfl,fun _=>rfl,fun h=>absurd h (by decide)⟩
  ·obtain rfl:=Option.some.inj h;exact⟨K3,hb 19 (by simp [zK]),rfl,fun _=>rfl,fun h=>absurd h (by decide)⟩
  ·obtain rfl:=Option.some.inj h;exact⟨Xg,hb 20 (by simp [zK]),rfl,fun _=>rfl,fun h=>absurd h (by decide)⟩
  ·obtain rfl:=Option.some.inj h;exact⟨YP,hb 21 (by simp [zK]),rfl,fun _=>rfl,fun h=>absurd h (by decide)⟩
  ·obtain rfl:=Option.some.inj h;exact⟨z48,hb 22 (by simp [zK]),rfl,fun _=>rfl,fun h=>absurd h (by decide)⟩
  ·obtain rfl:=Option.some.inj h;exact⟨Je,hb 23 (by simp [zK]),rfl,fun _=>rfl,fun h=>absurd h (by decide)⟩
  ·obtain rfl:=Option.some.inj h;exact⟨z4a,hb 25 (by simp [zK]),rfl,fun _=>rfl,fun h=>absurd h (by decide)⟩
  ·obtain rfl:=Option.some.inj h;exact⟨Jg,hb 26 (by simp [zK]),rfl,fun _=>rfl,fun h=>absurd h (by decide)⟩
  ·obtain rfl:=Option.some.inj h;exact⟨z4c,hb 27 (by simp [zK]),rfl,fun _=>rfl,fun h=>absurd h (by decide)⟩
  ·obtain rfl:=Option.some.inj h;exact⟨QP,hb 29 (by simp [zK]),rfl,fun _=>rfl,fun h=>absurd h (by decide)⟩
  ·obtain rfl:=Option.some.inj h;exact⟨VW,hb 32 (by simp [zK]),rfl,fun _=>rfl,fun h=>absurd h (by decide)⟩
  ·obtain rfl:=Option.some.inj h;exact⟨Xi,hb 33 (by simp [zK]),rfl,fun _=>rfl,fun h=>absurd h (by decide)⟩
  ·obtain rfl:=Option.some.inj h;exact⟨KX,hb 34 (by simp [zK]),rfl,fun _=>rfl,fun h=>absurd h (by decide)⟩
  ·obtain rfl:=Option.some.inj h;exact⟨QR,hb 35 (by simp [zK]),rfl,fun _=>rfl,fun h=>absurd h (by decide)⟩
  ·obtain rfl:=Option.some.inj h;exact⟨Qg,hb 36 (by simp [zK]),rfl,fun _=>rfl,fun h=>absurd h (by decide)⟩
  ·obtain rfl:=Option.some.inj h;exact⟨z8t,hb 38 (by simp [zK]),rfl,fun _=>rfl,fun h=>absurd h (by decide)⟩
  ·obtain rfl:=Option.some.inj h;exact⟨z2M,hb 39 (by simp [zK]),rfl,fun _=>rfl,fun h=>absurd h (by decide)⟩
  ·obtain rfl:=Option.some.inj h;exact⟨z06,hb 40 (by simp [zK]),rfl,fun _=>rfl,fun h=>absurd h (by decide)⟩
  ·obtain rfl:=Option.some.inj h;exact⟨z08,hb 41 (by simp [zK]),rfl,fun _=>rfl,fun h=>absurd h (by decide)⟩
  ·obtain rfl:=Option.some.inj h;exact⟨VY,hb 42 (by simp [zK]),rfl,fun _=>rfl,fun h=>absurd h (by decide)⟩
  ·obtain rfl:=Option.some.inj h;exact⟨K5,hb 43 (by simp [zK]),rfl,fun _=>rfl,fun h=>absurd h (by decide)⟩
  ·obtain rfl:=Option.some.inj h;exact⟨KZ,hb 44 (by simp [zK]),rfl,fun _=>rfl,fun h=>absurd h (by decide)⟩
  ·obtain rfl:=Option.some.inj h;exact⟨K7,hb 45 (by simp [zK]),rfl,fun _=>rfl,fun h=>absurd h (by decide)⟩
  ·obtain rfl:=Option.some.inj h;exact⟨K9,hb 46 (by simp [zK]),rfl,fun _=>rfl,fun h=>absurd h (by decide)⟩
  ·obtain rfl:=Option.some.inj h;exact⟨YR,hb 47 (by simp [zK]),rfl,fun _=>rfl,fun h=>absurd h (by decide)⟩
  ·obtain rfl:=Option.some.inj h;exact⟨z5i,hb 48 (by simp [zK]),rfl,fun _=>rfl,fun h=>absurd h (by decide)⟩
  ·obtain rfl:=Option.some.inj h;exact⟨V1,hb 49 (by simp [zK]),rfl,fun _=>rfl,fun h=>absurd h (by decide)⟩
  ·obtain rfl:=Option.some.inj h;exact⟨V3,hb 50 (by simp [zK]),rfl,fun _=>rfl,fun h=>absurd h (by decide)⟩
  ·obtain rfl:=Option.some.inj h;exact⟨V5,hb 51 (by simp [zK]),rfl,fun _=>rfl,fun h=>absurd h (by decide)⟩
  ·obtain rfl:=Option.some.inj h;exact⟨V7,hb 52 (by simp [zK]),rfl,fun _=>rfl,fun h=>absurd h (by decide)⟩
  ·obtain rfl:=Option.some.inj h;exact⟨V9,hb 53 (by simp [zK]),rfl,fun _=>rfl,fun h=>absurd h (by decide)⟩
  ·obtain rfl:=Option.some.inj h;exact⟨z4e,hb 54 (by simp [zK]),rfl,fun _=>rfl,fun h=>absurd h (by decide)⟩
  ·obtain rfl:=Option.some.inj h;exact⟨W0,hb 55 (by simp [zK]),rfl,fun _=>rfl,fun h=>absurd h (by decide)⟩
  ·obtain rfl:=Option.some.inj h;exact⟨Vb,hb 56 (by simp [zK]),rfl,fun _=>rfl,fun h=>absurd h (by decide)⟩
  ·obtain rfl:=Option.some.inj h;exact⟨Xk,hb 57 (by simp [zK]),rfl,fun _=>rfl,fun h=>absurd h (by decide)⟩
  ·obtain rfl:=Option.some.inj h;exact⟨Ji,hb 58 (by simp [zK]),rfl,fun _=>rfl,fun h=>absurd h (by decide)⟩
  ·obtain rfl:=Option.some.inj h;exact⟨Vd,hb 59 (by simp [zK]),rfl,fun _=>rfl,fun h=>absurd h (by decide)⟩
  ·obtain rfl:=Option.some.inj h;exact⟨W2,hb 61 (by simp [zK]),rfl,fun _=>rfl,fun h=>absurd h (by decide)⟩
  ·obtain rfl:=Option.some.inj h;exact⟨kS,hb 66 (by simp [zK]),rfl,fun h=>absurd h (by decide),fun _=>⟨3,rfl⟩⟩
  ·obtain rfl:=Option.some.inj h;exact⟨z1g,hb 67 (by simp [zK]),rfl,fun _=>rfl,fun h=>absurd h (by decide)⟩
  ·obtain rfl:=Option.some.inj h;exact⟨z4g,hb 68 (by simp [zK]),rfl,fun _=>rfl,fun h=>absurd h (by decide)⟩
  ·obtain rfl:=Option.some.inj h;exact⟨z0a,hb 69 (by simp [zK]),rfl,fun _=>rfl,fun h=>absurd h (by decide)⟩
  ·obtain rfl:=Option.some.inj h;exact⟨W4,hb 70 (by simp [zK]),rfl,fun _=>rfl,fun h=>absurd h (by decide)⟩
  ·obtain rfl:=Option.some.inj h;exact⟨z5k,hb 71 (by simp [zK]),rfl,fun _=>rfl,fun h=>absurd h (by decide)⟩
  ·obtain rfl:=Option.some.inj h;exact⟨z1i,hb 72 (by simp [zK]),rfl,fun _=>rfl,fun h=>absurd h (by decide)⟩
  ·obtain rfl:=Option.some.inj h;exact⟨z21,hb 73 (by simp [zK]),rfl,fun _=>rfl,fun h=>absurd h (by decide)⟩
  ·obtain rfl:=Option.some.inj h;exact⟨Kb,hb 74 (by simp [zK]),rfl,fun _=>rfl,fun h=>absurd h (by decide)⟩
  ·obtain rfl:=Option.some.inj h;exact⟨v6,hb 75 (by simp [zK]),rfl,fun _=>rfl,fun h=>absurd h (by decide)⟩
  ·obtain rfl:=Option.some.inj h;exact⟨z2O,hb 76 (by simp [zK]),rfl,fun _=>rfl,fun h=>absurd h (by decide)⟩
  ·obtain rfl:=Option.some.inj h;exact⟨z5m,hb 77 (by simp [zK]),rfl,fun _=>rfl,fun h=>absurd h (by decide)⟩
  ·obtain rfl:=Option.some.inj h;exact⟨z4i,hb 78 (by simp [zK]),rfl,fun _=>rfl,fun h=>absurd h (by decide)⟩
  ·obtain rfl:=Option.some.inj h;exact⟨z5o,hb 79 (by simp [zK]),rfl,fun _=>rfl,fun h=>absurd h (by decide)⟩
  ·obtain rfl:=Option.some.inj h;exact⟨z2Q,hb 80 (by simp [zK]),rfl,fun _=>rfl,fun h=>absurd h (by decide)⟩
  ·obtain rfl:=Option.some.inj h;exact⟨qR,hb 81 (by simp [zK]),rfl,fun _=>rfl,fun h=>absurd h (by decide)⟩
  ·obtain rfl:=Option.some.inj h;exact⟨z1k,hb 82 (by simp [zK]),rfl,fun _=>rfl,fun h=>absurd h (by decide)⟩
  ·obtain rfl:=Option.some.inj h;exact⟨Vf,hb 83 (by simp [zK]),rfl,fun _=>rfl,fun h=>absurd h (by decide)⟩
  ·obtain rfl:=Option.some.inj h;exact⟨Y4,hb 84 (by simp [zK]),rfl,fun _=>rfl,fun h=>absurd h (by decide)⟩
  ·obtain rfl:=Option.some.inj h;exact⟨z4k,hb 86 (by simp [zK]),rfl,fun _=>rfl,fun h=>absurd h (by decide)⟩
  ·obtain rfl:=Option.some.inj h;exact⟨z0c,hb 87 (by simp [zK]),rfl,fun _=>rfl,fun h=>absurd h (by decide)⟩
  ·obtain rfl:=Option.some.inj h;exact⟨Xm,hb 88 (by simp [zK]),rfl,fun _=>rfl,fun h=>absurd h (by decide)⟩
  ·cases h
 ·have:∀ (p:zg),(∀ q ∈ p,ZL (env s) q.1 q.2)→p.lookup f=some g→ZL (env s) f g:=by
   intro p
   induction p with
   | nil=>intro _ h;cases h
   | cons a l ih =>
    intro hq h
    obtain⟨a,b⟩:=a
    rw [List.lookup_cons] at h
    split at h
    ·rename_i e
     obtain rfl:=Option.some.inj h
     rw [eq_of_beq e]
     exact hq _ List.mem_cons_self
    ·exact ih (fun q hm=>hq q (List.mem_cons_of_mem _ hm)) h
  exact this p hp h
theorem Y5 {s:kE} (h:s.lookup 64=none):ZL (env s) 64 (Zy 1 8):=z6a (env s) (zero:=[.int .i64 0]) (f:=64) h rfl (by decide) rfl
theorem vx {s:kE} (h:s.lookup 65=none):ZL (env s) 65 (Zy 3 24):=z6a (env s) (zero:=[.int .i64 0,.int .i64 0,.int .i64 0]) (f:=65) h rfl (by decide) rfl
end Go.Proofs.Ytdbbdfmkglgjdaa.Pi
