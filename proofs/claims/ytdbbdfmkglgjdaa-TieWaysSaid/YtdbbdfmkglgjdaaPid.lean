/- The functions that TieWays reach, digested for the evaluator by values; that they are the program's. Printed by mkpv.py of this repo. -/
import Derived.Test.YtdbbdfmkglgjdaaChecked
import Derived.Test.YtdbbdfmkglgjdaaPvE
import Derived.KernelRfl
namespace Go.Proofs.Ytdbbdfmkglgjdaa.Pi
open Go.Ab
def qn (t:Nat) (o:AOp):(zk × DK) × PM:=((⟨some t,o,none⟩,.q),⟨.n,[]⟩)
def qg (t g:Nat) (b:Bool) (o:AOp):(zk × DK) × PM:=((⟨some t,o,some (g,b)⟩,.q),⟨.n,[]⟩)
def ug (t g:Nat) (b:Bool) (o:AOp):zk × PM:=(⟨some t,o,some (g,b)⟩,⟨.n,[]⟩)
def ua (t:Nat) (o:AOp):zk:=⟨some t,o,none⟩
def ub (o:AOp):zk:=⟨none,o,none⟩
abbrev u_ (t:Nat) (o:AOp):zk × PM:=(⟨some t,o,none⟩,⟨.n,[]⟩)
def zX:zf:=.seq (.seq (.reg [u_ 162 (.mv (.t 14)),u_ 163 (.mv (.t 9)),u_ 164 (.len (.t 163)),u_ 165 (.bin .lss (.t 162) (.t 164))]) (.cond (.t 165) .skip (.keep [5,6,7,8] [(7,7)] (.exit 2)))) (.seq (.block 3 (.seq (.seq (.reg [u_ 168 (.mv (.t 9)),u_ 169 (.mv (.t 14)),u_ 170 (.iad 10 (.t 168) (.t 169)),u_ 171 (.ldn 10 (.t 170)),u_ 172 (.call (.c (.fn 31 [] [])) [.t 171]),u_ 173 (.un .not (.t 172)),u_ 174 (.mv (.t 173)),ug 175 174 false (.mv (.t 9)),ug 176 174 false (.mv (.t 14)),ug 177 174 false (.iad 10 (.t 175) (.t 176)),ug 178 174 false (.fad 1 (.t 177)),ug 179 174 false (.ld (.t 178)),ug 180 174 false (.mv (.t 5)),ug 181 174 false (.bin .neq (.t 179) (.t 180)),u_ 182 (.pick (.t 174) (.c (.bool true)) (.t 181)),u_ 183 (.mv (.t 182)),ug 184 183 false (.mv (.t 9)),ug 185 183 false (.mv (.t 14)),ug 186 183 false (.iad 10 (.t 184) (.t 185)),ug 187 183 false (.fad 3 (.t 186)),ug 188 183 false (.ld (.t 187)),ug 189 183 false (.bin .neq (.t 188) (.c (.int .i64 2))),u_ 190 (.pick (.t 183) (.c (.bool true)) (.t 189))]) (.cond (.t 190) (.seq (.reg [u_ 4 (.mv (.c (.bool false)))]) (.keep [4] [] .ret)) .skip)) (.seq (.dreg 0 [qn 191 (.mv (.t 9)),qn 192 (.mv (.t 14)),qn 193 (.iad 10 (.t 191) (.t 192)),qn 194 (.fad 0 (.t 193)),qn 195 (.ld (.t 194)),qn 196 (.bin .eql (.t 195) (.c (.int .i64 2))),qn 197 (.mv (.t 196)),qg 198 197 true (.fad 6 (.t 11)),qg 199 197 true (.ld (.t 198)),qg 200 197 true (.mv (.t 9)),qg 201 197 true (.mv (.t 14)),qg 202 197 true (.iad 10 (.t 200) (.t 201)),qg 203 197 true (.fad 2 (.t 202)),qg 204 197 true (.ld (.t 203)),((⟨some 205,.call (.c (.fn 32 [] [])) [.t 199,.t 204],some (197,true)⟩,.ef []),⟨.n,[]⟩),qg 206 197 true (.mv (.t 205)),qg 207 206 false (.ldn 13 (.t 11)),((⟨some 208,.call (.c (.fn 25 [] [])) [.t 207],some (206,false)⟩,.ef []),⟨.n,[]⟩),qg 209 206 false (.un .not (.t 208)),qg 210 197 true (.pick (.t 206) (.c (.bool true)) (.t 209)),qg 211 197 true (.mv (.t 210)),qg 212 211 false (.mv (.t 9)),qg 213 211 false (.mv (.t 14)),qg 214 211 false (.iad 10 (.t 212) (.t 213)),qg 215 211 false (.fad 6 (.t 214)),qg 216 211 false (.ld (.t 215)),qg 217 211 false (.mv (.t 9)),qg 218 211 false (.mv (.t 14)),qg 219 211 false (.iad 10 (.t 217) (.t 218)),qg 220 211 false (.fad 2 (.t 219)),qg 221 211 false (.ld (.t 220)),((⟨some 222,.call (.c (.fn 32 [] [])) [.t 216,.t 221],some (211,false)⟩,.ef []),⟨.n,[]⟩),qg 223 197 true (.pick (.t 211) (.c (.bool true)) (.t 222)),qn 224 (.pick (.t 197) (.t 223) (.c (.bool false)))]) (.cond (.t 224) (.seq (.reg [u_ 4 (.mv (.c (.bool false)))]) (.keep [4] [] .ret)) .skip)))) (.fin (.reg [u_ 166 (.mv (.t 14)),u_ 167 (.bin .add (.t 166) (.c (.int .i64 1))),u_ 14 (.mv (.t 167))]) [] [] [5,6,7,8,9,11,14] [(7,7),(11,11)]))
def qH:zf:=.seq (.seq (.reg [u_ 87 (.fad 6 (.t 7)),u_ 88 (.ld (.t 87)),u_ 89 (.len (.t 88)),u_ 90 (.bin .gtr (.t 89) (.c (.int .i64 0))),u_ 91 (.fad 3 (.t 7)),u_ 92 (.ld (.t 91)),u_ 93 (.bin .neq (.t 92) (.c (.int .i64 0))),u_ 94 (.mv (.t 93)),ug 95 94 false (.mv (.t 5)),ug 96 94 false (.bin .eql (.t 95) (.c (.int .i64 1))),u_ 97 (.pick (.t 94) (.c (.bool true)) (.t 96)),u_ 98 (.eqs true .b (.t 90) (.t 97)),u_ 99 (.mv (.t 98)),ug 100 99 false (.fad 6 (.t 7)),ug 101 99 false (.ld (.t 100)),ug 102 99 false (.len (.t 101)),ug 103 99 false (.bin .gtr (.t 102) (.c (.int .i64 0))),ug 104 99 false (.mv (.t 103)),ug 105 104 true (.fad 6 (.t 7)),ug 106 104 true (.ld (.t 105)),ug 107 104 true (.call (.c (.fn 29 [] [])) [.t 106]),ug 108 104 true (.un .not (.t 107)),ug 109 104 true (.mv (.t 108)),ug 110 109 false (.fad 6 (.t 7)),ug 111 109 false (.ld (.t 110)),ug 112 109 false (.fad 6 (.t 7)),ug 113 109 false (.ld (.t 112)),ug 114 109 false (.len (.t 113)),ug 115 109 false (.bin .sub (.t 114) (.c (.int .i64 1))),ug 116 109 false (.iad 1 (.t 111) (.t 115)),ug 117 109 false (.ld (.t 116)),ug 118 109 false (.mv (.t 5)),ug 119 109 false (.bin .neq (.t 117) (.t 118)),ug 120 104 true (.pick (.t 109) (.c (.bool true)) (.t 119)),ug 121 99 false (.pick (.t 104) (.t 120) (.c (.bool false))),u_ 122 (.pick (.t 99) (.c (.bool true)) (.t 121)),u_ 123 (.mv (.t 122)),ug 124 123 false (.fad 12 (.t 7)),ug 125 123 false (.ld (.t 124)),ug 126 123 false (.call (.c (.fn 30 [] [])) [.t 125]),ug 127 123 false (.un .not (.t 126)),u_ 128 (.pick (.t 123) (.c (.bool true)) (.t 127)),u_ 129 (.mv (.t 128)),ug 130 129 false (.fad 12 (.t 7)),ug 131 129 false (.ld (.t 130)),ug 132 129 false (.len (.t 131)),ug 133 129 false (.mv (.t 13)),ug 134 129 false (.bin .gtr (.t 132) (.t 133)),u_ 135 (.pick (.t 129) (.c (.bool true)) (.t 134)),u_ 136 (.mv (.t 135)),ug 137 136 false (.fad 3 (.t 7)),ug 138 136 false (.ld (.t 137)),ug 139 136 false (.mv (.t 5)),ug 140 136 false (.bin .eql (.t 138) (.t 139)),u_ 141 (.pick (.t 136) (.c (.bool true)) (.t 140)),u_ 142 (.mv (.t 141)),ug 143 142 false (.mv (.t 5)),ug 144 142 false (.bin .eql (.t 143) (.c (.int .i64 1))),ug 145 142 false (.mv (.t 144)),ug 146 145 true (.fad 3 (.t 7)),ug 147 145 true (.ld (.t 146)),ug 148 145 true (.bin .neq (.t 147) (.c (.int .i64 0))),ug 149 142 false (.pick (.t 145) (.t 148) (.c (.bool false))),u_ 150 (.pick (.t 142) (.c (.bool true)) (.t 149)),u_ 151 (.mv (.t 150)),ug 152 151 false (.fad 2 (.t 7)),ug 153 151 false (.ld (.t 152)),ug 154 151 false (.fad 2 (.t 11)),ug 155 151 false (.ld (.t 154)),ug 156 151 false (.bin .neq (.t 153) (.t 155)),ug 157 151 false (.mv (.t 156)),ug 158 157 true (.mv (.t 12)),ug 159 157 true (.un .not (.t 158)),ug 160 151 false (.pick (.t 157) (.t 159) (.c (.bool false))),u_ 161 (.pick (.t 151) (.c (.bool true)) (.t 160))]) (.cond (.t 161) (.seq (.reg [u_ 4 (.mv (.c (.bool false)))]) (.keep [4] [] .ret)) .skip)) (.seq (.reg [u_ 14 (.mv (.c (.int .i64 0)))]) (.fin (.block 2 (.keep [5,6,7,8,9,11,14] [(7,7),(11,11)] (.loop zX))) [] [] [5,6,7,8] [(7,7)]))
def xr:zf:=.seq (.reg [u_ 13 (.mv (.c (.int .i64 3)))]) (.seq (.seq (.reg [u_ 85 (.mv (.t 5)),u_ 86 (.bin .eql (.t 85) (.c (.int .i64 1)))]) (.cond (.t 86) (.fin (.reg [u_ 13 (.mv (.c (.int .i64 8)))]) [] [] [5,6,7,8,9,11,12,13] [(7,7),(11,11)]) (.fin .skip [] [] [5,6,7,8,9,11,12,13] [(7,7),(11,11)]))) qH)
def xt:zf:=.seq (.reg [u_ 69 (.ldn 13 (.t 7)),(⟨some 11,.newc [.int .i64 0,.int .i64 0,.int .i64 0,.int .i64 0,.int .i64 0,.int .i64 0,.nils,.int .i64 0,.int .i64 0,.int .i64 0,.int .i64 0,.int .i64 0,.nils],none⟩,⟨.s 13,[]⟩),(⟨none,.st 13 (.t 11) (.t 69),none⟩,⟨.n,[]⟩)]) (.seq (.reg [u_ 70 (.mv (.t 6)),u_ 71 (.call (.c (.fn 13 [] [])) [.t 70,.c (.int .i64 3)]),u_ 72 (.bin .eql (.t 71) (.c (.int .i64 0))),u_ 12 (.mv (.t 72))]) (.seq (.seq (.reg [u_ 73 (.mv (.t 12))]) (.cond (.t 73) (.fin (.reg [u_ 75 (.ldn 13 (.t 7)),u_ 76 (.call (.c (.fn 18 [] [])) [.t 75]),u_ 74 (.mv (.t 76)),u_ 77 (.ext (.t 74) 0),u_ 78 (.ext (.t 74) 1),(⟨none,.st 13 (.t 7) (.t 77),none⟩,⟨.n,[]⟩),u_ 9 (.mv (.t 78))]) [] [] [5,6,7,8,9,11,12] [(7,7),(11,11)]) (.fin (.reg [u_ 80 (.ldn 13 (.t 7)),u_ 81 (.ldn 10 (.t 10)),u_ 82 (.call (.c (.fn 22 [] [])) [.t 80,.t 81,.c (.int .i64 1)]),u_ 79 (.mv (.t 82)),u_ 83 (.ext (.t 79) 0),u_ 84 (.ext (.t 79) 1),(⟨none,.st 13 (.t 7) (.t 83),none⟩,⟨.n,[]⟩),u_ 9 (.mv (.t 84))]) [] [] [5,6,7,8,9,11,12] [(7,7),(11,11)]))) xr))
def xu:zf:=.fin (.reg [u_ 37 (.mv (.t 8)),u_ 38 (.bin .add (.t 37) (.c (.int .i64 1))),u_ 8 (.mv (.t 38))]) [] [] [5,6,7,8] [(7,7)]
def zN:zf:=.seq (.seq (.reg [u_ 30 (.mv (.t 8)),u_ 31 (.bin .lss (.t 30) (.c (.int .i64 60))),u_ 32 (.mv (.t 31)),ug 33 32 true (.mv (.t 6)),ug 34 32 true (.call (.c (.fn 17 [] [])) [.t 33]),ug 35 32 true (.un .not (.t 34)),u_ 36 (.pick (.t 32) (.t 35) (.c (.bool false)))]) (.cond (.t 36) .skip (.keep [] [] (.exit 0)))) (.seq (.block 1 (.seq (.reg [u_ 9 (.mv (.c .nils))]) (.seq (.reg [u_ 39 (.mv (.t 6)),u_ 40 (.mv (.t 5)),u_ 41 (.call (.c (.fn 20 [] [])) [.t 39,.t 40]),(⟨some 10,.newc [.int .i64 0,.int .i64 0,.int .i64 0,.int .i64 0,.int .i64 0,.int .i64 0,.nils,.int .i64 0,.int .i64 0,.str []],none⟩,⟨.s 10,[]⟩),(⟨none,.st 10 (.t 10) (.t 41),none⟩,⟨.n,[]⟩)]) (.seq (.seq (.reg [u_ 42 (.mv (.t 6)),u_ 43 (.call (.c (.fn 13 [] [])) [.t 42,.c (.int .i64 2)]),u_ 44 (.bin .eql (.t 43) (.c (.int .i64 0))),u_ 45 (.mv (.t 44)),ug 46 45 true (.fad 9 (.t 7)),ug 47 45 true (.ld (.t 46)),ug 48 45 true (.bin .geq (.t 47) (.c (.int .i64 1))),u_ 49 (.pick (.t 45) (.t 48) (.c (.bool false))),u_ 50 (.mv (.t 49)),ug 51 50 true (.fad 9 (.t 7)),ug 52 50 true (.ld (.t 51)),ug 53 50 true (.bin .leq (.t 52) (.c (.int .i64 8))),u_ 54 (.pick (.t 50) (.t 53) (.c (.bool false))),u_ 55 (.mv (.t 54)),ug 56 55 true (.fad 9 (.t 7)),ug 57 55 true (.ld (.t 56)),ug 58 55 true (.mv (.t 5)),ug 59 55 true (.bin .neq (.t 57) (.t 58)),u_ 60 (.pick (.t 55) (.t 59) (.c (.bool false)))]) (.cond (.t 60) (.fin (.dreg 0 [qn 61 (.fad 9 (.t 7)),qn 62 (.ld (.t 61)),qn 63 (.mv (.t 5)),qn 64 (.mv (.t 6)),qn 66 (.mv (.t 6)),((⟨some 65,.call (.c (.fn 13 [] [])) [.t 64,.c (.int .i64 22)],none⟩,.ef [1]),⟨.n,[]⟩),((⟨some 67,.call (.c (.fn 21 [] [])) [.t 66],none⟩,.ef [1]),⟨.n,[]⟩),qn 68 (.build [.int .i64 0,.int .i64 0,.int .i64 0,.int .i64 0,.int .i64 0,.int .i64 0,.nils,.int .i64 0,.int .i64 0,.str []] [(0,1,.c (.int .i64 2)),(1,1,.t 62),(2,1,.t 63),(3,1,.c (.int .i64 1)),(4,1,.c (.int .i64 1)),(5,1,.t 65),(6,1,.t 67),(7,1,.c (.int .i64 1))]),((⟨none,.st 10 (.t 10) (.t 68),none⟩,.ef []),⟨.n,[]⟩)]) [] [] [5,6,7,8,10] [(7,7),(10,10)]) (.fin .skip [] [] [5,6,7,8,10] [(7,7),(10,10)]))) xt)))) xu)
def qI:zf:=.seq (.reg [u_ 4 (.mv (.c (.bool true)))]) .ret
def vO:zf:=.seq (.reg [u_ 4 (.mv (.c (.bool false)))]) (.seq (.seq (.reg [u_ 15 (.call (.c (.fn 11 [] [])) []),u_ 16 (.un .not (.t 15))]) (.cond (.t 16) (.seq (.reg [u_ 4 (.mv (.c (.bool false)))]) .ret) .skip)) (.seq (.seq (.reg [u_ 17 (.mv (.t 0)),u_ 18 (.len (.t 17)),u_ 19 (.bin .gtr (.t 18) (.c (.int .i64 250)))]) (.cond (.t 19) (.seq (.reg [u_ 4 (.mv (.c (.bool true)))]) .ret) .skip)) (.seq (.reg [u_ 20 (.mv (.t 1)),u_ 21 (.bin .rem (.t 20) (.c (.int .u8 8))),u_ 22 (.cvi .i64 (.t 21)),u_ 23 (.bin .add (.c (.int .i64 1)) (.t 22)),u_ 5 (.mv (.t 23))]) (.seq (.reg [u_ 24 (.mv (.t 0)),u_ 25 (.call (.c (.fn 12 [] [])) [.t 24]),u_ 6 (.mv (.t 25))]) (.seq (.reg [u_ 26 (.mv (.t 5)),u_ 27 (.mv (.t 6)),u_ 28 (.call (.c (.fn 13 [] [])) [.t 27,.c (.int .i64 9)]),u_ 29 (.call (.c (.fn 14 [] [])) [.t 26,.c (.int .i64 2),.c (.int .i64 0),.t 28]),(⟨some 7,.newc [.int .i64 0,.int .i64 0,.int .i64 0,.int .i64 0,.int .i64 0,.int .i64 0,.nils,.int .i64 0,.int .i64 0,.int .i64 0,.int .i64 0,.int .i64 0,.nils],none⟩,⟨.s 13,[]⟩),(⟨none,.st 13 (.t 7) (.t 29),none⟩,⟨.n,[]⟩)]) (.seq (.seq (.reg [u_ 8 (.mv (.c (.int .i64 0)))]) (.block 0 (.keep [5,6,7,8] [(7,7)] (.loop zN)))) qI))))))
def yX:PFn:=⟨225,[],vO,[.tmp 4],[.n]⟩
def ZL:zf:=.seq (.reg [u_ 2 (.mv (.c .nilp))]) (.seq (.reg [u_ 3 (.mv (.t 0)),u_ 4 (.build [.nils,.int .i64 0] [(0,1,.t 3)]),u_ 5 (.box (.t 4)),u_ 2 (.mv (.t 5))]) .ret)
def xN:PFn:=⟨6,[],ZL,[.tmp 2],[.n]⟩
def vx:zf:=.seq (.reg [u_ 4 (.mv (.c (.int .i64 0)))]) (.seq (.seq (.dreg 0 [qn 5 (.mv (.t 0)),qn 6 (.nck (.t 5)),qn 7 (.fad 1 (.t 6)),qn 8 (.ld (.t 7)),qn 9 (.mv (.t 0)),qn 10 (.nck (.t 9)),qn 11 (.fad 0 (.t 10)),qn 12 (.ld (.t 11)),qn 13 (.len (.t 12)),qn 14 (.bin .geq (.t 8) (.t 13)),qn 15 (.mv (.t 14)),qg 16 15 false (.mv (.t 1)),qg 17 15 false (.bin .lss (.t 16) (.c (.int .i64 1))),qn 18 (.pick (.t 15) (.c (.bool true)) (.t 17))]) (.cond (.t 18) (.seq (.reg [u_ 4 (.mv (.c (.int .i64 0)))]) .ret) .skip)) (.seq (.reg [u_ 19 (.mv (.t 0)),u_ 20 (.nck (.t 19)),u_ 21 (.fad 1 (.t 20)),u_ 22 (.ld (.t 21)),u_ 23 (.bin .add (.t 22) (.c (.int .i64 1))),u_ 24 (.nck (.t 19)),u_ 25 (.fad 1 (.t 24)),(⟨none,.st 1 (.t 25) (.t 23),none⟩,⟨.n,[]⟩)]) (.seq (.dreg 0 [qn 26 (.mv (.t 0)),qn 27 (.nck (.t 26)),qn 28 (.fad 0 (.t 27)),qn 29 (.ld (.t 28)),qn 30 (.mv (.t 0)),qn 31 (.nck (.t 30)),qn 32 (.fad 1 (.t 31)),qn 33 (.ld (.t 32)),qn 34 (.bin .sub (.t 33) (.c (.int .i64 1))),qn 35 (.iad 1 (.t 29) (.t 34)),qn 36 (.ld (.t 35)),qn 37 (.cvi .i64 (.t 36)),qn 38 (.mv (.t 1)),qn 39 (.bin .rem (.t 37) (.t 38)),qn 4 (.mv (.t 39))]) .ret)))
def yM:PFn:=⟨40,[],vx,[.tmp 4],[.n]⟩
def Qp:zf:=.seq (.reg [u_ 21 (.ldn 13 (.t 9)),(⟨none,.st 13 (.t 8) (.t 21),none⟩,⟨.n,[]⟩)]) .ret
def z1C:zf:=.seq (.reg [(⟨some 8,.newc [.int .i64 0,.int .i64 0,.int .i64 0,.int .i64 0,.int .i64 0,.int .i64 0,.nils,.int .i64 0,.int .i64 0,.int .i64 0,.int .i64 0,.int .i64 0,.nils],none⟩,⟨.s 13,[]⟩)]) (.seq (.reg [u_ 10 (.mv (.t 0)),u_ 11 (.mv (.t 1)),u_ 12 (.mv (.t 2)),u_ 13 (.mv (.t 3)),u_ 14 (.build [.int .i64 0,.int .i64 0,.int .i64 0,.int .i64 0,.int .i64 0,.int .i64 0,.nils,.int .i64 0,.int .i64 0,.int .i64 0,.int .i64 0,.int .i64 0,.nils] [(0,1,.t 10),(1,1,.t 11),(2,1,.t 12),(5,1,.t 13)]),(⟨some 9,.newc [.int .i64 0,.int .i64 0,.int .i64 0,.int .i64 0,.int .i64 0,.int .i64 0,.nils,.int .i64 0,.int .i64 0,.int .i64 0,.int .i64 0,.int .i64 0,.nils],none⟩,⟨.s 13,[]⟩),(⟨none,.st 13 (.t 9) (.t 14),none⟩,⟨.n,[]⟩)]) (.seq (.seq (.reg [u_ 15 (.mv (.t 0)),u_ 16 (.bin .eql (.t 15) (.c (.int .i64 1)))]) (.cond (.t 16) (.fin (.reg [(⟨some 17,.bsl 1 [.int .i64 0] 1 [(0,1,.c (.int .i64 1))],none⟩,⟨.f,[]⟩),u_ 18 (.mv (.t 2)),u_ 19 (.fad 6 (.t 9)),(⟨none,.st 1 (.t 19) (.t 17),none⟩,⟨.n,[]⟩),u_ 20 (.fad 8 (.t 9)),(⟨none,.st 1 (.t 20) (.t 18),none⟩,⟨.n,[]⟩)]) [] [] [8,9] [(8,8),(9,9)]) (.fin .skip [] [] [8,9] [(8,8),(9,9)]))) Qp))
def Zj:PFn:=⟨22,[],z1C,[.cell 8 (some 13)],[.n]⟩
def v6:zf:=.seq (.reg [u_ 2 (.mv (.c (.bool false)))]) (.seq (.dreg 0 [qn 3 (.mv (.t 0)),qn 4 (.nck (.t 3)),qn 5 (.fad 1 (.t 4)),qn 6 (.ld (.t 5)),qn 7 (.mv (.t 0)),qn 8 (.nck (.t 7)),qn 9 (.fad 0 (.t 8)),qn 10 (.ld (.t 9)),qn 11 (.len (.t 10)),qn 12 (.bin .geq (.t 6) (.t 11)),qn 2 (.mv (.t 12))]) .ret)
def yC:PFn:=⟨13,[],v6,[.tmp 2],[.n]⟩
def Z2:zf:=.seq (.reg [u_ 91 (.mv (.t 4)),u_ 92 (.call (.c (.fn 41 [] [])) [.t 91])]) (.seq (.reg [u_ 93 (.mv (.t 4)),u_ 94 (.call (.c (.fn 42 [] [])) [.t 93])]) (.seq (.dreg 0 [qn 95 (.mv (.t 4)),qn 96 (.nck (.t 95)),qn 97 (.fad 0 (.t 96)),qn 98 (.ldn 13 (.t 97)),qn 99 (.mv (.t 4)),qn 100 (.nck (.t 99)),qn 101 (.fad 13 (.t 100)),qn 102 (.ld (.t 101)),((⟨none,.st 13 (.t 2) (.t 98),none⟩,.ef [7]),⟨.n,[]⟩),qn 3 (.mv (.t 102))]) (.hf 3 10 .ret)))
def z0h:zf:=.seq (.reg [(⟨some 1,.box (.t 0),none⟩,⟨.s 13,[]⟩),(⟨some 2,.newc [.int .i64 0,.int .i64 0,.int .i64 0,.int .i64 0,.int .i64 0,.int .i64 0,.nils,.int .i64 0,.int .i64 0,.int .i64 0,.int .i64 0,.int .i64 0,.nils],none⟩,⟨.s 13,[]⟩),u_ 3 (.mv (.c .nils))]) (.seq (.reg [u_ 5 (.ldn 13 (.t 1)),u_ 6 (.call (.c (.fn 38 [] [])) [.t 5]),u_ 4 (.mv (.t 6))]) (.seq (.reg [u_ 7 (.mv (.t 4)),u_ 8 (.nck (.t 7)),u_ 9 (.fad 0 (.t 8)),u_ 10 (.fad 2 (.t 9)),u_ 11 (.ld (.t 10)),u_ 12 (.bin .add (.t 11) (.c (.int .i64 1))),u_ 13 (.nck (.t 7)),u_ 14 (.fad 0 (.t 13)),u_ 15 (.fad 2 (.t 14)),(⟨none,.st 1 (.t 15) (.t 12),none⟩,⟨.n,[]⟩)]) (.seq (.dreg 0 [qn 16 (.mv (.t 4)),qn 17 (.mv (.t 4)),qn 18 (.nck (.t 17)),qn 19 (.fad 0 (.t 18)),qn 20 (.fad 12 (.t 19)),qn 21 (.ld (.t 20)),qn 22 (.mv (.t 4)),qn 23 (.nck (.t 22)),qn 24 (.fad 0 (.t 23)),qn 25 (.fad 2 (.t 24)),qn 26 (.ld (.t 25)),((⟨some 27,.call (.c (.fn 39 [] [])) [.t 21,.t 26],none⟩,.ef []),⟨.n,[]⟩),qn 28 (.nck (.t 16)),qn 29 (.fad 0 (.t 28)),qn 30 (.fad 12 (.t 29)),((⟨none,.st 1 (.t 30) (.t 27),none⟩,.ef []),⟨.n,[]⟩)]) (.seq (.block 0 (.seq (.reg [u_ 32 (.mv (.t 4)),u_ 33 (.nck (.t 32)),u_ 34 (.fad 0 (.t 33)),u_ 35 (.fad 0 (.t 34)),u_ 36 (.ld (.t 35)),u_ 37 (.bin .eql (.t 36) (.c (.int .i64 1))),u_ 38 (.mv (.t 37)),ug 39 38 true (.mv (.t 4)),ug 40 38 true (.nck (.t 39)),ug 41 38 true (.fad 0 (.t 40)),ug 42 38 true (.fad 2 (.t 41)),ug 43 38 true (.ld (.t 42)),ug 44 38 true (.bin .rem (.t 43) (.c (.int .i64 2))),ug 45 38 true (.bin .eql (.t 44) (.c (.int .i64 0))),u_ 46 (.pick (.t 38) (.t 45) (.c (.bool false))),u_ 31 (.mv (.t 46))]) (.fin (.cond (.t 31) (.fin (.dreg 0 [qn 47 (.mv (.t 4)),qn 48 (.mv (.t 4)),qn 49 (.mv (.t 4)),qn 50 (.nck (.t 49)),qn 51 (.fad 0 (.t 50)),qn 52 (.fad 7 (.t 51)),qn 53 (.ld (.t 52)),qn 54 (.bin .add (.t 53) (.c (.int .i64 1))),qn 55 (.mv (.t 4)),qn 56 (.nck (.t 55)),qn 57 (.fad 0 (.t 56)),qn 58 (.fad 2 (.t 57)),qn 59 (.ld (.t 58)),qn 60 (.nck (.t 47)),qn 61 (.fad 0 (.t 60)),qn 62 (.fad 7 (.t 61)),((⟨none,.st 1 (.t 62) (.t 54),none⟩,.ef []),⟨.n,[]⟩),qn 63 (.nck (.t 48)),qn 64 (.fad 0 (.t 63)),qn 65 (.fad 8 (.t 64)),((⟨none,.st 1 (.t 65) (.t 59),none⟩,.ef []),⟨.n,[]⟩)]) [] [] [2,4] [(2,2)]) (.seq (.reg [u_ 67 (.mv (.t 4)),u_ 68 (.nck (.t 67)),u_ 69 (.fad 0 (.t 68)),u_ 70 (.fad 0 (.t 69)),u_ 71 (.ld (.t 70)),u_ 72 (.bin .neq (.t 71) (.c (.int .i64 1))),u_ 73 (.mv (.t 72)),ug 74 73 true (.mv (.t 4)),ug 75 73 true (.nck (.t 74)),ug 76 73 true (.fad 0 (.t 75)),ug 77 73 true (.fad 3 (.t 76)),ug 78 73 true (.ld (.t 77)),ug 79 73 true (.bin .neq (.t 78) (.c (.int .i64 0))),u_ 80 (.pick (.t 73) (.t 79) (.c (.bool false))),u_ 81 (.mv (.t 80)),ug 82 81 true (.mv (.t 4)),ug 83 81 true (.nck (.t 82)),ug 84 81 true (.fad 0 (.t 83)),ug 85 81 true (.ldn 13 (.t 84)),ug 86 81 true (.call (.c (.fn 25 [] [])) [.t 85]),ug 87 81 true (.un .not (.t 86)),u_ 88 (.pick (.t 81) (.t 87) (.c (.bool false))),u_ 66 (.mv (.t 88))]) (.fin (.cond (.t 66) (.fin (.reg [u_ 89 (.mv (.t 4)),u_ 90 (.call (.c (.fn 40 [] [])) [.t 89,.c (.int .i64 0)])]) [] [] [2,4] [(2,2)]) (.fin .skip [] [] [2,4] [(2,2)])) [] [] [2,4] [(2,2)]))) [] [] [2,4] [(2,2)]))) Z2))))
def wx:PFn:=⟨103,[],z0h,[.cell 2 (some 13),.tmp 3],[.n,.f 10]⟩
def ql:zf:=.fin (.cond (.t 64) (.seq (.reg [u_ 67 (.mv (.t 0)),u_ 68 (.call (.c (.fn 13 [] [])) [.t 67,.c (.int .i64 9)]),u_ 69 (.bin .add (.c (.int .i64 1)) (.t 68)),u_ 70 (.fad 7 (.t 6)),(⟨none,.st 1 (.t 70) (.t 69),none⟩,⟨.n,[]⟩)]) (.fin (.dreg 0 [qn 71 (.fad 7 (.t 6)),qn 72 (.ld (.t 71)),qn 73 (.mv (.t 0)),((⟨some 74,.call (.c (.fn 13 [] [])) [.t 73,.c (.int .i64 6)],none⟩,.ef [1]),⟨.n,[]⟩),qn 75 (.bin .add (.t 72) (.t 74)),qn 76 (.fad 8 (.t 6)),((⟨none,.st 1 (.t 76) (.t 75),none⟩,.ef []),⟨.n,[]⟩)]) [] [] [4,6] [(4,4),(6,6)])) (.fin .skip [] [] [4,6] [(4,4),(6,6)])) [] [] [4,6] [(4,4),(6,6)]
def qm:zf:=.seq (.reg [u_ 77 (.ldn 10 (.t 6)),(⟨none,.st 10 (.t 4) (.t 77),none⟩,⟨.n,[]⟩)]) .ret
def xl:zf:=.seq (.reg [u_ 16 (.mv (.t 0)),u_ 17 (.call (.c (.fn 13 [] [])) [.t 16,.c (.int .i64 9)]),u_ 18 (.bin .add (.c (.int .i64 1)) (.t 17)),u_ 19 (.mv (.t 5)),u_ 20 (.mv (.t 1)),u_ 21 (.mv (.t 0)),u_ 22 (.call (.c (.fn 13 [] [])) [.t 21,.c (.int .i64 3)]),u_ 23 (.bin .add (.c (.int .i64 1)) (.t 22)),u_ 24 (.build [.int .i64 0,.int .i64 0,.int .i64 0,.int .i64 0,.int .i64 0,.int .i64 0,.nils,.int .i64 0,.int .i64 0,.str []] [(0,1,.t 18),(1,1,.t 19),(2,1,.t 20),(3,1,.t 23)]),(⟨some 6,.newc [.int .i64 0,.int .i64 0,.int .i64 0,.int .i64 0,.int .i64 0,.int .i64 0,.nils,.int .i64 0,.int .i64 0,.str []],none⟩,⟨.s 10,[]⟩),(⟨none,.st 10 (.t 6) (.t 24),none⟩,⟨.n,[]⟩)]) (.seq (.seq (.reg [u_ 25 (.fad 0 (.t 6)),u_ 26 (.ld (.t 25))]) (.block 0 (.seq (.reg [u_ 28 (.bin .eql (.t 26) (.c (.int .i64 2))),u_ 27 (.mv (.t 28))]) (.fin (.cond (.t 27) (.fin (.reg [u_ 29 (.mv (.t 0)),u_ 30 (.call (.c (.fn 13 [] [])) [.t 29,.c (.int .i64 20)]),u_ 31 (.mv (.t 0)),u_ 32 (.call (.c (.fn 13 [] [])) [.t 31,.c (.int .i64 25)]),u_ 33 (.mv (.t 0)),u_ 34 (.call (.c (.fn 21 [] [])) [.t 33]),u_ 35 (.mv (.t 0)),u_ 36 (.call (.c (.fn 13 [] [])) [.t 35,.c (.int .i64 9)]),u_ 37 (.fad 4 (.t 6)),(⟨none,.st 1 (.t 37) (.t 30),none⟩,⟨.n,[]⟩),u_ 38 (.fad 5 (.t 6)),(⟨none,.st 1 (.t 38) (.t 32),none⟩,⟨.n,[]⟩),u_ 39 (.fad 6 (.t 6)),(⟨none,.st 1 (.t 39) (.t 34),none⟩,⟨.n,[]⟩),u_ 40 (.fad 7 (.t 6)),(⟨none,.st 1 (.t 40) (.t 36),none⟩,⟨.n,[]⟩)]) [] [] [4,6] [(4,4),(6,6)]) (.seq (.reg [u_ 42 (.bin .eql (.t 26) (.c (.int .i64 5))),u_ 41 (.mv (.t 42))]) (.fin (.cond (.t 41) (.fin (.reg [u_ 43 (.mv (.t 0)),u_ 44 (.call (.c (.fn 13 [] [])) [.t 43,.c (.int .i64 20)]),u_ 45 (.mv (.t 0)),u_ 46 (.call (.c (.fn 13 [] [])) [.t 45,.c (.int .i64 25)]),u_ 47 (.mv (.t 0)),u_ 48 (.call (.c (.fn 21 [] [])) [.t 47]),u_ 49 (.mv (.t 0)),u_ 50 (.call (.c (.fn 13 [] [])) [.t 49,.c (.int .i64 12)]),u_ 51 (.fad 4 (.t 6)),(⟨none,.st 1 (.t 51) (.t 44),none⟩,⟨.n,[]⟩),u_ 52 (.fad 5 (.t 6)),(⟨none,.st 1 (.t 52) (.t 46),none⟩,⟨.n,[]⟩),u_ 53 (.fad 6 (.t 6)),(⟨none,.st 1 (.t 53) (.t 48),none⟩,⟨.n,[]⟩),u_ 54 (.fad 8 (.t 6)),(⟨none,.st 1 (.t 54) (.t 50),none⟩,⟨.n,[]⟩)]) [] [] [4,6] [(4,4),(6,6)]) (.seq (.reg [u_ 56 (.bin .eql (.t 26) (.c (.int .i64 7))),u_ 55 (.mv (.t 56))]) (.fin (.cond (.t 55) (.fin (.reg [u_ 57 (.mv (.t 0)),u_ 58 (.call (.c (.fn 13 [] [])) [.t 57,.c (.int .i64 12)]),u_ 59 (.bin .add (.c (.int .i64 1)) (.t 58)),u_ 60 (.mv (.t 0)),u_ 61 (.call (.c (.fn 47 [] [])) [.t 60]),u_ 62 (.fad 7 (.t 6)),(⟨none,.st 1 (.t 62) (.t 59),none⟩,⟨.n,[]⟩),u_ 63 (.fad 9 (.t 6)),(⟨none,.st 1 (.t 63) (.t 61),none⟩,⟨.n,[]⟩)]) [] [] [4,6] [(4,4),(6,6)]) (.seq (.seq (.reg [u_ 65 (.bin .eql (.t 26) (.c (.int .i64 8))),u_ 64 (.mv (.t 65))]) (.cond (.t 64) (.fin .skip [] [] [0,4,6,64] [(4,4),(6,6)]) (.fin (.reg [u_ 66 (.bin .eql (.t 26) (.c (.int .i64 9))),u_ 64 (.mv (.t 66))]) [] [] [0,4,6,64] [(4,4),(6,6)]))) ql)) [] [] [4,6] [(4,4),(6,6)]))) [] [] [4,6] [(4,4),(6,6)]))) [] [] [4,6] [(4,4),(6,6)])))) qm)
def vy:zf:=.seq (.reg [(⟨some 4,.newc [.int .i64 0,.int .i64 0,.int .i64 0,.int .i64 0,.int .i64 0,.int .i64 0,.nils,.int .i64 0,.int .i64 0,.str []],none⟩,⟨.s 10,[]⟩)]) (.seq (.reg [u_ 7 (.mv (.t 0)),u_ 8 (.call (.c (.fn 13 [] [])) [.t 7,.c (.int .i64 8)]),u_ 9 (.bin .add (.c (.int .i64 1)) (.t 8)),u_ 5 (.mv (.t 9))]) (.seq (.seq (.reg [u_ 10 (.mv (.t 5)),u_ 11 (.mv (.t 1)),u_ 12 (.bin .eql (.t 10) (.t 11))]) (.cond (.t 12) (.fin (.reg [u_ 13 (.mv (.t 1)),u_ 14 (.bin .rem (.t 13) (.c (.int .i64 8))),u_ 15 (.bin .add (.c (.int .i64 1)) (.t 14)),u_ 5 (.mv (.t 15))]) [] [] [0,1,4,5] [(4,4)]) (.fin .skip [] [] [0,1,4,5] [(4,4)]))) xl))
def yN:PFn:=⟨78,[],vy,[.cell 4 (some 10)],[.n]⟩
def q8:zf:=.fin (.reg [u_ 12 (.mv (.t 4)),u_ 13 (.bin .sub (.t 12) (.c (.int .i64 1))),u_ 4 (.mv (.t 13))]) [] [] [0,3,4] []
def zP:zf:=.seq (.seq (.reg [u_ 10 (.mv (.t 4)),u_ 11 (.bin .gtr (.t 10) (.c (.int .i64 0)))]) (.cond (.t 11) .skip (.keep [3] [] (.exit 0)))) (.seq (.block 1 (.seq (.reg [u_ 15 (.mv (.t 3)),u_ 16 (.mv (.t 0)),u_ 17 (.call (.c (.fn 13 [] [])) [.t 16,.c (.int .i64 7)]),u_ 18 (.bin .add (.c (.int .i64 2)) (.t 17)),u_ 19 (.call (.c (.fn 35 [] [])) [.t 15,.t 18]),u_ 14 (.mv (.t 19)),u_ 20 (.ext (.t 14) 0),u_ 21 (.ext (.t 14) 1),u_ 5 (.mv (.t 20)),u_ 6 (.mv (.t 21))]) (.seq (.reg [u_ 22 (.mv (.t 6))]) (.fin (.cond (.t 22) (.fin (.reg [u_ 23 (.mv (.t 5)),u_ 3 (.mv (.t 23))]) [] [] [0,3,4] []) (.fin .skip [] [] [0,3,4] [])) [] [] [0,3,4] [])))) q8)
def q9:zf:=.seq (.reg [u_ 24 (.mv (.t 3)),u_ 2 (.mv (.t 24))]) .ret
def v7:zf:=.seq (.reg [u_ 2 (.mv (.c .nils))]) (.seq (.reg [(⟨some 7,.bsl 1 [.int .i64 0] 1 [(0,1,.c (.int .i64 1))],none⟩,⟨.s 1,[]⟩),u_ 3 (.mv (.t 7))]) (.seq (.seq (.reg [u_ 8 (.mv (.t 0)),u_ 9 (.call (.c (.fn 13 [] [])) [.t 8,.c (.int .i64 4)]),u_ 4 (.mv (.t 9))]) (.block 0 (.frz [3] (.keep [0,3,4] [] (.loop zP))))) q9))
def yD:PFn:=⟨25,[],v7,[.tmp 2],[.f 1]⟩
def wc:zf:=.seq (.dreg 0 [qn 115 (.mv (.t 8)),qn 116 (.nck (.t 115)),qn 117 (.fad 0 (.t 116)),qn 118 (.ldn 13 (.t 117)),qn 119 (.mv (.t 8)),qn 120 (.nck (.t 119)),qn 121 (.fad 13 (.t 120)),qn 122 (.ld (.t 121)),((⟨none,.st 13 (.t 6) (.t 118),none⟩,.ef [7]),⟨.n,[]⟩),qn 7 (.mv (.t 122))]) (.hf 7 10 .ret)
def wd:zf:=.seq (.seq (.reg [u_ 73 (.fad 0 (.t 4)),u_ 74 (.ld (.t 73))]) (.block 0 (.seq (.reg [u_ 76 (.bin .eql (.t 74) (.c (.int .i64 1))),u_ 75 (.mv (.t 76))]) (.fin (.cond (.t 75) (.fin (.reg [u_ 77 (.mv (.t 8)),u_ 78 (.ldn 10 (.t 4)),u_ 79 (.mv (.t 2)),u_ 80 (.call (.c (.fn 49 [] [])) [.t 77,.t 78,.t 79])]) [] [] [6,8] [(6,6)]) (.seq (.reg [u_ 82 (.bin .eql (.t 74) (.c (.int .i64 2))),u_ 81 (.mv (.t 82))]) (.fin (.cond (.t 81) (.fin (.reg [u_ 83 (.mv (.t 8)),u_ 84 (.ldn 10 (.t 4)),u_ 85 (.call (.c (.fn 50 [] [])) [.t 83,.t 84])]) [] [] [6,8] [(6,6)]) (.seq (.reg [u_ 87 (.bin .eql (.t 74) (.c (.int .i64 3))),u_ 86 (.mv (.t 87))]) (.fin (.cond (.t 86) (.fin (.reg [u_ 88 (.mv (.t 8)),u_ 89 (.ldn 10 (.t 4)),u_ 90 (.call (.c (.fn 51 [] [])) [.t 88,.t 89])]) [] [] [6,8] [(6,6)]) (.seq (.reg [u_ 92 (.bin .eql (.t 74) (.c (.int .i64 4))),u_ 91 (.mv (.t 92))]) (.fin (.cond (.t 91) (.fin (.reg [u_ 93 (.mv (.t 8)),u_ 94 (.ldn 10 (.t 4)),u_ 95 (.call (.c (.fn 52 [] [])) [.t 93,.t 94])]) [] [] [6,8] [(6,6)]) (.seq (.reg [u_ 97 (.bin .eql (.t 74) (.c (.int .i64 5))),u_ 96 (.mv (.t 97))]) (.fin (.cond (.t 96) (.fin (.reg [u_ 98 (.mv (.t 8)),u_ 99 (.ldn 10 (.t 4)),u_ 100 (.call (.c (.fn 53 [] [])) [.t 98,.t 99])]) [] [] [6,8] [(6,6)]) (.seq (.reg [u_ 102 (.bin .eql (.t 74) (.c (.int .i64 6))),u_ 101 (.mv (.t 102))]) (.fin (.cond (.t 101) (.fin (.dreg 0 [qn 103 (.mv (.t 8)),qn 104 (.mv (.t 8)),qn 105 (.nck (.t 104)),qn 106 (.fad 0 (.t 105)),qn 107 (.fad 12 (.t 106)),qn 108 (.ld (.t 107)),qn 109 (.fad 1 (.t 4)),qn 110 (.ld (.t 109)),((⟨some 111,.call (.c (.fn 54 [] [])) [.t 108,.t 110],none⟩,.ef []),⟨.n,[]⟩),qn 112 (.nck (.t 103)),qn 113 (.fad 0 (.t 112)),qn 114 (.fad 12 (.t 113)),((⟨none,.st 1 (.t 114) (.t 111),none⟩,.ef []),⟨.n,[]⟩)]) [] [] [6,8] [(6,6)]) (.fin .skip [] [] [6,8] [(6,6)])) [] [] [6,8] [(6,6)]))) [] [] [6,8] [(6,6)]))) [] [] [6,8] [(6,6)]))) [] [] [6,8] [(6,6)]))) [] [] [6,8] [(6,6)]))) [] [] [6,8] [(6,6)])))) wc
def W9:zf:=.seq (.reg [(⟨some 3,.box (.t 0),none⟩,⟨.s 13,[]⟩),(⟨some 4,.box (.t 1),none⟩,⟨.s 10,[]⟩),(⟨some 6,.newc [.int .i64 0,.int .i64 0,.int .i64 0,.int .i64 0,.int .i64 0,.int .i64 0,.nils,.int .i64 0,.int .i64 0,.int .i64 0,.int .i64 0,.int .i64 0,.nils],none⟩,⟨.s 13,[]⟩),u_ 7 (.mv (.c .nils))]) (.seq (.reg [u_ 9 (.ldn 13 (.t 3)),u_ 10 (.call (.c (.fn 38 [] [])) [.t 9]),u_ 8 (.mv (.t 10))]) (.seq (.seq (.dreg 0 [qn 11 (.mv (.t 8)),qn 12 (.nck (.t 11)),qn 13 (.fad 0 (.t 12)),qn 14 (.fad 12 (.t 13)),qn 15 (.ld (.t 14)),qn 16 (.fad 1 (.t 4)),qn 17 (.ld (.t 16)),qn 18 (.fad 3 (.t 4)),qn 19 (.ld (.t 18)),((⟨some 20,.call (.c (.fn 48 [] [])) [.t 15,.t 17,.t 19],none⟩,.ef []),⟨.n,[]⟩),qn 21 (.mv (.t 20)),qg 22 21 false (.fad 1 (.t 4)),qg 23 21 false (.ld (.t 22)),qg 24 21 false (.mv (.t 8)),qg 25 21 false (.nck (.t 24)),qg 26 21 false (.fad 0 (.t 25)),qg 27 21 false (.fad 3 (.t 26)),qg 28 21 false (.ld (.t 27)),qg 29 21 false (.bin .eql (.t 23) (.t 28)),qg 30 21 false (.mv (.t 29)),qg 31 30 true (.fad 3 (.t 4)),qg 32 30 true (.ld (.t 31)),qg 33 30 true (.mv (.t 8)),qg 34 30 true (.nck (.t 33)),qg 35 30 true (.fad 0 (.t 34)),qg 36 30 true (.fad 4 (.t 35)),qg 37 30 true (.ld (.t 36)),qg 38 30 true (.bin .lss (.t 32) (.t 37)),qg 39 21 false (.pick (.t 30) (.t 38) (.c (.bool false))),qn 40 (.pick (.t 21) (.c (.bool true)) (.t 39))]) (.cond (.t 40) (.seq (.reg [u_ 41 (.mv (.t 8)),u_ 42 (.nck (.t 41)),u_ 43 (.fad 0 (.t 42)),u_ 44 (.ldn 13 (.t 43)),(⟨none,.st 13 (.t 6) (.t 44),none⟩,⟨.n,[]⟩),u_ 7 (.mv (.c .nils))]) .ret) .skip)) (.seq (.seq (.dreg 0 [qn 45 (.mv (.t 8)),qn 46 (.nck (.t 45)),qn 47 (.fad 0 (.t 46)),qn 48 (.fad 3 (.t 47)),qn 49 (.ld (.t 48)),qn 50 (.bin .neq (.t 49) (.c (.int .i64 0))),qn 51 (.mv (.t 50)),qg 52 51 true (.fad 1 (.t 4)),qg 53 51 true (.ld (.t 52)),qg 54 51 true (.mv (.t 8)),qg 55 51 true (.nck (.t 54)),qg 56 51 true (.fad 0 (.t 55)),qg 57 51 true (.fad 3 (.t 56)),qg 58 51 true (.ld (.t 57)),qg 59 51 true (.bin .eql (.t 53) (.t 58)),qn 60 (.pick (.t 51) (.t 59) (.c (.bool false))),qn 61 (.mv (.t 60)),qg 62 61 true (.fad 3 (.t 4)),qg 63 61 true (.ld (.t 62)),qg 64 61 true (.mv (.t 8)),qg 65 61 true (.nck (.t 64)),qg 66 61 true (.fad 0 (.t 65)),qg 67 61 true (.fad 4 (.t 66)),qg 68 61 true (.ld (.t 67)),qg 69 61 true (.bin .gtr (.t 63) (.t 68)),qn 70 (.pick (.t 61) (.t 69) (.c (.bool false)))]) (.cond (.t 70) (.fin (.reg [u_ 71 (.mv (.t 8)),u_ 72 (.call (.c (.fn 40 [] [])) [.t 71,.c (.int .i64 0)])]) [] [] [2,4,6,8] [(4,4),(6,6)]) (.fin .skip [] [] [2,4,6,8] [(4,4),(6,6)]))) wd)))
def vz:PFn:=⟨123,[],W9,[.cell 6 (some 13),.tmp 7],[.n,.f 10]⟩
def Wa:zf:=.seq (.reg [(⟨some 1,.box (.t 0),none⟩,⟨.s 13,[]⟩),u_ 2 (.mv (.c (.bool false)))]) (.seq (.reg [u_ 3 (.fad 0 (.t 1)),u_ 4 (.ld (.t 3)),u_ 5 (.bin .eql (.t 4) (.c (.int .i64 1))),u_ 6 (.mv (.t 5)),ug 7 6 false (.fad 3 (.t 1)),ug 8 6 false (.ld (.t 7)),ug 9 6 false (.bin .neq (.t 8) (.c (.int .i64 0))),ug 10 6 false (.mv (.t 9)),ug 11 10 true (.fad 2 (.t 1)),ug 12 10 true (.ld (.t 11)),ug 13 10 true (.fad 8 (.t 1)),ug 14 10 true (.ld (.t 13)),ug 15 10 true (.bin .sub (.t 12) (.t 14)),ug 16 10 true (.bin .leq (.t 15) (.c (.int .i64 20))),ug 17 6 false (.pick (.t 10) (.t 16) (.c (.bool false))),u_ 18 (.pick (.t 6) (.c (.bool true)) (.t 17)),u_ 2 (.mv (.t 18))]) .ret)
def vA:PFn:=⟨19,[],Wa,[.tmp 2],[.n]⟩
def z14:zf:=.seq (.reg [u_ 28 (.bin .lss (.t 27) (.t 26))]) (.seq (.cond (.t 28) .skip (.keep [3] [] (.exit 0))) (.seq (.block 1 (.seq (.reg [u_ 29 (.iad 3 (.t 25) (.t 27)),u_ 30 (.ldn 3 (.t 29)),(⟨some 5,.newc [.int .i64 0,.int .i64 0,.int .i64 0],none⟩,⟨.s 3,[]⟩),(⟨none,.st 3 (.t 5) (.t 30),none⟩,⟨.n,[]⟩)]) (.reg [u_ 31 (.mv (.t 3)),u_ 32 (.fad 0 (.t 5)),u_ 33 (.ld (.t 32)),u_ 34 (.call (.c (.fn 61 [] [])) [.t 31,.c (.int .i64 3),.t 33,.c (.int .i64 0)])]))) (.fin (.reg [u_ 35 (.bin .add (.t 27) (.c (.int .i64 1))),u_ 27 (.mv (.t 35))]) [] [] [3,25,26,27] [])))
def z15:zf:=.seq (.reg [u_ 36 (.mv (.t 3)),u_ 37 (.nck (.t 36)),u_ 38 (.fad 13 (.t 37)),u_ 39 (.ld (.t 38)),u_ 2 (.mv (.t 39))]) (.hf 2 10 .ret)
def z16:zf:=.seq (.seq (.reg [u_ 21 (.mv (.t 3)),u_ 22 (.nck (.t 21)),u_ 23 (.fad 0 (.t 22)),u_ 24 (.fad 12 (.t 23)),u_ 25 (.ld (.t 24)),u_ 26 (.len (.t 25)),u_ 27 (.mv (.c (.int .i64 0)))]) (.block 0 (.keep [3,25,26,27] [] (.loop z14)))) z15
def z3A:zf:=.seq (.reg [(⟨some 1,.box (.t 0),none⟩,⟨.s 13,[]⟩),u_ 2 (.mv (.c .nils))]) (.seq (.reg [u_ 6 (.ldn 13 (.t 1)),u_ 7 (.call (.c (.fn 38 [] [])) [.t 6]),u_ 3 (.mv (.t 7))]) (.seq (.seq (.reg [u_ 8 (.mv (.t 3)),u_ 9 (.nck (.t 8)),u_ 10 (.fad 0 (.t 9)),u_ 11 (.fad 3 (.t 10)),u_ 12 (.ld (.t 11)),u_ 13 (.bin .neq (.t 12) (.c (.int .i64 0)))]) (.cond (.t 13) (.fin (.reg [u_ 14 (.mv (.t 3)),u_ 15 (.mv (.t 3)),u_ 16 (.nck (.t 15)),u_ 17 (.fad 0 (.t 16)),u_ 18 (.fad 3 (.t 17)),u_ 19 (.ld (.t 18)),u_ 20 (.call (.c (.fn 61 [] [])) [.t 14,.c (.int .i64 6),.t 19,.c (.int .i64 0)])]) [] [] [3] []) (.fin .skip [] [] [3] []))) z16))
def Z3:PFn:=⟨40,[],z3A,[.tmp 2],[.f 10]⟩
def y7:zf:=.seq (.seq (.reg [u_ 18 (.mv (.t 3)),u_ 19 (.mv (.t 0)),u_ 20 (.len (.t 19)),u_ 21 (.bin .lss (.t 18) (.t 20))]) (.cond (.t 21) .skip (.keep [] [] (.exit 0)))) (.seq (.block 1 (.seq (.dreg 0 [qn 24 (.mv (.t 0)),qn 25 (.mv (.t 3)),qn 26 (.iad 1 (.t 24) (.t 25)),qn 27 (.ld (.t 26)),qn 28 (.bin .lss (.t 27) (.c (.int .i64 1))),qn 29 (.mv (.t 28)),qg 30 29 false (.mv (.t 0)),qg 31 29 false (.mv (.t 3)),qg 32 29 false (.iad 1 (.t 30) (.t 31)),qg 33 29 false (.ld (.t 32)),qg 34 29 false (.bin .gtr (.t 33) (.c (.int .i64 8))),qn 35 (.pick (.t 29) (.c (.bool true)) (.t 34)),qn 36 (.mv (.t 35)),qg 37 36 false (.mv (.t 0)),qg 38 36 false (.mv (.t 3)),qg 39 36 false (.slc 1 (.t 37) none (some (.t 38)) none),qg 40 36 false (.mv (.t 0)),qg 41 36 false (.mv (.t 3)),qg 42 36 false (.iad 1 (.t 40) (.t 41)),qg 43 36 false (.ld (.t 42)),((⟨some 44,.call (.c (.fn 32 [] [])) [.t 39,.t 43],some (36,false)⟩,.ef []),⟨.n,[]⟩),qn 45 (.pick (.t 36) (.c (.bool true)) (.t 44))]) (.cond (.t 45) (.seq (.reg [u_ 2 (.mv (.c (.bool false)))]) (.keep [2] [] .ret)) .skip))) (.fin (.reg [u_ 22 (.mv (.t 3)),u_ 23 (.bin .add (.t 22) (.c (.int .i64 1))),u_ 3 (.mv (.t 23))]) [] [] [0,3] []))
def qX:zf:=.seq (.reg [u_ 2 (.mv (.c (.bool true)))]) .ret
def wz:zf:=.seq (.reg [u_ 2 (.mv (.c (.bool false)))]) (.seq (.seq (.reg [u_ 4 (.mv (.t 0)),u_ 5 (.len (.t 4)),u_ 6 (.bin .lss (.t 5) (.c (.int .i64 1))),u_ 7 (.mv (.t 6)),ug 8 7 false (.mv (.t 0)),ug 9 7 false (.len (.t 8)),ug 10 7 false (.bin .gtr (.t 9) (.c (.int .i64 10))),u_ 11 (.pick (.t 7) (.c (.bool true)) (.t 10)),u_ 12 (.mv (.t 11)),ug 13 12 false (.mv (.t 0)),ug 14 12 false (.iad 1 (.t 13) (.c (.int .i64 0))),ug 15 12 false (.ld (.t 14)),ug 16 12 false (.bin .neq (.t 15) (.c (.int .i64 1))),u_ 17 (.pick (.t 12) (.c (.bool true)) (.t 16))]) (.cond (.t 17) (.seq (.reg [u_ 2 (.mv (.c (.bool false)))]) .ret) .skip)) (.seq (.seq (.reg [u_ 3 (.mv (.c (.int .i64 0)))]) (.block 0 (.keep [0,3] [] (.loop y7)))) qX))
def xc:PFn:=⟨46,[],wz,[.tmp 2],[.n]⟩
def y8:zf:=.seq (.seq (.reg [u_ 5 (.mv (.t 3)),u_ 6 (.mv (.t 0)),u_ 7 (.len (.t 6)),u_ 8 (.bin .lss (.t 5) (.t 7))]) (.cond (.t 8) .skip (.keep [] [] (.exit 0)))) (.seq (.block 1 (.seq (.reg [u_ 11 (.mv (.t 0)),u_ 12 (.mv (.t 3)),u_ 13 (.iad 3 (.t 11) (.t 12)),u_ 14 (.ldn 3 (.t 13)),(⟨some 4,.newc [.int .i64 0,.int .i64 0,.int .i64 0],none⟩,⟨.s 3,[]⟩),(⟨none,.st 3 (.t 4) (.t 14),none⟩,⟨.n,[]⟩)]) (.seq (.dreg 0 [qn 15 (.fad 0 (.t 4)),qn 16 (.ld (.t 15)),qn 17 (.bin .lss (.t 16) (.c (.int .i64 1))),qn 18 (.mv (.t 17)),qg 19 18 false (.fad 0 (.t 4)),qg 20 18 false (.ld (.t 19)),qg 21 18 false (.bin .gtr (.t 20) (.c (.int .i64 8))),qn 22 (.pick (.t 18) (.c (.bool true)) (.t 21)),qn 23 (.mv (.t 22)),qg 24 23 false (.fad 1 (.t 4)),qg 25 23 false (.ld (.t 24)),qg 26 23 false (.bin .lss (.t 25) (.c (.int .i64 1))),qn 27 (.pick (.t 23) (.c (.bool true)) (.t 26)),qn 28 (.mv (.t 27)),qg 29 28 false (.fad 1 (.t 4)),qg 30 28 false (.ld (.t 29)),qg 31 28 false (.bin .gtr (.t 30) (.c (.int .i64 1073741824))),qn 32 (.pick (.t 28) (.c (.bool true)) (.t 31)),qn 33 (.mv (.t 32)),qg 34 33 false (.fad 2 (.t 4)),qg 35 33 false (.ld (.t 34)),qg 36 33 false (.bin .lss (.t 35) (.c (.int .i64 0))),qn 37 (.pick (.t 33) (.c (.bool true)) (.t 36)),qn 38 (.mv (.t 37)),qg 39 38 false (.fad 2 (.t 4)),qg 40 38 false (.ld (.t 39)),qg 41 38 false (.bin .gtr (.t 40) (.c (.int .i64 1073741824))),qn 42 (.pick (.t 38) (.c (.bool true)) (.t 41)),qn 43 (.mv (.t 42)),qg 44 43 false (.mv (.t 3)),qg 45 43 false (.bin .gtr (.t 44) (.c (.int .i64 0))),qg 46 43 false (.mv (.t 45)),qg 47 46 true (.fad 0 (.t 4)),qg 48 46 true (.ld (.t 47)),qg 49 46 true (.mv (.t 0)),qg 50 46 true (.mv (.t 3)),qg 51 46 true (.bin .sub (.t 50) (.c (.int .i64 1))),qg 52 46 true (.iad 3 (.t 49) (.t 51)),qg 53 46 true (.fad 0 (.t 52)),qg 54 46 true (.ld (.t 53)),qg 55 46 true (.bin .leq (.t 48) (.t 54)),qg 56 43 false (.pick (.t 46) (.t 55) (.c (.bool false))),qn 57 (.pick (.t 43) (.c (.bool true)) (.t 56))]) (.cond (.t 57) (.seq (.reg [u_ 2 (.mv (.c (.bool false)))]) (.keep [2] [] .ret)) .skip)))) (.fin (.reg [u_ 9 (.mv (.t 3)),u_ 10 (.bin .add (.t 9) (.c (.int .i64 1))),u_ 3 (.mv (.t 10))]) [] [] [0,3] []))
def qY:zf:=.seq (.reg [u_ 2 (.mv (.c (.bool true)))]) .ret
def wA:zf:=.seq (.reg [u_ 2 (.mv (.c (.bool false)))]) (.seq (.seq (.reg [u_ 3 (.mv (.c (.int .i64 0)))]) (.block 0 (.keep [0,3] [] (.loop y8)))) qY)
def xd:PFn:=⟨58,[],wA,[.tmp 2],[.n]⟩
def qZ:zf:=.fin (.cond (.t 139) (.seq (.dreg 0 [qn 142 (.fad 7 (.t 1)),qn 143 (.ld (.t 142)),qn 144 (.fad 8 (.t 1)),qn 145 (.ld (.t 144)),qn 146 (.fad 7 (.t 3)),((⟨none,.st 1 (.t 146) (.t 143),none⟩,.ef [3]),⟨.n,[]⟩),qn 147 (.fad 8 (.t 3)),((⟨none,.st 1 (.t 147) (.t 145),none⟩,.ef []),⟨.n,[]⟩)]) (.fin (.reg [u_ 148 (.fad 7 (.t 1)),u_ 149 (.ld (.t 148)),u_ 150 (.fad 8 (.t 1)),u_ 151 (.ld (.t 150)),u_ 152 (.build [.int .i64 0,.int .i64 0] [(0,1,.t 149),(1,1,.t 151)]),u_ 153 (.call (.c (.fn 63 [] [])) [.t 152]),u_ 4 (.mv (.t 153))]) [] [] [1,3,4] [(1,1),(3,3)])) (.fin .skip [] [] [1,3,4] [(1,1),(3,3)])) [] [] [1,3,4] [(1,1),(3,3)]
def j3:zf:=.fin (.cond (.t 61) (.seq (.dreg 0 [qn 64 (.fad 4 (.t 1)),qn 65 (.ld (.t 64)),qn 66 (.fad 5 (.t 1)),qn 67 (.ld (.t 66)),qn 68 (.fad 6 (.t 1)),qn 69 (.ld (.t 68)),qn 70 (.fad 4 (.t 3)),((⟨none,.st 1 (.t 70) (.t 65),none⟩,.ef [3,5]),⟨.n,[]⟩),qn 71 (.fad 5 (.t 3)),((⟨none,.st 1 (.t 71) (.t 67),none⟩,.ef [5]),⟨.n,[]⟩),qn 72 (.fad 6 (.t 3)),((⟨none,.st 1 (.t 72) (.t 69),none⟩,.ef []),⟨.n,[]⟩)]) (.seq (.reg [u_ 73 (.fad 4 (.t 1)),u_ 74 (.ld (.t 73)),u_ 75 (.bin .geq (.t 74) (.c (.int .i64 0))),u_ 76 (.mv (.t 75)),ug 77 76 true (.fad 4 (.t 1)),ug 78 76 true (.ld (.t 77)),ug 79 76 true (.bin .leq (.t 78) (.c (.int .i64 1073741824))),u_ 80 (.pick (.t 76) (.t 79) (.c (.bool false))),u_ 81 (.mv (.t 80)),ug 82 81 true (.fad 5 (.t 1)),ug 83 81 true (.ld (.t 82)),ug 84 81 true (.bin .geq (.t 83) (.c (.int .i64 0))),u_ 85 (.pick (.t 81) (.t 84) (.c (.bool false))),u_ 86 (.mv (.t 85)),ug 87 86 true (.fad 5 (.t 1)),ug 88 86 true (.ld (.t 87)),ug 89 86 true (.bin .leq (.t 88) (.c (.int .i64 1073741824))),u_ 90 (.pick (.t 86) (.t 89) (.c (.bool false))),u_ 91 (.mv (.t 90)),ug 92 91 true (.fad 6 (.t 1)),ug 93 91 true (.ld (.t 92)),ug 94 91 true (.call (.c (.fn 29 [] [])) [.t 93]),u_ 95 (.pick (.t 91) (.t 94) (.c (.bool false))),u_ 4 (.mv (.t 95))]) (.seq (.reg [u_ 96 (.fad 0 (.t 1)),u_ 97 (.ld (.t 96)),u_ 98 (.bin .eql (.t 97) (.c (.int .i64 2)))]) (.fin (.cond (.t 98) (.seq (.reg [u_ 99 (.fad 7 (.t 1)),u_ 100 (.ld (.t 99)),u_ 101 (.fad 7 (.t 3)),(⟨none,.st 1 (.t 101) (.t 100),none⟩,⟨.n,[]⟩)]) (.fin (.reg [u_ 102 (.mv (.t 4)),u_ 103 (.mv (.t 102)),ug 104 103 true (.fad 7 (.t 1)),ug 105 103 true (.ld (.t 104)),ug 106 103 true (.call (.c (.fn 62 [] [])) [.t 105]),u_ 107 (.pick (.t 103) (.t 106) (.c (.bool false))),u_ 4 (.mv (.t 107))]) [] [] [1,3,4] [(1,1),(3,3)])) (.seq (.reg [u_ 108 (.fad 8 (.t 1)),u_ 109 (.ld (.t 108)),u_ 110 (.fad 8 (.t 3)),(⟨none,.st 1 (.t 110) (.t 109),none⟩,⟨.n,[]⟩)]) (.fin (.reg [u_ 111 (.mv (.t 4)),u_ 112 (.mv (.t 111)),ug 113 112 true (.fad 8 (.t 1)),ug 114 112 true (.ld (.t 113)),ug 115 112 true (.call (.c (.fn 62 [] [])) [.t 114]),u_ 116 (.pick (.t 112) (.t 115) (.c (.bool false))),u_ 4 (.mv (.t 116))]) [] [] [1,3,4] [(1,1),(3,3)]))) [] [] [1,3,4] [(1,1),(3,3)])))) (.seq (.reg [u_ 118 (.bin .eql (.t 60) (.c (.int .i64 7))),u_ 117 (.mv (.t 118))]) (.fin (.cond (.t 117) (.seq (.dreg 0 [qn 119 (.fad 7 (.t 1)),qn 120 (.ld (.t 119)),qn 121 (.fad 9 (.t 1)),qn 122 (.ld (.t 121)),qn 123 (.fad 7 (.t 3)),((⟨none,.st 1 (.t 123) (.t 120),none⟩,.ef [3]),⟨.n,[]⟩),qn 124 (.fad 9 (.t 3)),((⟨none,.st 1 (.t 124) (.t 122),none⟩,.ef []),⟨.n,[]⟩)]) (.fin (.reg [u_ 125 (.fad 7 (.t 1)),u_ 126 (.ld (.t 125)),u_ 127 (.bin .geq (.t 126) (.c (.int .i64 1))),u_ 128 (.mv (.t 127)),ug 129 128 true (.fad 7 (.t 1)),ug 130 128 true (.ld (.t 129)),ug 131 128 true (.call (.c (.fn 62 [] [])) [.t 130]),u_ 132 (.pick (.t 128) (.t 131) (.c (.bool false))),u_ 133 (.mv (.t 132)),ug 134 133 true (.fad 9 (.t 1)),ug 135 133 true (.ld (.t 134)),ug 136 133 true (.lens (.t 135)),ug 137 133 true (.bin .leq (.t 136) (.c (.int .i64 12))),u_ 138 (.pick (.t 133) (.t 137) (.c (.bool false))),u_ 4 (.mv (.t 138))]) [] [] [1,3,4] [(1,1),(3,3)])) (.seq (.seq (.reg [u_ 140 (.bin .eql (.t 60) (.c (.int .i64 8))),u_ 139 (.mv (.t 140))]) (.cond (.t 139) (.fin .skip [] [] [1,3,4,139] [(1,1),(3,3)]) (.fin (.reg [u_ 141 (.bin .eql (.t 60) (.c (.int .i64 9))),u_ 139 (.mv (.t 141))]) [] [] [1,3,4,139] [(1,1),(3,3)]))) qZ)) [] [] [1,3,4] [(1,1),(3,3)]))) [] [] [1,3,4] [(1,1),(3,3)]
def j4:zf:=.seq (.reg [u_ 154 (.mv (.t 4)),u_ 155 (.mv (.t 154)),ug 156 155 true (.ldn 10 (.t 3)),ug 157 155 true (.ldn 10 (.t 1)),ug 158 155 true (.call (.c (.fn 60 [] [])) [.t 156,.t 157]),u_ 159 (.pick (.t 155) (.t 158) (.c (.bool false))),u_ 2 (.mv (.t 159))]) .ret
def wB:zf:=.seq (.reg [(⟨some 1,.box (.t 0),none⟩,⟨.s 10,[]⟩),u_ 2 (.mv (.c (.bool false)))]) (.seq (.seq (.reg [u_ 5 (.fad 0 (.t 1)),u_ 6 (.ld (.t 5)),u_ 7 (.bin .lss (.t 6) (.c (.int .i64 1))),u_ 8 (.mv (.t 7)),ug 9 8 false (.fad 0 (.t 1)),ug 10 8 false (.ld (.t 9)),ug 11 8 false (.bin .gtr (.t 10) (.c (.int .i64 9))),u_ 12 (.pick (.t 8) (.c (.bool true)) (.t 11)),u_ 13 (.mv (.t 12)),ug 14 13 false (.fad 1 (.t 1)),ug 15 13 false (.ld (.t 14)),ug 16 13 false (.bin .lss (.t 15) (.c (.int .i64 1))),u_ 17 (.pick (.t 13) (.c (.bool true)) (.t 16)),u_ 18 (.mv (.t 17)),ug 19 18 false (.fad 1 (.t 1)),ug 20 18 false (.ld (.t 19)),ug 21 18 false (.bin .gtr (.t 20) (.c (.int .i64 8))),u_ 22 (.pick (.t 18) (.c (.bool true)) (.t 21)),u_ 23 (.mv (.t 22)),ug 24 23 false (.fad 2 (.t 1)),ug 25 23 false (.ld (.t 24)),ug 26 23 false (.bin .lss (.t 25) (.c (.int .i64 1))),u_ 27 (.pick (.t 23) (.c (.bool true)) (.t 26)),u_ 28 (.mv (.t 27)),ug 29 28 false (.fad 2 (.t 1)),ug 30 28 false (.ld (.t 29)),ug 31 28 false (.bin .gtr (.t 30) (.c (.int .i64 8))),u_ 32 (.pick (.t 28) (.c (.bool true)) (.t 31)),u_ 33 (.mv (.t 32)),ug 34 33 false (.fad 1 (.t 1)),ug 35 33 false (.ld (.t 34)),ug 36 33 false (.fad 2 (.t 1)),ug 37 33 false (.ld (.t 36)),ug 38 33 false (.bin .eql (.t 35) (.t 37)),u_ 39 (.pick (.t 33) (.c (.bool true)) (.t 38)),u_ 40 (.mv (.t 39)),ug 41 40 false (.fad 3 (.t 1)),ug 42 40 false (.ld (.t 41)),ug 43 40 false (.bin .lss (.t 42) (.c (.int .i64 1))),u_ 44 (.pick (.t 40) (.c (.bool true)) (.t 43)),u_ 45 (.mv (.t 44)),ug 46 45 false (.fad 3 (.t 1)),ug 47 45 false (.ld (.t 46)),ug 48 45 false (.bin .gtr (.t 47) (.c (.int .i64 1073741824))),u_ 49 (.pick (.t 45) (.c (.bool true)) (.t 48))]) (.cond (.t 49) (.seq (.reg [u_ 2 (.mv (.c (.bool false)))]) .ret) .skip)) (.seq (.reg [u_ 50 (.fad 0 (.t 1)),u_ 51 (.ld (.t 50)),u_ 52 (.fad 1 (.t 1)),u_ 53 (.ld (.t 52)),u_ 54 (.fad 2 (.t 1)),u_ 55 (.ld (.t 54)),u_ 56 (.fad 3 (.t 1)),u_ 57 (.ld (.t 56)),u_ 58 (.build [.int .i64 0,.int .i64 0,.int .i64 0,.int .i64 0,.int .i64 0,.int .i64 0,.nils,.int .i64 0,.int .i64 0,.str []] [(0,1,.t 51),(1,1,.t 53),(2,1,.t 55),(3,1,.t 57)]),(⟨some 3,.newc [.int .i64 0,.int .i64 0,.int .i64 0,.int .i64 0,.int .i64 0,.int .i64 0,.nils,.int .i64 0,.int .i64 0,.str []],none⟩,⟨.s 10,[]⟩),(⟨none,.st 10 (.t 3) (.t 58),none⟩,⟨.n,[]⟩)]) (.seq (.reg [u_ 4 (.mv (.c (.bool true)))]) (.seq (.seq (.reg [u_ 59 (.fad 0 (.t 1)),u_ 60 (.ld (.t 59))]) (.block 0 (.seq (.seq (.reg [u_ 62 (.bin .eql (.t 60) (.c (.int .i64 2))),u_ 61 (.mv (.t 62))]) (.cond (.t 61) (.fin .skip [] [] [1,3,4,60,61] [(1,1),(3,3)]) (.fin (.reg [u_ 63 (.bin .eql (.t 60) (.c (.int .i64 5))),u_ 61 (.mv (.t 63))]) [] [] [1,3,4,60,61] [(1,1),(3,3)]))) j3))) j4))))
def xe:PFn:=⟨160,[],wB,[.tmp 2],[.n]⟩
def yK:zf:=.seq (.seq (.reg [u_ 6 (.mv (.t 5)),u_ 7 (.mv (.t 0)),u_ 8 (.len (.t 7)),u_ 9 (.bin .lss (.t 6) (.t 8))]) (.cond (.t 9) .skip (.keep [] [] (.exit 0)))) (.seq (.block 1 (.seq (.reg [u_ 12 (.mv (.t 0)),u_ 13 (.mv (.t 5)),u_ 14 (.iad 1 (.t 12) (.t 13)),u_ 15 (.ld (.t 14)),u_ 16 (.mv (.t 1)),u_ 17 (.bin .eql (.t 15) (.t 16))]) (.cond (.t 17) (.seq (.reg [u_ 4 (.mv (.c (.bool true)))]) (.keep [4] [] .ret)) .skip))) (.fin (.reg [u_ 10 (.mv (.t 5)),u_ 11 (.bin .add (.t 10) (.c (.int .i64 1))),u_ 5 (.mv (.t 11))]) [] [] [0,1,5] []))
def kM:zf:=.seq (.reg [u_ 4 (.mv (.c (.bool false)))]) .ret
def Yl:zf:=.seq (.reg [u_ 4 (.mv (.c (.bool false)))]) (.seq (.seq (.reg [u_ 5 (.mv (.c (.int .i64 0)))]) (.block 0 (.keep [0,1,5] [] (.loop yK)))) kM)
def qd:PFn:=⟨18,[],Yl,[.tmp 4],[.n]⟩
def wC:zf:=.seq (.reg [u_ 4 (.mv (.c .nils)),u_ 5 (.mv (.c (.bool false)))]) (.seq (.reg [(⟨some 7,.bsl 1 [.int .i64 0] 0 [],none⟩,⟨.s 1,[]⟩),u_ 8 (.mv (.t 0)),(⟨some 9,.app 1 8 [.int .i64 0] (.t 7) (.t 8),none⟩,⟨.s 1,[]⟩),u_ 10 (.mv (.t 1)),(⟨some 11,.bsl 1 [.int .i64 0] 1 [(0,1,.t 10)],none⟩,⟨.f,[]⟩),(⟨some 12,.app 1 8 [.int .i64 0] (.t 9) (.t 11),none⟩,⟨.s 1,[]⟩),u_ 6 (.mv (.t 12))]) (.seq (.seq (.reg [u_ 13 (.mv (.t 6)),(⟨some 14,.call (.c (.fn 29 [] [])) [.t 13],none⟩,⟨.l,[]⟩),u_ 15 (.un .not (.t 14))]) (.cond (.t 15) (.seq (.reg [u_ 4 (.mv (.c .nils)),u_ 5 (.mv (.c (.bool false)))]) .ret) .skip)) (.seq (.reg [u_ 16 (.mv (.t 6)),u_ 4 (.mv (.t 16)),u_ 5 (.mv (.c (.bool true)))]) .ret)))
def xf:PFn:=⟨17,[],wC,[.tmp 4,.tmp 5],[.f 1,.n]⟩
def zY:zf:=.seq (.seq (.reg [u_ 11 (.mv (.t 5)),u_ 12 (.mv (.t 0)),u_ 13 (.len (.t 12)),u_ 14 (.bin .lss (.t 11) (.t 13))]) (.cond (.t 14) .skip (.keep [] [] (.exit 0)))) (.seq (.block 1 (.seq (.dreg 0 [qn 17 (.mv (.t 0)),qn 18 (.mv (.t 5)),qn 19 (.iad 1 (.t 17) (.t 18)),qn 20 (.ld (.t 19)),qn 21 (.mv (.t 1)),qn 22 (.mv (.t 5)),qn 23 (.iad 1 (.t 21) (.t 22)),qn 24 (.ld (.t 23)),qn 25 (.bin .neq (.t 20) (.t 24))]) (.cond (.t 25) (.seq (.reg [u_ 4 (.mv (.c (.bool false)))]) (.keep [4] [] .ret)) .skip))) (.fin (.reg [u_ 15 (.mv (.t 5)),u_ 16 (.bin .add (.t 15) (.c (.int .i64 1))),u_ 5 (.mv (.t 16))]) [] [] [0,1,5] []))
def qJ:zf:=.seq (.reg [u_ 4 (.mv (.c (.bool true)))]) .ret
def vP:zf:=.seq (.reg [u_ 4 (.mv (.c (.bool false)))]) (.seq (.seq (.reg [u_ 6 (.mv (.t 0)),u_ 7 (.len (.t 6)),u_ 8 (.mv (.t 1)),u_ 9 (.len (.t 8)),u_ 10 (.bin .neq (.t 7) (.t 9))]) (.cond (.t 10) (.seq (.reg [u_ 4 (.mv (.c (.bool false)))]) .ret) .skip)) (.seq (.seq (.reg [u_ 5 (.mv (.c (.int .i64 0)))]) (.block 0 (.keep [0,1,5] [] (.loop zY)))) qJ))
def yY:PFn:=⟨26,[],vP,[.tmp 4],[.n]⟩
def z3B:zf:=.seq (.reg [(⟨some 1,.box (.t 0),none⟩,⟨.s 13,[]⟩),u_ 2 (.mv (.c .nilp))]) (.seq (.dreg 0 [qn 3 (.fad 6 (.t 1)),qn 4 (.ld (.t 3)),qn 6 (.fad 12 (.t 1)),qn 7 (.ld (.t 6)),((⟨some 5,.call (.c (.fn 64 [] [])) [.t 4],none⟩,.ef [3]),⟨.n,[]⟩),qn 9 (.fad 6 (.t 1)),((⟨some 8,.call (.c (.fn 65 [] [])) [.t 7],none⟩,.ef []),⟨.n,[]⟩),((⟨none,.st 1 (.t 9) (.t 5),none⟩,.ef []),⟨.n,[]⟩),qn 10 (.fad 12 (.t 1)),((⟨none,.st 1 (.t 10) (.t 8),none⟩,.ef []),⟨.n,[]⟩)]) (.seq (.reg [u_ 11 (.ldn 13 (.t 1)),u_ 12 (.build [.int .i64 0,.int .i64 0,.int .i64 0,.int .i64 0,.int .i64 0,.int .i64 0,.nils,.int .i64 0,.int .i64 0,.int .i64 0,.int .i64 0,.int .i64 0,.nils,.nils] [(0,13,.t 11)]),u_ 13 (.box (.t 12)),u_ 2 (.mv (.t 13))]) .ret))
def Ym:PFn:=⟨14,[],z3B,[.tmp 2],[.n]⟩
def Ko:zf:=.seq (.reg [(⟨some 3,.box (.t 1),none⟩,⟨.s 1,[]⟩),u_ 4 (.mv (.c .nils))]) (.seq (.reg [u_ 5 (.mv (.t 0)),(⟨some 6,.call (.c (.fn 65 [] [])) [.t 5],none⟩,⟨.s 3,[]⟩),(⟨some 7,.mkf 67 [] [.t 3],none⟩,⟨.n,[3]⟩),(⟨some 8,.call (.c (.fn 66 [] [])) [.t 6,.t 7],none⟩,⟨.tf 3,[]⟩),u_ 4 (.mv (.t 8))]) .ret)
def kp:PFn:=⟨9,[],Ko,[.tmp 4],[.f 3]⟩
def XG:zf:=.reg [u_ 4 (.mv (.t 0)),u_ 5 (.mv (.t 0)),u_ 6 (.mv (.t 0)),u_ 7 (.mv (.t 0)),u_ 8 (.mv (.t 0)),u_ 9 (.mv (.t 1)),u_ 10 (.nck (.t 4)),u_ 11 (.fad 0 (.t 10)),u_ 12 (.fad 3 (.t 11)),(⟨none,.st 1 (.t 12) (.c (.int .i64 0)),none⟩,⟨.n,[]⟩),u_ 13 (.nck (.t 5)),u_ 14 (.fad 0 (.t 13)),u_ 15 (.fad 4 (.t 14)),(⟨none,.st 1 (.t 15) (.c (.int .i64 0)),none⟩,⟨.n,[]⟩),u_ 16 (.nck (.t 6)),u_ 17 (.fad 0 (.t 16)),u_ 18 (.fad 6 (.t 17)),(⟨none,.st 1 (.t 18) (.c .nils),none⟩,⟨.n,[]⟩),u_ 19 (.nck (.t 7)),u_ 20 (.fad 0 (.t 19)),u_ 21 (.fad 9 (.t 20)),(⟨none,.st 1 (.t 21) (.c (.int .i64 0)),none⟩,⟨.n,[]⟩),u_ 22 (.nck (.t 8)),u_ 23 (.fad 0 (.t 22)),u_ 24 (.fad 11 (.t 23)),(⟨none,.st 1 (.t 24) (.t 9),none⟩,⟨.n,[]⟩)]
def qK:PFn:=⟨25,[],XG,[],[]⟩
def vB:zf:=.seq (.reg [u_ 94 (.mv (.t 0)),u_ 95 (.mv (.t 0)),u_ 96 (.nck (.t 95)),u_ 97 (.fad 0 (.t 96)),u_ 98 (.fad 2 (.t 97)),u_ 99 (.ld (.t 98)),u_ 100 (.bin .add (.t 99) (.c (.int .i64 3))),u_ 101 (.nck (.t 94)),u_ 102 (.fad 0 (.t 101)),u_ 103 (.fad 10 (.t 102)),(⟨none,.st 1 (.t 103) (.t 100),none⟩,⟨.n,[]⟩)]) (.reg [u_ 104 (.mv (.t 0)),u_ 105 (.mv (.t 0)),u_ 106 (.nck (.t 105)),u_ 107 (.fad 0 (.t 106)),u_ 108 (.fad 9 (.t 107)),u_ 109 (.ld (.t 108)),u_ 110 (.call (.c (.fn 61 [] [])) [.t 104,.c (.int .i64 1),.t 109,.c (.int .i64 0)])])
def ju:zf:=.seq (.seq (.reg [u_ 48 (.mv (.t 0)),u_ 49 (.nck (.t 48)),u_ 50 (.fad 0 (.t 49)),u_ 51 (.fad 9 (.t 50)),u_ 52 (.ld (.t 51)),u_ 53 (.bin .neq (.t 52) (.c (.int .i64 0)))]) (.cond (.t 53) .ret .skip)) (.seq (.reg [u_ 54 (.mv (.t 0)),u_ 55 (.nck (.t 54)),u_ 56 (.fad 0 (.t 55)),u_ 57 (.fad 9 (.t 56)),(⟨none,.st 1 (.t 57) (.c (.int .i64 1)),none⟩,⟨.n,[]⟩)]) (.seq (.seq (.dreg 0 [qn 58 (.mv (.t 0)),qn 59 (.nck (.t 58)),qn 60 (.fad 0 (.t 59)),qn 61 (.fad 11 (.t 60)),qn 62 (.ld (.t 61)),qn 63 (.bin .eql (.t 62) (.c (.int .i64 0))),qn 64 (.mv (.t 63)),qg 65 64 true (.mv (.t 0)),qg 66 64 true (.nck (.t 65)),qg 67 64 true (.fad 0 (.t 66)),qg 68 64 true (.fad 5 (.t 67)),qg 69 64 true (.ld (.t 68)),qg 70 64 true (.bin .neq (.t 69) (.c (.int .i64 0))),qn 71 (.pick (.t 64) (.t 70) (.c (.bool false))),qn 72 (.mv (.t 71)),qg 73 72 true (.mv (.t 0)),qg 74 72 true (.nck (.t 73)),qg 75 72 true (.fad 0 (.t 74)),qg 76 72 true (.fad 5 (.t 75)),qg 77 72 true (.ld (.t 76)),qg 78 72 true (.mv (.t 0)),qg 79 72 true (.nck (.t 78)),qg 80 72 true (.fad 0 (.t 79)),qg 81 72 true (.fad 0 (.t 80)),qg 82 72 true (.ld (.t 81)),qg 83 72 true (.bin .neq (.t 77) (.t 82)),qn 84 (.pick (.t 72) (.t 83) (.c (.bool false)))]) (.cond (.t 84) (.fin (.reg [u_ 85 (.mv (.t 0)),u_ 86 (.mv (.t 0)),u_ 87 (.nck (.t 86)),u_ 88 (.fad 0 (.t 87)),u_ 89 (.fad 5 (.t 88)),u_ 90 (.ld (.t 89)),u_ 91 (.nck (.t 85)),u_ 92 (.fad 0 (.t 91)),u_ 93 (.fad 9 (.t 92)),(⟨none,.st 1 (.t 93) (.t 90),none⟩,⟨.n,[]⟩)]) [] [] [0] []) (.fin .skip [] [] [0] []))) vB))
def XH:zf:=.seq (.seq (.reg [u_ 2 (.mv (.t 0)),u_ 3 (.nck (.t 2)),u_ 4 (.fad 0 (.t 3)),u_ 5 (.fad 0 (.t 4)),u_ 6 (.ld (.t 5)),u_ 7 (.bin .eql (.t 6) (.c (.int .i64 1))),u_ 8 (.mv (.t 7)),ug 9 8 false (.mv (.t 0)),ug 10 8 false (.nck (.t 9)),ug 11 8 false (.fad 0 (.t 10)),ug 12 8 false (.fad 3 (.t 11)),ug 13 8 false (.ld (.t 12)),ug 14 8 false (.bin .neq (.t 13) (.c (.int .i64 0))),u_ 15 (.pick (.t 8) (.c (.bool true)) (.t 14))]) (.cond (.t 15) .ret .skip)) (.seq (.seq (.dreg 0 [qn 16 (.mv (.t 0)),qn 17 (.nck (.t 16)),qn 18 (.fad 0 (.t 17)),qn 19 (.fad 9 (.t 18)),qn 20 (.ld (.t 19)),qn 21 (.bin .neq (.t 20) (.c (.int .i64 0))),qn 22 (.mv (.t 21)),qg 23 22 true (.mv (.t 0)),qg 24 22 true (.nck (.t 23)),qg 25 22 true (.fad 0 (.t 24)),qg 26 22 true (.fad 2 (.t 25)),qg 27 22 true (.ld (.t 26)),qg 28 22 true (.mv (.t 0)),qg 29 22 true (.nck (.t 28)),qg 30 22 true (.fad 0 (.t 29)),qg 31 22 true (.fad 10 (.t 30)),qg 32 22 true (.ld (.t 31)),qg 33 22 true (.bin .geq (.t 27) (.t 32)),qn 34 (.pick (.t 22) (.t 33) (.c (.bool false)))]) (.cond (.t 34) (.seq (.reg [u_ 35 (.mv (.t 0)),u_ 36 (.nck (.t 35)),u_ 37 (.fad 0 (.t 36)),u_ 38 (.fad 9 (.t 37)),(⟨none,.st 1 (.t 38) (.c (.int .i64 0)),none⟩,⟨.n,[]⟩)]) (.fin (.reg [u_ 39 (.mv (.t 0)),u_ 40 (.nck (.t 39)),u_ 41 (.fad 0 (.t 40)),u_ 42 (.fad 11 (.t 41)),u_ 43 (.ld (.t 42)),u_ 44 (.bin .add (.t 43) (.c (.int .i64 1))),u_ 45 (.nck (.t 39)),u_ 46 (.fad 0 (.t 45)),u_ 47 (.fad 11 (.t 46)),(⟨none,.st 1 (.t 47) (.t 44),none⟩,⟨.n,[]⟩)]) [] [] [0] [])) (.fin .skip [] [] [0] []))) ju)
def qL:PFn:=⟨111,[],XH,[],[]⟩
def kN:zf:=.fin (.reg [u_ 43 (.bin .add (.t 30) (.c (.int .i64 1))),u_ 30 (.mv (.t 43))]) [] [] [0,28,29,30] []
def yL:zf:=.seq (.reg [u_ 31 (.bin .lss (.t 30) (.t 29))]) (.seq (.cond (.t 31) .skip (.keep [] [] (.exit 0))) (.seq (.block 1 (.seq (.reg [u_ 32 (.iad 3 (.t 28) (.t 30)),u_ 33 (.ldn 3 (.t 32)),(⟨some 3,.newc [.int .i64 0,.int .i64 0,.int .i64 0],none⟩,⟨.s 3,[]⟩),(⟨none,.st 3 (.t 3) (.t 33),none⟩,⟨.n,[]⟩)]) (.seq (.reg [u_ 34 (.mv (.t 0)),u_ 35 (.nck (.t 34)),u_ 36 (.fad 0 (.t 35)),u_ 37 (.ldn 13 (.t 36)),u_ 38 (.call (.c (.fn 25 [] [])) [.t 37])]) (.fin (.cond (.t 38) (.fin (.reg [u_ 39 (.mv (.t 0)),u_ 40 (.fad 0 (.t 3)),u_ 41 (.ld (.t 40)),u_ 42 (.call (.c (.fn 61 [] [])) [.t 39,.c (.int .i64 5),.t 41,.c (.int .i64 0)])]) [] [] [0,28,29,30] []) (.fin .skip [] [] [0,28,29,30] [])) [] [] [0,28,29,30] [])))) kN))
def kO:zf:=.seq (.reg [u_ 24 (.mv (.t 0)),u_ 25 (.nck (.t 24)),u_ 26 (.fad 0 (.t 25)),u_ 27 (.fad 12 (.t 26)),u_ 28 (.ld (.t 27)),u_ 29 (.len (.t 28)),u_ 30 (.mv (.c (.int .i64 0)))]) (.block 0 (.keep [0,28,29,30] [] (.loop yL)))
def Yn:zf:=.seq (.seq (.reg [u_ 4 (.mv (.t 0)),u_ 5 (.nck (.t 4)),u_ 6 (.fad 0 (.t 5)),u_ 7 (.fad 2 (.t 6)),u_ 8 (.ld (.t 7)),u_ 9 (.bin .rem (.t 8) (.c (.int .i64 2))),u_ 10 (.bin .neq (.t 9) (.c (.int .i64 0)))]) (.cond (.t 10) .ret .skip)) (.seq (.seq (.reg [u_ 11 (.mv (.t 0)),u_ 12 (.nck (.t 11)),u_ 13 (.fad 0 (.t 12)),u_ 14 (.fad 3 (.t 13)),u_ 15 (.ld (.t 14)),u_ 16 (.bin .neq (.t 15) (.c (.int .i64 0)))]) (.cond (.t 16) (.fin (.reg [u_ 17 (.mv (.t 0)),u_ 18 (.mv (.t 0)),u_ 19 (.nck (.t 18)),u_ 20 (.fad 0 (.t 19)),u_ 21 (.fad 3 (.t 20)),u_ 22 (.ld (.t 21)),u_ 23 (.call (.c (.fn 61 [] [])) [.t 17,.c (.int .i64 4),.t 22,.c (.int .i64 0)])]) [] [] [0] []) (.fin .skip [] [] [0] []))) kO)
def qe:PFn:=⟨44,[],Yn,[],[]⟩
def v8:zf:=.seq (.reg [u_ 2 (.mv (.c (.str [])))]) (.seq (.reg [(⟨some 3,.bsl 1 [.str []] 5 [(0,1,.c (.str [])),(1,1,.c (.str [97])),(2,1,.c (.str [98,99])),(3,1,.c (.str [104,101,108,108,111])),(4,1,.c (.str [116,119,101,108,118,101,32,98,121,116,101,115]))],none⟩,⟨.f,[]⟩),u_ 4 (.mv (.t 0)),u_ 5 (.call (.c (.fn 13 [] [])) [.t 4,.c (.int .i64 5)]),u_ 6 (.iad 1 (.t 3) (.t 5)),u_ 7 (.ld (.t 6)),u_ 2 (.mv (.t 7))]) .ret)
def yE:PFn:=⟨8,[],v8,[.tmp 2],[.n]⟩
def z0i:zf:=.seq (.reg [u_ 6 (.mv (.c (.bool false)))]) (.seq (.reg [u_ 10 (.mv (.t 0)),u_ 11 (.mv (.t 1)),u_ 12 (.call (.c (.fn 68 [] [])) [.t 10,.t 11]),u_ 9 (.mv (.t 12)),u_ 13 (.ext (.t 9) 0),u_ 14 (.ext (.t 9) 1),(⟨some 7,.newc [.int .i64 0,.int .i64 0,.int .i64 0],none⟩,⟨.s 3,[]⟩),(⟨none,.st 3 (.t 7) (.t 13),none⟩,⟨.n,[]⟩),u_ 8 (.mv (.t 14))]) (.seq (.reg [u_ 15 (.mv (.t 8)),u_ 16 (.mv (.t 15)),ug 17 16 true (.fad 1 (.t 7)),ug 18 16 true (.ld (.t 17)),ug 19 16 true (.mv (.t 2)),ug 20 16 true (.bin .gtr (.t 18) (.t 19)),u_ 21 (.pick (.t 16) (.t 20) (.c (.bool false))),u_ 6 (.mv (.t 21))]) .ret))
def wD:PFn:=⟨22,[],z0i,[.tmp 6],[.n]⟩
def ZM:zf:=.seq (.reg [(⟨some 4,.box (.t 1),none⟩,⟨.s 10,[]⟩)]) (.seq (.seq (.reg [u_ 6 (.mv (.t 0)),u_ 7 (.fad 1 (.t 4)),u_ 8 (.ld (.t 7)),u_ 9 (.call (.c (.fn 69 [] [])) [.t 6,.t 8]),u_ 10 (.un .not (.t 9))]) (.cond (.t 10) (.seq (.reg [u_ 11 (.mv (.t 0)),u_ 12 (.fad 1 (.t 4)),u_ 13 (.ld (.t 12)),u_ 14 (.call (.c (.fn 61 [] [])) [.t 11,.c (.int .i64 3),.t 13,.c (.int .i64 0)])]) .ret) .skip)) (.seq (.reg [u_ 15 (.mv (.t 0)),u_ 16 (.ldn 10 (.t 4)),u_ 17 (.call (.c (.fn 70 [] [])) [.t 15,.t 16])]) (.reg [u_ 18 (.mv (.t 0)),u_ 19 (.fad 1 (.t 4)),u_ 20 (.ld (.t 19)),u_ 21 (.mv (.t 2)),u_ 22 (.call (.c (.fn 61 [] [])) [.t 18,.c (.int .i64 2),.t 20,.t 21])])))
def xO:PFn:=⟨23,[],ZM,[],[]⟩
def Z0:zf:=.seq (.reg [u_ 34 (.mv (.t 0)),u_ 35 (.nck (.t 34)),u_ 36 (.fad 0 (.t 35)),u_ 37 (.fad 9 (.t 36)),(⟨none,.st 1 (.t 37) (.c (.int .i64 0)),none⟩,⟨.n,[]⟩)]) (.seq (.dreg 0 [qn 39 (.fad 6 (.t 3)),qn 40 (.ld (.t 39)),qn 41 (.mv (.t 0)),qn 42 (.nck (.t 41)),qn 43 (.fad 0 (.t 42)),qn 44 (.fad 0 (.t 43)),qn 45 (.ld (.t 44)),((⟨some 46,.call (.c (.fn 71 [] [])) [.t 40,.t 45],none⟩,.ef []),⟨.n,[]⟩),qn 38 (.mv (.t 46)),qn 47 (.ext (.t 38) 0),qn 48 (.ext (.t 38) 1),qn 4 (.mv (.t 47)),qn 5 (.mv (.t 48))]) (.seq (.seq (.reg [u_ 49 (.mv (.t 5)),u_ 50 (.un .not (.t 49)),u_ 51 (.mv (.t 50)),ug 52 51 false (.fad 5 (.t 3)),ug 53 51 false (.ld (.t 52)),ug 54 51 false (.bin .gtr (.t 53) (.c (.int .i64 20))),u_ 55 (.pick (.t 51) (.c (.bool true)) (.t 54))]) (.cond (.t 55) (.seq (.reg [u_ 56 (.mv (.t 0)),u_ 57 (.fad 1 (.t 3)),u_ 58 (.ld (.t 57)),u_ 59 (.call (.c (.fn 61 [] [])) [.t 56,.c (.int .i64 6),.t 58,.c (.int .i64 0)])]) (.seq (.reg [u_ 60 (.mv (.t 0)),u_ 61 (.nck (.t 60)),u_ 62 (.fad 0 (.t 61)),u_ 63 (.fad 11 (.t 62)),u_ 64 (.ld (.t 63)),u_ 65 (.bin .add (.t 64) (.c (.int .i64 1))),u_ 66 (.nck (.t 60)),u_ 67 (.fad 0 (.t 66)),u_ 68 (.fad 11 (.t 67)),(⟨none,.st 1 (.t 68) (.t 65),none⟩,⟨.n,[]⟩)]) .ret)) .skip)) (.seq (.reg [u_ 69 (.mv (.t 0)),u_ 70 (.ldn 10 (.t 3)),u_ 71 (.mv (.t 4)),u_ 72 (.call (.c (.fn 72 [] [])) [.t 69,.t 70,.t 71])]) (.dreg 0 [qn 73 (.mv (.t 0)),qn 74 (.mv (.t 0)),qn 75 (.mv (.t 0)),qn 76 (.mv (.t 0)),qn 77 (.mv (.t 0)),qn 78 (.fad 1 (.t 3)),qn 79 (.ld (.t 78)),qn 80 (.fad 3 (.t 3)),qn 81 (.ld (.t 80)),qn 82 (.fad 4 (.t 3)),qn 83 (.ld (.t 82)),qn 84 (.mv (.t 0)),qn 85 (.nck (.t 84)),qn 86 (.fad 0 (.t 85)),qn 87 (.fad 2 (.t 86)),qn 88 (.ld (.t 87)),qn 89 (.fad 5 (.t 3)),qn 90 (.ld (.t 89)),qn 91 (.bin .sub (.t 88) (.t 90)),qn 92 (.nck (.t 73)),qn 93 (.fad 0 (.t 92)),qn 94 (.fad 3 (.t 93)),((⟨none,.st 1 (.t 94) (.t 79),none⟩,.ef [8,10,17]),⟨.n,[]⟩),qn 95 (.nck (.t 74)),qn 96 (.fad 0 (.t 95)),qn 97 (.fad 4 (.t 96)),((⟨none,.st 1 (.t 97) (.t 81),none⟩,.ef [10,17]),⟨.n,[]⟩),qn 98 (.nck (.t 75)),qn 99 (.fad 0 (.t 98)),qn 100 (.fad 7 (.t 99)),((⟨none,.st 1 (.t 100) (.t 83),none⟩,.ef [17]),⟨.n,[]⟩),qn 101 (.nck (.t 76)),qn 102 (.fad 0 (.t 101)),qn 103 (.fad 8 (.t 102)),((⟨none,.st 1 (.t 103) (.t 91),none⟩,.ef []),⟨.n,[]⟩),qn 104 (.nck (.t 77)),qn 105 (.fad 0 (.t 104)),qn 106 (.fad 11 (.t 105)),((⟨none,.st 1 (.t 106) (.c (.int .i64 0)),none⟩,.ef []),⟨.n,[]⟩)]))))
def ZN:zf:=.seq (.reg [(⟨some 3,.box (.t 1),none⟩,⟨.s 10,[]⟩)]) (.seq (.seq (.dreg 0 [qn 6 (.mv (.t 0)),qn 7 (.nck (.t 6)),qn 8 (.fad 0 (.t 7)),qn 9 (.fad 9 (.t 8)),qn 10 (.ld (.t 9)),qn 11 (.fad 1 (.t 3)),qn 12 (.ld (.t 11)),qn 13 (.bin .neq (.t 10) (.t 12)),qn 14 (.mv (.t 13)),qg 15 14 false (.mv (.t 0)),qg 16 14 false (.nck (.t 15)),qg 17 14 false (.fad 0 (.t 16)),qg 18 14 false (.fad 3 (.t 17)),qg 19 14 false (.ld (.t 18)),qg 20 14 false (.bin .neq (.t 19) (.c (.int .i64 0))),qn 21 (.pick (.t 14) (.c (.bool true)) (.t 20))]) (.cond (.t 21) (.seq (.seq (.dreg 0 [qn 22 (.mv (.t 0)),qn 23 (.nck (.t 22)),qn 24 (.fad 0 (.t 23)),qn 25 (.fad 3 (.t 24)),qn 26 (.ld (.t 25)),qn 27 (.fad 1 (.t 3)),qn 28 (.ld (.t 27)),qn 29 (.bin .neq (.t 26) (.t 28))]) (.cond (.t 29) (.fin (.reg [u_ 30 (.mv (.t 0)),u_ 31 (.fad 1 (.t 3)),u_ 32 (.ld (.t 31)),u_ 33 (.call (.c (.fn 61 [] [])) [.t 30,.c (.int .i64 6),.t 32,.c (.int .i64 0)])]) [] [] [] []) (.fin .skip [] [] [] []))) .ret) .skip)) Z0)
def xP:PFn:=⟨107,[],ZN,[],[]⟩
def ZO:zf:=.seq (.reg [(⟨some 3,.box (.t 1),none⟩,⟨.s 10,[]⟩)]) (.seq (.reg [u_ 4 (.fad 1 (.t 3)),u_ 5 (.ld (.t 4))]) (.block 0 (.seq (.reg [u_ 7 (.mv (.t 0)),u_ 8 (.nck (.t 7)),u_ 9 (.fad 0 (.t 8)),u_ 10 (.fad 9 (.t 9)),u_ 11 (.ld (.t 10)),u_ 12 (.bin .eql (.t 5) (.t 11)),u_ 6 (.mv (.t 12))]) (.fin (.cond (.t 6) (.seq (.reg [u_ 13 (.mv (.t 0)),u_ 14 (.nck (.t 13)),u_ 15 (.fad 0 (.t 14)),u_ 16 (.fad 9 (.t 15)),(⟨none,.st 1 (.t 16) (.c (.int .i64 0)),none⟩,⟨.n,[]⟩)]) (.fin (.reg [u_ 17 (.mv (.t 0)),u_ 18 (.nck (.t 17)),u_ 19 (.fad 0 (.t 18)),u_ 20 (.fad 11 (.t 19)),u_ 21 (.ld (.t 20)),u_ 22 (.bin .add (.t 21) (.c (.int .i64 1))),u_ 23 (.nck (.t 17)),u_ 24 (.fad 0 (.t 23)),u_ 25 (.fad 11 (.t 24)),(⟨none,.st 1 (.t 25) (.t 22),none⟩,⟨.n,[]⟩)]) [] [] [] [])) (.seq (.reg [u_ 27 (.mv (.t 0)),u_ 28 (.nck (.t 27)),u_ 29 (.fad 0 (.t 28)),u_ 30 (.fad 3 (.t 29)),u_ 31 (.ld (.t 30)),u_ 32 (.bin .eql (.t 5) (.t 31)),u_ 26 (.mv (.t 32))]) (.fin (.cond (.t 26) (.fin (.reg [u_ 33 (.mv (.t 0)),u_ 34 (.call (.c (.fn 40 [] [])) [.t 33,.c (.int .i64 0)])]) [] [] [] []) (.fin .skip [] [] [] [])) [] [] [] []))) [] [] [] []))))
def xQ:PFn:=⟨35,[],ZO,[],[]⟩
def ZP:zf:=.seq (.reg [(⟨some 3,.box (.t 1),none⟩,⟨.s 10,[]⟩)]) (.seq (.dreg 1 [qn 7 (.mv (.t 0)),qn 8 (.nck (.t 7)),qn 9 (.fad 0 (.t 8)),qn 10 (.fad 12 (.t 9)),qn 11 (.ld (.t 10)),qn 12 (.fad 1 (.t 3)),qn 13 (.ld (.t 12)),((⟨some 4,.newc [.int .i64 0,.int .i64 0,.int .i64 0],none⟩,.al 0),⟨.s 3,[]⟩),((⟨some 14,.call (.c (.fn 68 [] [])) [.t 11,.t 13],none⟩,.ef [7]),⟨.n,[]⟩),qn 6 (.mv (.t 14)),qn 15 (.ext (.t 6) 0),qn 16 (.ext (.t 6) 1),((⟨none,.st 3 (.t 4) (.t 15),none⟩,.ef []),⟨.n,[]⟩),qn 5 (.mv (.t 16))]) (.seq (.reg [u_ 17 (.mv (.t 5))]) (.cond (.t 17) (.fin (.reg [u_ 18 (.mv (.t 0)),u_ 19 (.ldn 10 (.t 3)),u_ 20 (.call (.c (.fn 70 [] [])) [.t 18,.t 19])]) [] [] [] []) (.fin (.reg [u_ 21 (.mv (.t 0)),u_ 22 (.fad 1 (.t 3)),u_ 23 (.ld (.t 22)),u_ 24 (.call (.c (.fn 61 [] [])) [.t 21,.c (.int .i64 3),.t 23,.c (.int .i64 0)])]) [] [] [] []))))
def xR:PFn:=⟨25,[],ZP,[],[]⟩
def ZQ:zf:=.seq (.reg [(⟨some 3,.box (.t 1),none⟩,⟨.s 10,[]⟩)]) (.seq (.seq (.dreg 0 [qn 6 (.fad 1 (.t 3)),qn 7 (.ld (.t 6)),qn 8 (.mv (.t 0)),qn 9 (.nck (.t 8)),qn 10 (.fad 0 (.t 9)),qn 11 (.fad 3 (.t 10)),qn 12 (.ld (.t 11)),qn 13 (.bin .neq (.t 7) (.t 12))]) (.cond (.t 13) (.seq (.reg [u_ 14 (.mv (.t 0)),u_ 15 (.fad 1 (.t 3)),u_ 16 (.ld (.t 15)),u_ 17 (.call (.c (.fn 61 [] [])) [.t 14,.c (.int .i64 6),.t 16,.c (.int .i64 0)])]) .ret) .skip)) (.seq (.dreg 0 [qn 19 (.fad 6 (.t 3)),qn 20 (.ld (.t 19)),qn 21 (.mv (.t 0)),qn 22 (.nck (.t 21)),qn 23 (.fad 0 (.t 22)),qn 24 (.fad 0 (.t 23)),qn 25 (.ld (.t 24)),((⟨some 26,.call (.c (.fn 71 [] [])) [.t 20,.t 25],none⟩,.ef []),⟨.n,[]⟩),qn 18 (.mv (.t 26)),qn 27 (.ext (.t 18) 0),qn 28 (.ext (.t 18) 1),qn 4 (.mv (.t 27)),qn 5 (.mv (.t 28))]) (.seq (.seq (.reg [u_ 29 (.mv (.t 5)),u_ 30 (.un .not (.t 29))]) (.cond (.t 30) (.seq (.reg [u_ 31 (.mv (.t 0)),u_ 32 (.fad 1 (.t 3)),u_ 33 (.ld (.t 32)),u_ 34 (.call (.c (.fn 61 [] [])) [.t 31,.c (.int .i64 6),.t 33,.c (.int .i64 0)])]) (.seq (.reg [u_ 35 (.mv (.t 0)),u_ 36 (.call (.c (.fn 40 [] [])) [.t 35,.c (.int .i64 1)])]) .ret)) .skip)) (.seq (.reg [u_ 37 (.mv (.t 0)),u_ 38 (.ldn 10 (.t 3)),u_ 39 (.mv (.t 4)),u_ 40 (.call (.c (.fn 72 [] [])) [.t 37,.t 38,.t 39])]) (.seq (.dreg 0 [qn 41 (.mv (.t 0)),qn 42 (.nck (.t 41)),qn 43 (.fad 0 (.t 42)),qn 44 (.fad 2 (.t 43)),qn 45 (.ld (.t 44)),qn 46 (.fad 5 (.t 3)),qn 47 (.ld (.t 46)),qn 48 (.bin .sub (.t 45) (.t 47)),qn 49 (.mv (.t 0)),qn 50 (.nck (.t 49)),qn 51 (.fad 0 (.t 50)),qn 52 (.fad 8 (.t 51)),qn 53 (.ld (.t 52)),qn 54 (.bin .gtr (.t 48) (.t 53))]) (.cond (.t 54) (.fin (.dreg 0 [qn 55 (.mv (.t 0)),qn 56 (.mv (.t 0)),qn 57 (.mv (.t 0)),qn 58 (.nck (.t 57)),qn 59 (.fad 0 (.t 58)),qn 60 (.fad 2 (.t 59)),qn 61 (.ld (.t 60)),qn 62 (.fad 5 (.t 3)),qn 63 (.ld (.t 62)),qn 64 (.bin .sub (.t 61) (.t 63)),qn 65 (.fad 4 (.t 3)),qn 66 (.ld (.t 65)),qn 67 (.nck (.t 55)),qn 68 (.fad 0 (.t 67)),qn 69 (.fad 8 (.t 68)),((⟨none,.st 1 (.t 69) (.t 64),none⟩,.ef [11]),⟨.n,[]⟩),qn 70 (.nck (.t 56)),qn 71 (.fad 0 (.t 70)),qn 72 (.fad 7 (.t 71)),((⟨none,.st 1 (.t 72) (.t 66),none⟩,.ef []),⟨.n,[]⟩)]) [] [] [] []) (.fin .skip [] [] [] [])))))))
def xS:PFn:=⟨73,[],ZQ,[],[]⟩
def Wb:zf:=.seq (.reg [(⟨some 3,.box (.t 1),none⟩,⟨.s 1,[]⟩),u_ 4 (.mv (.c .nils))]) (.seq (.reg [u_ 5 (.mv (.t 0)),(⟨some 6,.call (.c (.fn 65 [] [])) [.t 5],none⟩,⟨.s 3,[]⟩),(⟨some 7,.mkf 73 [] [.t 3],none⟩,⟨.n,[3]⟩),(⟨some 8,.call (.c (.fn 66 [] [])) [.t 6,.t 7],none⟩,⟨.tf 3,[]⟩),u_ 4 (.mv (.t 8))]) .ret)
def vC:PFn:=⟨9,[],Wb,[.tmp 4],[.f 3]⟩
def vQ:zf:=.seq (.reg [(⟨some 2,.box (.t 0),none⟩,⟨.s 10,[]⟩),(⟨some 3,.box (.t 1),none⟩,⟨.s 10,[]⟩),u_ 4 (.mv (.c (.bool false)))]) (.seq (.reg [u_ 5 (.fad 0 (.t 2)),u_ 6 (.ld (.t 5)),u_ 7 (.fad 0 (.t 3)),u_ 8 (.ld (.t 7)),u_ 9 (.bin .eql (.t 6) (.t 8)),u_ 10 (.mv (.t 9)),ug 11 10 true (.fad 1 (.t 2)),ug 12 10 true (.ld (.t 11)),ug 13 10 true (.fad 1 (.t 3)),ug 14 10 true (.ld (.t 13)),ug 15 10 true (.bin .eql (.t 12) (.t 14)),u_ 16 (.pick (.t 10) (.t 15) (.c (.bool false))),u_ 17 (.mv (.t 16)),ug 18 17 true (.fad 2 (.t 2)),ug 19 17 true (.ld (.t 18)),ug 20 17 true (.fad 2 (.t 3)),ug 21 17 true (.ld (.t 20)),ug 22 17 true (.bin .eql (.t 19) (.t 21)),u_ 23 (.pick (.t 17) (.t 22) (.c (.bool false))),u_ 24 (.mv (.t 23)),ug 25 24 true (.fad 3 (.t 2)),ug 26 24 true (.ld (.t 25)),ug 27 24 true (.fad 3 (.t 3)),ug 28 24 true (.ld (.t 27)),ug 29 24 true (.bin .eql (.t 26) (.t 28)),u_ 30 (.pick (.t 24) (.t 29) (.c (.bool false))),u_ 31 (.mv (.t 30)),ug 32 31 true (.fad 4 (.t 2)),ug 33 31 true (.ld (.t 32)),ug 34 31 true (.fad 4 (.t 3)),ug 35 31 true (.ld (.t 34)),ug 36 31 true (.bin .eql (.t 33) (.t 35)),u_ 37 (.pick (.t 31) (.t 36) (.c (.bool false))),u_ 38 (.mv (.t 37)),ug 39 38 true (.fad 5 (.t 2)),ug 40 38 true (.ld (.t 39)),ug 41 38 true (.fad 5 (.t 3)),ug 42 38 true (.ld (.t 41)),ug 43 38 true (.bin .eql (.t 40) (.t 42)),u_ 44 (.pick (.t 38) (.t 43) (.c (.bool false))),u_ 45 (.mv (.t 44)),ug 46 45 true (.fad 7 (.t 2)),ug 47 45 true (.ld (.t 46)),ug 48 45 true (.fad 7 (.t 3)),ug 49 45 true (.ld (.t 48)),ug 50 45 true (.bin .eql (.t 47) (.t 49)),u_ 51 (.pick (.t 45) (.t 50) (.c (.bool false))),u_ 52 (.mv (.t 51)),ug 53 52 true (.fad 8 (.t 2)),ug 54 52 true (.ld (.t 53)),ug 55 52 true (.fad 8 (.t 3)),ug 56 52 true (.ld (.t 55)),ug 57 52 true (.bin .eql (.t 54) (.t 56)),u_ 58 (.pick (.t 52) (.t 57) (.c (.bool false))),u_ 59 (.mv (.t 58)),ug 60 59 true (.fad 9 (.t 2)),ug 61 59 true (.ld (.t 60)),ug 62 59 true (.fad 9 (.t 3)),ug 63 59 true (.ld (.t 62)),ug 64 59 true (.bin .eql (.t 61) (.t 63)),u_ 65 (.pick (.t 59) (.t 64) (.c (.bool false))),u_ 66 (.mv (.t 65)),ug 67 66 true (.fad 6 (.t 2)),ug 68 66 true (.ld (.t 67)),ug 69 66 true (.fad 6 (.t 3)),ug 70 66 true (.ld (.t 69)),ug 71 66 true (.call (.c (.fn 36 [] [])) [.t 68,.t 70]),u_ 72 (.pick (.t 66) (.t 71) (.c (.bool false))),u_ 4 (.mv (.t 72))]) .ret)
def yZ:PFn:=⟨73,[],vQ,[.tmp 4],[.n]⟩
def kP:zf:=.dreg 1 [qn 54 (.mv (.t 0)),qn 55 (.mv (.t 0)),qn 56 (.nck (.t 55)),qn 57 (.fad 13 (.t 56)),qn 58 (.ld (.t 57)),qn 59 (.ldn 10 (.t 8)),((⟨some 60,.bsl 10 [.int .i64 0,.int .i64 0,.int .i64 0,.int .i64 0,.int .i64 0,.int .i64 0,.nils,.int .i64 0,.int .i64 0,.str []] 1 [(0,10,.t 59)],none⟩,.al 0),⟨.f,[]⟩),((⟨some 61,.app 10 104 [.int .i64 0,.int .i64 0,.int .i64 0,.int .i64 0,.int .i64 0,.int .i64 0,.nils,.int .i64 0,.int .i64 0,.str []] (.t 58) (.t 60),none⟩,.ef []),⟨.i,[]⟩),qn 62 (.nck (.t 54)),qn 63 (.fad 13 (.t 62)),((⟨none,.st 1 (.t 63) (.t 61),none⟩,.ef []),⟨.n,[]⟩)]
def Yo:zf:=.seq (.dreg 1 [qn 9 (.mv (.t 1)),qn 10 (.mv (.t 0)),qn 11 (.nck (.t 10)),qn 12 (.fad 0 (.t 11)),qn 13 (.fad 0 (.t 12)),qn 14 (.ld (.t 13)),qn 15 (.mv (.t 2)),qn 16 (.mv (.t 0)),qn 17 (.nck (.t 16)),qn 18 (.fad 0 (.t 17)),qn 19 (.fad 1 (.t 18)),qn 20 (.ld (.t 19)),qn 21 (.mv (.t 3)),qn 22 (.build [.int .i64 0,.int .i64 0,.int .i64 0,.int .i64 0,.int .i64 0,.int .i64 0,.nils,.int .i64 0,.int .i64 0,.str []] [(0,1,.t 9),(1,1,.t 14),(2,1,.t 15),(3,1,.t 20),(7,1,.t 21)]),((⟨some 8,.newc [.int .i64 0,.int .i64 0,.int .i64 0,.int .i64 0,.int .i64 0,.int .i64 0,.nils,.int .i64 0,.int .i64 0,.str []],none⟩,.al 0),⟨.s 10,[]⟩),((⟨none,.st 10 (.t 8) (.t 22),none⟩,.ef []),⟨.n,[]⟩)]) (.seq (.seq (.reg [u_ 23 (.mv (.t 1)),u_ 24 (.bin .eql (.t 23) (.c (.int .i64 2))),u_ 25 (.mv (.t 24)),ug 26 25 false (.mv (.t 1)),ug 27 25 false (.bin .eql (.t 26) (.c (.int .i64 5))),u_ 28 (.pick (.t 25) (.c (.bool true)) (.t 27))]) (.cond (.t 28) (.fin (.dreg 0 [qn 29 (.mv (.t 0)),qn 30 (.nck (.t 29)),qn 31 (.fad 0 (.t 30)),qn 32 (.fad 7 (.t 31)),qn 33 (.ld (.t 32)),qn 34 (.mv (.t 0)),qn 35 (.nck (.t 34)),qn 36 (.fad 0 (.t 35)),qn 37 (.fad 2 (.t 36)),qn 38 (.ld (.t 37)),qn 39 (.mv (.t 0)),qn 40 (.nck (.t 39)),qn 41 (.fad 0 (.t 40)),qn 42 (.fad 8 (.t 41)),qn 43 (.ld (.t 42)),qn 44 (.bin .sub (.t 38) (.t 43)),qn 45 (.mv (.t 0)),qn 46 (.nck (.t 45)),qn 47 (.fad 0 (.t 46)),qn 48 (.fad 6 (.t 47)),qn 49 (.ld (.t 48)),qn 51 (.fad 4 (.t 8)),((⟨some 50,.call (.c (.fn 64 [] [])) [.t 49],none⟩,.ef [4,9,14]),⟨.n,[]⟩),((⟨none,.st 1 (.t 51) (.t 33),none⟩,.ef [9,14]),⟨.n,[]⟩),qn 52 (.fad 5 (.t 8)),((⟨none,.st 1 (.t 52) (.t 44),none⟩,.ef []),⟨.n,[]⟩),qn 53 (.fad 6 (.t 8)),((⟨none,.st 1 (.t 53) (.t 50),none⟩,.ef []),⟨.n,[]⟩)]) [] [] [0,8] [(8,8)]) (.fin .skip [] [] [0,8] [(8,8)]))) kP)
def qf:PFn:=⟨64,[],Yo,[],[]⟩
def ZR:zf:=.seq (.reg [u_ 2 (.mv (.c (.bool false)))]) (.seq (.reg [u_ 3 (.mv (.t 0)),u_ 4 (.bin .geq (.t 3) (.c (.int .i64 0))),u_ 5 (.mv (.t 4)),ug 6 5 true (.mv (.t 0)),ug 7 5 true (.bin .leq (.t 6) (.c (.int .i64 1000000))),u_ 8 (.pick (.t 5) (.t 7) (.c (.bool false))),u_ 2 (.mv (.t 8))]) .ret)
def xT:PFn:=⟨9,[],ZR,[.tmp 2],[.n]⟩
def Qq:zf:=.seq (.reg [(⟨some 1,.box (.t 0),none⟩,⟨.s 2,[]⟩),u_ 2 (.mv (.c (.bool false)))]) (.seq (.reg [u_ 3 (.fad 0 (.t 1)),u_ 4 (.ld (.t 3)),u_ 5 (.bin .geq (.t 4) (.c (.int .i64 1))),u_ 6 (.mv (.t 5)),ug 7 6 true (.fad 0 (.t 1)),ug 8 6 true (.ld (.t 7)),ug 9 6 true (.fad 1 (.t 1)),ug 10 6 true (.ld (.t 9)),ug 11 6 true (.bin .leq (.t 8) (.t 10)),u_ 12 (.pick (.t 6) (.t 11) (.c (.bool false))),u_ 13 (.mv (.t 12)),ug 14 13 true (.fad 1 (.t 1)),ug 15 13 true (.ld (.t 14)),ug 16 13 true (.bin .leq (.t 15) (.c (.int .i64 1000000))),u_ 17 (.pick (.t 13) (.t 16) (.c (.bool false))),u_ 2 (.mv (.t 17))]) .ret)
def q6:PFn:=⟨18,[],Qq,[.tmp 2],[.n]⟩
def yo:zf:=.fin (.reg [u_ 20 (.mv (.t 6)),u_ 21 (.bin .add (.t 20) (.c (.int .i64 1))),u_ 6 (.mv (.t 21))]) [] [] [0,1,5,6] [(0,0)]
def zq:zf:=.seq (.seq (.reg [u_ 16 (.mv (.t 6)),u_ 17 (.mv (.t 0)),u_ 18 (.len (.t 17)),u_ 19 (.bin .lss (.t 16) (.t 18))]) (.cond (.t 19) .skip (.keep [0,5] [(0,0)] (.exit 0)))) (.seq (.block 1 (.seq (.reg [u_ 22 (.mv (.t 0)),u_ 23 (.mv (.t 6)),u_ 24 (.iad 3 (.t 22) (.t 23)),u_ 25 (.ldn 3 (.t 24)),(⟨some 7,.newc [.int .i64 0,.int .i64 0,.int .i64 0],none⟩,⟨.s 3,[]⟩),(⟨none,.st 3 (.t 7) (.t 25),none⟩,⟨.n,[]⟩)]) (.seq (.reg [u_ 26 (.mv (.t 1)),u_ 27 (.ldn 3 (.t 7)),u_ 28 (.call (.t 26) [.t 27]),u_ 29 (.un .not (.t 28))]) (.fin (.cond (.t 29) (.seq (.reg [u_ 30 (.mv (.t 0)),u_ 31 (.mv (.t 5)),u_ 32 (.ldn 3 (.t 7)),u_ 33 (.iad 3 (.t 30) (.t 31)),(⟨none,.st 3 (.t 33) (.t 32),none⟩,⟨.n,[]⟩)]) (.fin (.reg [u_ 34 (.mv (.t 5)),u_ 35 (.bin .add (.t 34) (.c (.int .i64 1))),u_ 5 (.mv (.t 35))]) [] [] [0,1,5,6] [(0,0)])) (.fin .skip [] [] [0,1,5,6] [(0,0)])) [] [] [0,1,5,6] [(0,0)])))) yo)
def yp:zf:=.seq (.reg [u_ 36 (.mv (.t 0)),u_ 37 (.mv (.t 5)),(⟨some 38,.slc 3 (.t 36) (some (.t 37)) none none,none⟩,⟨.s 3,[]⟩),(⟨none,.clr 3 [.int .i64 0,.int .i64 0,.int .i64 0] (.t 38),none⟩,⟨.n,[]⟩)]) (.seq (.reg [u_ 39 (.mv (.t 0)),u_ 40 (.mv (.t 5)),(⟨some 41,.slc 3 (.t 39) none (some (.t 40)) none,none⟩,⟨.n,[39]⟩),u_ 4 (.mv (.t 41))]) .ret)
def xI:zf:=.seq (.reg [u_ 4 (.mv (.c .nils))]) (.seq (.reg [u_ 8 (.mv (.t 0)),u_ 9 (.mv (.t 1)),(⟨some 10,.call (.c (.fn 75 [] [])) [.t 8,.t 9],none⟩,⟨.l,[]⟩),u_ 5 (.mv (.t 10))]) (.seq (.seq (.reg [u_ 11 (.mv (.t 5)),u_ 12 (.bin .eql (.t 11) (.c (.int .i64 (-1))))]) (.cond (.t 12) (.seq (.reg [u_ 13 (.mv (.t 0)),u_ 4 (.mv (.t 13))]) .ret) .skip)) (.seq (.seq (.reg [u_ 14 (.mv (.t 5)),u_ 15 (.bin .add (.t 14) (.c (.int .i64 1))),u_ 6 (.mv (.t 15))]) (.block 0 (.keep [0,1,5,6] [(0,0)] (.loop zq)))) yp)))
def zJ:PFn:=⟨42,[(0,3)],xI,[.tmp 4],[.f 3]⟩
def Qr:zf:=.seq (.reg [(⟨some 2,.box (.t 0),none⟩,⟨.s 3,[]⟩),u_ 3 (.mv (.c (.bool false)))]) (.seq (.reg [u_ 4 (.ld (.t 1)),u_ 5 (.fad 2 (.t 2)),u_ 6 (.ld (.t 5)),u_ 7 (.bin .sub (.t 4) (.t 6)),u_ 8 (.bin .gtr (.t 7) (.c (.int .i64 20))),u_ 3 (.mv (.t 8))]) .ret)
def je:PFn:=⟨9,[],Qr,[.tmp 3],[.n]⟩
def Wc:zf:=.seq (.reg [(⟨some 4,.newc [.int .i64 0,.int .i64 0,.int .i64 0],none⟩,⟨.s 3,[]⟩),u_ 5 (.mv (.c (.bool false)))]) (.seq (.reg [u_ 9 (.mv (.t 0)),u_ 10 (.mv (.t 1)),u_ 11 (.call (.c (.fn 76 [] [])) [.t 9,.t 10]),u_ 8 (.mv (.t 11)),u_ 12 (.ext (.t 8) 0),u_ 13 (.ext (.t 8) 1),u_ 6 (.mv (.t 12)),u_ 7 (.mv (.t 13))]) (.seq (.seq (.reg [u_ 14 (.mv (.t 7)),u_ 15 (.un .not (.t 14))]) (.cond (.t 15) (.seq (.reg [u_ 16 (.build [.int .i64 0,.int .i64 0,.int .i64 0] []),(⟨none,.st 3 (.t 4) (.t 16),none⟩,⟨.n,[]⟩),u_ 5 (.mv (.c (.bool false)))]) .ret) .skip)) (.seq (.reg [u_ 17 (.mv (.t 0)),u_ 18 (.mv (.t 6)),u_ 19 (.iad 3 (.t 17) (.t 18)),u_ 20 (.ldn 3 (.t 19)),(⟨none,.st 3 (.t 4) (.t 20),none⟩,⟨.n,[]⟩),u_ 5 (.mv (.c (.bool true)))]) .ret)))
def vD:PFn:=⟨21,[],Wc,[.cell 4 (some 3),.tmp 5],[.n,.n]⟩
def vE:zf:=.seq (.reg [u_ 15 (.mv (.t 0)),u_ 16 (.nck (.t 15)),u_ 17 (.fad 0 (.t 16)),u_ 18 (.fad 12 (.t 17)),u_ 19 (.ld (.t 18)),u_ 20 (.mv (.t 1)),u_ 21 (.call (.c (.fn 68 [] [])) [.t 19,.t 20]),u_ 14 (.mv (.t 21)),u_ 22 (.ext (.t 14) 0),u_ 23 (.ext (.t 14) 1),(⟨some 6,.newc [.int .i64 0,.int .i64 0,.int .i64 0],none⟩,⟨.s 3,[]⟩),(⟨none,.st 3 (.t 6) (.t 22),none⟩,⟨.n,[]⟩),u_ 7 (.mv (.t 23))]) (.seq (.reg [u_ 24 (.mv (.t 0)),u_ 25 (.nck (.t 24)),u_ 26 (.fad 0 (.t 25)),u_ 27 (.ldn 13 (.t 26)),u_ 28 (.call (.c (.fn 25 [] [])) [.t 27]),u_ 29 (.mv (.t 28)),ug 30 29 true (.mv (.t 0)),ug 31 29 true (.nck (.t 30)),ug 32 29 true (.fad 0 (.t 31)),ug 33 29 true (.fad 6 (.t 32)),ug 34 29 true (.ld (.t 33)),ug 35 29 true (.mv (.t 1)),ug 36 29 true (.call (.c (.fn 77 [] [])) [.t 34,.t 35]),ug 37 29 true (.un .not (.t 36)),u_ 38 (.pick (.t 29) (.t 37) (.c (.bool false))),u_ 39 (.mv (.t 38)),ug 40 39 true (.mv (.t 7)),ug 41 39 true (.mv (.t 40)),ug 42 41 false (.mv (.t 0)),ug 43 41 false (.nck (.t 42)),ug 44 41 false (.fad 0 (.t 43)),ug 45 41 false (.fad 12 (.t 44)),ug 46 41 false (.ld (.t 45)),ug 47 41 false (.len (.t 46)),ug 48 41 false (.mv (.t 5)),ug 49 41 false (.bin .lss (.t 47) (.t 48)),ug 50 39 true (.pick (.t 41) (.c (.bool true)) (.t 49)),u_ 51 (.pick (.t 39) (.t 50) (.c (.bool false))),u_ 4 (.mv (.t 51))]) .ret)
def XI:zf:=.seq (.reg [u_ 4 (.mv (.c (.bool false)))]) (.seq (.reg [u_ 5 (.mv (.c (.int .i64 3)))]) (.seq (.seq (.reg [u_ 8 (.mv (.t 0)),u_ 9 (.nck (.t 8)),u_ 10 (.fad 0 (.t 9)),u_ 11 (.fad 0 (.t 10)),u_ 12 (.ld (.t 11)),u_ 13 (.bin .eql (.t 12) (.c (.int .i64 1)))]) (.cond (.t 13) (.fin (.reg [u_ 5 (.mv (.c (.int .i64 8)))]) [] [] [0,1,5] []) (.fin .skip [] [] [0,1,5] []))) vE))
def qM:PFn:=⟨52,[],XI,[.tmp 4],[.n]⟩
def Yp:zf:=.seq (.reg [(⟨some 3,.box (.t 1),none⟩,⟨.s 10,[]⟩)]) (.dreg 0 [qn 5 (.mv (.t 0)),qn 6 (.mv (.t 0)),qn 7 (.nck (.t 6)),qn 8 (.fad 0 (.t 7)),qn 9 (.fad 12 (.t 8)),qn 10 (.ld (.t 9)),qn 11 (.fad 1 (.t 3)),qn 12 (.ld (.t 11)),qn 13 (.fad 3 (.t 3)),qn 14 (.ld (.t 13)),qn 15 (.mv (.t 0)),qn 16 (.nck (.t 15)),qn 17 (.fad 0 (.t 16)),qn 18 (.fad 2 (.t 17)),qn 19 (.ld (.t 18)),qn 20 (.build [.int .i64 0,.int .i64 0,.int .i64 0] [(0,1,.t 12),(1,1,.t 14),(2,1,.t 19)]),((⟨some 21,.call (.c (.fn 78 [] [])) [.t 10,.t 20],none⟩,.ef []),⟨.n,[]⟩),qn 4 (.mv (.t 21)),qn 22 (.ext (.t 4) 0),qn 23 (.ext (.t 4) 1),qn 24 (.nck (.t 5)),qn 25 (.fad 0 (.t 24)),qn 26 (.fad 12 (.t 25)),((⟨none,.st 1 (.t 26) (.t 22),none⟩,.ef []),⟨.n,[]⟩)])
def qh:PFn:=⟨27,[],Yp,[],[]⟩
def z0j:zf:=.seq (.reg [u_ 4 (.mv (.c .nils)),u_ 5 (.mv (.c (.bool false)))]) (.seq (.reg [u_ 7 (.mv (.t 0)),(⟨some 8,.call (.c (.fn 64 [] [])) [.t 7],none⟩,⟨.s 1,[]⟩),u_ 9 (.mv (.t 1)),(⟨some 10,.bsl 1 [.int .i64 0] 1 [(0,1,.t 9)],none⟩,⟨.f,[]⟩),(⟨some 11,.app 1 8 [.int .i64 0] (.t 8) (.t 10),none⟩,⟨.s 1,[]⟩),u_ 6 (.mv (.t 11))]) (.seq (.seq (.reg [u_ 12 (.mv (.t 6)),(⟨some 13,.call (.c (.fn 79 [] [])) [.t 12],none⟩,⟨.l,[]⟩),u_ 14 (.un .not (.t 13))]) (.cond (.t 14) (.seq (.reg [u_ 4 (.mv (.c .nils)),u_ 5 (.mv (.c (.bool false)))]) .ret) .skip)) (.seq (.reg [u_ 15 (.mv (.t 6)),u_ 4 (.mv (.t 15)),u_ 5 (.mv (.c (.bool true)))]) .ret)))
def wE:PFn:=⟨16,[],z0j,[.tmp 4,.tmp 5],[.f 1,.n]⟩
def Qs:zf:=.seq (.reg [(⟨some 4,.box (.t 1),none⟩,⟨.s 10,[]⟩)]) (.seq (.reg [u_ 6 (.mv (.t 0)),u_ 7 (.mv (.t 0)),u_ 8 (.mv (.t 2)),u_ 9 (.fad 6 (.t 4)),u_ 10 (.ld (.t 9)),u_ 11 (.call (.c (.fn 80 [] [])) [.t 10]),u_ 12 (.nck (.t 6)),u_ 13 (.fad 0 (.t 12)),u_ 14 (.fad 6 (.t 13)),(⟨none,.st 1 (.t 14) (.t 8),none⟩,⟨.n,[]⟩),u_ 15 (.nck (.t 7)),u_ 16 (.fad 0 (.t 15)),u_ 17 (.fad 5 (.t 16)),(⟨none,.st 1 (.t 17) (.t 11),none⟩,⟨.n,[]⟩)]) (.seq (.reg [u_ 18 (.mv (.t 0)),u_ 19 (.nck (.t 18)),u_ 20 (.fad 0 (.t 19)),u_ 21 (.fad 5 (.t 20)),u_ 22 (.ld (.t 21)),u_ 23 (.bin .eql (.t 22) (.c (.int .i64 0)))]) (.cond (.t 23) (.fin (.reg [u_ 24 (.mv (.t 0)),u_ 25 (.nck (.t 24)),u_ 26 (.fad 0 (.t 25)),u_ 27 (.fad 5 (.t 26)),(⟨none,.st 1 (.t 27) (.c (.int .i64 1)),none⟩,⟨.n,[]⟩)]) [] [] [] []) (.fin .skip [] [] [] []))))
def jf:PFn:=⟨28,[],Qs,[],[]⟩
def Jl:zf:=.seq (.reg [(⟨some 2,.box (.t 0),none⟩,⟨.s 3,[]⟩),u_ 3 (.mv (.c (.bool false)))]) (.seq (.reg [u_ 4 (.fad 0 (.t 2)),u_ 5 (.ld (.t 4)),u_ 6 (.ld (.t 1)),u_ 7 (.bin .eql (.t 5) (.t 6)),u_ 3 (.mv (.t 7))]) .ret)
def jF:PFn:=⟨8,[],Jl,[.tmp 3],[.n]⟩
def zt:zf:=.seq (.reg [u_ 9 (.bin .lss (.t 8) (.t 7))]) (.seq (.cond (.t 9) .skip (.keep [] [] (.exit 0))) (.seq (.block 1 (.seq (.reg [u_ 10 (.mv (.t 8)),u_ 5 (.mv (.t 10))]) (.seq (.reg [u_ 11 (.mv (.t 1)),u_ 12 (.mv (.t 0)),u_ 13 (.mv (.t 5)),u_ 14 (.iad 3 (.t 12) (.t 13)),u_ 15 (.ldn 3 (.t 14)),u_ 16 (.call (.t 11) [.t 15])]) (.cond (.t 16) (.seq (.reg [u_ 17 (.mv (.t 5)),u_ 4 (.mv (.t 17))]) (.keep [4] [] .ret)) .skip)))) (.fin (.reg [u_ 18 (.bin .add (.t 8) (.c (.int .i64 1))),u_ 8 (.mv (.t 18))]) [] [] [0,1,7,8] [])))
def yw:zf:=.seq (.reg [u_ 4 (.mv (.c (.int .i64 (-1))))]) .ret
def xU:zf:=.seq (.reg [u_ 4 (.mv (.c (.int .i64 0)))]) (.seq (.seq (.reg [u_ 6 (.mv (.t 0)),u_ 7 (.len (.t 6)),u_ 8 (.mv (.c (.int .i64 0)))]) (.block 0 (.keep [0,1,7,8] [] (.loop zt)))) yw)
def zK:PFn:=⟨19,[],xU,[.tmp 4],[.n]⟩
def Kp:zf:=.seq (.reg [u_ 4 (.mv (.c (.int .i64 0))),u_ 5 (.mv (.c (.bool false)))]) (.seq (.reg [u_ 6 (.mv (.t 0)),u_ 7 (.mv (.t 1)),u_ 8 (.call (.c (.fn 81 [] [])) [.t 6,.t 7,.c (.fn 82 [] [])]),u_ 9 (.ext (.t 8) 0),u_ 10 (.ext (.t 8) 1),u_ 4 (.mv (.t 9)),u_ 5 (.mv (.t 10))]) .ret)
def kq:PFn:=⟨11,[],Kp,[.tmp 4,.tmp 5],[.n,.n]⟩
def z0k:zf:=.seq (.reg [u_ 4 (.mv (.c (.bool false)))]) (.seq (.reg [u_ 5 (.mv (.t 0)),u_ 6 (.mv (.t 1)),u_ 7 (.call (.c (.fn 84 [] [])) [.t 5,.t 6]),u_ 4 (.mv (.t 7))]) .ret)
def wF:PFn:=⟨8,[],z0k,[.tmp 4],[.n]⟩
def Wd:zf:=.seq (.reg [(⟨some 3,.box (.t 1),none⟩,⟨.s 3,[]⟩),u_ 4 (.mv (.c .nils)),u_ 5 (.mv (.c (.bool false)))]) (.seq (.reg [u_ 9 (.mv (.t 0)),(⟨some 10,.call (.c (.fn 65 [] [])) [.t 9],none⟩,⟨.s 3,[]⟩),u_ 6 (.mv (.t 10))]) (.seq (.seq (.reg [u_ 11 (.mv (.t 0)),u_ 12 (.fad 0 (.t 3)),u_ 13 (.ld (.t 12)),u_ 14 (.fad 1 (.t 3)),u_ 15 (.ld (.t 14)),u_ 16 (.call (.c (.fn 48 [] [])) [.t 11,.t 13,.t 15])]) (.cond (.t 16) (.seq (.reg [u_ 17 (.mv (.t 6)),u_ 4 (.mv (.t 17)),u_ 5 (.mv (.c (.bool false)))]) .ret) .skip)) (.seq (.reg [u_ 19 (.mv (.t 0)),u_ 20 (.fad 0 (.t 3)),u_ 21 (.ld (.t 20)),u_ 22 (.call (.c (.fn 76 [] [])) [.t 19,.t 21]),u_ 18 (.mv (.t 22)),u_ 23 (.ext (.t 18) 0),u_ 24 (.ext (.t 18) 1),u_ 7 (.mv (.t 23)),u_ 8 (.mv (.t 24))]) (.seq (.seq (.reg [u_ 25 (.mv (.t 8))]) (.cond (.t 25) (.seq (.reg [u_ 26 (.mv (.t 6)),u_ 27 (.mv (.t 7)),u_ 28 (.ldn 3 (.t 3)),u_ 29 (.iad 3 (.t 26) (.t 27)),(⟨none,.st 3 (.t 29) (.t 28),none⟩,⟨.n,[]⟩)]) (.seq (.reg [u_ 30 (.mv (.t 6)),u_ 4 (.mv (.t 30)),u_ 5 (.mv (.c (.bool true)))]) .ret)) .skip)) (.seq (.reg [u_ 31 (.mv (.t 6)),u_ 32 (.mv (.t 7)),u_ 33 (.ldn 3 (.t 3)),(⟨some 34,.bsl 3 [.int .i64 0,.int .i64 0,.int .i64 0] 1 [(0,3,.t 33)],none⟩,⟨.i,[]⟩),(⟨some 35,.call (.c (.fn 85 [] [])) [.t 31,.t 32,.t 34],none⟩,⟨.t 3,[]⟩),u_ 4 (.mv (.t 35)),u_ 5 (.mv (.c (.bool true)))]) .ret)))))
def vF:PFn:=⟨36,[],Wd,[.tmp 4,.tmp 5],[.f 3,.n]⟩
def z0l:zf:=.seq (.reg [u_ 2 (.mv (.c (.bool false)))]) (.seq (.reg [u_ 6 (.mv (.t 0)),u_ 7 (.call (.c (.fn 86 [] [])) [.t 6]),u_ 8 (.tas 101 (.agg [.int .i64 0]) true (.t 7)),u_ 5 (.mv (.t 8)),u_ 9 (.ext (.t 5) 0),u_ 10 (.ext (.t 5) 1),(⟨some 3,.newc [.int .i64 0],none⟩,⟨.s 1,[]⟩),(⟨none,.st 1 (.t 3) (.t 9),none⟩,⟨.n,[]⟩),u_ 4 (.mv (.t 10))]) (.seq (.reg [u_ 11 (.mv (.t 4)),u_ 12 (.un .not (.t 11)),u_ 2 (.mv (.t 12))]) .ret))
def wG:PFn:=⟨13,[],z0l,[.tmp 2],[.n]⟩
def Kq:zf:=.seq (.reg [u_ 2 (.mv (.c (.int .i64 0)))]) (.seq (.seq (.reg [u_ 3 (.mv (.t 0)),u_ 4 (.len (.t 3)),u_ 5 (.bin .lss (.t 4) (.c (.int .i64 2)))]) (.cond (.t 5) (.seq (.reg [u_ 2 (.mv (.c (.int .i64 0)))]) .ret) .skip)) (.seq (.reg [u_ 6 (.mv (.t 0)),u_ 7 (.mv (.t 0)),u_ 8 (.len (.t 7)),u_ 9 (.bin .sub (.t 8) (.c (.int .i64 2))),u_ 10 (.iad 1 (.t 6) (.t 9)),u_ 11 (.ld (.t 10)),u_ 2 (.mv (.t 11))]) .ret))
def kr:PFn:=⟨12,[],Kq,[.tmp 2],[.n]⟩
def zm:zf:=.seq (.seq (.reg [u_ 15 (.mv (.t 9)),u_ 16 (.mv (.t 10)),u_ 17 (.bin .lss (.t 15) (.t 16))]) (.cond (.t 17) .skip (.keep [0,1,2,8,9] [] (.exit 0)))) (.fin (.block 1 (.seq (.reg [u_ 18 (.mv (.t 9)),u_ 19 (.mv (.t 10)),u_ 20 (.bin .add (.t 18) (.t 19)),u_ 21 (.cvi .u64 (.t 20)),u_ 22 (.bin .shr (.t 21) (.c (.int .u64 1))),u_ 23 (.cvi .i64 (.t 22)),u_ 11 (.mv (.t 23))]) (.seq (.reg [u_ 24 (.mv (.t 2)),u_ 25 (.mv (.t 0)),u_ 26 (.mv (.t 11)),u_ 27 (.iad 3 (.t 25) (.t 26)),u_ 28 (.ldn 3 (.t 27)),u_ 29 (.mv (.t 1)),u_ 30 (.call (.t 24) [.t 28,.t 29]),u_ 31 (.bin .lss (.t 30) (.c (.int .i64 0)))]) (.fin (.cond (.t 31) (.fin (.reg [u_ 32 (.mv (.t 11)),u_ 33 (.bin .add (.t 32) (.c (.int .i64 1))),u_ 9 (.mv (.t 33))]) [] [] [0,1,2,8,9,10] []) (.fin (.reg [u_ 34 (.mv (.t 11)),u_ 10 (.mv (.t 34))]) [] [] [0,1,2,8,9,10] [])) [] [] [0,1,2,8,9,10] [])))) [] [] [0,1,2,8,9,10] [])
def zR:zf:=.seq (.reg [u_ 35 (.mv (.t 9)),u_ 36 (.mv (.t 9)),u_ 37 (.mv (.t 8)),u_ 38 (.bin .lss (.t 36) (.t 37)),u_ 39 (.mv (.t 38)),ug 40 39 true (.mv (.t 2)),ug 41 39 true (.mv (.t 0)),ug 42 39 true (.mv (.t 9)),ug 43 39 true (.iad 3 (.t 41) (.t 42)),ug 44 39 true (.ldn 3 (.t 43)),ug 45 39 true (.mv (.t 1)),ug 46 39 true (.call (.t 40) [.t 44,.t 45]),ug 47 39 true (.bin .eql (.t 46) (.c (.int .i64 0))),u_ 48 (.pick (.t 39) (.t 47) (.c (.bool false))),u_ 6 (.mv (.t 35)),u_ 7 (.mv (.t 48))]) .ret
def yH:zf:=.seq (.reg [u_ 6 (.mv (.c (.int .i64 0))),u_ 7 (.mv (.c (.bool false)))]) (.seq (.reg [u_ 12 (.mv (.t 0)),u_ 13 (.len (.t 12)),u_ 8 (.mv (.t 13))]) (.seq (.reg [u_ 14 (.mv (.t 8)),u_ 9 (.mv (.c (.int .i64 0))),u_ 10 (.mv (.t 14))]) (.seq (.block 0 (.keep [0,1,2,8,9,10] [] (.loop zm))) zR)))
def zw:PFn:=⟨49,[],yH,[.tmp 6,.tmp 7],[.n,.n]⟩
def Qt:zf:=.seq (.reg [(⟨some 2,.box (.t 0),none⟩,⟨.s 3,[]⟩),u_ 4 (.mv (.c (.int .i64 0)))]) (.seq (.reg [u_ 5 (.fad 0 (.t 2)),u_ 6 (.ld (.t 5)),u_ 7 (.mv (.t 1)),u_ 8 (.call (.c (.fn 83 [] [])) [.t 6,.t 7]),u_ 4 (.mv (.t 8))]) .ret)
def jg:PFn:=⟨9,[],Qt,[.tmp 4],[.n]⟩
def ZS:zf:=.seq (.reg [u_ 4 (.mv (.c (.int .i64 0)))]) (.seq (.reg [u_ 7 (.mv (.t 0)),u_ 8 (.call (.c (.fn 87 [] [])) [.t 7]),u_ 5 (.mv (.t 8))]) (.seq (.reg [u_ 9 (.mv (.t 1)),u_ 10 (.call (.c (.fn 87 [] [])) [.t 9]),u_ 6 (.mv (.t 10))]) (.seq (.seq (.reg [u_ 11 (.mv (.t 5))]) (.cond (.t 11) (.seq (.seq (.reg [u_ 12 (.mv (.t 6))]) (.cond (.t 12) (.seq (.reg [u_ 4 (.mv (.c (.int .i64 0)))]) .ret) .skip)) (.seq (.reg [u_ 4 (.mv (.c (.int .i64 (-1))))]) .ret)) .skip)) (.seq (.seq (.reg [u_ 13 (.mv (.t 6))]) (.cond (.t 13) (.seq (.reg [u_ 4 (.mv (.c (.int .i64 1)))]) .ret) .skip)) (.seq (.seq (.reg [u_ 14 (.mv (.t 0)),u_ 15 (.mv (.t 1)),u_ 16 (.bin .lss (.t 14) (.t 15))]) (.cond (.t 16) (.seq (.reg [u_ 4 (.mv (.c (.int .i64 (-1))))]) .ret) .skip)) (.seq (.seq (.reg [u_ 17 (.mv (.t 0)),u_ 18 (.mv (.t 1)),u_ 19 (.bin .gtr (.t 17) (.t 18))]) (.cond (.t 19) (.seq (.reg [u_ 4 (.mv (.c (.int .i64 1)))]) .ret) .skip)) (.seq (.reg [u_ 4 (.mv (.c (.int .i64 0)))]) .ret)))))))
def xV:PFn:=⟨20,[],ZS,[.tmp 4],[.n]⟩
def jV:zf:=.seq (.reg [u_ 4 (.mv (.c (.bool false)))]) (.seq (.reg [u_ 5 (.mv (.t 0)),u_ 6 (.mv (.t 1)),u_ 7 (.call (.c (.fn 88 [] [])) [.t 5,.t 6]),u_ 8 (.bin .geq (.t 7) (.c (.int .i64 0))),u_ 4 (.mv (.t 8))]) .ret)
def ym:PFn:=⟨9,[],jV,[.tmp 4],[.n]⟩
def qo:zf:=.seq (.reg [u_ 24 (.bin .lss (.t 23) (.t 22))]) (.seq (.cond (.t 24) .skip (.keep [] [] (.exit 0))) (.seq (.block 1 (.seq (.reg [u_ 25 (.mv (.t 23)),u_ 26 (.iad 1 (.t 21) (.t 23)),u_ 27 (.ld (.t 26)),u_ 3 (.mv (.t 25)),u_ 4 (.mv (.t 27))]) (.seq (.reg [u_ 28 (.mv (.t 4)),u_ 29 (.bin .lss (.t 28) (.c (.int .i64 1))),u_ 30 (.mv (.t 29)),ug 31 30 false (.mv (.t 4)),ug 32 30 false (.bin .gtr (.t 31) (.c (.int .i64 8))),u_ 33 (.pick (.t 30) (.c (.bool true)) (.t 32)),u_ 34 (.mv (.t 33)),ug 35 34 false (.mv (.t 0)),ug 36 34 false (.mv (.t 3)),ug 37 34 false (.slc 1 (.t 35) none (some (.t 36)) none),ug 38 34 false (.mv (.t 4)),ug 39 34 false (.call (.c (.fn 84 [] [])) [.t 37,.t 38]),u_ 40 (.pick (.t 34) (.c (.bool true)) (.t 39))]) (.cond (.t 40) (.seq (.reg [u_ 41 (.mv (.t 3)),u_ 42 (.build [.int .i64 0] [(0,1,.t 41)]),u_ 43 (.mki 101 (.t 42)),u_ 2 (.mv (.t 43))]) (.keep [2] [] .ret)) .skip)))) (.fin (.reg [u_ 44 (.bin .add (.t 23) (.c (.int .i64 1))),u_ 23 (.mv (.t 44))]) [] [] [0,21,22,23] [])))
def Y2:zf:=.seq (.reg [u_ 2 (.mv (.c .nilifc))]) .ret
def We:zf:=.seq (.reg [u_ 2 (.mv (.c .nilifc))]) (.seq (.seq (.reg [u_ 5 (.mv (.t 0)),u_ 6 (.len (.t 5)),u_ 7 (.bin .lss (.t 6) (.c (.int .i64 1))),u_ 8 (.mv (.t 7)),ug 9 8 false (.mv (.t 0)),ug 10 8 false (.len (.t 9)),ug 11 8 false (.bin .gtr (.t 10) (.c (.int .i64 10))),u_ 12 (.pick (.t 8) (.c (.bool true)) (.t 11)),u_ 13 (.mv (.t 12)),ug 14 13 false (.mv (.t 0)),ug 15 13 false (.iad 1 (.t 14) (.c (.int .i64 0))),ug 16 13 false (.ld (.t 15)),ug 17 13 false (.bin .neq (.t 16) (.c (.int .i64 1))),u_ 18 (.pick (.t 13) (.c (.bool true)) (.t 17))]) (.cond (.t 18) (.seq (.reg [u_ 19 (.build [.int .i64 0] []),u_ 20 (.mki 101 (.t 19)),u_ 2 (.mv (.t 20))]) .ret) .skip)) (.seq (.seq (.reg [u_ 21 (.mv (.t 0)),u_ 22 (.len (.t 21)),u_ 23 (.mv (.c (.int .i64 0)))]) (.block 0 (.keep [0,21,22,23] [] (.loop qo)))) Y2))
def vG:PFn:=⟨45,[],We,[.tmp 2],[.n]⟩
def XJ:zf:=.seq (.reg [u_ 2 (.mv (.c (.bool false)))]) (.seq (.reg [u_ 3 (.mv (.t 0)),u_ 4 (.mv (.t 0)),u_ 5 (.bin .neq (.t 3) (.t 4)),u_ 2 (.mv (.t 5))]) .ret)
def qN:PFn:=⟨6,[],XJ,[.tmp 2],[.n]⟩
def zU:zf:=.seq (.reg [u_ 9 (.bin .lss (.t 8) (.t 7))]) (.seq (.cond (.t 9) .skip (.keep [] [] (.exit 0))) (.seq (.block 1 (.seq (.reg [u_ 10 (.mv (.t 8)),u_ 5 (.mv (.t 10))]) (.seq (.reg [u_ 11 (.mv (.t 1)),u_ 12 (.mv (.t 0)),u_ 13 (.mv (.t 5)),u_ 14 (.iad 1 (.t 12) (.t 13)),u_ 15 (.ld (.t 14)),u_ 16 (.bin .eql (.t 11) (.t 15))]) (.cond (.t 16) (.seq (.reg [u_ 17 (.mv (.t 5)),u_ 4 (.mv (.t 17))]) (.keep [4] [] .ret)) .skip)))) (.fin (.reg [u_ 18 (.bin .add (.t 8) (.c (.int .i64 1))),u_ 8 (.mv (.t 18))]) [] [] [0,1,7,8] [])))
def qp:zf:=.seq (.reg [u_ 4 (.mv (.c (.int .i64 (-1))))]) .ret
def vH:zf:=.seq (.reg [u_ 4 (.mv (.c (.int .i64 0)))]) (.seq (.seq (.reg [u_ 6 (.mv (.t 0)),u_ 7 (.len (.t 6)),u_ 8 (.mv (.c (.int .i64 0)))]) (.block 0 (.keep [0,1,7,8] [] (.loop zU)))) qp)
def yO:PFn:=⟨19,[],vH,[.tmp 4],[.n]⟩
set_option maxRecDepth 100000
def wH:AFn:=⟨82,.seq (.reg [⟨some 0,.mv (.c (.bool false)),none⟩]) (.seq (.reg [⟨some 7,.call (.c (.fn 14 [] [])) [.c (.int (.i64) 3),.c (.int (.i64) 1),.c (.int .i64 0),.c (.int (.i64) 2)],none⟩,⟨some 8,.call (.c (.fn 18 [] [])) [.t 7],none⟩,⟨some 6,.mv (.t 8),none⟩,⟨some 9,.ext (.t 6) 0,none⟩,⟨some 10,.ext (.t 6) 1,none⟩,⟨some 1,.newc [.int .i64 0,.int .i64 0,.int .i64 0,.int .i64 0,.int .i64 0,.int .i64 0,.nils,.int .i64 0,.int .i64 0,.int .i64 0,.int .i64 0,.int .i64 0,.nils],none⟩,⟨none,.st 13 (.t 1) (.t 9),none⟩,⟨some 2,.mv (.t 10),none⟩]) (.seq (.reg [⟨some 12,.ldn 13 (.t 1),none⟩,⟨some 13,.bsl 1 [.int .i64 0] 2 [(0,1,.c (.int (.i64) 1)),(1,1,.c (.int (.i64) 2))],none⟩,⟨some 14,.build [.int .i64 0,.int .i64 0,.int .i64 0,.int .i64 0,.int .i64 0,.int .i64 0,.nils,.int .i64 0,.int .i64 0,.str []] [(0,1,.c (.int (.i64) 2)),(1,1,.c (.int (.i64) 2)),(2,1,.c (.int (.i64) 3)),(3,1,.c (.int (.i64) 1)),(4,1,.c (.int (.i64) 4)),(5,1,.c (.int (.i64) 1)),(6,1,.t 13),(7,1,.c (.int (.i64) 1))],none⟩,⟨some 15,.call (.c (.fn 22 [] [])) [.t 12,.t 14,.c (.int (.i64) 1)],none⟩,⟨some 11,.mv (.t 15),none⟩,⟨some 16,.ext (.t 11) 0,none⟩,⟨some 17,.ext (.t 11) 1,none⟩,⟨some 3,.newc [.int .i64 0,.int .i64 0,.int .i64 0,.int .i64 0,.int .i64 0,.int .i64 0,.nils,.int .i64 0,.int .i64 0,.int .i64 0,.int .i64 0,.int .i64 0,.nils],none⟩,⟨none,.st 13 (.t 3) (.t 16),none⟩,⟨some 4,.mv (.t 17),none⟩]) (.seq (.reg [⟨some 18,.call (.c (.fn 14 [] [])) [.c (.int (.i64) 1),.c (.int (.i64) 1),.c (.int .i64 0),.c (.int .i64 0)],none⟩,⟨some 5,.newc [.int .i64 0,.int .i64 0,.int .i64 0,.int .i64 0,.int .i64 0,.int .i64 0,.nils,.int .i64 0,.int .i64 0,.int .i64 0,.int .i64 0,.int .i64 0,.nils],none⟩,⟨none,.st 13 (.t 5) (.t 18),none⟩]) (.seq (.reg [⟨some 19,.mv (.t 2),none⟩,⟨some 20,.len (.t 19),none⟩,⟨some 21,.bin (.eql) (.t 20) (.c (.int (.i64) 1)),none⟩,⟨some 22,.mv (.t 21),none⟩,⟨some 23,.mv (.t 2),some (22,true)⟩,⟨some 24,.iad 10 (.t 23) (.c (.int .i64 0)),some (22,true)⟩,⟨some 25,.fad 0 (.t 24),some (22,true)⟩,⟨some 26,.ld (.t 25),some (22,true)⟩,⟨some 27,.bin (.eql) (.t 26) (.c (.int (.i64) 1)),some (22,true)⟩,⟨some 28,.pick (.t 22) (.t 27) (.c (.bool false)),none⟩,⟨some 29,.mv (.t 28),none⟩,⟨some 30,.mv (.t 2),some (29,true)⟩,⟨some 31,.iad 10 (.t 30) (.c (.int .i64 0)),some (29,true)⟩,⟨some 32,.fad 2 (.t 31),some (29,true)⟩,⟨some 33,.ld (.t 32),some (29,true)⟩,⟨some 34,.bin (.eql) (.t 33) (.c (.int (.i64) 2)),some (29,true)⟩,⟨some 35,.pick (.t 29) (.t 34) (.c (.bool false)),none⟩,⟨some 36,.mv (.t 35),none⟩,⟨some 37,.fad 9 (.t 1),some (36,true)⟩,⟨some 38,.ld (.t 37),some (36,true)⟩,⟨some 39,.bin (.eql) (.t 38) (.c (.int (.i64) 2)),some (36,true)⟩,⟨some 40,.pick (.t 36) (.t 39) (.c (.bool false)),none⟩,⟨some 41,.mv (.t 40),none⟩,⟨some 42,.fad 3 (.t 3),some (41,true)⟩,⟨some 43,.ld (.t 42),some (41,true)⟩,⟨some 44,.bin (.eql) (.t 43) (.c (.int (.i64) 2)),some (41,true)⟩,⟨some 45,.pick (.t 41) (.t 44) (.c (.bool false)),none⟩,⟨some 46,.mv (.t 45),none⟩,⟨some 47,.fad 6 (.t 3),some (46,true)⟩,⟨some 48,.ld (.t 47),some (46,true)⟩,⟨some 49,.len (.t 48),some (46,true)⟩,⟨some 50,.bin (.eql) (.t 49) (.c (.int (.i64) 3)),some (46,true)⟩,⟨some 51,.pick (.t 46) (.t 50) (.c (.bool false)),none⟩,⟨some 52,.mv (.t 51),none⟩,⟨some 53,.mv (.t 4),some (52,true)⟩,⟨some 54,.len (.t 53),some (52,true)⟩,⟨some 55,.bin (.eql) (.t 54) (.c (.int .i64 0)),some (52,true)⟩,⟨some 56,.pick (.t 52) (.t 55) (.c (.bool false)),none⟩,⟨some 57,.mv (.t 56),none⟩,⟨some 58,.ldn 13 (.t 3),some (57,true)⟩,⟨some 59,.call (.c (.fn 25 [] [])) [.t 58],some (57,true)⟩,⟨some 60,.pick (.t 57) (.t 59) (.c (.bool false)),none⟩,⟨some 61,.mv (.t 60),none⟩,⟨some 62,.ldn 13 (.t 5),some (61,true)⟩,⟨some 63,.call (.c (.fn 25 [] [])) [.t 62],some (61,true)⟩,⟨some 64,.pick (.t 61) (.t 63) (.c (.bool false)),none⟩,⟨some 65,.mv (.t 64),none⟩,⟨some 66,.ldn 13 (.t 1),some (65,true)⟩,⟨some 67,.call (.c (.fn 25 [] [])) [.t 66],some (65,true)⟩,⟨some 68,.un (.not) (.t 67),some (65,true)⟩,⟨some 69,.pick (.t 65) (.t 68) (.c (.bool false)),none⟩,⟨some 70,.mv (.t 69),none⟩,⟨some 71,.fad 6 (.t 5),some (70,true)⟩,⟨some 72,.ld (.t 71),some (70,true)⟩,⟨some 73,.len (.t 72),some (70,true)⟩,⟨some 74,.bin (.eql) (.t 73) (.c (.int (.i64) 1)),some (70,true)⟩,⟨some 75,.pick (.t 70) (.t 74) (.c (.bool false)),none⟩,⟨some 76,.mv (.t 75),none⟩,⟨some 77,.ldn 13 (.t 3),some (76,true)⟩,⟨some 78,.call (.c (.fn 27 [] [])) [.t 77],some (76,true)⟩,⟨some 79,.len (.t 78),some (76,true)⟩,⟨some 80,.bin (.eql) (.t 79) (.c (.int (.i64) 1)),some (76,true)⟩,⟨some 81,.pick (.t 76) (.t 80) (.c (.bool false)),none⟩,⟨some 0,.mv (.t 81),none⟩]) (.ret))))),[.tmp 0]⟩
def v9:AFn:=⟨8,.seq (.reg [⟨some 2,.mv (.c (.nils)),none⟩]) (.seq (.seq (.reg [⟨some 3,.mv (.t 0),none⟩,⟨some 4,.eqn false 0 (.t 3),none⟩]) (.cond (.t 4) (.seq (.reg [⟨some 2,.mv (.c (.nils)),none⟩]) (.ret)) (.skip))) (.seq (.reg [⟨some 5,.bsl 1 [.int .i64 0] 0 [],none⟩,⟨some 6,.mv (.t 0),none⟩,⟨some 7,.app 1 8 [.int .i64 0] (.t 5) (.t 6),none⟩,⟨some 2,.mv (.t 7),none⟩]) (.ret))),[.tmp 2]⟩
def qx:AFn:=⟨8,.seq (.reg [⟨some 2,.mv (.c (.nils)),none⟩]) (.seq (.seq (.reg [⟨some 3,.mv (.t 0),none⟩,⟨some 4,.eqn false 0 (.t 3),none⟩]) (.cond (.t 4) (.seq (.reg [⟨some 2,.mv (.c (.nils)),none⟩]) (.ret)) (.skip))) (.seq (.reg [⟨some 5,.bsl 3 [.int .i64 0,.int .i64 0,.int .i64 0] 0 [],none⟩,⟨some 6,.mv (.t 0),none⟩,⟨some 7,.app 3 24 [.int .i64 0,.int .i64 0,.int .i64 0] (.t 5) (.t 6),none⟩,⟨some 2,.mv (.t 7),none⟩]) (.ret))),[.tmp 2]⟩
theorem Xe:zh Try.prog 4∧∃ fn,Try.prog.funcs[4]? = some fn∧dFn Try.prog fn=some (yX.un):=⟨⟨_,_,Try.func4,rfl,by kernel_rfl⟩,_,Try.func4,by kernel_rfl⟩
theorem Xf:yX.ok=true:=by kernel_rfl
theorem JC:zh Try.prog 12∧∃ fn,Try.prog.funcs[12]? = some fn∧dFn Try.prog fn=some (xN.un):=⟨⟨_,_,Try.func12,rfl,by kernel_rfl⟩,_,Try.func12,by kernel_rfl⟩
theorem JD:xN.ok=true:=by kernel_rfl
theorem Yq:zh Try.prog 13∧∃ fn,Try.prog.funcs[13]? = some fn∧dFn Try.prog fn=some (yM.un):=⟨⟨_,_,Try.func13,rfl,by kernel_rfl⟩,_,Try.func13,by kernel_rfl⟩
theorem Yr:yM.ok=true:=by kernel_rfl
theorem z5g:zh Try.prog 14∧∃ fn,Try.prog.funcs[14]? = some fn∧dFn Try.prog fn=some (Zj.un):=⟨⟨_,_,Try.func14,rfl,by kernel_rfl⟩,_,Try.func14,by kernel_rfl⟩
theorem z5h:Zj.ok=true:=by kernel_rfl
theorem Y3:zh Try.prog 17∧∃ fn,Try.prog.funcs[17]? = some fn∧dFn Try.prog fn=some (yC.un):=⟨⟨_,_,Try.func17,rfl,by kernel_rfl⟩,_,Try.func17,by kernel_rfl⟩
theorem Y4:yC.ok=true:=by kernel_rfl
theorem z3C:zh Try.prog 18∧∃ fn,Try.prog.funcs[18]? = some fn∧dFn Try.prog fn=some (wx.un):=⟨⟨_,_,Try.func18,rfl,by kernel_rfl⟩,_,Try.func18,by kernel_rfl⟩
theorem z3D:wx.ok=true:=by kernel_rfl
theorem Ys:zh Try.prog 20∧∃ fn,Try.prog.funcs[20]? = some fn∧dFn Try.prog fn=some (yN.un):=⟨⟨_,_,Try.func20,rfl,by kernel_rfl⟩,_,Try.func20,by kernel_rfl⟩
theorem Yt:yN.ok=true:=by kernel_rfl
theorem Y5:zh Try.prog 21∧∃ fn,Try.prog.funcs[21]? = some fn∧dFn Try.prog fn=some (yD.un):=⟨⟨_,_,Try.func21,rfl,by kernel_rfl⟩,_,Try.func21,by kernel_rfl⟩
theorem Y6:yD.ok=true:=by kernel_rfl
theorem z2u:zh Try.prog 22∧∃ fn,Try.prog.funcs[22]? = some fn∧dFn Try.prog fn=some (vz.un):=⟨⟨_,_,Try.func22,rfl,by kernel_rfl⟩,_,Try.func22,by kernel_rfl⟩
theorem z2v:vz.ok=true:=by kernel_rfl
theorem z2w:zh Try.prog 25∧∃ fn,Try.prog.funcs[25]? = some fn∧dFn Try.prog fn=some (vA.un):=⟨⟨_,_,Try.func25,rfl,by kernel_rfl⟩,_,Try.func25,by kernel_rfl⟩
theorem z2x:vA.ok=true:=by kernel_rfl
theorem z2y:zh Try.prog 27∧∃ fn,Try.prog.funcs[27]? = some fn∧dFn Try.prog fn=some (Z3.un):=⟨⟨_,_,Try.func27,rfl,by kernel_rfl⟩,_,Try.func27,by kernel_rfl⟩
theorem z2z:Z3.ok=true:=by kernel_rfl
theorem XM:zh Try.prog 29∧∃ fn,Try.prog.funcs[29]? = some fn∧dFn Try.prog fn=some (xc.un):=⟨⟨_,_,Try.func29,rfl,by kernel_rfl⟩,_,Try.func29,by kernel_rfl⟩
theorem XN:xc.ok=true:=by kernel_rfl
theorem XO:zh Try.prog 30∧∃ fn,Try.prog.funcs[30]? = some fn∧dFn Try.prog fn=some (xd.un):=⟨⟨_,_,Try.func30,rfl,by kernel_rfl⟩,_,Try.func30,by kernel_rfl⟩
theorem XP:xd.ok=true:=by kernel_rfl
theorem XQ:zh Try.prog 31∧∃ fn,Try.prog.funcs[31]? = some fn∧dFn Try.prog fn=some (xe.un):=⟨⟨_,_,Try.func31,rfl,by kernel_rfl⟩,_,Try.func31,by kernel_rfl⟩
theorem XR:xe.ok=true:=by kernel_rfl
theorem Kr:zh Try.prog 32∧∃ fn,Try.prog.funcs[32]? = some fn∧dFn Try.prog fn=some (qd.un):=⟨⟨_,_,Try.func32,rfl,by kernel_rfl⟩,_,Try.func32,by kernel_rfl⟩
theorem Ks:qd.ok=true:=by kernel_rfl
theorem XS:zh Try.prog 35∧∃ fn,Try.prog.funcs[35]? = some fn∧dFn Try.prog fn=some (xf.un):=⟨⟨_,_,Try.func35,rfl,by kernel_rfl⟩,_,Try.func35,by kernel_rfl⟩
theorem XT:xf.ok=true:=by kernel_rfl
theorem Xg:zh Try.prog 36∧∃ fn,Try.prog.funcs[36]? = some fn∧dFn Try.prog fn=some (yY.un):=⟨⟨_,_,Try.func36,rfl,by kernel_rfl⟩,_,Try.func36,by kernel_rfl⟩
theorem Xh:yY.ok=true:=by kernel_rfl
theorem z6N:zh Try.prog 38∧∃ fn,Try.prog.funcs[38]? = some fn∧dFn Try.prog fn=some (Ym.un):=⟨⟨_,_,Try.func38,rfl,by kernel_rfl⟩,_,Try.func38,by kernel_rfl⟩
theorem z6O:Ym.ok=true:=by kernel_rfl
theorem z17:zh Try.prog 39∧∃ fn,Try.prog.funcs[39]? = some fn∧dFn Try.prog fn=some (kp.un):=⟨⟨_,_,Try.func39,rfl,by kernel_rfl⟩,_,Try.func39,by kernel_rfl⟩
theorem z18:kp.ok=true:=by kernel_rfl
theorem Vp:zh Try.prog 40∧∃ fn,Try.prog.funcs[40]? = some fn∧dFn Try.prog fn=some (qK.un):=⟨⟨_,_,Try.func40,rfl,by kernel_rfl⟩,_,Try.func40,by kernel_rfl⟩
theorem Vq:qK.ok=true:=by kernel_rfl
theorem Vr:zh Try.prog 41∧∃ fn,Try.prog.funcs[41]? = some fn∧dFn Try.prog fn=some (qL.un):=⟨⟨_,_,Try.func41,rfl,by kernel_rfl⟩,_,Try.func41,by kernel_rfl⟩
theorem Vs:qL.ok=true:=by kernel_rfl
theorem Kt:zh Try.prog 42∧∃ fn,Try.prog.funcs[42]? = some fn∧dFn Try.prog fn=some (qe.un):=⟨⟨_,_,Try.func42,rfl,by kernel_rfl⟩,_,Try.func42,by kernel_rfl⟩
theorem Ku:qe.ok=true:=by kernel_rfl
theorem Y7:zh Try.prog 47∧∃ fn,Try.prog.funcs[47]? = some fn∧dFn Try.prog fn=some (yE.un):=⟨⟨_,_,Try.func47,rfl,by kernel_rfl⟩,_,Try.func47,by kernel_rfl⟩
theorem Y8:yE.ok=true:=by kernel_rfl
theorem z3E:zh Try.prog 48∧∃ fn,Try.prog.funcs[48]? = some fn∧dFn Try.prog fn=some (wD.un):=⟨⟨_,_,Try.func48,rfl,by kernel_rfl⟩,_,Try.func48,by kernel_rfl⟩
theorem z3F:wD.ok=true:=by kernel_rfl
theorem JE:zh Try.prog 49∧∃ fn,Try.prog.funcs[49]? = some fn∧dFn Try.prog fn=some (xO.un):=⟨⟨_,_,Try.func49,rfl,by kernel_rfl⟩,_,Try.func49,by kernel_rfl⟩
theorem JF:xO.ok=true:=by kernel_rfl
theorem JG:zh Try.prog 50∧∃ fn,Try.prog.funcs[50]? = some fn∧dFn Try.prog fn=some (xP.un):=⟨⟨_,_,Try.func50,rfl,by kernel_rfl⟩,_,Try.func50,by kernel_rfl⟩
theorem JH:xP.ok=true:=by kernel_rfl
theorem JI:zh Try.prog 51∧∃ fn,Try.prog.funcs[51]? = some fn∧dFn Try.prog fn=some (xQ.un):=⟨⟨_,_,Try.func51,rfl,by kernel_rfl⟩,_,Try.func51,by kernel_rfl⟩
theorem JJ:xQ.ok=true:=by kernel_rfl
theorem JK:zh Try.prog 52∧∃ fn,Try.prog.funcs[52]? = some fn∧dFn Try.prog fn=some (xR.un):=⟨⟨_,_,Try.func52,rfl,by kernel_rfl⟩,_,Try.func52,by kernel_rfl⟩
theorem JL:xR.ok=true:=by kernel_rfl
theorem JM:zh Try.prog 53∧∃ fn,Try.prog.funcs[53]? = some fn∧dFn Try.prog fn=some (xS.un):=⟨⟨_,_,Try.func53,rfl,by kernel_rfl⟩,_,Try.func53,by kernel_rfl⟩
theorem JN:xS.ok=true:=by kernel_rfl
theorem z2A:zh Try.prog 54∧∃ fn,Try.prog.funcs[54]? = some fn∧dFn Try.prog fn=some (vC.un):=⟨⟨_,_,Try.func54,rfl,by kernel_rfl⟩,_,Try.func54,by kernel_rfl⟩
theorem z2B:vC.ok=true:=by kernel_rfl
theorem Xi:zh Try.prog 60∧∃ fn,Try.prog.funcs[60]? = some fn∧dFn Try.prog fn=some (yZ.un):=⟨⟨_,_,Try.func60,rfl,by kernel_rfl⟩,_,Try.func60,by kernel_rfl⟩
theorem Xj:yZ.ok=true:=by kernel_rfl
theorem Kv:zh Try.prog 61∧∃ fn,Try.prog.funcs[61]? = some fn∧dFn Try.prog fn=some (qf.un):=⟨⟨_,_,Try.func61,rfl,by kernel_rfl⟩,_,Try.func61,by kernel_rfl⟩
theorem Kw:qf.ok=true:=by kernel_rfl
theorem JO:zh Try.prog 62∧∃ fn,Try.prog.funcs[62]? = some fn∧dFn Try.prog fn=some (xT.un):=⟨⟨_,_,Try.func62,rfl,by kernel_rfl⟩,_,Try.func62,by kernel_rfl⟩
theorem JP:xT.ok=true:=by kernel_rfl
theorem XU:zh Try.prog 63∧∃ fn,Try.prog.funcs[63]? = some fn∧dFn Try.prog fn=some (q6.un):=⟨⟨_,_,Try.func63,rfl,by kernel_rfl⟩,_,Try.func63,by kernel_rfl⟩
theorem XV:q6.ok=true:=by kernel_rfl
theorem kf:zh Try.prog 66∧∃ fn,Try.prog.funcs[66]? = some fn∧dFn Try.prog fn=some (zJ.un):=⟨⟨_,_,Try.func66,rfl,by kernel_rfl⟩,_,Try.func66,by kernel_rfl⟩
theorem kg:zJ.ok=true:=by kernel_rfl
theorem Wz:zh Try.prog 67∧∃ fn,Try.prog.funcs[67]? = some fn∧dFn Try.prog fn=some (je.un):=⟨⟨_,_,Try.func67,rfl,by kernel_rfl⟩,_,Try.func67,by kernel_rfl⟩
theorem WA:je.ok=true:=by kernel_rfl
theorem z2C:zh Try.prog 68∧∃ fn,Try.prog.funcs[68]? = some fn∧dFn Try.prog fn=some (vD.un):=⟨⟨_,_,Try.func68,rfl,by kernel_rfl⟩,_,Try.func68,by kernel_rfl⟩
theorem z2D:vD.ok=true:=by kernel_rfl
theorem Vt:zh Try.prog 69∧∃ fn,Try.prog.funcs[69]? = some fn∧dFn Try.prog fn=some (qM.un):=⟨⟨_,_,Try.func69,rfl,by kernel_rfl⟩,_,Try.func69,by kernel_rfl⟩
theorem Vu:qM.ok=true:=by kernel_rfl
theorem Kx:zh Try.prog 70∧∃ fn,Try.prog.funcs[70]? = some fn∧dFn Try.prog fn=some (qh.un):=⟨⟨_,_,Try.func70,rfl,by kernel_rfl⟩,_,Try.func70,by kernel_rfl⟩
theorem Ky:qh.ok=true:=by kernel_rfl
theorem z3G:zh Try.prog 71∧∃ fn,Try.prog.funcs[71]? = some fn∧dFn Try.prog fn=some (wE.un):=⟨⟨_,_,Try.func71,rfl,by kernel_rfl⟩,_,Try.func71,by kernel_rfl⟩
theorem z3H:wE.ok=true:=by kernel_rfl
theorem WB:zh Try.prog 72∧∃ fn,Try.prog.funcs[72]? = some fn∧dFn Try.prog fn=some (jf.un):=⟨⟨_,_,Try.func72,rfl,by kernel_rfl⟩,_,Try.func72,by kernel_rfl⟩
theorem WC:jf.ok=true:=by kernel_rfl
theorem z0m:zh Try.prog 73∧∃ fn,Try.prog.funcs[73]? = some fn∧dFn Try.prog fn=some (jF.un):=⟨⟨_,_,Try.func73,rfl,by kernel_rfl⟩,_,Try.func73,by kernel_rfl⟩
theorem z0n:jF.ok=true:=by kernel_rfl
theorem kt:zh Try.prog 75∧∃ fn,Try.prog.funcs[75]? = some fn∧dFn Try.prog fn=some (zK.un):=⟨⟨_,_,Try.func75,rfl,by kernel_rfl⟩,_,Try.func75,by kernel_rfl⟩
theorem ku:zK.ok=true:=by kernel_rfl
theorem z19:zh Try.prog 76∧∃ fn,Try.prog.funcs[76]? = some fn∧dFn Try.prog fn=some (kq.un):=⟨⟨_,_,Try.func76,rfl,by kernel_rfl⟩,_,Try.func76,by kernel_rfl⟩
theorem z1a:kq.ok=true:=by kernel_rfl
theorem z3I:zh Try.prog 77∧∃ fn,Try.prog.funcs[77]? = some fn∧dFn Try.prog fn=some (wF.un):=⟨⟨_,_,Try.func77,rfl,by kernel_rfl⟩,_,Try.func77,by kernel_rfl⟩
theorem z3J:wF.ok=true:=by kernel_rfl
theorem z2E:zh Try.prog 78∧∃ fn,Try.prog.funcs[78]? = some fn∧dFn Try.prog fn=some (vF.un):=⟨⟨_,_,Try.func78,rfl,by kernel_rfl⟩,_,Try.func78,by kernel_rfl⟩
theorem z2F:vF.ok=true:=by kernel_rfl
theorem z3K:zh Try.prog 79∧∃ fn,Try.prog.funcs[79]? = some fn∧dFn Try.prog fn=some (wG.un):=⟨⟨_,_,Try.func79,rfl,by kernel_rfl⟩,_,Try.func79,by kernel_rfl⟩
theorem z3L:wG.ok=true:=by kernel_rfl
theorem z1b:zh Try.prog 80∧∃ fn,Try.prog.funcs[80]? = some fn∧dFn Try.prog fn=some (kr.un):=⟨⟨_,_,Try.func80,rfl,by kernel_rfl⟩,_,Try.func80,by kernel_rfl⟩
theorem z1c:kr.ok=true:=by kernel_rfl
theorem qr:zh Try.prog 81∧∃ fn,Try.prog.funcs[81]? = some fn∧dFn Try.prog fn=some (zw.un):=⟨⟨_,_,Try.func81,rfl,by kernel_rfl⟩,_,Try.func81,by kernel_rfl⟩
theorem qt:zw.ok=true:=by kernel_rfl
theorem WD:zh Try.prog 82∧∃ fn,Try.prog.funcs[82]? = some fn∧dFn Try.prog fn=some (jg.un):=⟨⟨_,_,Try.func82,rfl,by kernel_rfl⟩,_,Try.func82,by kernel_rfl⟩
theorem WE:jg.ok=true:=by kernel_rfl
theorem JQ:zh Try.prog 83∧∃ fn,Try.prog.funcs[83]? = some fn∧dFn Try.prog fn=some (xV.un):=⟨⟨_,_,Try.func83,rfl,by kernel_rfl⟩,_,Try.func83,by kernel_rfl⟩
theorem JR:xV.ok=true:=by kernel_rfl
theorem Zk:zh Try.prog 84∧∃ fn,Try.prog.funcs[84]? = some fn∧dFn Try.prog fn=some (ym.un):=⟨⟨_,_,Try.func84,rfl,by kernel_rfl⟩,_,Try.func84,by kernel_rfl⟩
theorem Zl:ym.ok=true:=by kernel_rfl
theorem z2G:zh Try.prog 86∧∃ fn,Try.prog.funcs[86]? = some fn∧dFn Try.prog fn=some (vG.un):=⟨⟨_,_,Try.func86,rfl,by kernel_rfl⟩,_,Try.func86,by kernel_rfl⟩
theorem z2H:vG.ok=true:=by kernel_rfl
theorem Vv:zh Try.prog 87∧∃ fn,Try.prog.funcs[87]? = some fn∧dFn Try.prog fn=some (qN.un):=⟨⟨_,_,Try.func87,rfl,by kernel_rfl⟩,_,Try.func87,by kernel_rfl⟩
theorem Vw:qN.ok=true:=by kernel_rfl
theorem Yu:zh Try.prog 88∧∃ fn,Try.prog.funcs[88]? = some fn∧dFn Try.prog fn=some (yO.un):=⟨⟨_,_,Try.func88,rfl,by kernel_rfl⟩,_,Try.func88,by kernel_rfl⟩
theorem Yv:yO.ok=true:=by kernel_rfl
theorem Yw:zh Try.prog 64∧∃ fn,Try.prog.funcs[64]? = some fn∧dFn Try.prog fn=some (v9):=⟨⟨_,_,Try.func64,rfl,by kernel_rfl⟩,_,Try.func64,by kernel_rfl⟩
theorem vM:zh Try.prog 65∧∃ fn,Try.prog.funcs[65]? = some fn∧dFn Try.prog fn=some (qx):=⟨⟨_,_,Try.func65,rfl,by kernel_rfl⟩,_,Try.func65,by kernel_rfl⟩
theorem Qu:zh Try.prog 11∧∃ fn,Try.prog.funcs[11]? = some fn∧dFn Try.prog fn=some (wH):=⟨⟨_,_,Try.func11,rfl,by kernel_rfl⟩,_,Try.func11,by kernel_rfl⟩
def z8y:Nat→Option AFn
 | 4=>some yX.un
 | 12=>some xN.un
 | 13=>some yM.un
 | 14=>some Zj.un
 | 17=>some yC.un
 | 18=>some wx.un
 | 20=>some yN.un
 | 21=>some yD.un
 | 22=>some vz.un
 | 25=>some vA.un
 | 27=>some Z3.un
 | 29=>some xc.un
 | 30=>some xd.un
 | 31=>some xe.un
 | 32=>some qd.un
 | 35=>some xf.un
 | 36=>some yY.un
 | 38=>some Ym.un
 | 39=>some kp.un
 | 40=>some qK.un
 | 41=>some qL.un
 | 42=>some qe.un
 | 47=>some yE.un
 | 48=>some wD.un
 | 49=>some xO.un
 | 50=>some xP.un
 | 51=>some xQ.un
 | 52=>some xR.un
 | 53=>some xS.un
 | 54=>some vC.un
 | 60=>some yZ.un
 | 61=>some qf.un
 | 62=>some xT.un
 | 63=>some q6.un
 | 66=>some zJ.un
 | 67=>some je.un
 | 68=>some vD.un
 | 69=>some qM.un
 | 70=>some qh.un
 | 71=>some wE.un
 | 72=>some jf.un
 | 73=>some jF.un
 | 75=>some zK.un
 | 76=>some kq.un
 | 77=>some wF.un
 | 78=>some vF.un
 | 79=>some wG.un
 | 80=>some kr.un
 | 81=>some zw.un
 | 82=>some jg.un
 | 83=>some xV.un
 | 84=>some ym.un
 | 86=>some vG.un
 | 87=>some qN.un
 | 88=>some yO.un
 | 64=>some v9
 | 65=>some qx
 | 11=>some wH
 | _=>none
def zaV:Nat→Option PFn
 | 4=>some yX
 | 12=>some xN
 | 13=>some yM
 | 14=>some Zj
 | 17=>some yC
 | 18=>some wx
 | 20=>some yN
 | 21=>some yD
 | 22=>some vz
 | 25=>some vA
 | 27=>some Z3
 | 29=>some xc
 | 30=>some xd
 | 31=>some xe
 | 32=>some qd
 | 35=>some xf
 | 36=>some yY
 | 38=>some Ym
 | 39=>some kp
 | 40=>some qK
 | 41=>some qL
 | 42=>some qe
 | 47=>some yE
 | 48=>some wD
 | 49=>some xO
 | 50=>some xP
 | 51=>some xQ
 | 52=>some xR
 | 53=>some xS
 | 54=>some vC
 | 60=>some yZ
 | 61=>some qf
 | 62=>some xT
 | 63=>some q6
 | 1000066=>some zJ
 | 67=>some je
 | 68=>some vD
 | 69=>some qM
 | 70=>some qh
 | 71=>some wE
 | 72=>some jf
 | 73=>some jF
 | 75=>some zK
 | 76=>some kq
 | 77=>some wF
 | 78=>some vF
 | 79=>some wG
 | 80=>some kr
 | 81=>some zw
 | 82=>some jg
 | 83=>some xV
 | 84=>some ym
 | 86=>some vG
 | 87=>some qN
 | 88=>some yO
 | _=>none
abbrev jU:=List (Nat × (List AV→z3→Option (AV × z3)))
def env (s:jU):Env:=⟨z8y,fun f=>s.lookup f⟩
def kJ (s:jU):Prop:=∀ p ∈ s,xM Try.prog p.1 p.2
theorem JB {s:jU} {f:Nat} {g:List AV→z3→Option (AV × z3)} (h:s.lookup f=some g):(f,g) ∈ s:=by
 induction s with
 | nil=>cases h
 | cons p l ih =>
  obtain⟨a,b⟩:=p
  rw [List.lookup_cons] at h
  split at h
  ·rename_i e
   obtain rfl:=Option.some.inj h
   rw [eq_of_beq e]
   exact List.mem_cons_self
  ·exact List.mem_cons_of_mem _ (ih h)
theorem z57:kJ []:=fun p h=>by cases h
theorem WU {n:Nat} {g:List AV→z3→Option (AV × z3)} {s:jU} (h:xM Try.prog n g) (hs:kJ s):kJ ((n,g)::s):=fun p hp=>by
 rcases List.mem_cons.1 hp with rfl | hp
 ·exact h
 ·exact hs p hp
theorem z3x {s:jU} (hs:kJ s):W7 Try.prog (env s):=by
 refine⟨Try.checked.mixed,fun f af h=>?_,fun f g h=>hs _ (JB h)⟩
 change z8y f=some af at h
 unfold z8y at h
 split at h
 ·obtain rfl:=Option.some.inj h;exact Xe
 ·obtain rfl:=Option.some.inj h;exact JC
 ·obtain rfl:=Option.some.inj h;exact Yq
 ·obtain rfl:=Option.some.inj h;exact z5g
 ·obtain rfl:=Option.some.inj h;exact Y3
 ·obtain rfl:=Option.some.inj h;exact z3C
 ·obtain rfl:=Option.some.inj h;exact Ys
 ·obtain rfl:=Option.some.inj h;exact Y5
 ·obtain rfl:=Option.some.inj h;exact z2u
 ·obtain rfl:=Option.some.inj h;exact z2w
 ·obtain rfl:=Option.some.inj h;exact z2y
 ·obtain rfl:=Option.some.inj h;exact XM
 ·obtain rfl:=Option.some.inj h;exact XO
 ·obtain rfl:=Option.some.inj h;exact XQ
 ·obtain rfl:=Option.some.inj h;exact Kr
 ·obtain rfl:=Option.some.inj h;exact XS
 ·obtain rfl:=Option.some.inj h;exact Xg
 ·obtain rfl:=Option.some.inj h;exact z6N
 ·obtain rfl:=Option.some.inj h;exact z17
 ·obtain rfl:=Option.some.inj h;exact Vp
 ·obtain rfl:=Option.some.inj h;exact Vr
 ·obtain rfl:=Option.some.inj h;exact Kt
 ·obtain rfl:=Option.some.inj h;exact Y7
 ·obtain rfl:=Option.some.inj h;exact z3E
 ·obtain rfl:=Option.some.inj h;exact JE
 ·obtain rfl:=Option.some.inj h;exact JG
 ·obtain rfl:=Option.some.inj h;exact JI
 ·obtain rfl:=Option.some.inj h;exact JK
 ·obtain rfl:=Option.some.inj h;exact JM
 ·obtain rfl:=Option.some.inj h;exact z2A
 ·obtain rfl:=Option.some.inj h;exact Xi
 ·obtain rfl:=Option.some.inj h;exact Kv
 ·obtain rfl:=Option.some.inj h;exact JO
 ·obtain rfl:=Option.some.inj h;exact XU
 ·obtain rfl:=Option.some.inj h;exact kf
 ·obtain rfl:=Option.some.inj h;exact Wz
 ·obtain rfl:=Option.some.inj h;exact z2C
 ·obtain rfl:=Option.some.inj h;exact Vt
 ·obtain rfl:=Option.some.inj h;exact Kx
 ·obtain rfl:=Option.some.inj h;exact z3G
 ·obtain rfl:=Option.some.inj h;exact WB
 ·obtain rfl:=Option.some.inj h;exact z0m
 ·obtain rfl:=Option.some.inj h;exact kt
 ·obtain rfl:=Option.some.inj h;exact z19
 ·obtain rfl:=Option.some.inj h;exact z3I
 ·obtain rfl:=Option.some.inj h;exact z2E
 ·obtain rfl:=Option.some.inj h;exact z3K
 ·obtain rfl:=Option.some.inj h;exact z1b
 ·obtain rfl:=Option.some.inj h;exact qr
 ·obtain rfl:=Option.some.inj h;exact WD
 ·obtain rfl:=Option.some.inj h;exact JQ
 ·obtain rfl:=Option.some.inj h;exact Zk
 ·obtain rfl:=Option.some.inj h;exact z2G
 ·obtain rfl:=Option.some.inj h;exact Vv
 ·obtain rfl:=Option.some.inj h;exact Yu
 ·obtain rfl:=Option.some.inj h;exact Yw
 ·obtain rfl:=Option.some.inj h;exact vM
 ·obtain rfl:=Option.some.inj h;exact Qu
 ·cases h
theorem fok (s:jU):FOk (env s):=by
 intro f af h
 change z8y f=some af at h
 unfold z8y at h
 split at h
 ·obtain rfl:=Option.some.inj h;kernel_rfl
 ·obtain rfl:=Option.some.inj h;kernel_rfl
 ·obtain rfl:=Option.some.inj h;kernel_rfl
 ·obtain rfl:=Option.some.inj h;kernel_rfl
 ·obtain rfl:=Option.some.inj h;kernel_rfl
 ·obtain rfl:=Option.some.inj h;kernel_rfl
 ·obtain rfl:=Option.some.inj h;kernel_rfl
 ·obtain rfl:=Option.some.inj h;kernel_rfl
 ·obtain rfl:=Option.some.inj h;kernel_rfl
 ·obtain rfl:=Option.some.inj h;kernel_rfl
 ·obtain rfl:=Option.some.inj h;kernel_rfl
 ·obtain rfl:=Option.some.inj h;kernel_rfl
 ·obtain rfl:=Option.some.inj h;kernel_rfl
 ·obtain rfl:=Option.some.inj h;kernel_rfl
 ·obtain rfl:=Option.some.inj h;kernel_rfl
 ·obtain rfl:=Option.some.inj h;kernel_rfl
 ·obtain rfl:=Option.some.inj h;kernel_rfl
 ·obtain rfl:=Option.some.inj h;kernel_rfl
 ·obtain rfl:=Option.some.inj h;kernel_rfl
 ·obtain rfl:=Option.some.inj h;kernel_rfl
 ·obtain rfl:=Option.some.inj h;kernel_rfl
 ·obtain rfl:=Option.some.inj h;kernel_rfl
 ·obtain rfl:=Option.some.inj h;kernel_rfl
 ·obtain rfl:=Option.some.inj h;kernel_rfl
 ·obtain rfl:=Option.some.inj h;kernel_rfl
 ·obtain rfl:=Option.some.inj h;kernel_rfl
 ·obtain rfl:=Option.some.inj h;kernel_rfl
 ·obtain rfl:=Option.some.inj h;kernel_rfl
 ·obtain rfl:=Option.some.inj h;kernel_rfl
 ·obtain rfl:=Option.some.inj h;kernel_rfl
 ·obtain rfl:=Option.some.inj h;kernel_rfl
 ·obtain rfl:=Option.some.inj h;kernel_rfl
 ·obtain rfl:=Option.some.inj h;kernel_rfl
 ·obtain rfl:=Option.some.inj h;kernel_rfl
 ·obtain rfl:=Option.some.inj h;kernel_rfl
 ·obtain rfl:=Option.some.inj h;kernel_rfl
 ·obtain rfl:=Option.some.inj h;kernel_rfl
 ·obtain rfl:=Option.some.inj h;kernel_rfl
 ·obtain rfl:=Option.some.inj h;kernel_rfl
 ·obtain rfl:=Option.some.inj h;kernel_rfl
 ·obtain rfl:=Option.some.inj h;kernel_rfl
 ·obtain rfl:=Option.some.inj h;kernel_rfl
 ·obtain rfl:=Option.some.inj h;kernel_rfl
 ·obtain rfl:=Option.some.inj h;kernel_rfl
 ·obtain rfl:=Option.some.inj h;kernel_rfl
 ·obtain rfl:=Option.some.inj h;kernel_rfl
 ·obtain rfl:=Option.some.inj h;kernel_rfl
 ·obtain rfl:=Option.some.inj h;kernel_rfl
 ·obtain rfl:=Option.some.inj h;kernel_rfl
 ·obtain rfl:=Option.some.inj h;kernel_rfl
 ·obtain rfl:=Option.some.inj h;kernel_rfl
 ·obtain rfl:=Option.some.inj h;kernel_rfl
 ·obtain rfl:=Option.some.inj h;kernel_rfl
 ·obtain rfl:=Option.some.inj h;kernel_rfl
 ·obtain rfl:=Option.some.inj h;kernel_rfl
 ·obtain rfl:=Option.some.inj h;kernel_rfl
 ·obtain rfl:=Option.some.inj h;kernel_rfl
 ·obtain rfl:=Option.some.inj h;kernel_rfl
 ·cases h
abbrev zi:=List (Nat × (List AV→Option AV))
def z8 (s:zi):z0w:=⟨zaV,fun f=>s.lookup f⟩
def zV:List Nat:=[4,12,13,14,17,18,20,21,22,25,27,29,30,31,32,35,36,38,39,40,41,42,47,48,49,50,51,52,53,54,60,61,62,63,66,67,68,69,70,71,72,73,75,76,77,78,79,80,81,82,83,84,86,87,88]
theorem zaW {s:jU} {p:zi} (h0:∀ n ∈ zV,s.lookup n=none) (hp:∀ q ∈ p,Z5 (env s) q.1 q.2):VV (env s) (z8 p):=by
 refine⟨fun f fn h=>?_,fun f g h=>?_⟩
 ·have hb:=h0
  change zaV f=some fn at h
  unfold zaV at h
  split at h
  ·obtain rfl:=Option.some.inj h;exact⟨Xf,hb 4 (by simp [zV]),rfl,fun _=>rfl,fun h=>absurd h (by decide)⟩
  ·obtain rfl:=Option.some.inj h;exact⟨JD,hb 12 (by simp [zV]),rfl,fun _=>rfl,fun h=>absurd h (by decide)⟩
  ·obtain rfl:=Option.some.inj h;exact⟨Yr,hb 13 (by simp [zV]),rfl,fun _=>rfl,fun h=>absurd h (by decide)⟩
  ·obtain rfl:=Option.some.inj h;exact⟨z5h,hb 14 (by simp [zV]),rfl,fun _=>rfl,fun h=>absurd h (by decide)⟩
  ·obtain rfl:=Option.some.inj h;exact⟨Y4,hb 17 (by simp [zV]),rfl,fun _=>rfl,fun h=>absurd h (by decide)⟩
  ·obtain rfl:=Option.some.inj h;exact⟨z3D,hb 18 (by simp [zV]),rfl,fun _=>rfl,fun h=>absurd h (by decide)⟩
  ·obtain rfl:=Option.some.inj h;exact⟨Yt,hb 20 (by simp [zV]),rfl,fun _=>rfl,fun h=>absurd h (by decide)⟩
  ·obtain rfl:=Option.some.inj h;exact⟨Y6,hb 21 (by simp [zV]),rfl,fun _=>rfl,fun h=>absurd h (by decide)⟩
  ·obtain rfl:=Option.some.inj h;exact⟨z2v,hb 22 (by simp [zV]),rfl,fun _=>rfl,fun h=>absurd h (by decide)⟩
  ·obtain rfl:=Option.some.inj h;exact⟨z2x,hb 25 (by simp [zV]),rfl,fun _=>rfl,fun h=>absurd h (by decide)⟩
  ·obtain rfl:=Option.some.inj h;exact⟨z2z,hb 27 (by simp [zV]),rfl,fun _=>rfl,fun h=>absurd h (by decide)⟩
  ·obtain rfl:=Option.some.inj h;exact⟨XN,hb 29 (by simp [zV]),rfl,fun _=>rfl,fun h=>absurd h (by decide)⟩
  ·obtain rfl:=Option.some.inj h;exact⟨XP,hb 30 (by simp [zV]),rfl,fun _=>rfl,fun h=>absurd h (by decide)⟩
  ·obtain rfl:=Option.some.inj h;exact⟨XR,hb 31 (by simp [zV]),rfl,fun _=>rfl,fun h=>absurd h (by decide)⟩
  ·obtain rfl:=Option.some.inj h;exact⟨Ks,hb 32 (by simp [zV]),rfl,fun _=>rfl,fun h=>absurd h (by decide)⟩
  ·obtain rfl:=Option.some.inj h;exact⟨XT,hb 35 (by simp [zV]),rfl,fun _=>rfl,fun h=>absurd h (by decide)⟩
  ·obtain rfl:=Option.some.inj h;exact⟨Xh,hb 36 (by simp [zV]),rfl,fun _=>rfl,fun h=>absurd h (by decide)⟩
  ·obtain rfl:=Option.some.inj h;exact⟨z6O,hb 38 (by simp [zV]),rfl,fun _=>rfl,fun h=>absurd h (by decide)⟩
  ·obtain rfl:=Option.some.inj h;exact⟨z18,hb 39 (by simp [zV]),rfl,fun _=>rfl,fun h=>absurd h (by decide)⟩
  ·obtain rfl:=Option.some.inj h;exact⟨Vq,hb 40 (by simp [zV]),rfl,fun _=>rfl,fun h=>absurd h (by decide)⟩
  ·obtain rfl:=Option.some.inj h;exact⟨Vs,hb 41 (by simp [zV]),rfl,fun _=>rfl,fun h=>absurd h (by decide)⟩
  ·obtain rfl:=Option.some.inj h;exact⟨Ku,hb 42 (by simp [zV]),rfl,fun _=>rfl,fun h=>absurd h (by decide)⟩
  ·obtain rfl:=Option.some.inj h;exact⟨Y8,hb 47 (by simp [zV]),rfl,fun _=>rfl,fun h=>absurd h (by decide)⟩
  ·obtain rfl:=Option.some.inj h;exact⟨z3F,hb 48 (by simp [zV]),rfl,fun _=>rfl,fun h=>absurd h (by decide)⟩
  ·obtain rfl:=Option.some.inj h;exact⟨JF,hb 49 (by simp [zV]),rfl,fun _=>rfl,fun h=>absurd h (by decide)⟩
  ·obtain rfl:=Option.some.inj h;exact⟨JH,hb 50 (by simp [zV]),rfl,fun _=>rfl,fun h=>absurd h (by decide)⟩
  ·obtain rfl:=Option.some.inj h;exact⟨JJ,hb 51 (by simp [zV]),rfl,fun _=>rfl,fun h=>absurd h (by decide)⟩
  ·obtain rfl:=Option.some.inj h;exact⟨JL,hb 52 (by simp [zV]),rfl,fun _=>rfl,fun h=>absurd h (by decide)⟩
  ·obtain rfl:=Option.some.inj h;exact⟨JN,hb 53 (by simp [zV]),rfl,fun _=>rfl,fun h=>absurd h (by decide)⟩
  ·obtain rfl:=Option.some.inj h;exact⟨z2B,hb 54 (by simp [zV]),rfl,fun _=>rfl,fun h=>absurd h (by decide)⟩
  ·obtain rfl:=Option.some.inj h;exact⟨Xj,hb 60 (by simp [zV]),rfl,fun _=>rfl,fun h=>absurd h (by decide)⟩
  ·obtain rfl:=Option.some.inj h;exact⟨Kw,hb 61 (by simp [zV]),rfl,fun _=>rfl,fun h=>absurd h (by decide)⟩
  ·obtain rfl:=Option.some.inj h;exact⟨JP,hb 62 (by simp [zV]),rfl,fun _=>rfl,fun h=>absurd h (by decide)⟩
  ·obtain rfl:=Option.some.inj h;exact⟨XV,hb 63 (by simp [zV]),rfl,fun _=>rfl,fun h=>absurd h (by decide)⟩
  ·obtain rfl:=Option.some.inj h;exact⟨kg,hb 66 (by simp [zV]),rfl,fun h=>absurd h (by decide),fun _=>⟨3,rfl⟩⟩
  ·obtain rfl:=Option.some.inj h;exact⟨WA,hb 67 (by simp [zV]),rfl,fun _=>rfl,fun h=>absurd h (by decide)⟩
  ·obtain rfl:=Option.some.inj h;exact⟨z2D,hb 68 (by simp [zV]),rfl,fun _=>rfl,fun h=>absurd h (by decide)⟩
  ·obtain rfl:=Option.some.inj h;exact⟨Vu,hb 69 (by simp [zV]),rfl,fun _=>rfl,fun h=>absurd h (by decide)⟩
  ·obtain rfl:=Option.some.inj h;exact⟨Ky,hb 70 (by simp [zV]),rfl,fun _=>rfl,fun h=>absurd h (by decide)⟩
  ·obtain rfl:=Option.some.inj h;exact⟨z3H,hb 71 (by simp [zV]),rfl,fun _=>rfl,fun h=>absurd h (by decide)⟩
  ·obtain rfl:=Option.some.inj h;exact⟨WC,hb 72 (by simp [zV]),rfl,fun _=>rfl,fun h=>absurd h (by decide)⟩
  ·obtain rfl:=Option.some.inj h;exact⟨z0n,hb 73 (by simp [zV]),rfl,fun _=>rfl,fun h=>absurd h (by decide)⟩
  ·obtain rfl:=Option.some.inj h;exact⟨ku,hb 75 (by simp [zV]),rfl,fun _=>rfl,fun h=>absurd h (by decide)⟩
  ·obtain rfl:=Option.some.inj h;exact⟨z1a,hb 76 (by simp [zV]),rfl,fun _=>rfl,fun h=>absurd h (by decide)⟩
  ·obtain rfl:=Option.some.inj h;exact⟨z3J,hb 77 (by simp [zV]),rfl,fun _=>rfl,fun h=>absurd h (by decide)⟩
  ·obtain rfl:=Option.some.inj h;exact⟨z2F,hb 78 (by simp [zV]),rfl,fun _=>rfl,fun h=>absurd h (by decide)⟩
  ·obtain rfl:=Option.some.inj h;exact⟨z3L,hb 79 (by simp [zV]),rfl,fun _=>rfl,fun h=>absurd h (by decide)⟩
  ·obtain rfl:=Option.some.inj h;exact⟨z1c,hb 80 (by simp [zV]),rfl,fun _=>rfl,fun h=>absurd h (by decide)⟩
  ·obtain rfl:=Option.some.inj h;exact⟨qt,hb 81 (by simp [zV]),rfl,fun _=>rfl,fun h=>absurd h (by decide)⟩
  ·obtain rfl:=Option.some.inj h;exact⟨WE,hb 82 (by simp [zV]),rfl,fun _=>rfl,fun h=>absurd h (by decide)⟩
  ·obtain rfl:=Option.some.inj h;exact⟨JR,hb 83 (by simp [zV]),rfl,fun _=>rfl,fun h=>absurd h (by decide)⟩
  ·obtain rfl:=Option.some.inj h;exact⟨Zl,hb 84 (by simp [zV]),rfl,fun _=>rfl,fun h=>absurd h (by decide)⟩
  ·obtain rfl:=Option.some.inj h;exact⟨z2H,hb 86 (by simp [zV]),rfl,fun _=>rfl,fun h=>absurd h (by decide)⟩
  ·obtain rfl:=Option.some.inj h;exact⟨Vw,hb 87 (by simp [zV]),rfl,fun _=>rfl,fun h=>absurd h (by decide)⟩
  ·obtain rfl:=Option.some.inj h;exact⟨Yv,hb 88 (by simp [zV]),rfl,fun _=>rfl,fun h=>absurd h (by decide)⟩
  ·cases h
 ·have:∀ (p:zi),(∀ q ∈ p,Z5 (env s) q.1 q.2)→p.lookup f=some g→Z5 (env s) f g:=by
   intro p
   induction p with
   | nil=>intro _ h;cases h
   | cons a l ih =>
    intro hq h
    obtain⟨a,b⟩:=a
    rw [List.lookup_cons] at h
    split at h
    ·rename_i e
     obtain rfl:=Option.some.inj h
     rw [eq_of_beq e]
     exact hq _ List.mem_cons_self
    ·exact ih (fun q hm=>hq q (List.mem_cons_of_mem _ hm)) h
  exact this p hp h
theorem Zm {s:jU} (h:s.lookup 64=none):Z5 (env s) 64 (wY 1 8):=z4x (env s) (zero:=[.int .i64 0]) (f:=64) h rfl (by decide) rfl
theorem kQ {s:jU} (h:s.lookup 65=none):Z5 (env s) 65 (wY 3 24):=z4x (env s) (zero:=[.int .i64 0,.int .i64 0,.int .i64 0]) (f:=65) h rfl (by decide) rfl
end Go.Proofs.Ytdbbdfmkglgjdaa.Pi
