/- The functions that TieAll reach, digested for the evaluator by values; that they are the program's. Printed by mkpv.py of this repo. -/
import Derived.Test.YtdbbdfmkglgjdaaChecked
import Derived.Test.YtdbbdfmkglgjdaaPvE
import Derived.KernelRfl
namespace Go.Proofs.Ytdbbdfmkglgjdaa.Pi
open Go.Ab
def qn (t:Nat) (o:AOp):(zm × DK) × PM:=((⟨some t,o,none⟩,.q),⟨.n,[]⟩)
def qg (t g:Nat) (b:Bool) (o:AOp):(zm × DK) × PM:=((⟨some t,o,some (g,b)⟩,.q),⟨.n,[]⟩)
def ug (t g:Nat) (b:Bool) (o:AOp):zm × PM:=(⟨some t,o,some (g,b)⟩,⟨.n,[]⟩)
def ua (t:Nat) (o:AOp):zm:=⟨some t,o,none⟩
def ub (o:AOp):zm:=⟨none,o,none⟩
abbrev u_ (t:Nat) (o:AOp):zm × PM:=(⟨some t,o,none⟩,⟨.n,[]⟩)
def q7:ze:=.seq (.reg [u_ 137 (.mv (.t 10)),u_ 138 (.call (.c (.fn 13 [] [])) [.t 137,.c (.int .i64 9)]),u_ 139 (.bin .add (.c (.int .i64 1)) (.t 138)),u_ 21 (.mv (.t 139))]) (.seq (.reg [u_ 141 (.ldn 13 (.t 13)),u_ 142 (.ldn 10 (.t 20)),u_ 143 (.mv (.t 21)),u_ 144 (.call (.c (.fn 22 [] [])) [.t 141,.t 142,.t 143]),u_ 140 (.mv (.t 144)),u_ 145 (.ext (.t 140) 0),u_ 146 (.ext (.t 140) 1),(⟨none,.st 13 (.t 16) (.t 145),none⟩,⟨.n,[]⟩),u_ 18 (.mv (.t 146))]) (.fin (.reg [u_ 148 (.ldn 13 (.t 14)),u_ 149 (.ldn 10 (.t 20)),u_ 150 (.mv (.t 21)),u_ 151 (.call (.c (.fn 23 [] [])) [.t 148,.t 149,.t 150]),u_ 147 (.mv (.t 151)),u_ 152 (.ext (.t 147) 0),u_ 153 (.ext (.t 147) 1),(⟨none,.st 13 (.t 17) (.t 152),none⟩,⟨.n,[]⟩),u_ 19 (.mv (.t 153))]) [] [] [1,3,9,10,13,14,15,16,17,18,19] [(13,13),(14,14),(16,16),(17,17)]))
def q8:ze:=.seq (.seq (.reg [u_ 113 (.mv (.t 10)),u_ 114 (.call (.c (.fn 13 [] [])) [.t 113,.c (.int .i64 3)]),u_ 115 (.bin .eql (.t 114) (.c (.int .i64 0))),u_ 116 (.mv (.t 115)),ug 117 116 true (.fad 3 (.t 14)),ug 118 116 true (.ld (.t 117)),ug 119 116 true (.bin .neq (.t 118) (.c (.int .i64 0))),u_ 120 (.pick (.t 116) (.t 119) (.c (.bool false)))]) (.cond (.t 120) (.seq (.dreg 0 [qn 121 (.fad 3 (.t 14)),qn 122 (.ld (.t 121)),qn 123 (.fad 4 (.t 14)),qn 124 (.ld (.t 123)),qn 125 (.mv (.t 10)),qn 128 (.mv (.t 10)),qn 131 (.fad 1 (.t 20)),((⟨some 126,.call (.c (.fn 13 [] [])) [.t 125,.c (.int .i64 3)],none⟩,.ef [1,3]),⟨.n,[]⟩),qn 127 (.bin .add (.t 124) (.t 126)),((⟨some 129,.call (.c (.fn 13 [] [])) [.t 128,.c (.int .i64 2)],none⟩,.ef [1,3]),⟨.n,[]⟩),qn 130 (.bin .sub (.t 127) (.t 129)),((⟨none,.st 1 (.t 131) (.t 122),none⟩,.ef [3]),⟨.n,[]⟩),qn 132 (.fad 3 (.t 20)),((⟨none,.st 1 (.t 132) (.t 130),none⟩,.ef []),⟨.n,[]⟩)]) (.fin (.reg [u_ 133 (.fad 3 (.t 20)),u_ 134 (.ld (.t 133)),u_ 135 (.mxi [.t 134,.c (.int .i64 1)]),u_ 136 (.fad 3 (.t 20)),(⟨none,.st 1 (.t 136) (.t 135),none⟩,⟨.n,[]⟩)]) [] [] [1,3,9,10,13,14,15,16,17,20] [(13,13),(14,14),(16,16),(17,17),(20,20)])) (.fin .skip [] [] [1,3,9,10,13,14,15,16,17,20] [(13,13),(14,14),(16,16),(17,17),(20,20)]))) q7
def yw:ze:=.seq (.seq (.dreg 0 [qn 154 (.mv (.t 18)),qn 155 (.mv (.t 19)),((⟨some 156,.call (.c (.fn 24 [] [])) [.t 154,.t 155],none⟩,.ef []),⟨.n,[]⟩),qn 157 (.un .not (.t 156)),qn 158 (.mv (.t 157)),qg 159 158 false (.ldn 13 (.t 16)),qg 160 158 false (.ldn 13 (.t 17)),((⟨some 161,.call (.c (.fn 16 [] [])) [.t 159,.t 160],some (158,false)⟩,.ef []),⟨.n,[]⟩),qg 162 158 false (.un .not (.t 161)),qn 163 (.pick (.t 158) (.c (.bool true)) (.t 162)),qn 164 (.mv (.t 163)),qg 165 164 false (.ldn 13 (.t 16)),qg 167 164 false (.ldn 13 (.t 17)),((⟨some 166,.call (.c (.fn 25 [] [])) [.t 165],some (164,false)⟩,.ef [12]),⟨.n,[]⟩),((⟨some 168,.call (.c (.fn 26 [] [])) [.t 167],some (164,false)⟩,.ef []),⟨.n,[]⟩),qg 169 164 false (.eqs true .b (.t 166) (.t 168)),qn 170 (.pick (.t 164) (.c (.bool true)) (.t 169)),qn 171 (.mv (.t 170)),qg 172 171 false (.ldn 13 (.t 16)),qg 174 171 false (.ldn 13 (.t 17)),((⟨some 173,.call (.c (.fn 27 [] [])) [.t 172],some (171,false)⟩,.ef [19]),⟨.n,[]⟩),((⟨some 175,.call (.c (.fn 28 [] [])) [.t 174],some (171,false)⟩,.ef []),⟨.n,[]⟩),((⟨some 176,.call (.c (.fn 24 [] [])) [.t 173,.t 175],some (171,false)⟩,.ef []),⟨.n,[]⟩),qg 177 171 false (.un .not (.t 176)),qn 178 (.pick (.t 171) (.c (.bool true)) (.t 177))]) (.cond (.t 178) (.seq (.reg [u_ 8 (.mv (.c (.bool false)))]) (.keep [8] [] .ret)) .skip)) (.fin (.dreg 0 [qn 179 (.ldn 13 (.t 16)),qn 180 (.ldn 13 (.t 17)),((⟨none,.st 13 (.t 13) (.t 179),none⟩,.ef [1]),⟨.n,[]⟩),((⟨none,.st 13 (.t 14) (.t 180),none⟩,.ef []),⟨.n,[]⟩)]) [] [] [1,3,9,10,13,14,15] [(13,13),(14,14)])
def yx:ze:=.fin (.reg [u_ 66 (.mv (.t 15)),u_ 67 (.bin .add (.t 66) (.c (.int .i64 1))),u_ 15 (.mv (.t 67))]) [] [] [1,3,9,10,13,14,15] [(13,13),(14,14)]
def zC:ze:=.seq (.seq (.reg [u_ 59 (.mv (.t 15)),u_ 60 (.bin .lss (.t 59) (.c (.int .i64 40))),u_ 61 (.mv (.t 60)),ug 62 61 true (.mv (.t 10)),ug 63 61 true (.call (.c (.fn 17 [] [])) [.t 62]),ug 64 61 true (.un .not (.t 63)),u_ 65 (.pick (.t 61) (.t 64) (.c (.bool false)))]) (.cond (.t 65) .skip (.keep [1,3,9,13,14] [(13,13),(14,14)] (.exit 0)))) (.seq (.block 1 (.seq (.reg [(⟨some 16,.newc [.int .i64 0,.int .i64 0,.int .i64 0,.int .i64 0,.int .i64 0,.int .i64 0,.nils,.int .i64 0,.int .i64 0,.int .i64 0,.int .i64 0,.int .i64 0,.nils],none⟩,⟨.s 13,[]⟩),(⟨some 17,.newc [.int .i64 0,.int .i64 0,.int .i64 0,.int .i64 0,.int .i64 0,.int .i64 0,.nils,.int .i64 0,.int .i64 0,.int .i64 0,.int .i64 0,.int .i64 0,.nils],none⟩,⟨.s 13,[]⟩)]) (.seq (.reg [u_ 18 (.mv (.c .nils)),u_ 19 (.mv (.c .nils))]) (.seq (.seq (.reg [u_ 68 (.mv (.t 10)),u_ 69 (.call (.c (.fn 13 [] [])) [.t 68,.c (.int .i64 3)]),u_ 70 (.bin .eql (.t 69) (.c (.int .i64 0)))]) (.cond (.t 70) (.seq (.reg [u_ 72 (.ldn 13 (.t 13)),u_ 73 (.call (.c (.fn 18 [] [])) [.t 72]),u_ 71 (.mv (.t 73)),u_ 74 (.ext (.t 71) 0),u_ 75 (.ext (.t 71) 1),(⟨none,.st 13 (.t 16) (.t 74),none⟩,⟨.n,[]⟩),u_ 18 (.mv (.t 75))]) (.fin (.reg [u_ 77 (.ldn 13 (.t 14)),u_ 78 (.call (.c (.fn 19 [] [])) [.t 77]),u_ 76 (.mv (.t 78)),u_ 79 (.ext (.t 76) 0),u_ 80 (.ext (.t 76) 1),(⟨none,.st 13 (.t 17) (.t 79),none⟩,⟨.n,[]⟩),u_ 19 (.mv (.t 80))]) [] [] [1,3,9,10,13,14,15,16,17,18,19] [(13,13),(14,14),(16,16),(17,17)])) (.seq (.reg [u_ 81 (.mv (.t 10)),u_ 82 (.mv (.t 9)),u_ 83 (.call (.c (.fn 20 [] [])) [.t 81,.t 82]),(⟨some 20,.newc [.int .i64 0,.int .i64 0,.int .i64 0,.int .i64 0,.int .i64 0,.int .i64 0,.nils,.int .i64 0,.int .i64 0,.str []],none⟩,⟨.s 10,[]⟩),(⟨none,.st 10 (.t 20) (.t 83),none⟩,⟨.n,[]⟩)]) (.seq (.seq (.reg [u_ 84 (.mv (.t 10)),u_ 85 (.call (.c (.fn 13 [] [])) [.t 84,.c (.int .i64 3)]),u_ 86 (.bin .eql (.t 85) (.c (.int .i64 0))),u_ 87 (.mv (.t 86)),ug 88 87 true (.fad 9 (.t 14)),ug 89 87 true (.ld (.t 88)),ug 90 87 true (.bin .neq (.t 89) (.c (.int .i64 0))),u_ 91 (.pick (.t 87) (.t 90) (.c (.bool false))),u_ 92 (.mv (.t 91)),ug 93 92 true (.fad 9 (.t 14)),ug 94 92 true (.ld (.t 93)),ug 95 92 true (.mv (.t 9)),ug 96 92 true (.bin .neq (.t 94) (.t 95)),u_ 97 (.pick (.t 92) (.t 96) (.c (.bool false)))]) (.cond (.t 97) (.fin (.dreg 0 [qn 98 (.fad 9 (.t 14)),qn 99 (.ld (.t 98)),qn 100 (.mv (.t 9)),qn 101 (.mv (.t 10)),qn 104 (.mv (.t 10)),qn 106 (.mv (.t 10)),qn 108 (.mv (.t 10)),qn 110 (.mv (.t 10)),((⟨some 102,.call (.c (.fn 13 [] [])) [.t 101,.c (.int .i64 2)],none⟩,.ef [1]),⟨.n,[]⟩),qn 103 (.bin .add (.c (.int .i64 1)) (.t 102)),((⟨some 105,.call (.c (.fn 13 [] [])) [.t 104,.c (.int .i64 9)],none⟩,.ef [1]),⟨.n,[]⟩),((⟨some 107,.call (.c (.fn 13 [] [])) [.t 106,.c (.int .i64 24)],none⟩,.ef [1]),⟨.n,[]⟩),((⟨some 109,.call (.c (.fn 21 [] [])) [.t 108],none⟩,.ef [1]),⟨.n,[]⟩),((⟨some 111,.call (.c (.fn 13 [] [])) [.t 110,.c (.int .i64 9)],none⟩,.ef [1]),⟨.n,[]⟩),qn 112 (.build [.int .i64 0,.int .i64 0,.int .i64 0,.int .i64 0,.int .i64 0,.int .i64 0,.nils,.int .i64 0,.int .i64 0,.str []] [(0,1,.c (.int .i64 2)),(1,1,.t 99),(2,1,.t 100),(3,1,.t 103),(4,1,.t 105),(5,1,.t 107),(6,1,.t 109),(7,1,.t 111)]),((⟨none,.st 10 (.t 20) (.t 112),none⟩,.ef []),⟨.n,[]⟩)]) [] [] [1,3,9,10,13,14,15,16,17,20] [(13,13),(14,14),(16,16),(17,17),(20,20)]) (.fin .skip [] [] [1,3,9,10,13,14,15,16,17,20] [(13,13),(14,14),(16,16),(17,17),(20,20)]))) q8)))) yw)))) yx)
def q9:ze:=.seq (.reg [u_ 181 (.mv (.t 1)),u_ 182 (.call (.c (.fn 12 [] [])) [.t 181]),u_ 183 (.mv (.t 9)),u_ 184 (.call (.c (.fn 20 [] [])) [.t 182,.t 183]),(⟨some 22,.newc [.int .i64 0,.int .i64 0,.int .i64 0,.int .i64 0,.int .i64 0,.int .i64 0,.nils,.int .i64 0,.int .i64 0,.str []],none⟩,⟨.s 10,[]⟩),(⟨none,.st 10 (.t 22) (.t 184),none⟩,⟨.n,[]⟩)]) (.seq (.reg [u_ 186 (.ldn 13 (.t 13)),u_ 187 (.ldn 10 (.t 22)),u_ 188 (.mv (.t 3)),u_ 189 (.cvi .i64 (.t 188)),u_ 190 (.call (.c (.fn 22 [] [])) [.t 186,.t 187,.t 189]),u_ 185 (.mv (.t 190)),u_ 191 (.ext (.t 185) 0),u_ 192 (.ext (.t 185) 1),(⟨some 23,.newc [.int .i64 0,.int .i64 0,.int .i64 0,.int .i64 0,.int .i64 0,.int .i64 0,.nils,.int .i64 0,.int .i64 0,.int .i64 0,.int .i64 0,.int .i64 0,.nils],none⟩,⟨.s 13,[]⟩),(⟨none,.st 13 (.t 23) (.t 191),none⟩,⟨.n,[]⟩),u_ 24 (.mv (.t 192))]) (.seq (.reg [u_ 194 (.ldn 13 (.t 14)),u_ 195 (.ldn 10 (.t 22)),u_ 196 (.mv (.t 3)),u_ 197 (.cvi .i64 (.t 196)),u_ 198 (.call (.c (.fn 23 [] [])) [.t 194,.t 195,.t 197]),u_ 193 (.mv (.t 198)),u_ 199 (.ext (.t 193) 0),u_ 200 (.ext (.t 193) 1),(⟨some 25,.newc [.int .i64 0,.int .i64 0,.int .i64 0,.int .i64 0,.int .i64 0,.int .i64 0,.nils,.int .i64 0,.int .i64 0,.int .i64 0,.int .i64 0,.int .i64 0,.nils],none⟩,⟨.s 13,[]⟩),(⟨none,.st 13 (.t 25) (.t 199),none⟩,⟨.n,[]⟩),u_ 26 (.mv (.t 200))]) (.seq (.reg [u_ 201 (.mv (.t 24)),u_ 202 (.mv (.t 26)),u_ 203 (.call (.c (.fn 24 [] [])) [.t 201,.t 202]),u_ 204 (.mv (.t 203)),ug 205 204 true (.ldn 13 (.t 23)),ug 206 204 true (.ldn 13 (.t 25)),ug 207 204 true (.call (.c (.fn 16 [] [])) [.t 205,.t 206]),u_ 208 (.pick (.t 204) (.t 207) (.c (.bool false))),u_ 8 (.mv (.t 208))]) .ret)))
def ZO:ze:=.seq (.reg [u_ 8 (.mv (.c (.bool false)))]) (.seq (.seq (.reg [u_ 27 (.call (.c (.fn 11 [] [])) []),u_ 28 (.un .not (.t 27))]) (.cond (.t 28) (.seq (.reg [u_ 8 (.mv (.c (.bool false)))]) .ret) .skip)) (.seq (.seq (.reg [u_ 29 (.mv (.t 0)),u_ 30 (.len (.t 29)),u_ 31 (.bin .gtr (.t 30) (.c (.int .i64 200))),u_ 32 (.mv (.t 31)),ug 33 32 false (.mv (.t 1)),ug 34 32 false (.len (.t 33)),ug 35 32 false (.bin .gtr (.t 34) (.c (.int .i64 15))),u_ 36 (.pick (.t 32) (.c (.bool true)) (.t 35))]) (.cond (.t 36) (.seq (.reg [u_ 8 (.mv (.c (.bool true)))]) .ret) .skip)) (.seq (.reg [u_ 37 (.mv (.t 2)),u_ 38 (.bin .rem (.t 37) (.c (.int .u8 8))),u_ 39 (.cvi .i64 (.t 38)),u_ 40 (.bin .add (.c (.int .i64 1)) (.t 39)),u_ 9 (.mv (.t 40))]) (.seq (.reg [u_ 41 (.mv (.t 0)),u_ 42 (.call (.c (.fn 12 [] [])) [.t 41]),u_ 10 (.mv (.t 42))]) (.seq (.reg [u_ 43 (.mv (.t 10)),u_ 44 (.call (.c (.fn 13 [] [])) [.t 43,.c (.int .i64 5)]),u_ 45 (.mv (.t 10)),u_ 46 (.call (.c (.fn 13 [] [])) [.t 45,.c (.int .i64 9)]),u_ 11 (.mv (.t 44)),u_ 12 (.mv (.t 46))]) (.seq (.reg [u_ 47 (.mv (.t 9)),u_ 48 (.mv (.t 11)),u_ 49 (.mv (.t 12)),u_ 50 (.call (.c (.fn 14 [] [])) [.t 47,.c (.int .i64 2),.t 48,.t 49]),u_ 51 (.mv (.t 9)),u_ 52 (.mv (.t 11)),u_ 53 (.mv (.t 12)),u_ 54 (.call (.c (.fn 15 [] [])) [.t 51,.c (.int .i64 2),.t 52,.t 53]),(⟨some 13,.newc [.int .i64 0,.int .i64 0,.int .i64 0,.int .i64 0,.int .i64 0,.int .i64 0,.nils,.int .i64 0,.int .i64 0,.int .i64 0,.int .i64 0,.int .i64 0,.nils],none⟩,⟨.s 13,[]⟩),(⟨some 14,.newc [.int .i64 0,.int .i64 0,.int .i64 0,.int .i64 0,.int .i64 0,.int .i64 0,.nils,.int .i64 0,.int .i64 0,.int .i64 0,.int .i64 0,.int .i64 0,.nils],none⟩,⟨.s 13,[]⟩),(⟨none,.st 13 (.t 13) (.t 50),none⟩,⟨.n,[]⟩),(⟨none,.st 13 (.t 14) (.t 54),none⟩,⟨.n,[]⟩)]) (.seq (.seq (.reg [u_ 55 (.ldn 13 (.t 13)),u_ 56 (.ldn 13 (.t 14)),u_ 57 (.call (.c (.fn 16 [] [])) [.t 55,.t 56]),u_ 58 (.un .not (.t 57))]) (.cond (.t 58) (.seq (.reg [u_ 8 (.mv (.c (.bool false)))]) .ret) .skip)) (.seq (.seq (.reg [u_ 15 (.mv (.c (.int .i64 0)))]) (.block 0 (.keep [1,3,9,10,13,14,15] [(13,13),(14,14)] (.loop zC)))) q9))))))))
def xt:PFn:=⟨209,[],ZO,[.tmp 8],[.n]⟩
def Xe:ze:=.seq (.reg [u_ 2 (.mv (.c .nilp))]) (.seq (.reg [u_ 3 (.mv (.t 0)),u_ 4 (.build [.nils,.int .i64 0] [(0,1,.t 3)]),u_ 5 (.box (.t 4)),u_ 2 (.mv (.t 5))]) .ret)
def qj:PFn:=⟨6,[],Xe,[.tmp 2],[.n]⟩
def wT:ze:=.seq (.reg [u_ 4 (.mv (.c (.int .i64 0)))]) (.seq (.seq (.dreg 0 [qn 5 (.mv (.t 0)),qn 6 (.nck (.t 5)),qn 7 (.fad 1 (.t 6)),qn 8 (.ld (.t 7)),qn 9 (.mv (.t 0)),qn 10 (.nck (.t 9)),qn 11 (.fad 0 (.t 10)),qn 12 (.ld (.t 11)),qn 13 (.len (.t 12)),qn 14 (.bin .geq (.t 8) (.t 13)),qn 15 (.mv (.t 14)),qg 16 15 false (.mv (.t 1)),qg 17 15 false (.bin .lss (.t 16) (.c (.int .i64 1))),qn 18 (.pick (.t 15) (.c (.bool true)) (.t 17))]) (.cond (.t 18) (.seq (.reg [u_ 4 (.mv (.c (.int .i64 0)))]) .ret) .skip)) (.seq (.reg [u_ 19 (.mv (.t 0)),u_ 20 (.nck (.t 19)),u_ 21 (.fad 1 (.t 20)),u_ 22 (.ld (.t 21)),u_ 23 (.bin .add (.t 22) (.c (.int .i64 1))),u_ 24 (.nck (.t 19)),u_ 25 (.fad 1 (.t 24)),(⟨none,.st 1 (.t 25) (.t 23),none⟩,⟨.n,[]⟩)]) (.seq (.dreg 0 [qn 26 (.mv (.t 0)),qn 27 (.nck (.t 26)),qn 28 (.fad 0 (.t 27)),qn 29 (.ld (.t 28)),qn 30 (.mv (.t 0)),qn 31 (.nck (.t 30)),qn 32 (.fad 1 (.t 31)),qn 33 (.ld (.t 32)),qn 34 (.bin .sub (.t 33) (.c (.int .i64 1))),qn 35 (.iad 1 (.t 29) (.t 34)),qn 36 (.ld (.t 35)),qn 37 (.cvi .i64 (.t 36)),qn 38 (.mv (.t 1)),qn 39 (.bin .rem (.t 37) (.t 38)),qn 4 (.mv (.t 39))]) .ret)))
def yW:PFn:=⟨40,[],wT,[.tmp 4],[.n]⟩
def Km:ze:=.seq (.reg [u_ 21 (.ldn 13 (.t 9)),(⟨none,.st 13 (.t 8) (.t 21),none⟩,⟨.n,[]⟩)]) .ret
def z4H:ze:=.seq (.reg [(⟨some 8,.newc [.int .i64 0,.int .i64 0,.int .i64 0,.int .i64 0,.int .i64 0,.int .i64 0,.nils,.int .i64 0,.int .i64 0,.int .i64 0,.int .i64 0,.int .i64 0,.nils],none⟩,⟨.s 13,[]⟩)]) (.seq (.reg [u_ 10 (.mv (.t 0)),u_ 11 (.mv (.t 1)),u_ 12 (.mv (.t 2)),u_ 13 (.mv (.t 3)),u_ 14 (.build [.int .i64 0,.int .i64 0,.int .i64 0,.int .i64 0,.int .i64 0,.int .i64 0,.nils,.int .i64 0,.int .i64 0,.int .i64 0,.int .i64 0,.int .i64 0,.nils] [(0,1,.t 10),(1,1,.t 11),(2,1,.t 12),(5,1,.t 13)]),(⟨some 9,.newc [.int .i64 0,.int .i64 0,.int .i64 0,.int .i64 0,.int .i64 0,.int .i64 0,.nils,.int .i64 0,.int .i64 0,.int .i64 0,.int .i64 0,.int .i64 0,.nils],none⟩,⟨.s 13,[]⟩),(⟨none,.st 13 (.t 9) (.t 14),none⟩,⟨.n,[]⟩)]) (.seq (.seq (.reg [u_ 15 (.mv (.t 0)),u_ 16 (.bin .eql (.t 15) (.c (.int .i64 1)))]) (.cond (.t 16) (.fin (.reg [(⟨some 17,.bsl 1 [.int .i64 0] 1 [(0,1,.c (.int .i64 1))],none⟩,⟨.f,[]⟩),u_ 18 (.mv (.t 2)),u_ 19 (.fad 6 (.t 9)),(⟨none,.st 1 (.t 19) (.t 17),none⟩,⟨.n,[]⟩),u_ 20 (.fad 8 (.t 9)),(⟨none,.st 1 (.t 20) (.t 18),none⟩,⟨.n,[]⟩)]) [] [] [8,9] [(8,8),(9,9)]) (.fin .skip [] [] [8,9] [(8,8),(9,9)]))) Km))
def YH:PFn:=⟨22,[],z4H,[.cell 8 (some 13)],[.n]⟩
def vl:ze:=.seq (.reg [u_ 21 (.ldn 13 (.t 9)),(⟨none,.st 13 (.t 8) (.t 21),none⟩,⟨.n,[]⟩)]) .ret
def Xf:ze:=.seq (.reg [(⟨some 8,.newc [.int .i64 0,.int .i64 0,.int .i64 0,.int .i64 0,.int .i64 0,.int .i64 0,.nils,.int .i64 0,.int .i64 0,.int .i64 0,.int .i64 0,.int .i64 0,.nils],none⟩,⟨.s 13,[]⟩)]) (.seq (.reg [u_ 10 (.mv (.t 0)),u_ 11 (.mv (.t 1)),u_ 12 (.mv (.t 2)),u_ 13 (.mv (.t 3)),u_ 14 (.build [.int .i64 0,.int .i64 0,.int .i64 0,.int .i64 0,.int .i64 0,.int .i64 0,.nils,.int .i64 0,.int .i64 0,.int .i64 0,.int .i64 0,.int .i64 0,.nils] [(0,1,.t 10),(1,1,.t 11),(2,1,.t 12),(5,1,.t 13)]),(⟨some 9,.newc [.int .i64 0,.int .i64 0,.int .i64 0,.int .i64 0,.int .i64 0,.int .i64 0,.nils,.int .i64 0,.int .i64 0,.int .i64 0,.int .i64 0,.int .i64 0,.nils],none⟩,⟨.s 13,[]⟩),(⟨none,.st 13 (.t 9) (.t 14),none⟩,⟨.n,[]⟩)]) (.seq (.seq (.reg [u_ 15 (.mv (.t 0)),u_ 16 (.bin .eql (.t 15) (.c (.int .i64 1)))]) (.cond (.t 16) (.fin (.reg [(⟨some 17,.bsl 1 [.int .i64 0] 1 [(0,1,.c (.int .i64 1))],none⟩,⟨.f,[]⟩),u_ 18 (.mv (.t 2)),u_ 19 (.fad 6 (.t 9)),(⟨none,.st 1 (.t 19) (.t 17),none⟩,⟨.n,[]⟩),u_ 20 (.fad 8 (.t 9)),(⟨none,.st 1 (.t 20) (.t 18),none⟩,⟨.n,[]⟩)]) [] [] [8,9] [(8,8),(9,9)]) (.fin .skip [] [] [8,9] [(8,8),(9,9)]))) vl))
def qk:PFn:=⟨22,[],Xf,[.cell 8 (some 13)],[.n]⟩
def Zg:ze:=.seq (.reg [(⟨some 2,.box (.t 0),none⟩,⟨.s 13,[]⟩),(⟨some 3,.box (.t 1),none⟩,⟨.s 13,[]⟩),u_ 4 (.mv (.c (.bool false)))]) (.seq (.reg [u_ 5 (.fad 0 (.t 2)),u_ 6 (.ld (.t 5)),u_ 7 (.fad 0 (.t 3)),u_ 8 (.ld (.t 7)),u_ 9 (.bin .eql (.t 6) (.t 8)),u_ 10 (.mv (.t 9)),ug 11 10 true (.fad 1 (.t 2)),ug 12 10 true (.ld (.t 11)),ug 13 10 true (.fad 1 (.t 3)),ug 14 10 true (.ld (.t 13)),ug 15 10 true (.bin .eql (.t 12) (.t 14)),u_ 16 (.pick (.t 10) (.t 15) (.c (.bool false))),u_ 17 (.mv (.t 16)),ug 18 17 true (.fad 2 (.t 2)),ug 19 17 true (.ld (.t 18)),ug 20 17 true (.fad 2 (.t 3)),ug 21 17 true (.ld (.t 20)),ug 22 17 true (.bin .eql (.t 19) (.t 21)),u_ 23 (.pick (.t 17) (.t 22) (.c (.bool false))),u_ 24 (.mv (.t 23)),ug 25 24 true (.fad 3 (.t 2)),ug 26 24 true (.ld (.t 25)),ug 27 24 true (.fad 3 (.t 3)),ug 28 24 true (.ld (.t 27)),ug 29 24 true (.bin .eql (.t 26) (.t 28)),u_ 30 (.pick (.t 24) (.t 29) (.c (.bool false))),u_ 31 (.mv (.t 30)),ug 32 31 true (.fad 4 (.t 2)),ug 33 31 true (.ld (.t 32)),ug 34 31 true (.fad 4 (.t 3)),ug 35 31 true (.ld (.t 34)),ug 36 31 true (.bin .eql (.t 33) (.t 35)),u_ 37 (.pick (.t 31) (.t 36) (.c (.bool false))),u_ 38 (.mv (.t 37)),ug 39 38 true (.fad 5 (.t 2)),ug 40 38 true (.ld (.t 39)),ug 41 38 true (.fad 5 (.t 3)),ug 42 38 true (.ld (.t 41)),ug 43 38 true (.bin .eql (.t 40) (.t 42)),u_ 44 (.pick (.t 38) (.t 43) (.c (.bool false))),u_ 45 (.mv (.t 44)),ug 46 45 true (.fad 6 (.t 2)),ug 47 45 true (.ld (.t 46)),ug 48 45 true (.fad 6 (.t 3)),ug 49 45 true (.ld (.t 48)),ug 50 45 true (.call (.c (.fn 36 [] [])) [.t 47,.t 49]),u_ 51 (.pick (.t 45) (.t 50) (.c (.bool false))),u_ 52 (.mv (.t 51)),ug 53 52 true (.fad 7 (.t 2)),ug 54 52 true (.ld (.t 53)),ug 55 52 true (.fad 7 (.t 3)),ug 56 52 true (.ld (.t 55)),ug 57 52 true (.bin .eql (.t 54) (.t 56)),u_ 58 (.pick (.t 52) (.t 57) (.c (.bool false))),u_ 59 (.mv (.t 58)),ug 60 59 true (.fad 8 (.t 2)),ug 61 59 true (.ld (.t 60)),ug 62 59 true (.fad 8 (.t 3)),ug 63 59 true (.ld (.t 62)),ug 64 59 true (.bin .eql (.t 61) (.t 63)),u_ 65 (.pick (.t 59) (.t 64) (.c (.bool false))),u_ 66 (.mv (.t 65)),ug 67 66 true (.fad 9 (.t 2)),ug 68 66 true (.ld (.t 67)),ug 69 66 true (.fad 9 (.t 3)),ug 70 66 true (.ld (.t 69)),ug 71 66 true (.bin .eql (.t 68) (.t 70)),u_ 72 (.pick (.t 66) (.t 71) (.c (.bool false))),u_ 73 (.mv (.t 72)),ug 74 73 true (.fad 10 (.t 2)),ug 75 73 true (.ld (.t 74)),ug 76 73 true (.fad 10 (.t 3)),ug 77 73 true (.ld (.t 76)),ug 78 73 true (.bin .eql (.t 75) (.t 77)),u_ 79 (.pick (.t 73) (.t 78) (.c (.bool false))),u_ 80 (.mv (.t 79)),ug 81 80 true (.fad 11 (.t 2)),ug 82 80 true (.ld (.t 81)),ug 83 80 true (.fad 11 (.t 3)),ug 84 80 true (.ld (.t 83)),ug 85 80 true (.bin .eql (.t 82) (.t 84)),u_ 86 (.pick (.t 80) (.t 85) (.c (.bool false))),u_ 87 (.mv (.t 86)),ug 88 87 true (.fad 12 (.t 2)),ug 89 87 true (.ld (.t 88)),ug 90 87 true (.fad 12 (.t 3)),ug 91 87 true (.ld (.t 90)),ug 92 87 true (.call (.c (.fn 37 [] [])) [.t 89,.t 91]),u_ 93 (.pick (.t 87) (.t 92) (.c (.bool false))),u_ 4 (.mv (.t 93))]) .ret)
def xd:PFn:=⟨94,[],Zg,[.tmp 4],[.n]⟩
def wr:ze:=.seq (.reg [u_ 2 (.mv (.c (.bool false)))]) (.seq (.dreg 0 [qn 3 (.mv (.t 0)),qn 4 (.nck (.t 3)),qn 5 (.fad 1 (.t 4)),qn 6 (.ld (.t 5)),qn 7 (.mv (.t 0)),qn 8 (.nck (.t 7)),qn 9 (.fad 0 (.t 8)),qn 10 (.ld (.t 9)),qn 11 (.len (.t 10)),qn 12 (.bin .geq (.t 6) (.t 11)),qn 2 (.mv (.t 12))]) .ret)
def yM:PFn:=⟨13,[],wr,[.tmp 2],[.n]⟩
def Yr:ze:=.seq (.reg [u_ 91 (.mv (.t 4)),u_ 92 (.call (.c (.fn 41 [] [])) [.t 91])]) (.seq (.reg [u_ 93 (.mv (.t 4)),u_ 94 (.call (.c (.fn 42 [] [])) [.t 93])]) (.seq (.dreg 0 [qn 95 (.mv (.t 4)),qn 96 (.nck (.t 95)),qn 97 (.fad 0 (.t 96)),qn 98 (.ldn 13 (.t 97)),qn 99 (.mv (.t 4)),qn 100 (.nck (.t 99)),qn 101 (.fad 13 (.t 100)),qn 102 (.ld (.t 101)),((⟨none,.st 13 (.t 2) (.t 98),none⟩,.ef [7]),⟨.n,[]⟩),qn 3 (.mv (.t 102))]) (.hf 3 10 .ret)))
def z3l:ze:=.seq (.reg [(⟨some 1,.box (.t 0),none⟩,⟨.s 13,[]⟩),(⟨some 2,.newc [.int .i64 0,.int .i64 0,.int .i64 0,.int .i64 0,.int .i64 0,.int .i64 0,.nils,.int .i64 0,.int .i64 0,.int .i64 0,.int .i64 0,.int .i64 0,.nils],none⟩,⟨.s 13,[]⟩),u_ 3 (.mv (.c .nils))]) (.seq (.reg [u_ 5 (.ldn 13 (.t 1)),u_ 6 (.call (.c (.fn 38 [] [])) [.t 5]),u_ 4 (.mv (.t 6))]) (.seq (.reg [u_ 7 (.mv (.t 4)),u_ 8 (.nck (.t 7)),u_ 9 (.fad 0 (.t 8)),u_ 10 (.fad 2 (.t 9)),u_ 11 (.ld (.t 10)),u_ 12 (.bin .add (.t 11) (.c (.int .i64 1))),u_ 13 (.nck (.t 7)),u_ 14 (.fad 0 (.t 13)),u_ 15 (.fad 2 (.t 14)),(⟨none,.st 1 (.t 15) (.t 12),none⟩,⟨.n,[]⟩)]) (.seq (.dreg 0 [qn 16 (.mv (.t 4)),qn 17 (.mv (.t 4)),qn 18 (.nck (.t 17)),qn 19 (.fad 0 (.t 18)),qn 20 (.fad 12 (.t 19)),qn 21 (.ld (.t 20)),qn 22 (.mv (.t 4)),qn 23 (.nck (.t 22)),qn 24 (.fad 0 (.t 23)),qn 25 (.fad 2 (.t 24)),qn 26 (.ld (.t 25)),((⟨some 27,.call (.c (.fn 39 [] [])) [.t 21,.t 26],none⟩,.ef []),⟨.n,[]⟩),qn 28 (.nck (.t 16)),qn 29 (.fad 0 (.t 28)),qn 30 (.fad 12 (.t 29)),((⟨none,.st 1 (.t 30) (.t 27),none⟩,.ef []),⟨.n,[]⟩)]) (.seq (.block 0 (.seq (.reg [u_ 32 (.mv (.t 4)),u_ 33 (.nck (.t 32)),u_ 34 (.fad 0 (.t 33)),u_ 35 (.fad 0 (.t 34)),u_ 36 (.ld (.t 35)),u_ 37 (.bin .eql (.t 36) (.c (.int .i64 1))),u_ 38 (.mv (.t 37)),ug 39 38 true (.mv (.t 4)),ug 40 38 true (.nck (.t 39)),ug 41 38 true (.fad 0 (.t 40)),ug 42 38 true (.fad 2 (.t 41)),ug 43 38 true (.ld (.t 42)),ug 44 38 true (.bin .rem (.t 43) (.c (.int .i64 2))),ug 45 38 true (.bin .eql (.t 44) (.c (.int .i64 0))),u_ 46 (.pick (.t 38) (.t 45) (.c (.bool false))),u_ 31 (.mv (.t 46))]) (.fin (.cond (.t 31) (.fin (.dreg 0 [qn 47 (.mv (.t 4)),qn 48 (.mv (.t 4)),qn 49 (.mv (.t 4)),qn 50 (.nck (.t 49)),qn 51 (.fad 0 (.t 50)),qn 52 (.fad 7 (.t 51)),qn 53 (.ld (.t 52)),qn 54 (.bin .add (.t 53) (.c (.int .i64 1))),qn 55 (.mv (.t 4)),qn 56 (.nck (.t 55)),qn 57 (.fad 0 (.t 56)),qn 58 (.fad 2 (.t 57)),qn 59 (.ld (.t 58)),qn 60 (.nck (.t 47)),qn 61 (.fad 0 (.t 60)),qn 62 (.fad 7 (.t 61)),((⟨none,.st 1 (.t 62) (.t 54),none⟩,.ef []),⟨.n,[]⟩),qn 63 (.nck (.t 48)),qn 64 (.fad 0 (.t 63)),qn 65 (.fad 8 (.t 64)),((⟨none,.st 1 (.t 65) (.t 59),none⟩,.ef []),⟨.n,[]⟩)]) [] [] [2,4] [(2,2)]) (.seq (.reg [u_ 67 (.mv (.t 4)),u_ 68 (.nck (.t 67)),u_ 69 (.fad 0 (.t 68)),u_ 70 (.fad 0 (.t 69)),u_ 71 (.ld (.t 70)),u_ 72 (.bin .neq (.t 71) (.c (.int .i64 1))),u_ 73 (.mv (.t 72)),ug 74 73 true (.mv (.t 4)),ug 75 73 true (.nck (.t 74)),ug 76 73 true (.fad 0 (.t 75)),ug 77 73 true (.fad 3 (.t 76)),ug 78 73 true (.ld (.t 77)),ug 79 73 true (.bin .neq (.t 78) (.c (.int .i64 0))),u_ 80 (.pick (.t 73) (.t 79) (.c (.bool false))),u_ 81 (.mv (.t 80)),ug 82 81 true (.mv (.t 4)),ug 83 81 true (.nck (.t 82)),ug 84 81 true (.fad 0 (.t 83)),ug 85 81 true (.ldn 13 (.t 84)),ug 86 81 true (.call (.c (.fn 25 [] [])) [.t 85]),ug 87 81 true (.un .not (.t 86)),u_ 88 (.pick (.t 81) (.t 87) (.c (.bool false))),u_ 66 (.mv (.t 88))]) (.fin (.cond (.t 66) (.fin (.reg [u_ 89 (.mv (.t 4)),u_ 90 (.call (.c (.fn 40 [] [])) [.t 89,.c (.int .i64 0)])]) [] [] [2,4] [(2,2)]) (.fin .skip [] [] [2,4] [(2,2)])) [] [] [2,4] [(2,2)]))) [] [] [2,4] [(2,2)]))) Yr))))
def ZP:PFn:=⟨103,[],z3l,[.cell 2 (some 13),.tmp 3],[.n,.f 10]⟩
def kJ:ze:=.fin (.reg [u_ 86 (.mv (.t 5)),u_ 87 (.ldn 13 (.t 1)),u_ 88 (.fad 9 (.t 1)),u_ 89 (.ld (.t 88)),u_ 90 (.call (.c (.fn 45 [] [])) [.t 87,.c (.int .i64 1),.t 89]),(⟨some 91,.bsl 10 [.int .i64 0,.int .i64 0,.int .i64 0,.int .i64 0,.int .i64 0,.int .i64 0,.nils,.int .i64 0,.int .i64 0,.str []] 1 [(0,10,.t 90)],none⟩,⟨.f,[]⟩),(⟨some 92,.app 10 104 [.int .i64 0,.int .i64 0,.int .i64 0,.int .i64 0,.int .i64 0,.int .i64 0,.nils,.int .i64 0,.int .i64 0,.str []] (.t 86) (.t 91),none⟩,⟨.s 10,[]⟩),u_ 5 (.mv (.t 92))]) [] [] [1,2,4,5] [(1,1),(2,2),(92,5)]
def qN:ze:=.seq (.reg [u_ 60 (.fad 9 (.t 1)),u_ 61 (.ld (.t 60)),u_ 62 (.bin .eql (.t 61) (.c (.int .i64 0)))]) (.fin (.cond (.t 62) (.seq (.reg [u_ 63 (.fad 2 (.t 1)),u_ 64 (.ld (.t 63)),u_ 65 (.bin .add (.t 64) (.c (.int .i64 3))),u_ 66 (.fad 9 (.t 1)),(⟨none,.st 1 (.t 66) (.c (.int .i64 1)),none⟩,⟨.n,[]⟩),u_ 67 (.fad 10 (.t 1)),(⟨none,.st 1 (.t 67) (.t 65),none⟩,⟨.n,[]⟩)]) (.seq (.seq (.reg [u_ 68 (.fad 11 (.t 1)),u_ 69 (.ld (.t 68)),u_ 70 (.bin .eql (.t 69) (.c (.int .i64 0))),u_ 71 (.mv (.t 70)),ug 72 71 true (.fad 5 (.t 1)),ug 73 71 true (.ld (.t 72)),ug 74 71 true (.bin .neq (.t 73) (.c (.int .i64 0))),u_ 75 (.pick (.t 71) (.t 74) (.c (.bool false))),u_ 76 (.mv (.t 75)),ug 77 76 true (.fad 5 (.t 1)),ug 78 76 true (.ld (.t 77)),ug 79 76 true (.fad 0 (.t 1)),ug 80 76 true (.ld (.t 79)),ug 81 76 true (.bin .neq (.t 78) (.t 80)),u_ 82 (.pick (.t 76) (.t 81) (.c (.bool false)))]) (.cond (.t 82) (.fin (.reg [u_ 83 (.fad 5 (.t 1)),u_ 84 (.ld (.t 83)),u_ 85 (.fad 9 (.t 1)),(⟨none,.st 1 (.t 85) (.t 84),none⟩,⟨.n,[]⟩)]) [] [] [1,2,4,5] [(1,1),(2,2)]) (.fin .skip [] [] [1,2,4,5] [(1,1),(2,2)]))) kJ)) (.fin .skip [(5,10)] [] [1,2,4,5] [(1,1),(2,2),(5,5)])) [] [] [1,2,4,5] [(1,1),(2,2),(5,5)])
def qO:ze:=.seq (.reg [u_ 42 (.fad 3 (.t 1)),u_ 43 (.ld (.t 42)),u_ 44 (.bin .eql (.t 43) (.c (.int .i64 0)))]) (.fin (.cond (.t 44) (.seq (.seq (.reg [u_ 45 (.fad 9 (.t 1)),u_ 46 (.ld (.t 45)),u_ 47 (.bin .neq (.t 46) (.c (.int .i64 0))),u_ 48 (.mv (.t 47)),ug 49 48 true (.fad 2 (.t 1)),ug 50 48 true (.ld (.t 49)),ug 51 48 true (.fad 10 (.t 1)),ug 52 48 true (.ld (.t 51)),ug 53 48 true (.bin .geq (.t 50) (.t 52)),u_ 54 (.pick (.t 48) (.t 53) (.c (.bool false)))]) (.cond (.t 54) (.fin (.reg [u_ 55 (.fad 11 (.t 1)),u_ 56 (.ld (.t 55)),u_ 57 (.bin .add (.t 56) (.c (.int .i64 1))),u_ 58 (.fad 9 (.t 1)),(⟨none,.st 1 (.t 58) (.c (.int .i64 0)),none⟩,⟨.n,[]⟩),u_ 59 (.fad 11 (.t 1)),(⟨none,.st 1 (.t 59) (.t 57),none⟩,⟨.n,[]⟩)]) [] [] [1,2,4,5] [(1,1),(2,2)]) (.fin .skip [] [] [1,2,4,5] [(1,1),(2,2)]))) qN) (.fin .skip [(5,10)] [] [1,2,4,5] [(1,1),(2,2),(5,5)])) [] [] [1,2,4,5] [(1,1),(2,2),(5,5)])
def yp:ze:=.seq (.seq (.reg [u_ 107 (.mv (.t 6)),u_ 108 (.fad 12 (.t 1)),u_ 109 (.ld (.t 108)),u_ 110 (.len (.t 109)),u_ 111 (.bin .lss (.t 107) (.t 110)),u_ 112 (.mv (.t 111)),ug 113 112 true (.ldn 13 (.t 1)),ug 114 112 true (.call (.c (.fn 26 [] [])) [.t 113]),u_ 115 (.pick (.t 112) (.t 114) (.c (.bool false)))]) (.cond (.t 115) .skip (.keep [1,2,5] [(1,1),(2,2),(5,5)] (.exit 0)))) (.seq (.block 1 (.dreg 1 [qn 118 (.mv (.t 5)),qn 119 (.ldn 13 (.t 1)),qn 120 (.fad 12 (.t 1)),qn 121 (.ld (.t 120)),qn 122 (.mv (.t 6)),qn 123 (.iad 3 (.t 121) (.t 122)),qn 124 (.fad 0 (.t 123)),qn 125 (.ld (.t 124)),((⟨some 126,.call (.c (.fn 46 [] [])) [.t 119,.c (.int .i64 5),.t 125],none⟩,.ef []),⟨.n,[]⟩),((⟨some 127,.bsl 10 [.int .i64 0,.int .i64 0,.int .i64 0,.int .i64 0,.int .i64 0,.int .i64 0,.nils,.int .i64 0,.int .i64 0,.str []] 1 [(0,10,.t 126)],none⟩,.al 0),⟨.f,[]⟩),((⟨some 128,.app 10 104 [.int .i64 0,.int .i64 0,.int .i64 0,.int .i64 0,.int .i64 0,.int .i64 0,.nils,.int .i64 0,.int .i64 0,.str []] (.t 118) (.t 127),none⟩,.ef []),⟨.s 10,[]⟩),qn 5 (.mv (.t 128))])) (.fin (.reg [u_ 116 (.mv (.t 6)),u_ 117 (.bin .add (.t 116) (.c (.int .i64 1))),u_ 6 (.mv (.t 117))]) [] [] [1,2,5,6] [(1,1),(2,2),(5,5)]))
def kK:ze:=.seq (.reg [u_ 129 (.ldn 13 (.t 1)),u_ 130 (.mv (.t 5)),(⟨none,.st 13 (.t 2) (.t 129),none⟩,⟨.n,[]⟩),u_ 3 (.mv (.t 130))]) .ret
def kL:ze:=.seq (.seq (.reg [u_ 6 (.mv (.c (.int .i64 0)))]) (.block 0 (.keep [1,2,5,6] [(1,1),(2,2),(5,5)] (.loop yp)))) kK
def qP:ze:=.seq (.seq (.reg [u_ 93 (.mv (.t 4)),u_ 94 (.un .not (.t 93))]) (.cond (.t 94) (.seq (.reg [u_ 95 (.ldn 13 (.t 1)),u_ 96 (.mv (.t 5)),(⟨none,.st 13 (.t 2) (.t 95),none⟩,⟨.n,[]⟩),u_ 3 (.mv (.t 96))]) .ret) .skip)) (.seq (.seq (.reg [u_ 97 (.fad 3 (.t 1)),u_ 98 (.ld (.t 97)),u_ 99 (.bin .neq (.t 98) (.c (.int .i64 0)))]) (.cond (.t 99) (.fin (.reg [u_ 100 (.mv (.t 5)),u_ 101 (.ldn 13 (.t 1)),u_ 102 (.fad 3 (.t 1)),u_ 103 (.ld (.t 102)),u_ 104 (.call (.c (.fn 45 [] [])) [.t 101,.c (.int .i64 4),.t 103]),(⟨some 105,.bsl 10 [.int .i64 0,.int .i64 0,.int .i64 0,.int .i64 0,.int .i64 0,.int .i64 0,.nils,.int .i64 0,.int .i64 0,.str []] 1 [(0,10,.t 104)],none⟩,⟨.f,[]⟩),(⟨some 106,.app 10 104 [.int .i64 0,.int .i64 0,.int .i64 0,.int .i64 0,.int .i64 0,.int .i64 0,.nils,.int .i64 0,.int .i64 0,.str []] (.t 100) (.t 105),none⟩,⟨.s 10,[]⟩),u_ 5 (.mv (.t 106))]) [] [] [1,2,5] [(1,1),(2,2),(5,5)]) (.fin .skip [] [] [1,2,5] [(1,1),(2,2),(5,5)]))) kL)
def YI:ze:=.seq (.reg [(⟨some 1,.box (.t 0),none⟩,⟨.s 13,[]⟩),(⟨some 2,.newc [.int .i64 0,.int .i64 0,.int .i64 0,.int .i64 0,.int .i64 0,.int .i64 0,.nils,.int .i64 0,.int .i64 0,.int .i64 0,.int .i64 0,.int .i64 0,.nils],none⟩,⟨.s 13,[]⟩),u_ 3 (.mv (.c .nils))]) (.seq (.reg [u_ 7 (.fad 2 (.t 1)),u_ 8 (.ld (.t 7)),u_ 9 (.bin .add (.t 8) (.c (.int .i64 1))),u_ 10 (.fad 2 (.t 1)),(⟨none,.st 1 (.t 10) (.t 9),none⟩,⟨.n,[]⟩)]) (.seq (.reg [u_ 11 (.fad 12 (.t 1)),u_ 12 (.ld (.t 11)),u_ 13 (.fad 2 (.t 1)),u_ 14 (.ld (.t 13)),u_ 15 (.call (.c (.fn 43 [] [])) [.t 12,.t 14]),u_ 16 (.fad 12 (.t 1)),(⟨none,.st 1 (.t 16) (.t 15),none⟩,⟨.n,[]⟩)]) (.seq (.reg [u_ 17 (.fad 2 (.t 1)),u_ 18 (.ld (.t 17)),u_ 19 (.bin .rem (.t 18) (.c (.int .i64 2))),u_ 20 (.bin .eql (.t 19) (.c (.int .i64 0))),u_ 4 (.mv (.t 20))]) (.seq (.reg [u_ 5 (.mv (.c .nils))]) (.seq (.seq (.reg [u_ 21 (.fad 0 (.t 1)),u_ 22 (.ld (.t 21)),u_ 23 (.bin .eql (.t 22) (.c (.int .i64 1)))]) (.cond (.t 23) (.seq (.reg [u_ 24 (.mv (.t 4))]) (.fin (.cond (.t 24) (.fin (.reg [u_ 25 (.fad 7 (.t 1)),u_ 26 (.ld (.t 25)),u_ 27 (.bin .add (.t 26) (.c (.int .i64 1))),u_ 28 (.fad 2 (.t 1)),u_ 29 (.ld (.t 28)),u_ 30 (.fad 7 (.t 1)),(⟨none,.st 1 (.t 30) (.t 27),none⟩,⟨.n,[]⟩),u_ 31 (.fad 8 (.t 1)),(⟨none,.st 1 (.t 31) (.t 29),none⟩,⟨.n,[]⟩)]) [] [] [1,2,4,5] [(1,1),(2,2)]) (.fin .skip [] [] [1,2,4,5] [(1,1),(2,2)])) [(5,10)] [] [1,2,4,5] [(1,1),(2,2),(5,5)])) (.seq (.seq (.reg [u_ 32 (.fad 3 (.t 1)),u_ 33 (.ld (.t 32)),u_ 34 (.bin .neq (.t 33) (.c (.int .i64 0))),u_ 35 (.mv (.t 34)),ug 36 35 true (.ldn 13 (.t 1)),ug 37 35 true (.call (.c (.fn 26 [] [])) [.t 36]),ug 38 35 true (.un .not (.t 37)),u_ 39 (.pick (.t 35) (.t 38) (.c (.bool false)))]) (.cond (.t 39) (.fin (.reg [u_ 40 (.ldn 13 (.t 1)),u_ 41 (.call (.c (.fn 44 [] [])) [.t 40,.c (.int .i64 0)]),(⟨none,.st 13 (.t 1) (.t 41),none⟩,⟨.n,[]⟩)]) [] [] [1,2,4,5] [(1,1),(2,2)]) (.fin .skip [] [] [1,2,4,5] [(1,1),(2,2)]))) qO))) qP)))))
def xT:PFn:=⟨131,[],YI,[.cell 2 (some 13),.tmp 3],[.n,.f 10]⟩
def qZ:ze:=.fin (.cond (.t 64) (.seq (.reg [u_ 67 (.mv (.t 0)),u_ 68 (.call (.c (.fn 13 [] [])) [.t 67,.c (.int .i64 9)]),u_ 69 (.bin .add (.c (.int .i64 1)) (.t 68)),u_ 70 (.fad 7 (.t 6)),(⟨none,.st 1 (.t 70) (.t 69),none⟩,⟨.n,[]⟩)]) (.fin (.dreg 0 [qn 71 (.fad 7 (.t 6)),qn 72 (.ld (.t 71)),qn 73 (.mv (.t 0)),((⟨some 74,.call (.c (.fn 13 [] [])) [.t 73,.c (.int .i64 6)],none⟩,.ef [1]),⟨.n,[]⟩),qn 75 (.bin .add (.t 72) (.t 74)),qn 76 (.fad 8 (.t 6)),((⟨none,.st 1 (.t 76) (.t 75),none⟩,.ef []),⟨.n,[]⟩)]) [] [] [4,6] [(4,4),(6,6)])) (.fin .skip [] [] [4,6] [(4,4),(6,6)])) [] [] [4,6] [(4,4),(6,6)]
def j3:ze:=.seq (.reg [u_ 77 (.ldn 10 (.t 6)),(⟨none,.st 10 (.t 4) (.t 77),none⟩,⟨.n,[]⟩)]) .ret
def xB:ze:=.seq (.reg [u_ 16 (.mv (.t 0)),u_ 17 (.call (.c (.fn 13 [] [])) [.t 16,.c (.int .i64 9)]),u_ 18 (.bin .add (.c (.int .i64 1)) (.t 17)),u_ 19 (.mv (.t 5)),u_ 20 (.mv (.t 1)),u_ 21 (.mv (.t 0)),u_ 22 (.call (.c (.fn 13 [] [])) [.t 21,.c (.int .i64 3)]),u_ 23 (.bin .add (.c (.int .i64 1)) (.t 22)),u_ 24 (.build [.int .i64 0,.int .i64 0,.int .i64 0,.int .i64 0,.int .i64 0,.int .i64 0,.nils,.int .i64 0,.int .i64 0,.str []] [(0,1,.t 18),(1,1,.t 19),(2,1,.t 20),(3,1,.t 23)]),(⟨some 6,.newc [.int .i64 0,.int .i64 0,.int .i64 0,.int .i64 0,.int .i64 0,.int .i64 0,.nils,.int .i64 0,.int .i64 0,.str []],none⟩,⟨.s 10,[]⟩),(⟨none,.st 10 (.t 6) (.t 24),none⟩,⟨.n,[]⟩)]) (.seq (.seq (.reg [u_ 25 (.fad 0 (.t 6)),u_ 26 (.ld (.t 25))]) (.block 0 (.seq (.reg [u_ 28 (.bin .eql (.t 26) (.c (.int .i64 2))),u_ 27 (.mv (.t 28))]) (.fin (.cond (.t 27) (.fin (.reg [u_ 29 (.mv (.t 0)),u_ 30 (.call (.c (.fn 13 [] [])) [.t 29,.c (.int .i64 20)]),u_ 31 (.mv (.t 0)),u_ 32 (.call (.c (.fn 13 [] [])) [.t 31,.c (.int .i64 25)]),u_ 33 (.mv (.t 0)),u_ 34 (.call (.c (.fn 21 [] [])) [.t 33]),u_ 35 (.mv (.t 0)),u_ 36 (.call (.c (.fn 13 [] [])) [.t 35,.c (.int .i64 9)]),u_ 37 (.fad 4 (.t 6)),(⟨none,.st 1 (.t 37) (.t 30),none⟩,⟨.n,[]⟩),u_ 38 (.fad 5 (.t 6)),(⟨none,.st 1 (.t 38) (.t 32),none⟩,⟨.n,[]⟩),u_ 39 (.fad 6 (.t 6)),(⟨none,.st 1 (.t 39) (.t 34),none⟩,⟨.n,[]⟩),u_ 40 (.fad 7 (.t 6)),(⟨none,.st 1 (.t 40) (.t 36),none⟩,⟨.n,[]⟩)]) [] [] [4,6] [(4,4),(6,6)]) (.seq (.reg [u_ 42 (.bin .eql (.t 26) (.c (.int .i64 5))),u_ 41 (.mv (.t 42))]) (.fin (.cond (.t 41) (.fin (.reg [u_ 43 (.mv (.t 0)),u_ 44 (.call (.c (.fn 13 [] [])) [.t 43,.c (.int .i64 20)]),u_ 45 (.mv (.t 0)),u_ 46 (.call (.c (.fn 13 [] [])) [.t 45,.c (.int .i64 25)]),u_ 47 (.mv (.t 0)),u_ 48 (.call (.c (.fn 21 [] [])) [.t 47]),u_ 49 (.mv (.t 0)),u_ 50 (.call (.c (.fn 13 [] [])) [.t 49,.c (.int .i64 12)]),u_ 51 (.fad 4 (.t 6)),(⟨none,.st 1 (.t 51) (.t 44),none⟩,⟨.n,[]⟩),u_ 52 (.fad 5 (.t 6)),(⟨none,.st 1 (.t 52) (.t 46),none⟩,⟨.n,[]⟩),u_ 53 (.fad 6 (.t 6)),(⟨none,.st 1 (.t 53) (.t 48),none⟩,⟨.n,[]⟩),u_ 54 (.fad 8 (.t 6)),(⟨none,.st 1 (.t 54) (.t 50),none⟩,⟨.n,[]⟩)]) [] [] [4,6] [(4,4),(6,6)]) (.seq (.reg [u_ 56 (.bin .eql (.t 26) (.c (.int .i64 7))),u_ 55 (.mv (.t 56))]) (.fin (.cond (.t 55) (.fin (.reg [u_ 57 (.mv (.t 0)),u_ 58 (.call (.c (.fn 13 [] [])) [.t 57,.c (.int .i64 12)]),u_ 59 (.bin .add (.c (.int .i64 1)) (.t 58)),u_ 60 (.mv (.t 0)),u_ 61 (.call (.c (.fn 47 [] [])) [.t 60]),u_ 62 (.fad 7 (.t 6)),(⟨none,.st 1 (.t 62) (.t 59),none⟩,⟨.n,[]⟩),u_ 63 (.fad 9 (.t 6)),(⟨none,.st 1 (.t 63) (.t 61),none⟩,⟨.n,[]⟩)]) [] [] [4,6] [(4,4),(6,6)]) (.seq (.seq (.reg [u_ 65 (.bin .eql (.t 26) (.c (.int .i64 8))),u_ 64 (.mv (.t 65))]) (.cond (.t 64) (.fin .skip [] [] [0,4,6,64] [(4,4),(6,6)]) (.fin (.reg [u_ 66 (.bin .eql (.t 26) (.c (.int .i64 9))),u_ 64 (.mv (.t 66))]) [] [] [0,4,6,64] [(4,4),(6,6)]))) qZ)) [] [] [4,6] [(4,4),(6,6)]))) [] [] [4,6] [(4,4),(6,6)]))) [] [] [4,6] [(4,4),(6,6)])))) j3)
def wU:ze:=.seq (.reg [(⟨some 4,.newc [.int .i64 0,.int .i64 0,.int .i64 0,.int .i64 0,.int .i64 0,.int .i64 0,.nils,.int .i64 0,.int .i64 0,.str []],none⟩,⟨.s 10,[]⟩)]) (.seq (.reg [u_ 7 (.mv (.t 0)),u_ 8 (.call (.c (.fn 13 [] [])) [.t 7,.c (.int .i64 8)]),u_ 9 (.bin .add (.c (.int .i64 1)) (.t 8)),u_ 5 (.mv (.t 9))]) (.seq (.seq (.reg [u_ 10 (.mv (.t 5)),u_ 11 (.mv (.t 1)),u_ 12 (.bin .eql (.t 10) (.t 11))]) (.cond (.t 12) (.fin (.reg [u_ 13 (.mv (.t 1)),u_ 14 (.bin .rem (.t 13) (.c (.int .i64 8))),u_ 15 (.bin .add (.c (.int .i64 1)) (.t 14)),u_ 5 (.mv (.t 15))]) [] [] [0,1,4,5] [(4,4)]) (.fin .skip [] [] [0,1,4,5] [(4,4)]))) xB))
def yX:PFn:=⟨78,[],wU,[.cell 4 (some 10)],[.n]⟩
def qF:ze:=.fin (.reg [u_ 12 (.mv (.t 4)),u_ 13 (.bin .sub (.t 12) (.c (.int .i64 1))),u_ 4 (.mv (.t 13))]) [] [] [0,3,4] []
def zP:ze:=.seq (.seq (.reg [u_ 10 (.mv (.t 4)),u_ 11 (.bin .gtr (.t 10) (.c (.int .i64 0)))]) (.cond (.t 11) .skip (.keep [3] [] (.exit 0)))) (.seq (.block 1 (.seq (.reg [u_ 15 (.mv (.t 3)),u_ 16 (.mv (.t 0)),u_ 17 (.call (.c (.fn 13 [] [])) [.t 16,.c (.int .i64 7)]),u_ 18 (.bin .add (.c (.int .i64 2)) (.t 17)),u_ 19 (.call (.c (.fn 35 [] [])) [.t 15,.t 18]),u_ 14 (.mv (.t 19)),u_ 20 (.ext (.t 14) 0),u_ 21 (.ext (.t 14) 1),u_ 5 (.mv (.t 20)),u_ 6 (.mv (.t 21))]) (.seq (.reg [u_ 22 (.mv (.t 6))]) (.fin (.cond (.t 22) (.fin (.reg [u_ 23 (.mv (.t 5)),u_ 3 (.mv (.t 23))]) [] [] [0,3,4] []) (.fin .skip [] [] [0,3,4] [])) [] [] [0,3,4] [])))) qF)
def qG:ze:=.seq (.reg [u_ 24 (.mv (.t 3)),u_ 2 (.mv (.t 24))]) .ret
def wt:ze:=.seq (.reg [u_ 2 (.mv (.c .nils))]) (.seq (.reg [(⟨some 7,.bsl 1 [.int .i64 0] 1 [(0,1,.c (.int .i64 1))],none⟩,⟨.s 1,[]⟩),u_ 3 (.mv (.t 7))]) (.seq (.seq (.reg [u_ 8 (.mv (.t 0)),u_ 9 (.call (.c (.fn 13 [] [])) [.t 8,.c (.int .i64 4)]),u_ 4 (.mv (.t 9))]) (.block 0 (.frz [3] (.keep [0,3,4] [] (.loop zP))))) qG))
def yN:PFn:=⟨25,[],wt,[.tmp 2],[.f 1]⟩
def ZA:ze:=.seq (.dreg 0 [qn 115 (.mv (.t 8)),qn 116 (.nck (.t 115)),qn 117 (.fad 0 (.t 116)),qn 118 (.ldn 13 (.t 117)),qn 119 (.mv (.t 8)),qn 120 (.nck (.t 119)),qn 121 (.fad 13 (.t 120)),qn 122 (.ld (.t 121)),((⟨none,.st 13 (.t 6) (.t 118),none⟩,.ef [7]),⟨.n,[]⟩),qn 7 (.mv (.t 122))]) (.hf 7 10 .ret)
def ZB:ze:=.seq (.seq (.reg [u_ 73 (.fad 0 (.t 4)),u_ 74 (.ld (.t 73))]) (.block 0 (.seq (.reg [u_ 76 (.bin .eql (.t 74) (.c (.int .i64 1))),u_ 75 (.mv (.t 76))]) (.fin (.cond (.t 75) (.fin (.reg [u_ 77 (.mv (.t 8)),u_ 78 (.ldn 10 (.t 4)),u_ 79 (.mv (.t 2)),u_ 80 (.call (.c (.fn 49 [] [])) [.t 77,.t 78,.t 79])]) [] [] [6,8] [(6,6)]) (.seq (.reg [u_ 82 (.bin .eql (.t 74) (.c (.int .i64 2))),u_ 81 (.mv (.t 82))]) (.fin (.cond (.t 81) (.fin (.reg [u_ 83 (.mv (.t 8)),u_ 84 (.ldn 10 (.t 4)),u_ 85 (.call (.c (.fn 50 [] [])) [.t 83,.t 84])]) [] [] [6,8] [(6,6)]) (.seq (.reg [u_ 87 (.bin .eql (.t 74) (.c (.int .i64 3))),u_ 86 (.mv (.t 87))]) (.fin (.cond (.t 86) (.fin (.reg [u_ 88 (.mv (.t 8)),u_ 89 (.ldn 10 (.t 4)),u_ 90 (.call (.c (.fn 51 [] [])) [.t 88,.t 89])]) [] [] [6,8] [(6,6)]) (.seq (.reg [u_ 92 (.bin .eql (.t 74) (.c (.int .i64 4))),u_ 91 (.mv (.t 92))]) (.fin (.cond (.t 91) (.fin (.reg [u_ 93 (.mv (.t 8)),u_ 94 (.ldn 10 (.t 4)),u_ 95 (.call (.c (.fn 52 [] [])) [.t 93,.t 94])]) [] [] [6,8] [(6,6)]) (.seq (.reg [u_ 97 (.bin .eql (.t 74) (.c (.int .i64 5))),u_ 96 (.mv (.t 97))]) (.fin (.cond (.t 96) (.fin (.reg [u_ 98 (.mv (.t 8)),u_ 99 (.ldn 10 (.t 4)),u_ 100 (.call (.c (.fn 53 [] [])) [.t 98,.t 99])]) [] [] [6,8] [(6,6)]) (.seq (.reg [u_ 102 (.bin .eql (.t 74) (.c (.int .i64 6))),u_ 101 (.mv (.t 102))]) (.fin (.cond (.t 101) (.fin (.dreg 0 [qn 103 (.mv (.t 8)),qn 104 (.mv (.t 8)),qn 105 (.nck (.t 104)),qn 106 (.fad 0 (.t 105)),qn 107 (.fad 12 (.t 106)),qn 108 (.ld (.t 107)),qn 109 (.fad 1 (.t 4)),qn 110 (.ld (.t 109)),((⟨some 111,.call (.c (.fn 54 [] [])) [.t 108,.t 110],none⟩,.ef []),⟨.n,[]⟩),qn 112 (.nck (.t 103)),qn 113 (.fad 0 (.t 112)),qn 114 (.fad 12 (.t 113)),((⟨none,.st 1 (.t 114) (.t 111),none⟩,.ef []),⟨.n,[]⟩)]) [] [] [6,8] [(6,6)]) (.fin .skip [] [] [6,8] [(6,6)])) [] [] [6,8] [(6,6)]))) [] [] [6,8] [(6,6)]))) [] [] [6,8] [(6,6)]))) [] [] [6,8] [(6,6)]))) [] [] [6,8] [(6,6)]))) [] [] [6,8] [(6,6)])))) ZA
def z28:ze:=.seq (.reg [(⟨some 3,.box (.t 0),none⟩,⟨.s 13,[]⟩),(⟨some 4,.box (.t 1),none⟩,⟨.s 10,[]⟩),(⟨some 6,.newc [.int .i64 0,.int .i64 0,.int .i64 0,.int .i64 0,.int .i64 0,.int .i64 0,.nils,.int .i64 0,.int .i64 0,.int .i64 0,.int .i64 0,.int .i64 0,.nils],none⟩,⟨.s 13,[]⟩),u_ 7 (.mv (.c .nils))]) (.seq (.reg [u_ 9 (.ldn 13 (.t 3)),u_ 10 (.call (.c (.fn 38 [] [])) [.t 9]),u_ 8 (.mv (.t 10))]) (.seq (.seq (.dreg 0 [qn 11 (.mv (.t 8)),qn 12 (.nck (.t 11)),qn 13 (.fad 0 (.t 12)),qn 14 (.fad 12 (.t 13)),qn 15 (.ld (.t 14)),qn 16 (.fad 1 (.t 4)),qn 17 (.ld (.t 16)),qn 18 (.fad 3 (.t 4)),qn 19 (.ld (.t 18)),((⟨some 20,.call (.c (.fn 48 [] [])) [.t 15,.t 17,.t 19],none⟩,.ef []),⟨.n,[]⟩),qn 21 (.mv (.t 20)),qg 22 21 false (.fad 1 (.t 4)),qg 23 21 false (.ld (.t 22)),qg 24 21 false (.mv (.t 8)),qg 25 21 false (.nck (.t 24)),qg 26 21 false (.fad 0 (.t 25)),qg 27 21 false (.fad 3 (.t 26)),qg 28 21 false (.ld (.t 27)),qg 29 21 false (.bin .eql (.t 23) (.t 28)),qg 30 21 false (.mv (.t 29)),qg 31 30 true (.fad 3 (.t 4)),qg 32 30 true (.ld (.t 31)),qg 33 30 true (.mv (.t 8)),qg 34 30 true (.nck (.t 33)),qg 35 30 true (.fad 0 (.t 34)),qg 36 30 true (.fad 4 (.t 35)),qg 37 30 true (.ld (.t 36)),qg 38 30 true (.bin .lss (.t 32) (.t 37)),qg 39 21 false (.pick (.t 30) (.t 38) (.c (.bool false))),qn 40 (.pick (.t 21) (.c (.bool true)) (.t 39))]) (.cond (.t 40) (.seq (.reg [u_ 41 (.mv (.t 8)),u_ 42 (.nck (.t 41)),u_ 43 (.fad 0 (.t 42)),u_ 44 (.ldn 13 (.t 43)),(⟨none,.st 13 (.t 6) (.t 44),none⟩,⟨.n,[]⟩),u_ 7 (.mv (.c .nils))]) .ret) .skip)) (.seq (.seq (.dreg 0 [qn 45 (.mv (.t 8)),qn 46 (.nck (.t 45)),qn 47 (.fad 0 (.t 46)),qn 48 (.fad 3 (.t 47)),qn 49 (.ld (.t 48)),qn 50 (.bin .neq (.t 49) (.c (.int .i64 0))),qn 51 (.mv (.t 50)),qg 52 51 true (.fad 1 (.t 4)),qg 53 51 true (.ld (.t 52)),qg 54 51 true (.mv (.t 8)),qg 55 51 true (.nck (.t 54)),qg 56 51 true (.fad 0 (.t 55)),qg 57 51 true (.fad 3 (.t 56)),qg 58 51 true (.ld (.t 57)),qg 59 51 true (.bin .eql (.t 53) (.t 58)),qn 60 (.pick (.t 51) (.t 59) (.c (.bool false))),qn 61 (.mv (.t 60)),qg 62 61 true (.fad 3 (.t 4)),qg 63 61 true (.ld (.t 62)),qg 64 61 true (.mv (.t 8)),qg 65 61 true (.nck (.t 64)),qg 66 61 true (.fad 0 (.t 65)),qg 67 61 true (.fad 4 (.t 66)),qg 68 61 true (.ld (.t 67)),qg 69 61 true (.bin .gtr (.t 63) (.t 68)),qn 70 (.pick (.t 61) (.t 69) (.c (.bool false)))]) (.cond (.t 70) (.fin (.reg [u_ 71 (.mv (.t 8)),u_ 72 (.call (.c (.fn 40 [] [])) [.t 71,.c (.int .i64 0)])]) [] [] [2,4,6,8] [(4,4),(6,6)]) (.fin .skip [] [] [2,4,6,8] [(4,4),(6,6)]))) ZB)))
def wV:PFn:=⟨123,[],z28,[.cell 6 (some 13),.tmp 7],[.n,.f 10]⟩
def kf:ze:=.seq (.seq (.reg [u_ 78 (.ldn 13 (.t 3)),u_ 79 (.call (.c (.fn 26 [] [])) [.t 78]),u_ 80 (.un .not (.t 79)),u_ 81 (.mv (.t 80)),ug 82 81 false (.fad 6 (.t 3)),ug 83 81 false (.ld (.t 82)),ug 84 81 false (.fad 1 (.t 4)),ug 85 81 false (.ld (.t 84)),ug 86 81 false (.call (.c (.fn 32 [] [])) [.t 83,.t 85]),u_ 87 (.pick (.t 81) (.c (.bool true)) (.t 86)),u_ 88 (.mv (.t 87)),ug 89 88 false (.mv (.t 10)),ug 90 88 false (.un .not (.t 89)),ug 91 88 false (.mv (.t 90)),ug 92 91 true (.fad 12 (.t 3)),ug 93 91 true (.ld (.t 92)),ug 94 91 true (.len (.t 93)),ug 95 91 true (.mv (.t 11)),ug 96 91 true (.bin .geq (.t 94) (.t 95)),ug 97 88 false (.pick (.t 91) (.t 96) (.c (.bool false))),u_ 98 (.pick (.t 88) (.c (.bool true)) (.t 97))]) (.cond (.t 98) (.seq (.dreg 1 [qn 99 (.ldn 13 (.t 3)),qn 100 (.ldn 13 (.t 3)),qn 101 (.fad 1 (.t 4)),qn 102 (.ld (.t 101)),((⟨some 103,.call (.c (.fn 45 [] [])) [.t 100,.c (.int .i64 3),.t 102],none⟩,.ef [0]),⟨.n,[]⟩),((⟨some 104,.bsl 10 [.int .i64 0,.int .i64 0,.int .i64 0,.int .i64 0,.int .i64 0,.int .i64 0,.nils,.int .i64 0,.int .i64 0,.str []] 1 [(0,10,.t 103)],none⟩,.al 0),⟨.s 10,[]⟩),((⟨none,.st 13 (.t 6) (.t 99),none⟩,.ef [5]),⟨.n,[]⟩),qn 7 (.mv (.t 104))]) (.keep [6,7] [(6,6),(104,7)] .ret)) .skip)) (.seq (.reg [u_ 106 (.fad 12 (.t 3)),u_ 107 (.ld (.t 106)),u_ 108 (.fad 1 (.t 4)),u_ 109 (.ld (.t 108)),u_ 110 (.fad 3 (.t 4)),u_ 111 (.ld (.t 110)),u_ 112 (.fad 2 (.t 3)),u_ 113 (.ld (.t 112)),u_ 114 (.build [.int .i64 0,.int .i64 0,.int .i64 0] [(0,1,.t 109),(1,1,.t 111),(2,1,.t 113)]),u_ 115 (.call (.c (.fn 56 [] [])) [.t 107,.t 114]),u_ 105 (.mv (.t 115)),u_ 116 (.ext (.t 105) 0),u_ 117 (.ext (.t 105) 1),u_ 118 (.fad 12 (.t 3)),(⟨none,.st 1 (.t 118) (.t 116),none⟩,⟨.n,[]⟩)]) (.seq (.reg [u_ 119 (.ldn 13 (.t 3)),u_ 120 (.fad 1 (.t 4)),u_ 121 (.ld (.t 120)),u_ 122 (.call (.c (.fn 46 [] [])) [.t 119,.c (.int .i64 2),.t 121]),(⟨some 12,.newc [.int .i64 0,.int .i64 0,.int .i64 0,.int .i64 0,.int .i64 0,.int .i64 0,.nils,.int .i64 0,.int .i64 0,.str []],none⟩,⟨.s 10,[]⟩),(⟨none,.st 10 (.t 12) (.t 122),none⟩,⟨.n,[]⟩)]) (.seq (.reg [u_ 123 (.mv (.t 2)),u_ 124 (.fad 7 (.t 12)),(⟨none,.st 1 (.t 124) (.t 123),none⟩,⟨.n,[]⟩)]) (.seq (.dreg 1 [qn 125 (.ldn 13 (.t 3)),qn 126 (.ldn 10 (.t 12)),((⟨some 127,.bsl 10 [.int .i64 0,.int .i64 0,.int .i64 0,.int .i64 0,.int .i64 0,.int .i64 0,.nils,.int .i64 0,.int .i64 0,.str []] 1 [(0,10,.t 126)],none⟩,.al 0),⟨.s 10,[]⟩),((⟨none,.st 13 (.t 6) (.t 125),none⟩,.ef [1,2]),⟨.n,[]⟩),qn 7 (.mv (.t 127))]) (.keep [6,7] [(6,6),(127,7)] .ret)))))
def kg:ze:=.seq (.reg [u_ 152 (.mv (.t 8))]) (.fin (.cond (.t 152) (.fin (.reg [u_ 153 (.ldn 13 (.t 3)),u_ 154 (.call (.c (.fn 44 [] [])) [.t 153,.c (.int .i64 0)]),(⟨none,.st 13 (.t 3) (.t 154),none⟩,⟨.n,[]⟩)]) [] [] [3,6] [(3,3),(6,6)]) (.fin .skip [] [] [3,6] [(3,3),(6,6)])) [] [] [3,6] [(3,3),(6,6)])
def kh:ze:=.seq (.reg [u_ 245 (.ldn 13 (.t 3)),(⟨none,.st 13 (.t 6) (.t 245),none⟩,⟨.n,[]⟩),u_ 7 (.mv (.c .nils))]) .ret
def qD:ze:=.seq (.reg [u_ 53 (.fad 3 (.t 3)),u_ 54 (.ld (.t 53)),u_ 55 (.bin .neq (.t 54) (.c (.int .i64 0))),u_ 56 (.mv (.t 55)),ug 57 56 true (.fad 1 (.t 4)),ug 58 56 true (.ld (.t 57)),ug 59 56 true (.fad 3 (.t 3)),ug 60 56 true (.ld (.t 59)),ug 61 56 true (.bin .eql (.t 58) (.t 60)),u_ 62 (.pick (.t 56) (.t 61) (.c (.bool false))),u_ 8 (.mv (.t 62))]) (.seq (.seq (.reg [u_ 63 (.fad 0 (.t 4)),u_ 64 (.ld (.t 63))]) (.block 0 (.seq (.reg [u_ 66 (.bin .eql (.t 64) (.c (.int .i64 1))),u_ 65 (.mv (.t 66))]) (.fin (.cond (.t 65) (.seq (.reg [u_ 68 (.fad 12 (.t 3)),u_ 69 (.ld (.t 68)),u_ 70 (.fad 1 (.t 4)),u_ 71 (.ld (.t 70)),u_ 72 (.call (.c (.fn 34 [] [])) [.t 69,.t 71]),u_ 67 (.mv (.t 72)),u_ 73 (.ext (.t 67) 0),u_ 74 (.ext (.t 67) 1),(⟨some 9,.newc [.int .i64 0,.int .i64 0,.int .i64 0],none⟩,⟨.s 3,[]⟩),(⟨none,.st 3 (.t 9) (.t 73),none⟩,⟨.n,[]⟩),u_ 10 (.mv (.t 74))]) (.seq (.reg [u_ 11 (.mv (.c (.int .i64 3)))]) (.seq (.seq (.reg [u_ 75 (.fad 0 (.t 3)),u_ 76 (.ld (.t 75)),u_ 77 (.bin .eql (.t 76) (.c (.int .i64 1)))]) (.cond (.t 77) (.fin (.reg [u_ 11 (.mv (.c (.int .i64 8)))]) [] [] [2,3,4,6,10,11] [(3,3),(4,4),(6,6)]) (.fin .skip [] [] [2,3,4,6,10,11] [(3,3),(4,4),(6,6)]))) kf))) (.seq (.reg [u_ 129 (.bin .eql (.t 64) (.c (.int .i64 2))),u_ 128 (.mv (.t 129))]) (.cond (.t 128) (.seq (.reg [u_ 130 (.ldn 13 (.t 3)),u_ 131 (.ldn 10 (.t 4)),u_ 132 (.call (.c (.fn 57 [] [])) [.t 130,.t 131]),u_ 133 (.ext (.t 132) 0),u_ 134 (.ext (.t 132) 1),(⟨none,.st 13 (.t 6) (.t 133),none⟩,⟨.n,[]⟩),u_ 7 (.mv (.t 134))]) (.keep [6,7] [(6,6)] .ret)) (.seq (.reg [u_ 136 (.bin .eql (.t 64) (.c (.int .i64 3))),u_ 135 (.mv (.t 136))]) (.cond (.t 135) (.seq (.seq (.reg [u_ 137 (.fad 9 (.t 3)),u_ 138 (.ld (.t 137)),u_ 139 (.bin .neq (.t 138) (.c (.int .i64 0))),u_ 140 (.mv (.t 139)),ug 141 140 true (.fad 9 (.t 3)),ug 142 140 true (.ld (.t 141)),ug 143 140 true (.fad 1 (.t 4)),ug 144 140 true (.ld (.t 143)),ug 145 140 true (.bin .eql (.t 142) (.t 144)),u_ 146 (.pick (.t 140) (.t 145) (.c (.bool false)))]) (.cond (.t 146) (.fin (.reg [u_ 147 (.fad 11 (.t 3)),u_ 148 (.ld (.t 147)),u_ 149 (.bin .add (.t 148) (.c (.int .i64 1))),u_ 150 (.fad 9 (.t 3)),(⟨none,.st 1 (.t 150) (.c (.int .i64 0)),none⟩,⟨.n,[]⟩),u_ 151 (.fad 11 (.t 3)),(⟨none,.st 1 (.t 151) (.t 149),none⟩,⟨.n,[]⟩)]) [] [] [3,6,8] [(3,3),(6,6)]) (.fin .skip [] [] [3,6,8] [(3,3),(6,6)]))) kg) (.seq (.reg [u_ 156 (.bin .eql (.t 64) (.c (.int .i64 4))),u_ 155 (.mv (.t 156))]) (.fin (.cond (.t 155) (.seq (.reg [u_ 158 (.fad 12 (.t 3)),u_ 159 (.ld (.t 158)),u_ 160 (.fad 1 (.t 4)),u_ 161 (.ld (.t 160)),u_ 162 (.call (.c (.fn 34 [] [])) [.t 159,.t 161]),u_ 157 (.mv (.t 162)),u_ 163 (.ext (.t 157) 0),u_ 164 (.ext (.t 157) 1),(⟨some 13,.newc [.int .i64 0,.int .i64 0,.int .i64 0],none⟩,⟨.s 3,[]⟩),(⟨none,.st 3 (.t 13) (.t 163),none⟩,⟨.n,[]⟩),u_ 14 (.mv (.t 164))]) (.seq (.seq (.reg [u_ 165 (.mv (.t 14)),u_ 166 (.un .not (.t 165))]) (.cond (.t 166) (.seq (.dreg 1 [qn 167 (.ldn 13 (.t 3)),qn 168 (.ldn 13 (.t 3)),qn 169 (.fad 1 (.t 4)),qn 170 (.ld (.t 169)),((⟨some 171,.call (.c (.fn 45 [] [])) [.t 168,.c (.int .i64 3),.t 170],none⟩,.ef [0]),⟨.n,[]⟩),((⟨some 172,.bsl 10 [.int .i64 0,.int .i64 0,.int .i64 0,.int .i64 0,.int .i64 0,.int .i64 0,.nils,.int .i64 0,.int .i64 0,.str []] 1 [(0,10,.t 171)],none⟩,.al 0),⟨.s 10,[]⟩),((⟨none,.st 13 (.t 6) (.t 167),none⟩,.ef [5]),⟨.n,[]⟩),qn 7 (.mv (.t 172))]) (.keep [6,7] [(6,6),(172,7)] .ret)) .skip)) (.fin (.reg [u_ 174 (.fad 12 (.t 3)),u_ 175 (.ld (.t 174)),u_ 176 (.fad 1 (.t 4)),u_ 177 (.ld (.t 176)),u_ 178 (.fad 3 (.t 4)),u_ 179 (.ld (.t 178)),u_ 180 (.fad 2 (.t 3)),u_ 181 (.ld (.t 180)),u_ 182 (.build [.int .i64 0,.int .i64 0,.int .i64 0] [(0,1,.t 177),(1,1,.t 179),(2,1,.t 181)]),u_ 183 (.call (.c (.fn 56 [] [])) [.t 175,.t 182]),u_ 173 (.mv (.t 183)),u_ 184 (.ext (.t 173) 0),u_ 185 (.ext (.t 173) 1),u_ 186 (.fad 12 (.t 3)),(⟨none,.st 1 (.t 186) (.t 184),none⟩,⟨.n,[]⟩)]) [] [] [3,6] [(3,3),(6,6)]))) (.seq (.reg [u_ 188 (.bin .eql (.t 64) (.c (.int .i64 5))),u_ 187 (.mv (.t 188))]) (.fin (.cond (.t 187) (.seq (.seq (.reg [u_ 189 (.mv (.t 8)),u_ 190 (.un .not (.t 189))]) (.cond (.t 190) (.seq (.dreg 1 [qn 191 (.ldn 13 (.t 3)),qn 192 (.ldn 13 (.t 3)),qn 193 (.fad 1 (.t 4)),qn 194 (.ld (.t 193)),((⟨some 195,.call (.c (.fn 45 [] [])) [.t 192,.c (.int .i64 6),.t 194],none⟩,.ef [0]),⟨.n,[]⟩),((⟨some 196,.bsl 10 [.int .i64 0,.int .i64 0,.int .i64 0,.int .i64 0,.int .i64 0,.int .i64 0,.nils,.int .i64 0,.int .i64 0,.str []] 1 [(0,10,.t 195)],none⟩,.al 0),⟨.s 10,[]⟩),((⟨none,.st 13 (.t 6) (.t 191),none⟩,.ef [5]),⟨.n,[]⟩),qn 7 (.mv (.t 196))]) (.keep [6,7] [(6,6),(196,7)] .ret)) .skip)) (.seq (.reg [u_ 198 (.fad 6 (.t 4)),u_ 199 (.ld (.t 198)),u_ 200 (.fad 0 (.t 3)),u_ 201 (.ld (.t 200)),u_ 202 (.call (.c (.fn 35 [] [])) [.t 199,.t 201]),u_ 197 (.mv (.t 202)),u_ 203 (.ext (.t 197) 0),u_ 204 (.ext (.t 197) 1),u_ 15 (.mv (.t 203)),u_ 16 (.mv (.t 204))]) (.seq (.seq (.reg [u_ 205 (.mv (.t 16)),u_ 206 (.un .not (.t 205))]) (.cond (.t 206) (.seq (.dreg 1 [qn 207 (.ldn 13 (.t 3)),qn 209 (.ldn 13 (.t 3)),qn 210 (.fad 1 (.t 4)),qn 211 (.ld (.t 210)),((⟨some 208,.call (.c (.fn 44 [] [])) [.t 207,.c (.int .i64 1)],none⟩,.ef [1,3]),⟨.n,[]⟩),((⟨some 212,.call (.c (.fn 45 [] [])) [.t 209,.c (.int .i64 6),.t 211],none⟩,.ef []),⟨.n,[]⟩),((⟨some 213,.bsl 10 [.int .i64 0,.int .i64 0,.int .i64 0,.int .i64 0,.int .i64 0,.int .i64 0,.nils,.int .i64 0,.int .i64 0,.str []] 1 [(0,10,.t 212)],none⟩,.al 0),⟨.s 10,[]⟩),((⟨none,.st 13 (.t 6) (.t 208),none⟩,.ef [6]),⟨.n,[]⟩),qn 7 (.mv (.t 213))]) (.keep [6,7] [(6,6),(213,7)] .ret)) .skip)) (.seq (.reg [u_ 214 (.mv (.t 15)),u_ 215 (.fad 6 (.t 4)),u_ 216 (.ld (.t 215)),u_ 217 (.call (.c (.fn 58 [] [])) [.t 216]),u_ 218 (.fad 6 (.t 3)),(⟨none,.st 1 (.t 218) (.t 214),none⟩,⟨.n,[]⟩),u_ 219 (.fad 5 (.t 3)),(⟨none,.st 1 (.t 219) (.t 217),none⟩,⟨.n,[]⟩)]) (.seq (.reg [u_ 220 (.fad 2 (.t 3)),u_ 221 (.ld (.t 220)),u_ 222 (.fad 5 (.t 4)),u_ 223 (.ld (.t 222)),u_ 224 (.bin .sub (.t 221) (.t 223)),u_ 225 (.fad 8 (.t 3)),u_ 226 (.ld (.t 225)),u_ 227 (.bin .gtr (.t 224) (.t 226))]) (.fin (.cond (.t 227) (.fin (.dreg 0 [qn 228 (.fad 2 (.t 3)),qn 229 (.ld (.t 228)),qn 230 (.fad 5 (.t 4)),qn 231 (.ld (.t 230)),qn 232 (.bin .sub (.t 229) (.t 231)),qn 233 (.fad 4 (.t 4)),qn 234 (.ld (.t 233)),qn 235 (.fad 8 (.t 3)),((⟨none,.st 1 (.t 235) (.t 232),none⟩,.ef [6]),⟨.n,[]⟩),qn 236 (.fad 7 (.t 3)),((⟨none,.st 1 (.t 236) (.t 234),none⟩,.ef []),⟨.n,[]⟩)]) [] [] [3,6] [(3,3),(6,6)]) (.fin .skip [] [] [3,6] [(3,3),(6,6)])) [] [] [3,6] [(3,3),(6,6)])))))) (.seq (.reg [u_ 238 (.bin .eql (.t 64) (.c (.int .i64 6))),u_ 237 (.mv (.t 238))]) (.fin (.cond (.t 237) (.fin (.reg [u_ 239 (.fad 12 (.t 3)),u_ 240 (.ld (.t 239)),u_ 241 (.fad 1 (.t 4)),u_ 242 (.ld (.t 241)),u_ 243 (.call (.c (.fn 59 [] [])) [.t 240,.t 242]),u_ 244 (.fad 12 (.t 3)),(⟨none,.st 1 (.t 244) (.t 243),none⟩,⟨.n,[]⟩)]) [] [] [3,6] [(3,3),(6,6)]) (.fin .skip [] [] [3,6] [(3,3),(6,6)])) [] [] [3,6] [(3,3),(6,6)]))) [] [] [3,6] [(3,3),(6,6)]))) [] [] [3,6] [(3,3),(6,6)]))))))) [] [] [3,6] [(3,3),(6,6)])))) kh)
def Yg:ze:=.seq (.reg [(⟨some 3,.box (.t 0),none⟩,⟨.s 13,[]⟩),(⟨some 4,.box (.t 1),none⟩,⟨.s 10,[]⟩),(⟨some 6,.newc [.int .i64 0,.int .i64 0,.int .i64 0,.int .i64 0,.int .i64 0,.int .i64 0,.nils,.int .i64 0,.int .i64 0,.int .i64 0,.int .i64 0,.int .i64 0,.nils],none⟩,⟨.s 13,[]⟩),u_ 7 (.mv (.c .nils))]) (.seq (.seq (.reg [u_ 17 (.fad 12 (.t 3)),u_ 18 (.ld (.t 17)),u_ 19 (.fad 1 (.t 4)),u_ 20 (.ld (.t 19)),u_ 21 (.fad 3 (.t 4)),u_ 22 (.ld (.t 21)),u_ 23 (.call (.c (.fn 55 [] [])) [.t 18,.t 20,.t 22]),u_ 24 (.mv (.t 23)),ug 25 24 false (.fad 1 (.t 4)),ug 26 24 false (.ld (.t 25)),ug 27 24 false (.fad 3 (.t 3)),ug 28 24 false (.ld (.t 27)),ug 29 24 false (.bin .eql (.t 26) (.t 28)),ug 30 24 false (.mv (.t 29)),ug 31 30 true (.fad 3 (.t 4)),ug 32 30 true (.ld (.t 31)),ug 33 30 true (.fad 4 (.t 3)),ug 34 30 true (.ld (.t 33)),ug 35 30 true (.bin .lss (.t 32) (.t 34)),ug 36 24 false (.pick (.t 30) (.t 35) (.c (.bool false))),u_ 37 (.pick (.t 24) (.c (.bool true)) (.t 36))]) (.cond (.t 37) (.seq (.reg [u_ 38 (.ldn 13 (.t 3)),(⟨none,.st 13 (.t 6) (.t 38),none⟩,⟨.n,[]⟩),u_ 7 (.mv (.c .nils))]) .ret) .skip)) (.seq (.seq (.reg [u_ 39 (.fad 1 (.t 4)),u_ 40 (.ld (.t 39)),u_ 41 (.fad 3 (.t 3)),u_ 42 (.ld (.t 41)),u_ 43 (.bin .eql (.t 40) (.t 42)),u_ 44 (.mv (.t 43)),ug 45 44 true (.fad 3 (.t 4)),ug 46 44 true (.ld (.t 45)),ug 47 44 true (.fad 4 (.t 3)),ug 48 44 true (.ld (.t 47)),ug 49 44 true (.bin .gtr (.t 46) (.t 48)),u_ 50 (.pick (.t 44) (.t 49) (.c (.bool false)))]) (.cond (.t 50) (.fin (.reg [u_ 51 (.ldn 13 (.t 3)),u_ 52 (.call (.c (.fn 44 [] [])) [.t 51,.c (.int .i64 0)]),(⟨none,.st 13 (.t 3) (.t 52),none⟩,⟨.n,[]⟩)]) [] [] [2,3,4,6] [(3,3),(4,4),(6,6)]) (.fin .skip [] [] [2,3,4,6] [(3,3),(4,4),(6,6)]))) qD))
def xG:PFn:=⟨246,[],Yg,[.cell 6 (some 13),.tmp 7],[.n,.f 10]⟩
def zU:ze:=.seq (.seq (.reg [u_ 11 (.mv (.t 5)),u_ 12 (.mv (.t 0)),u_ 13 (.len (.t 12)),u_ 14 (.bin .lss (.t 11) (.t 13))]) (.cond (.t 14) .skip (.keep [] [] (.exit 0)))) (.seq (.block 1 (.seq (.dreg 0 [qn 17 (.mv (.t 0)),qn 18 (.mv (.t 5)),qn 19 (.iad 10 (.t 17) (.t 18)),qn 20 (.ldn 10 (.t 19)),qn 21 (.mv (.t 1)),qn 22 (.mv (.t 5)),qn 23 (.iad 10 (.t 21) (.t 22)),qn 24 (.ldn 10 (.t 23)),((⟨some 25,.call (.c (.fn 60 [] [])) [.t 20,.t 24],none⟩,.ef []),⟨.n,[]⟩),qn 26 (.un .not (.t 25))]) (.cond (.t 26) (.seq (.reg [u_ 4 (.mv (.c (.bool false)))]) (.keep [4] [] .ret)) .skip))) (.fin (.reg [u_ 15 (.mv (.t 5)),u_ 16 (.bin .add (.t 15) (.c (.int .i64 1))),u_ 5 (.mv (.t 16))]) [] [] [0,1,5] []))
def j4:ze:=.seq (.reg [u_ 4 (.mv (.c (.bool true)))]) .ret
def wW:ze:=.seq (.reg [u_ 4 (.mv (.c (.bool false)))]) (.seq (.seq (.reg [u_ 6 (.mv (.t 0)),u_ 7 (.len (.t 6)),u_ 8 (.mv (.t 1)),u_ 9 (.len (.t 8)),u_ 10 (.bin .neq (.t 7) (.t 9))]) (.cond (.t 10) (.seq (.reg [u_ 4 (.mv (.c (.bool false)))]) .ret) .skip)) (.seq (.seq (.reg [u_ 5 (.mv (.c (.int .i64 0)))]) (.block 0 (.keep [0,1,5] [] (.loop zU)))) j4))
def yY:PFn:=⟨27,[],wW,[.tmp 4],[.n]⟩
def z29:ze:=.seq (.reg [(⟨some 1,.box (.t 0),none⟩,⟨.s 13,[]⟩),u_ 2 (.mv (.c (.bool false)))]) (.seq (.reg [u_ 3 (.fad 0 (.t 1)),u_ 4 (.ld (.t 3)),u_ 5 (.bin .eql (.t 4) (.c (.int .i64 1))),u_ 6 (.mv (.t 5)),ug 7 6 false (.fad 3 (.t 1)),ug 8 6 false (.ld (.t 7)),ug 9 6 false (.bin .neq (.t 8) (.c (.int .i64 0))),ug 10 6 false (.mv (.t 9)),ug 11 10 true (.fad 2 (.t 1)),ug 12 10 true (.ld (.t 11)),ug 13 10 true (.fad 8 (.t 1)),ug 14 10 true (.ld (.t 13)),ug 15 10 true (.bin .sub (.t 12) (.t 14)),ug 16 10 true (.bin .leq (.t 15) (.c (.int .i64 20))),ug 17 6 false (.pick (.t 10) (.t 16) (.c (.bool false))),u_ 18 (.pick (.t 6) (.c (.bool true)) (.t 17)),u_ 2 (.mv (.t 18))]) .ret)
def wX:PFn:=⟨19,[],z29,[.tmp 2],[.n]⟩
def Yh:ze:=.seq (.reg [(⟨some 1,.box (.t 0),none⟩,⟨.s 13,[]⟩),u_ 2 (.mv (.c (.bool false)))]) (.seq (.reg [u_ 3 (.fad 0 (.t 1)),u_ 4 (.ld (.t 3)),u_ 5 (.bin .eql (.t 4) (.c (.int .i64 1))),u_ 6 (.mv (.t 5)),ug 7 6 false (.fad 3 (.t 1)),ug 8 6 false (.ld (.t 7)),ug 9 6 false (.bin .neq (.t 8) (.c (.int .i64 0))),ug 10 6 false (.mv (.t 9)),ug 11 10 true (.fad 2 (.t 1)),ug 12 10 true (.ld (.t 11)),ug 13 10 true (.fad 8 (.t 1)),ug 14 10 true (.ld (.t 13)),ug 15 10 true (.bin .sub (.t 12) (.t 14)),ug 16 10 true (.bin .leq (.t 15) (.c (.int .i64 20))),ug 17 6 false (.pick (.t 10) (.t 16) (.c (.bool false))),u_ 18 (.pick (.t 6) (.c (.bool true)) (.t 17)),u_ 2 (.mv (.t 18))]) .ret)
def xH:PFn:=⟨19,[],Yh,[.tmp 2],[.n]⟩
def j5:ze:=.seq (.reg [u_ 28 (.bin .lss (.t 27) (.t 26))]) (.seq (.cond (.t 28) .skip (.keep [3] [] (.exit 0))) (.seq (.block 1 (.seq (.reg [u_ 29 (.iad 3 (.t 25) (.t 27)),u_ 30 (.ldn 3 (.t 29)),(⟨some 5,.newc [.int .i64 0,.int .i64 0,.int .i64 0],none⟩,⟨.s 3,[]⟩),(⟨none,.st 3 (.t 5) (.t 30),none⟩,⟨.n,[]⟩)]) (.reg [u_ 31 (.mv (.t 3)),u_ 32 (.fad 0 (.t 5)),u_ 33 (.ld (.t 32)),u_ 34 (.call (.c (.fn 61 [] [])) [.t 31,.c (.int .i64 3),.t 33,.c (.int .i64 0)])]))) (.fin (.reg [u_ 35 (.bin .add (.t 27) (.c (.int .i64 1))),u_ 27 (.mv (.t 35))]) [] [] [3,25,26,27] [])))
def Xz:ze:=.seq (.reg [u_ 36 (.mv (.t 3)),u_ 37 (.nck (.t 36)),u_ 38 (.fad 13 (.t 37)),u_ 39 (.ld (.t 38)),u_ 2 (.mv (.t 39))]) (.hf 2 10 .ret)
def ZC:ze:=.seq (.seq (.reg [u_ 21 (.mv (.t 3)),u_ 22 (.nck (.t 21)),u_ 23 (.fad 0 (.t 22)),u_ 24 (.fad 12 (.t 23)),u_ 25 (.ld (.t 24)),u_ 26 (.len (.t 25)),u_ 27 (.mv (.c (.int .i64 0)))]) (.block 0 (.keep [3,25,26,27] [] (.loop j5)))) Xz
def z2a:ze:=.seq (.reg [(⟨some 1,.box (.t 0),none⟩,⟨.s 13,[]⟩),u_ 2 (.mv (.c .nils))]) (.seq (.reg [u_ 6 (.ldn 13 (.t 1)),u_ 7 (.call (.c (.fn 38 [] [])) [.t 6]),u_ 3 (.mv (.t 7))]) (.seq (.seq (.reg [u_ 8 (.mv (.t 3)),u_ 9 (.nck (.t 8)),u_ 10 (.fad 0 (.t 9)),u_ 11 (.fad 3 (.t 10)),u_ 12 (.ld (.t 11)),u_ 13 (.bin .neq (.t 12) (.c (.int .i64 0)))]) (.cond (.t 13) (.fin (.reg [u_ 14 (.mv (.t 3)),u_ 15 (.mv (.t 3)),u_ 16 (.nck (.t 15)),u_ 17 (.fad 0 (.t 16)),u_ 18 (.fad 3 (.t 17)),u_ 19 (.ld (.t 18)),u_ 20 (.call (.c (.fn 61 [] [])) [.t 14,.c (.int .i64 6),.t 19,.c (.int .i64 0)])]) [] [] [3] []) (.fin .skip [] [] [3] []))) ZC))
def wY:PFn:=⟨40,[],z2a,[.tmp 2],[.f 10]⟩
def yg:ze:=.seq (.seq (.reg [u_ 15 (.mv (.t 4)),u_ 16 (.fad 12 (.t 1)),u_ 17 (.ld (.t 16)),u_ 18 (.len (.t 17)),u_ 19 (.bin .lss (.t 15) (.t 18))]) (.cond (.t 19) .skip (.keep [3] [(3,3)] (.exit 0)))) (.seq (.block 1 (.dreg 1 [qn 22 (.mv (.t 3)),qn 23 (.ldn 13 (.t 1)),qn 24 (.fad 12 (.t 1)),qn 25 (.ld (.t 24)),qn 26 (.mv (.t 4)),qn 27 (.iad 3 (.t 25) (.t 26)),qn 28 (.fad 0 (.t 27)),qn 29 (.ld (.t 28)),((⟨some 30,.call (.c (.fn 45 [] [])) [.t 23,.c (.int .i64 3),.t 29],none⟩,.ef []),⟨.n,[]⟩),((⟨some 31,.bsl 10 [.int .i64 0,.int .i64 0,.int .i64 0,.int .i64 0,.int .i64 0,.int .i64 0,.nils,.int .i64 0,.int .i64 0,.str []] 1 [(0,10,.t 30)],none⟩,.al 0),⟨.f,[]⟩),((⟨some 32,.app 10 104 [.int .i64 0,.int .i64 0,.int .i64 0,.int .i64 0,.int .i64 0,.int .i64 0,.nils,.int .i64 0,.int .i64 0,.str []] (.t 22) (.t 31),none⟩,.ef []),⟨.s 10,[]⟩),qn 3 (.mv (.t 32))])) (.fin (.reg [u_ 20 (.mv (.t 4)),u_ 21 (.bin .add (.t 20) (.c (.int .i64 1))),u_ 4 (.mv (.t 21))]) [] [] [1,3,4] [(1,1),(3,3)]))
def kj:ze:=.seq (.reg [u_ 33 (.mv (.t 3)),u_ 2 (.mv (.t 33))]) .ret
def km:ze:=.seq (.seq (.reg [u_ 4 (.mv (.c (.int .i64 0)))]) (.block 0 (.keep [1,3,4] [(1,1),(3,3)] (.loop yg)))) kj
def Yi:ze:=.seq (.reg [(⟨some 1,.box (.t 0),none⟩,⟨.s 13,[]⟩),u_ 2 (.mv (.c .nils))]) (.seq (.reg [u_ 3 (.mv (.c .nils))]) (.seq (.seq (.reg [u_ 5 (.fad 3 (.t 1)),u_ 6 (.ld (.t 5)),u_ 7 (.bin .neq (.t 6) (.c (.int .i64 0)))]) (.cond (.t 7) (.fin (.reg [u_ 8 (.mv (.t 3)),u_ 9 (.ldn 13 (.t 1)),u_ 10 (.fad 3 (.t 1)),u_ 11 (.ld (.t 10)),u_ 12 (.call (.c (.fn 45 [] [])) [.t 9,.c (.int .i64 6),.t 11]),(⟨some 13,.bsl 10 [.int .i64 0,.int .i64 0,.int .i64 0,.int .i64 0,.int .i64 0,.int .i64 0,.nils,.int .i64 0,.int .i64 0,.str []] 1 [(0,10,.t 12)],none⟩,⟨.f,[]⟩),(⟨some 14,.app 10 104 [.int .i64 0,.int .i64 0,.int .i64 0,.int .i64 0,.int .i64 0,.int .i64 0,.nils,.int .i64 0,.int .i64 0,.str []] (.t 8) (.t 13),none⟩,⟨.s 10,[]⟩),u_ 3 (.mv (.t 14))]) [] [] [1,3] [(1,1),(14,3)]) (.fin .skip [(3,10)] [] [1,3] [(1,1),(3,3)]))) km))
def xI:PFn:=⟨34,[],Yi,[.tmp 2],[.o 10]⟩
def y9:ze:=.seq (.seq (.reg [u_ 18 (.mv (.t 3)),u_ 19 (.mv (.t 0)),u_ 20 (.len (.t 19)),u_ 21 (.bin .lss (.t 18) (.t 20))]) (.cond (.t 21) .skip (.keep [] [] (.exit 0)))) (.seq (.block 1 (.seq (.dreg 0 [qn 24 (.mv (.t 0)),qn 25 (.mv (.t 3)),qn 26 (.iad 1 (.t 24) (.t 25)),qn 27 (.ld (.t 26)),qn 28 (.bin .lss (.t 27) (.c (.int .i64 1))),qn 29 (.mv (.t 28)),qg 30 29 false (.mv (.t 0)),qg 31 29 false (.mv (.t 3)),qg 32 29 false (.iad 1 (.t 30) (.t 31)),qg 33 29 false (.ld (.t 32)),qg 34 29 false (.bin .gtr (.t 33) (.c (.int .i64 8))),qn 35 (.pick (.t 29) (.c (.bool true)) (.t 34)),qn 36 (.mv (.t 35)),qg 37 36 false (.mv (.t 0)),qg 38 36 false (.mv (.t 3)),qg 39 36 false (.slc 1 (.t 37) none (some (.t 38)) none),qg 40 36 false (.mv (.t 0)),qg 41 36 false (.mv (.t 3)),qg 42 36 false (.iad 1 (.t 40) (.t 41)),qg 43 36 false (.ld (.t 42)),((⟨some 44,.call (.c (.fn 32 [] [])) [.t 39,.t 43],some (36,false)⟩,.ef []),⟨.n,[]⟩),qn 45 (.pick (.t 36) (.c (.bool true)) (.t 44))]) (.cond (.t 45) (.seq (.reg [u_ 2 (.mv (.c (.bool false)))]) (.keep [2] [] .ret)) .skip))) (.fin (.reg [u_ 22 (.mv (.t 3)),u_ 23 (.bin .add (.t 22) (.c (.int .i64 1))),u_ 3 (.mv (.t 23))]) [] [] [0,3] []))
def jI:ze:=.seq (.reg [u_ 2 (.mv (.c (.bool true)))]) .ret
def ZQ:ze:=.seq (.reg [u_ 2 (.mv (.c (.bool false)))]) (.seq (.seq (.reg [u_ 4 (.mv (.t 0)),u_ 5 (.len (.t 4)),u_ 6 (.bin .lss (.t 5) (.c (.int .i64 1))),u_ 7 (.mv (.t 6)),ug 8 7 false (.mv (.t 0)),ug 9 7 false (.len (.t 8)),ug 10 7 false (.bin .gtr (.t 9) (.c (.int .i64 10))),u_ 11 (.pick (.t 7) (.c (.bool true)) (.t 10)),u_ 12 (.mv (.t 11)),ug 13 12 false (.mv (.t 0)),ug 14 12 false (.iad 1 (.t 13) (.c (.int .i64 0))),ug 15 12 false (.ld (.t 14)),ug 16 12 false (.bin .neq (.t 15) (.c (.int .i64 1))),u_ 17 (.pick (.t 12) (.c (.bool true)) (.t 16))]) (.cond (.t 17) (.seq (.reg [u_ 2 (.mv (.c (.bool false)))]) .ret) .skip)) (.seq (.seq (.reg [u_ 3 (.mv (.c (.int .i64 0)))]) (.block 0 (.keep [0,3] [] (.loop y9)))) jI))
def xu:PFn:=⟨46,[],ZQ,[.tmp 2],[.n]⟩
def yU:ze:=.seq (.seq (.reg [u_ 6 (.mv (.t 5)),u_ 7 (.mv (.t 0)),u_ 8 (.len (.t 7)),u_ 9 (.bin .lss (.t 6) (.t 8))]) (.cond (.t 9) .skip (.keep [] [] (.exit 0)))) (.seq (.block 1 (.seq (.reg [u_ 12 (.mv (.t 0)),u_ 13 (.mv (.t 5)),u_ 14 (.iad 1 (.t 12) (.t 13)),u_ 15 (.ld (.t 14)),u_ 16 (.mv (.t 1)),u_ 17 (.bin .eql (.t 15) (.t 16))]) (.cond (.t 17) (.seq (.reg [u_ 4 (.mv (.c (.bool true)))]) (.keep [4] [] .ret)) .skip))) (.fin (.reg [u_ 10 (.mv (.t 5)),u_ 11 (.bin .add (.t 10) (.c (.int .i64 1))),u_ 5 (.mv (.t 11))]) [] [] [0,1,5] []))
def vU:ze:=.seq (.reg [u_ 4 (.mv (.c (.bool false)))]) .ret
def XV:ze:=.seq (.reg [u_ 4 (.mv (.c (.bool false)))]) (.seq (.seq (.reg [u_ 5 (.mv (.c (.int .i64 0)))]) (.block 0 (.keep [0,1,5] [] (.loop yU)))) vU)
def qQ:PFn:=⟨18,[],XV,[.tmp 4],[.n]⟩
def yF:ze:=.seq (.seq (.reg [u_ 7 (.mv (.t 6)),u_ 8 (.mv (.t 0)),u_ 9 (.len (.t 8)),u_ 10 (.bin .lss (.t 7) (.t 9))]) (.cond (.t 10) .skip (.keep [4] [(4,4)] (.exit 0)))) (.seq (.block 1 (.seq (.reg [u_ 13 (.mv (.t 0)),u_ 14 (.mv (.t 6)),u_ 15 (.iad 3 (.t 13) (.t 14)),u_ 16 (.fad 0 (.t 15)),u_ 17 (.ld (.t 16)),u_ 18 (.mv (.t 1)),u_ 19 (.bin .eql (.t 17) (.t 18))]) (.cond (.t 19) (.seq (.reg [u_ 20 (.mv (.t 0)),u_ 21 (.mv (.t 6)),u_ 22 (.iad 3 (.t 20) (.t 21)),u_ 23 (.ldn 3 (.t 22)),(⟨none,.st 3 (.t 4) (.t 23),none⟩,⟨.n,[]⟩),u_ 5 (.mv (.c (.bool true)))]) (.keep [4,5] [(4,4)] .ret)) .skip))) (.fin (.reg [u_ 11 (.mv (.t 6)),u_ 12 (.bin .add (.t 11) (.c (.int .i64 1))),u_ 6 (.mv (.t 12))]) [] [] [0,1,4,6] [(4,4)]))
def vm:ze:=.seq (.reg [u_ 24 (.build [.int .i64 0,.int .i64 0,.int .i64 0] []),(⟨none,.st 3 (.t 4) (.t 24),none⟩,⟨.n,[]⟩),u_ 5 (.mv (.c (.bool false)))]) .ret
def Xg:ze:=.seq (.reg [(⟨some 4,.newc [.int .i64 0,.int .i64 0,.int .i64 0],none⟩,⟨.s 3,[]⟩),u_ 5 (.mv (.c (.bool false)))]) (.seq (.seq (.reg [u_ 6 (.mv (.c (.int .i64 0)))]) (.block 0 (.keep [0,1,4,6] [(4,4)] (.loop yF)))) vm)
def ql:PFn:=⟨25,[],Xg,[.cell 4 (some 3),.tmp 5],[.n,.n]⟩
def ZR:ze:=.seq (.reg [u_ 4 (.mv (.c .nils)),u_ 5 (.mv (.c (.bool false)))]) (.seq (.reg [(⟨some 7,.bsl 1 [.int .i64 0] 0 [],none⟩,⟨.s 1,[]⟩),u_ 8 (.mv (.t 0)),(⟨some 9,.app 1 8 [.int .i64 0] (.t 7) (.t 8),none⟩,⟨.s 1,[]⟩),u_ 10 (.mv (.t 1)),(⟨some 11,.bsl 1 [.int .i64 0] 1 [(0,1,.t 10)],none⟩,⟨.f,[]⟩),(⟨some 12,.app 1 8 [.int .i64 0] (.t 9) (.t 11),none⟩,⟨.s 1,[]⟩),u_ 6 (.mv (.t 12))]) (.seq (.seq (.reg [u_ 13 (.mv (.t 6)),(⟨some 14,.call (.c (.fn 29 [] [])) [.t 13],none⟩,⟨.l,[]⟩),u_ 15 (.un .not (.t 14))]) (.cond (.t 15) (.seq (.reg [u_ 4 (.mv (.c .nils)),u_ 5 (.mv (.c (.bool false)))]) .ret) .skip)) (.seq (.reg [u_ 16 (.mv (.t 6)),u_ 4 (.mv (.t 16)),u_ 5 (.mv (.c (.bool true)))]) .ret)))
def xw:PFn:=⟨17,[],ZR,[.tmp 4,.tmp 5],[.f 1,.n]⟩
def zY:ze:=.seq (.seq (.reg [u_ 11 (.mv (.t 5)),u_ 12 (.mv (.t 0)),u_ 13 (.len (.t 12)),u_ 14 (.bin .lss (.t 11) (.t 13))]) (.cond (.t 14) .skip (.keep [] [] (.exit 0)))) (.seq (.block 1 (.seq (.dreg 0 [qn 17 (.mv (.t 0)),qn 18 (.mv (.t 5)),qn 19 (.iad 1 (.t 17) (.t 18)),qn 20 (.ld (.t 19)),qn 21 (.mv (.t 1)),qn 22 (.mv (.t 5)),qn 23 (.iad 1 (.t 21) (.t 22)),qn 24 (.ld (.t 23)),qn 25 (.bin .neq (.t 20) (.t 24))]) (.cond (.t 25) (.seq (.reg [u_ 4 (.mv (.c (.bool false)))]) (.keep [4] [] .ret)) .skip))) (.fin (.reg [u_ 15 (.mv (.t 5)),u_ 16 (.bin .add (.t 15) (.c (.int .i64 1))),u_ 5 (.mv (.t 16))]) [] [] [0,1,5] []))
def js:ze:=.seq (.reg [u_ 4 (.mv (.c (.bool true)))]) .ret
def Zh:ze:=.seq (.reg [u_ 4 (.mv (.c (.bool false)))]) (.seq (.seq (.reg [u_ 6 (.mv (.t 0)),u_ 7 (.len (.t 6)),u_ 8 (.mv (.t 1)),u_ 9 (.len (.t 8)),u_ 10 (.bin .neq (.t 7) (.t 9))]) (.cond (.t 10) (.seq (.reg [u_ 4 (.mv (.c (.bool false)))]) .ret) .skip)) (.seq (.seq (.reg [u_ 5 (.mv (.c (.int .i64 0)))]) (.block 0 (.keep [0,1,5] [] (.loop zY)))) js))
def xe:PFn:=⟨26,[],Zh,[.tmp 4],[.n]⟩
def zZ:ze:=.seq (.seq (.reg [u_ 11 (.mv (.t 5)),u_ 12 (.mv (.t 0)),u_ 13 (.len (.t 12)),u_ 14 (.bin .lss (.t 11) (.t 13))]) (.cond (.t 14) .skip (.keep [] [] (.exit 0)))) (.seq (.block 1 (.seq (.dreg 0 [qn 17 (.mv (.t 0)),qn 18 (.mv (.t 5)),qn 19 (.iad 3 (.t 17) (.t 18)),qn 20 (.ldn 3 (.t 19)),qn 21 (.mv (.t 1)),qn 22 (.mv (.t 5)),qn 23 (.iad 3 (.t 21) (.t 22)),qn 24 (.ldn 3 (.t 23)),qn 25 (.eqs true (.st [(0,1,.i),(1,1,.i),(2,1,.i)]) (.t 20) (.t 24))]) (.cond (.t 25) (.seq (.reg [u_ 4 (.mv (.c (.bool false)))]) (.keep [4] [] .ret)) .skip))) (.fin (.reg [u_ 15 (.mv (.t 5)),u_ 16 (.bin .add (.t 15) (.c (.int .i64 1))),u_ 5 (.mv (.t 16))]) [] [] [0,1,5] []))
def jt:ze:=.seq (.reg [u_ 4 (.mv (.c (.bool true)))]) .ret
def Zi:ze:=.seq (.reg [u_ 4 (.mv (.c (.bool false)))]) (.seq (.seq (.reg [u_ 6 (.mv (.t 0)),u_ 7 (.len (.t 6)),u_ 8 (.mv (.t 1)),u_ 9 (.len (.t 8)),u_ 10 (.bin .neq (.t 7) (.t 9))]) (.cond (.t 10) (.seq (.reg [u_ 4 (.mv (.c (.bool false)))]) .ret) .skip)) (.seq (.seq (.reg [u_ 5 (.mv (.c (.int .i64 0)))]) (.block 0 (.keep [0,1,5] [] (.loop zZ)))) jt))
def xf:PFn:=⟨26,[],Zi,[.tmp 4],[.n]⟩
def z6K:ze:=.seq (.reg [(⟨some 1,.box (.t 0),none⟩,⟨.s 13,[]⟩),u_ 2 (.mv (.c .nilp))]) (.seq (.dreg 0 [qn 3 (.fad 6 (.t 1)),qn 4 (.ld (.t 3)),qn 6 (.fad 12 (.t 1)),qn 7 (.ld (.t 6)),((⟨some 5,.call (.c (.fn 64 [] [])) [.t 4],none⟩,.ef [3]),⟨.n,[]⟩),qn 9 (.fad 6 (.t 1)),((⟨some 8,.call (.c (.fn 65 [] [])) [.t 7],none⟩,.ef []),⟨.n,[]⟩),((⟨none,.st 1 (.t 9) (.t 5),none⟩,.ef []),⟨.n,[]⟩),qn 10 (.fad 12 (.t 1)),((⟨none,.st 1 (.t 10) (.t 8),none⟩,.ef []),⟨.n,[]⟩)]) (.seq (.reg [u_ 11 (.ldn 13 (.t 1)),u_ 12 (.build [.int .i64 0,.int .i64 0,.int .i64 0,.int .i64 0,.int .i64 0,.int .i64 0,.nils,.int .i64 0,.int .i64 0,.int .i64 0,.int .i64 0,.int .i64 0,.nils,.nils] [(0,13,.t 11)]),u_ 13 (.box (.t 12)),u_ 2 (.mv (.t 13))]) .ret))
def XW:PFn:=⟨14,[],z6K,[.tmp 2],[.n]⟩
def z05:ze:=.seq (.reg [(⟨some 3,.box (.t 1),none⟩,⟨.s 1,[]⟩),u_ 4 (.mv (.c .nils))]) (.seq (.reg [u_ 5 (.mv (.t 0)),(⟨some 6,.call (.c (.fn 65 [] [])) [.t 5],none⟩,⟨.s 3,[]⟩),(⟨some 7,.mkf 67 [] [.t 3],none⟩,⟨.n,[3]⟩),(⟨some 8,.call (.c (.fn 66 [] [])) [.t 6,.t 7],none⟩,⟨.tf 3,[]⟩),u_ 4 (.mv (.t 8))]) .ret)
def vy:PFn:=⟨9,[],z05,[.tmp 4],[.f 3]⟩
def JJ:ze:=.reg [u_ 4 (.mv (.t 0)),u_ 5 (.mv (.t 0)),u_ 6 (.mv (.t 0)),u_ 7 (.mv (.t 0)),u_ 8 (.mv (.t 0)),u_ 9 (.mv (.t 1)),u_ 10 (.nck (.t 4)),u_ 11 (.fad 0 (.t 10)),u_ 12 (.fad 3 (.t 11)),(⟨none,.st 1 (.t 12) (.c (.int .i64 0)),none⟩,⟨.n,[]⟩),u_ 13 (.nck (.t 5)),u_ 14 (.fad 0 (.t 13)),u_ 15 (.fad 4 (.t 14)),(⟨none,.st 1 (.t 15) (.c (.int .i64 0)),none⟩,⟨.n,[]⟩),u_ 16 (.nck (.t 6)),u_ 17 (.fad 0 (.t 16)),u_ 18 (.fad 6 (.t 17)),(⟨none,.st 1 (.t 18) (.c .nils),none⟩,⟨.n,[]⟩),u_ 19 (.nck (.t 7)),u_ 20 (.fad 0 (.t 19)),u_ 21 (.fad 9 (.t 20)),(⟨none,.st 1 (.t 21) (.c (.int .i64 0)),none⟩,⟨.n,[]⟩),u_ 22 (.nck (.t 8)),u_ 23 (.fad 0 (.t 22)),u_ 24 (.fad 11 (.t 23)),(⟨none,.st 1 (.t 24) (.t 9),none⟩,⟨.n,[]⟩)]
def ju:PFn:=⟨25,[],JJ,[],[]⟩
def wZ:ze:=.seq (.reg [u_ 94 (.mv (.t 0)),u_ 95 (.mv (.t 0)),u_ 96 (.nck (.t 95)),u_ 97 (.fad 0 (.t 96)),u_ 98 (.fad 2 (.t 97)),u_ 99 (.ld (.t 98)),u_ 100 (.bin .add (.t 99) (.c (.int .i64 3))),u_ 101 (.nck (.t 94)),u_ 102 (.fad 0 (.t 101)),u_ 103 (.fad 10 (.t 102)),(⟨none,.st 1 (.t 103) (.t 100),none⟩,⟨.n,[]⟩)]) (.reg [u_ 104 (.mv (.t 0)),u_ 105 (.mv (.t 0)),u_ 106 (.nck (.t 105)),u_ 107 (.fad 0 (.t 106)),u_ 108 (.fad 9 (.t 107)),u_ 109 (.ld (.t 108)),u_ 110 (.call (.c (.fn 61 [] [])) [.t 104,.c (.int .i64 1),.t 109,.c (.int .i64 0)])])
def kx:ze:=.seq (.seq (.reg [u_ 48 (.mv (.t 0)),u_ 49 (.nck (.t 48)),u_ 50 (.fad 0 (.t 49)),u_ 51 (.fad 9 (.t 50)),u_ 52 (.ld (.t 51)),u_ 53 (.bin .neq (.t 52) (.c (.int .i64 0)))]) (.cond (.t 53) .ret .skip)) (.seq (.reg [u_ 54 (.mv (.t 0)),u_ 55 (.nck (.t 54)),u_ 56 (.fad 0 (.t 55)),u_ 57 (.fad 9 (.t 56)),(⟨none,.st 1 (.t 57) (.c (.int .i64 1)),none⟩,⟨.n,[]⟩)]) (.seq (.seq (.dreg 0 [qn 58 (.mv (.t 0)),qn 59 (.nck (.t 58)),qn 60 (.fad 0 (.t 59)),qn 61 (.fad 11 (.t 60)),qn 62 (.ld (.t 61)),qn 63 (.bin .eql (.t 62) (.c (.int .i64 0))),qn 64 (.mv (.t 63)),qg 65 64 true (.mv (.t 0)),qg 66 64 true (.nck (.t 65)),qg 67 64 true (.fad 0 (.t 66)),qg 68 64 true (.fad 5 (.t 67)),qg 69 64 true (.ld (.t 68)),qg 70 64 true (.bin .neq (.t 69) (.c (.int .i64 0))),qn 71 (.pick (.t 64) (.t 70) (.c (.bool false))),qn 72 (.mv (.t 71)),qg 73 72 true (.mv (.t 0)),qg 74 72 true (.nck (.t 73)),qg 75 72 true (.fad 0 (.t 74)),qg 76 72 true (.fad 5 (.t 75)),qg 77 72 true (.ld (.t 76)),qg 78 72 true (.mv (.t 0)),qg 79 72 true (.nck (.t 78)),qg 80 72 true (.fad 0 (.t 79)),qg 81 72 true (.fad 0 (.t 80)),qg 82 72 true (.ld (.t 81)),qg 83 72 true (.bin .neq (.t 77) (.t 82)),qn 84 (.pick (.t 72) (.t 83) (.c (.bool false)))]) (.cond (.t 84) (.fin (.reg [u_ 85 (.mv (.t 0)),u_ 86 (.mv (.t 0)),u_ 87 (.nck (.t 86)),u_ 88 (.fad 0 (.t 87)),u_ 89 (.fad 5 (.t 88)),u_ 90 (.ld (.t 89)),u_ 91 (.nck (.t 85)),u_ 92 (.fad 0 (.t 91)),u_ 93 (.fad 9 (.t 92)),(⟨none,.st 1 (.t 93) (.t 90),none⟩,⟨.n,[]⟩)]) [] [] [0] []) (.fin .skip [] [] [0] []))) wZ))
def JK:ze:=.seq (.seq (.reg [u_ 2 (.mv (.t 0)),u_ 3 (.nck (.t 2)),u_ 4 (.fad 0 (.t 3)),u_ 5 (.fad 0 (.t 4)),u_ 6 (.ld (.t 5)),u_ 7 (.bin .eql (.t 6) (.c (.int .i64 1))),u_ 8 (.mv (.t 7)),ug 9 8 false (.mv (.t 0)),ug 10 8 false (.nck (.t 9)),ug 11 8 false (.fad 0 (.t 10)),ug 12 8 false (.fad 3 (.t 11)),ug 13 8 false (.ld (.t 12)),ug 14 8 false (.bin .neq (.t 13) (.c (.int .i64 0))),u_ 15 (.pick (.t 8) (.c (.bool true)) (.t 14))]) (.cond (.t 15) .ret .skip)) (.seq (.seq (.dreg 0 [qn 16 (.mv (.t 0)),qn 17 (.nck (.t 16)),qn 18 (.fad 0 (.t 17)),qn 19 (.fad 9 (.t 18)),qn 20 (.ld (.t 19)),qn 21 (.bin .neq (.t 20) (.c (.int .i64 0))),qn 22 (.mv (.t 21)),qg 23 22 true (.mv (.t 0)),qg 24 22 true (.nck (.t 23)),qg 25 22 true (.fad 0 (.t 24)),qg 26 22 true (.fad 2 (.t 25)),qg 27 22 true (.ld (.t 26)),qg 28 22 true (.mv (.t 0)),qg 29 22 true (.nck (.t 28)),qg 30 22 true (.fad 0 (.t 29)),qg 31 22 true (.fad 10 (.t 30)),qg 32 22 true (.ld (.t 31)),qg 33 22 true (.bin .geq (.t 27) (.t 32)),qn 34 (.pick (.t 22) (.t 33) (.c (.bool false)))]) (.cond (.t 34) (.seq (.reg [u_ 35 (.mv (.t 0)),u_ 36 (.nck (.t 35)),u_ 37 (.fad 0 (.t 36)),u_ 38 (.fad 9 (.t 37)),(⟨none,.st 1 (.t 38) (.c (.int .i64 0)),none⟩,⟨.n,[]⟩)]) (.fin (.reg [u_ 39 (.mv (.t 0)),u_ 40 (.nck (.t 39)),u_ 41 (.fad 0 (.t 40)),u_ 42 (.fad 11 (.t 41)),u_ 43 (.ld (.t 42)),u_ 44 (.bin .add (.t 43) (.c (.int .i64 1))),u_ 45 (.nck (.t 39)),u_ 46 (.fad 0 (.t 45)),u_ 47 (.fad 11 (.t 46)),(⟨none,.st 1 (.t 47) (.t 44),none⟩,⟨.n,[]⟩)]) [] [] [0] [])) (.fin .skip [] [] [0] []))) kx)
def jv:PFn:=⟨111,[],JK,[],[]⟩
def vV:ze:=.fin (.reg [u_ 43 (.bin .add (.t 30) (.c (.int .i64 1))),u_ 30 (.mv (.t 43))]) [] [] [0,28,29,30] []
def yV:ze:=.seq (.reg [u_ 31 (.bin .lss (.t 30) (.t 29))]) (.seq (.cond (.t 31) .skip (.keep [] [] (.exit 0))) (.seq (.block 1 (.seq (.reg [u_ 32 (.iad 3 (.t 28) (.t 30)),u_ 33 (.ldn 3 (.t 32)),(⟨some 3,.newc [.int .i64 0,.int .i64 0,.int .i64 0],none⟩,⟨.s 3,[]⟩),(⟨none,.st 3 (.t 3) (.t 33),none⟩,⟨.n,[]⟩)]) (.seq (.reg [u_ 34 (.mv (.t 0)),u_ 35 (.nck (.t 34)),u_ 36 (.fad 0 (.t 35)),u_ 37 (.ldn 13 (.t 36)),u_ 38 (.call (.c (.fn 25 [] [])) [.t 37])]) (.fin (.cond (.t 38) (.fin (.reg [u_ 39 (.mv (.t 0)),u_ 40 (.fad 0 (.t 3)),u_ 41 (.ld (.t 40)),u_ 42 (.call (.c (.fn 61 [] [])) [.t 39,.c (.int .i64 5),.t 41,.c (.int .i64 0)])]) [] [] [0,28,29,30] []) (.fin .skip [] [] [0,28,29,30] [])) [] [] [0,28,29,30] [])))) vV))
def vW:ze:=.seq (.reg [u_ 24 (.mv (.t 0)),u_ 25 (.nck (.t 24)),u_ 26 (.fad 0 (.t 25)),u_ 27 (.fad 12 (.t 26)),u_ 28 (.ld (.t 27)),u_ 29 (.len (.t 28)),u_ 30 (.mv (.c (.int .i64 0)))]) (.block 0 (.keep [0,28,29,30] [] (.loop yV)))
def XX:ze:=.seq (.seq (.reg [u_ 4 (.mv (.t 0)),u_ 5 (.nck (.t 4)),u_ 6 (.fad 0 (.t 5)),u_ 7 (.fad 2 (.t 6)),u_ 8 (.ld (.t 7)),u_ 9 (.bin .rem (.t 8) (.c (.int .i64 2))),u_ 10 (.bin .neq (.t 9) (.c (.int .i64 0)))]) (.cond (.t 10) .ret .skip)) (.seq (.seq (.reg [u_ 11 (.mv (.t 0)),u_ 12 (.nck (.t 11)),u_ 13 (.fad 0 (.t 12)),u_ 14 (.fad 3 (.t 13)),u_ 15 (.ld (.t 14)),u_ 16 (.bin .neq (.t 15) (.c (.int .i64 0)))]) (.cond (.t 16) (.fin (.reg [u_ 17 (.mv (.t 0)),u_ 18 (.mv (.t 0)),u_ 19 (.nck (.t 18)),u_ 20 (.fad 0 (.t 19)),u_ 21 (.fad 3 (.t 20)),u_ 22 (.ld (.t 21)),u_ 23 (.call (.c (.fn 61 [] [])) [.t 17,.c (.int .i64 4),.t 22,.c (.int .i64 0)])]) [] [] [0] []) (.fin .skip [] [] [0] []))) vW)
def qR:PFn:=⟨44,[],XX,[],[]⟩
def kM:ze:=.fin (.reg [u_ 11 (.mv (.t 6)),u_ 12 (.bin .add (.t 11) (.c (.int .i64 1))),u_ 6 (.mv (.t 12))]) [] [] [0,1,5,6] [(5,5)]
def yq:ze:=.seq (.seq (.reg [u_ 7 (.mv (.t 6)),u_ 8 (.mv (.t 0)),u_ 9 (.len (.t 8)),u_ 10 (.bin .lss (.t 7) (.t 9))]) (.cond (.t 10) .skip (.keep [5] [(5,5)] (.exit 0)))) (.seq (.block 1 (.seq (.reg [u_ 13 (.mv (.t 1)),u_ 14 (.mv (.t 0)),u_ 15 (.mv (.t 6)),u_ 16 (.iad 3 (.t 14) (.t 15)),u_ 17 (.fad 2 (.t 16)),u_ 18 (.ld (.t 17)),u_ 19 (.bin .sub (.t 13) (.t 18)),u_ 20 (.bin .leq (.t 19) (.c (.int .i64 20)))]) (.fin (.cond (.t 20) (.fin (.reg [u_ 21 (.mv (.t 5)),u_ 22 (.mv (.t 0)),u_ 23 (.mv (.t 6)),u_ 24 (.iad 3 (.t 22) (.t 23)),u_ 25 (.ldn 3 (.t 24)),(⟨some 26,.bsl 3 [.int .i64 0,.int .i64 0,.int .i64 0] 1 [(0,3,.t 25)],none⟩,⟨.f,[]⟩),(⟨some 27,.app 3 24 [.int .i64 0,.int .i64 0,.int .i64 0] (.t 21) (.t 26),none⟩,⟨.s 3,[]⟩),u_ 5 (.mv (.t 27))]) [] [] [0,1,5,6] [(5,5)]) (.fin .skip [] [] [0,1,5,6] [(5,5)])) [] [] [0,1,5,6] [(5,5)]))) kM)
def kN:ze:=.seq (.reg [u_ 28 (.mv (.t 5)),u_ 4 (.mv (.t 28))]) .ret
def YJ:ze:=.seq (.reg [u_ 4 (.mv (.c .nils))]) (.seq (.reg [u_ 5 (.mv (.c .nils))]) (.seq (.seq (.reg [u_ 6 (.mv (.c (.int .i64 0)))]) (.block 0 (.own 5 3 (.keep [0,1,5,6] [(5,5)] (.loop yq))))) kN))
def xU:PFn:=⟨29,[],YJ,[.tmp 4],[.o 3]⟩
def Xh:ze:=.seq (.reg [(⟨some 2,.box (.t 0),none⟩,⟨.s 13,[]⟩),(⟨some 4,.newc [.int .i64 0,.int .i64 0,.int .i64 0,.int .i64 0,.int .i64 0,.int .i64 0,.nils,.int .i64 0,.int .i64 0,.int .i64 0,.int .i64 0,.int .i64 0,.nils],none⟩,⟨.s 13,[]⟩)]) (.seq (.reg [u_ 5 (.mv (.t 1)),u_ 6 (.fad 3 (.t 2)),(⟨none,.st 1 (.t 6) (.c (.int .i64 0)),none⟩,⟨.n,[]⟩),u_ 7 (.fad 4 (.t 2)),(⟨none,.st 1 (.t 7) (.c (.int .i64 0)),none⟩,⟨.n,[]⟩),u_ 8 (.fad 6 (.t 2)),(⟨none,.st 1 (.t 8) (.c .nils),none⟩,⟨.n,[]⟩),u_ 9 (.fad 9 (.t 2)),(⟨none,.st 1 (.t 9) (.c (.int .i64 0)),none⟩,⟨.n,[]⟩),u_ 10 (.fad 11 (.t 2)),(⟨none,.st 1 (.t 10) (.t 5),none⟩,⟨.n,[]⟩)]) (.seq (.reg [u_ 11 (.ldn 13 (.t 2)),(⟨none,.st 13 (.t 4) (.t 11),none⟩,⟨.n,[]⟩)]) .ret))
def qm:PFn:=⟨12,[],Xh,[.cell 4 (some 13)],[.n]⟩
def YK:ze:=.seq (.reg [(⟨some 3,.box (.t 0),none⟩,⟨.s 13,[]⟩),(⟨some 6,.newc [.int .i64 0,.int .i64 0,.int .i64 0,.int .i64 0,.int .i64 0,.int .i64 0,.nils,.int .i64 0,.int .i64 0,.str []],none⟩,⟨.s 10,[]⟩)]) (.seq (.reg [u_ 7 (.mv (.t 1)),u_ 8 (.fad 0 (.t 3)),u_ 9 (.ld (.t 8)),u_ 10 (.mv (.t 2)),u_ 11 (.fad 1 (.t 3)),u_ 12 (.ld (.t 11)),u_ 13 (.build [.int .i64 0,.int .i64 0,.int .i64 0,.int .i64 0,.int .i64 0,.int .i64 0,.nils,.int .i64 0,.int .i64 0,.str []] [(0,1,.t 7),(1,1,.t 9),(2,1,.t 10),(3,1,.t 12)]),(⟨none,.st 10 (.t 6) (.t 13),none⟩,⟨.n,[]⟩)]) .ret)
def xV:PFn:=⟨14,[],YK,[.cell 6 (some 10)],[.n]⟩
def YL:ze:=.seq (.reg [(⟨some 3,.box (.t 0),none⟩,⟨.s 13,[]⟩),(⟨some 6,.newc [.int .i64 0,.int .i64 0,.int .i64 0,.int .i64 0,.int .i64 0,.int .i64 0,.nils,.int .i64 0,.int .i64 0,.str []],none⟩,⟨.s 10,[]⟩)]) (.seq (.reg [u_ 8 (.ldn 13 (.t 3)),u_ 9 (.mv (.t 1)),u_ 10 (.mv (.t 2)),u_ 11 (.call (.c (.fn 45 [] [])) [.t 8,.t 9,.t 10]),(⟨some 7,.newc [.int .i64 0,.int .i64 0,.int .i64 0,.int .i64 0,.int .i64 0,.int .i64 0,.nils,.int .i64 0,.int .i64 0,.str []],none⟩,⟨.s 10,[]⟩),(⟨none,.st 10 (.t 7) (.t 11),none⟩,⟨.n,[]⟩)]) (.seq (.dreg 1 [qn 12 (.fad 7 (.t 3)),qn 13 (.ld (.t 12)),qn 14 (.fad 2 (.t 3)),qn 15 (.ld (.t 14)),qn 16 (.fad 8 (.t 3)),qn 17 (.ld (.t 16)),qn 18 (.bin .sub (.t 15) (.t 17)),((⟨some 19,.bsl 1 [.int .i64 0] 0 [],none⟩,.al 0),⟨.i,[]⟩),qn 20 (.fad 6 (.t 3)),qn 21 (.ld (.t 20)),qn 23 (.fad 4 (.t 7)),((⟨some 22,.app 1 8 [.int .i64 0] (.t 19) (.t 21),none⟩,.ef [1,3,5]),⟨.s 1,[]⟩),((⟨none,.st 1 (.t 23) (.t 13),none⟩,.ef [3,5]),⟨.n,[]⟩),qn 24 (.fad 5 (.t 7)),((⟨none,.st 1 (.t 24) (.t 18),none⟩,.ef []),⟨.n,[]⟩),qn 25 (.fad 6 (.t 7)),((⟨none,.st 1 (.t 25) (.t 22),none⟩,.ef []),⟨.n,[]⟩)]) (.seq (.reg [u_ 26 (.ldn 10 (.t 7)),(⟨none,.st 10 (.t 6) (.t 26),none⟩,⟨.n,[]⟩)]) .ret)))
def xW:PFn:=⟨27,[],YL,[.cell 6 (some 10)],[.n]⟩
def wu:ze:=.seq (.reg [u_ 2 (.mv (.c (.str [])))]) (.seq (.reg [(⟨some 3,.bsl 1 [.str []] 5 [(0,1,.c (.str [])),(1,1,.c (.str [97])),(2,1,.c (.str [98,99])),(3,1,.c (.str [104,101,108,108,111])),(4,1,.c (.str [116,119,101,108,118,101,32,98,121,116,101,115]))],none⟩,⟨.f,[]⟩),u_ 4 (.mv (.t 0)),u_ 5 (.call (.c (.fn 13 [] [])) [.t 4,.c (.int .i64 5)]),u_ 6 (.iad 1 (.t 3) (.t 5)),u_ 7 (.ld (.t 6)),u_ 2 (.mv (.t 7))]) .ret)
def yO:PFn:=⟨8,[],wu,[.tmp 2],[.n]⟩
def z3m:ze:=.seq (.reg [u_ 6 (.mv (.c (.bool false)))]) (.seq (.reg [u_ 10 (.mv (.t 0)),u_ 11 (.mv (.t 1)),u_ 12 (.call (.c (.fn 68 [] [])) [.t 10,.t 11]),u_ 9 (.mv (.t 12)),u_ 13 (.ext (.t 9) 0),u_ 14 (.ext (.t 9) 1),(⟨some 7,.newc [.int .i64 0,.int .i64 0,.int .i64 0],none⟩,⟨.s 3,[]⟩),(⟨none,.st 3 (.t 7) (.t 13),none⟩,⟨.n,[]⟩),u_ 8 (.mv (.t 14))]) (.seq (.reg [u_ 15 (.mv (.t 8)),u_ 16 (.mv (.t 15)),ug 17 16 true (.fad 1 (.t 7)),ug 18 16 true (.ld (.t 17)),ug 19 16 true (.mv (.t 2)),ug 20 16 true (.bin .gtr (.t 18) (.t 19)),u_ 21 (.pick (.t 16) (.t 20) (.c (.bool false))),u_ 6 (.mv (.t 21))]) .ret))
def ZS:PFn:=⟨22,[],z3m,[.tmp 6],[.n]⟩
def Xi:ze:=.seq (.reg [(⟨some 4,.box (.t 1),none⟩,⟨.s 10,[]⟩)]) (.seq (.seq (.reg [u_ 6 (.mv (.t 0)),u_ 7 (.fad 1 (.t 4)),u_ 8 (.ld (.t 7)),u_ 9 (.call (.c (.fn 69 [] [])) [.t 6,.t 8]),u_ 10 (.un .not (.t 9))]) (.cond (.t 10) (.seq (.reg [u_ 11 (.mv (.t 0)),u_ 12 (.fad 1 (.t 4)),u_ 13 (.ld (.t 12)),u_ 14 (.call (.c (.fn 61 [] [])) [.t 11,.c (.int .i64 3),.t 13,.c (.int .i64 0)])]) .ret) .skip)) (.seq (.reg [u_ 15 (.mv (.t 0)),u_ 16 (.ldn 10 (.t 4)),u_ 17 (.call (.c (.fn 70 [] [])) [.t 15,.t 16])]) (.reg [u_ 18 (.mv (.t 0)),u_ 19 (.fad 1 (.t 4)),u_ 20 (.ld (.t 19)),u_ 21 (.mv (.t 2)),u_ 22 (.call (.c (.fn 61 [] [])) [.t 18,.c (.int .i64 2),.t 20,.t 21])])))
def qo:PFn:=⟨23,[],Xi,[],[]⟩
def Yj:ze:=.seq (.reg [u_ 34 (.mv (.t 0)),u_ 35 (.nck (.t 34)),u_ 36 (.fad 0 (.t 35)),u_ 37 (.fad 9 (.t 36)),(⟨none,.st 1 (.t 37) (.c (.int .i64 0)),none⟩,⟨.n,[]⟩)]) (.seq (.dreg 0 [qn 39 (.fad 6 (.t 3)),qn 40 (.ld (.t 39)),qn 41 (.mv (.t 0)),qn 42 (.nck (.t 41)),qn 43 (.fad 0 (.t 42)),qn 44 (.fad 0 (.t 43)),qn 45 (.ld (.t 44)),((⟨some 46,.call (.c (.fn 71 [] [])) [.t 40,.t 45],none⟩,.ef []),⟨.n,[]⟩),qn 38 (.mv (.t 46)),qn 47 (.ext (.t 38) 0),qn 48 (.ext (.t 38) 1),qn 4 (.mv (.t 47)),qn 5 (.mv (.t 48))]) (.seq (.seq (.reg [u_ 49 (.mv (.t 5)),u_ 50 (.un .not (.t 49)),u_ 51 (.mv (.t 50)),ug 52 51 false (.fad 5 (.t 3)),ug 53 51 false (.ld (.t 52)),ug 54 51 false (.bin .gtr (.t 53) (.c (.int .i64 20))),u_ 55 (.pick (.t 51) (.c (.bool true)) (.t 54))]) (.cond (.t 55) (.seq (.reg [u_ 56 (.mv (.t 0)),u_ 57 (.fad 1 (.t 3)),u_ 58 (.ld (.t 57)),u_ 59 (.call (.c (.fn 61 [] [])) [.t 56,.c (.int .i64 6),.t 58,.c (.int .i64 0)])]) (.seq (.reg [u_ 60 (.mv (.t 0)),u_ 61 (.nck (.t 60)),u_ 62 (.fad 0 (.t 61)),u_ 63 (.fad 11 (.t 62)),u_ 64 (.ld (.t 63)),u_ 65 (.bin .add (.t 64) (.c (.int .i64 1))),u_ 66 (.nck (.t 60)),u_ 67 (.fad 0 (.t 66)),u_ 68 (.fad 11 (.t 67)),(⟨none,.st 1 (.t 68) (.t 65),none⟩,⟨.n,[]⟩)]) .ret)) .skip)) (.seq (.reg [u_ 69 (.mv (.t 0)),u_ 70 (.ldn 10 (.t 3)),u_ 71 (.mv (.t 4)),u_ 72 (.call (.c (.fn 72 [] [])) [.t 69,.t 70,.t 71])]) (.dreg 0 [qn 73 (.mv (.t 0)),qn 74 (.mv (.t 0)),qn 75 (.mv (.t 0)),qn 76 (.mv (.t 0)),qn 77 (.mv (.t 0)),qn 78 (.fad 1 (.t 3)),qn 79 (.ld (.t 78)),qn 80 (.fad 3 (.t 3)),qn 81 (.ld (.t 80)),qn 82 (.fad 4 (.t 3)),qn 83 (.ld (.t 82)),qn 84 (.mv (.t 0)),qn 85 (.nck (.t 84)),qn 86 (.fad 0 (.t 85)),qn 87 (.fad 2 (.t 86)),qn 88 (.ld (.t 87)),qn 89 (.fad 5 (.t 3)),qn 90 (.ld (.t 89)),qn 91 (.bin .sub (.t 88) (.t 90)),qn 92 (.nck (.t 73)),qn 93 (.fad 0 (.t 92)),qn 94 (.fad 3 (.t 93)),((⟨none,.st 1 (.t 94) (.t 79),none⟩,.ef [8,10,17]),⟨.n,[]⟩),qn 95 (.nck (.t 74)),qn 96 (.fad 0 (.t 95)),qn 97 (.fad 4 (.t 96)),((⟨none,.st 1 (.t 97) (.t 81),none⟩,.ef [10,17]),⟨.n,[]⟩),qn 98 (.nck (.t 75)),qn 99 (.fad 0 (.t 98)),qn 100 (.fad 7 (.t 99)),((⟨none,.st 1 (.t 100) (.t 83),none⟩,.ef [17]),⟨.n,[]⟩),qn 101 (.nck (.t 76)),qn 102 (.fad 0 (.t 101)),qn 103 (.fad 8 (.t 102)),((⟨none,.st 1 (.t 103) (.t 91),none⟩,.ef []),⟨.n,[]⟩),qn 104 (.nck (.t 77)),qn 105 (.fad 0 (.t 104)),qn 106 (.fad 11 (.t 105)),((⟨none,.st 1 (.t 106) (.c (.int .i64 0)),none⟩,.ef []),⟨.n,[]⟩)]))))
def Xj:ze:=.seq (.reg [(⟨some 3,.box (.t 1),none⟩,⟨.s 10,[]⟩)]) (.seq (.seq (.dreg 0 [qn 6 (.mv (.t 0)),qn 7 (.nck (.t 6)),qn 8 (.fad 0 (.t 7)),qn 9 (.fad 9 (.t 8)),qn 10 (.ld (.t 9)),qn 11 (.fad 1 (.t 3)),qn 12 (.ld (.t 11)),qn 13 (.bin .neq (.t 10) (.t 12)),qn 14 (.mv (.t 13)),qg 15 14 false (.mv (.t 0)),qg 16 14 false (.nck (.t 15)),qg 17 14 false (.fad 0 (.t 16)),qg 18 14 false (.fad 3 (.t 17)),qg 19 14 false (.ld (.t 18)),qg 20 14 false (.bin .neq (.t 19) (.c (.int .i64 0))),qn 21 (.pick (.t 14) (.c (.bool true)) (.t 20))]) (.cond (.t 21) (.seq (.seq (.dreg 0 [qn 22 (.mv (.t 0)),qn 23 (.nck (.t 22)),qn 24 (.fad 0 (.t 23)),qn 25 (.fad 3 (.t 24)),qn 26 (.ld (.t 25)),qn 27 (.fad 1 (.t 3)),qn 28 (.ld (.t 27)),qn 29 (.bin .neq (.t 26) (.t 28))]) (.cond (.t 29) (.fin (.reg [u_ 30 (.mv (.t 0)),u_ 31 (.fad 1 (.t 3)),u_ 32 (.ld (.t 31)),u_ 33 (.call (.c (.fn 61 [] [])) [.t 30,.c (.int .i64 6),.t 32,.c (.int .i64 0)])]) [] [] [] []) (.fin .skip [] [] [] []))) .ret) .skip)) Yj)
def qp:PFn:=⟨107,[],Xj,[],[]⟩
def Xk:ze:=.seq (.reg [(⟨some 3,.box (.t 1),none⟩,⟨.s 10,[]⟩)]) (.seq (.reg [u_ 4 (.fad 1 (.t 3)),u_ 5 (.ld (.t 4))]) (.block 0 (.seq (.reg [u_ 7 (.mv (.t 0)),u_ 8 (.nck (.t 7)),u_ 9 (.fad 0 (.t 8)),u_ 10 (.fad 9 (.t 9)),u_ 11 (.ld (.t 10)),u_ 12 (.bin .eql (.t 5) (.t 11)),u_ 6 (.mv (.t 12))]) (.fin (.cond (.t 6) (.seq (.reg [u_ 13 (.mv (.t 0)),u_ 14 (.nck (.t 13)),u_ 15 (.fad 0 (.t 14)),u_ 16 (.fad 9 (.t 15)),(⟨none,.st 1 (.t 16) (.c (.int .i64 0)),none⟩,⟨.n,[]⟩)]) (.fin (.reg [u_ 17 (.mv (.t 0)),u_ 18 (.nck (.t 17)),u_ 19 (.fad 0 (.t 18)),u_ 20 (.fad 11 (.t 19)),u_ 21 (.ld (.t 20)),u_ 22 (.bin .add (.t 21) (.c (.int .i64 1))),u_ 23 (.nck (.t 17)),u_ 24 (.fad 0 (.t 23)),u_ 25 (.fad 11 (.t 24)),(⟨none,.st 1 (.t 25) (.t 22),none⟩,⟨.n,[]⟩)]) [] [] [] [])) (.seq (.reg [u_ 27 (.mv (.t 0)),u_ 28 (.nck (.t 27)),u_ 29 (.fad 0 (.t 28)),u_ 30 (.fad 3 (.t 29)),u_ 31 (.ld (.t 30)),u_ 32 (.bin .eql (.t 5) (.t 31)),u_ 26 (.mv (.t 32))]) (.fin (.cond (.t 26) (.fin (.reg [u_ 33 (.mv (.t 0)),u_ 34 (.call (.c (.fn 40 [] [])) [.t 33,.c (.int .i64 0)])]) [] [] [] []) (.fin .skip [] [] [] [])) [] [] [] []))) [] [] [] []))))
def qr:PFn:=⟨35,[],Xk,[],[]⟩
def Xl:ze:=.seq (.reg [(⟨some 3,.box (.t 1),none⟩,⟨.s 10,[]⟩)]) (.seq (.dreg 1 [qn 7 (.mv (.t 0)),qn 8 (.nck (.t 7)),qn 9 (.fad 0 (.t 8)),qn 10 (.fad 12 (.t 9)),qn 11 (.ld (.t 10)),qn 12 (.fad 1 (.t 3)),qn 13 (.ld (.t 12)),((⟨some 4,.newc [.int .i64 0,.int .i64 0,.int .i64 0],none⟩,.al 0),⟨.s 3,[]⟩),((⟨some 14,.call (.c (.fn 68 [] [])) [.t 11,.t 13],none⟩,.ef [7]),⟨.n,[]⟩),qn 6 (.mv (.t 14)),qn 15 (.ext (.t 6) 0),qn 16 (.ext (.t 6) 1),((⟨none,.st 3 (.t 4) (.t 15),none⟩,.ef []),⟨.n,[]⟩),qn 5 (.mv (.t 16))]) (.seq (.reg [u_ 17 (.mv (.t 5))]) (.cond (.t 17) (.fin (.reg [u_ 18 (.mv (.t 0)),u_ 19 (.ldn 10 (.t 3)),u_ 20 (.call (.c (.fn 70 [] [])) [.t 18,.t 19])]) [] [] [] []) (.fin (.reg [u_ 21 (.mv (.t 0)),u_ 22 (.fad 1 (.t 3)),u_ 23 (.ld (.t 22)),u_ 24 (.call (.c (.fn 61 [] [])) [.t 21,.c (.int .i64 3),.t 23,.c (.int .i64 0)])]) [] [] [] []))))
def qt:PFn:=⟨25,[],Xl,[],[]⟩
def Xm:ze:=.seq (.reg [(⟨some 3,.box (.t 1),none⟩,⟨.s 10,[]⟩)]) (.seq (.seq (.dreg 0 [qn 6 (.fad 1 (.t 3)),qn 7 (.ld (.t 6)),qn 8 (.mv (.t 0)),qn 9 (.nck (.t 8)),qn 10 (.fad 0 (.t 9)),qn 11 (.fad 3 (.t 10)),qn 12 (.ld (.t 11)),qn 13 (.bin .neq (.t 7) (.t 12))]) (.cond (.t 13) (.seq (.reg [u_ 14 (.mv (.t 0)),u_ 15 (.fad 1 (.t 3)),u_ 16 (.ld (.t 15)),u_ 17 (.call (.c (.fn 61 [] [])) [.t 14,.c (.int .i64 6),.t 16,.c (.int .i64 0)])]) .ret) .skip)) (.seq (.dreg 0 [qn 19 (.fad 6 (.t 3)),qn 20 (.ld (.t 19)),qn 21 (.mv (.t 0)),qn 22 (.nck (.t 21)),qn 23 (.fad 0 (.t 22)),qn 24 (.fad 0 (.t 23)),qn 25 (.ld (.t 24)),((⟨some 26,.call (.c (.fn 71 [] [])) [.t 20,.t 25],none⟩,.ef []),⟨.n,[]⟩),qn 18 (.mv (.t 26)),qn 27 (.ext (.t 18) 0),qn 28 (.ext (.t 18) 1),qn 4 (.mv (.t 27)),qn 5 (.mv (.t 28))]) (.seq (.seq (.reg [u_ 29 (.mv (.t 5)),u_ 30 (.un .not (.t 29))]) (.cond (.t 30) (.seq (.reg [u_ 31 (.mv (.t 0)),u_ 32 (.fad 1 (.t 3)),u_ 33 (.ld (.t 32)),u_ 34 (.call (.c (.fn 61 [] [])) [.t 31,.c (.int .i64 6),.t 33,.c (.int .i64 0)])]) (.seq (.reg [u_ 35 (.mv (.t 0)),u_ 36 (.call (.c (.fn 40 [] [])) [.t 35,.c (.int .i64 1)])]) .ret)) .skip)) (.seq (.reg [u_ 37 (.mv (.t 0)),u_ 38 (.ldn 10 (.t 3)),u_ 39 (.mv (.t 4)),u_ 40 (.call (.c (.fn 72 [] [])) [.t 37,.t 38,.t 39])]) (.seq (.dreg 0 [qn 41 (.mv (.t 0)),qn 42 (.nck (.t 41)),qn 43 (.fad 0 (.t 42)),qn 44 (.fad 2 (.t 43)),qn 45 (.ld (.t 44)),qn 46 (.fad 5 (.t 3)),qn 47 (.ld (.t 46)),qn 48 (.bin .sub (.t 45) (.t 47)),qn 49 (.mv (.t 0)),qn 50 (.nck (.t 49)),qn 51 (.fad 0 (.t 50)),qn 52 (.fad 8 (.t 51)),qn 53 (.ld (.t 52)),qn 54 (.bin .gtr (.t 48) (.t 53))]) (.cond (.t 54) (.fin (.dreg 0 [qn 55 (.mv (.t 0)),qn 56 (.mv (.t 0)),qn 57 (.mv (.t 0)),qn 58 (.nck (.t 57)),qn 59 (.fad 0 (.t 58)),qn 60 (.fad 2 (.t 59)),qn 61 (.ld (.t 60)),qn 62 (.fad 5 (.t 3)),qn 63 (.ld (.t 62)),qn 64 (.bin .sub (.t 61) (.t 63)),qn 65 (.fad 4 (.t 3)),qn 66 (.ld (.t 65)),qn 67 (.nck (.t 55)),qn 68 (.fad 0 (.t 67)),qn 69 (.fad 8 (.t 68)),((⟨none,.st 1 (.t 69) (.t 64),none⟩,.ef [11]),⟨.n,[]⟩),qn 70 (.nck (.t 56)),qn 71 (.fad 0 (.t 70)),qn 72 (.fad 7 (.t 71)),((⟨none,.st 1 (.t 72) (.t 66),none⟩,.ef []),⟨.n,[]⟩)]) [] [] [] []) (.fin .skip [] [] [] [])))))))
def qu:PFn:=⟨73,[],Xm,[],[]⟩
def z2b:ze:=.seq (.reg [(⟨some 3,.box (.t 1),none⟩,⟨.s 1,[]⟩),u_ 4 (.mv (.c .nils))]) (.seq (.reg [u_ 5 (.mv (.t 0)),(⟨some 6,.call (.c (.fn 65 [] [])) [.t 5],none⟩,⟨.s 3,[]⟩),(⟨some 7,.mkf 73 [] [.t 3],none⟩,⟨.n,[3]⟩),(⟨some 8,.call (.c (.fn 66 [] [])) [.t 6,.t 7],none⟩,⟨.tf 3,[]⟩),u_ 4 (.mv (.t 8))]) .ret)
def Z0:PFn:=⟨9,[],z2b,[.tmp 4],[.f 3]⟩
def XY:ze:=.seq (.reg [u_ 6 (.mv (.c (.bool false)))]) (.seq (.reg [u_ 10 (.mv (.t 0)),u_ 11 (.mv (.t 1)),u_ 12 (.call (.c (.fn 34 [] [])) [.t 10,.t 11]),u_ 9 (.mv (.t 12)),u_ 13 (.ext (.t 9) 0),u_ 14 (.ext (.t 9) 1),(⟨some 7,.newc [.int .i64 0,.int .i64 0,.int .i64 0],none⟩,⟨.s 3,[]⟩),(⟨none,.st 3 (.t 7) (.t 13),none⟩,⟨.n,[]⟩),u_ 8 (.mv (.t 14))]) (.seq (.reg [u_ 15 (.mv (.t 8)),u_ 16 (.mv (.t 15)),ug 17 16 true (.fad 1 (.t 7)),ug 18 16 true (.ld (.t 17)),ug 19 16 true (.mv (.t 2)),ug 20 16 true (.bin .gtr (.t 18) (.t 19)),u_ 21 (.pick (.t 16) (.t 20) (.c (.bool false))),u_ 6 (.mv (.t 21))]) .ret))
def qS:PFn:=⟨22,[],XY,[.tmp 6],[.n]⟩
def yG:ze:=.seq (.seq (.reg [u_ 19 (.mv (.t 7)),u_ 20 (.mv (.t 6)),u_ 21 (.len (.t 20)),u_ 22 (.bin .lss (.t 19) (.t 21))]) (.cond (.t 22) .skip (.keep [3,6] [(3,3),(6,6)] (.exit 0)))) (.seq (.block 1 (.seq (.dreg 0 [qn 25 (.mv (.t 6)),qn 26 (.mv (.t 7)),qn 27 (.iad 3 (.t 25) (.t 26)),qn 28 (.fad 0 (.t 27)),qn 29 (.ld (.t 28)),qn 30 (.fad 0 (.t 3)),qn 31 (.ld (.t 30)),qn 32 (.bin .gtr (.t 29) (.t 31))]) (.cond (.t 32) (.seq (.frz [6] (.dreg 2 [((⟨some 33,.bsl 3 [.int .i64 0,.int .i64 0,.int .i64 0] 0 [],none⟩,.al 0),⟨.s 3,[]⟩),qn 34 (.mv (.t 6)),qn 35 (.mv (.t 7)),qn 36 (.slc 3 (.t 34) none (some (.t 35)) none),qn 38 (.ldn 3 (.t 3)),((⟨some 39,.bsl 3 [.int .i64 0,.int .i64 0,.int .i64 0] 1 [(0,3,.t 38)],none⟩,.al 1),⟨.f,[]⟩),qn 41 (.mv (.t 6)),qn 42 (.mv (.t 7)),qn 43 (.slc 3 (.t 41) (some (.t 42)) none none),((⟨some 37,.app 3 24 [.int .i64 0,.int .i64 0,.int .i64 0] (.t 33) (.t 36),none⟩,.ef [4,5,8]),⟨.s 3,[]⟩),((⟨some 40,.app 3 24 [.int .i64 0,.int .i64 0,.int .i64 0] (.t 37) (.t 39),none⟩,.ef [8]),⟨.s 3,[]⟩),((⟨some 44,.app 3 24 [.int .i64 0,.int .i64 0,.int .i64 0] (.t 40) (.t 43),none⟩,.ef []),⟨.s 3,[]⟩),qn 4 (.mv (.t 44)),qn 5 (.mv (.c (.bool true)))])) (.keep [4,5] [(33,4)] .ret)) .skip))) (.fin (.reg [u_ 23 (.mv (.t 7)),u_ 24 (.bin .add (.t 23) (.c (.int .i64 1))),u_ 7 (.mv (.t 24))]) [] [] [3,6,7] [(3,3),(6,6)]))
def vn:ze:=.seq (.reg [u_ 45 (.mv (.t 6)),u_ 46 (.ldn 3 (.t 3)),(⟨some 47,.bsl 3 [.int .i64 0,.int .i64 0,.int .i64 0] 1 [(0,3,.t 46)],none⟩,⟨.f,[]⟩),(⟨some 48,.app 3 24 [.int .i64 0,.int .i64 0,.int .i64 0] (.t 45) (.t 47),none⟩,⟨.s 3,[]⟩),u_ 4 (.mv (.t 48)),u_ 5 (.mv (.c (.bool true)))]) .ret
def Xn:ze:=.seq (.reg [(⟨some 3,.box (.t 1),none⟩,⟨.s 3,[]⟩),u_ 4 (.mv (.c .nils)),u_ 5 (.mv (.c (.bool false)))]) (.seq (.seq (.reg [u_ 8 (.mv (.t 0)),u_ 9 (.fad 0 (.t 3)),u_ 10 (.ld (.t 9)),u_ 11 (.fad 1 (.t 3)),u_ 12 (.ld (.t 11)),u_ 13 (.call (.c (.fn 55 [] [])) [.t 8,.t 10,.t 12])]) (.cond (.t 13) (.seq (.reg [u_ 14 (.mv (.t 0)),u_ 4 (.mv (.t 14)),u_ 5 (.mv (.c (.bool false)))]) .ret) .skip)) (.seq (.reg [u_ 15 (.mv (.t 0)),u_ 16 (.fad 0 (.t 3)),u_ 17 (.ld (.t 16)),(⟨some 18,.call (.c (.fn 59 [] [])) [.t 15,.t 17],none⟩,⟨.s 3,[]⟩),u_ 6 (.mv (.t 18))]) (.seq (.seq (.reg [u_ 7 (.mv (.c (.int .i64 0)))]) (.block 0 (.keep [3,6,7] [(3,3),(18,6)] (.loop yG)))) vn)))
def qv:PFn:=⟨49,[],Xn,[.tmp 4,.tmp 5],[.f 3,.n]⟩
def Z1:ze:=.seq (.reg [(⟨some 2,.box (.t 0),none⟩,⟨.s 13,[]⟩),(⟨some 3,.box (.t 1),none⟩,⟨.s 10,[]⟩),(⟨some 4,.newc [.int .i64 0,.int .i64 0,.int .i64 0,.int .i64 0,.int .i64 0,.int .i64 0,.nils,.int .i64 0,.int .i64 0,.int .i64 0,.int .i64 0,.int .i64 0,.nils],none⟩,⟨.s 13,[]⟩),u_ 5 (.mv (.c .nils))]) (.seq (.seq (.reg [u_ 8 (.fad 3 (.t 2)),u_ 9 (.ld (.t 8)),u_ 10 (.bin .neq (.t 9) (.c (.int .i64 0))),u_ 11 (.mv (.t 10)),ug 12 11 true (.fad 1 (.t 3)),ug 13 11 true (.ld (.t 12)),ug 14 11 true (.fad 3 (.t 2)),ug 15 11 true (.ld (.t 14)),ug 16 11 true (.bin .eql (.t 13) (.t 15)),u_ 17 (.pick (.t 11) (.t 16) (.c (.bool false)))]) (.cond (.t 17) (.seq (.reg [u_ 18 (.ldn 13 (.t 2)),(⟨none,.st 13 (.t 4) (.t 18),none⟩,⟨.n,[]⟩),u_ 5 (.mv (.c .nils))]) .ret) .skip)) (.seq (.seq (.reg [u_ 19 (.fad 9 (.t 2)),u_ 20 (.ld (.t 19)),u_ 21 (.bin .eql (.t 20) (.c (.int .i64 0))),u_ 22 (.mv (.t 21)),ug 23 22 false (.fad 9 (.t 2)),ug 24 22 false (.ld (.t 23)),ug 25 22 false (.fad 1 (.t 3)),ug 26 22 false (.ld (.t 25)),ug 27 22 false (.bin .neq (.t 24) (.t 26)),u_ 28 (.pick (.t 22) (.c (.bool true)) (.t 27)),u_ 29 (.mv (.t 28)),ug 30 29 false (.fad 3 (.t 2)),ug 31 29 false (.ld (.t 30)),ug 32 29 false (.bin .neq (.t 31) (.c (.int .i64 0))),u_ 33 (.pick (.t 29) (.c (.bool true)) (.t 32))]) (.cond (.t 33) (.seq (.dreg 1 [qn 34 (.ldn 13 (.t 2)),qn 35 (.ldn 13 (.t 2)),qn 36 (.fad 1 (.t 3)),qn 37 (.ld (.t 36)),((⟨some 38,.call (.c (.fn 45 [] [])) [.t 35,.c (.int .i64 6),.t 37],none⟩,.ef [0]),⟨.n,[]⟩),((⟨some 39,.bsl 10 [.int .i64 0,.int .i64 0,.int .i64 0,.int .i64 0,.int .i64 0,.int .i64 0,.nils,.int .i64 0,.int .i64 0,.str []] 1 [(0,10,.t 38)],none⟩,.al 0),⟨.s 10,[]⟩),((⟨none,.st 13 (.t 4) (.t 34),none⟩,.ef [5]),⟨.n,[]⟩),qn 5 (.mv (.t 39))]) .ret) .skip)) (.seq (.reg [u_ 41 (.fad 6 (.t 3)),u_ 42 (.ld (.t 41)),u_ 43 (.fad 0 (.t 2)),u_ 44 (.ld (.t 43)),u_ 45 (.call (.c (.fn 35 [] [])) [.t 42,.t 44]),u_ 40 (.mv (.t 45)),u_ 46 (.ext (.t 40) 0),u_ 47 (.ext (.t 40) 1),u_ 6 (.mv (.t 46)),u_ 7 (.mv (.t 47))]) (.seq (.reg [u_ 48 (.fad 9 (.t 2)),(⟨none,.st 1 (.t 48) (.c (.int .i64 0)),none⟩,⟨.n,[]⟩)]) (.seq (.seq (.reg [u_ 49 (.mv (.t 7)),u_ 50 (.un .not (.t 49)),u_ 51 (.mv (.t 50)),ug 52 51 false (.fad 5 (.t 3)),ug 53 51 false (.ld (.t 52)),ug 54 51 false (.bin .gtr (.t 53) (.c (.int .i64 20))),u_ 55 (.pick (.t 51) (.c (.bool true)) (.t 54))]) (.cond (.t 55) (.seq (.reg [u_ 56 (.fad 11 (.t 2)),u_ 57 (.ld (.t 56)),u_ 58 (.bin .add (.t 57) (.c (.int .i64 1))),u_ 59 (.fad 11 (.t 2)),(⟨none,.st 1 (.t 59) (.t 58),none⟩,⟨.n,[]⟩)]) (.seq (.dreg 1 [qn 60 (.ldn 13 (.t 2)),qn 61 (.ldn 13 (.t 2)),qn 62 (.fad 1 (.t 3)),qn 63 (.ld (.t 62)),((⟨some 64,.call (.c (.fn 45 [] [])) [.t 61,.c (.int .i64 6),.t 63],none⟩,.ef [0]),⟨.n,[]⟩),((⟨some 65,.bsl 10 [.int .i64 0,.int .i64 0,.int .i64 0,.int .i64 0,.int .i64 0,.int .i64 0,.nils,.int .i64 0,.int .i64 0,.str []] 1 [(0,10,.t 64)],none⟩,.al 0),⟨.s 10,[]⟩),((⟨none,.st 13 (.t 4) (.t 60),none⟩,.ef [5]),⟨.n,[]⟩),qn 5 (.mv (.t 65))]) .ret)) .skip)) (.seq (.dreg 0 [qn 66 (.fad 1 (.t 3)),qn 67 (.ld (.t 66)),qn 68 (.fad 3 (.t 3)),qn 69 (.ld (.t 68)),qn 70 (.mv (.t 6)),qn 71 (.fad 6 (.t 3)),qn 72 (.ld (.t 71)),qn 74 (.fad 3 (.t 2)),((⟨some 73,.call (.c (.fn 58 [] [])) [.t 72],none⟩,.ef [1,3]),⟨.n,[]⟩),((⟨none,.st 1 (.t 74) (.t 67),none⟩,.ef [3]),⟨.n,[]⟩),qn 75 (.fad 4 (.t 2)),((⟨none,.st 1 (.t 75) (.t 69),none⟩,.ef []),⟨.n,[]⟩),qn 76 (.fad 6 (.t 2)),((⟨none,.st 1 (.t 76) (.t 70),none⟩,.ef []),⟨.n,[]⟩),qn 77 (.fad 5 (.t 2)),((⟨none,.st 1 (.t 77) (.t 73),none⟩,.ef []),⟨.n,[]⟩)]) (.seq (.dreg 0 [qn 78 (.fad 4 (.t 3)),qn 79 (.ld (.t 78)),qn 80 (.fad 2 (.t 2)),qn 81 (.ld (.t 80)),qn 82 (.fad 5 (.t 3)),qn 83 (.ld (.t 82)),qn 84 (.bin .sub (.t 81) (.t 83)),qn 85 (.fad 7 (.t 2)),((⟨none,.st 1 (.t 85) (.t 79),none⟩,.ef [5]),⟨.n,[]⟩),qn 86 (.fad 8 (.t 2)),((⟨none,.st 1 (.t 86) (.t 84),none⟩,.ef []),⟨.n,[]⟩),qn 87 (.fad 11 (.t 2)),((⟨none,.st 1 (.t 87) (.c (.int .i64 0)),none⟩,.ef []),⟨.n,[]⟩)]) (.seq (.reg [u_ 88 (.ldn 13 (.t 2)),(⟨none,.st 13 (.t 4) (.t 88),none⟩,⟨.n,[]⟩),u_ 5 (.mv (.c .nils))]) .ret))))))))
def yZ:PFn:=⟨89,[],Z1,[.cell 4 (some 13),.tmp 5],[.n,.f 10]⟩
def Yk:ze:=.seq (.reg [u_ 2 (.mv (.c (.int .i64 0)))]) (.seq (.reg [u_ 4 (.mv (.t 0)),u_ 5 (.call (.c (.fn 74 [] [])) [.t 4]),u_ 3 (.mv (.t 5))]) (.seq (.seq (.reg [u_ 6 (.mv (.t 3)),u_ 7 (.bin .eql (.t 6) (.c (.int .i64 0)))]) (.cond (.t 7) (.seq (.reg [u_ 2 (.mv (.c (.int .i64 1)))]) .ret) .skip)) (.seq (.reg [u_ 8 (.mv (.t 3)),u_ 2 (.mv (.t 8))]) .ret)))
def xJ:PFn:=⟨9,[],Yk,[.tmp 2],[.n]⟩
def vo:ze:=.fin (.reg [u_ 11 (.mv (.t 6)),u_ 12 (.bin .add (.t 11) (.c (.int .i64 1))),u_ 6 (.mv (.t 12))]) [] [] [0,1,5,6] [(5,5)]
def yH:ze:=.seq (.seq (.reg [u_ 7 (.mv (.t 6)),u_ 8 (.mv (.t 0)),u_ 9 (.len (.t 8)),u_ 10 (.bin .lss (.t 7) (.t 9))]) (.cond (.t 10) .skip (.keep [5] [(5,5)] (.exit 0)))) (.seq (.block 1 (.seq (.reg [u_ 13 (.mv (.t 0)),u_ 14 (.mv (.t 6)),u_ 15 (.iad 3 (.t 13) (.t 14)),u_ 16 (.fad 0 (.t 15)),u_ 17 (.ld (.t 16)),u_ 18 (.mv (.t 1)),u_ 19 (.bin .neq (.t 17) (.t 18))]) (.fin (.cond (.t 19) (.fin (.reg [u_ 20 (.mv (.t 5)),u_ 21 (.mv (.t 0)),u_ 22 (.mv (.t 6)),u_ 23 (.iad 3 (.t 21) (.t 22)),u_ 24 (.ldn 3 (.t 23)),(⟨some 25,.bsl 3 [.int .i64 0,.int .i64 0,.int .i64 0] 1 [(0,3,.t 24)],none⟩,⟨.f,[]⟩),(⟨some 26,.app 3 24 [.int .i64 0,.int .i64 0,.int .i64 0] (.t 20) (.t 25),none⟩,⟨.s 3,[]⟩),u_ 5 (.mv (.t 26))]) [] [] [0,1,5,6] [(5,5)]) (.fin .skip [] [] [0,1,5,6] [(5,5)])) [] [] [0,1,5,6] [(5,5)]))) vo)
def vp:ze:=.seq (.reg [u_ 27 (.mv (.t 5)),u_ 4 (.mv (.t 27))]) .ret
def Xo:ze:=.seq (.reg [u_ 4 (.mv (.c .nils))]) (.seq (.reg [u_ 5 (.mv (.c .nils))]) (.seq (.seq (.reg [u_ 6 (.mv (.c (.int .i64 0)))]) (.block 0 (.own 5 3 (.keep [0,1,5,6] [(5,5)] (.loop yH))))) vp))
def qw:PFn:=⟨28,[],Xo,[.tmp 4],[.o 3]⟩
def Zj:ze:=.seq (.reg [(⟨some 2,.box (.t 0),none⟩,⟨.s 10,[]⟩),(⟨some 3,.box (.t 1),none⟩,⟨.s 10,[]⟩),u_ 4 (.mv (.c (.bool false)))]) (.seq (.reg [u_ 5 (.fad 0 (.t 2)),u_ 6 (.ld (.t 5)),u_ 7 (.fad 0 (.t 3)),u_ 8 (.ld (.t 7)),u_ 9 (.bin .eql (.t 6) (.t 8)),u_ 10 (.mv (.t 9)),ug 11 10 true (.fad 1 (.t 2)),ug 12 10 true (.ld (.t 11)),ug 13 10 true (.fad 1 (.t 3)),ug 14 10 true (.ld (.t 13)),ug 15 10 true (.bin .eql (.t 12) (.t 14)),u_ 16 (.pick (.t 10) (.t 15) (.c (.bool false))),u_ 17 (.mv (.t 16)),ug 18 17 true (.fad 2 (.t 2)),ug 19 17 true (.ld (.t 18)),ug 20 17 true (.fad 2 (.t 3)),ug 21 17 true (.ld (.t 20)),ug 22 17 true (.bin .eql (.t 19) (.t 21)),u_ 23 (.pick (.t 17) (.t 22) (.c (.bool false))),u_ 24 (.mv (.t 23)),ug 25 24 true (.fad 3 (.t 2)),ug 26 24 true (.ld (.t 25)),ug 27 24 true (.fad 3 (.t 3)),ug 28 24 true (.ld (.t 27)),ug 29 24 true (.bin .eql (.t 26) (.t 28)),u_ 30 (.pick (.t 24) (.t 29) (.c (.bool false))),u_ 31 (.mv (.t 30)),ug 32 31 true (.fad 4 (.t 2)),ug 33 31 true (.ld (.t 32)),ug 34 31 true (.fad 4 (.t 3)),ug 35 31 true (.ld (.t 34)),ug 36 31 true (.bin .eql (.t 33) (.t 35)),u_ 37 (.pick (.t 31) (.t 36) (.c (.bool false))),u_ 38 (.mv (.t 37)),ug 39 38 true (.fad 5 (.t 2)),ug 40 38 true (.ld (.t 39)),ug 41 38 true (.fad 5 (.t 3)),ug 42 38 true (.ld (.t 41)),ug 43 38 true (.bin .eql (.t 40) (.t 42)),u_ 44 (.pick (.t 38) (.t 43) (.c (.bool false))),u_ 45 (.mv (.t 44)),ug 46 45 true (.fad 7 (.t 2)),ug 47 45 true (.ld (.t 46)),ug 48 45 true (.fad 7 (.t 3)),ug 49 45 true (.ld (.t 48)),ug 50 45 true (.bin .eql (.t 47) (.t 49)),u_ 51 (.pick (.t 45) (.t 50) (.c (.bool false))),u_ 52 (.mv (.t 51)),ug 53 52 true (.fad 8 (.t 2)),ug 54 52 true (.ld (.t 53)),ug 55 52 true (.fad 8 (.t 3)),ug 56 52 true (.ld (.t 55)),ug 57 52 true (.bin .eql (.t 54) (.t 56)),u_ 58 (.pick (.t 52) (.t 57) (.c (.bool false))),u_ 59 (.mv (.t 58)),ug 60 59 true (.fad 9 (.t 2)),ug 61 59 true (.ld (.t 60)),ug 62 59 true (.fad 9 (.t 3)),ug 63 59 true (.ld (.t 62)),ug 64 59 true (.bin .eql (.t 61) (.t 63)),u_ 65 (.pick (.t 59) (.t 64) (.c (.bool false))),u_ 66 (.mv (.t 65)),ug 67 66 true (.fad 6 (.t 2)),ug 68 66 true (.ld (.t 67)),ug 69 66 true (.fad 6 (.t 3)),ug 70 66 true (.ld (.t 69)),ug 71 66 true (.call (.c (.fn 36 [] [])) [.t 68,.t 70]),u_ 72 (.pick (.t 66) (.t 71) (.c (.bool false))),u_ 4 (.mv (.t 72))]) .ret)
def xg:PFn:=⟨73,[],Zj,[.tmp 4],[.n]⟩
def vX:ze:=.dreg 1 [qn 54 (.mv (.t 0)),qn 55 (.mv (.t 0)),qn 56 (.nck (.t 55)),qn 57 (.fad 13 (.t 56)),qn 58 (.ld (.t 57)),qn 59 (.ldn 10 (.t 8)),((⟨some 60,.bsl 10 [.int .i64 0,.int .i64 0,.int .i64 0,.int .i64 0,.int .i64 0,.int .i64 0,.nils,.int .i64 0,.int .i64 0,.str []] 1 [(0,10,.t 59)],none⟩,.al 0),⟨.f,[]⟩),((⟨some 61,.app 10 104 [.int .i64 0,.int .i64 0,.int .i64 0,.int .i64 0,.int .i64 0,.int .i64 0,.nils,.int .i64 0,.int .i64 0,.str []] (.t 58) (.t 60),none⟩,.ef []),⟨.i,[]⟩),qn 62 (.nck (.t 54)),qn 63 (.fad 13 (.t 62)),((⟨none,.st 1 (.t 63) (.t 61),none⟩,.ef []),⟨.n,[]⟩)]
def XZ:ze:=.seq (.dreg 1 [qn 9 (.mv (.t 1)),qn 10 (.mv (.t 0)),qn 11 (.nck (.t 10)),qn 12 (.fad 0 (.t 11)),qn 13 (.fad 0 (.t 12)),qn 14 (.ld (.t 13)),qn 15 (.mv (.t 2)),qn 16 (.mv (.t 0)),qn 17 (.nck (.t 16)),qn 18 (.fad 0 (.t 17)),qn 19 (.fad 1 (.t 18)),qn 20 (.ld (.t 19)),qn 21 (.mv (.t 3)),qn 22 (.build [.int .i64 0,.int .i64 0,.int .i64 0,.int .i64 0,.int .i64 0,.int .i64 0,.nils,.int .i64 0,.int .i64 0,.str []] [(0,1,.t 9),(1,1,.t 14),(2,1,.t 15),(3,1,.t 20),(7,1,.t 21)]),((⟨some 8,.newc [.int .i64 0,.int .i64 0,.int .i64 0,.int .i64 0,.int .i64 0,.int .i64 0,.nils,.int .i64 0,.int .i64 0,.str []],none⟩,.al 0),⟨.s 10,[]⟩),((⟨none,.st 10 (.t 8) (.t 22),none⟩,.ef []),⟨.n,[]⟩)]) (.seq (.seq (.reg [u_ 23 (.mv (.t 1)),u_ 24 (.bin .eql (.t 23) (.c (.int .i64 2))),u_ 25 (.mv (.t 24)),ug 26 25 false (.mv (.t 1)),ug 27 25 false (.bin .eql (.t 26) (.c (.int .i64 5))),u_ 28 (.pick (.t 25) (.c (.bool true)) (.t 27))]) (.cond (.t 28) (.fin (.dreg 0 [qn 29 (.mv (.t 0)),qn 30 (.nck (.t 29)),qn 31 (.fad 0 (.t 30)),qn 32 (.fad 7 (.t 31)),qn 33 (.ld (.t 32)),qn 34 (.mv (.t 0)),qn 35 (.nck (.t 34)),qn 36 (.fad 0 (.t 35)),qn 37 (.fad 2 (.t 36)),qn 38 (.ld (.t 37)),qn 39 (.mv (.t 0)),qn 40 (.nck (.t 39)),qn 41 (.fad 0 (.t 40)),qn 42 (.fad 8 (.t 41)),qn 43 (.ld (.t 42)),qn 44 (.bin .sub (.t 38) (.t 43)),qn 45 (.mv (.t 0)),qn 46 (.nck (.t 45)),qn 47 (.fad 0 (.t 46)),qn 48 (.fad 6 (.t 47)),qn 49 (.ld (.t 48)),qn 51 (.fad 4 (.t 8)),((⟨some 50,.call (.c (.fn 64 [] [])) [.t 49],none⟩,.ef [4,9,14]),⟨.n,[]⟩),((⟨none,.st 1 (.t 51) (.t 33),none⟩,.ef [9,14]),⟨.n,[]⟩),qn 52 (.fad 5 (.t 8)),((⟨none,.st 1 (.t 52) (.t 44),none⟩,.ef []),⟨.n,[]⟩),qn 53 (.fad 6 (.t 8)),((⟨none,.st 1 (.t 53) (.t 50),none⟩,.ef []),⟨.n,[]⟩)]) [] [] [0,8] [(8,8)]) (.fin .skip [] [] [0,8] [(8,8)]))) vX)
def qT:PFn:=⟨64,[],XZ,[],[]⟩
def yy:ze:=.fin (.reg [u_ 20 (.mv (.t 6)),u_ 21 (.bin .add (.t 20) (.c (.int .i64 1))),u_ 6 (.mv (.t 21))]) [] [] [0,1,5,6] [(0,0)]
def zt:ze:=.seq (.seq (.reg [u_ 16 (.mv (.t 6)),u_ 17 (.mv (.t 0)),u_ 18 (.len (.t 17)),u_ 19 (.bin .lss (.t 16) (.t 18))]) (.cond (.t 19) .skip (.keep [0,5] [(0,0)] (.exit 0)))) (.seq (.block 1 (.seq (.reg [u_ 22 (.mv (.t 0)),u_ 23 (.mv (.t 6)),u_ 24 (.iad 3 (.t 22) (.t 23)),u_ 25 (.ldn 3 (.t 24)),(⟨some 7,.newc [.int .i64 0,.int .i64 0,.int .i64 0],none⟩,⟨.s 3,[]⟩),(⟨none,.st 3 (.t 7) (.t 25),none⟩,⟨.n,[]⟩)]) (.seq (.reg [u_ 26 (.mv (.t 1)),u_ 27 (.ldn 3 (.t 7)),u_ 28 (.call (.t 26) [.t 27]),u_ 29 (.un .not (.t 28))]) (.fin (.cond (.t 29) (.seq (.reg [u_ 30 (.mv (.t 0)),u_ 31 (.mv (.t 5)),u_ 32 (.ldn 3 (.t 7)),u_ 33 (.iad 3 (.t 30) (.t 31)),(⟨none,.st 3 (.t 33) (.t 32),none⟩,⟨.n,[]⟩)]) (.fin (.reg [u_ 34 (.mv (.t 5)),u_ 35 (.bin .add (.t 34) (.c (.int .i64 1))),u_ 5 (.mv (.t 35))]) [] [] [0,1,5,6] [(0,0)])) (.fin .skip [] [] [0,1,5,6] [(0,0)])) [] [] [0,1,5,6] [(0,0)])))) yy)
def yz:ze:=.seq (.reg [u_ 36 (.mv (.t 0)),u_ 37 (.mv (.t 5)),(⟨some 38,.slc 3 (.t 36) (some (.t 37)) none none,none⟩,⟨.s 3,[]⟩),(⟨none,.clr 3 [.int .i64 0,.int .i64 0,.int .i64 0] (.t 38),none⟩,⟨.n,[]⟩)]) (.seq (.reg [u_ 39 (.mv (.t 0)),u_ 40 (.mv (.t 5)),(⟨some 41,.slc 3 (.t 39) none (some (.t 40)) none,none⟩,⟨.n,[39]⟩),u_ 4 (.mv (.t 41))]) .ret)
def qd:ze:=.seq (.reg [u_ 4 (.mv (.c .nils))]) (.seq (.reg [u_ 8 (.mv (.t 0)),u_ 9 (.mv (.t 1)),(⟨some 10,.call (.c (.fn 75 [] [])) [.t 8,.t 9],none⟩,⟨.l,[]⟩),u_ 5 (.mv (.t 10))]) (.seq (.seq (.reg [u_ 11 (.mv (.t 5)),u_ 12 (.bin .eql (.t 11) (.c (.int .i64 (-1))))]) (.cond (.t 12) (.seq (.reg [u_ 13 (.mv (.t 0)),u_ 4 (.mv (.t 13))]) .ret) .skip)) (.seq (.seq (.reg [u_ 14 (.mv (.t 5)),u_ 15 (.bin .add (.t 14) (.c (.int .i64 1))),u_ 6 (.mv (.t 15))]) (.block 0 (.keep [0,1,5,6] [(0,0)] (.loop zt)))) yz)))
def zK:PFn:=⟨42,[(0,3)],qd,[.tmp 4],[.f 3]⟩
def Kn:ze:=.seq (.reg [(⟨some 2,.box (.t 0),none⟩,⟨.s 3,[]⟩),u_ 3 (.mv (.c (.bool false)))]) (.seq (.reg [u_ 4 (.ld (.t 1)),u_ 5 (.fad 2 (.t 2)),u_ 6 (.ld (.t 5)),u_ 7 (.bin .sub (.t 4) (.t 6)),u_ 8 (.bin .gtr (.t 7) (.c (.int .i64 20))),u_ 3 (.mv (.t 8))]) .ret)
def jO:PFn:=⟨9,[],Kn,[.tmp 3],[.n]⟩
def z2c:ze:=.seq (.reg [(⟨some 4,.newc [.int .i64 0,.int .i64 0,.int .i64 0],none⟩,⟨.s 3,[]⟩),u_ 5 (.mv (.c (.bool false)))]) (.seq (.reg [u_ 9 (.mv (.t 0)),u_ 10 (.mv (.t 1)),u_ 11 (.call (.c (.fn 76 [] [])) [.t 9,.t 10]),u_ 8 (.mv (.t 11)),u_ 12 (.ext (.t 8) 0),u_ 13 (.ext (.t 8) 1),u_ 6 (.mv (.t 12)),u_ 7 (.mv (.t 13))]) (.seq (.seq (.reg [u_ 14 (.mv (.t 7)),u_ 15 (.un .not (.t 14))]) (.cond (.t 15) (.seq (.reg [u_ 16 (.build [.int .i64 0,.int .i64 0,.int .i64 0] []),(⟨none,.st 3 (.t 4) (.t 16),none⟩,⟨.n,[]⟩),u_ 5 (.mv (.c (.bool false)))]) .ret) .skip)) (.seq (.reg [u_ 17 (.mv (.t 0)),u_ 18 (.mv (.t 6)),u_ 19 (.iad 3 (.t 17) (.t 18)),u_ 20 (.ldn 3 (.t 19)),(⟨none,.st 3 (.t 4) (.t 20),none⟩,⟨.n,[]⟩),u_ 5 (.mv (.c (.bool true)))]) .ret)))
def Z2:PFn:=⟨21,[],z2c,[.cell 4 (some 3),.tmp 5],[.n,.n]⟩
def Z3:ze:=.seq (.reg [u_ 15 (.mv (.t 0)),u_ 16 (.nck (.t 15)),u_ 17 (.fad 0 (.t 16)),u_ 18 (.fad 12 (.t 17)),u_ 19 (.ld (.t 18)),u_ 20 (.mv (.t 1)),u_ 21 (.call (.c (.fn 68 [] [])) [.t 19,.t 20]),u_ 14 (.mv (.t 21)),u_ 22 (.ext (.t 14) 0),u_ 23 (.ext (.t 14) 1),(⟨some 6,.newc [.int .i64 0,.int .i64 0,.int .i64 0],none⟩,⟨.s 3,[]⟩),(⟨none,.st 3 (.t 6) (.t 22),none⟩,⟨.n,[]⟩),u_ 7 (.mv (.t 23))]) (.seq (.reg [u_ 24 (.mv (.t 0)),u_ 25 (.nck (.t 24)),u_ 26 (.fad 0 (.t 25)),u_ 27 (.ldn 13 (.t 26)),u_ 28 (.call (.c (.fn 25 [] [])) [.t 27]),u_ 29 (.mv (.t 28)),ug 30 29 true (.mv (.t 0)),ug 31 29 true (.nck (.t 30)),ug 32 29 true (.fad 0 (.t 31)),ug 33 29 true (.fad 6 (.t 32)),ug 34 29 true (.ld (.t 33)),ug 35 29 true (.mv (.t 1)),ug 36 29 true (.call (.c (.fn 77 [] [])) [.t 34,.t 35]),ug 37 29 true (.un .not (.t 36)),u_ 38 (.pick (.t 29) (.t 37) (.c (.bool false))),u_ 39 (.mv (.t 38)),ug 40 39 true (.mv (.t 7)),ug 41 39 true (.mv (.t 40)),ug 42 41 false (.mv (.t 0)),ug 43 41 false (.nck (.t 42)),ug 44 41 false (.fad 0 (.t 43)),ug 45 41 false (.fad 12 (.t 44)),ug 46 41 false (.ld (.t 45)),ug 47 41 false (.len (.t 46)),ug 48 41 false (.mv (.t 5)),ug 49 41 false (.bin .lss (.t 47) (.t 48)),ug 50 39 true (.pick (.t 41) (.c (.bool true)) (.t 49)),u_ 51 (.pick (.t 39) (.t 50) (.c (.bool false))),u_ 4 (.mv (.t 51))]) .ret)
def JL:ze:=.seq (.reg [u_ 4 (.mv (.c (.bool false)))]) (.seq (.reg [u_ 5 (.mv (.c (.int .i64 3)))]) (.seq (.seq (.reg [u_ 8 (.mv (.t 0)),u_ 9 (.nck (.t 8)),u_ 10 (.fad 0 (.t 9)),u_ 11 (.fad 0 (.t 10)),u_ 12 (.ld (.t 11)),u_ 13 (.bin .eql (.t 12) (.c (.int .i64 1)))]) (.cond (.t 13) (.fin (.reg [u_ 5 (.mv (.c (.int .i64 8)))]) [] [] [0,1,5] []) (.fin .skip [] [] [0,1,5] []))) Z3))
def jx:PFn:=⟨52,[],JL,[.tmp 4],[.n]⟩
def Q9:ze:=.seq (.reg [(⟨some 3,.box (.t 1),none⟩,⟨.s 10,[]⟩)]) (.dreg 0 [qn 5 (.mv (.t 0)),qn 6 (.mv (.t 0)),qn 7 (.nck (.t 6)),qn 8 (.fad 0 (.t 7)),qn 9 (.fad 12 (.t 8)),qn 10 (.ld (.t 9)),qn 11 (.fad 1 (.t 3)),qn 12 (.ld (.t 11)),qn 13 (.fad 3 (.t 3)),qn 14 (.ld (.t 13)),qn 15 (.mv (.t 0)),qn 16 (.nck (.t 15)),qn 17 (.fad 0 (.t 16)),qn 18 (.fad 2 (.t 17)),qn 19 (.ld (.t 18)),qn 20 (.build [.int .i64 0,.int .i64 0,.int .i64 0] [(0,1,.t 12),(1,1,.t 14),(2,1,.t 19)]),((⟨some 21,.call (.c (.fn 78 [] [])) [.t 10,.t 20],none⟩,.ef []),⟨.n,[]⟩),qn 4 (.mv (.t 21)),qn 22 (.ext (.t 4) 0),qn 23 (.ext (.t 4) 1),qn 24 (.nck (.t 5)),qn 25 (.fad 0 (.t 24)),qn 26 (.fad 12 (.t 25)),((⟨none,.st 1 (.t 26) (.t 22),none⟩,.ef []),⟨.n,[]⟩)])
def qU:PFn:=⟨27,[],Q9,[],[]⟩
def z3n:ze:=.seq (.reg [u_ 4 (.mv (.c .nils)),u_ 5 (.mv (.c (.bool false)))]) (.seq (.reg [u_ 7 (.mv (.t 0)),(⟨some 8,.call (.c (.fn 64 [] [])) [.t 7],none⟩,⟨.s 1,[]⟩),u_ 9 (.mv (.t 1)),(⟨some 10,.bsl 1 [.int .i64 0] 1 [(0,1,.t 9)],none⟩,⟨.f,[]⟩),(⟨some 11,.app 1 8 [.int .i64 0] (.t 8) (.t 10),none⟩,⟨.s 1,[]⟩),u_ 6 (.mv (.t 11))]) (.seq (.seq (.reg [u_ 12 (.mv (.t 6)),(⟨some 13,.call (.c (.fn 79 [] [])) [.t 12],none⟩,⟨.l,[]⟩),u_ 14 (.un .not (.t 13))]) (.cond (.t 14) (.seq (.reg [u_ 4 (.mv (.c .nils)),u_ 5 (.mv (.c (.bool false)))]) .ret) .skip)) (.seq (.reg [u_ 15 (.mv (.t 6)),u_ 4 (.mv (.t 15)),u_ 5 (.mv (.c (.bool true)))]) .ret)))
def ZT:PFn:=⟨16,[],z3n,[.tmp 4,.tmp 5],[.f 1,.n]⟩
def Ko:ze:=.seq (.reg [(⟨some 4,.box (.t 1),none⟩,⟨.s 10,[]⟩)]) (.seq (.reg [u_ 6 (.mv (.t 0)),u_ 7 (.mv (.t 0)),u_ 8 (.mv (.t 2)),u_ 9 (.fad 6 (.t 4)),u_ 10 (.ld (.t 9)),u_ 11 (.call (.c (.fn 80 [] [])) [.t 10]),u_ 12 (.nck (.t 6)),u_ 13 (.fad 0 (.t 12)),u_ 14 (.fad 6 (.t 13)),(⟨none,.st 1 (.t 14) (.t 8),none⟩,⟨.n,[]⟩),u_ 15 (.nck (.t 7)),u_ 16 (.fad 0 (.t 15)),u_ 17 (.fad 5 (.t 16)),(⟨none,.st 1 (.t 17) (.t 11),none⟩,⟨.n,[]⟩)]) (.seq (.reg [u_ 18 (.mv (.t 0)),u_ 19 (.nck (.t 18)),u_ 20 (.fad 0 (.t 19)),u_ 21 (.fad 5 (.t 20)),u_ 22 (.ld (.t 21)),u_ 23 (.bin .eql (.t 22) (.c (.int .i64 0)))]) (.cond (.t 23) (.fin (.reg [u_ 24 (.mv (.t 0)),u_ 25 (.nck (.t 24)),u_ 26 (.fad 0 (.t 25)),u_ 27 (.fad 5 (.t 26)),(⟨none,.st 1 (.t 27) (.c (.int .i64 1)),none⟩,⟨.n,[]⟩)]) [] [] [] []) (.fin .skip [] [] [] []))))
def jP:PFn:=⟨28,[],Ko,[],[]⟩
def VL:ze:=.seq (.reg [(⟨some 2,.box (.t 0),none⟩,⟨.s 3,[]⟩),u_ 3 (.mv (.c (.bool false)))]) (.seq (.reg [u_ 4 (.fad 0 (.t 2)),u_ 5 (.ld (.t 4)),u_ 6 (.ld (.t 1)),u_ 7 (.bin .eql (.t 5) (.t 6)),u_ 3 (.mv (.t 7))]) .ret)
def kO:PFn:=⟨8,[],VL,[.tmp 3],[.n]⟩
def YM:ze:=.seq (.reg [u_ 2 (.mv (.c (.int .i64 0)))]) (.seq (.seq (.reg [u_ 3 (.mv (.t 0)),u_ 4 (.len (.t 3)),u_ 5 (.bin .lss (.t 4) (.c (.int .i64 2)))]) (.cond (.t 5) (.seq (.reg [u_ 2 (.mv (.c (.int .i64 0)))]) .ret) .skip)) (.seq (.reg [u_ 6 (.mv (.t 0)),u_ 7 (.mv (.t 0)),u_ 8 (.len (.t 7)),u_ 9 (.bin .sub (.t 8) (.c (.int .i64 2))),u_ 10 (.iad 1 (.t 6) (.t 9)),u_ 11 (.ld (.t 10)),u_ 2 (.mv (.t 11))]) .ret))
def xX:PFn:=⟨12,[],YM,[.tmp 2],[.n]⟩
def zu:ze:=.seq (.reg [u_ 9 (.bin .lss (.t 8) (.t 7))]) (.seq (.cond (.t 9) .skip (.keep [] [] (.exit 0))) (.seq (.block 1 (.seq (.reg [u_ 10 (.mv (.t 8)),u_ 5 (.mv (.t 10))]) (.seq (.reg [u_ 11 (.mv (.t 1)),u_ 12 (.mv (.t 0)),u_ 13 (.mv (.t 5)),u_ 14 (.iad 3 (.t 12) (.t 13)),u_ 15 (.ldn 3 (.t 14)),u_ 16 (.call (.t 11) [.t 15])]) (.cond (.t 16) (.seq (.reg [u_ 17 (.mv (.t 5)),u_ 4 (.mv (.t 17))]) (.keep [4] [] .ret)) .skip)))) (.fin (.reg [u_ 18 (.bin .add (.t 8) (.c (.int .i64 1))),u_ 8 (.mv (.t 18))]) [] [] [0,1,7,8] [])))
def yI:ze:=.seq (.reg [u_ 4 (.mv (.c (.int .i64 (-1))))]) .ret
def qx:ze:=.seq (.reg [u_ 4 (.mv (.c (.int .i64 0)))]) (.seq (.seq (.reg [u_ 6 (.mv (.t 0)),u_ 7 (.len (.t 6)),u_ 8 (.mv (.c (.int .i64 0)))]) (.block 0 (.keep [0,1,7,8] [] (.loop zu)))) yI)
def zL:PFn:=⟨19,[],qx,[.tmp 4],[.n]⟩
def z06:ze:=.seq (.reg [u_ 4 (.mv (.c (.int .i64 0))),u_ 5 (.mv (.c (.bool false)))]) (.seq (.reg [u_ 6 (.mv (.t 0)),u_ 7 (.mv (.t 1)),u_ 8 (.call (.c (.fn 81 [] [])) [.t 6,.t 7,.c (.fn 82 [] [])]),u_ 9 (.ext (.t 8) 0),u_ 10 (.ext (.t 8) 1),u_ 4 (.mv (.t 9)),u_ 5 (.mv (.t 10))]) .ret)
def vz:PFn:=⟨11,[],z06,[.tmp 4,.tmp 5],[.n,.n]⟩
def z3o:ze:=.seq (.reg [u_ 4 (.mv (.c (.bool false)))]) (.seq (.reg [u_ 5 (.mv (.t 0)),u_ 6 (.mv (.t 1)),u_ 7 (.call (.c (.fn 84 [] [])) [.t 5,.t 6]),u_ 4 (.mv (.t 7))]) .ret)
def ZU:PFn:=⟨8,[],z3o,[.tmp 4],[.n]⟩
def z2d:ze:=.seq (.reg [(⟨some 3,.box (.t 1),none⟩,⟨.s 3,[]⟩),u_ 4 (.mv (.c .nils)),u_ 5 (.mv (.c (.bool false)))]) (.seq (.reg [u_ 9 (.mv (.t 0)),(⟨some 10,.call (.c (.fn 65 [] [])) [.t 9],none⟩,⟨.s 3,[]⟩),u_ 6 (.mv (.t 10))]) (.seq (.seq (.reg [u_ 11 (.mv (.t 0)),u_ 12 (.fad 0 (.t 3)),u_ 13 (.ld (.t 12)),u_ 14 (.fad 1 (.t 3)),u_ 15 (.ld (.t 14)),u_ 16 (.call (.c (.fn 48 [] [])) [.t 11,.t 13,.t 15])]) (.cond (.t 16) (.seq (.reg [u_ 17 (.mv (.t 6)),u_ 4 (.mv (.t 17)),u_ 5 (.mv (.c (.bool false)))]) .ret) .skip)) (.seq (.reg [u_ 19 (.mv (.t 0)),u_ 20 (.fad 0 (.t 3)),u_ 21 (.ld (.t 20)),u_ 22 (.call (.c (.fn 76 [] [])) [.t 19,.t 21]),u_ 18 (.mv (.t 22)),u_ 23 (.ext (.t 18) 0),u_ 24 (.ext (.t 18) 1),u_ 7 (.mv (.t 23)),u_ 8 (.mv (.t 24))]) (.seq (.seq (.reg [u_ 25 (.mv (.t 8))]) (.cond (.t 25) (.seq (.reg [u_ 26 (.mv (.t 6)),u_ 27 (.mv (.t 7)),u_ 28 (.ldn 3 (.t 3)),u_ 29 (.iad 3 (.t 26) (.t 27)),(⟨none,.st 3 (.t 29) (.t 28),none⟩,⟨.n,[]⟩)]) (.seq (.reg [u_ 30 (.mv (.t 6)),u_ 4 (.mv (.t 30)),u_ 5 (.mv (.c (.bool true)))]) .ret)) .skip)) (.seq (.reg [u_ 31 (.mv (.t 6)),u_ 32 (.mv (.t 7)),u_ 33 (.ldn 3 (.t 3)),(⟨some 34,.bsl 3 [.int .i64 0,.int .i64 0,.int .i64 0] 1 [(0,3,.t 33)],none⟩,⟨.i,[]⟩),(⟨some 35,.call (.c (.fn 85 [] [])) [.t 31,.t 32,.t 34],none⟩,⟨.t 3,[]⟩),u_ 4 (.mv (.t 35)),u_ 5 (.mv (.c (.bool true)))]) .ret)))))
def Z4:PFn:=⟨36,[],z2d,[.tmp 4,.tmp 5],[.f 3,.n]⟩
def z3p:ze:=.seq (.reg [u_ 2 (.mv (.c (.bool false)))]) (.seq (.reg [u_ 6 (.mv (.t 0)),u_ 7 (.call (.c (.fn 86 [] [])) [.t 6]),u_ 8 (.tas 101 (.agg [.int .i64 0]) true (.t 7)),u_ 5 (.mv (.t 8)),u_ 9 (.ext (.t 5) 0),u_ 10 (.ext (.t 5) 1),(⟨some 3,.newc [.int .i64 0],none⟩,⟨.s 1,[]⟩),(⟨none,.st 1 (.t 3) (.t 9),none⟩,⟨.n,[]⟩),u_ 4 (.mv (.t 10))]) (.seq (.reg [u_ 11 (.mv (.t 4)),u_ 12 (.un .not (.t 11)),u_ 2 (.mv (.t 12))]) .ret))
def ZV:PFn:=⟨13,[],z3p,[.tmp 2],[.n]⟩
def z07:ze:=.seq (.reg [u_ 2 (.mv (.c (.int .i64 0)))]) (.seq (.seq (.reg [u_ 3 (.mv (.t 0)),u_ 4 (.len (.t 3)),u_ 5 (.bin .lss (.t 4) (.c (.int .i64 2)))]) (.cond (.t 5) (.seq (.reg [u_ 2 (.mv (.c (.int .i64 0)))]) .ret) .skip)) (.seq (.reg [u_ 6 (.mv (.t 0)),u_ 7 (.mv (.t 0)),u_ 8 (.len (.t 7)),u_ 9 (.bin .sub (.t 8) (.c (.int .i64 2))),u_ 10 (.iad 1 (.t 6) (.t 9)),u_ 11 (.ld (.t 10)),u_ 2 (.mv (.t 11))]) .ret))
def vA:PFn:=⟨12,[],z07,[.tmp 2],[.n]⟩
def zo:ze:=.seq (.seq (.reg [u_ 15 (.mv (.t 9)),u_ 16 (.mv (.t 10)),u_ 17 (.bin .lss (.t 15) (.t 16))]) (.cond (.t 17) .skip (.keep [0,1,2,8,9] [] (.exit 0)))) (.fin (.block 1 (.seq (.reg [u_ 18 (.mv (.t 9)),u_ 19 (.mv (.t 10)),u_ 20 (.bin .add (.t 18) (.t 19)),u_ 21 (.cvi .u64 (.t 20)),u_ 22 (.bin .shr (.t 21) (.c (.int .u64 1))),u_ 23 (.cvi .i64 (.t 22)),u_ 11 (.mv (.t 23))]) (.seq (.reg [u_ 24 (.mv (.t 2)),u_ 25 (.mv (.t 0)),u_ 26 (.mv (.t 11)),u_ 27 (.iad 3 (.t 25) (.t 26)),u_ 28 (.ldn 3 (.t 27)),u_ 29 (.mv (.t 1)),u_ 30 (.call (.t 24) [.t 28,.t 29]),u_ 31 (.bin .lss (.t 30) (.c (.int .i64 0)))]) (.fin (.cond (.t 31) (.fin (.reg [u_ 32 (.mv (.t 11)),u_ 33 (.bin .add (.t 32) (.c (.int .i64 1))),u_ 9 (.mv (.t 33))]) [] [] [0,1,2,8,9,10] []) (.fin (.reg [u_ 34 (.mv (.t 11)),u_ 10 (.mv (.t 34))]) [] [] [0,1,2,8,9,10] [])) [] [] [0,1,2,8,9,10] [])))) [] [] [0,1,2,8,9,10] [])
def zR:ze:=.seq (.reg [u_ 35 (.mv (.t 9)),u_ 36 (.mv (.t 9)),u_ 37 (.mv (.t 8)),u_ 38 (.bin .lss (.t 36) (.t 37)),u_ 39 (.mv (.t 38)),ug 40 39 true (.mv (.t 2)),ug 41 39 true (.mv (.t 0)),ug 42 39 true (.mv (.t 9)),ug 43 39 true (.iad 3 (.t 41) (.t 42)),ug 44 39 true (.ldn 3 (.t 43)),ug 45 39 true (.mv (.t 1)),ug 46 39 true (.call (.t 40) [.t 44,.t 45]),ug 47 39 true (.bin .eql (.t 46) (.c (.int .i64 0))),u_ 48 (.pick (.t 39) (.t 47) (.c (.bool false))),u_ 6 (.mv (.t 35)),u_ 7 (.mv (.t 48))]) .ret
def yR:ze:=.seq (.reg [u_ 6 (.mv (.c (.int .i64 0))),u_ 7 (.mv (.c (.bool false)))]) (.seq (.reg [u_ 12 (.mv (.t 0)),u_ 13 (.len (.t 12)),u_ 8 (.mv (.t 13))]) (.seq (.reg [u_ 14 (.mv (.t 8)),u_ 9 (.mv (.c (.int .i64 0))),u_ 10 (.mv (.t 14))]) (.seq (.block 0 (.keep [0,1,2,8,9,10] [] (.loop zo))) zR)))
def zx:PFn:=⟨49,[],yR,[.tmp 6,.tmp 7],[.n,.n]⟩
def Kp:ze:=.seq (.reg [(⟨some 2,.box (.t 0),none⟩,⟨.s 3,[]⟩),u_ 4 (.mv (.c (.int .i64 0)))]) (.seq (.reg [u_ 5 (.fad 0 (.t 2)),u_ 6 (.ld (.t 5)),u_ 7 (.mv (.t 1)),u_ 8 (.call (.c (.fn 83 [] [])) [.t 6,.t 7]),u_ 4 (.mv (.t 8))]) .ret)
def jQ:PFn:=⟨9,[],Kp,[.tmp 4],[.n]⟩
def Xp:ze:=.seq (.reg [u_ 4 (.mv (.c (.int .i64 0)))]) (.seq (.reg [u_ 7 (.mv (.t 0)),u_ 8 (.call (.c (.fn 87 [] [])) [.t 7]),u_ 5 (.mv (.t 8))]) (.seq (.reg [u_ 9 (.mv (.t 1)),u_ 10 (.call (.c (.fn 87 [] [])) [.t 9]),u_ 6 (.mv (.t 10))]) (.seq (.seq (.reg [u_ 11 (.mv (.t 5))]) (.cond (.t 11) (.seq (.seq (.reg [u_ 12 (.mv (.t 6))]) (.cond (.t 12) (.seq (.reg [u_ 4 (.mv (.c (.int .i64 0)))]) .ret) .skip)) (.seq (.reg [u_ 4 (.mv (.c (.int .i64 (-1))))]) .ret)) .skip)) (.seq (.seq (.reg [u_ 13 (.mv (.t 6))]) (.cond (.t 13) (.seq (.reg [u_ 4 (.mv (.c (.int .i64 1)))]) .ret) .skip)) (.seq (.seq (.reg [u_ 14 (.mv (.t 0)),u_ 15 (.mv (.t 1)),u_ 16 (.bin .lss (.t 14) (.t 15))]) (.cond (.t 16) (.seq (.reg [u_ 4 (.mv (.c (.int .i64 (-1))))]) .ret) .skip)) (.seq (.seq (.reg [u_ 17 (.mv (.t 0)),u_ 18 (.mv (.t 1)),u_ 19 (.bin .gtr (.t 17) (.t 18))]) (.cond (.t 19) (.seq (.reg [u_ 4 (.mv (.c (.int .i64 1)))]) .ret) .skip)) (.seq (.reg [u_ 4 (.mv (.c (.int .i64 0)))]) .ret)))))))
def qy:PFn:=⟨20,[],Xp,[.tmp 4],[.n]⟩
def vc:ze:=.seq (.reg [u_ 4 (.mv (.c (.bool false)))]) (.seq (.reg [u_ 5 (.mv (.t 0)),u_ 6 (.mv (.t 1)),u_ 7 (.call (.c (.fn 88 [] [])) [.t 5,.t 6]),u_ 8 (.bin .geq (.t 7) (.c (.int .i64 0))),u_ 4 (.mv (.t 8))]) .ret)
def yr:PFn:=⟨9,[],vc,[.tmp 4],[.n]⟩
def j6:ze:=.seq (.reg [u_ 24 (.bin .lss (.t 23) (.t 22))]) (.seq (.cond (.t 24) .skip (.keep [] [] (.exit 0))) (.seq (.block 1 (.seq (.reg [u_ 25 (.mv (.t 23)),u_ 26 (.iad 1 (.t 21) (.t 23)),u_ 27 (.ld (.t 26)),u_ 3 (.mv (.t 25)),u_ 4 (.mv (.t 27))]) (.seq (.reg [u_ 28 (.mv (.t 4)),u_ 29 (.bin .lss (.t 28) (.c (.int .i64 1))),u_ 30 (.mv (.t 29)),ug 31 30 false (.mv (.t 4)),ug 32 30 false (.bin .gtr (.t 31) (.c (.int .i64 8))),u_ 33 (.pick (.t 30) (.c (.bool true)) (.t 32)),u_ 34 (.mv (.t 33)),ug 35 34 false (.mv (.t 0)),ug 36 34 false (.mv (.t 3)),ug 37 34 false (.slc 1 (.t 35) none (some (.t 36)) none),ug 38 34 false (.mv (.t 4)),ug 39 34 false (.call (.c (.fn 84 [] [])) [.t 37,.t 38]),u_ 40 (.pick (.t 34) (.c (.bool true)) (.t 39))]) (.cond (.t 40) (.seq (.reg [u_ 41 (.mv (.t 3)),u_ 42 (.build [.int .i64 0] [(0,1,.t 41)]),u_ 43 (.mki 101 (.t 42)),u_ 2 (.mv (.t 43))]) (.keep [2] [] .ret)) .skip)))) (.fin (.reg [u_ 44 (.bin .add (.t 23) (.c (.int .i64 1))),u_ 23 (.mv (.t 44))]) [] [] [0,21,22,23] [])))
def XA:ze:=.seq (.reg [u_ 2 (.mv (.c .nilifc))]) .ret
def z2e:ze:=.seq (.reg [u_ 2 (.mv (.c .nilifc))]) (.seq (.seq (.reg [u_ 5 (.mv (.t 0)),u_ 6 (.len (.t 5)),u_ 7 (.bin .lss (.t 6) (.c (.int .i64 1))),u_ 8 (.mv (.t 7)),ug 9 8 false (.mv (.t 0)),ug 10 8 false (.len (.t 9)),ug 11 8 false (.bin .gtr (.t 10) (.c (.int .i64 10))),u_ 12 (.pick (.t 8) (.c (.bool true)) (.t 11)),u_ 13 (.mv (.t 12)),ug 14 13 false (.mv (.t 0)),ug 15 13 false (.iad 1 (.t 14) (.c (.int .i64 0))),ug 16 13 false (.ld (.t 15)),ug 17 13 false (.bin .neq (.t 16) (.c (.int .i64 1))),u_ 18 (.pick (.t 13) (.c (.bool true)) (.t 17))]) (.cond (.t 18) (.seq (.reg [u_ 19 (.build [.int .i64 0] []),u_ 20 (.mki 101 (.t 19)),u_ 2 (.mv (.t 20))]) .ret) .skip)) (.seq (.seq (.reg [u_ 21 (.mv (.t 0)),u_ 22 (.len (.t 21)),u_ 23 (.mv (.c (.int .i64 0)))]) (.block 0 (.keep [0,21,22,23] [] (.loop j6)))) XA))
def Z5:PFn:=⟨45,[],z2e,[.tmp 2],[.n]⟩
def JM:ze:=.seq (.reg [u_ 2 (.mv (.c (.bool false)))]) (.seq (.reg [u_ 3 (.mv (.t 0)),u_ 4 (.mv (.t 0)),u_ 5 (.bin .neq (.t 3) (.t 4)),u_ 2 (.mv (.t 5))]) .ret)
def jy:PFn:=⟨6,[],JM,[.tmp 2],[.n]⟩
def zV:ze:=.seq (.reg [u_ 9 (.bin .lss (.t 8) (.t 7))]) (.seq (.cond (.t 9) .skip (.keep [] [] (.exit 0))) (.seq (.block 1 (.seq (.reg [u_ 10 (.mv (.t 8)),u_ 5 (.mv (.t 10))]) (.seq (.reg [u_ 11 (.mv (.t 1)),u_ 12 (.mv (.t 0)),u_ 13 (.mv (.t 5)),u_ 14 (.iad 1 (.t 12) (.t 13)),u_ 15 (.ld (.t 14)),u_ 16 (.bin .eql (.t 11) (.t 15))]) (.cond (.t 16) (.seq (.reg [u_ 17 (.mv (.t 5)),u_ 4 (.mv (.t 17))]) (.keep [4] [] .ret)) .skip)))) (.fin (.reg [u_ 18 (.bin .add (.t 8) (.c (.int .i64 1))),u_ 8 (.mv (.t 18))]) [] [] [0,1,7,8] [])))
def j7:ze:=.seq (.reg [u_ 4 (.mv (.c (.int .i64 (-1))))]) .ret
def Z6:ze:=.seq (.reg [u_ 4 (.mv (.c (.int .i64 0)))]) (.seq (.seq (.reg [u_ 6 (.mv (.t 0)),u_ 7 (.len (.t 6)),u_ 8 (.mv (.c (.int .i64 0)))]) (.block 0 (.keep [0,1,7,8] [] (.loop zV)))) j7)
def x1:PFn:=⟨19,[],Z6,[.tmp 4],[.n]⟩
set_option maxRecDepth 100000
def ZW:AFn:=⟨82,.seq (.reg [⟨some 0,.mv (.c (.bool false)),none⟩]) (.seq (.reg [⟨some 7,.call (.c (.fn 14 [] [])) [.c (.int (.i64) 3),.c (.int (.i64) 1),.c (.int .i64 0),.c (.int (.i64) 2)],none⟩,⟨some 8,.call (.c (.fn 18 [] [])) [.t 7],none⟩,⟨some 6,.mv (.t 8),none⟩,⟨some 9,.ext (.t 6) 0,none⟩,⟨some 10,.ext (.t 6) 1,none⟩,⟨some 1,.newc [.int .i64 0,.int .i64 0,.int .i64 0,.int .i64 0,.int .i64 0,.int .i64 0,.nils,.int .i64 0,.int .i64 0,.int .i64 0,.int .i64 0,.int .i64 0,.nils],none⟩,⟨none,.st 13 (.t 1) (.t 9),none⟩,⟨some 2,.mv (.t 10),none⟩]) (.seq (.reg [⟨some 12,.ldn 13 (.t 1),none⟩,⟨some 13,.bsl 1 [.int .i64 0] 2 [(0,1,.c (.int (.i64) 1)),(1,1,.c (.int (.i64) 2))],none⟩,⟨some 14,.build [.int .i64 0,.int .i64 0,.int .i64 0,.int .i64 0,.int .i64 0,.int .i64 0,.nils,.int .i64 0,.int .i64 0,.str []] [(0,1,.c (.int (.i64) 2)),(1,1,.c (.int (.i64) 2)),(2,1,.c (.int (.i64) 3)),(3,1,.c (.int (.i64) 1)),(4,1,.c (.int (.i64) 4)),(5,1,.c (.int (.i64) 1)),(6,1,.t 13),(7,1,.c (.int (.i64) 1))],none⟩,⟨some 15,.call (.c (.fn 22 [] [])) [.t 12,.t 14,.c (.int (.i64) 1)],none⟩,⟨some 11,.mv (.t 15),none⟩,⟨some 16,.ext (.t 11) 0,none⟩,⟨some 17,.ext (.t 11) 1,none⟩,⟨some 3,.newc [.int .i64 0,.int .i64 0,.int .i64 0,.int .i64 0,.int .i64 0,.int .i64 0,.nils,.int .i64 0,.int .i64 0,.int .i64 0,.int .i64 0,.int .i64 0,.nils],none⟩,⟨none,.st 13 (.t 3) (.t 16),none⟩,⟨some 4,.mv (.t 17),none⟩]) (.seq (.reg [⟨some 18,.call (.c (.fn 14 [] [])) [.c (.int (.i64) 1),.c (.int (.i64) 1),.c (.int .i64 0),.c (.int .i64 0)],none⟩,⟨some 5,.newc [.int .i64 0,.int .i64 0,.int .i64 0,.int .i64 0,.int .i64 0,.int .i64 0,.nils,.int .i64 0,.int .i64 0,.int .i64 0,.int .i64 0,.int .i64 0,.nils],none⟩,⟨none,.st 13 (.t 5) (.t 18),none⟩]) (.seq (.reg [⟨some 19,.mv (.t 2),none⟩,⟨some 20,.len (.t 19),none⟩,⟨some 21,.bin (.eql) (.t 20) (.c (.int (.i64) 1)),none⟩,⟨some 22,.mv (.t 21),none⟩,⟨some 23,.mv (.t 2),some (22,true)⟩,⟨some 24,.iad 10 (.t 23) (.c (.int .i64 0)),some (22,true)⟩,⟨some 25,.fad 0 (.t 24),some (22,true)⟩,⟨some 26,.ld (.t 25),some (22,true)⟩,⟨some 27,.bin (.eql) (.t 26) (.c (.int (.i64) 1)),some (22,true)⟩,⟨some 28,.pick (.t 22) (.t 27) (.c (.bool false)),none⟩,⟨some 29,.mv (.t 28),none⟩,⟨some 30,.mv (.t 2),some (29,true)⟩,⟨some 31,.iad 10 (.t 30) (.c (.int .i64 0)),some (29,true)⟩,⟨some 32,.fad 2 (.t 31),some (29,true)⟩,⟨some 33,.ld (.t 32),some (29,true)⟩,⟨some 34,.bin (.eql) (.t 33) (.c (.int (.i64) 2)),some (29,true)⟩,⟨some 35,.pick (.t 29) (.t 34) (.c (.bool false)),none⟩,⟨some 36,.mv (.t 35),none⟩,⟨some 37,.fad 9 (.t 1),some (36,true)⟩,⟨some 38,.ld (.t 37),some (36,true)⟩,⟨some 39,.bin (.eql) (.t 38) (.c (.int (.i64) 2)),some (36,true)⟩,⟨some 40,.pick (.t 36) (.t 39) (.c (.bool false)),none⟩,⟨some 41,.mv (.t 40),none⟩,⟨some 42,.fad 3 (.t 3),some (41,true)⟩,⟨some 43,.ld (.t 42),some (41,true)⟩,⟨some 44,.bin (.eql) (.t 43) (.c (.int (.i64) 2)),some (41,true)⟩,⟨some 45,.pick (.t 41) (.t 44) (.c (.bool false)),none⟩,⟨some 46,.mv (.t 45),none⟩,⟨some 47,.fad 6 (.t 3),some (46,true)⟩,⟨some 48,.ld (.t 47),some (46,true)⟩,⟨some 49,.len (.t 48),some (46,true)⟩,⟨some 50,.bin (.eql) (.t 49) (.c (.int (.i64) 3)),some (46,true)⟩,⟨some 51,.pick (.t 46) (.t 50) (.c (.bool false)),none⟩,⟨some 52,.mv (.t 51),none⟩,⟨some 53,.mv (.t 4),some (52,true)⟩,⟨some 54,.len (.t 53),some (52,true)⟩,⟨some 55,.bin (.eql) (.t 54) (.c (.int .i64 0)),some (52,true)⟩,⟨some 56,.pick (.t 52) (.t 55) (.c (.bool false)),none⟩,⟨some 57,.mv (.t 56),none⟩,⟨some 58,.ldn 13 (.t 3),some (57,true)⟩,⟨some 59,.call (.c (.fn 25 [] [])) [.t 58],some (57,true)⟩,⟨some 60,.pick (.t 57) (.t 59) (.c (.bool false)),none⟩,⟨some 61,.mv (.t 60),none⟩,⟨some 62,.ldn 13 (.t 5),some (61,true)⟩,⟨some 63,.call (.c (.fn 25 [] [])) [.t 62],some (61,true)⟩,⟨some 64,.pick (.t 61) (.t 63) (.c (.bool false)),none⟩,⟨some 65,.mv (.t 64),none⟩,⟨some 66,.ldn 13 (.t 1),some (65,true)⟩,⟨some 67,.call (.c (.fn 25 [] [])) [.t 66],some (65,true)⟩,⟨some 68,.un (.not) (.t 67),some (65,true)⟩,⟨some 69,.pick (.t 65) (.t 68) (.c (.bool false)),none⟩,⟨some 70,.mv (.t 69),none⟩,⟨some 71,.fad 6 (.t 5),some (70,true)⟩,⟨some 72,.ld (.t 71),some (70,true)⟩,⟨some 73,.len (.t 72),some (70,true)⟩,⟨some 74,.bin (.eql) (.t 73) (.c (.int (.i64) 1)),some (70,true)⟩,⟨some 75,.pick (.t 70) (.t 74) (.c (.bool false)),none⟩,⟨some 76,.mv (.t 75),none⟩,⟨some 77,.ldn 13 (.t 3),some (76,true)⟩,⟨some 78,.call (.c (.fn 27 [] [])) [.t 77],some (76,true)⟩,⟨some 79,.len (.t 78),some (76,true)⟩,⟨some 80,.bin (.eql) (.t 79) (.c (.int (.i64) 1)),some (76,true)⟩,⟨some 81,.pick (.t 76) (.t 80) (.c (.bool false)),none⟩,⟨some 0,.mv (.t 81),none⟩]) (.ret))))),[.tmp 0]⟩
def ww:AFn:=⟨8,.seq (.reg [⟨some 2,.mv (.c (.nils)),none⟩]) (.seq (.seq (.reg [⟨some 3,.mv (.t 0),none⟩,⟨some 4,.eqn false 0 (.t 3),none⟩]) (.cond (.t 4) (.seq (.reg [⟨some 2,.mv (.c (.nils)),none⟩]) (.ret)) (.skip))) (.seq (.reg [⟨some 5,.bsl 1 [.int .i64 0] 0 [],none⟩,⟨some 6,.mv (.t 0),none⟩,⟨some 7,.app 1 8 [.int .i64 0] (.t 5) (.t 6),none⟩,⟨some 2,.mv (.t 7),none⟩]) (.ret))),[.tmp 2]⟩
def jf:AFn:=⟨8,.seq (.reg [⟨some 2,.mv (.c (.nils)),none⟩]) (.seq (.seq (.reg [⟨some 3,.mv (.t 0),none⟩,⟨some 4,.eqn false 0 (.t 3),none⟩]) (.cond (.t 4) (.seq (.reg [⟨some 2,.mv (.c (.nils)),none⟩]) (.ret)) (.skip))) (.seq (.reg [⟨some 5,.bsl 3 [.int .i64 0,.int .i64 0,.int .i64 0] 0 [],none⟩,⟨some 6,.mv (.t 0),none⟩,⟨some 7,.app 3 24 [.int .i64 0,.int .i64 0,.int .i64 0] (.t 5) (.t 6),none⟩,⟨some 2,.mv (.t 7),none⟩]) (.ret))),[.tmp 2]⟩
theorem JP:zi Try.prog 3∧∃ fn,Try.prog.funcs[3]? = some fn∧dFn Try.prog fn=some (xt.un):=⟨⟨_,_,Try.func3,rfl,by kernel_rfl⟩,_,Try.func3,by kernel_rfl⟩
theorem JQ:xt.ok=true:=by kernel_rfl
theorem W4:zi Try.prog 12∧∃ fn,Try.prog.funcs[12]? = some fn∧dFn Try.prog fn=some (qj.un):=⟨⟨_,_,Try.func12,rfl,by kernel_rfl⟩,_,Try.func12,by kernel_rfl⟩
theorem W5:qj.ok=true:=by kernel_rfl
theorem Qa:zi Try.prog 13∧∃ fn,Try.prog.funcs[13]? = some fn∧dFn Try.prog fn=some (yW.un):=⟨⟨_,_,Try.func13,rfl,by kernel_rfl⟩,_,Try.func13,by kernel_rfl⟩
theorem Qb:yW.ok=true:=by kernel_rfl
theorem z8y:zi Try.prog 14∧∃ fn,Try.prog.funcs[14]? = some fn∧dFn Try.prog fn=some (YH.un):=⟨⟨_,_,Try.func14,rfl,by kernel_rfl⟩,_,Try.func14,by kernel_rfl⟩
theorem z8z:YH.ok=true:=by kernel_rfl
theorem W6:zi Try.prog 15∧∃ fn,Try.prog.funcs[15]? = some fn∧dFn Try.prog fn=some (qk.un):=⟨⟨_,_,Try.func15,rfl,by kernel_rfl⟩,_,Try.func15,by kernel_rfl⟩
theorem W7:qk.ok=true:=by kernel_rfl
theorem J4:zi Try.prog 16∧∃ fn,Try.prog.funcs[16]? = some fn∧dFn Try.prog fn=some (xd.un):=⟨⟨_,_,Try.func16,rfl,by kernel_rfl⟩,_,Try.func16,by kernel_rfl⟩
theorem J5:xd.ok=true:=by kernel_rfl
theorem XB:zi Try.prog 17∧∃ fn,Try.prog.funcs[17]? = some fn∧dFn Try.prog fn=some (yM.un):=⟨⟨_,_,Try.func17,rfl,by kernel_rfl⟩,_,Try.func17,by kernel_rfl⟩
theorem XC:yM.ok=true:=by kernel_rfl
theorem z6L:zi Try.prog 18∧∃ fn,Try.prog.funcs[18]? = some fn∧dFn Try.prog fn=some (ZP.un):=⟨⟨_,_,Try.func18,rfl,by kernel_rfl⟩,_,Try.func18,by kernel_rfl⟩
theorem z6M:ZP.ok=true:=by kernel_rfl
theorem Vg:zi Try.prog 19∧∃ fn,Try.prog.funcs[19]? = some fn∧dFn Try.prog fn=some (xT.un):=⟨⟨_,_,Try.func19,rfl,by kernel_rfl⟩,_,Try.func19,by kernel_rfl⟩
theorem Vh:xT.ok=true:=by kernel_rfl
theorem Qc:zi Try.prog 20∧∃ fn,Try.prog.funcs[20]? = some fn∧dFn Try.prog fn=some (yX.un):=⟨⟨_,_,Try.func20,rfl,by kernel_rfl⟩,_,Try.func20,by kernel_rfl⟩
theorem Qd:yX.ok=true:=by kernel_rfl
theorem XD:zi Try.prog 21∧∃ fn,Try.prog.funcs[21]? = some fn∧dFn Try.prog fn=some (yN.un):=⟨⟨_,_,Try.func21,rfl,by kernel_rfl⟩,_,Try.func21,by kernel_rfl⟩
theorem XE:yN.ok=true:=by kernel_rfl
theorem z5A:zi Try.prog 22∧∃ fn,Try.prog.funcs[22]? = some fn∧dFn Try.prog fn=some (wV.un):=⟨⟨_,_,Try.func22,rfl,by kernel_rfl⟩,_,Try.func22,by kernel_rfl⟩
theorem z5B:wV.ok=true:=by kernel_rfl
theorem Kq:zi Try.prog 23∧∃ fn,Try.prog.funcs[23]? = some fn∧dFn Try.prog fn=some (xG.un):=⟨⟨_,_,Try.func23,rfl,by kernel_rfl⟩,_,Try.func23,by kernel_rfl⟩
theorem Kr:xG.ok=true:=by kernel_rfl
theorem Qe:zi Try.prog 24∧∃ fn,Try.prog.funcs[24]? = some fn∧dFn Try.prog fn=some (yY.un):=⟨⟨_,_,Try.func24,rfl,by kernel_rfl⟩,_,Try.func24,by kernel_rfl⟩
theorem Qf:yY.ok=true:=by kernel_rfl
theorem z5C:zi Try.prog 25∧∃ fn,Try.prog.funcs[25]? = some fn∧dFn Try.prog fn=some (wX.un):=⟨⟨_,_,Try.func25,rfl,by kernel_rfl⟩,_,Try.func25,by kernel_rfl⟩
theorem z5D:wX.ok=true:=by kernel_rfl
theorem Ks:zi Try.prog 26∧∃ fn,Try.prog.funcs[26]? = some fn∧dFn Try.prog fn=some (xH.un):=⟨⟨_,_,Try.func26,rfl,by kernel_rfl⟩,_,Try.func26,by kernel_rfl⟩
theorem Kt:xH.ok=true:=by kernel_rfl
theorem z5E:zi Try.prog 27∧∃ fn,Try.prog.funcs[27]? = some fn∧dFn Try.prog fn=some (wY.un):=⟨⟨_,_,Try.func27,rfl,by kernel_rfl⟩,_,Try.func27,by kernel_rfl⟩
theorem z5F:wY.ok=true:=by kernel_rfl
theorem Ku:zi Try.prog 28∧∃ fn,Try.prog.funcs[28]? = some fn∧dFn Try.prog fn=some (xI.un):=⟨⟨_,_,Try.func28,rfl,by kernel_rfl⟩,_,Try.func28,by kernel_rfl⟩
theorem Kv:xI.ok=true:=by kernel_rfl
theorem JR:zi Try.prog 29∧∃ fn,Try.prog.funcs[29]? = some fn∧dFn Try.prog fn=some (xu.un):=⟨⟨_,_,Try.func29,rfl,by kernel_rfl⟩,_,Try.func29,by kernel_rfl⟩
theorem JS:xu.ok=true:=by kernel_rfl
theorem z08:zi Try.prog 32∧∃ fn,Try.prog.funcs[32]? = some fn∧dFn Try.prog fn=some (qQ.un):=⟨⟨_,_,Try.func32,rfl,by kernel_rfl⟩,_,Try.func32,by kernel_rfl⟩
theorem z09:qQ.ok=true:=by kernel_rfl
theorem W8:zi Try.prog 34∧∃ fn,Try.prog.funcs[34]? = some fn∧dFn Try.prog fn=some (ql.un):=⟨⟨_,_,Try.func34,rfl,by kernel_rfl⟩,_,Try.func34,by kernel_rfl⟩
theorem W9:ql.ok=true:=by kernel_rfl
theorem JT:zi Try.prog 35∧∃ fn,Try.prog.funcs[35]? = some fn∧dFn Try.prog fn=some (xw.un):=⟨⟨_,_,Try.func35,rfl,by kernel_rfl⟩,_,Try.func35,by kernel_rfl⟩
theorem JU:xw.ok=true:=by kernel_rfl
theorem J6:zi Try.prog 36∧∃ fn,Try.prog.funcs[36]? = some fn∧dFn Try.prog fn=some (xe.un):=⟨⟨_,_,Try.func36,rfl,by kernel_rfl⟩,_,Try.func36,by kernel_rfl⟩
theorem J7:xe.ok=true:=by kernel_rfl
theorem J8:zi Try.prog 37∧∃ fn,Try.prog.funcs[37]? = some fn∧dFn Try.prog fn=some (xf.un):=⟨⟨_,_,Try.func37,rfl,by kernel_rfl⟩,_,Try.func37,by kernel_rfl⟩
theorem J9:xf.ok=true:=by kernel_rfl
theorem za8:zi Try.prog 38∧∃ fn,Try.prog.funcs[38]? = some fn∧dFn Try.prog fn=some (XW.un):=⟨⟨_,_,Try.func38,rfl,by kernel_rfl⟩,_,Try.func38,by kernel_rfl⟩
theorem za9:XW.ok=true:=by kernel_rfl
theorem z4a:zi Try.prog 39∧∃ fn,Try.prog.funcs[39]? = some fn∧dFn Try.prog fn=some (vy.un):=⟨⟨_,_,Try.func39,rfl,by kernel_rfl⟩,_,Try.func39,by kernel_rfl⟩
theorem z4b:vy.ok=true:=by kernel_rfl
theorem z1i:zi Try.prog 40∧∃ fn,Try.prog.funcs[40]? = some fn∧dFn Try.prog fn=some (ju.un):=⟨⟨_,_,Try.func40,rfl,by kernel_rfl⟩,_,Try.func40,by kernel_rfl⟩
theorem z1j:ju.ok=true:=by kernel_rfl
theorem z1k:zi Try.prog 41∧∃ fn,Try.prog.funcs[41]? = some fn∧dFn Try.prog fn=some (jv.un):=⟨⟨_,_,Try.func41,rfl,by kernel_rfl⟩,_,Try.func41,by kernel_rfl⟩
theorem z1l:jv.ok=true:=by kernel_rfl
theorem z0a:zi Try.prog 42∧∃ fn,Try.prog.funcs[42]? = some fn∧dFn Try.prog fn=some (qR.un):=⟨⟨_,_,Try.func42,rfl,by kernel_rfl⟩,_,Try.func42,by kernel_rfl⟩
theorem z0b:qR.ok=true:=by kernel_rfl
theorem Vi:zi Try.prog 43∧∃ fn,Try.prog.funcs[43]? = some fn∧dFn Try.prog fn=some (xU.un):=⟨⟨_,_,Try.func43,rfl,by kernel_rfl⟩,_,Try.func43,by kernel_rfl⟩
theorem Vj:xU.ok=true:=by kernel_rfl
theorem Wa:zi Try.prog 44∧∃ fn,Try.prog.funcs[44]? = some fn∧dFn Try.prog fn=some (qm.un):=⟨⟨_,_,Try.func44,rfl,by kernel_rfl⟩,_,Try.func44,by kernel_rfl⟩
theorem Wb:qm.ok=true:=by kernel_rfl
theorem Vk:zi Try.prog 45∧∃ fn,Try.prog.funcs[45]? = some fn∧dFn Try.prog fn=some (xV.un):=⟨⟨_,_,Try.func45,rfl,by kernel_rfl⟩,_,Try.func45,by kernel_rfl⟩
theorem Vl:xV.ok=true:=by kernel_rfl
theorem Vm:zi Try.prog 46∧∃ fn,Try.prog.funcs[46]? = some fn∧dFn Try.prog fn=some (xW.un):=⟨⟨_,_,Try.func46,rfl,by kernel_rfl⟩,_,Try.func46,by kernel_rfl⟩
theorem Vn:xW.ok=true:=by kernel_rfl
theorem XF:zi Try.prog 47∧∃ fn,Try.prog.funcs[47]? = some fn∧dFn Try.prog fn=some (yO.un):=⟨⟨_,_,Try.func47,rfl,by kernel_rfl⟩,_,Try.func47,by kernel_rfl⟩
theorem XG:yO.ok=true:=by kernel_rfl
theorem z6N:zi Try.prog 48∧∃ fn,Try.prog.funcs[48]? = some fn∧dFn Try.prog fn=some (ZS.un):=⟨⟨_,_,Try.func48,rfl,by kernel_rfl⟩,_,Try.func48,by kernel_rfl⟩
theorem z6O:ZS.ok=true:=by kernel_rfl
theorem Wc:zi Try.prog 49∧∃ fn,Try.prog.funcs[49]? = some fn∧dFn Try.prog fn=some (qo.un):=⟨⟨_,_,Try.func49,rfl,by kernel_rfl⟩,_,Try.func49,by kernel_rfl⟩
theorem Wd:qo.ok=true:=by kernel_rfl
theorem We:zi Try.prog 50∧∃ fn,Try.prog.funcs[50]? = some fn∧dFn Try.prog fn=some (qp.un):=⟨⟨_,_,Try.func50,rfl,by kernel_rfl⟩,_,Try.func50,by kernel_rfl⟩
theorem Wf:qp.ok=true:=by kernel_rfl
theorem Wg:zi Try.prog 51∧∃ fn,Try.prog.funcs[51]? = some fn∧dFn Try.prog fn=some (qr.un):=⟨⟨_,_,Try.func51,rfl,by kernel_rfl⟩,_,Try.func51,by kernel_rfl⟩
theorem Wh:qr.ok=true:=by kernel_rfl
theorem Wi:zi Try.prog 52∧∃ fn,Try.prog.funcs[52]? = some fn∧dFn Try.prog fn=some (qt.un):=⟨⟨_,_,Try.func52,rfl,by kernel_rfl⟩,_,Try.func52,by kernel_rfl⟩
theorem Wj:qt.ok=true:=by kernel_rfl
theorem Wk:zi Try.prog 53∧∃ fn,Try.prog.funcs[53]? = some fn∧dFn Try.prog fn=some (qu.un):=⟨⟨_,_,Try.func53,rfl,by kernel_rfl⟩,_,Try.func53,by kernel_rfl⟩
theorem Wl:qu.ok=true:=by kernel_rfl
theorem z5G:zi Try.prog 54∧∃ fn,Try.prog.funcs[54]? = some fn∧dFn Try.prog fn=some (Z0.un):=⟨⟨_,_,Try.func54,rfl,by kernel_rfl⟩,_,Try.func54,by kernel_rfl⟩
theorem z5H:Z0.ok=true:=by kernel_rfl
theorem z0c:zi Try.prog 55∧∃ fn,Try.prog.funcs[55]? = some fn∧dFn Try.prog fn=some (qS.un):=⟨⟨_,_,Try.func55,rfl,by kernel_rfl⟩,_,Try.func55,by kernel_rfl⟩
theorem z0d:qS.ok=true:=by kernel_rfl
theorem Wm:zi Try.prog 56∧∃ fn,Try.prog.funcs[56]? = some fn∧dFn Try.prog fn=some (qv.un):=⟨⟨_,_,Try.func56,rfl,by kernel_rfl⟩,_,Try.func56,by kernel_rfl⟩
theorem Wn:qv.ok=true:=by kernel_rfl
theorem Qg:zi Try.prog 57∧∃ fn,Try.prog.funcs[57]? = some fn∧dFn Try.prog fn=some (yZ.un):=⟨⟨_,_,Try.func57,rfl,by kernel_rfl⟩,_,Try.func57,by kernel_rfl⟩
theorem Qh:yZ.ok=true:=by kernel_rfl
theorem Kw:zi Try.prog 58∧∃ fn,Try.prog.funcs[58]? = some fn∧dFn Try.prog fn=some (xJ.un):=⟨⟨_,_,Try.func58,rfl,by kernel_rfl⟩,_,Try.func58,by kernel_rfl⟩
theorem Kx:xJ.ok=true:=by kernel_rfl
theorem Wo:zi Try.prog 59∧∃ fn,Try.prog.funcs[59]? = some fn∧dFn Try.prog fn=some (qw.un):=⟨⟨_,_,Try.func59,rfl,by kernel_rfl⟩,_,Try.func59,by kernel_rfl⟩
theorem Wp:qw.ok=true:=by kernel_rfl
theorem Ja:zi Try.prog 60∧∃ fn,Try.prog.funcs[60]? = some fn∧dFn Try.prog fn=some (xg.un):=⟨⟨_,_,Try.func60,rfl,by kernel_rfl⟩,_,Try.func60,by kernel_rfl⟩
theorem Jb:xg.ok=true:=by kernel_rfl
theorem z0e:zi Try.prog 61∧∃ fn,Try.prog.funcs[61]? = some fn∧dFn Try.prog fn=some (qT.un):=⟨⟨_,_,Try.func61,rfl,by kernel_rfl⟩,_,Try.func61,by kernel_rfl⟩
theorem z0f:qT.ok=true:=by kernel_rfl
theorem vq:zi Try.prog 66∧∃ fn,Try.prog.funcs[66]? = some fn∧dFn Try.prog fn=some (zK.un):=⟨⟨_,_,Try.func66,rfl,by kernel_rfl⟩,_,Try.func66,by kernel_rfl⟩
theorem vr:zK.ok=true:=by kernel_rfl
theorem z2x:zi Try.prog 67∧∃ fn,Try.prog.funcs[67]? = some fn∧dFn Try.prog fn=some (jO.un):=⟨⟨_,_,Try.func67,rfl,by kernel_rfl⟩,_,Try.func67,by kernel_rfl⟩
theorem z2y:jO.ok=true:=by kernel_rfl
theorem z5I:zi Try.prog 68∧∃ fn,Try.prog.funcs[68]? = some fn∧dFn Try.prog fn=some (Z2.un):=⟨⟨_,_,Try.func68,rfl,by kernel_rfl⟩,_,Try.func68,by kernel_rfl⟩
theorem z5J:Z2.ok=true:=by kernel_rfl
theorem z1m:zi Try.prog 69∧∃ fn,Try.prog.funcs[69]? = some fn∧dFn Try.prog fn=some (jx.un):=⟨⟨_,_,Try.func69,rfl,by kernel_rfl⟩,_,Try.func69,by kernel_rfl⟩
theorem z1n:jx.ok=true:=by kernel_rfl
theorem z0g:zi Try.prog 70∧∃ fn,Try.prog.funcs[70]? = some fn∧dFn Try.prog fn=some (qU.un):=⟨⟨_,_,Try.func70,rfl,by kernel_rfl⟩,_,Try.func70,by kernel_rfl⟩
theorem z0h:qU.ok=true:=by kernel_rfl
theorem z6P:zi Try.prog 71∧∃ fn,Try.prog.funcs[71]? = some fn∧dFn Try.prog fn=some (ZT.un):=⟨⟨_,_,Try.func71,rfl,by kernel_rfl⟩,_,Try.func71,by kernel_rfl⟩
theorem z6Q:ZT.ok=true:=by kernel_rfl
theorem z2z:zi Try.prog 72∧∃ fn,Try.prog.funcs[72]? = some fn∧dFn Try.prog fn=some (jP.un):=⟨⟨_,_,Try.func72,rfl,by kernel_rfl⟩,_,Try.func72,by kernel_rfl⟩
theorem z2A:jP.ok=true:=by kernel_rfl
theorem z3q:zi Try.prog 73∧∃ fn,Try.prog.funcs[73]? = some fn∧dFn Try.prog fn=some (kO.un):=⟨⟨_,_,Try.func73,rfl,by kernel_rfl⟩,_,Try.func73,by kernel_rfl⟩
theorem z3r:kO.ok=true:=by kernel_rfl
theorem Vo:zi Try.prog 74∧∃ fn,Try.prog.funcs[74]? = some fn∧dFn Try.prog fn=some (xX.un):=⟨⟨_,_,Try.func74,rfl,by kernel_rfl⟩,_,Try.func74,by kernel_rfl⟩
theorem Vp:xX.ok=true:=by kernel_rfl
theorem vB:zi Try.prog 75∧∃ fn,Try.prog.funcs[75]? = some fn∧dFn Try.prog fn=some (zL.un):=⟨⟨_,_,Try.func75,rfl,by kernel_rfl⟩,_,Try.func75,by kernel_rfl⟩
theorem vC:zL.ok=true:=by kernel_rfl
theorem z4c:zi Try.prog 76∧∃ fn,Try.prog.funcs[76]? = some fn∧dFn Try.prog fn=some (vz.un):=⟨⟨_,_,Try.func76,rfl,by kernel_rfl⟩,_,Try.func76,by kernel_rfl⟩
theorem z4d:vz.ok=true:=by kernel_rfl
theorem z6R:zi Try.prog 77∧∃ fn,Try.prog.funcs[77]? = some fn∧dFn Try.prog fn=some (ZU.un):=⟨⟨_,_,Try.func77,rfl,by kernel_rfl⟩,_,Try.func77,by kernel_rfl⟩
theorem z6S:ZU.ok=true:=by kernel_rfl
theorem z5K:zi Try.prog 78∧∃ fn,Try.prog.funcs[78]? = some fn∧dFn Try.prog fn=some (Z4.un):=⟨⟨_,_,Try.func78,rfl,by kernel_rfl⟩,_,Try.func78,by kernel_rfl⟩
theorem z5L:Z4.ok=true:=by kernel_rfl
theorem z6T:zi Try.prog 79∧∃ fn,Try.prog.funcs[79]? = some fn∧dFn Try.prog fn=some (ZV.un):=⟨⟨_,_,Try.func79,rfl,by kernel_rfl⟩,_,Try.func79,by kernel_rfl⟩
theorem z6U:ZV.ok=true:=by kernel_rfl
theorem z4e:zi Try.prog 80∧∃ fn,Try.prog.funcs[80]? = some fn∧dFn Try.prog fn=some (vA.un):=⟨⟨_,_,Try.func80,rfl,by kernel_rfl⟩,_,Try.func80,by kernel_rfl⟩
theorem z4f:vA.ok=true:=by kernel_rfl
theorem j8:zi Try.prog 81∧∃ fn,Try.prog.funcs[81]? = some fn∧dFn Try.prog fn=some (zx.un):=⟨⟨_,_,Try.func81,rfl,by kernel_rfl⟩,_,Try.func81,by kernel_rfl⟩
theorem j9:zx.ok=true:=by kernel_rfl
theorem z2B:zi Try.prog 82∧∃ fn,Try.prog.funcs[82]? = some fn∧dFn Try.prog fn=some (jQ.un):=⟨⟨_,_,Try.func82,rfl,by kernel_rfl⟩,_,Try.func82,by kernel_rfl⟩
theorem z2C:jQ.ok=true:=by kernel_rfl
theorem Wq:zi Try.prog 83∧∃ fn,Try.prog.funcs[83]? = some fn∧dFn Try.prog fn=some (qy.un):=⟨⟨_,_,Try.func83,rfl,by kernel_rfl⟩,_,Try.func83,by kernel_rfl⟩
theorem Wr:qy.ok=true:=by kernel_rfl
theorem YN:zi Try.prog 84∧∃ fn,Try.prog.funcs[84]? = some fn∧dFn Try.prog fn=some (yr.un):=⟨⟨_,_,Try.func84,rfl,by kernel_rfl⟩,_,Try.func84,by kernel_rfl⟩
theorem YO:yr.ok=true:=by kernel_rfl
theorem z5M:zi Try.prog 86∧∃ fn,Try.prog.funcs[86]? = some fn∧dFn Try.prog fn=some (Z5.un):=⟨⟨_,_,Try.func86,rfl,by kernel_rfl⟩,_,Try.func86,by kernel_rfl⟩
theorem z5N:Z5.ok=true:=by kernel_rfl
theorem z1o:zi Try.prog 87∧∃ fn,Try.prog.funcs[87]? = some fn∧dFn Try.prog fn=some (jy.un):=⟨⟨_,_,Try.func87,rfl,by kernel_rfl⟩,_,Try.func87,by kernel_rfl⟩
theorem z1p:jy.ok=true:=by kernel_rfl
theorem Qi:zi Try.prog 88∧∃ fn,Try.prog.funcs[88]? = some fn∧dFn Try.prog fn=some (x1.un):=⟨⟨_,_,Try.func88,rfl,by kernel_rfl⟩,_,Try.func88,by kernel_rfl⟩
theorem Qj:x1.ok=true:=by kernel_rfl
theorem Qk:zi Try.prog 64∧∃ fn,Try.prog.funcs[64]? = some fn∧dFn Try.prog fn=some (ww):=⟨⟨_,_,Try.func64,rfl,by kernel_rfl⟩,_,Try.func64,by kernel_rfl⟩
theorem Zd:zi Try.prog 65∧∃ fn,Try.prog.funcs[65]? = some fn∧dFn Try.prog fn=some (jf):=⟨⟨_,_,Try.func65,rfl,by kernel_rfl⟩,_,Try.func65,by kernel_rfl⟩
theorem Ky:zi Try.prog 11∧∃ fn,Try.prog.funcs[11]? = some fn∧dFn Try.prog fn=some (ZW):=⟨⟨_,_,Try.func11,rfl,by kernel_rfl⟩,_,Try.func11,by kernel_rfl⟩
def zbR:Nat→Option AFn
 | 3=>some xt.un
 | 12=>some qj.un
 | 13=>some yW.un
 | 14=>some YH.un
 | 15=>some qk.un
 | 16=>some xd.un
 | 17=>some yM.un
 | 18=>some ZP.un
 | 19=>some xT.un
 | 20=>some yX.un
 | 21=>some yN.un
 | 22=>some wV.un
 | 23=>some xG.un
 | 24=>some yY.un
 | 25=>some wX.un
 | 26=>some xH.un
 | 27=>some wY.un
 | 28=>some xI.un
 | 29=>some xu.un
 | 32=>some qQ.un
 | 34=>some ql.un
 | 35=>some xw.un
 | 36=>some xe.un
 | 37=>some xf.un
 | 38=>some XW.un
 | 39=>some vy.un
 | 40=>some ju.un
 | 41=>some jv.un
 | 42=>some qR.un
 | 43=>some xU.un
 | 44=>some qm.un
 | 45=>some xV.un
 | 46=>some xW.un
 | 47=>some yO.un
 | 48=>some ZS.un
 | 49=>some qo.un
 | 50=>some qp.un
 | 51=>some qr.un
 | 52=>some qt.un
 | 53=>some qu.un
 | 54=>some Z0.un
 | 55=>some qS.un
 | 56=>some qv.un
 | 57=>some yZ.un
 | 58=>some xJ.un
 | 59=>some qw.un
 | 60=>some xg.un
 | 61=>some qT.un
 | 66=>some zK.un
 | 67=>some jO.un
 | 68=>some Z2.un
 | 69=>some jx.un
 | 70=>some qU.un
 | 71=>some ZT.un
 | 72=>some jP.un
 | 73=>some kO.un
 | 74=>some xX.un
 | 75=>some zL.un
 | 76=>some vz.un
 | 77=>some ZU.un
 | 78=>some Z4.un
 | 79=>some ZV.un
 | 80=>some vA.un
 | 81=>some zx.un
 | 82=>some jQ.un
 | 83=>some qy.un
 | 84=>some yr.un
 | 86=>some Z5.un
 | 87=>some jy.un
 | 88=>some x1.un
 | 64=>some ww
 | 65=>some jf
 | 11=>some ZW
 | _=>none
def zek:Nat→Option PFn
 | 3=>some xt
 | 12=>some qj
 | 13=>some yW
 | 14=>some YH
 | 15=>some qk
 | 16=>some xd
 | 17=>some yM
 | 18=>some ZP
 | 19=>some xT
 | 20=>some yX
 | 21=>some yN
 | 22=>some wV
 | 23=>some xG
 | 24=>some yY
 | 25=>some wX
 | 26=>some xH
 | 27=>some wY
 | 28=>some xI
 | 29=>some xu
 | 32=>some qQ
 | 34=>some ql
 | 35=>some xw
 | 36=>some xe
 | 37=>some xf
 | 38=>some XW
 | 39=>some vy
 | 40=>some ju
 | 41=>some jv
 | 42=>some qR
 | 43=>some xU
 | 44=>some qm
 | 45=>some xV
 | 46=>some xW
 | 47=>some yO
 | 48=>some ZS
 | 49=>some qo
 | 50=>some qp
 | 51=>some qr
 | 52=>some qt
 | 53=>some qu
 | 54=>some Z0
 | 55=>some qS
 | 56=>some qv
 | 57=>some yZ
 | 58=>some xJ
 | 59=>some qw
 | 60=>some xg
 | 61=>some qT
 | 1000066=>some zK
 | 67=>some jO
 | 68=>some Z2
 | 69=>some jx
 | 70=>some qU
 | 71=>some ZT
 | 72=>some jP
 | 73=>some kO
 | 74=>some xX
 | 75=>some zL
 | 76=>some vz
 | 77=>some ZU
 | 78=>some Z4
 | 79=>some ZV
 | 80=>some vA
 | 81=>some zx
 | 82=>some jQ
 | 83=>some qy
 | 84=>some yr
 | 86=>some Z5
 | 87=>some jy
 | 88=>some x1
 | _=>none
abbrev v9:=List (Nat × (List AV→z3→Option (AV × z3)))
def env (s:v9):Env:=⟨zbR,fun f=>s.lookup f⟩
def vR (s:v9):Prop:=∀ p ∈ s,qi Try.prog p.1 p.2
theorem W2 {s:v9} {f:Nat} {g:List AV→z3→Option (AV × z3)} (h:s.lookup f=some g):(f,g) ∈ s:=by
 induction s with
 | nil=>cases h
 | cons p l ih =>
  obtain⟨a,b⟩:=p
  rw [List.lookup_cons] at h
  split at h
  ·rename_i e
   obtain rfl:=Option.some.inj h
   rw [eq_of_beq e]
   exact List.mem_cons_self
  ·exact List.mem_cons_of_mem _ (ih h)
theorem z8g:vR []:=fun p h=>by cases h
theorem z2S {n:Nat} {g:List AV→z3→Option (AV × z3)} {s:v9} (h:qi Try.prog n g) (hs:vR s):vR ((n,g)::s):=fun p hp=>by
 rcases List.mem_cons.1 hp with rfl | hp
 ·exact h
 ·exact hs p hp
theorem z6E {s:v9} (hs:vR s):z24 Try.prog (env s):=by
 refine⟨Try.checked.mixed,fun f af h=>?_,fun f g h=>hs _ (W2 h)⟩
 change zbR f=some af at h
 unfold zbR at h
 split at h
 ·obtain rfl:=Option.some.inj h;exact JP
 ·obtain rfl:=Option.some.inj h;exact W4
 ·obtain rfl:=Option.some.inj h;exact Qa
 ·obtain rfl:=Option.some.inj h;exact z8y
 ·obtain rfl:=Option.some.inj h;exact W6
 ·obtain rfl:=Option.some.inj h;exact J4
 ·obtain rfl:=Option.some.inj h;exact XB
 ·obtain rfl:=Option.some.inj h;exact z6L
 ·obtain rfl:=Option.some.inj h;exact Vg
 ·obtain rfl:=Option.some.inj h;exact Qc
 ·obtain rfl:=Option.some.inj h;exact XD
 ·obtain rfl:=Option.some.inj h;exact z5A
 ·obtain rfl:=Option.some.inj h;exact Kq
 ·obtain rfl:=Option.some.inj h;exact Qe
 ·obtain rfl:=Option.some.inj h;exact z5C
 ·obtain rfl:=Option.some.inj h;exact Ks
 ·obtain rfl:=Option.some.inj h;exact z5E
 ·obtain rfl:=Option.some.inj h;exact Ku
 ·obtain rfl:=Option.some.inj h;exact JR
 ·obtain rfl:=Option.some.inj h;exact z08
 ·obtain rfl:=Option.some.inj h;exact W8
 ·obtain rfl:=Option.some.inj h;exact JT
 ·obtain rfl:=Option.some.inj h;exact J6
 ·obtain rfl:=Option.some.inj h;exact J8
 ·obtain rfl:=Option.some.inj h;exact za8
 ·obtain rfl:=Option.some.inj h;exact z4a
 ·obtain rfl:=Option.some.inj h;exact z1i
 ·obtain rfl:=Option.some.inj h;exact z1k
 ·obtain rfl:=Option.some.inj h;exact z0a
 ·obtain rfl:=Option.some.inj h;exact Vi
 ·obtain rfl:=Option.some.inj h;exact Wa
 ·obtain rfl:=Option.some.inj h;exact Vk
 ·obtain rfl:=Option.some.inj h;exact Vm
 ·obtain rfl:=Option.some.inj h;exact XF
 ·obtain rfl:=Option.some.inj h;exact z6N
 ·obtain rfl:=Option.some.inj h;exact Wc
 ·obtain rfl:=Option.some.inj h;exact We
 ·obtain rfl:=Option.some.inj h;exact Wg
 ·obtain rfl:=Option.some.inj h;exact Wi
 ·obtain rfl:=Option.some.inj h;exact Wk
 ·obtain rfl:=Option.some.inj h;exact z5G
 ·obtain rfl:=Option.some.inj h;exact z0c
 ·obtain rfl:=Option.some.inj h;exact Wm
 ·obtain rfl:=Option.some.inj h;exact Qg
 ·obtain rfl:=Option.some.inj h;exact Kw
 ·obtain rfl:=Option.some.inj h;exact Wo
 ·obtain rfl:=Option.some.inj h;exact Ja
 ·obtain rfl:=Option.some.inj h;exact z0e
 ·obtain rfl:=Option.some.inj h;exact vq
 ·obtain rfl:=Option.some.inj h;exact z2x
 ·obtain rfl:=Option.some.inj h;exact z5I
 ·obtain rfl:=Option.some.inj h;exact z1m
 ·obtain rfl:=Option.some.inj h;exact z0g
 ·obtain rfl:=Option.some.inj h;exact z6P
 ·obtain rfl:=Option.some.inj h;exact z2z
 ·obtain rfl:=Option.some.inj h;exact z3q
 ·obtain rfl:=Option.some.inj h;exact Vo
 ·obtain rfl:=Option.some.inj h;exact vB
 ·obtain rfl:=Option.some.inj h;exact z4c
 ·obtain rfl:=Option.some.inj h;exact z6R
 ·obtain rfl:=Option.some.inj h;exact z5K
 ·obtain rfl:=Option.some.inj h;exact z6T
 ·obtain rfl:=Option.some.inj h;exact z4e
 ·obtain rfl:=Option.some.inj h;exact j8
 ·obtain rfl:=Option.some.inj h;exact z2B
 ·obtain rfl:=Option.some.inj h;exact Wq
 ·obtain rfl:=Option.some.inj h;exact YN
 ·obtain rfl:=Option.some.inj h;exact z5M
 ·obtain rfl:=Option.some.inj h;exact z1o
 ·obtain rfl:=Option.some.inj h;exact Qi
 ·obtain rfl:=Option.some.inj h;exact Qk
 ·obtain rfl:=Option.some.inj h;exact Zd
 ·obtain rfl:=Option.some.inj h;exact Ky
 ·cases h
theorem fok (s:v9):FOk (env s):=by
 intro f af h
 change zbR f=some af at h
 unfold zbR at h
 split at h
 ·obtain rfl:=Option.some.inj h;kernel_rfl
 ·obtain rfl:=Option.some.inj h;kernel_rfl
 ·obtain rfl:=Option.some.inj h;kernel_rfl
 ·obtain rfl:=Option.some.inj h;kernel_rfl
 ·obtain rfl:=Option.some.inj h;kernel_rfl
 ·obtain rfl:=Option.some.inj h;kernel_rfl
 ·obtain rfl:=Option.some.inj h;kernel_rfl
 ·obtain rfl:=Option.some.inj h;kernel_rfl
 ·obtain rfl:=Option.some.inj h;kernel_rfl
 ·obtain rfl:=Option.some.inj h;kernel_rfl
 ·obtain rfl:=Option.some.inj h;kernel_rfl
 ·obtain rfl:=Option.some.inj h;kernel_rfl
 ·obtain rfl:=Option.some.inj h;kernel_rfl
 ·obtain rfl:=Option.some.inj h;kernel_rfl
 ·obtain rfl:=Option.some.inj h;kernel_rfl
 ·obtain rfl:=Option.some.inj h;kernel_rfl
 ·obtain rfl:=Option.some.inj h;kernel_rfl
 ·obtain rfl:=Option.some.inj h;kernel_rfl
 ·obtain rfl:=Option.some.inj h;kernel_rfl
 ·obtain rfl:=Option.some.inj h;kernel_rfl
 ·obtain rfl:=Option.some.inj h;kernel_rfl
 ·obtain rfl:=Option.some.inj h;kernel_rfl
 ·obtain rfl:=Option.some.inj h;kernel_rfl
 ·obtain rfl:=Option.some.inj h;kernel_rfl
 ·obtain rfl:=Option.some.inj h;kernel_rfl
 ·obtain rfl:=Option.some.inj h;kernel_rfl
 ·obtain rfl:=Option.some.inj h;kernel_rfl
 ·obtain rfl:=Option.some.inj h;kernel_rfl
 ·obtain rfl:=Option.some.inj h;kernel_rfl
 ·obtain rfl:=Option.some.inj h;kernel_rfl
 ·obtain rfl:=Option.some.inj h;kernel_rfl
 ·obtain rfl:=Option.some.inj h;kernel_rfl
 ·obtain rfl:=Option.some.inj h;kernel_rfl
 ·obtain rfl:=Option.some.inj h;kernel_rfl
 ·obtain rfl:=Option.some.inj h;kernel_rfl
 ·obtain rfl:=Option.some.inj h;kernel_rfl
 ·obtain rfl:=Option.some.inj h;kernel_rfl
 ·obtain rfl:=Option.some.inj h;kernel_rfl
 ·obtain rfl:=Option.some.inj h;kernel_rfl
 ·obtain rfl:=Option.some.inj h;kernel_rfl
 ·obtain rfl:=Option.some.inj h;kernel_rfl
 ·obtain rfl:=Option.some.inj h;kernel_rfl
 ·obtain rfl:=Option.some.inj h;kernel_rfl
 ·obtain rfl:=Option.some.inj h;kernel_rfl
 ·obtain rfl:=Option.some.inj h;kernel_rfl
 ·obtain rfl:=Option.some.inj h;kernel_rfl
 ·obtain rfl:=Option.some.inj h;kernel_rfl
 ·obtain rfl:=Option.some.inj h;kernel_rfl
 ·obtain rfl:=Option.some.inj h;kernel_rfl
 ·obtain rfl:=Option.some.inj h;kernel_rfl
 ·obtain rfl:=Option.some.inj h;kernel_rfl
 ·obtain rfl:=Option.some.inj h;kernel_rfl
 ·obtain rfl:=Option.some.inj h;kernel_rfl
 ·obtain rfl:=Option.some.inj h;kernel_rfl
 ·obtain rfl:=Option.some.inj h;kernel_rfl
 ·obtain rfl:=Option.some.inj h;kernel_rfl
 ·obtain rfl:=Option.some.inj h;kernel_rfl
 ·obtain rfl:=Option.some.inj h;kernel_rfl
 ·obtain rfl:=Option.some.inj h;kernel_rfl
 ·obtain rfl:=Option.some.inj h;kernel_rfl
 ·obtain rfl:=Option.some.inj h;kernel_rfl
 ·obtain rfl:=Option.some.inj h;kernel_rfl
 ·obtain rfl:=Option.some.inj h;kernel_rfl
 ·obtain rfl:=Option.some.inj h;kernel_rfl
 ·obtain rfl:=Option.some.inj h;kernel_rfl
 ·obtain rfl:=Option.some.inj h;kernel_rfl
 ·obtain rfl:=Option.some.inj h;kernel_rfl
 ·obtain rfl:=Option.some.inj h;kernel_rfl
 ·obtain rfl:=Option.some.inj h;kernel_rfl
 ·obtain rfl:=Option.some.inj h;kernel_rfl
 ·obtain rfl:=Option.some.inj h;kernel_rfl
 ·obtain rfl:=Option.some.inj h;kernel_rfl
 ·obtain rfl:=Option.some.inj h;kernel_rfl
 ·cases h
abbrev zf:=List (Nat × (List AV→Option AV))
def z6 (s:zf):z3C:=⟨zek,fun f=>s.lookup f⟩
def zD:List Nat:=[3,12,13,14,15,16,17,18,19,20,21,22,23,24,25,26,27,28,29,32,34,35,36,37,38,39,40,41,42,43,44,45,46,47,48,49,50,51,52,53,54,55,56,57,58,59,60,61,66,67,68,69,70,71,72,73,74,75,76,77,78,79,80,81,82,83,84,86,87,88]
theorem zel {s:v9} {p:zf} (h0:∀ n ∈ zD,s.lookup n=none) (hp:∀ q ∈ p,Yu (env s) q.1 q.2):z1R (env s) (z6 p):=by
 refine⟨fun f fn h=>?_,fun f g h=>?_⟩
 ·have hb:=h0
  change zek f=some fn at h
  unfold zek at h
  split at h
  ·obtain rfl:=Option.some.inj h;exact⟨JQ,hb 3 (by simp [zD]),rfl,fun _=>rfl,fun h=>absurd h (by decide)⟩
  ·obtain rfl:=Option.some.inj h;exact⟨W5,hb 12 (by simp [zD]),rfl,fun _=>rfl,fun h=>absurd h (by decide)⟩
  ·obtain rfl:=Option.some.inj h;exact⟨Qb,hb 13 (by simp [zD]),rfl,fun _=>rfl,fun h=>absurd h (by decide)⟩
  ·obtain rfl:=Option.some.inj h;exact⟨z8z,hb 14 (by simp [zD]),rfl,fun _=>rfl,fun h=>absurd h (by decide)⟩
  ·obtain rfl:=Option.some.inj h;exact⟨W7,hb 15 (by simp [zD]),rfl,fun _=>rfl,fun h=>absurd h (by decide)⟩
  ·obtain rfl:=Option.some.inj h;exact⟨J5,hb 16 (by simp [zD]),rfl,fun _=>rfl,fun h=>absurd h (by decide)⟩
  ·obtain rfl:=Option.some.inj h;exact⟨XC,hb 17 (by simp [zD]),rfl,fun _=>rfl,fun h=>absurd h (by decide)⟩
  ·obtain rfl:=Option.some.inj h;exact⟨z6M,hb 18 (by simp [zD]),rfl,fun _=>rfl,fun h=>absurd h (by decide)⟩
  ·obtain rfl:=Option.some.inj h;exact⟨Vh,hb 19 (by simp [zD]),rfl,fun _=>rfl,fun h=>absurd h (by decide)⟩
  ·obtain rfl:=Option.some.inj h;exact⟨Qd,hb 20 (by simp [zD]),rfl,fun _=>rfl,fun h=>absurd h (by decide)⟩
  ·obtain rfl:=Option.some.inj h;exact⟨XE,hb 21 (by simp [zD]),rfl,fun _=>rfl,fun h=>absurd h (by decide)⟩
  ·obtain rfl:=Option.some.inj h;exact⟨z5B,hb 22 (by simp [zD]),rfl,fun _=>rfl,fun h=>absurd h (by decide)⟩
  ·obtain rfl:=Option.some.inj h;exact⟨Kr,hb 23 (by simp [zD]),rfl,fun _=>rfl,fun h=>absurd h (by decide)⟩
  ·obtain rfl:=Option.some.inj h;exact⟨Qf,hb 24 (by simp [zD]),rfl,fun _=>rfl,fun h=>absurd h (by decide)⟩
  ·obtain rfl:=Option.some.inj h;exact⟨z5D,hb 25 (by simp [zD]),rfl,fun _=>rfl,fun h=>absurd h (by decide)⟩
  ·obtain rfl:=Option.some.inj h;exact⟨Kt,hb 26 (by simp [zD]),rfl,fun _=>rfl,fun h=>absurd h (by decide)⟩
  ·obtain rfl:=Option.some.inj h;exact⟨z5F,hb 27 (by simp [zD]),rfl,fun _=>rfl,fun h=>absurd h (by decide)⟩
  ·obtain rfl:=Option.some.inj h;exact⟨Kv,hb 28 (by simp [zD]),rfl,fun _=>rfl,fun h=>absurd h (by decide)⟩
  ·obtain rfl:=Option.some.inj h;exact⟨JS,hb 29 (by simp [zD]),rfl,fun _=>rfl,fun h=>absurd h (by decide)⟩
  ·obtain rfl:=Option.some.inj h;exact⟨z09,hb 32 (by simp [zD]),rfl,fun _=>rfl,fun h=>absurd h (by decide)⟩
  ·obtain rfl:=Option.some.inj h;exact⟨W9,hb 34 (by simp [zD]),rfl,fun _=>rfl,fun h=>absurd h (by decide)⟩
  ·obtain rfl:=Option.some.inj h;exact⟨JU,hb 35 (by simp [zD]),rfl,fun _=>rfl,fun h=>absurd h (by decide)⟩
  ·obtain rfl:=Option.some.inj h;exact⟨J7,hb 36 (by simp [zD]),rfl,fun _=>rfl,fun h=>absurd h (by decide)⟩
  ·obtain rfl:=Option.some.inj h;exact⟨J9,hb 37 (by simp [zD]),rfl,fun _=>rfl,fun h=>absurd h (by decide)⟩
  ·obtain rfl:=Option.some.inj h;exact⟨za9,hb 38 (by simp [zD]),rfl,fun _=>rfl,fun h=>absurd h (by decide)⟩
  ·obtain rfl:=Option.some.inj h;exact⟨z4b,hb 39 (by simp [zD]),rfl,fun _=>rfl,fun h=>absurd h (by decide)⟩
  ·obtain rfl:=Option.some.inj h;exact⟨z1j,hb 40 (by simp [zD]),rfl,fun _=>rfl,fun h=>absurd h (by decide)⟩
  ·obtain rfl:=Option.some.inj h;exact⟨z1l,hb 41 (by simp [zD]),rfl,fun _=>rfl,fun h=>absurd h (by decide)⟩
  ·obtain rfl:=Option.some.inj h;exact⟨z0b,hb 42 (by simp [zD]),rfl,fun _=>rfl,fun h=>absurd h (by decide)⟩
  ·obtain rfl:=Option.some.inj h;exact⟨Vj,hb 43 (by simp [zD]),rfl,fun _=>rfl,fun h=>absurd h (by decide)⟩
  ·obtain rfl:=Option.some.inj h;exact⟨Wb,hb 44 (by simp [zD]),rfl,fun _=>rfl,fun h=>absurd h (by decide)⟩
  ·obtain rfl:=Option.some.inj h;exact⟨Vl,hb 45 (by simp [zD]),rfl,fun _=>rfl,fun h=>absurd h (by decide)⟩
  ·obtain rfl:=Option.some.inj h;exact⟨Vn,hb 46 (by simp [zD]),rfl,fun _=>rfl,fun h=>absurd h (by decide)⟩
  ·obtain rfl:=Option.some.inj h;exact⟨XG,hb 47 (by simp [zD]),rfl,fun _=>rfl,fun h=>absurd h (by decide)⟩
  ·obtain rfl:=Option.some.inj h;exact⟨z6O,hb 48 (by simp [zD]),rfl,fun _=>rfl,fun h=>absurd h (by decide)⟩
  ·obtain rfl:=Option.some.inj h;exact⟨Wd,hb 49 (by simp [zD]),rfl,fun _=>rfl,fun h=>absurd h (by decide)⟩
  ·obtain rfl:=Option.some.inj h;exact⟨Wf,hb 50 (by simp [zD]),rfl,fun _=>rfl,fun h=>absurd h (by decide)⟩
  ·obtain rfl:=Option.some.inj h;exact⟨Wh,hb 51 (by simp [zD]),rfl,fun _=>rfl,fun h=>absurd h (by decide)⟩
  ·obtain rfl:=Option.some.inj h;exact⟨Wj,hb 52 (by simp [zD]),rfl,fun _=>rfl,fun h=>absurd h (by decide)⟩
  ·obtain rfl:=Option.some.inj h;exact⟨Wl,hb 53 (by simp [zD]),rfl,fun _=>rfl,fun h=>absurd h (by decide)⟩
  ·obtain rfl:=Option.some.inj h;exact⟨z5H,hb 54 (by simp [zD]),rfl,fun _=>rfl,fun h=>absurd h (by decide)⟩
  ·obtain rfl:=Option.some.inj h;exact⟨z0d,hb 55 (by simp [zD]),rfl,fun _=>rfl,fun h=>absurd h (by decide)⟩
  ·obtain rfl:=Option.some.inj h;exact⟨Wn,hb 56 (by simp [zD]),rfl,fun _=>rfl,fun h=>absurd h (by decide)⟩
  ·obtain rfl:=Option.some.inj h;exact⟨Qh,hb 57 (by simp [zD]),rfl,fun _=>rfl,fun h=>absurd h (by decide)⟩
  ·obtain rfl:=Option.some.inj h;exact⟨Kx,hb 58 (by simp [zD]),rfl,fun _=>rfl,fun h=>absurd h (by decide)⟩
  ·obtain rfl:=Option.some.inj h;exact⟨Wp,hb 59 (by simp [zD]),rfl,fun _=>rfl,fun h=>absurd h (by decide)⟩
  ·obtain rfl:=Option.some.inj h;exact⟨Jb,hb 60 (by simp [zD]),rfl,fun _=>rfl,fun h=>absurd h (by decide)⟩
  ·obtain rfl:=Option.some.inj h;exact⟨z0f,hb 61 (by simp [zD]),rfl,fun _=>rfl,fun h=>absurd h (by decide)⟩
  ·obtain rfl:=Option.some.inj h;exact⟨vr,hb 66 (by simp [zD]),rfl,fun h=>absurd h (by decide),fun _=>⟨3,rfl⟩⟩
  ·obtain rfl:=Option.some.inj h;exact⟨z2y,hb 67 (by simp [zD]),rfl,fun _=>rfl,fun h=>absurd h (by decide)⟩
  ·obtain rfl:=Option.some.inj h;exact⟨z5J,hb 68 (by simp [zD]),rfl,fun _=>rfl,fun h=>absurd h (by decide)⟩
  ·obtain rfl:=Option.some.inj h;exact⟨z1n,hb 69 (by simp [zD]),rfl,fun _=>rfl,fun h=>absurd h (by decide)⟩
  ·obtain rfl:=Option.some.inj h;exact⟨z0h,hb 70 (by simp [zD]),rfl,fun _=>rfl,fun h=>absurd h (by decide)⟩
  ·obtain rfl:=Option.some.inj h;exact⟨z6Q,hb 71 (by simp [zD]),rfl,fun _=>rfl,fun h=>absurd h (by decide)⟩
  ·obtain rfl:=Option.some.inj h;exact⟨z2A,hb 72 (by simp [zD]),rfl,fun _=>rfl,fun h=>absurd h (by decide)⟩
  ·obtain rfl:=Option.some.inj h;exact⟨z3r,hb 73 (by simp [zD]),rfl,fun _=>rfl,fun h=>absurd h (by decide)⟩
  ·obtain rfl:=Option.some.inj h;exact⟨Vp,hb 74 (by simp [zD]),rfl,fun _=>rfl,fun h=>absurd h (by decide)⟩
  ·obtain rfl:=Option.some.inj h;exact⟨vC,hb 75 (by simp [zD]),rfl,fun _=>rfl,fun h=>absurd h (by decide)⟩
  ·obtain rfl:=Option.some.inj h;exact⟨z4d,hb 76 (by simp [zD]),rfl,fun _=>rfl,fun h=>absurd h (by decide)⟩
  ·obtain rfl:=Option.some.inj h;exact⟨z6S,hb 77 (by simp [zD]),rfl,fun _=>rfl,fun h=>absurd h (by decide)⟩
  ·obtain rfl:=Option.some.inj h;exact⟨z5L,hb 78 (by simp [zD]),rfl,fun _=>rfl,fun h=>absurd h (by decide)⟩
  ·obtain rfl:=Option.some.inj h;exact⟨z6U,hb 79 (by simp [zD]),rfl,fun _=>rfl,fun h=>absurd h (by decide)⟩
  ·obtain rfl:=Option.some.inj h;exact⟨z4f,hb 80 (by simp [zD]),rfl,fun _=>rfl,fun h=>absurd h (by decide)⟩
  ·obtain rfl:=Option.some.inj h;exact⟨j9,hb 81 (by simp [zD]),rfl,fun _=>rfl,fun h=>absurd h (by decide)⟩
  ·obtain rfl:=Option.some.inj h;exact⟨z2C,hb 82 (by simp [zD]),rfl,fun _=>rfl,fun h=>absurd h (by decide)⟩
  ·obtain rfl:=Option.some.inj h;exact⟨Wr,hb 83 (by simp [zD]),rfl,fun _=>rfl,fun h=>absurd h (by decide)⟩
  ·obtain rfl:=Option.some.inj h;exact⟨YO,hb 84 (by simp [zD]),rfl,fun _=>rfl,fun h=>absurd h (by decide)⟩
  ·obtain rfl:=Option.some.inj h;exact⟨z5N,hb 86 (by simp [zD]),rfl,fun _=>rfl,fun h=>absurd h (by decide)⟩
  ·obtain rfl:=Option.some.inj h;exact⟨z1p,hb 87 (by simp [zD]),rfl,fun _=>rfl,fun h=>absurd h (by decide)⟩
  ·obtain rfl:=Option.some.inj h;exact⟨Qj,hb 88 (by simp [zD]),rfl,fun _=>rfl,fun h=>absurd h (by decide)⟩
  ·cases h
 ·have:∀ (p:zf),(∀ q ∈ p,Yu (env s) q.1 q.2)→p.lookup f=some g→Yu (env s) f g:=by
   intro p
   induction p with
   | nil=>intro _ h;cases h
   | cons a l ih =>
    intro hq h
    obtain⟨a,b⟩:=a
    rw [List.lookup_cons] at h
    split at h
    ·rename_i e
     obtain rfl:=Option.some.inj h
     rw [eq_of_beq e]
     exact hq _ List.mem_cons_self
    ·exact ih (fun q hm=>hq q (List.mem_cons_of_mem _ hm)) h
  exact this p hp h
theorem YP {s:v9} (h:s.lookup 64=none):Yu (env s) 64 (Yf 1 8):=z7H (env s) (zero:=[.int .i64 0]) (f:=64) h rfl (by decide) rfl
theorem vY {s:v9} (h:s.lookup 65=none):Yu (env s) 65 (Yf 3 24):=z7H (env s) (zero:=[.int .i64 0,.int .i64 0,.int .i64 0]) (f:=65) h rfl (by decide) rfl
end Go.Proofs.Ytdbbdfmkglgjdaa.Pi
