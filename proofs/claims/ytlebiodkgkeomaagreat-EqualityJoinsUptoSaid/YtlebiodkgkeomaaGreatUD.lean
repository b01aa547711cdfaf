/- A part of the proof: UD. -/
import Derived.Test.YtlebiodkgkeomaaGreatUC
import Derived.Test.YtlebiodkgkeomaaGreatUP
set_option linter.all false
set_option linter.all false
set_option maxRecDepth 100000
set_option maxHeartbeats 4000000
namespace Go.Ab.X
open Go.RowKit Go.Ab
def hi83v1:List (HSh G):=[]
def as83v1:List (Sh G):=[.p .lconst]
def ho83v1:List (HSh G):=[.row 122 .lconst]
def rs83v1:Sh G:=.row 0
def hi124v1:List (HSh G):=[]
def as124v1:List (Sh G):=[.p .lltm]
def ho124v1:List (HSh G):=[.row 27 .ltm]
def rs124v1:Sh G:=.row 0
def hi125v10:List (HSh G):=[.row 27 .ltm]
def as125v10:List (Sh G):=[.row 0,.fn 110 [] []]
def ho125v10:List (HSh G):=[.row 27 .ltm]
def rs125v10:Sh G:=.tup []
def hi126v1:List (HSh G):=[.row 27 .ltm]
def as126v1:List (Sh G):=[.row 0,.fn 63 [] []]
def ho126v1:List (HSh G):=[.row 27 .ltm]
def rs126v1:Sh G:=.row 0
def hi141v1:List (HSh G):=[.row 27 .ltm]
def as141v1:List (Sh G):=[.row 0,.fn 143 [] [.ip .tm]]
def ho141v1:List (HSh G):=[.row 27 .ltm]
def rs141v1:Sh G:=.row 0
def hi142v1:List (HSh G):=[]
def as142v1:List (Sh G):=[.p .ltm]
def ho142v1:List (HSh G):=[.row 27 .ltm]
def rs142v1:Sh G:=.row 0
def hi154v1:List (HSh G):=[]
def as154v1:List (Sh G):=[.ns .tm,.p .int]
def ho154v1:List (HSh G):=[.row 27 .ltm]
def rs154v1:Sh G:=.row 0
def hi155v10:List (HSh G):=[.row 27 .ltm]
def as155v10:List (Sh G):=[.row 0,.p .int,.fn 110 [] []]
def ho155v10:List (HSh G):=[.row 27 .ltm]
def rs155v10:Sh G:=.tup []
def hi177v10:List (HSh G):=[.row 27 .ltm]
def as177v10:List (Sh G):=[.row 0,.p .int,.p .int,.fn 110 [] []]
def ho177v10:List (HSh G):=[.row 27 .ltm]
def rs177v10:Sh G:=.tup []
def hi178v10:List (HSh G):=[.row 27 .ltm]
def as178v10:List (Sh G):=[.row 0,.p .int,.p .int,.p .int,.fn 110 [] []]
def ho178v10:List (HSh G):=[.row 27 .ltm]
def rs178v10:Sh G:=.tup []
def hi184v1:List (HSh G):=[.row 198 .ltypebind]
def as184v1:List (Sh G):=[.p .ty,.p .ty,.row 0]
def ho184v1:List (HSh G):=[.row 198 .ltypebind]
def rs184v1:Sh G:=.tup [.row 0,.p .bool]
def hi186v10:List (HSh G):=[.row 27 .ltm]
def as186v10:List (Sh G):=[.row 0,.p .int,.p .int,.p .int,.fn 110 [] []]
def ho186v10:List (HSh G):=[.row 27 .ltm]
def rs186v10:Sh G:=.tup []
def hi189v10:List (HSh G):=[.row 198 .ltypebind]
def as189v10:List (Sh G):=[.row 0,.p .str]
def ho189v10:List (HSh G):=[.row 198 .ltypebind]
def rs189v10:Sh G:=.tup [.p .ty,.p .bool]
def hi190v10:List (HSh G):=[.row 27 .ltm]
def as190v10:List (Sh G):=[.row 0,.p .int,.p .int,.p .int,.fn 110 [] []]
def ho190v10:List (HSh G):=[.row 27 .ltm]
def rs190v10:Sh G:=.tup []
def zs_ty:List (N G):=[.v .bool false,.v .str (⟨#[]⟩:ByteArray),.ns .ty]
def z_ty:N G:=.ag .ty zs_ty
def zs_tm:List (N G):=[.v .u8 (0:Int),.v .str (⟨#[]⟩:ByteArray),.ag .ty [.v .bool false,.v .str (⟨#[]⟩:ByteArray),.ns .ty],.v .int (0:Int),.ns .tm]
def z_tm:N G:=.ag .tm zs_tm
def zs_sequent:List (N G):=[.ns .tm,.ag .tm [.v .u8 (0:Int),.v .str (⟨#[]⟩:ByteArray),.ag .ty [.v .bool false,.v .str (⟨#[]⟩:ByteArray),.ns .ty],.v .int (0:Int),.ns .tm]]
def z_sequent:N G:=.ag .sequent zs_sequent
def zs_typeop:List (N G):=[.v .str (⟨#[]⟩:ByteArray),.v .int (0:Int)]
def zs_const:List (N G):=[.v .str (⟨#[]⟩:ByteArray),.ag .ty [.v .bool false,.v .str (⟨#[]⟩:ByteArray),.ns .ty]]
def zs_signature:List (N G):=[.ns .typeop,.ns .const]
def z_signature:N G:=.ag .signature zs_signature
def zs_node:List (N G):=[.ag .decl [.v .u8 (0:Int),.v .str (⟨#[]⟩:ByteArray),.v .int (0:Int),.ag .ty [.v .bool false,.v .str (⟨#[]⟩:ByteArray),.ns .ty],.ns .sequent],.nilp,.v .int (0:Int),.ag .signature [.ns .typeop,.ns .const]]
def zs_theory:List (N G):=[.nilp]
def z_theory:N G:=.ag .theory zs_theory
def zs_typebind:List (N G):=[.v .str (⟨#[]⟩:ByteArray),.ag .ty [.v .bool false,.v .str (⟨#[]⟩:ByteArray),.ns .ty]]
def z_typebind:N G:=.ag .typebind zs_typebind
def zs_thm:List (N G):=[.nilp,.nilp]
def z_thm:N G:=.ag .thm zs_thm
def zs_engine:List (N G):=[.ag .theory [.nilp]]
def z_engine:N G:=.ag .engine zs_engine
def c3:XFn G:=⟨158,[.t 6],.pure [.p .bool],
 (sq [ob 3 0,ob 4 1,ob 5 2,oM 6 (cB false)]
 (.seq (.jn ⟨[(41,.p .bool)],[],[3,4,5]⟩ (.ops [oL 32 .sequent 3,oC 33 5 [32] [.sequent] (.p .bool),oM 34 33,.gd 34 false (some 35) (oL 35 .tm 4),.gd 34 false (some 36) (oC 36 6 [35] [.tm] (.p .bool)),o 37 (.pk 34 (cB true) 36),oM 38 37,.gd 38 false (some 39) (oL 39 .tm 5),.gd 38 false (some 40) (oC 40 6 [39] [.tm] (.p .bool)),o 41 (.pk 38 (cB true) 40)])
 (.cond 41 (sq [oM 6 (cB true)]
  .ret)
  .skip))
 (.seq (.draw [oC 43 8 [] [] (.p .theory),oI 44 .sequent 3,oC 45 7 [43,44] [.theory,.sequent] (tp [.thm,.bool]),oM 42 45,oE 46 42 0,oE 47 42 1,oA 7 35 z_thm,oS 1 .thm 7 46,oM 8 47])
 (.seq (sq [oM 48 8,o 49 (.un 48)]
 (.cond 49 (sq [oM 6 (cB true)]
  .ret)
  .skip))
 (sq [oL 51 .thm 7,oC 52 9 [51] [.thm] (tp [.sequent,.theory]),oM 50 52,oE 53 50 0,oE 54 50 1,oA 9 29 z_sequent,oA 10 39 z_theory,oS 0 .sequent 9 53,oS 0 .theory 10 54]
 (sq [oL 56 .theory 10,oC 57 10 [56] [.theory] (tp [.signature,.int]),oM 55 57,oE 58 55 0,oE 59 55 1,oA 11 46 z_signature,oS 0 .signature 11 58,oM 12 59]
 (sq [oL 61 .thm 7,oC 62 11 [61] [.thm] (tp [.tm,.tm,.int]),oM 60 62,oE 63 60 0,oE 64 60 1,oE 65 60 2,oA 13 27 z_tm,oA 14 27 z_tm,oS 0 .tm 13 63,oS 0 .tm 14 64,oM 15 65]
 (sq [oL 67 .sequent 9,oC 68 12 [67] [.sequent] (tp [.tm,.tm,.int]),oM 66 68,oE 69 66 0,oE 70 66 1,oE 71 66 2,oA 16 27 z_tm,oA 17 27 z_tm,oS 0 .tm 16 69,oS 0 .tm 17 70,oM 18 71]
 (sq [oL 73 .thm 7,oC 74 13 [73] [.thm] (tp [.thm,.int]),oM 72 74,oE 75 72 0,oE 76 72 1,oA 19 35 z_thm,oS 0 .thm 19 75,oM 20 76]
 (sq [oL 78 .sequent 9,oC 79 14 [78] [.sequent] (tp [.sequent,.int]),oM 77 79,oE 80 77 0,oE 81 77 1,oA 21 29 z_sequent,oS 0 .sequent 21 80,oM 22 81]
 (sq [oL 83 .tm 4,oL 84 .thm 7,oC 85 15 [83,84] [.tm,.thm] (tp [.thm,.int]),oM 82 85,oE 86 82 0,oE 87 82 1,oA 23 35 z_thm,oS 0 .thm 23 86,oM 24 87]
 (sq [oL 89 .signature 11,oL 90 .tm 4,oL 91 .sequent 9,oC 92 16 [89,90,91] [.signature,.tm,.sequent] (tp [.sequent,.int]),oM 88 92,oE 93 88 0,oE 94 88 1,oA 25 29 z_sequent,oS 0 .sequent 25 93,oM 26 94]
 (sq [oL 96 .thm 7,oL 97 .tm 5,oC 98 17 [96,97] [.thm,.tm] (tp [.thm,.int]),oM 95 98,oE 99 95 0,oE 100 95 1,oA 27 35 z_thm,oS 0 .thm 27 99,oM 28 100]
 (sq [oL 102 .signature 11,oL 103 .sequent 9,oL 104 .tm 5,oC 105 18 [102,103,104] [.signature,.sequent,.tm] (tp [.sequent,.int]),oM 101 105,oE 106 101 0,oE 107 101 1,oA 29 29 z_sequent,oS 0 .sequent 29 106,oM 30 107]
 (.jn ⟨[(13,.ptr 4 0 []),(14,.ptr 5 0 []),(16,.ptr 6 0 []),(17,.ptr 7 0 []),(19,.ptr 8 0 []),(21,.ptr 9 0 []),(23,.ptr 10 0 []),(25,.ptr 11 0 []),(27,.ptr 12 0 []),(29,.ptr 13 0 []),(31,.p .bool)],[.gone,.gone,.gone,.gone,.keep,.keep,.keep,.keep,.keep,.keep,.keep,.keep,.keep,.keep],[15,18,20,22,24,26,28,30]⟩ (.draw [oL 108 .thm 7,oC 109 19 [108] [.thm] (.p .int),oO 110 .eql 109 (cI 0),oL 111 .sequent 9,oC 112 20 [111] [.sequent] (.p .bool),o 113 (.bib .eql 110 112),oM 114 113,.gd 114 true (some 115) (oI 115 .tm 4),.gd 114 true (some 116) (oC 116 21 [115] [.tm] (.p .int)),.gd 114 true (some 117) (oI 117 .tm 4),.gd 114 true (some 118) (oC 118 22 [117] [.tm] (.p .int)),.gd 114 true (some 119) (oO 119 .eql 116 118),o 120 (.pk 114 119 (cB false)),oM 31 120])
 (.seq (.ops (oM 121 31::oM 122 121::.gd 122 true (some 123) (oL 123 .tm 13)::.gd 122 true (some 124) (oL 124 .tm 16)::.gd 122 true (some 125) (oC 125 23 [123,124] [.tm,.tm] (.p .bool))::o 126 (.pk 122 125 (cB false))::oM 127 126::.gd 127 true (some 128) (oL 128 .tm 14)::.gd 127 true (some 129) (oL 129 .tm 17)::.gd 127 true (some 130) (oC 130 23 [128,129] [.tm,.tm] (.p .bool))::o 131 (.pk 127 130 (cB false))::oM 132 131::.gd 132 true (some 133) (oM 133 15)::.gd 132 true (some 134) (oM 134 18)::.gd 132 true (some 135) (oO 135 .eql 133 134)::o 136 (.pk 132 135 (cB false))::oM 137 136::.gd 137 true (some 138) (oL 138 .thm 19)::.gd 137 true (some 139) (oM 139 20)::.gd 137 true (some 140) (oL 140 .sequent 21)::.gd 137 true (some 141) (oM 141 22)::.gd 137 true (some 142) (oC 142 24 [138,139,140,141] [.thm,.int,.sequent,.int] (.p .bool))::o 143 (.pk 137 142 (cB false))::oM 144 143::.gd 144 true (some 145) (oL 145 .thm 23)::.gd 144 true (some 146) (oM 146 24)::.gd 144 true (some 147) (oL 147 .sequent 25)::.gd 144 true (some 148) (oM 148 26)::.gd 144 true (some 149) (oC 149 24 [145,146,147,148] [.thm,.int,.sequent,.int] (.p .bool))::o 150 (.pk 144 149 (cB false))::oM 151 150::.gd 151 true (some 152) (oL 152 .thm 27)::.gd 151 true (some 153) (oM 153 28)::.gd 151 true (some 154) (oL 154 .sequent 29)::.gd 151 true (some 155) (oM 155 30)::.gd 151 true (some 156) (oC 156 24 [152,153,154,155] [.thm,.int,.sequent,.int] (.p .bool))::o 157 (.pk 151 156 (cB false))::oM 6 157::[]))
 .ret))))))))))))))))⟩
def c4:XFn G:=⟨184,[.t 8],.pure [.p .bool],
 (sq [ob 4 0,ob 5 1,ob 6 2,ob 7 3,oM 8 (cB false)]
 (.seq (.jn ⟨[(53,.p .bool)],[],[4,5,6,7]⟩ (.ops [oL 40 .sequent 5,oC 41 5 [40] [.sequent] (.p .bool),oM 42 41,.gd 42 false (some 43) (oL 43 .sequent 6),.gd 42 false (some 44) (oC 44 5 [43] [.sequent] (.p .bool)),o 45 (.pk 42 (cB true) 44),oM 46 45,.gd 46 false (some 47) (oL 47 .sequent 7),.gd 46 false (some 48) (oC 48 5 [47] [.sequent] (.p .bool)),o 49 (.pk 46 (cB true) 48),oM 50 49,.gd 50 false (some 51) (oL 51 .tm 4),.gd 50 false (some 52) (oC 52 6 [51] [.tm] (.p .bool)),o 53 (.pk 50 (cB true) 52)])
 (.cond 53 (sq [oM 8 (cB true)]
  .ret)
  .skip))
 (sq [oC 54 8 [] [] (.p .theory),oA 9 39 z_theory,oS 0 .theory 9 54]
 (sq [oL 56 .theory 9,oL 57 .sequent 5,oC 58 7 [56,57] [.theory,.sequent] (tp [.thm,.bool]),oM 55 58,oE 59 55 0,oE 60 55 1,oA 10 35 z_thm,oS 0 .thm 10 59,oM 11 60]
 (sq [oL 62 .theory 9,oL 63 .sequent 6,oC 64 7 [62,63] [.theory,.sequent] (tp [.thm,.bool]),oM 61 64,oE 65 61 0,oE 66 61 1,oA 12 35 z_thm,oS 0 .thm 12 65,oM 13 66]
 (sq [oL 68 .theory 9,oL 69 .sequent 7,oC 70 7 [68,69] [.theory,.sequent] (tp [.thm,.bool]),oM 67 70,oE 71 67 0,oE 72 67 1,oA 14 35 z_thm,oS 0 .thm 14 71,oM 15 72]
 (.seq (.jn ⟨[(9,.ptr 0 0 []),(10,.ptr 1 0 []),(12,.ptr 2 0 []),(14,.ptr 3 0 []),(82,.p .bool)],[.keep,.keep,.keep,.keep],[4]⟩ (.ops [oM 73 11,o 74 (.un 73),oM 75 74,.gd 75 false (some 76) (oM 76 13),.gd 75 false (some 77) (o 77 (.un 76)),o 78 (.pk 75 (cB true) 77),oM 79 78,.gd 79 false (some 80) (oM 80 15),.gd 79 false (some 81) (o 81 (.un 80)),o 82 (.pk 79 (cB true) 81)])
 (.cond 82 (sq [oM 8 (cB true)]
  .ret)
  .skip))
 (sq [oL 84 .theory 9,oC 85 10 [84] [.theory] (tp [.signature,.int]),oM 83 85,oE 86 83 0,oE 87 83 1,oA 16 46 z_signature,oS 0 .signature 16 86,oM 17 87]
 (sq [oL 89 .thm 10,oC 90 9 [89] [.thm] (tp [.sequent,.theory]),oM 88 90,oE 91 88 0,oE 92 88 1,oA 18 29 z_sequent,oA 19 39 z_theory,oS 0 .sequent 18 91,oS 0 .theory 19 92]
 (sq [oL 94 .thm 12,oC 95 9 [94] [.thm] (tp [.sequent,.theory]),oM 93 95,oE 96 93 0,oE 97 93 1,oA 20 29 z_sequent,oA 21 39 z_theory,oS 0 .sequent 20 96,oS 0 .theory 21 97]
 (sq [oL 99 .thm 14,oC 100 9 [99] [.thm] (tp [.sequent,.theory]),oM 98 100,oE 101 98 0,oE 102 98 1,oA 22 29 z_sequent,oA 23 39 z_theory,oS 0 .sequent 22 101,oS 0 .theory 23 102]
 (sq [oL 104 .tm 4,oL 105 .thm 10,oL 106 .thm 12,oC 107 25 [104,105,106] [.tm,.thm,.thm] (tp [.thm,.int]),oM 103 107,oE 108 103 0,oE 109 103 1,oA 24 35 z_thm,oS 0 .thm 24 108,oM 25 109]
 (sq [oL 111 .signature 16,oL 112 .tm 4,oL 113 .sequent 18,oL 114 .sequent 20,oC 115 26 [111,112,113,114] [.signature,.tm,.sequent,.sequent] (tp [.sequent,.int]),oM 110 115,oE 116 110 0,oE 117 110 1,oA 26 29 z_sequent,oS 0 .sequent 26 116,oM 27 117]
 (sq [oL 119 .thm 10,oL 120 .thm 12,oL 121 .thm 14,o 122 (.bsl .thm [119,120,121]),oC 123 27 [122] [.lthm] (tp [.thm,.int]),oM 118 123,oE 124 118 0,oE 125 118 1,oA 28 35 z_thm,oS 0 .thm 28 124,oM 29 125]
 (sq [oL 127 .sequent 18,oL 128 .sequent 20,oL 129 .sequent 22,o 130 (.bsl .sequent [127,128,129]),oC 131 28 [130] [.lsequent] (tp [.sequent,.int]),oM 126 131,oE 132 126 0,oE 133 126 1,oA 30 29 z_sequent,oS 0 .sequent 30 132,oM 31 133]
 (sq [oL 135 .thm 10,oL 136 .thm 12,oC 137 29 [135,136] [.thm,.thm] (tp [.thm,.int]),oM 134 137,oE 138 134 0,oE 139 134 1,oA 32 35 z_thm,oS 0 .thm 32 138,oM 33 139]
 (sq [oL 141 .sequent 18,oL 142 .sequent 20,oC 143 30 [141,142] [.sequent,.sequent] (tp [.sequent,.int]),oM 140 143,oE 144 140 0,oE 145 140 1,oA 34 29 z_sequent,oS 0 .sequent 34 144,oM 35 145]
 (sq [oL 147 .thm 10,o 148 (.bsl .thm [147]),oC 149 27 [148] [.lthm] (tp [.thm,.int]),oM 146 149,oE 150 146 0,oE 151 146 1,oA 36 35 z_thm,oS 0 .thm 36 150,oM 37 151]
 (sq [oL 153 .sequent 18,o 154 (.bsl .sequent [153]),oC 155 28 [154] [.lsequent] (tp [.sequent,.int]),oM 152 155,oE 156 152 0,oE 157 152 1,oA 38 29 z_sequent,oS 0 .sequent 38 156,oM 39 157]
 (sq [oL 158 .thm 24,oM 159 25,oL 160 .sequent 26,oM 161 27,oC 162 24 [158,159,160,161] [.thm,.int,.sequent,.int] (.p .bool),oM 163 162,.gd 163 true (some 164) (oL 164 .thm 28),.gd 163 true (some 165) (oM 165 29),.gd 163 true (some 166) (oL 166 .sequent 30),.gd 163 true (some 167) (oM 167 31),.gd 163 true (some 168) (oC 168 24 [164,165,166,167] [.thm,.int,.sequent,.int] (.p .bool)),o 169 (.pk 163 168 (cB false)),oM 170 169,.gd 170 true (some 171) (oL 171 .thm 32),.gd 170 true (some 172) (oM 172 33),.gd 170 true (some 173) (oL 173 .sequent 34),.gd 170 true (some 174) (oM 174 35),.gd 170 true (some 175) (oC 175 24 [171,172,173,174] [.thm,.int,.sequent,.int] (.p .bool)),o 176 (.pk 170 175 (cB false)),oM 177 176,.gd 177 true (some 178) (oL 178 .thm 36),.gd 177 true (some 179) (oM 179 37),.gd 177 true (some 180) (oL 180 .sequent 38),.gd 177 true (some 181) (oM 181 39),.gd 177 true (some 182) (oC 182 24 [178,179,180,181] [.thm,.int,.sequent,.int] (.p .bool)),o 183 (.pk 177 182 (cB false)),oM 8 183]
 .ret))))))))))))))))))))⟩
def c5:XFn G:=⟨35,[.t 2],.pure [.p .bool],
 (sq [ob 1 0,oM 2 (cB false)]
 (sq [oF 5 .sequent 1 1,oL 6 .tm 5,oC 7 6 [6] [.tm] (.p .bool),oM 3 7]
 (.seq (sq [oM 4 (cI 0)]
 (.block 0 (.loop ⟨[(3,.p .bool),(4,.p .int)],[],[1]⟩ (.seq (.jn ⟨[(16,.p .bool)],[],[1,3,4]⟩ (.ops [oM 8 4,oF 9 .sequent 0 1,oL 10 .ltm 9,oU 11 10,oO 12 .lss 8 11,oM 13 12,.gd 13 true (some 14) (oM 14 4),.gd 13 true (some 15) (oO 15 .lss 14 (cI 80)),o 16 (.pk 13 15 (cB false))])
 (.cond 16 .skip
  (.exit 0)))
 (.jn ⟨[(3,.p .bool)],[],[1,4]⟩ (.block 1 (.ops [oM 19 3,oM 20 19,.gd 20 false (some 21) (oF 21 .sequent 0 1),.gd 20 false (some 22) (oL 22 .ltm 21),.gd 20 false (some 23) (oM 23 4),.gd 20 false (some 24) (oX 24 .tm 22 23),.gd 20 false (some 25) (oL 25 .tm 24),.gd 20 false (some 26) (oC 26 6 [25] [.tm] (.p .bool)),o 27 (.pk 20 (cB true) 26),oM 3 27]))
 (.ops [oM 17 4,o 18 (.inc 17 .i64),oM 4 18]))))))
 (sq [oM 28 3,oM 29 28,.gd 29 false (some 30) (oF 30 .sequent 0 1),.gd 29 false (some 31) (oL 31 .ltm 30),.gd 29 false (some 32) (oU 32 31),.gd 29 false (some 33) (oO 33 .gtr 32 (cI 80)),o 34 (.pk 29 (cB true) 33),oM 2 34]
 .ret))))⟩
def c6:XFn G:=⟨13,[.t 2],.pure [.p .bool],
 (sq [ob 1 0,oM 2 (cB false)]
 (.seq (sq [oL 3 .tm 1,oC 4 31 [3,(cI 2000),(cI 400)] [.tm,.int,.int] (.p .int),oO 5 .gtr 4 (cI 0)]
 (.cond 5 (sq [oM 2 (cB false)]
  .ret)
  .skip))
 (sq [oL 6 .tm 1,oC 7 31 [6,(cI 40000),(cI 400)] [.tm,.int,.int] (.p .int),oO 8 .leq 7 (cI 0),oM 9 8,.gd 9 false (some 10) (oL 10 .tm 1),.gd 9 false (some 11) (oC 11 32 [10] [.tm] (.p .bool)),o 12 (.pk 9 (cB true) 11),oM 2 12]
 .ret)))⟩
def c7:XFn G:=⟨66,[.c 4 .thm,.t 5],.pure [.p .thm,.p .bool],
 (sq [ob 2 0,ob 3 1,oA 4 35 z_thm,oM 5 (cB false)]
 (sq [oF 15 .sequent 1 3,oL 16 .tm 15,oC 17 33 [16] [.tm] (tp [.tm,.tm,.bool]),oM 14 17,oE 18 14 0,oE 19 14 1,oE 20 14 2,oA 6 27 z_tm,oA 7 27 z_tm,oS 0 .tm 6 18,oS 0 .tm 7 19,oM 8 20]
 (sq [oL 22 .theory 2,oF 23 .sequent 1 3,oL 24 .tm 23,oC 25 34 [22,24] [.theory,.tm] (tp [.thm,.int]),oM 21 25,oE 26 21 0,oE 27 21 1,oA 9 35 z_thm,oS 0 .thm 9 26,oM 10 27]
 (.jn ⟨[(4,.ptr 0 0 []),(9,.ptr 3 0 []),(10,.p .int)],[.keep,.gone,.gone,.box 35 (.p .thm)],[2,3]⟩ (.jn ⟨[(4,.ptr 0 0 []),(6,.ptr 1 0 []),(9,.ptr 3 0 []),(33,.p .bool)],[.keep,.keep,.gone,.keep],[2,3,10]⟩ (.ops [oM 28 8,oM 29 28,.gd 29 true (some 30) (oL 30 .tm 6),.gd 29 true (some 31) (oL 31 .tm 7),.gd 29 true (some 32) (oC 32 23 [30,31] [.tm,.tm] (.p .bool)),o 33 (.pk 29 32 (cB false))])
 (.cond 33 (.ops [oL 35 .theory 2,oL 36 .tm 6,oC 37 35 [35,36] [.theory,.tm] (tp [.thm,.int]),oM 34 37,oE 38 34 0,oE 39 34 1,oS 0 .thm 9 38,oM 10 39])
  .skip))
 (.seq (sq [oM 40 10,oO 41 .neq 40 (cI 0)]
 (.cond 41 (sq [o 42 (.bld .thm zs_thm []),oS 0 .thm 4 42,oM 5 (cB false)]
  .ret)
  .skip))
 (.seq (sq [oM 11 (cI 0)]
 (.block 0 (.loop ⟨[(4,.ptr 0 0 []),(9,.ptr 3 0 []),(11,.p .int)],[.box 35 (.p .thm),.gone,.gone,.box 35 (.p .thm)],[2,3]⟩ (.seq (sq [oM 43 11,oF 44 .sequent 0 3,oL 45 .ltm 44,oU 46 45,oO 47 .lss 43 46]
 (.cond 47 .skip
  (.exit 0)))
 (.seq (.block 1 (.seq (.draw [oI 51 .theory 2,oL 52 .thm 9,oF 53 .sequent 0 3,oI 54 .ltm 53,oM 55 11,oX 56 .tm 54 55,oI 57 .tm 56,oC 58 36 [51,52,57] [.theory,.thm,.tm] (tp [.thm,.bool]),oM 50 58,oE 59 50 0,oE 60 50 1,oA 12 35 z_thm,oS 1 .thm 12 59,oM 13 60])
 (.seq (sq [oM 61 13,o 62 (.un 61)]
 (.cond 62 (sq [o 63 (.bld .thm zs_thm []),oS 0 .thm 4 63,oM 5 (cB false)]
  .ret)
  .skip))
 (.ops [oL 64 .thm 12,oS 0 .thm 9 64]))))
 (.ops [oM 48 11,o 49 (.inc 48 .i64),oM 11 49]))))))
 (sq [oL 65 .thm 9,oS 0 .thm 4 65,oM 5 (cB true)]
 .ret)))))))⟩
def c8:XFn G:=⟨5,[.c 0 .theory],.pure [.p .theory],
 (sq [oA 0 39 z_theory]
 (sq [oC 1 37 [] [] (.p .signature),o 2 (.bld .node zs_node [(3,1)]),.a (some 3) (.bxm 85 2),o 4 (.bld .theory zs_theory [(0,3)]),oS 0 .theory 0 4]
 .ret))⟩
def c9:XFn G:=⟨20,[.c 2 .sequent,.c 3 .theory],.pure [.p .sequent,.p .theory],
 (sq [ob 1 0,oA 2 29 z_sequent,oA 3 39 z_theory]
 (sq [oL 9 .thm 1,oC 10 38 [9] [.thm] (tp [.sequent,.int]),oM 8 10,oE 11 8 0,oE 12 8 1,oA 4 29 z_sequent,oS 0 .sequent 4 11,oM 5 12]
 (sq [oL 14 .thm 1,oC 15 39 [14] [.thm] (tp [.theory,.int]),oM 13 15,oE 16 13 0,oE 17 13 1,oA 6 39 z_theory,oS 0 .theory 6 16,oM 7 17]
 (.seq (.draw [o 18 (.ldd .sequent 4 [2,3]),o 19 (.ldd .theory 6 [2,3]),oS 1 .sequent 2 18,oS 1 .theory 3 19])
 .ret))))⟩
def c10:XFn G:=⟨14,[.c 2 .signature,.t 3],.pure [.p .signature,.p .int],
 (sq [ob 1 0,oA 2 46 z_signature,oM 3 (cI 0)]
 (.seq (sq [oL 4 .theory 1,o 5 (.bsl .theory [4]),oC 6 40 [5] [.ltheory] (.p .bool)]
 (.cond 6 (sq [o 7 (.bld .signature zs_signature []),oS 0 .signature 2 7,oM 3 (cI 52)]
  .ret)
  .skip))
 (sq [oF 8 .theory 0 1,oL 9 .pnode 8,oN 10 9,oF 11 .node 3 10,oL 12 .signature 11,oC 13 41 [12] [.signature] (.p .signature),oS 0 .signature 2 13,oM 3 (cI 0)]
 .ret)))⟩
def c11:XFn G:=⟨23,[.c 2 .tm,.c 3 .tm,.t 4],.pure [.p .tm,.p .tm,.p .int],
 (sq [ob 1 0,oA 2 27 z_tm,oA 3 27 z_tm,oM 4 (cI 0)]
 (.seq (sq [oL 8 .thm 1,o 9 (.bsl .thm [8]),oC 10 42 [(.c (.ns .tm)),9] [.ltm,.lthm] (tp [.engine,.int]),oM 7 10,oE 11 7 0,oE 12 7 1,oA 5 93 z_engine,oS 0 .engine 5 11,oM 6 12]
 (sq [oM 13 6,oO 14 .neq 13 (cI 0)]
 (.cond 14 (sq [o 15 (.bld .tm zs_tm []),o 16 (.bld .tm zs_tm []),oM 17 6,oS 0 .tm 2 15,oS 0 .tm 3 16,oM 4 17]
  .ret)
  .skip)))
 (sq [oL 18 .thm 1,oC 19 43 [18] [.thm] (tp [.tm,.tm,.int]),oE 20 19 0,oE 21 19 1,oE 22 19 2,oS 0 .tm 2 20,oS 0 .tm 3 21,oM 4 22]
 .ret)))⟩
def c12:XFn G:=⟨31,[.c 2 .tm,.c 3 .tm,.t 4],.pure [.p .tm,.p .tm,.p .int],
 (sq [ob 1 0,oA 2 27 z_tm,oA 3 27 z_tm,oM 4 (cI 0)]
 (sq [o 9 (.bld .signature zs_signature []),oL 10 .sequent 1,o 11 (.bsl .sequent [10]),oC 12 44 [9,(.c (.ns .tm)),11] [.signature,.ltm,.lsequent] (.p .int),oM 5 12]
 (.seq (sq [oM 13 5,oO 14 .neq 13 (cI 0)]
 (.cond 14 (sq [o 15 (.bld .tm zs_tm []),o 16 (.bld .tm zs_tm []),oM 17 5,oS 0 .tm 2 15,oS 0 .tm 3 16,oM 4 17]
  .ret)
  .skip))
 (sq [oF 19 .sequent 1 1,oL 20 .tm 19,oC 21 33 [20] [.tm] (tp [.tm,.tm,.bool]),oM 18 21,oE 22 18 0,oE 23 18 1,oE 24 18 2,oA 6 27 z_tm,oA 7 27 z_tm,oS 0 .tm 6 22,oS 0 .tm 7 23,oM 8 24]
 (.seq (sq [oM 25 8,o 26 (.un 25)]
 (.cond 26 (sq [o 27 (.bld .tm zs_tm []),o 28 (.bld .tm zs_tm []),oS 0 .tm 2 27,oS 0 .tm 3 28,oM 4 (cI 50)]
  .ret)
  .skip))
 (.seq (.draw [o 29 (.ldd .tm 6 [2,3]),o 30 (.ldd .tm 7 [2,3]),oS 1 .tm 2 29,oS 1 .tm 3 30,oM 4 (cI 0)])
 .ret))))))⟩
def c13:XFn G:=⟨64,[.c 2 .thm,.t 3],.pure [.p .thm,.p .int],
 (sq [ob 1 0,oA 2 35 z_thm,oM 3 (cI 0)]
 (sq [oL 14 .thm 1,o 15 (.bsl .thm [14]),oC 16 42 [(.c (.ns .tm)),15] [.ltm,.lthm] (tp [.engine,.int]),oM 13 16,oE 17 13 0,oE 18 13 1,oA 4 93 z_engine,oS 0 .engine 4 17,oM 5 18]
 (.seq (sq [oM 19 5,oO 20 .neq 19 (cI 0)]
 (.cond 20 (sq [o 21 (.bld .thm zs_thm []),oM 22 5,oS 0 .thm 2 21,oM 3 22]
  .ret)
  .skip))
 (sq [oL 24 .thm 1,oC 25 43 [24] [.thm] (tp [.tm,.tm,.int]),oM 23 25,oE 26 23 0,oE 27 23 1,oE 28 23 2,oA 6 27 z_tm,oA 7 27 z_tm,oS 0 .tm 6 26,oS 0 .tm 7 27,oM 5 28]
 (.seq (sq [oM 29 5,oO 30 .neq 29 (cI 0)]
 (.cond 30 (sq [o 31 (.bld .thm zs_thm []),oM 32 5,oS 0 .thm 2 31,oM 3 32]
  .ret)
  .skip))
 (sq [oL 33 .thm 1,oC 34 45 [33] [.thm] (.p .tm),o 35 (.fld .tm 4 34),oX 36 .tm 35 (cI 0),oF 37 .tm 4 36,oL 38 .ltm 37,oX 39 .tm 38 (cI 0),oL 40 .tm 39,oA 8 27 z_tm,oS 0 .tm 8 40]
 (.seq (.draw [oL 42 .engine 4,oL 43 .tm 8,oC 44 47 [42,43] [.engine,.tm] (.p .thm),oI 45 .thm 1,oC 46 46 [44,45] [.thm,.thm] (tp [.thm,.int]),oM 41 46,oE 47 41 0,oE 48 41 1,oA 9 35 z_thm,oS 1 .thm 9 47,oM 10 48])
 (.seq (.draw [oL 50 .thm 9,oL 51 .engine 4,oL 52 .tm 6,oC 53 47 [51,52] [.engine,.tm] (.p .thm),oC 54 46 [50,53] [.thm,.thm] (tp [.thm,.int]),oM 49 54,oE 55 49 0,oE 56 49 1,oA 11 35 z_thm,oS 1 .thm 11 55,oM 12 56])
 (.seq (.draw [o 57 (.ldd .thm 11 [2]),o 58 (.ldd .engine 4 [2]),o 59 (.ldd .tm 6 [2]),oC 60 47 [58,59] [.engine,.tm] (.p .thm),oC 61 48 [57,60] [.thm,.thm] (tp [.thm,.int]),oE 62 61 0,oE 63 61 1,oS 1 .thm 2 62,oM 3 63])
 .ret)))))))))⟩
def c14:XFn G:=⟨30,[.c 2 .sequent,.t 3],.pure [.p .sequent,.p .int],
 (sq [ob 1 0,oA 2 29 z_sequent,oM 3 (cI 0)]
 (sq [oL 10 .sequent 1,oC 11 12 [10] [.sequent] (tp [.tm,.tm,.int]),oM 9 11,oE 12 9 0,oE 13 9 1,oE 14 9 2,oA 4 27 z_tm,oA 5 27 z_tm,oS 0 .tm 4 12,oS 0 .tm 5 13,oM 6 14]
 (.seq (sq [oM 15 6,oO 16 .neq 15 (cI 0)]
 (.cond 16 (sq [o 17 (.bld .sequent zs_sequent []),oM 18 6,oS 0 .sequent 2 17,oM 3 18]
  .ret)
  .skip))
 (.seq (.draw [oF 20 .sequent 0 1,oI 21 .ltm 20,oL 22 .tm 5,oL 23 .tm 4,oC 24 50 [22,23] [.tm,.tm] (.p .tm),oC 25 49 [21,24] [.ltm,.tm] (tp [.sequent,.int]),oM 19 25,oE 26 19 0,oE 27 19 1,oA 7 29 z_sequent,oS 1 .sequent 7 26,oM 8 27])
 (sq [oL 28 .sequent 7,oM 29 8,oS 0 .sequent 2 28,oM 3 29]
 .ret)))))⟩
def c15:XFn G:=⟨52,[.c 4 .thm,.t 5],.pure [.p .thm,.p .int],
 (sq [ob 2 0,ob 3 1,oA 4 35 z_thm,oM 5 (cI 0)]
 (sq [oL 13 .tm 2,o 14 (.bsl .tm [13]),oL 15 .thm 3,o 16 (.bsl .thm [15]),oC 17 42 [14,16] [.ltm,.lthm] (tp [.engine,.int]),oM 12 17,oE 18 12 0,oE 19 12 1,oA 6 93 z_engine,oS 0 .engine 6 18,oM 7 19]
 (.seq (sq [oM 20 7,oO 21 .neq 20 (cI 0)]
 (.cond 21 (sq [o 22 (.bld .thm zs_thm []),oM 23 7,oS 0 .thm 4 22,oM 5 23]
  .ret)
  .skip))
 (sq [oL 25 .thm 3,oC 26 43 [25] [.thm] (tp [.tm,.tm,.int]),oM 24 26,oE 27 24 0,oE 28 24 1,oE 29 24 2,oA 8 27 z_tm,oA 9 27 z_tm,oS 0 .tm 8 27,oS 0 .tm 9 28,oM 7 29]
 (.seq (sq [oM 30 7,oO 31 .neq 30 (cI 0)]
 (.cond 31 (sq [o 32 (.bld .thm zs_thm []),oM 33 7,oS 0 .thm 4 32,oM 5 33]
  .ret)
  .skip))
 (.seq (.seq (.draw [oI 35 .tm 2,oC 36 52 [35] [.tm] (.p .ty),oL 37 .tm 8,oC 38 52 [37] [.tm] (.p .ty),oC 39 51 [36,38] [.ty,.ty] (tp [.ty,.bool]),oM 34 39,oE 40 34 0,oE 41 34 1,oA 10 25 z_ty,oS 1 .ty 10 40,oM 11 41])
 (sq [oM 42 11,o 43 (.un 42)]
 (.cond 43 (sq [o 44 (.bld .thm zs_thm []),oS 0 .thm 4 44,oM 5 (cI 50)]
  .ret)
  .skip)))
 (.seq (.draw [o 45 (.ldd .engine 6 [4]),oI 46 .tm 2,oC 47 47 [45,46] [.engine,.tm] (.p .thm),oI 48 .thm 3,oC 49 46 [47,48] [.thm,.thm] (tp [.thm,.int]),oE 50 49 0,oE 51 49 1,oS 1 .thm 4 50,oM 5 51])
 .ret)))))))⟩
def c16:XFn G:=⟨62,[.c 6 .sequent,.t 7],.pure [.p .sequent,.p .int],
 (sq [ob 3 0,ob 4 1,ob 5 2,oA 6 29 z_sequent,oM 7 (cI 0)]
 (sq [oL 16 .signature 3,oL 17 .tm 4,o 18 (.bsl .tm [17]),oL 19 .sequent 5,o 20 (.bsl .sequent [19]),oC 21 44 [16,18,20] [.signature,.ltm,.lsequent] (.p .int),oM 8 21]
 (.seq (sq [oM 22 8,oO 23 .neq 22 (cI 0)]
 (.cond 23 (sq [o 24 (.bld .sequent zs_sequent []),oM 25 8,oS 0 .sequent 6 24,oM 7 25]
  .ret)
  .skip))
 (sq [oF 27 .sequent 1 5,oL 28 .tm 27,oC 29 33 [28] [.tm] (tp [.tm,.tm,.bool]),oM 26 29,oE 30 26 0,oE 31 26 1,oE 32 26 2,oA 9 27 z_tm,oA 10 27 z_tm,oS 0 .tm 9 30,oS 0 .tm 10 31,oM 11 32]
 (.seq (sq [oM 33 11,o 34 (.un 33)]
 (.cond 34 (sq [o 35 (.bld .sequent zs_sequent []),oS 0 .sequent 6 35,oM 7 (cI 50)]
  .ret)
  .skip))
 (.seq (.draw [oI 37 .tm 4,oC 38 54 [37] [.tm] (.p .ty),oL 39 .tm 9,oC 40 54 [39] [.tm] (.p .ty),oC 41 53 [38,40] [.ty,.ty] (tp [.ty,.bool]),oM 36 41,oE 42 36 0,oE 43 36 1,oA 12 25 z_ty,oS 1 .ty 12 42,oM 13 43])
 (.seq (sq [oM 44 13,o 45 (.un 44)]
 (.cond 45 (sq [o 46 (.bld .sequent zs_sequent []),oS 0 .sequent 6 46,oM 7 (cI 50)]
  .ret)
  .skip))
 (.seq (.draw [oF 48 .sequent 0 5,oI 49 .ltm 48,oI 50 .tm 4,oL 51 .tm 9,oC 52 55 [50,51] [.tm,.tm] (.p .tm),oI 53 .tm 4,oL 54 .tm 10,oC 55 55 [53,54] [.tm,.tm] (.p .tm),oC 56 50 [52,55] [.tm,.tm] (.p .tm),oC 57 49 [49,56] [.ltm,.tm] (tp [.sequent,.int]),oM 47 57,oE 58 47 0,oE 59 47 1,oA 14 29 z_sequent,oS 1 .sequent 14 58,oM 15 59])
 (sq [oL 60 .sequent 14,oM 61 15,oS 0 .sequent 6 60,oM 7 61]
 .ret)))))))))⟩
def c17:XFn G:=⟨52,[.c 4 .thm,.t 5],.pure [.p .thm,.p .int],
 (sq [ob 2 0,ob 3 1,oA 4 35 z_thm,oM 5 (cI 0)]
 (sq [oL 13 .tm 3,o 14 (.bsl .tm [13]),oL 15 .thm 2,o 16 (.bsl .thm [15]),oC 17 42 [14,16] [.ltm,.lthm] (tp [.engine,.int]),oM 12 17,oE 18 12 0,oE 19 12 1,oA 6 93 z_engine,oS 0 .engine 6 18,oM 7 19]
 (.seq (sq [oM 20 7,oO 21 .neq 20 (cI 0)]
 (.cond 21 (sq [o 22 (.bld .thm zs_thm []),oM 23 7,oS 0 .thm 4 22,oM 5 23]
  .ret)
  .skip))
 (sq [oL 25 .thm 2,oC 26 43 [25] [.thm] (tp [.tm,.tm,.int]),oM 24 26,oE 27 24 0,oE 28 24 1,oE 29 24 2,oA 8 27 z_tm,oA 9 27 z_tm,oS 0 .tm 8 27,oS 0 .tm 9 28,oM 7 29]
 (.seq (sq [oM 30 7,oO 31 .neq 30 (cI 0)]
 (.cond 31 (sq [o 32 (.bld .thm zs_thm []),oM 33 7,oS 0 .thm 4 32,oM 5 33]
  .ret)
  .skip))
 (.seq (.seq (.draw [oL 35 .tm 8,oC 36 52 [35] [.tm] (.p .ty),oI 37 .tm 3,oC 38 52 [37] [.tm] (.p .ty),oC 39 51 [36,38] [.ty,.ty] (tp [.ty,.bool]),oM 34 39,oE 40 34 0,oE 41 34 1,oA 10 25 z_ty,oS 1 .ty 10 40,oM 11 41])
 (sq [oM 42 11,o 43 (.un 42)]
 (.cond 43 (sq [o 44 (.bld .thm zs_thm []),oS 0 .thm 4 44,oM 5 (cI 50)]
  .ret)
  .skip)))
 (.seq (.draw [oI 45 .thm 2,o 46 (.ldd .engine 6 [4]),oI 47 .tm 3,oC 48 47 [46,47] [.engine,.tm] (.p .thm),oC 49 46 [45,48] [.thm,.thm] (tp [.thm,.int]),oE 50 49 0,oE 51 49 1,oS 1 .thm 4 50,oM 5 51])
 .ret)))))))⟩
def c18:XFn G:=⟨62,[.c 6 .sequent,.t 7],.pure [.p .sequent,.p .int],
 (sq [ob 3 0,ob 4 1,ob 5 2,oA 6 29 z_sequent,oM 7 (cI 0)]
 (sq [oL 16 .signature 3,oL 17 .tm 5,o 18 (.bsl .tm [17]),oL 19 .sequent 4,o 20 (.bsl .sequent [19]),oC 21 44 [16,18,20] [.signature,.ltm,.lsequent] (.p .int),oM 8 21]
 (.seq (sq [oM 22 8,oO 23 .neq 22 (cI 0)]
 (.cond 23 (sq [o 24 (.bld .sequent zs_sequent []),oM 25 8,oS 0 .sequent 6 24,oM 7 25]
  .ret)
  .skip))
 (sq [oF 27 .sequent 1 4,oL 28 .tm 27,oC 29 33 [28] [.tm] (tp [.tm,.tm,.bool]),oM 26 29,oE 30 26 0,oE 31 26 1,oE 32 26 2,oA 9 27 z_tm,oA 10 27 z_tm,oS 0 .tm 9 30,oS 0 .tm 10 31,oM 11 32]
 (.seq (sq [oM 33 11,o 34 (.un 33)]
 (.cond 34 (sq [o 35 (.bld .sequent zs_sequent []),oS 0 .sequent 6 35,oM 7 (cI 50)]
  .ret)
  .skip))
 (.seq (.draw [oL 37 .tm 9,oC 38 54 [37] [.tm] (.p .ty),oI 39 .tm 5,oC 40 54 [39] [.tm] (.p .ty),oC 41 53 [38,40] [.ty,.ty] (tp [.ty,.bool]),oM 36 41,oE 42 36 0,oE 43 36 1,oA 12 25 z_ty,oS 1 .ty 12 42,oM 13 43])
 (.seq (sq [oM 44 13,o 45 (.un 44)]
 (.cond 45 (sq [o 46 (.bld .sequent zs_sequent []),oS 0 .sequent 6 46,oM 7 (cI 50)]
  .ret)
  .skip))
 (.seq (.draw [oF 48 .sequent 0 4,oI 49 .ltm 48,oL 50 .tm 9,oI 51 .tm 5,oC 52 55 [50,51] [.tm,.tm] (.p .tm),oL 53 .tm 10,oI 54 .tm 5,oC 55 55 [53,54] [.tm,.tm] (.p .tm),oC 56 50 [52,55] [.tm,.tm] (.p .tm),oC 57 49 [49,56] [.ltm,.tm] (tp [.sequent,.int]),oM 47 57,oE 58 47 0,oE 59 47 1,oA 14 29 z_sequent,oS 1 .sequent 14 58,oM 15 59])
 (sq [oL 60 .sequent 14,oM 61 15,oS 0 .sequent 6 60,oM 7 61]
 .ret)))))))))⟩
def c19:XFn G:=⟨30,[.t 2],.pure [.p .int],
 (sq [ob 1 0,oM 2 (cI 0)]
 (sq [oL 8 .thm 1,oC 9 38 [8] [.thm] (tp [.sequent,.int]),oM 7 9,oE 10 7 0,oE 11 7 1,oA 3 29 z_sequent,oS 0 .sequent 3 10,oM 4 11]
 (.seq (sq [oM 12 4,oO 13 .neq 12 (cI 0)]
 (.cond 13 (sq [oM 14 4,oM 2 14]
  .ret)
  .skip))
 (.seq (sq [oF 15 .sequent 0 3,oL 16 .ltm 15,oU 17 16,oM 18 (cI 0)]
 (.block 0 (.loop ⟨[(3,.ptr 0 0 []),(18,.p .int)],[.keep],[16,17]⟩ (sq [oO 19 .lss 18 17]
 (.seq (.cond 19 .skip
  (.exit 0))
 (.seq (.block 1 (sq [oX 20 .tm 16 18,oL 21 .tm 20,oA 6 27 z_tm,oS 0 .tm 6 21]
 (sq [oL 22 .tm 6,oC 23 56 [22] [.tm] (.p .bool),o 24 (.un 23)]
 (.cond 24 (sq [oM 2 (cI 21)]
  .ret)
  .skip))))
 (.ops [o 25 (.inc 18 .i64),oM 18 25])))))))
 (.seq (sq [oF 26 .sequent 1 3,oL 27 .tm 26,oC 28 56 [27] [.tm] (.p .bool),o 29 (.un 28)]
 (.cond 29 (sq [oM 2 (cI 21)]
  .ret)
  .skip))
 (sq [oM 2 (cI 0)]
 .ret))))))⟩
def c20:XFn G:=⟨21,[.t 2],.pure [.p .bool],
 (sq [ob 1 0,oM 2 (cB false)]
 (.seq (sq [oM 3 (cI 0)]
 (.block 0 (.loop ⟨[(3,.p .int)],[],[1]⟩ (.seq (sq [oM 4 3,oF 5 .sequent 0 1,oL 6 .ltm 5,oU 7 6,oO 8 .lss 4 7]
 (.cond 8 .skip
  (.exit 0)))
 (.seq (.block 1 (sq [oF 11 .sequent 0 1,oL 12 .ltm 11,oM 13 3,oX 14 .tm 12 13,oL 15 .tm 14,oC 16 57 [15] [.tm] (.p .bool),o 17 (.un 16)]
 (.cond 17 (sq [oM 2 (cB false)]
  .ret)
  .skip)))
 (.ops [oM 9 3,o 10 (.inc 9 .i64),oM 3 10]))))))
 (sq [oF 18 .sequent 1 1,oL 19 .tm 18,oC 20 57 [19] [.tm] (.p .bool),oM 2 20]
 .ret)))⟩
def c21:XFn G:=⟨12,[.t 2],.pure [.p .int],
 (sq [ob 1 0,oM 2 (cI 0)]
 (.seq (sq [oL 4 .tm 1,oC 5 58 [4] [.tm] (.p .int),oM 3 5]
 (sq [oM 6 3,oO 7 .neq 6 (cI 0)]
 (.cond 7 (sq [oM 8 3,oM 2 8]
  .ret)
  .skip)))
 (.seq (sq [oL 9 .tm 1,oC 10 56 [9] [.tm] (.p .bool),o 11 (.un 10)]
 (.cond 11 (sq [oM 2 (cI 21)]
  .ret)
  .skip))
 (sq [oM 2 (cI 0)]
 .ret))))⟩
def c22:XFn G:=⟨14,[.t 2],.pure [.p .int],
 (sq [ob 1 0,oM 2 (cI 0)]
 (sq [oL 4 .tm 1,oC 5 59 [4] [.tm] (.p .int),oM 3 5]
 (.seq (.jn ⟨[(12,.p .bool)],[],[3]⟩ (.ops [oM 6 3,oO 7 .eql 6 (cI 0),oM 8 7,.gd 8 true (some 9) (oL 9 .tm 1),.gd 8 true (some 10) (oC 10 57 [9] [.tm] (.p .bool)),.gd 8 true (some 11) (o 11 (.un 10)),o 12 (.pk 8 11 (cB false))])
 (.cond 12 (sq [oM 2 (cI 21)]
  .ret)
  .skip))
 (sq [oM 13 3,oM 2 13]
 .ret))))⟩
def c23:XFn G:=⟨9,[.t 4],.pure [.p .bool],
 (sq [ob 2 0,ob 3 1,oM 4 (cB false)]
 (sq [oL 5 .tm 2,oL 6 .tm 3,oC 7 60 [5,6] [.tm,.tm] (.p .int),oO 8 .eql 7 (cI 0),oM 4 8]
 .ret))⟩
def c24:XFn G:=⟨30,[.t 8],.pure [.p .bool],
 (sq [ob 4 0,ob 6 2,oM 8 (cB false)]
 (sq [oL 12 .thm 4,oC 13 38 [12] [.thm] (tp [.sequent,.int]),oM 11 13,oE 14 11 0,oE 15 11 1,oA 9 29 z_sequent,oS 0 .sequent 9 14,oM 10 15]
 (.seq (sq [oM 16 1,oM 17 3,oO 18 .neq 16 17]
 (.cond 18 (sq [oM 8 (cB false)]
  .ret)
  .skip))
 (.seq (sq [oM 19 1,oO 20 .neq 19 (cI 0)]
 (.cond 20 (sq [oM 21 10,oO 22 .eql 21 (cI 52),oM 8 22]
  .ret)
  .skip))
 (sq [oM 23 10,oO 24 .eql 23 (cI 0),oM 25 24,.gd 25 true (some 26) (oL 26 .sequent 9),.gd 25 true (some 27) (oL 27 .sequent 6),.gd 25 true (some 28) (oC 28 61 [26,27] [.sequent,.sequent] (.p .bool)),o 29 (.pk 25 28 (cB false)),oM 8 29]
 .ret)))))⟩
def c25:XFn G:=⟨90,[.c 6 .thm,.t 7],.pure [.p .thm,.p .int],
 (sq [ob 3 0,ob 4 1,ob 5 2,oA 6 35 z_thm,oM 7 (cI 0)]
 (sq [oL 20 .tm 3,o 21 (.bsl .tm [20]),oL 22 .thm 4,oL 23 .thm 5,o 24 (.bsl .thm [22,23]),oC 25 42 [21,24] [.ltm,.lthm] (tp [.engine,.int]),oM 19 25,oE 26 19 0,oE 27 19 1,oA 8 93 z_engine,oS 0 .engine 8 26,oM 9 27]
 (.seq (sq [oM 28 9,oO 29 .neq 28 (cI 0)]
 (.cond 29 (sq [o 30 (.bld .thm zs_thm []),oM 31 9,oS 0 .thm 6 30,oM 7 31]
  .ret)
  .skip))
 (sq [oL 33 .thm 4,oC 34 43 [33] [.thm] (tp [.tm,.tm,.int]),oM 32 34,oE 35 32 0,oE 36 32 1,oE 37 32 2,oA 10 27 z_tm,oA 11 27 z_tm,oS 0 .tm 10 35,oS 0 .tm 11 36,oM 9 37]
 (.seq (sq [oM 38 9,oO 39 .neq 38 (cI 0)]
 (.cond 39 (sq [o 40 (.bld .thm zs_thm []),oM 41 9,oS 0 .thm 6 40,oM 7 41]
  .ret)
  .skip))
 (sq [oL 43 .thm 5,oC 44 43 [43] [.thm] (tp [.tm,.tm,.int]),oM 42 44,oE 45 42 0,oE 46 42 1,oE 47 42 2,oA 12 27 z_tm,oA 13 27 z_tm,oS 0 .tm 12 45,oS 0 .tm 13 46,oM 9 47]
 (.seq (sq [oM 48 9,oO 49 .neq 48 (cI 0)]
 (.cond 49 (sq [o 50 (.bld .thm zs_thm []),oM 51 9,oS 0 .thm 6 50,oM 7 51]
  .ret)
  .skip))
 (.seq (.draw [oI 53 .tm 3,oC 54 52 [53] [.tm] (.p .ty),oL 55 .tm 10,oC 56 52 [55] [.tm] (.p .ty),oC 57 51 [54,56] [.ty,.ty] (tp [.ty,.bool]),oM 52 57,oE 58 52 0,oE 59 52 1,oA 14 25 z_ty,oS 1 .ty 14 58,oM 15 59])
 (.seq (sq [oM 60 15,o 61 (.un 60)]
 (.cond 61 (sq [o 62 (.bld .thm zs_thm []),oS 0 .thm 6 62,oM 7 (cI 50)]
  .ret)
  .skip))
 (.seq (.seq (.draw [oL 64 .ty 14,oL 65 .tm 12,oC 66 52 [65] [.tm] (.p .ty),oC 67 51 [64,66] [.ty,.ty] (tp [.ty,.bool]),oM 63 67,oE 68 63 0,oE 69 63 1,oA 16 25 z_ty,oS 1 .ty 16 68,oM 17 69])
 (sq [oM 70 17,o 71 (.un 70)]
 (.cond 71 (sq [o 72 (.bld .thm zs_thm []),oS 0 .thm 6 72,oM 7 (cI 50)]
  .ret)
  .skip)))
 (.seq (.draw [oL 74 .engine 8,oI 75 .tm 3,oC 76 47 [74,75] [.engine,.tm] (.p .thm),oI 77 .thm 4,oC 78 46 [76,77] [.thm,.thm] (tp [.thm,.int]),oM 73 78,oE 79 73 0,oE 80 73 1,oA 18 35 z_thm,oS 1 .thm 18 79,oM 9 80])
 (.seq (sq [oM 81 9,oO 82 .neq 81 (cI 0)]
 (.cond 82 (sq [o 83 (.bld .thm zs_thm []),oM 84 9,oS 0 .thm 6 83,oM 7 84]
  .ret)
  .skip))
 (sq [oL 85 .thm 18,oL 86 .thm 5,oC 87 46 [85,86] [.thm,.thm] (tp [.thm,.int]),oE 88 87 0,oE 89 87 1,oS 0 .thm 6 88,oM 7 89]
 .ret)))))))))))))⟩
def c26:XFn G:=⟨96,[.c 8 .sequent,.t 9],.pure [.p .sequent,.p .int],
 (sq [ob 4 0,ob 5 1,ob 6 2,ob 7 3,oA 8 29 z_sequent,oM 9 (cI 0)]
 (sq [oL 21 .signature 4,oL 22 .tm 5,o 23 (.bsl .tm [22]),oL 24 .sequent 6,oL 25 .sequent 7,o 26 (.bsl .sequent [24,25]),oC 27 44 [21,23,26] [.signature,.ltm,.lsequent] (.p .int),oM 10 27]
 (.seq (sq [oM 28 10,oO 29 .neq 28 (cI 0)]
 (.cond 29 (sq [o 30 (.bld .sequent zs_sequent []),oM 31 10,oS 0 .sequent 8 30,oM 9 31]
  .ret)
  .skip))
 (sq [oF 33 .sequent 1 6,oL 34 .tm 33,oC 35 33 [34] [.tm] (tp [.tm,.tm,.bool]),oM 32 35,oE 36 32 0,oE 37 32 1,oE 38 32 2,oA 11 27 z_tm,oA 12 27 z_tm,oS 0 .tm 11 36,oS 0 .tm 12 37,oM 13 38]
 (sq [oF 40 .sequent 1 7,oL 41 .tm 40,oC 42 33 [41] [.tm] (tp [.tm,.tm,.bool]),oM 39 42,oE 43 39 0,oE 44 39 1,oE 45 39 2,oA 14 27 z_tm,oA 15 27 z_tm,oS 0 .tm 14 43,oS 0 .tm 15 44,oM 16 45]
 (.seq (.jn ⟨[(8,.ptr 0 0 []),(11,.ptr 1 0 []),(12,.ptr 2 0 []),(14,.ptr 3 0 []),(15,.ptr 4 0 []),(51,.p .bool)],[.keep,.keep,.keep,.keep,.keep],[5,6,7]⟩ (.ops [oM 46 13,o 47 (.un 46),oM 48 47,.gd 48 false (some 49) (oM 49 16),.gd 48 false (some 50) (o 50 (.un 49)),o 51 (.pk 48 (cB true) 50)])
 (.cond 51 (sq [o 52 (.bld .sequent zs_sequent []),oS 0 .sequent 8 52,oM 9 (cI 50)]
  .ret)
  .skip))
 (.seq (.draw [oI 54 .tm 5,oC 55 54 [54] [.tm] (.p .ty),oL 56 .tm 11,oC 57 54 [56] [.tm] (.p .ty),oC 58 53 [55,57] [.ty,.ty] (tp [.ty,.bool]),oM 53 58,oE 59 53 0,oE 60 53 1,oA 17 25 z_ty,oS 1 .ty 17 59,oM 18 60])
 (.seq (sq [oM 61 18,o 62 (.un 61)]
 (.cond 62 (sq [o 63 (.bld .sequent zs_sequent []),oS 0 .sequent 8 63,oM 9 (cI 50)]
  .ret)
  .skip))
 (.seq (.draw [oL 65 .ty 17,oL 66 .tm 14,oC 67 54 [66] [.tm] (.p .ty),oC 68 53 [65,67] [.ty,.ty] (tp [.ty,.bool]),oM 64 68,oE 69 64 0,oE 70 64 1,oM 18 70])
 (.seq (sq [oM 71 18,o 72 (.un 71)]
 (.cond 72 (sq [o 73 (.bld .sequent zs_sequent []),oS 0 .sequent 8 73,oM 9 (cI 50)]
  .ret)
  .skip))
 (.seq (.draw [oF 75 .sequent 0 6,oI 76 .ltm 75,oF 77 .sequent 0 7,oI 78 .ltm 77,oC 79 62 [76,78] [.ltm,.ltm] (.p .ltm),oI 80 .tm 5,oL 81 .tm 11,oC 82 55 [80,81] [.tm,.tm] (.p .tm),oL 83 .tm 14,oC 84 55 [82,83] [.tm,.tm] (.p .tm),oI 85 .tm 5,oL 86 .tm 12,oC 87 55 [85,86] [.tm,.tm] (.p .tm),oL 88 .tm 15,oC 89 55 [87,88] [.tm,.tm] (.p .tm),oC 90 50 [84,89] [.tm,.tm] (.p .tm),oC 91 49 [79,90] [.ltm,.tm] (tp [.sequent,.int]),oM 74 91,oE 92 74 0,oE 93 74 1,oA 19 29 z_sequent,oS 1 .sequent 19 92,oM 20 93])
 (sq [oL 94 .sequent 19,oM 95 20,oS 0 .sequent 8 94,oM 9 95]
 .ret))))))))))))⟩
def c27:XFn G:=⟨88,[.c 2 .thm,.t 3],.pure [.p .thm,.p .int],
 (sq [oA 2 35 z_thm,oM 3 (cI 0)]
 (.seq (sq [oM 17 0,oU 18 17,oO 19 .eql 18 (cI 0)]
 (.cond 19 (sq [o 20 (.bld .thm zs_thm []),oS 0 .thm 2 20,oM 3 (cI 50)]
  .ret)
  .skip))
 (.seq (sq [oM 22 0,oC 23 42 [(.c (.ns .tm)),22] [.ltm,.lthm] (tp [.engine,.int]),oM 21 23,oE 24 21 0,oE 25 21 1,oA 4 93 z_engine,oS 0 .engine 4 24,oM 5 25]
 (sq [oM 26 5,oO 27 .neq 26 (cI 0)]
 (.cond 27 (sq [o 28 (.bld .thm zs_thm []),oM 29 5,oS 0 .thm 2 28,oM 3 29]
  .ret)
  .skip)))
 (sq [oM 31 0,oX 32 .thm 31 (cI 0),oL 33 .thm 32,oC 34 43 [33] [.thm] (tp [.tm,.tm,.int]),oM 30 34,oE 35 30 0,oE 36 30 1,oE 37 30 2,oA 6 27 z_tm,oA 7 27 z_tm,oS 0 .tm 6 35,oS 0 .tm 7 36,oM 8 37]
 (.seq (sq [oM 38 8,oO 39 .neq 38 (cI 0)]
 (.cond 39 (sq [o 40 (.bld .thm zs_thm []),oM 41 8,oS 0 .thm 2 40,oM 3 41]
  .ret)
  .skip))
 (.seq (sq [oM 42 0,o 43 (.slc .thm 42 (some (cI 1)) none none),oU 44 43,oM 45 (cI 0)]
 (.block 0 (.loop ⟨[(2,.ptr 0 0 []),(7,.ptr 3 0 []),(45,.p .int)],[.box 35 (.p .thm),.gone,.gone,.box 27 (.p .tm)],[0,43,44]⟩ (sq [oO 46 .lss 45 44]
 (.seq (.cond 46 .skip
  (.exit 0))
 (.seq (.block 1 (sq [oX 47 .thm 43 45,oL 48 .thm 47,oA 10 35 z_thm,oS 0 .thm 10 48]
 (sq [oL 50 .thm 10,oC 51 43 [50] [.thm] (tp [.tm,.tm,.int]),oM 49 51,oE 52 49 0,oE 53 49 1,oE 54 49 2,oA 11 27 z_tm,oA 12 27 z_tm,oS 0 .tm 11 52,oS 0 .tm 12 53,oM 13 54]
 (.seq (sq [oM 55 13,oO 56 .neq 55 (cI 0)]
 (.cond 56 (sq [o 57 (.bld .thm zs_thm []),oM 58 13,oS 0 .thm 2 57,oM 3 58]
  .ret)
  .skip))
 (.seq (sq [oL 59 .tm 11,oL 60 .tm 7,oC 61 63 [59,60] [.tm,.tm] (.p .bool),o 62 (.un 61)]
 (.cond 62 (sq [o 63 (.bld .thm zs_thm []),oS 0 .thm 2 63,oM 3 (cI 50)]
  .ret)
  .skip))
 (.ops [oL 64 .tm 12,oS 0 .tm 7 64]))))))
 (.ops [o 65 (.inc 45 .i64),oM 45 65])))))))
 (sq [oM 66 0,oX 67 .thm 66 (cI 0),oL 68 .thm 67,oA 14 35 z_thm,oS 0 .thm 14 68]
 (.seq (sq [oM 69 0,o 70 (.slc .thm 69 (some (cI 1)) none none),oU 71 70,oM 72 (cI 0)]
 (.block 2 (.loop ⟨[(2,.ptr 0 0 []),(14,.ptr 4 0 []),(72,.p .int)],[.box 35 (.p .thm),.gone,.gone,.gone,.box 35 (.p .thm)],[0,43,44,70,71]⟩ (sq [oO 73 .lss 72 71]
 (.seq (.cond 73 .skip
  (.exit 2))
 (.seq (.block 3 (sq [oX 74 .thm 70 72,oL 75 .thm 74,oA 16 35 z_thm,oS 0 .thm 16 75]
 (sq [oL 77 .thm 14,oL 78 .thm 16,oC 79 64 [77,78] [.thm,.thm] (tp [.thm,.int]),oM 76 79,oE 80 76 0,oE 81 76 1,oS 0 .thm 14 80,oM 8 81]
 (sq [oM 82 8,oO 83 .neq 82 (cI 0)]
 (.cond 83 (sq [o 84 (.bld .thm zs_thm []),oM 85 8,oS 0 .thm 2 84,oM 3 85]
  .ret)
  .skip)))))
 (.ops [o 86 (.inc 72 .i64),oM 72 86])))))))
 (sq [oL 87 .thm 14,oS 0 .thm 2 87,oM 3 (cI 0)]
 .ret)))))))))⟩
def c28:XFn G:=⟨85,[.c 2 .sequent,.t 3],.pure [.p .sequent,.p .int],
 (sq [oA 2 29 z_sequent,oM 3 (cI 0)]
 (.seq (sq [oM 15 0,oU 16 15,oO 17 .eql 16 (cI 0)]
 (.cond 17 (sq [o 18 (.bld .sequent zs_sequent []),oS 0 .sequent 2 18,oM 3 (cI 50)]
  .ret)
  .skip))
 (sq [o 19 (.bld .signature zs_signature []),oM 20 0,oC 21 44 [19,(.c (.ns .tm)),20] [.signature,.ltm,.lsequent] (.p .int),oM 4 21]
 (.seq (sq [oM 22 4,oO 23 .neq 22 (cI 0)]
 (.cond 23 (sq [o 24 (.bld .sequent zs_sequent []),oM 25 4,oS 0 .sequent 2 24,oM 3 25]
  .ret)
  .skip))
 (sq [oM 27 0,oX 28 .sequent 27 (cI 0),oF 29 .sequent 1 28,oL 30 .tm 29,oC 31 33 [30] [.tm] (tp [.tm,.tm,.bool]),oM 26 31,oE 32 26 0,oE 33 26 1,oE 34 26 2,oA 5 27 z_tm,oA 6 27 z_tm,oS 0 .tm 5 32,oS 0 .tm 6 33,oM 7 34]
 (.seq (sq [oM 35 7,o 36 (.un 35)]
 (.cond 36 (sq [o 37 (.bld .sequent zs_sequent []),oS 0 .sequent 2 37,oM 3 (cI 50)]
  .ret)
  .skip))
 (sq [oM 38 0,oX 39 .sequent 38 (cI 0),oF 40 .sequent 0 39,oL 41 .ltm 40,oM 8 41]
 (.seq (sq [oM 9 (cI 1)]
 (.block 0 (.loop ⟨[(2,.ptr 0 0 []),(5,.ptr 1 0 []),(6,.ptr 2 0 []),(8,.p .ltm),(9,.p .int)],[.box 29 (.p .sequent),.keep,.box 27 (.p .tm)],[0]⟩ (.seq (sq [oM 42 9,oM 43 0,oU 44 43,oO 45 .lss 42 44]
 (.cond 45 .skip
  (.exit 0)))
 (.seq (.block 1 (sq [oM 49 0,oM 50 9,oX 51 .sequent 49 50,oF 52 .sequent 1 51,oL 53 .tm 52,oC 54 33 [53] [.tm] (tp [.tm,.tm,.bool]),oM 48 54,oE 55 48 0,oE 56 48 1,oE 57 48 2,oA 10 27 z_tm,oA 11 27 z_tm,oS 0 .tm 10 55,oS 0 .tm 11 56,oM 12 57]
 (.seq (.jn ⟨[(2,.ptr 0 0 []),(5,.ptr 1 0 []),(6,.ptr 2 0 []),(11,.ptr 4 0 []),(65,.p .bool)],[.keep,.keep,.keep,.gone,.keep],[0,8,9]⟩ (.ops [oM 58 12,o 59 (.un 58),oM 60 59,.gd 60 false (some 61) (oL 61 .tm 10),.gd 60 false (some 62) (oL 62 .tm 6),.gd 60 false (some 63) (oC 63 23 [61,62] [.tm,.tm] (.p .bool)),.gd 60 false (some 64) (o 64 (.un 63)),o 65 (.pk 60 (cB true) 64)])
 (.cond 65 (sq [o 66 (.bld .sequent zs_sequent []),oS 0 .sequent 2 66,oM 3 (cI 50)]
  .ret)
  .skip))
 (sq [oL 67 .tm 11,oS 0 .tm 6 67]
 (.ops [oM 68 8,oM 69 0,oM 70 9,oX 71 .sequent 69 70,oF 72 .sequent 0 71,oL 73 .ltm 72,oC 74 62 [68,73] [.ltm,.ltm] (.p .ltm),oM 8 74])))))
 (.ops [oM 46 9,o 47 (.inc 46 .i64),oM 9 47]))))))
 (sq [oM 76 8,oL 77 .tm 5,oL 78 .tm 6,oC 79 50 [77,78] [.tm,.tm] (.p .tm),oC 80 49 [76,79] [.ltm,.tm] (tp [.sequent,.int]),oM 75 80,oE 81 75 0,oE 82 75 1,oA 13 29 z_sequent,oS 0 .sequent 13 81,oM 14 82]
 (sq [oL 83 .sequent 13,oM 84 14,oS 0 .sequent 2 83,oM 3 84]
 .ret))))))))))⟩
def c29:XFn G:=⟨36,[.c 4 .thm,.t 5],.pure [.p .thm,.p .int],
 (sq [ob 2 0,ob 3 1,oA 4 35 z_thm,oM 5 (cI 0)]
 (.seq (sq [oL 11 .thm 2,oL 12 .thm 3,o 13 (.bsl .thm [11,12]),oC 14 42 [(.c (.ns .tm)),13] [.ltm,.lthm] (tp [.engine,.int]),oM 10 14,oE 15 10 0,oE 16 10 1,oA 6 93 z_engine,oS 0 .engine 6 15,oM 7 16]
 (sq [oM 17 7,oO 18 .neq 17 (cI 0)]
 (.cond 18 (sq [o 19 (.bld .thm zs_thm []),oM 20 7,oS 0 .thm 4 19,oM 5 20]
  .ret)
  .skip)))
 (sq [oL 22 .thm 2,oL 23 .thm 3,oC 24 65 [22,23] [.thm,.thm] (tp [.thm,.int]),oM 21 24,oE 25 21 0,oE 26 21 1,oA 8 35 z_thm,oS 0 .thm 8 25,oM 9 26]
 (.seq (sq [oM 27 9,oO 28 .neq 27 (cI 0)]
 (.cond 28 (sq [o 29 (.bld .thm zs_thm []),oM 30 9,oS 0 .thm 4 29,oM 5 30]
  .ret)
  .skip))
 (sq [oL 31 .thm 8,oL 32 .thm 2,oC 33 48 [31,32] [.thm,.thm] (tp [.thm,.int]),oE 34 33 0,oE 35 33 1,oS 0 .thm 4 34,oM 5 35]
 .ret)))))⟩
def c30:XFn G:=⟨34,[.c 4 .sequent,.t 5],.pure [.p .sequent,.p .int],
 (sq [ob 2 0,ob 3 1,oA 4 29 z_sequent,oM 5 (cI 0)]
 (sq [o 9 (.bld .signature zs_signature []),oL 10 .sequent 2,oL 11 .sequent 3,o 12 (.bsl .sequent [10,11]),oC 13 44 [9,(.c (.ns .tm)),12] [.signature,.ltm,.lsequent] (.p .int),oM 6 13]
 (.seq (sq [oM 14 6,oO 15 .neq 14 (cI 0)]
 (.cond 15 (sq [o 16 (.bld .sequent zs_sequent []),oM 17 6,oS 0 .sequent 4 16,oM 5 17]
  .ret)
  .skip))
 (.seq (.draw [oF 19 .sequent 0 2,oI 20 .ltm 19,oF 21 .sequent 0 3,oI 22 .ltm 21,oF 23 .sequent 1 2,oI 24 .tm 23,oC 25 66 [22,24] [.ltm,.tm] (.p .ltm),oC 26 62 [20,25] [.ltm,.ltm] (.p .ltm),oF 27 .sequent 1 3,oI 28 .tm 27,oC 29 49 [26,28] [.ltm,.tm] (tp [.sequent,.int]),oM 18 29,oE 30 18 0,oE 31 18 1,oA 7 29 z_sequent,oS 1 .sequent 7 30,oM 8 31])
 (sq [oL 32 .sequent 7,oM 33 8,oS 0 .sequent 4 32,oM 5 33]
 .ret)))))⟩
def c31:XFn G:=⟨43,[.t 6],.pure [.p .int],
 (sq [ob 3 0,oM 6 (cI 0)]
 (.seq (.jn ⟨[(14,.p .bool)],[],[1,2,3]⟩ (.ops [oM 8 2,oO 9 .eql 8 (cI 0),oM 10 9,.gd 10 false (some 11) (oF 11 .tm 2 3),.gd 10 false (some 12) (oL 12 .ty 11),.gd 10 false (some 13) (oC 13 67 [12] [.ty] (.p .bool)),o 14 (.pk 10 (cB true) 13)])
 (.cond 14 (sq [oM 6 (cI 0)]
  .ret)
  .skip))
 (sq [oM 15 1,o 16 (.dcr 15 .i64),oF 17 .tm 1 3,oL 18 .str 17,o 19 (.lens 18),oO 20 .quo 19 (cI 100),oO 21 .sub 16 20,oM 1 21]
 (.seq (sq [oM 7 (cI 0)]
 (.block 0 (.loop ⟨[(1,.p .int),(7,.p .int)],[],[2,3]⟩ (.seq (.jn ⟨[(30,.p .bool)],[],[1,2,3,7]⟩ (.ops [oM 22 7,oF 23 .tm 4 3,oL 24 .ltm 23,oU 25 24,oO 26 .lss 22 25,oM 27 26,.gd 27 true (some 28) (oM 28 1),.gd 27 true (some 29) (oO 29 .gtr 28 (cI 0)),o 30 (.pk 27 29 (cB false))])
 (.cond 30 .skip
  (.exit 0)))
 (.seq (.block 1 (.ops [oF 33 .tm 4 3,oL 34 .ltm 33,oM 35 7,oX 36 .tm 34 35,oL 37 .tm 36,oM 38 1,oM 39 2,o 40 (.dcr 39 .i64),oC 41 31 [37,38,40] [.tm,.int,.int] (.p .int),oM 1 41]))
 (.ops [oM 31 7,o 32 (.inc 31 .i64),oM 7 32]))))))
 (sq [oM 42 1,oM 6 42]
 .ret)))))⟩
def c32:XFn G:=⟨11,[.t 2],.pure [.p .bool],
 (sq [ob 1 0,oM 2 (cB false)]
 (sq [oL 3 .tm 1,oC 4 68 [3] [.tm] (.p .int),oO 5 .leq 4 (cI 32000),oM 6 5,.gd 6 true (some 7) (oL 7 .tm 1),.gd 6 true (some 8) (oC 8 69 [7] [.tm] (.p .int)),.gd 6 true (some 9) (oO 9 .leq 8 (cI 300)),o 10 (.pk 6 9 (cB false)),oM 2 10]
 .ret))⟩
def c33:XFn G:=⟨62,[.c 2 .tm,.c 3 .tm,.t 4],.pure [.p .tm,.p .tm,.p .bool],
 (sq [ob 1 0,oA 2 27 z_tm,oA 3 27 z_tm,oM 4 (cB false)]
 (.jn ⟨[(2,.ptr 0 0 []),(3,.ptr 1 0 [])],[.box 27 (.p .tm),.box 27 (.p .tm)],[]⟩ (.jn ⟨[(2,.ptr 0 0 []),(3,.ptr 1 0 []),(31,.p .bool)],[.keep,.keep],[1]⟩ (.ops [oF 6 .tm 0 1,oL 7 .u8 6,o 8 (.bi .eql 7 (.c (.v .u8 (4:Int)))),oM 9 8,.gd 9 true (some 10) (oF 10 .tm 4 1),.gd 9 true (some 11) (oL 11 .ltm 10),.gd 9 true (some 12) (oU 12 11),.gd 9 true (some 13) (oO 13 .eql 12 (cI 2)),o 14 (.pk 9 13 (cB false)),oM 15 14,.gd 15 true (some 16) (oF 16 .tm 4 1),.gd 15 true (some 17) (oL 17 .ltm 16),.gd 15 true (some 18) (oX 18 .tm 17 (cI 0)),.gd 15 true (some 19) (oF 19 .tm 0 18),.gd 15 true (some 20) (oL 20 .u8 19),.gd 15 true (some 21) (o 21 (.bi .eql 20 (.c (.v .u8 (4:Int))))),o 22 (.pk 15 21 (cB false)),oM 23 22,.gd 23 true (some 24) (oF 24 .tm 4 1),.gd 23 true (some 25) (oL 25 .ltm 24),.gd 23 true (some 26) (oX 26 .tm 25 (cI 0)),.gd 23 true (some 27) (oF 27 .tm 4 26),.gd 23 true (some 28) (oL 28 .ltm 27),.gd 23 true (some 29) (oU 29 28),.gd 23 true (some 30) (oO 30 .eql 29 (cI 2)),o 31 (.pk 23 30 (cB false))])
 (.cond 31 (sq [oF 32 .tm 4 1,oL 33 .ltm 32,oX 34 .tm 33 (cI 0),oF 35 .tm 4 34,oL 36 .ltm 35,oX 37 .tm 36 (cI 0),oL 38 .tm 37,oA 5 27 z_tm,oS 0 .tm 5 38]
  (.jn ⟨[(2,.ptr 0 0 []),(3,.ptr 1 0 []),(46,.p .bool)],[.keep,.keep],[1]⟩ (.ops [oF 39 .tm 0 5,oL 40 .u8 39,o 41 (.bi .eql 40 (.c (.v .u8 (2:Int)))),oM 42 41,.gd 42 true (some 43) (oF 43 .tm 1 5),.gd 42 true (some 44) (oL 44 .str 43),.gd 42 true (some 45) (o 45 (.bi .eql 44 (.c (.v .str (⟨#[61]⟩:ByteArray))))),o 46 (.pk 42 45 (cB false))])
  (.cond 46 (.seq (.draw [oF 47 .tm 4 1,oI 48 .ltm 47,oX 49 .tm 48 (cI 0),oF 50 .tm 4 49,oI 51 .ltm 50,oX 52 .tm 51 (cI 1),oI 53 .tm 52,oC 54 70 [53] [.tm] (.p .tm),oF 55 .tm 4 1,oI 56 .ltm 55,oX 57 .tm 56 (cI 1),oI 58 .tm 57,oC 59 70 [58] [.tm] (.p .tm),oS 1 .tm 2 54,oS 1 .tm 3 59,oM 4 (cB true)])
   .ret)
   .skip)))
  .skip))
 (sq [o 60 (.bld .tm zs_tm []),o 61 (.bld .tm zs_tm []),oS 0 .tm 2 60,oS 0 .tm 3 61,oM 4 (cB false)]
 .ret)))⟩
def c34:XFn G:=⟨27,[.c 4 .thm,.t 5],.pure [.p .thm,.p .int],
 (sq [ob 2 0,.a (some 3) (.bxm 27 1),oA 4 35 z_thm,oM 5 (cI 0)]
 (.seq (sq [oL 7 .theory 2,oL 8 .tm 3,oC 9 71 [7,8] [.theory,.tm] (.p .int),oM 6 9]
 (sq [oM 10 6,oO 11 .neq 10 (cI 0)]
 (.cond 11 (sq [o 12 (.bld .thm zs_thm []),oM 13 6,oS 0 .thm 4 12,oM 5 13]
  .ret)
  .skip)))
 (.seq (sq [oL 14 .tm 3,oC 15 72 [14] [.tm] (.p .bool),o 16 (.un 15)]
 (.cond 16 (sq [o 17 (.bld .thm zs_thm []),oS 0 .thm 4 17,oM 5 (cI 50)]
  .ret)
  .skip))
 (sq [oL 18 .tm 3,oC 19 73 [18] [.tm] (.p .tm),oS 0 .tm 3 19]
 (sq [oF 20 .theory 0 2,oL 21 .pnode 20,oL 22 .tm 3,o 23 (.bsl .tm [22]),oL 24 .tm 3,o 25 (.bld .sequent zs_sequent [(0,23),(1,24)]),oC 26 74 [21,25] [.pnode,.sequent] (.p .thm),oS 0 .thm 4 26,oM 5 (cI 0)]
 .ret)))))⟩
def c35:XFn G:=⟨37,[.c 4 .thm,.t 5],.pure [.p .thm,.p .int],
 (sq [ob 2 0,.a (some 3) (.bxm 27 1),oA 4 35 z_thm,oM 5 (cI 0)]
 (sq [oL 10 .theory 2,oL 11 .tm 3,oC 12 75 [10,11] [.theory,.tm] (tp [.ty,.int]),oM 9 12,oE 13 9 0,oE 14 9 1,oA 6 25 z_ty,oS 0 .ty 6 13,oM 7 14]
 (.seq (sq [oM 15 7,oO 16 .neq 15 (cI 0)]
 (.cond 16 (sq [o 17 (.bld .thm zs_thm []),oM 18 7,oS 0 .thm 4 17,oM 5 18]
  .ret)
  .skip))
 (sq [oL 19 .tm 3,oC 20 73 [19] [.tm] (.p .tm),oS 0 .tm 3 20]
 (sq [oL 22 .tm 3,oL 23 .tm 3,oL 24 .ty 6,oC 25 76 [22,23,24] [.tm,.tm,.ty] (tp [.tm,.int]),oM 21 25,oE 26 21 0,oE 27 21 1,oA 8 27 z_tm,oS 0 .tm 8 26,oM 7 27]
 (.seq (sq [oM 28 7,oO 29 .neq 28 (cI 0)]
 (.cond 29 (sq [o 30 (.bld .thm zs_thm []),oM 31 7,oS 0 .thm 4 30,oM 5 31]
  .ret)
  .skip))
 (sq [oF 32 .theory 0 2,oL 33 .pnode 32,oL 34 .tm 8,o 35 (.bld .sequent zs_sequent [(1,34)]),oC 36 74 [33,35] [.pnode,.sequent] (.p .thm),oS 0 .thm 4 36,oM 5 (cI 0)]
 .ret)))))))⟩
def c36:XFn G:=⟨41,[.c 6 .thm,.t 7],.pure [.p .thm,.p .bool],
 (sq [ob 3 0,ob 4 1,ob 5 2,oA 6 35 z_thm,oM 7 (cB false)]
 (sq [oL 15 .theory 3,oL 16 .tm 5,oC 17 34 [15,16] [.theory,.tm] (tp [.thm,.int]),oM 14 17,oE 18 14 0,oE 19 14 1,oA 8 35 z_thm,oS 0 .thm 8 18,oM 9 19]
 (.seq (sq [oM 20 9,oO 21 .neq 20 (cI 0)]
 (.cond 21 (sq [oL 22 .thm 4,oS 0 .thm 6 22,oM 7 (cB false)]
  .ret)
  .skip))
 (sq [oL 24 .thm 8,oL 25 .thm 4,oC 26 65 [24,25] [.thm,.thm] (tp [.thm,.int]),oM 23 26,oE 27 23 0,oE 28 23 1,oA 10 35 z_thm,oS 0 .thm 10 27,oM 11 28]
 (.seq (sq [oM 29 11,oO 30 .neq 29 (cI 0)]
 (.cond 30 (sq [oL 31 .thm 4,oS 0 .thm 6 31,oM 7 (cB false)]
  .ret)
  .skip))
 (sq [oL 33 .thm 10,oL 34 .thm 8,oC 35 48 [33,34] [.thm,.thm] (tp [.thm,.int]),oM 32 35,oE 36 32 0,oE 37 32 1,oA 12 35 z_thm,oS 0 .thm 12 36,oM 13 37]
 (sq [oL 38 .thm 12,oM 39 13,oO 40 .eql 39 (cI 0),oS 0 .thm 6 38,oM 7 40]
 .ret)))))))⟩
def c37:XFn G:=⟨16,[.c 0 .signature],.pure [.p .signature],
 (sq [oA 0 46 z_signature]
 (sq [o 3 (.bld .ty zs_ty [(0,(cB true)),(1,(.c (.v .str (⟨#[39,97]⟩:ByteArray))))]),oA 1 25 z_ty,oS 0 .ty 1 3]
 (.seq (.draw [oL 4 .ty 1,oL 5 .ty 1,oC 6 78 [] [] (.p .ty),oC 7 77 [5,6] [.ty,.ty] (.p .ty),oC 8 77 [4,7] [.ty,.ty] (.p .ty),oA 2 25 z_ty,oS 1 .ty 2 8])
 (sq [o 9 (.bld .typeop zs_typeop [(0,(.c (.v .str (⟨#[98,111,111,108]⟩:ByteArray))))]),o 10 (.bld .typeop zs_typeop [(0,(.c (.v .str (⟨#[102,117,110]⟩:ByteArray)))),(1,(cI 2))]),o 11 (.bsl .typeop [9,10]),oL 12 .ty 2,o 13 (.bld .const zs_const [(0,(.c (.v .str (⟨#[61]⟩:ByteArray)))),(1,12)]),o 14 (.bsl .const [13]),o 15 (.bld .signature zs_signature [(0,11),(1,14)]),oS 0 .signature 0 15]
 .ret))))⟩
def c38:XFn G:=⟨13,[.c 2 .sequent,.t 3],.pure [.p .sequent,.p .int],
 (sq [ob 1 0,oA 2 29 z_sequent,oM 3 (cI 0)]
 (.seq (sq [oL 4 .thm 1,o 5 (.bsl .thm [4]),oC 6 79 [5] [.lthm] (.p .bool)]
 (.cond 6 (sq [o 7 (.bld .sequent zs_sequent []),oS 0 .sequent 2 7,oM 3 (cI 52)]
  .ret)
  .skip))
 (sq [oF 8 .thm 1 1,oL 9 .psequent 8,oN 10 9,oL 11 .sequent 10,oC 12 80 [11] [.sequent] (.p .sequent),oS 0 .sequent 2 12,oM 3 (cI 0)]
 .ret)))⟩
def c39:XFn G:=⟨11,[.c 2 .theory,.t 3],.pure [.p .theory,.p .int],
 (sq [ob 1 0,oA 2 39 z_theory,oM 3 (cI 0)]
 (.seq (sq [oL 4 .thm 1,o 5 (.bsl .thm [4]),oC 6 79 [5] [.lthm] (.p .bool)]
 (.cond 6 (sq [o 7 (.bld .theory zs_theory []),oS 0 .theory 2 7,oM 3 (cI 52)]
  .ret)
  .skip))
 (sq [oF 8 .thm 0 1,oL 9 .pnode 8,o 10 (.bld .theory zs_theory [(0,9)]),oS 0 .theory 2 10,oM 3 (cI 0)]
 .ret)))⟩
def c40:XFn G:=⟨7,[.t 2],.pure [.p .bool],
 (sq [oM 2 (cB false)]
 (sq [oA 3 39 z_theory]
 (sq [oM 4 0,oL 5 .theory 3,oC 6 81 [4,5] [.ltheory,.theory] (.p .bool),oM 2 6]
 .ret)))⟩
def c41:XFn G:=⟨32,[.c 2 .signature],.pure [.p .signature],
 (sq [.a (some 1) (.bxm 46 0),oA 2 46 z_signature]
 (.seq (.draw [oF 4 .signature 0 1,oL 5 .ltypeop 4,oC 6 82 [5] [.ltypeop] (.p .ltypeop),oF 7 .signature 1 1,oL 8 .lconst 7,.callg 1 (some 9) (.c (.fn 83 [] [])) [8] [] hi83v1 as83v1 ho83v1 rs83v1,oF 10 .signature 0 1,oS 1 .ltypeop 10 6,oF 11 .signature 1 1,oS 1 .lconst 11 9])
 (.seq (sq [oF 12 .signature 1 1,oL 13 .lconst 12,oU 14 13,oM 15 (cI 0)]
 (.block 0 (.loop ⟨[(1,.ptr 0 0 []),(2,.ptr 1 0 []),(15,.p .int)],[.keep,.keep,.row 122 .lconst],[14]⟩ (sq [oO 16 .lss 15 14]
 (.seq (.cond 16 .skip
  (.exit 0))
 (.seq (.block 1 (sq [oM 17 15,oM 3 17]
 (.draw [oF 18 .signature 1 1,oL 19 .lconst 18,oM 20 3,oF 21 .signature 1 1,oL 22 .lconst 21,oM 23 3,oX 24 .const 22 23,oF 25 .const 1 24,oL 26 .ty 25,oC 27 84 [26] [.ty] (.p .ty),oX 28 .const 19 20,oF 29 .const 1 28,oS 2 .ty 29 27])))
 (.ops [o 30 (.inc 15 .i64),oM 15 30])))))))
 (sq [oL 31 .signature 1,oS 0 .signature 2 31]
 .ret))))⟩
def c42:XFn G:=⟨18,[.c 4 .engine,.t 5],.pure [.p .engine,.p .int],
 (sq [oA 4 93 z_engine,oM 5 (cI 0)]
 (sq [oM 9 0,oM 10 1,oC 11 8 [] [] (.p .theory),oC 12 85 [9,(.c (.ns .theory)),10,11] [.ltm,.ltheory,.lthm,.theory] (tp [.theory,.int]),oM 8 12,oE 13 8 0,oE 14 8 1,oA 6 39 z_theory,oS 0 .theory 6 13,oM 7 14]
 (sq [oL 15 .theory 6,o 16 (.bld .engine zs_engine [(0,15)]),oM 17 7,oS 0 .engine 4 16,oM 5 17]
 .ret)))⟩
def c43:XFn G:=⟨19,[.c 2 .tm,.c 3 .tm,.t 4],.pure [.p .tm,.p .tm,.p .int],
 (sq [ob 1 0,oA 2 27 z_tm,oA 3 27 z_tm,oM 4 (cI 0)]
 (sq [oL 7 .thm 1,oC 8 45 [7] [.thm] (.p .tm),oC 9 86 [8] [.tm] (tp [.tm,.tm,.bool]),oM 6 9,oE 10 6 0,oE 11 6 1,oE 12 6 2,oS 0 .tm 2 10,oS 0 .tm 3 11,oM 5 12]
 (.seq (sq [oM 13 5,o 14 (.un 13)]
 (.cond 14 (sq [o 15 (.bld .tm zs_tm []),o 16 (.bld .tm zs_tm []),oS 0 .tm 2 15,oS 0 .tm 3 16,oM 4 (cI 50)]
  .ret)
  .skip))
 (.seq (.draw [o 17 (.ldd .tm 2 [3]),o 18 (.ldd .tm 3 [2]),oS 1 .tm 2 17,oS 1 .tm 3 18,oM 4 (cI 0)])
 .ret))))⟩
def c44:XFn G:=⟨50,[.t 6],.pure [.p .int],
 (sq [ob 3 0,oM 6 (cI 0)]
 (.seq (sq [oM 7 (cI 0)]
 (.block 0 (.loop ⟨[(7,.p .int)],[],[1,2,3]⟩ (.seq (sq [oM 11 7,oM 12 1,oU 13 12,oO 14 .lss 11 13]
 (.cond 14 .skip
  (.exit 0)))
 (.seq (.block 1 (sq [oM 17 1,oM 18 7,oX 19 .tm 17 18,oL 20 .tm 19,oC 21 22 [20] [.tm] (.p .int),oM 8 21]
 (sq [oM 22 8,oO 23 .neq 22 (cI 0)]
 (.cond 23 (sq [oM 24 8,oM 6 24]
  .ret)
  .skip))))
 (.ops [oM 15 7,o 16 (.inc 15 .i64),oM 7 16]))))))
 (.seq (sq [oM 9 (cI 0)]
 (.block 2 (.loop ⟨[(9,.p .int)],[],[1,2,3]⟩ (.seq (sq [oM 25 9,oM 26 2,oU 27 26,oO 28 .lss 25 27]
 (.cond 28 .skip
  (.exit 2)))
 (.seq (.block 3 (sq [oM 31 2,oM 32 9,oX 33 .sequent 31 32,oL 34 .sequent 33,oC 35 20 [34] [.sequent] (.p .bool),o 36 (.un 35)]
 (.cond 36 (sq [oM 6 (cI 21)]
  .ret)
  .skip)))
 (.ops [oM 29 9,o 30 (.inc 29 .i64),oM 9 30]))))))
 (.seq (sq [oM 10 (cI 0)]
 (.block 4 (.loop ⟨[(10,.p .int)],[],[1,3]⟩ (.seq (sq [oM 37 10,oM 38 1,oU 39 38,oO 40 .lss 37 39]
 (.cond 40 .skip
  (.exit 4)))
 (.seq (.block 5 (.seq (.draw [oI 43 .signature 3,oM 44 1,oM 45 10,oX 46 .tm 44 45,oI 47 .tm 46,oC 48 87 [43,47] [.signature,.tm] (.p .int),oO 49 .neq 48 (cI 0)])
 (.cond 49 (sq [oM 6 (cI 40)]
  .ret)
  .skip)))
 (.ops [oM 41 10,o 42 (.inc 41 .i64),oM 10 42]))))))
 (sq [oM 6 (cI 0)]
 .ret)))))⟩
def c45:XFn G:=⟨12,[.c 2 .tm],.pure [.p .tm],
 (sq [ob 1 0,oA 2 27 z_tm]
 (sq [oL 6 .thm 1,oC 7 38 [6] [.thm] (tp [.sequent,.int]),oM 5 7,oE 8 5 0,oE 9 5 1,oA 3 29 z_sequent,oS 0 .sequent 3 8,oM 4 9]
 (sq [oF 10 .sequent 1 3,oL 11 .tm 10,oS 0 .tm 2 11]
 .ret)))⟩
def c46:XFn G:=⟨111,[.c 4 .thm,.t 5],.pure [.p .thm,.p .int],
 (sq [ob 2 0,ob 3 1,oA 4 35 z_thm,oM 5 (cI 0)]
 (sq [oL 18 .thm 2,oL 19 .thm 3,oC 20 88 [18,19] [.thm,.thm] (tp [.pnode,.int]),oM 17 20,oE 21 17 0,oE 22 17 1,oM 6 21,oM 7 22]
 (.seq (sq [oM 23 7,oO 24 .neq 23 (cI 0)]
 (.cond 24 (sq [o 25 (.bld .thm zs_thm []),oM 26 7,oS 0 .thm 4 25,oM 5 26]
  .ret)
  .skip))
 (sq [oF 28 .thm 1 2,oL 29 .psequent 28,oN 30 29,oF 31 .sequent 1 30,oL 32 .tm 31,oC 33 89 [32] [.tm] (tp [.tm,.tm,.ty,.bool]),oM 27 33,oE 34 27 0,oE 35 27 1,oE 36 27 2,oE 37 27 3,oA 8 27 z_tm,oA 9 27 z_tm,oA 10 25 z_ty,oS 0 .tm 8 34,oS 0 .tm 9 35,oS 0 .ty 10 36,oM 11 37]
 (sq [oF 39 .thm 1 3,oL 40 .psequent 39,oN 41 40,oF 42 .sequent 1 41,oL 43 .tm 42,oC 44 89 [43] [.tm] (tp [.tm,.tm,.ty,.bool]),oM 38 44,oE 45 38 0,oE 46 38 1,oE 47 38 2,oE 48 38 3,oA 12 27 z_tm,oA 13 27 z_tm,oA 14 25 z_ty,oS 0 .tm 12 45,oS 0 .tm 13 46,oS 0 .ty 14 47,oM 15 48]
 (.seq (.jn ⟨[(4,.ptr 0 0 []),(8,.ptr 1 0 []),(9,.ptr 2 0 []),(10,.ptr 3 0 []),(12,.ptr 4 0 []),(13,.ptr 5 0 []),(14,.ptr 6 0 []),(54,.p .bool)],[.keep,.keep,.keep,.keep,.keep,.keep,.keep],[2,3,6]⟩ (.ops [oM 49 11,o 50 (.un 49),oM 51 50,.gd 51 false (some 52) (oM 52 15),.gd 51 false (some 53) (o 53 (.un 52)),o 54 (.pk 51 (cB true) 53)])
 (.cond 54 (sq [o 55 (.bld .thm zs_thm []),oS 0 .thm 4 55,oM 5 (cI 50)]
  .ret)
  .skip))
 (.seq (.jn ⟨[(4,.ptr 0 0 []),(8,.ptr 1 0 []),(9,.ptr 2 0 []),(10,.ptr 3 0 []),(12,.ptr 4 0 []),(13,.ptr 5 0 []),(77,.p .bool)],[.keep,.keep,.keep,.keep,.keep,.keep],[2,3,6]⟩ (.draw [oF 56 .ty 0 10,oL 57 .bool 56,oM 58 57,.gd 58 false (some 59) (oF 59 .ty 1 10),.gd 58 false (some 60) (oL 60 .str 59),.gd 58 false (some 61) (o 61 (.bi .neq 60 (.c (.v .str (⟨#[102,117,110]⟩:ByteArray))))),o 62 (.pk 58 (cB true) 61),oM 63 62,.gd 63 false (some 64) (oF 64 .ty 2 10),.gd 63 false (some 65) (oL 65 .lty 64),.gd 63 false (some 66) (oU 66 65),.gd 63 false (some 67) (oO 67 .neq 66 (cI 2)),o 68 (.pk 63 (cB true) 67),oM 69 68,.gd 69 false (some 70) (oF 70 .ty 2 10),.gd 69 false (some 71) (oL 71 .lty 70),.gd 69 false (some 72) (oX 72 .ty 71 (cI 0)),.gd 69 false (some 73) (oI 73 .ty 72),.gd 69 false (some 74) (oL 74 .ty 14),.gd 69 false (some 75) (oC 75 90 [73,74] [.ty,.ty] (.p .bool)),.gd 69 false (some 76) (o 76 (.un 75)),o 77 (.pk 69 (cB true) 76)])
 (.cond 77 (sq [o 78 (.bld .thm zs_thm []),oS 0 .thm 4 78,oM 5 (cI 50)]
  .ret)
  .skip))
 (.seq (.draw [oL 80 .tm 8,oL 81 .tm 12,oC 82 91 [80,81] [.tm,.tm] (.p .tm),oL 83 .tm 9,oL 84 .tm 13,oC 85 91 [83,84] [.tm,.tm] (.p .tm),oF 86 .ty 2 10,oL 87 .lty 86,oX 88 .ty 87 (cI 1),oI 89 .ty 88,oC 90 76 [82,85,89] [.tm,.tm,.ty] (tp [.tm,.int]),oM 79 90,oE 91 79 0,oE 92 79 1,oA 16 27 z_tm,oS 1 .tm 16 91,oM 7 92])
 (.seq (.draw [oM 93 6,oF 94 .thm 1 2,oI 95 .psequent 94,oN 96 95,oF 97 .sequent 0 96,oI 98 .ltm 97,oF 99 .thm 1 3,oI 100 .psequent 99,oN 101 100,oF 102 .sequent 0 101,oI 103 .ltm 102,o 104 (.bsl .ltm [98,103]),oC 105 93 [104] [.lltm] (.p .ltm),o 106 (.ldd .tm 16 [4]),oM 107 7,oC 108 92 [93,105,106,107] [.pnode,.ltm,.tm,.int] (tp [.thm,.int]),oE 109 108 0,oE 110 108 1,oS 1 .thm 4 109,oM 5 110])
 .ret)))))))))⟩
def c47:XFn G:=⟨15,[.c 4 .thm],.pure [.p .thm],
 (sq [ob 2 0,ob 3 1,oA 4 35 z_thm]
 (sq [oF 8 .engine 0 2,oL 9 .theory 8,oL 10 .tm 3,oC 11 35 [9,10] [.theory,.tm] (tp [.thm,.int]),oM 7 11,oE 12 7 0,oE 13 7 1,oA 5 35 z_thm,oS 0 .thm 5 12,oM 6 13]
 (sq [oL 14 .thm 5,oS 0 .thm 4 14]
 .ret)))⟩
def c48:XFn G:=⟨63,[.c 4 .thm,.t 5],.pure [.p .thm,.p .int],
 (sq [ob 2 0,ob 3 1,oA 4 35 z_thm,oM 5 (cI 0)]
 (sq [oL 13 .thm 2,oL 14 .thm 3,oC 15 88 [13,14] [.thm,.thm] (tp [.pnode,.int]),oM 12 15,oE 16 12 0,oE 17 12 1,oM 6 16,oM 7 17]
 (.seq (sq [oM 18 7,oO 19 .neq 18 (cI 0)]
 (.cond 19 (sq [o 20 (.bld .thm zs_thm []),oM 21 7,oS 0 .thm 4 20,oM 5 21]
  .ret)
  .skip))
 (sq [oF 23 .thm 1 2,oL 24 .psequent 23,oN 25 24,oF 26 .sequent 1 25,oL 27 .tm 26,oC 28 89 [27] [.tm] (tp [.tm,.tm,.ty,.bool]),oM 22 28,oE 29 22 0,oE 30 22 1,oE 31 22 2,oE 32 22 3,oA 8 27 z_tm,oA 9 27 z_tm,oA 10 25 z_ty,oS 0 .tm 8 29,oS 0 .tm 9 30,oS 0 .ty 10 31,oM 11 32]
 (.seq (.jn ⟨[(4,.ptr 0 0 []),(9,.ptr 2 0 []),(44,.p .bool)],[.keep,.gone,.keep],[2,3,6]⟩ (.draw [oM 33 11,o 34 (.un 33),oM 35 34,.gd 35 false (some 36) (oL 36 .tm 8),.gd 35 false (some 37) (oF 37 .thm 1 3),.gd 35 false (some 38) (oI 38 .psequent 37),.gd 35 false (some 39) (oN 39 38),.gd 35 false (some 40) (oF 40 .sequent 1 39),.gd 35 false (some 41) (oI 41 .tm 40),.gd 35 false (some 42) (oC 42 63 [36,41] [.tm,.tm] (.p .bool)),.gd 35 false (some 43) (o 43 (.un 42)),o 44 (.pk 35 (cB true) 43)])
 (.cond 44 (sq [o 45 (.bld .thm zs_thm []),oS 0 .thm 4 45,oM 5 (cI 50)]
  .ret)
  .skip))
 (.seq (.draw [oM 46 6,oF 47 .thm 1 2,oI 48 .psequent 47,oN 49 48,oF 50 .sequent 0 49,oI 51 .ltm 50,oF 52 .thm 1 3,oI 53 .psequent 52,oN 54 53,oF 55 .sequent 0 54,oI 56 .ltm 55,o 57 (.bsl .ltm [51,56]),oC 58 93 [57] [.lltm] (.p .ltm),o 59 (.ldd .tm 9 [4]),oC 60 92 [46,58,59,(cI 0)] [.pnode,.ltm,.tm,.int] (tp [.thm,.int]),oE 61 60 0,oE 62 60 1,oS 1 .thm 4 61,oM 5 62])
 .ret))))))⟩
def c49:XFn G:=⟨13,[.c 4 .sequent,.t 5],.pure [.p .sequent,.p .int],
 (sq [ob 3 1,oA 4 29 z_sequent,oM 5 (cI 0)]
 (.seq (sq [oM 6 0,oU 7 6,oO 8 .gtr 7 (cI 64)]
 (.cond 8 (sq [o 9 (.bld .sequent zs_sequent []),oS 0 .sequent 4 9,oM 5 (cI 4)]
  .ret)
  .skip))
 (sq [oM 10 0,oL 11 .tm 3,o 12 (.bld .sequent zs_sequent [(0,10),(1,11)]),oS 0 .sequent 4 12,oM 5 (cI 0)]
 .ret)))⟩
def c50:XFn G:=⟨10,[.c 4 .tm],.pure [.p .tm],
 (sq [ob 2 0,ob 3 1,oA 4 27 z_tm]
 (.seq (.draw [oI 5 .tm 2,oI 6 .tm 3,oI 7 .tm 2,oC 8 54 [7] [.tm] (.p .ty),oC 9 94 [5,6,8] [.tm,.tm,.ty] (.p .tm),oS 1 .tm 4 9])
 .ret))⟩
def c51:XFn G:=⟨22,[.c 4 .ty,.t 5],.pure [.p .ty,.p .bool],
 (sq [ob 2 0,ob 3 1,oA 4 25 z_ty,oM 5 (cB false)]
 (sq [oL 10 .ty 2,oC 11 95 [10] [.ty] (tp [.ty,.ty,.bool]),oM 9 11,oE 12 9 0,oE 13 9 1,oE 14 9 2,oA 6 25 z_ty,oA 7 25 z_ty,oS 0 .ty 6 12,oS 0 .ty 7 13,oM 8 14]
 (.seq (.draw [o 15 (.ldd .ty 7 [4]),oM 16 8,oM 17 16,.gd 17 true (some 18) (o 18 (.ldd .ty 6 [4])),.gd 17 true (some 19) (oI 19 .ty 3),.gd 17 true (some 20) (oC 20 90 [18,19] [.ty,.ty] (.p .bool)),o 21 (.pk 17 20 (cB false)),oS 1 .ty 4 15,oM 5 21])
 .ret)))⟩
def c52:XFn G:=⟨11,[.c 2 .ty],.pure [.p .ty],
 (sq [ob 1 0,oA 2 25 z_ty]
 (sq [oL 6 .tm 1,oC 7 96 [6] [.tm] (tp [.ty,.int]),oM 5 7,oE 8 5 0,oE 9 5 1,oA 3 25 z_ty,oS 0 .ty 3 8,oM 4 9]
 (sq [oL 10 .ty 3,oS 0 .ty 2 10]
 .ret)))⟩
def c53:XFn G:=⟨22,[.c 4 .ty,.t 5],.pure [.p .ty,.p .bool],
 (sq [ob 2 0,ob 3 1,oA 4 25 z_ty,oM 5 (cB false)]
 (sq [oL 10 .ty 2,oC 11 97 [10] [.ty] (tp [.ty,.ty,.bool]),oM 9 11,oE 12 9 0,oE 13 9 1,oE 14 9 2,oA 6 25 z_ty,oA 7 25 z_ty,oS 0 .ty 6 12,oS 0 .ty 7 13,oM 8 14]
 (.seq (.draw [o 15 (.ldd .ty 7 [4]),oM 16 8,oM 17 16,.gd 17 true (some 18) (o 18 (.ldd .ty 6 [4])),.gd 17 true (some 19) (oI 19 .ty 3),.gd 17 true (some 20) (oC 20 98 [18,19] [.ty,.ty] (.p .bool)),o 21 (.pk 17 20 (cB false)),oS 1 .ty 4 15,oM 5 21])
 .ret)))⟩
def c54:XFn G:=⟨12,[.c 2 .ty],.pure [.p .ty],
 (sq [ob 1 0,oA 2 25 z_ty]
 (sq [oL 6 .tm 1,oC 7 99 [6,(.c (.ns .ty))] [.tm,.lty] (tp [.ty,.bool]),oM 5 7,oE 8 5 0,oE 9 5 1,oA 3 25 z_ty,oS 0 .ty 3 8,oM 4 9]
 (sq [oL 10 .ty 3,oC 11 100 [10] [.ty] (.p .ty),oS 0 .ty 2 11]
 .ret)))⟩
def c55:XFn G:=⟨9,[.c 4 .tm],.pure [.p .tm],
 (sq [ob 2 0,ob 3 1,oA 4 27 z_tm]
 (sq [oL 5 .tm 2,oL 6 .tm 3,o 7 (.bsl .tm [5,6]),o 8 (.bld .tm zs_tm [(0,(.c (.v .u8 (4:Int)))),(4,7)]),oS 0 .tm 4 8]
 .ret))⟩
def c56:XFn G:=⟨19,[.t 2],.pure [.p .bool],
 (sq [ob 1 0,oM 2 (cB false)]
 (.seq (.jn ⟨[(12,.p .bool)],[],[1]⟩ (.ops [oL 5 .tm 1,oC 6 101 [5] [.tm] (.p .int),oO 7 .gtr 6 (cI 2000),oM 8 7,.gd 8 false (some 9) (oL 9 .tm 1),.gd 8 false (some 10) (oC 10 102 [9] [.tm] (.p .int)),.gd 8 false (some 11) (oO 11 .gtr 10 (cI 100)),o 12 (.pk 8 (cB true) 11)])
 (.cond 12 (sq [oM 2 (cB false)]
  .ret)
  .skip))
 (sq [oL 14 .tm 1,oC 15 103 [14,(.c (.ns .ty))] [.tm,.lty] (tp [.ty,.bool]),oM 13 15,oE 16 13 0,oE 17 13 1,oA 3 25 z_ty,oS 0 .ty 3 16,oM 4 17]
 (sq [oM 18 4,oM 2 18]
 .ret))))⟩
def c57:XFn G:=⟨19,[.t 2],.pure [.p .bool],
 (sq [ob 1 0,oM 2 (cB false)]
 (.seq (.jn ⟨[(12,.p .bool)],[],[1]⟩ (.ops [oL 5 .tm 1,oC 6 68 [5] [.tm] (.p .int),oO 7 .gtr 6 (cI 2000),oM 8 7,.gd 8 false (some 9) (oL 9 .tm 1),.gd 8 false (some 10) (oC 10 69 [9] [.tm] (.p .int)),.gd 8 false (some 11) (oO 11 .gtr 10 (cI 100)),o 12 (.pk 8 (cB true) 11)])
 (.cond 12 (sq [oM 2 (cB false)]
  .ret)
  .skip))
 (sq [oL 14 .tm 1,oC 15 104 [14,(.c (.ns .ty))] [.tm,.lty] (tp [.ty,.bool]),oM 13 15,oE 16 13 0,oE 17 13 1,oA 3 25 z_ty,oS 0 .ty 3 16,oM 4 17]
 (sq [oM 18 4,oM 2 18]
 .ret))))⟩
def c58:XFn G:=⟨11,[.t 2],.pure [.p .int],
 (sq [ob 1 0,oM 2 (cI 0)]
 (sq [oL 6 .tm 1,oC 7 105 [6] [.tm] (tp [.ty,.int]),oM 5 7,oE 8 5 0,oE 9 5 1,oA 3 25 z_ty,oS 0 .ty 3 8,oM 4 9]
 (sq [oM 10 4,oM 2 10]
 .ret)))⟩
def c59:XFn G:=⟨15,[.t 2],.pure [.p .int],
 (sq [ob 1 0,oM 2 (cI 0)]
 (.seq (sq [oL 5 .tm 1,oC 6 32 [5] [.tm] (.p .bool),o 7 (.un 6)]
 (.cond 7 (sq [oM 2 (cI 21)]
  .ret)
  .skip))
 (sq [oL 9 .tm 1,oC 10 99 [9,(.c (.ns .ty))] [.tm,.lty] (tp [.ty,.bool]),oM 8 10,oE 11 8 0,oE 12 8 1,oA 3 25 z_ty,oS 0 .ty 3 11,oM 4 12]
 (.seq (sq [oM 13 4,o 14 (.un 13)]
 (.cond 14 (sq [oM 2 (cI 20)]
  .ret)
  .skip))
 (sq [oM 2 (cI 0)]
 .ret)))))⟩
def c60:XFn G:=⟨96,[.t 4],.pure [.p .int],
 (sq [ob 2 0,ob 3 1,oM 4 (cI 0)]
 (sq [oF 7 .tm 0 2,oL 8 .u8 7,oF 9 .tm 0 3,oL 10 .u8 9,oO 11 .lss 8 10,oF 12 .tm 0 2,oL 13 .u8 12,oF 14 .tm 0 3,oL 15 .u8 14,oO 16 .eql 13 15,oC 17 106 [11,16] [.bool,.bool] (.p .int),oM 5 17]
 (.jn ⟨[(5,.p .int)],[],[2,3]⟩ (.jn ⟨[(24,.p .bool)],[],[2,3,5]⟩ (.ops [oM 18 5,oO 19 .eql 18 (cI 0),oM 20 19,.gd 20 true (some 21) (oF 21 .tm 0 2),.gd 20 true (some 22) (oL 22 .u8 21),.gd 20 true (some 23) (o 23 (.bi .neq 22 (.c (.v .u8 (5:Int))))),o 24 (.pk 20 23 (cB false))])
 (.cond 24 (.ops [oF 25 .tm 1 2,oL 26 .str 25,oF 27 .tm 1 3,oL 28 .str 27,oO 29 .lss 26 28,oF 30 .tm 1 2,oL 31 .str 30,oF 32 .tm 1 3,oL 33 .str 32,oO 34 .eql 31 33,oC 35 106 [29,34] [.bool,.bool] (.p .int),oM 5 35])
  .skip))
 (.jn ⟨[(5,.p .int)],[],[2,3]⟩ (sq [oM 36 5,oO 37 .eql 36 (cI 0)]
 (.cond 37 (.ops [oF 38 .tm 2 2,oL 39 .ty 38,oF 40 .tm 2 3,oL 41 .ty 40,oC 42 107 [39,41] [.ty,.ty] (.p .int),oM 5 42])
  .skip))
 (.jn ⟨[(5,.p .int)],[],[2,3]⟩ (sq [oM 43 5,oO 44 .eql 43 (cI 0)]
 (.cond 44 (.ops [oF 45 .tm 3 2,oL 46 .int 45,oF 47 .tm 3 3,oL 48 .int 47,oO 49 .lss 46 48,oF 50 .tm 3 2,oL 51 .int 50,oF 52 .tm 3 3,oL 53 .int 52,oO 54 .eql 51 53,oC 55 106 [49,54] [.bool,.bool] (.p .int),oM 5 55])
  .skip))
 (.jn ⟨[(5,.p .int)],[],[2,3]⟩ (sq [oM 56 5,oO 57 .eql 56 (cI 0)]
 (.cond 57 (.ops [oF 58 .tm 4 2,oL 59 .ltm 58,oU 60 59,oF 61 .tm 4 3,oL 62 .ltm 61,oU 63 62,oO 64 .lss 60 63,oF 65 .tm 4 2,oL 66 .ltm 65,oU 67 66,oF 68 .tm 4 3,oL 69 .ltm 68,oU 70 69,oO 71 .eql 67 70,oC 72 106 [64,71] [.bool,.bool] (.p .int),oM 5 72])
  .skip))
 (.seq (sq [oM 6 (cI 0)]
 (.block 0 (.loop ⟨[(5,.p .int),(6,.p .int)],[],[2,3]⟩ (.seq (.jn ⟨[(81,.p .bool)],[],[2,3,5,6]⟩ (.ops [oM 73 5,oO 74 .eql 73 (cI 0),oM 75 74,.gd 75 true (some 76) (oM 76 6),.gd 75 true (some 77) (oF 77 .tm 4 2),.gd 75 true (some 78) (oL 78 .ltm 77),.gd 75 true (some 79) (oU 79 78),.gd 75 true (some 80) (oO 80 .lss 76 79),o 81 (.pk 75 80 (cB false))])
 (.cond 81 .skip
  (.exit 0)))
 (.seq (.block 1 (.draw [oF 84 .tm 4 2,oI 85 .ltm 84,oM 86 6,oX 87 .tm 85 86,oI 88 .tm 87,oF 89 .tm 4 3,oI 90 .ltm 89,oM 91 6,oX 92 .tm 90 91,oI 93 .tm 92,oC 94 60 [88,93] [.tm,.tm] (.p .int),oM 5 94]))
 (.ops [oM 82 6,o 83 (.inc 82 .i64),oM 6 83]))))))
 (sq [oM 95 5,oM 4 95]
 .ret))))))))⟩
def c61:XFn G:=⟨17,[.t 4],.pure [.p .bool],
 (sq [ob 2 0,ob 3 1,oM 4 (cB false)]
 (sq [oF 5 .sequent 0 2,oL 6 .ltm 5,oF 7 .sequent 0 3,oL 8 .ltm 7,oC 9 108 [6,8] [.ltm,.ltm] (.p .bool),oM 10 9,.gd 10 true (some 11) (oF 11 .sequent 1 2),.gd 10 true (some 12) (oL 12 .tm 11),.gd 10 true (some 13) (oF 13 .sequent 1 3),.gd 10 true (some 14) (oL 14 .tm 13),.gd 10 true (some 15) (oC 15 23 [12,14] [.tm,.tm] (.p .bool)),o 16 (.pk 10 15 (cB false)),oM 4 16]
 .ret))⟩
def c62:XFn G:=⟨23,[.t 4],.pure [.p .ltm],
 (sq [o 4 (.mv (.c (.ns .tm)))]
 (sq [.a (some 7) (.bsr 27 .tm),oM 8 0,.a (some 9) (.app 27 .tm 7 8),oM 5 9]
 (.seq (sq [oM 6 (cI 0)]
 (.block 0 (.ps [.fz 0 .ltm] (.loop ⟨[(5,.p .ltm),(6,.p .int)],[],[1]⟩ (.seq (sq [oM 10 6,oM 11 1,oU 12 11,oO 13 .lss 10 12]
 (.cond 13 .skip
  (.exit 0)))
 (.seq (.block 1 (.ops [oM 16 5,oM 17 1,oM 18 6,oX 19 .tm 17 18,oL 20 .tm 19,oC 21 109 [16,20] [.ltm,.tm] (.p .ltm),oM 5 21]))
 (.ops [oM 14 6,o 15 (.inc 14 .i64),oM 6 15])))))))
 (sq [oM 22 5,oM 4 22]
 .ret))))⟩
def c63:XFn G:=⟨9,[.t 4],.pure [.p .bool],
 (sq [ob 2 0,ob 3 1,oM 4 (cB false)]
 (sq [oL 5 .tm 2,oL 6 .tm 3,oC 7 110 [5,6] [.tm,.tm] (.p .int),oO 8 .eql 7 (cI 0),oM 4 8]
 .ret))⟩
def c64:XFn G:=⟨87,[.c 4 .thm,.t 5],.pure [.p .thm,.p .int],
 (sq [ob 2 0,ob 3 1,oA 4 35 z_thm,oM 5 (cI 0)]
 (sq [oL 18 .thm 2,oL 19 .thm 3,oC 20 88 [18,19] [.thm,.thm] (tp [.pnode,.int]),oM 17 20,oE 21 17 0,oE 22 17 1,oM 6 21,oM 7 22]
 (.seq (sq [oM 23 7,oO 24 .neq 23 (cI 0)]
 (.cond 24 (sq [o 25 (.bld .thm zs_thm []),oM 26 7,oS 0 .thm 4 25,oM 5 26]
  .ret)
  .skip))
 (sq [oF 28 .thm 1 2,oL 29 .psequent 28,oN 30 29,oF 31 .sequent 1 30,oL 32 .tm 31,oC 33 89 [32] [.tm] (tp [.tm,.tm,.ty,.bool]),oM 27 33,oE 34 27 0,oE 35 27 1,oE 36 27 2,oE 37 27 3,oA 8 27 z_tm,oA 9 27 z_tm,oA 10 25 z_ty,oS 0 .tm 8 34,oS 0 .tm 9 35,oS 0 .ty 10 36,oM 11 37]
 (sq [oF 39 .thm 1 3,oL 40 .psequent 39,oN 41 40,oF 42 .sequent 1 41,oL 43 .tm 42,oC 44 89 [43] [.tm] (tp [.tm,.tm,.ty,.bool]),oM 38 44,oE 45 38 0,oE 46 38 1,oE 47 38 2,oE 48 38 3,oA 12 27 z_tm,oA 13 27 z_tm,oA 14 25 z_ty,oS 0 .tm 12 45,oS 0 .tm 13 46,oS 0 .ty 14 47,oM 15 48]
 (.seq (.jn ⟨[(4,.ptr 0 0 []),(8,.ptr 1 0 []),(10,.ptr 3 0 []),(13,.ptr 5 0 []),(60,.p .bool)],[.keep,.keep,.gone,.keep,.gone,.keep],[2,3,6]⟩ (.ops [oM 49 11,o 50 (.un 49),oM 51 50,.gd 51 false (some 52) (oM 52 15),.gd 51 false (some 53) (o 53 (.un 52)),o 54 (.pk 51 (cB true) 53),oM 55 54,.gd 55 false (some 56) (oL 56 .tm 9),.gd 55 false (some 57) (oL 57 .tm 12),.gd 55 false (some 58) (oC 58 63 [56,57] [.tm,.tm] (.p .bool)),.gd 55 false (some 59) (o 59 (.un 58)),o 60 (.pk 55 (cB true) 59)])
 (.cond 60 (sq [o 61 (.bld .thm zs_thm []),oS 0 .thm 4 61,oM 5 (cI 50)]
  .ret)
  .skip))
 (sq [oL 63 .tm 8,oL 64 .tm 13,oL 65 .ty 10,oC 66 76 [63,64,65] [.tm,.tm,.ty] (tp [.tm,.int]),oM 62 66,oE 67 62 0,oE 68 62 1,oA 16 27 z_tm,oS 0 .tm 16 67,oM 7 68]
 (.seq (.draw [oM 69 6,oF 70 .thm 1 2,oI 71 .psequent 70,oN 72 71,oF 73 .sequent 0 72,oI 74 .ltm 73,oF 75 .thm 1 3,oI 76 .psequent 75,oN 77 76,oF 78 .sequent 0 77,oI 79 .ltm 78,o 80 (.bsl .ltm [74,79]),oC 81 93 [80] [.lltm] (.p .ltm),o 82 (.ldd .tm 16 [4]),oM 83 7,oC 84 92 [69,81,82,83] [.pnode,.ltm,.tm,.int] (tp [.thm,.int]),oE 85 84 0,oE 86 84 1,oS 1 .thm 4 85,oM 5 86])
 .ret))))))))⟩
def c65:XFn G:=⟨60,[.c 4 .thm,.t 5],.pure [.p .thm,.p .int],
 (sq [ob 2 0,ob 3 1,oA 4 35 z_thm,oM 5 (cI 0)]
 (sq [oL 12 .thm 2,oL 13 .thm 3,oC 14 88 [12,13] [.thm,.thm] (tp [.pnode,.int]),oM 11 14,oE 15 11 0,oE 16 11 1,oM 6 15,oM 7 16]
 (.seq (sq [oM 17 7,oO 18 .neq 17 (cI 0)]
 (.cond 18 (sq [o 19 (.bld .thm zs_thm []),oM 20 7,oS 0 .thm 4 19,oM 5 20]
  .ret)
  .skip))
 (.jn ⟨[(4,.ptr 0 0 []),(8,.ptr 1 0 []),(9,.ptr 2 0 [])],[.box 35 (.p .thm),.box 27 (.p .tm),.box 27 (.p .tm)],[2,3,6]⟩ (.draw2 [oF 21 .thm 1 2,oI 22 .psequent 21,oN 23 22,oF 24 .sequent 1 23,oI 25 .tm 24,oF 26 .thm 1 3,oI 27 .psequent 26,oN 28 27,oF 29 .sequent 1 28,oI 30 .tm 29,oA 8 27 z_tm,oA 9 27 z_tm,oS 1 .tm 8 25,oS 1 .tm 9 30] 10 [0,2,1])
 (.seq (.draw [oL 32 .tm 8,oL 33 .tm 9,oC 34 78 [] [] (.p .ty),oC 35 76 [32,33,34] [.tm,.tm,.ty] (tp [.tm,.int]),oM 31 35,oE 36 31 0,oE 37 31 1,oA 10 27 z_tm,oS 1 .tm 10 36,oM 7 37])
 (.seq (.draw [oM 38 6,oF 39 .thm 1 2,oI 40 .psequent 39,oN 41 40,oF 42 .sequent 0 41,oI 43 .ltm 42,o 44 (.ldd .tm 9 [4]),oC 45 111 [43,44] [.ltm,.tm] (.p .ltm),oF 46 .thm 1 3,oI 47 .psequent 46,oN 48 47,oF 49 .sequent 0 48,oI 50 .ltm 49,o 51 (.ldd .tm 8 [4]),oC 52 111 [50,51] [.ltm,.tm] (.p .ltm),o 53 (.bsl .ltm [45,52]),oC 54 93 [53] [.lltm] (.p .ltm),o 55 (.ldd .tm 10 [4]),oM 56 7,oC 57 92 [38,54,55,56] [.pnode,.ltm,.tm,.int] (tp [.thm,.int]),oE 58 57 0,oE 59 57 1,oS 1 .thm 4 58,oM 5 59])
 .ret))))))⟩
def c66:XFn G:=⟨28,[.t 4],.pure [.p .ltm],
 (sq [ob 3 1,o 4 (.mv (.c (.ns .tm)))]
 (sq [o 5 (.mv (.c (.ns .tm)))]
 (.seq (sq [oM 6 (cI 0)]
 (.block 0 (.ps [.adT 5 27 .tm] (.loop ⟨[(5,.row 0),(6,.p .int)],[.row 27 .ltm],[0,3]⟩ (.seq (sq [oM 7 6,oM 8 0,oU 9 8,oO 10 .lss 7 9]
 (.cond 10 .skip
  (.exit 0)))
 (.jn ⟨[(5,.row 0)],[.row 27 .ltm],[0,3,6]⟩ (.block 1 (.seq (.draw [oM 13 0,oM 14 6,oX 15 .tm 13 14,oI 16 .tm 15,oI 17 .tm 3,oC 18 23 [16,17] [.tm,.tm] (.p .bool),o 19 (.un 18)])
 (.cond 19 (.ops [oM 20 5,oM 21 0,oM 22 6,oX 23 .tm 21 22,oL 24 .tm 23,o 25 (.bsl .tm [24]),.a (some 26) (.app 27 .tm 20 25),oM 5 26])
  .skip)))
 (.ops [oM 11 6,o 12 (.inc 11 .i64),oM 6 12])))))))
 (sq [oM 27 5,oM 4 27]
 .ret))))⟩
def c67:XFn G:=⟨6,[.t 2],.pure [.p .bool],
 (sq [ob 1 0,oM 2 (cB false)]
 (sq [oL 3 .ty 1,oC 4 112 [3,(cI 1500),(cI 500)] [.ty,.int,.int] (.p .int),oO 5 .leq 4 (cI 0),oM 2 5]
 .ret))⟩
def c68:XFn G:=⟨21,[.t 2],.pure [.p .int],
 (sq [ob 1 0,oM 2 (cI 0)]
 (sq [oM 3 (cI 1)]
 (.seq (sq [oM 4 (cI 0)]
 (.block 0 (.loop ⟨[(3,.p .int),(4,.p .int)],[],[1]⟩ (.seq (sq [oM 5 4,oF 6 .tm 4 1,oL 7 .ltm 6,oU 8 7,oO 9 .lss 5 8]
 (.cond 9 .skip
  (.exit 0)))
 (.seq (.block 1 (.ops [oM 12 3,oF 13 .tm 4 1,oL 14 .ltm 13,oM 15 4,oX 16 .tm 14 15,oL 17 .tm 16,oC 18 68 [17] [.tm] (.p .int),oO 19 .add 12 18,oM 3 19]))
 (.ops [oM 10 4,o 11 (.inc 10 .i64),oM 4 11]))))))
 (sq [oM 20 3,oM 2 20]
 .ret))))⟩
def c69:XFn G:=⟨22,[.t 2],.pure [.p .int],
 (sq [ob 1 0,oM 2 (cI 0)]
 (sq [oM 3 (cI 0)]
 (.seq (sq [oM 4 (cI 0)]
 (.block 0 (.loop ⟨[(3,.p .int),(4,.p .int)],[],[1]⟩ (.seq (sq [oM 5 4,oF 6 .tm 4 1,oL 7 .ltm 6,oU 8 7,oO 9 .lss 5 8]
 (.cond 9 .skip
  (.exit 0)))
 (.seq (.block 1 (.ops [oM 12 3,oF 13 .tm 4 1,oL 14 .ltm 13,oM 15 4,oX 16 .tm 14 15,oL 17 .tm 16,oC 18 69 [17] [.tm] (.p .int),o 19 (.mx 12 18),oM 3 19]))
 (.ops [oM 10 4,o 11 (.inc 10 .i64),oM 4 11]))))))
 (sq [oM 20 3,oO 21 .add (cI 1) 20,oM 2 21]
 .ret))))⟩
def c70:XFn G:=⟨34,[.c 2 .tm],.pure [.p .tm],
 (sq [ob 1 0,oA 2 27 z_tm]
 (.seq (.draw [oF 5 .tm 0 1,oI 6 .u8 5,oF 7 .tm 1 1,oI 8 .str 7,oF 9 .tm 2 1,oI 10 .ty 9,oC 11 100 [10] [.ty] (.p .ty),oF 12 .tm 3 1,oI 13 .int 12,o 14 (.bld .tm zs_tm [(0,6),(1,8),(2,11),(3,13)]),oA 3 27 z_tm,oS 1 .tm 3 14])
 (.seq (sq [oM 4 (cI 0)]
 (.block 0 (.ps [.adB 1 [4] 27 .tm] (.loop ⟨[(2,.ptr 0 0 []),(3,.ptr 1 0 []),(4,.p .int)],[.keep,.box 27 (.ag .tm [.p .u8,.p .str,.p .ty,.p .int,.row 2]),.row 27 .ltm],[1]⟩ (.seq (sq [oM 15 4,oF 16 .tm 4 1,oL 17 .ltm 16,oU 18 17,oO 19 .lss 15 18]
 (.cond 19 .skip
  (.exit 0)))
 (.seq (.block 1 (.draw [oF 22 .tm 4 3,oL 23 .ltm 22,oF 24 .tm 4 1,oI 25 .ltm 24,oM 26 4,oX 27 .tm 25 26,oI 28 .tm 27,oC 29 70 [28] [.tm] (.p .tm),o 30 (.bsl .tm [29]),.a (some 31) (.app 27 .tm 23 30),oF 32 .tm 4 3,oS 1 .ltm 32 31]))
 (.ops [oM 20 4,o 21 (.inc 20 .i64),oM 4 21])))))))
 (sq [oL 33 .tm 3,oS 0 .tm 2 33]
 .ret))))⟩
def c71:XFn G:=⟨14,[.t 4],.pure [.p .int],
 (sq [ob 2 0,ob 3 1,oM 4 (cI 0)]
 (sq [oL 8 .theory 2,oL 9 .tm 3,oC 10 75 [8,9] [.theory,.tm] (tp [.ty,.int]),oM 7 10,oE 11 7 0,oE 12 7 1,oA 5 25 z_ty,oS 0 .ty 5 11,oM 6 12]
 (sq [oM 13 6,oM 4 13]
 .ret)))⟩
def c72:XFn G:=⟨13,[.t 2],.pure [.p .bool],
 (sq [ob 1 0,oM 2 (cB false)]
 (sq [oL 6 .tm 1,oC 7 96 [6] [.tm] (tp [.ty,.int]),oM 5 7,oE 8 5 0,oE 9 5 1,oA 3 25 z_ty,oS 0 .ty 3 8,oM 4 9]
 (.seq (.draw [oL 10 .ty 3,oC 11 78 [] [] (.p .ty),oC 12 90 [10,11] [.ty,.ty] (.p .bool),oM 2 12])
 .ret)))⟩
def c73:XFn G:=⟨35,[.c 2 .tm],.pure [.p .tm],
 (sq [.a (some 1) (.bxm 27 0),oA 2 27 z_tm]
 (sq [oF 6 .tm 4 1,oL 7 .ltm 6,oM 3 7]
 (sq [oF 8 .tm 2 1,oL 9 .ty 8,oC 10 84 [9] [.ty] (.p .ty),oF 11 .tm 2 1,oS 0 .ty 11 10,oF 12 .tm 4 1,.a none (.st 0 .ltm 12 (.c (.ns .tm)))]
 (.jn ⟨[(1,.ptr 0 0 []),(2,.ptr 1 0 [])],[.box 27 (.ag .tm [.p .u8,.p .str,.p .ty,.p .int,.row 2]),.keep,.row 27 .ltm],[3]⟩ (.th (sq [oM 13 3,oU 14 13,oO 15 .gtr 14 (cI 0)]
 (.cond 15 (.ops [oM 16 3,oU 17 16,.a (some 18) (.mks 27 .tm (Tm.mk 0 (⟨#[]⟩:ByteArray) (Ty.mk false (⟨#[]⟩:ByteArray) []) 0 []) 17),oF 19 .tm 4 1,oS 0 .ltm 19 18])
  .skip)) [.adB 0 [4] 27 .tm])
 (.seq (sq [oM 20 3,oU 21 20,oM 22 (cI 0)]
 (.block 0 (.loop ⟨[(1,.ptr 0 0 []),(2,.ptr 1 0 []),(22,.p .int)],[.keep,.keep,.row 27 .ltm],[20,21]⟩ (sq [oO 23 .lss 22 21]
 (.seq (.cond 23 .skip
  (.exit 0))
 (.seq (.block 1 (sq [oM 24 22,oX 25 .tm 20 22,oL 26 .tm 25,oA 5 27 z_tm,oM 4 24,oS 0 .tm 5 26]
 (.draw [oF 27 .tm 4 1,oL 28 .ltm 27,oM 29 4,oL 30 .tm 5,oC 31 73 [30] [.tm] (.p .tm),oX 32 .tm 28 29,oS 2 .tm 32 31])))
 (.ops [o 33 (.inc 22 .i64),oM 22 33])))))))
 (sq [oL 34 .tm 1,oS 0 .tm 2 34]
 .ret))))))⟩
def c74:XFn G:=⟨7,[.c 4 .thm],.pure [.p .thm],
 (sq [.a (some 3) (.bxm 29 1),oA 4 35 z_thm]
 (sq [oM 5 0,o 6 (.bld .thm zs_thm [(0,5),(1,3)]),oS 0 .thm 4 6]
 .ret))⟩
def c75:XFn G:=⟨29,[.c 4 .ty,.t 5],.pure [.p .ty,.p .int],
 (sq [ob 2 0,ob 3 1,oA 4 25 z_ty,oM 5 (cI 0)]
 (sq [oL 9 .tm 3,oC 10 96 [9] [.tm] (tp [.ty,.int]),oM 8 10,oE 11 8 0,oE 12 8 1,oA 6 25 z_ty,oS 0 .ty 6 11,oM 7 12]
 (.seq (.block 0 (sq [oM 14 7,oO 15 .neq 14 (cI 0),oM 13 15]
 (.cond 13 (sq [o 16 (.bld .ty zs_ty []),oM 17 7,oS 0 .ty 4 16,oM 5 17]
  .ret)
  (sq [oL 19 .theory 2,o 20 (.bsl .theory [19]),oC 21 40 [20] [.ltheory] (.p .bool),oM 18 21]
  (.cond 18 (sq [o 22 (.bld .ty zs_ty []),oS 0 .ty 4 22,oM 5 (cI 52)]
   .ret)
   .skip)))))
 (.seq (.draw [o 23 (.ldd .ty 6 [4]),oF 24 .theory 0 2,oI 25 .pnode 24,oI 26 .tm 3,o 27 (.bsl .tm [26]),oC 28 113 [25,27] [.pnode,.ltm] (.p .int),oS 1 .ty 4 23,oM 5 28])
 .ret))))⟩
def c76:XFn G:=⟨45,[.c 6 .tm,.t 7],.pure [.p .tm,.p .int],
 (sq [ob 3 0,ob 4 1,ob 5 2,oA 6 27 z_tm,oM 7 (cI 0)]
 (.seq (.draw [oI 13 .ty 5,oC 14 78 [] [] (.p .ty),o 15 (.bsl .ty [13,14]),o 16 (.bld .ty zs_ty [(1,(.c (.v .str (⟨#[102,117,110]⟩:ByteArray)))),(2,15)]),oA 8 25 z_ty,oS 1 .ty 8 16])
 (sq [oL 17 .ty 5,oL 18 .ty 8,.cn 18 .ty,o 19 (.bsl .ty [17,18]),o 20 (.bld .ty zs_ty [(1,(.c (.v .str (⟨#[102,117,110]⟩:ByteArray)))),(2,19)]),o 21 (.bld .tm zs_tm [(0,(.c (.v .u8 (2:Int)))),(1,(.c (.v .str (⟨#[61]⟩:ByteArray)))),(2,20)]),oA 9 27 z_tm,oS 0 .tm 9 21]
 (.seq (.draw [oL 22 .tm 9,oI 23 .tm 3,oC 24 91 [22,23] [.tm,.tm] (.p .tm),oI 25 .tm 4,oC 26 91 [24,25] [.tm,.tm] (.p .tm),oA 10 27 z_tm,oS 1 .tm 10 26])
 (.seq (sq [oL 28 .tm 10,oC 29 114 [28] [.tm] (tp [.int,.int]),oM 27 29,oE 30 27 0,oE 31 27 1,oM 11 30,oM 12 31]
 (.jn ⟨[(6,.ptr 0 0 []),(9,.ptr 2 0 []),(10,.ptr 3 0 []),(37,.p .bool)],[.keep,.gone,.keep,.keep],[]⟩ (.ops [oM 32 11,oO 33 .gtr 32 (cI 32000),oM 34 33,.gd 34 false (some 35) (oM 35 12),.gd 34 false (some 36) (oO 36 .gtr 35 (cI 300)),o 37 (.pk 34 (cB true) 36)])
 (.cond 37 (sq [o 38 (.bld .tm zs_tm []),oS 0 .tm 6 38,oM 7 (cI 21)]
  .ret)
  .skip)))
 (.seq (sq [oF 39 .tm 2 9,oL 40 .ty 39,oC 41 115 [40] [.ty] (.p .int),oO 42 .neq 41 (cI 0)]
 (.cond 42 (sq [o 43 (.bld .tm zs_tm []),oS 0 .tm 6 43,oM 7 (cI 20)]
  .ret)
  .skip))
 (sq [oL 44 .tm 10,oS 0 .tm 6 44,oM 7 (cI 0)]
 .ret)))))))⟩
def c77:XFn G:=⟨11,[.c 4 .ty],.pure [.p .ty],
 (sq [ob 2 0,ob 3 1,oA 4 25 z_ty]
 (.seq (.draw [oI 5 .ty 2,oC 6 84 [5] [.ty] (.p .ty),oI 7 .ty 3,oC 8 84 [7] [.ty] (.p .ty),o 9 (.bsl .ty [6,8]),o 10 (.bld .ty zs_ty [(1,(.c (.v .str (⟨#[102,117,110]⟩:ByteArray)))),(2,9)]),oS 1 .ty 4 10])
 .ret))⟩
def c78:XFn G:=⟨2,[.c 0 .ty],.pure [.p .ty],
 (sq [oA 0 25 z_ty]
 (sq [o 1 (.bld .ty zs_ty [(1,(.c (.v .str (⟨#[98,111,111,108]⟩:ByteArray))))]),oS 0 .ty 0 1]
 .ret))⟩
def c79:XFn G:=⟨7,[.t 2],.pure [.p .bool],
 (sq [oM 2 (cB false)]
 (sq [oA 3 35 z_thm]
 (sq [oM 4 0,oL 5 .thm 3,oC 6 116 [4,5] [.lthm,.thm] (.p .bool),oM 2 6]
 .ret)))⟩
def c80:XFn G:=⟨25,[.c 2 .sequent],.pure [.p .sequent],
 (sq [ob 1 0,oA 2 29 z_sequent]
 (.seq (sq [oF 5 .sequent 0 1,oL 6 .ltm 5,oU 7 6,oM 8 (cI 0)]
 (.block 0 (.ps [.adB 0 [0] 27 .tm] (.loop ⟨[(2,.ptr 0 0 []),(8,.p .int)],[.box 29 (.ag .sequent [.row 1,.p .tm]),.row 27 .ltm],[1,6,7]⟩ (sq [oO 9 .lss 8 7]
 (.seq (.cond 9 .skip
  (.exit 0))
 (.seq (.block 1 (sq [oX 10 .tm 6 8,oL 11 .tm 10,oA 4 27 z_tm,oS 0 .tm 4 11]
 (.draw [oF 12 .sequent 0 2,oL 13 .ltm 12,oL 14 .tm 4,oC 15 73 [14] [.tm] (.p .tm),o 16 (.bsl .tm [15]),.a (some 17) (.app 27 .tm 13 16),oF 18 .sequent 0 2,oS 1 .ltm 18 17])))
 (.ops [o 19 (.inc 8 .i64),oM 8 19]))))))))
 (sq [oF 20 .sequent 1 1,oL 21 .tm 20,oC 22 73 [21] [.tm] (.p .tm),oF 23 .sequent 1 2,oS 0 .tm 23 22]
 (sq [oL 24 .sequent 2,oS 0 .sequent 2 24]
 .ret))))⟩
def c81:XFn G:=⟨9,[.t 4],.pure [.p .bool],
 (sq [ob 3 1,oM 4 (cB false)]
 (sq [oM 5 0,oL 6 .theory 3,oC 7 117 [5,6] [.ltheory,.theory] (.p .int),oO 8 .geq 7 (cI 0),oM 4 8]
 .ret))⟩
def c82:XFn G:=⟨8,[.t 2],.pure [.p .ltypeop],
 (sq [o 2 (.mv (.c (.ns .typeop)))]
 (.seq (sq [oM 3 0,o 4 (.eqn false 3)]
 (.cond 4 (sq [o 2 (.mv (.c (.ns .typeop)))]
  .ret)
  .skip))
 (sq [.a (some 5) (.bsr 120 .typeop),oM 6 0,.a (some 7) (.app 120 .typeop 5 6),oM 2 7]
 .ret)))⟩
def c83:XFn G:=⟨8,[.t 2],.pure [.p .lconst],
 (sq [o 2 (.mv (.c (.ns .const)))]
 (.seq (sq [oM 3 0,o 4 (.eqn false 3)]
 (.cond 4 (sq [o 2 (.mv (.c (.ns .const)))]
  .ret)
  .skip))
 (sq [.a (some 5) (.bsr 122 .const),oM 6 0,.a (some 7) (.app 122 .const 5 6),oM 2 7]
 .ret)))⟩
def c83v1:XFn G:=⟨8,[.t 2],.own 0 ho83v1 [.row 0],
 (sq [o 2 (.mv (.c (.ns .const)))]
 (.seq (sq [oM 3 0,o 4 (.eqn false 3)]
 (.cond 4 (sq [o 2 (.mv (.c (.ns .const)))]
  (.ps [.adT 2 122 .const] .ret))
  .skip))
 (sq [.a (some 5) (.bsr 122 .const),oM 6 0,.a (some 7) (.app 122 .const 5 6),oM 2 7]
 .ret)))⟩
def c84:XFn G:=⟨31,[.c 2 .ty],.pure [.p .ty],
 (sq [.a (some 1) (.bxm 25 0),oA 2 25 z_ty]
 (sq [oF 6 .ty 2 1,oL 7 .lty 6,oM 3 7]
 (sq [oF 8 .ty 2 1,.a none (.st 0 .lty 8 (.c (.ns .ty)))]
 (.jn ⟨[(1,.ptr 0 0 []),(2,.ptr 1 0 [])],[.box 25 (.ag .ty [.p .bool,.p .str,.row 2]),.keep,.row 25 .lty],[3]⟩ (.th (sq [oM 9 3,oU 10 9,oO 11 .gtr 10 (cI 0)]
 (.cond 11 (.ops [oM 12 3,oU 13 12,.a (some 14) (.mks 25 .ty (Ty.mk false (⟨#[]⟩:ByteArray) []) 13),oF 15 .ty 2 1,oS 0 .lty 15 14])
  .skip)) [.adB 0 [2] 25 .ty])
 (.seq (sq [oM 16 3,oU 17 16,oM 18 (cI 0)]
 (.block 0 (.loop ⟨[(1,.ptr 0 0 []),(2,.ptr 1 0 []),(18,.p .int)],[.keep,.keep,.row 25 .lty],[16,17]⟩ (sq [oO 19 .lss 18 17]
 (.seq (.cond 19 .skip
  (.exit 0))
 (.seq (.block 1 (sq [oM 20 18,oX 21 .ty 16 18,oL 22 .ty 21,oA 5 25 z_ty,oM 4 20,oS 0 .ty 5 22]
 (.draw [oF 23 .ty 2 1,oL 24 .lty 23,oM 25 4,oL 26 .ty 5,oC 27 84 [26] [.ty] (.p .ty),oX 28 .ty 24 25,oS 2 .ty 28 27])))
 (.ops [o 29 (.inc 18 .i64),oM 18 29])))))))
 (sq [oL 30 .ty 1,oS 0 .ty 2 30]
 .ret))))))⟩
def c85:XFn G:=⟨124,[.c 8 .theory,.t 9],.pure [.p .theory,.p .int],
 (sq [ob 7 3,oA 8 39 z_theory,oM 9 (cI 0)]
 (.seq (sq [oM 31 0,oU 32 31,oM 33 (cI 0)]
 (.block 0 (.loop ⟨[(8,.ptr 0 0 []),(33,.p .int)],[.box 39 (.p .theory)],[0,1,2,7,31,32]⟩ (sq [oO 34 .lss 33 32]
 (.seq (.cond 34 .skip
  (.exit 0))
 (.seq (.block 1 (sq [oX 35 .tm 31 33,oL 36 .tm 35,oA 11 27 z_tm,oS 0 .tm 11 36]
 (sq [oL 37 .tm 11,oC 38 21 [37] [.tm] (.p .int),oM 12 38]
 (sq [oM 39 12,oO 40 .neq 39 (cI 0)]
 (.cond 40 (sq [o 41 (.bld .theory zs_theory []),oM 42 12,oS 0 .theory 8 41,oM 9 42]
  .ret)
  .skip)))))
 (.ops [o 43 (.inc 33 .i64),oM 33 43])))))))
 (.seq (sq [oM 44 1,oU 45 44,oM 46 (cI 0)]
 (.block 2 (.loop ⟨[(8,.ptr 0 0 []),(46,.p .int)],[.box 39 (.p .theory)],[0,1,2,7,31,32,44,45]⟩ (sq [oO 47 .lss 46 45]
 (.seq (.cond 47 .skip
  (.exit 2))
 (.seq (.block 3 (sq [oX 48 .theory 44 46,oL 49 .theory 48,oA 14 39 z_theory,oS 0 .theory 14 49]
 (sq [oL 51 .theory 14,oL 52 .theory 14,oC 53 118 [51,52] [.theory,.theory] (tp [.bool,.int]),oM 50 53,oE 54 50 0,oE 55 50 1,oM 15 54,oM 16 55]
 (sq [oM 56 16,oO 57 .neq 56 (cI 0)]
 (.cond 57 (sq [o 58 (.bld .theory zs_theory []),oS 0 .theory 8 58,oM 9 (cI 52)]
  .ret)
  .skip)))))
 (.ops [o 59 (.inc 46 .i64),oM 46 59])))))))
 (sq [.a (some 60) (.bsr 39 .theory),oM 61 1,.a (some 62) (.app 39 .theory 60 61),oM 17 62]
 (.seq (sq [oM 63 2,oU 64 63,oM 65 (cI 0)]
 (.block 4 (.loop ⟨[(8,.ptr 0 0 []),(17,.row 1),(65,.p .int)],[.box 39 (.p .theory),.row 39 .ltheory],[0,1,2,7,31,32,44,45,63,64]⟩ (sq [oO 66 .lss 65 64]
 (.seq (.cond 66 .skip
  (.exit 4))
 (.seq (.block 5 (sq [oX 67 .thm 63 65,oL 68 .thm 67,oA 19 35 z_thm,oS 0 .thm 19 68]
 (.seq (sq [oL 69 .thm 19,oC 70 19 [69] [.thm] (.p .int),oM 20 70]
 (sq [oM 71 20,oO 72 .neq 71 (cI 0)]
 (.cond 72 (sq [o 73 (.bld .theory zs_theory []),oM 74 20,oS 0 .theory 8 73,oM 9 74]
  .ret)
  .skip)))
 (sq [oL 76 .thm 19,oC 77 39 [76] [.thm] (tp [.theory,.int]),oM 75 77,oE 78 75 0,oE 79 75 1,oA 21 39 z_theory,oS 0 .theory 21 78,oM 22 79]
 (.ops [oM 80 17,oL 81 .theory 21,o 82 (.bsl .theory [81]),.a (some 83) (.app 39 .theory 80 82),oM 17 83])))))
 (.ops [o 84 (.inc 65 .i64),oM 65 84])))))))
 (sq [oM 86 17,.fz 1 .ltheory,oC 87 119 [86] [.ltheory] (tp [.theory,.int]),oM 85 87,oE 88 85 0,oE 89 85 1,oA 23 39 z_theory,oS 0 .theory 23 88,oM 24 89]
 (.seq (sq [oM 90 24,oO 91 .neq 90 (cI 0)]
 (.cond 91 (sq [o 92 (.bld .theory zs_theory []),oM 93 24,oS 0 .theory 8 92,oM 9 93]
  .ret)
  .skip))
 (.seq (sq [oL 95 .theory 23,oL 96 .theory 7,oC 97 118 [95,96] [.theory,.theory] (tp [.bool,.int]),oM 94 97,oE 98 94 0,oE 99 94 1,oM 25 98,oM 26 99]
 (.jn ⟨[(8,.ptr 0 0 []),(23,.ptr 2 0 []),(105,.p .bool)],[.keep,.gone,.keep],[0,1,2,7,31,32,44,45,63,64]⟩ (.ops [oM 100 26,oO 101 .neq 100 (cI 0),oM 102 101,.gd 102 false (some 103) (oM 103 25),.gd 102 false (some 104) (o 104 (.un 103)),o 105 (.pk 102 (cB true) 104)])
 (.cond 105 (sq [o 106 (.bld .theory zs_theory []),oS 0 .theory 8 106,oM 9 (cI 52)]
  .ret)
  .skip)))
 (.seq (sq [oM 107 0,oU 108 107,oM 109 (cI 0)]
 (.block 6 (.loop ⟨[(8,.ptr 0 0 []),(23,.ptr 2 0 []),(109,.p .int)],[.box 39 (.p .theory),.gone,.keep],[0,1,2,7,31,32,44,45,63,64,107,108]⟩ (sq [oO 110 .lss 109 108]
 (.seq (.cond 110 .skip
  (.exit 6))
 (.seq (.block 7 (sq [oX 111 .tm 107 109,oL 112 .tm 111,oA 28 27 z_tm,oS 0 .tm 28 112]
 (sq [oL 114 .theory 23,oL 115 .tm 28,oC 116 35 [114,115] [.theory,.tm] (tp [.thm,.int]),oM 113 116,oE 117 113 0,oE 118 113 1,oA 29 35 z_thm,oS 0 .thm 29 117,oM 30 118]
 (sq [oM 119 30,oO 120 .eql 119 (cI 40)]
 (.cond 120 (sq [o 121 (.bld .theory zs_theory []),oS 0 .theory 8 121,oM 9 (cI 40)]
  .ret)
  .skip)))))
 (.ops [o 122 (.inc 109 .i64),oM 109 122])))))))
 (sq [oL 123 .theory 23,oS 0 .theory 8 123,oM 9 (cI 0)]
 .ret))))))))))⟩
def c86:XFn G:=⟨58,[.c 2 .tm,.c 3 .tm,.t 4],.pure [.p .tm,.p .tm,.p .bool],
 (sq [ob 1 0,oA 2 27 z_tm,oA 3 27 z_tm,oM 4 (cB false)]
 (.seq (.jn ⟨[(2,.ptr 0 0 []),(3,.ptr 1 0 []),(14,.p .bool)],[.keep,.keep],[1]⟩ (.ops [oF 6 .tm 0 1,oL 7 .u8 6,o 8 (.bi .neq 7 (.c (.v .u8 (4:Int)))),oM 9 8,.gd 9 false (some 10) (oF 10 .tm 4 1),.gd 9 false (some 11) (oL 11 .ltm 10),.gd 9 false (some 12) (oU 12 11),.gd 9 false (some 13) (oO 13 .neq 12 (cI 2)),o 14 (.pk 9 (cB true) 13)])
 (.cond 14 (.seq (.draw [o 15 (.ldd .tm 2 [3]),o 16 (.ldd .tm 3 [2]),oS 1 .tm 2 15,oS 1 .tm 3 16,oM 4 (cB false)])
  .ret)
  .skip))
 (sq [oF 17 .tm 4 1,oL 18 .ltm 17,oX 19 .tm 18 (cI 0),oL 20 .tm 19,oA 5 27 z_tm,oS 0 .tm 5 20]
 (.seq (.jn ⟨[(2,.ptr 0 0 []),(3,.ptr 1 0 []),(5,.ptr 2 0 []),(45,.p .bool)],[.keep,.keep,.keep],[1]⟩ (.ops [oF 21 .tm 0 5,oL 22 .u8 21,o 23 (.bi .neq 22 (.c (.v .u8 (4:Int)))),oM 24 23,.gd 24 false (some 25) (oF 25 .tm 4 5),.gd 24 false (some 26) (oL 26 .ltm 25),.gd 24 false (some 27) (oU 27 26),.gd 24 false (some 28) (oO 28 .neq 27 (cI 2)),o 29 (.pk 24 (cB true) 28),oM 30 29,.gd 30 false (some 31) (oF 31 .tm 4 5),.gd 30 false (some 32) (oL 32 .ltm 31),.gd 30 false (some 33) (oX 33 .tm 32 (cI 0)),.gd 30 false (some 34) (oF 34 .tm 0 33),.gd 30 false (some 35) (oL 35 .u8 34),.gd 30 false (some 36) (o 36 (.bi .neq 35 (.c (.v .u8 (2:Int))))),o 37 (.pk 30 (cB true) 36),oM 38 37,.gd 38 false (some 39) (oF 39 .tm 4 5),.gd 38 false (some 40) (oL 40 .ltm 39),.gd 38 false (some 41) (oX 41 .tm 40 (cI 0)),.gd 38 false (some 42) (oF 42 .tm 1 41),.gd 38 false (some 43) (oL 43 .str 42),.gd 38 false (some 44) (o 44 (.bi .neq 43 (.c (.v .str (⟨#[61]⟩:ByteArray))))),o 45 (.pk 38 (cB true) 44)])
 (.cond 45 (.seq (.draw [o 46 (.ldd .tm 2 [3]),o 47 (.ldd .tm 3 [2]),oS 1 .tm 2 46,oS 1 .tm 3 47,oM 4 (cB false)])
  .ret)
  .skip))
 (.seq (.draw [oF 48 .tm 4 5,o 49 (.ldd .ltm 48 [2,3]),oX 50 .tm 49 (cI 1),oI 51 .tm 50,oC 52 73 [51] [.tm] (.p .tm),oF 53 .tm 4 1,oI 54 .ltm 53,oX 55 .tm 54 (cI 1),oI 56 .tm 55,oC 57 73 [56] [.tm] (.p .tm),oS 1 .tm 2 52,oS 1 .tm 3 57,oM 4 (cB true)])
 .ret)))))⟩
def c87:XFn G:=⟨20,[.t 4],.pure [.p .int],
 (sq [ob 2 0,ob 3 1,oM 4 (cI 0)]
 (sq [oL 6 .signature 2,oC 7 120 [6] [.signature] (.p .int),oM 5 7]
 (.seq (sq [oM 8 5,oO 9 .neq 8 (cI 0)]
 (.cond 9 (sq [oM 10 5,oM 4 10]
  .ret)
  .skip))
 (sq [oL 11 .tm 3,oC 12 59 [11] [.tm] (.p .int),oM 5 12]
 (.seq (sq [oM 13 5,oO 14 .neq 13 (cI 0)]
 (.cond 14 (sq [oM 15 5,oM 4 15]
  .ret)
  .skip))
 (.seq (sq [oL 16 .signature 2,oL 17 .tm 3,oC 18 121 [16,17] [.signature,.tm] (.p .bool),o 19 (.un 18)]
 (.cond 19 (sq [oM 4 (cI 40)]
  .ret)
  .skip))
 (sq [oM 4 (cI 0)]
 .ret)))))))⟩
def c88:XFn G:=⟨27,[.t 4,.t 5],.pure [.p .pnode,.p .int],
 (sq [ob 2 0,ob 3 1,o 4 (.mv (.c (.nilp))),oM 5 (cI 0)]
 (.seq (.block 0 (sq [oL 7 .thm 2,oL 8 .thm 3,o 9 (.bsl .thm [7,8]),oC 10 79 [9] [.lthm] (.p .bool),oM 6 10]
 (.cond 6 (sq [o 4 (.mv (.c (.nilp))),oM 5 (cI 52)]
  .ret)
  (sq [oF 12 .thm 0 2,oL 13 .pnode 12,oF 14 .thm 0 3,oL 15 .pnode 14,oC 16 122 [13,15] [.pnode,.pnode] (.p .bool),oM 11 16]
  (.cond 11 (sq [oF 17 .thm 0 2,oL 18 .pnode 17,oM 4 18,oM 5 (cI 0)]
   .ret)
   (sq [oF 20 .thm 0 3,oL 21 .pnode 20,oF 22 .thm 0 2,oL 23 .pnode 22,oC 24 122 [21,23] [.pnode,.pnode] (.p .bool),oM 19 24]
   (.cond 19 (sq [oF 25 .thm 0 3,oL 26 .pnode 25,oM 4 26,oM 5 (cI 0)]
    .ret)
    .skip)))))))
 (sq [o 4 (.mv (.c (.nilp))),oM 5 (cI 52)]
 .ret)))⟩
def c89:XFn G:=⟨55,[.c 2 .tm,.c 3 .tm,.c 4 .ty,.t 5],.pure [.p .tm,.p .tm,.p .ty,.p .bool],
 (sq [ob 1 0,oA 2 27 z_tm,oA 3 27 z_tm,oA 4 25 z_ty,oM 5 (cB false)]
 (.seq (sq [oF 7 .tm 0 1,oL 8 .u8 7,o 9 (.bi .neq 8 (.c (.v .u8 (4:Int))))]
 (.cond 9 (.seq (.draw [o 10 (.ldd .tm 2 [3,4]),o 11 (.ldd .tm 3 [2,4]),o 12 (.ldd .ty 4 [2,3]),oS 1 .tm 2 10,oS 1 .tm 3 11,oS 1 .ty 4 12,oM 5 (cB false)])
  .ret)
  .skip))
 (sq [oF 13 .tm 4 1,oL 14 .ltm 13,oX 15 .tm 14 (cI 0),oL 16 .tm 15,oA 6 27 z_tm,oS 0 .tm 6 16]
 (.seq (.jn ⟨[(2,.ptr 0 0 []),(3,.ptr 1 0 []),(4,.ptr 2 0 []),(6,.ptr 3 0 []),(35,.p .bool)],[.keep,.keep,.keep,.keep],[1]⟩ (.ops [oF 17 .tm 0 6,oL 18 .u8 17,o 19 (.bi .neq 18 (.c (.v .u8 (4:Int)))),oM 20 19,.gd 20 false (some 21) (oF 21 .tm 4 6),.gd 20 false (some 22) (oL 22 .ltm 21),.gd 20 false (some 23) (oX 23 .tm 22 (cI 0)),.gd 20 false (some 24) (oF 24 .tm 0 23),.gd 20 false (some 25) (oL 25 .u8 24),.gd 20 false (some 26) (o 26 (.bi .neq 25 (.c (.v .u8 (2:Int))))),o 27 (.pk 20 (cB true) 26),oM 28 27,.gd 28 false (some 29) (oF 29 .tm 4 6),.gd 28 false (some 30) (oL 30 .ltm 29),.gd 28 false (some 31) (oX 31 .tm 30 (cI 0)),.gd 28 false (some 32) (oF 32 .tm 1 31),.gd 28 false (some 33) (oL 33 .str 32),.gd 28 false (some 34) (o 34 (.bi .neq 33 (.c (.v .str (⟨#[61]⟩:ByteArray))))),o 35 (.pk 28 (cB true) 34)])
 (.cond 35 (.seq (.draw [o 36 (.ldd .tm 2 [3,4]),o 37 (.ldd .tm 3 [2,4]),o 38 (.ldd .ty 4 [2,3]),oS 1 .tm 2 36,oS 1 .tm 3 37,oS 1 .ty 4 38,oM 5 (cB false)])
  .ret)
  .skip))
 (.seq (.draw [oF 39 .tm 4 6,o 40 (.ldd .ltm 39 [2,3,4]),oX 41 .tm 40 (cI 1),oI 42 .tm 41,oF 43 .tm 4 1,oI 44 .ltm 43,oX 45 .tm 44 (cI 1),oI 46 .tm 45,oF 47 .tm 4 6,o 48 (.ldd .ltm 47 [2,3,4]),oX 49 .tm 48 (cI 0),oF 50 .tm 2 49,oF 51 .ty 2 50,oI 52 .lty 51,oX 53 .ty 52 (cI 0),oI 54 .ty 53,oS 1 .tm 2 42,oS 1 .tm 3 46,oS 1 .ty 4 54,oM 5 (cB true)])
 .ret)))))⟩
def c90:XFn G:=⟨9,[.t 4],.pure [.p .bool],
 (sq [ob 2 0,ob 3 1,oM 4 (cB false)]
 (sq [oL 5 .ty 2,oL 6 .ty 3,oC 7 123 [5,6] [.ty,.ty] (.p .int),oO 8 .eql 7 (cI 0),oM 4 8]
 .ret))⟩
def c91:XFn G:=⟨9,[.c 4 .tm],.pure [.p .tm],
 (sq [ob 2 0,ob 3 1,oA 4 27 z_tm]
 (sq [oL 5 .tm 2,oL 6 .tm 3,o 7 (.bsl .tm [5,6]),o 8 (.bld .tm zs_tm [(0,(.c (.v .u8 (4:Int)))),(4,7)]),oS 0 .tm 4 8]
 .ret))⟩
def c92:XFn G:=⟨23,[.c 8 .thm,.t 9],.pure [.p .thm,.p .int],
 (sq [ob 6 2,oA 8 35 z_thm,oM 9 (cI 0)]
 (.seq (sq [oM 10 1,oU 11 10,oO 12 .gtr 11 (cI 64)]
 (.cond 12 (sq [o 13 (.bld .thm zs_thm []),oS 0 .thm 8 13,oM 9 (cI 4)]
  .ret)
  .skip))
 (.seq (sq [oM 14 3,oO 15 .neq 14 (cI 0)]
 (.cond 15 (sq [o 16 (.bld .thm zs_thm []),oM 17 3,oS 0 .thm 8 16,oM 9 17]
  .ret)
  .skip))
 (sq [oM 18 0,oM 19 1,oL 20 .tm 6,o 21 (.bld .sequent zs_sequent [(0,19),(1,20)]),oC 22 74 [18,21] [.pnode,.sequent] (.p .thm),oS 0 .thm 8 22,oM 9 (cI 0)]
 .ret))))⟩
def c93:XFn G:=⟨10,[.t 2],.pure [.p .ltm],
 (sq [o 2 (.mv (.c (.ns .tm)))]
 (sq [oM 4 0,.callg 1 (some 5) (.c (.fn 124 [] [])) [4] [] hi124v1 as124v1 ho124v1 rs124v1,oM 3 5]
 (sq [oM 6 3,.callg 10 (some 7) (.c (.fn 125 [] [])) [6,(.c (.fn 110 [] []))] [0] hi125v10 as125v10 ho125v10 rs125v10]
 (sq [oM 8 3,.callg 1 (some 9) (.c (.fn 126 [] [])) [8,(.c (.fn 63 [] []))] [0] hi126v1 as126v1 ho126v1 rs126v1,oM 2 9]
 .ret))))⟩
def c94:XFn G:=⟨13,[.c 6 .tm],.pure [.p .tm],
 (sq [ob 3 0,ob 4 1,ob 5 2,oA 6 27 z_tm]
 (.seq (.draw [oI 7 .ty 5,oC 8 127 [7] [.ty] (.p .tm),oI 9 .tm 3,oC 10 55 [8,9] [.tm,.tm] (.p .tm),oI 11 .tm 4,oC 12 55 [10,11] [.tm,.tm] (.p .tm),oS 1 .tm 6 12])
 .ret))⟩
def c95:XFn G:=⟨30,[.c 2 .ty,.c 3 .ty,.t 4],.pure [.p .ty,.p .ty,.p .bool],
 (sq [ob 1 0,oA 2 25 z_ty,oA 3 25 z_ty,oM 4 (cB false)]
 (.seq (.jn ⟨[(2,.ptr 0 0 []),(3,.ptr 1 0 []),(17,.p .bool)],[.keep,.keep],[1]⟩ (.ops [oF 5 .ty 0 1,oL 6 .bool 5,oM 7 6,.gd 7 false (some 8) (oF 8 .ty 1 1),.gd 7 false (some 9) (oL 9 .str 8),.gd 7 false (some 10) (o 10 (.bi .neq 9 (.c (.v .str (⟨#[102,117,110]⟩:ByteArray))))),o 11 (.pk 7 (cB true) 10),oM 12 11,.gd 12 false (some 13) (oF 13 .ty 2 1),.gd 12 false (some 14) (oL 14 .lty 13),.gd 12 false (some 15) (oU 15 14),.gd 12 false (some 16) (oO 16 .neq 15 (cI 2)),o 17 (.pk 12 (cB true) 16)])
 (.cond 17 (.seq (.draw [o 18 (.ldd .ty 2 [3]),o 19 (.ldd .ty 3 [2]),oS 1 .ty 2 18,oS 1 .ty 3 19,oM 4 (cB false)])
  .ret)
  .skip))
 (.seq (.draw [oF 20 .ty 2 1,oI 21 .lty 20,oX 22 .ty 21 (cI 0),oI 23 .ty 22,oC 24 84 [23] [.ty] (.p .ty),oF 25 .ty 2 1,oI 26 .lty 25,oX 27 .ty 26 (cI 1),oI 28 .ty 27,oC 29 84 [28] [.ty] (.p .ty),oS 1 .ty 2 24,oS 1 .ty 3 29,oM 4 (cB true)])
 .ret)))⟩
def c96:XFn G:=⟨14,[.c 2 .ty,.t 3],.pure [.p .ty,.p .int],
 (sq [ob 1 0,oA 2 25 z_ty,oM 3 (cI 0)]
 (sq [oL 7 .tm 1,oC 8 105 [7] [.tm] (tp [.ty,.int]),oM 6 8,oE 9 6 0,oE 10 6 1,oA 4 25 z_ty,oS 0 .ty 4 9,oM 5 10]
 (sq [oL 11 .ty 4,oC 12 84 [11] [.ty] (.p .ty),oM 13 5,oS 0 .ty 2 12,oM 3 13]
 .ret)))⟩
def c97:XFn G:=⟨30,[.c 2 .ty,.c 3 .ty,.t 4],.pure [.p .ty,.p .ty,.p .bool],
 (sq [ob 1 0,oA 2 25 z_ty,oA 3 25 z_ty,oM 4 (cB false)]
 (.seq (.jn ⟨[(2,.ptr 0 0 []),(3,.ptr 1 0 []),(17,.p .bool)],[.keep,.keep],[1]⟩ (.ops [oF 5 .ty 0 1,oL 6 .bool 5,oM 7 6,.gd 7 false (some 8) (oF 8 .ty 1 1),.gd 7 false (some 9) (oL 9 .str 8),.gd 7 false (some 10) (o 10 (.bi .neq 9 (.c (.v .str (⟨#[102,117,110]⟩:ByteArray))))),o 11 (.pk 7 (cB true) 10),oM 12 11,.gd 12 false (some 13) (oF 13 .ty 2 1),.gd 12 false (some 14) (oL 14 .lty 13),.gd 12 false (some 15) (oU 15 14),.gd 12 false (some 16) (oO 16 .neq 15 (cI 2)),o 17 (.pk 12 (cB true) 16)])
 (.cond 17 (sq [o 18 (.bld .ty zs_ty []),o 19 (.bld .ty zs_ty []),oS 0 .ty 2 18,oS 0 .ty 3 19,oM 4 (cB false)]
  .ret)
  .skip))
 (.seq (.draw [oF 20 .ty 2 1,oI 21 .lty 20,oX 22 .ty 21 (cI 0),oI 23 .ty 22,oC 24 100 [23] [.ty] (.p .ty),oF 25 .ty 2 1,oI 26 .lty 25,oX 27 .ty 26 (cI 1),oI 28 .ty 27,oC 29 100 [28] [.ty] (.p .ty),oS 1 .ty 2 24,oS 1 .ty 3 29,oM 4 (cB true)])
 .ret)))⟩
def c98:XFn G:=⟨9,[.t 4],.pure [.p .bool],
 (sq [ob 2 0,ob 3 1,oM 4 (cB false)]
 (sq [oL 5 .ty 2,oL 6 .ty 3,oC 7 107 [5,6] [.ty,.ty] (.p .int),oO 8 .eql 7 (cI 0),oM 4 8]
 .ret))⟩
def c99:XFn G:=⟨198,[.c 4 .ty,.t 5],.pure [.p .ty,.p .bool],
 (sq [ob 2 0,oA 4 25 z_ty,oM 5 (cB false)]
 (.seq (sq [oF 13 .tm 0 2,oL 14 .u8 13]
 (.block 0 (.jn ⟨[(4,.ptr 0 0 []),(15,.p .bool)],[.keep],[1,2,14]⟩ (sq [o 16 (.bi .eql 14 (.c (.v .u8 (1:Int)))),oM 15 16]
 (.cond 15 .skip
  (.ops [o 17 (.bi .eql 14 (.c (.v .u8 (2:Int)))),oM 15 17])))
 (.cond 15 (.seq (.draw [oF 18 .tm 2 2,oI 19 .ty 18,oF 20 .tm 1 2,oI 21 .str 20,oC 22 128 [21] [.str] (.p .bool),oM 23 22,.gd 23 true (some 24) (oF 24 .tm 2 2),.gd 23 true (some 25) (oI 25 .ty 24),.gd 23 true (some 26) (oC 26 129 [25] [.ty] (.p .bool)),o 27 (.pk 23 26 (cB false)),oM 28 27,.gd 28 true (some 29) (oF 29 .tm 3 2),.gd 28 true (some 30) (oI 30 .int 29),.gd 28 true (some 31) (oO 31 .eql 30 (cI 0)),o 32 (.pk 28 31 (cB false)),oM 33 32,.gd 33 true (some 34) (oF 34 .tm 4 2),.gd 33 true (some 35) (oI 35 .ltm 34),.gd 33 true (some 36) (oU 36 35),.gd 33 true (some 37) (oO 37 .eql 36 (cI 0)),o 38 (.pk 33 37 (cB false)),oS 1 .ty 4 19,oM 5 38])
  .ret)
  (sq [o 40 (.bi .eql 14 (.c (.v .u8 (3:Int)))),oM 39 40]
  (.cond 39 (.seq (.jn ⟨[(4,.ptr 0 0 []),(67,.p .bool)],[.keep],[1,2]⟩ (.ops [oF 41 .tm 1 2,oL 42 .str 41,o 43 (.bi .neq 42 (.c (.v .str (⟨#[]⟩:ByteArray)))),oM 44 43,.gd 44 false (some 45) (oF 45 .tm 2 2),.gd 44 false (some 46) (oL 46 .ty 45),.gd 44 false (some 47) (oC 47 130 [46] [.ty] (.p .bool)),.gd 44 false (some 48) (o 48 (.un 47)),o 49 (.pk 44 (cB true) 48),oM 50 49,.gd 50 false (some 51) (oF 51 .tm 4 2),.gd 50 false (some 52) (oL 52 .ltm 51),.gd 50 false (some 53) (oU 53 52),.gd 50 false (some 54) (oO 54 .neq 53 (cI 0)),o 55 (.pk 50 (cB true) 54),oM 56 55,.gd 56 false (some 57) (oF 57 .tm 3 2),.gd 56 false (some 58) (oL 58 .int 57),.gd 56 false (some 59) (oO 59 .lss 58 (cI 0)),o 60 (.pk 56 (cB true) 59),oM 61 60,.gd 61 false (some 62) (oF 62 .tm 3 2),.gd 61 false (some 63) (oL 63 .int 62),.gd 61 false (some 64) (oM 64 1),.gd 61 false (some 65) (oU 65 64),.gd 61 false (some 66) (oO 66 .geq 63 65),o 67 (.pk 61 (cB true) 66)])
   (.cond 67 (sq [o 68 (.bld .ty zs_ty []),oS 0 .ty 4 68,oM 5 (cB false)]
    .ret)
    .skip))
   (sq [oM 69 1,oF 70 .tm 3 2,oL 71 .int 70,oX 72 .ty 69 71,oL 73 .ty 72,oS 0 .ty 4 73,oM 5 (cB true)]
   .ret))
   (sq [o 75 (.bi .eql 14 (.c (.v .u8 (4:Int)))),oM 74 75]
   (.cond 74 (.seq (.jn ⟨[(4,.ptr 0 0 []),(95,.p .bool)],[.keep],[1,2]⟩ (.ops [oF 76 .tm 1 2,oL 77 .str 76,o 78 (.bi .neq 77 (.c (.v .str (⟨#[]⟩:ByteArray)))),oM 79 78,.gd 79 false (some 80) (oF 80 .tm 2 2),.gd 79 false (some 81) (oL 81 .ty 80),.gd 79 false (some 82) (oC 82 130 [81] [.ty] (.p .bool)),.gd 79 false (some 83) (o 83 (.un 82)),o 84 (.pk 79 (cB true) 83),oM 85 84,.gd 85 false (some 86) (oF 86 .tm 3 2),.gd 85 false (some 87) (oL 87 .int 86),.gd 85 false (some 88) (oO 88 .neq 87 (cI 0)),o 89 (.pk 85 (cB true) 88),oM 90 89,.gd 90 false (some 91) (oF 91 .tm 4 2),.gd 90 false (some 92) (oL 92 .ltm 91),.gd 90 false (some 93) (oU 93 92),.gd 90 false (some 94) (oO 94 .neq 93 (cI 2)),o 95 (.pk 90 (cB true) 94)])
    (.cond 95 (sq [o 96 (.bld .ty zs_ty []),oS 0 .ty 4 96,oM 5 (cB false)]
     .ret)
     .skip))
    (sq [oF 98 .tm 4 2,oL 99 .ltm 98,oX 100 .tm 99 (cI 0),oL 101 .tm 100,oM 102 1,oC 103 99 [101,102] [.tm,.lty] (tp [.ty,.bool]),oM 97 103,oE 104 97 0,oE 105 97 1,oA 6 25 z_ty,oS 0 .ty 6 104,oM 7 105]
    (sq [oF 107 .tm 4 2,oL 108 .ltm 107,oX 109 .tm 108 (cI 1),oL 110 .tm 109,oM 111 1,oC 112 99 [110,111] [.tm,.lty] (tp [.ty,.bool]),oM 106 112,oE 113 106 0,oE 114 106 1,oA 8 25 z_ty,oS 0 .ty 8 113,oM 9 114]
    (.seq (.jn ⟨[(4,.ptr 0 0 []),(6,.ptr 1 0 []),(144,.p .bool)],[.keep,.keep],[]⟩ (.draw [oM 115 7,o 116 (.un 115),oM 117 116,.gd 117 false (some 118) (oM 118 9),.gd 117 false (some 119) (o 119 (.un 118)),o 120 (.pk 117 (cB true) 119),oM 121 120,.gd 121 false (some 122) (oF 122 .ty 0 6),.gd 121 false (some 123) (oL 123 .bool 122),o 124 (.pk 121 (cB true) 123),oM 125 124,.gd 125 false (some 126) (oF 126 .ty 1 6),.gd 125 false (some 127) (oL 127 .str 126),.gd 125 false (some 128) (o 128 (.bi .neq 127 (.c (.v .str (⟨#[102,117,110]⟩:ByteArray))))),o 129 (.pk 125 (cB true) 128),oM 130 129,.gd 130 false (some 131) (oF 131 .ty 2 6),.gd 130 false (some 132) (oL 132 .lty 131),.gd 130 false (some 133) (oU 133 132),.gd 130 false (some 134) (oO 134 .neq 133 (cI 2)),o 135 (.pk 130 (cB true) 134),oM 136 135,.gd 136 false (some 137) (oF 137 .ty 2 6),.gd 136 false (some 138) (oL 138 .lty 137),.gd 136 false (some 139) (oX 139 .ty 138 (cI 0)),.gd 136 false (some 140) (oI 140 .ty 139),.gd 136 false (some 141) (oL 141 .ty 8),.gd 136 false (some 142) (oC 142 98 [140,141] [.ty,.ty] (.p .bool)),.gd 136 false (some 143) (o 143 (.un 142)),o 144 (.pk 136 (cB true) 143)])
    (.cond 144 (sq [o 145 (.bld .ty zs_ty []),oS 0 .ty 4 145,oM 5 (cB false)]
     .ret)
     .skip))
    (sq [oF 146 .ty 2 6,oL 147 .lty 146,oX 148 .ty 147 (cI 1),oL 149 .ty 148,oS 0 .ty 4 149,oM 5 (cB true)]
    .ret)))))
    (sq [o 151 (.bi .eql 14 (.c (.v .u8 (5:Int)))),oM 150 151]
    (.cond 150 (.seq (.jn ⟨[(4,.ptr 0 0 []),(172,.p .bool)],[.keep],[1,2]⟩ (.ops [oF 152 .tm 1 2,oL 153 .str 152,oC 154 128 [153] [.str] (.p .bool),o 155 (.un 154),oM 156 155,.gd 156 false (some 157) (oF 157 .tm 2 2),.gd 156 false (some 158) (oL 158 .ty 157),.gd 156 false (some 159) (oC 159 129 [158] [.ty] (.p .bool)),.gd 156 false (some 160) (o 160 (.un 159)),o 161 (.pk 156 (cB true) 160),oM 162 161,.gd 162 false (some 163) (oF 163 .tm 3 2),.gd 162 false (some 164) (oL 164 .int 163),.gd 162 false (some 165) (oO 165 .neq 164 (cI 0)),o 166 (.pk 162 (cB true) 165),oM 167 166,.gd 167 false (some 168) (oF 168 .tm 4 2),.gd 167 false (some 169) (oL 169 .ltm 168),.gd 167 false (some 170) (oU 170 169),.gd 167 false (some 171) (oO 171 .neq 170 (cI 1)),o 172 (.pk 167 (cB true) 171)])
     (.cond 172 (sq [o 173 (.bld .ty zs_ty []),oS 0 .ty 4 173,oM 5 (cB false)]
      .ret)
      .skip))
     (.seq (.draw [oF 175 .tm 4 2,oI 176 .ltm 175,oX 177 .tm 176 (cI 0),oI 178 .tm 177,oF 179 .tm 2 2,oI 180 .ty 179,o 181 (.bsl .ty [180]),oM 182 1,o 183 (.apt .lty 25 .ty 181 182),oC 184 99 [178,183] [.tm,.lty] (tp [.ty,.bool]),oM 174 184,oE 185 174 0,oE 186 174 1,oA 10 25 z_ty,oS 1 .ty 10 185,oM 11 186])
     (sq [oF 187 .tm 2 2,oL 188 .ty 187,oL 189 .ty 10,oC 190 131 [188,189] [.ty,.ty] (.p .ty),oA 12 25 z_ty,oS 0 .ty 12 190]
     (.seq (.draw [o 191 (.ldd .ty 12 [4]),oM 192 11,oM 193 192,.gd 193 true (some 194) (o 194 (.ldd .ty 12 [4])),.gd 193 true (some 195) (oC 195 129 [194] [.ty] (.p .bool)),o 196 (.pk 193 195 (cB false)),oS 1 .ty 4 191,oM 5 196])
     .ret))))
     .skip))))))))))
 (sq [o 197 (.bld .ty zs_ty []),oS 0 .ty 4 197,oM 5 (cB false)]
 .ret)))⟩
def c100:XFn G:=⟨29,[.c 2 .ty],.pure [.p .ty],
 (sq [ob 1 0,oA 2 25 z_ty]
 (sq [oF 5 .ty 0 1,oL 6 .bool 5,oF 7 .ty 1 1,oL 8 .str 7,o 9 (.bld .ty zs_ty [(0,6),(1,8)]),oA 3 25 z_ty,oS 0 .ty 3 9]
 (.seq (sq [oM 4 (cI 0)]
 (.block 0 (.ps [.adB 1 [2] 25 .ty] (.loop ⟨[(2,.ptr 0 0 []),(3,.ptr 1 0 []),(4,.p .int)],[.keep,.box 25 (.ag .ty [.p .bool,.p .str,.row 2]),.row 25 .lty],[1]⟩ (.seq (sq [oM 10 4,oF 11 .ty 2 1,oL 12 .lty 11,oU 13 12,oO 14 .lss 10 13]
 (.cond 14 .skip
  (.exit 0)))
 (.seq (.block 1 (.draw [oF 17 .ty 2 3,oL 18 .lty 17,oF 19 .ty 2 1,oI 20 .lty 19,oM 21 4,oX 22 .ty 20 21,oI 23 .ty 22,oC 24 100 [23] [.ty] (.p .ty),o 25 (.bsl .ty [24]),.a (some 26) (.app 25 .ty 18 25),oF 27 .ty 2 3,oS 1 .lty 27 26]))
 (.ops [oM 15 4,o 16 (.inc 15 .i64),oM 4 16])))))))
 (sq [oL 28 .ty 3,oS 0 .ty 2 28]
 .ret))))⟩
def c101:XFn G:=⟨19,[.t 2],.pure [.p .int],
 (sq [ob 1 0,oM 2 (cI 0)]
 (sq [oM 3 (cI 1)]
 (.seq (sq [oF 6 .tm 4 1,oL 7 .ltm 6,oU 8 7,oM 9 (cI 0)]
 (.block 0 (.loop ⟨[(3,.p .int),(9,.p .int)],[],[7,8]⟩ (sq [oO 10 .lss 9 8]
 (.seq (.cond 10 .skip
  (.exit 0))
 (.seq (.block 1 (sq [oX 11 .tm 7 9,oL 12 .tm 11,oA 5 27 z_tm,oS 0 .tm 5 12]
 (.ops [oM 13 3,oL 14 .tm 5,oC 15 101 [14] [.tm] (.p .int),oO 16 .add 13 15,oM 3 16])))
 (.ops [o 17 (.inc 9 .i64),oM 9 17])))))))
 (sq [oM 18 3,oM 2 18]
 .ret))))⟩
def c102:XFn G:=⟨20,[.t 2],.pure [.p .int],
 (sq [ob 1 0,oM 2 (cI 0)]
 (sq [oM 3 (cI 0)]
 (.seq (sq [oF 6 .tm 4 1,oL 7 .ltm 6,oU 8 7,oM 9 (cI 0)]
 (.block 0 (.loop ⟨[(3,.p .int),(9,.p .int)],[],[7,8]⟩ (sq [oO 10 .lss 9 8]
 (.seq (.cond 10 .skip
  (.exit 0))
 (.seq (.block 1 (sq [oX 11 .tm 7 9,oL 12 .tm 11,oA 5 27 z_tm,oS 0 .tm 5 12]
 (.ops [oM 13 3,oL 14 .tm 5,oC 15 102 [14] [.tm] (.p .int),o 16 (.mx 13 15),oM 3 16])))
 (.ops [o 17 (.inc 9 .i64),oM 9 17])))))))
 (sq [oM 18 3,o 19 (.inc 18 .i64),oM 2 19]
 .ret))))⟩
def c103:XFn G:=⟨91,[.c 4 .ty,.t 5],.pure [.p .ty,.p .bool],
 (sq [ob 2 0,oA 4 25 z_ty,oM 5 (cB false)]
 (sq [oF 13 .tm 2 2,oL 14 .ty 13,oA 6 25 z_ty,oS 0 .ty 6 14]
 (.jn ⟨[(4,.ptr 0 0 []),(6,.ptr 1 0 [])],[.box 25 (.p .ty),.box 25 (.p .ty)],[]⟩ (sq [oF 15 .tm 0 2,oL 16 .u8 15]
 (.block 0 (sq [o 18 (.bi .eql 16 (.c (.v .u8 (3:Int)))),oM 17 18]
 (.cond 17 (.ops [oM 19 1,oM 20 1,oU 21 20,o 22 (.dcr 21 .i64),oF 23 .tm 3 2,oL 24 .int 23,oO 25 .sub 22 24,oX 26 .ty 19 25,oL 27 .ty 26,oS 0 .ty 6 27])
  (sq [o 29 (.bi .eql 16 (.c (.v .u8 (4:Int)))),oM 28 29]
  (.cond 28 (sq [oF 31 .tm 4 2,oL 32 .ltm 31,oX 33 .tm 32 (cI 0),oL 34 .tm 33,oM 35 1,oC 36 103 [34,35] [.tm,.lty] (tp [.ty,.bool]),oM 30 36,oE 37 30 0,oE 38 30 1,oA 7 25 z_ty,oS 0 .ty 7 37,oM 8 38]
   (.seq (sq [oM 39 8,o 40 (.un 39)]
   (.cond 40 (sq [oL 41 .ty 6,oS 0 .ty 4 41,oM 5 (cB false)]
    .ret)
    .skip))
   (.seq (sq [oF 43 .tm 4 2,oL 44 .ltm 43,oX 45 .tm 44 (cI 1),oL 46 .tm 45,oM 47 1,oC 48 103 [46,47] [.tm,.lty] (tp [.ty,.bool]),oM 42 48,oE 49 42 0,oE 50 42 1,oA 9 25 z_ty,oS 0 .ty 9 49,oM 10 50]
   (sq [oM 51 10,o 52 (.un 51)]
   (.cond 52 (sq [oL 53 .ty 6,oS 0 .ty 4 53,oM 5 (cB false)]
    .ret)
    .skip)))
   (.ops [oL 55 .ty 7,oC 56 95 [55] [.ty] (tp [.ty,.ty,.bool]),oM 54 56,oE 57 54 0,oE 58 54 1,oE 59 54 2,oS 0 .ty 6 58]))))
   (sq [o 61 (.bi .eql 16 (.c (.v .u8 (5:Int)))),oM 60 61]
   (.cond 60 (.seq (.draw [oF 63 .tm 4 2,oI 64 .ltm 63,oX 65 .tm 64 (cI 0),oI 66 .tm 65,oM 67 1,oM 68 1,oU 69 68,oM 70 1,oU 71 70,o 72 (.slct .ty 67 69 71),oF 73 .tm 2 2,oI 74 .ty 73,o 75 (.bsl .ty [74]),o 76 (.apt .lty 25 .ty 72 75),oC 77 103 [66,76] [.tm,.lty] (tp [.ty,.bool]),oM 62 77,oE 78 62 0,oE 79 62 1,oA 11 25 z_ty,oS 1 .ty 11 78,oM 12 79])
    (.seq (sq [oM 80 12,o 81 (.un 80)]
    (.cond 81 (sq [oL 82 .ty 6,oS 0 .ty 4 82,oM 5 (cB false)]
     .ret)
     .skip))
    (.ops [oF 83 .tm 2 2,oL 84 .ty 83,oL 85 .ty 11,oC 86 77 [84,85] [.ty,.ty] (.p .ty),oS 0 .ty 6 86])))
    .skip))))))))
 (.seq (.draw [o 87 (.ldd .ty 6 [4]),o 88 (.ldd .ty 6 [4]),oC 89 132 [88] [.ty] (.p .int),oO 90 .leq 89 (cI 100),oS 1 .ty 4 87,oM 5 90])
 .ret))))⟩
def c104:XFn G:=⟨81,[.c 4 .ty,.t 5],.pure [.p .ty,.p .bool],
 (sq [ob 2 0,oA 4 25 z_ty,oM 5 (cB false)]
 (sq [oF 13 .tm 2 2,oL 14 .ty 13,oA 6 25 z_ty,oS 0 .ty 6 14]
 (.jn ⟨[(4,.ptr 0 0 []),(6,.ptr 1 0 [])],[.box 25 (.p .ty),.box 25 (.p .ty)],[]⟩ (sq [oF 15 .tm 0 2,oL 16 .u8 15]
 (.block 0 (sq [o 18 (.bi .eql 16 (.c (.v .u8 (3:Int)))),oM 17 18]
 (.cond 17 (.ops [oM 19 1,oF 20 .tm 3 2,oL 21 .int 20,oX 22 .ty 19 21,oL 23 .ty 22,oS 0 .ty 6 23])
  (sq [o 25 (.bi .eql 16 (.c (.v .u8 (4:Int)))),oM 24 25]
  (.cond 24 (sq [oF 27 .tm 4 2,oL 28 .ltm 27,oX 29 .tm 28 (cI 0),oL 30 .tm 29,oM 31 1,oC 32 104 [30,31] [.tm,.lty] (tp [.ty,.bool]),oM 26 32,oE 33 26 0,oE 34 26 1,oA 7 25 z_ty,oS 0 .ty 7 33,oM 8 34]
   (sq [oF 36 .tm 4 2,oL 37 .ltm 36,oX 38 .tm 37 (cI 1),oL 39 .tm 38,oM 40 1,oC 41 104 [39,40] [.tm,.lty] (tp [.ty,.bool]),oM 35 41,oE 42 35 0,oE 43 35 1,oA 9 25 z_ty,oS 0 .ty 9 42,oM 10 43]
   (.seq (.jn ⟨[(4,.ptr 0 0 []),(6,.ptr 1 0 []),(7,.ptr 2 0 []),(49,.p .bool)],[.keep,.keep,.keep],[]⟩ (.ops [oM 44 8,o 45 (.un 44),oM 46 45,.gd 46 false (some 47) (oM 47 10),.gd 46 false (some 48) (o 48 (.un 47)),o 49 (.pk 46 (cB true) 48)])
   (.cond 49 (sq [oL 50 .ty 7,oS 0 .ty 4 50,oM 5 (cB false)]
    .ret)
    .skip))
   (.ops [oF 51 .ty 2 7,oL 52 .lty 51,oX 53 .ty 52 (cI 1),oL 54 .ty 53,oS 0 .ty 6 54]))))
   (sq [o 56 (.bi .eql 16 (.c (.v .u8 (5:Int)))),oM 55 56]
   (.cond 55 (.seq (.draw [oF 58 .tm 4 2,oI 59 .ltm 58,oX 60 .tm 59 (cI 0),oI 61 .tm 60,oF 62 .tm 2 2,oI 63 .ty 62,o 64 (.bsl .ty [63]),oM 65 1,o 66 (.apt .lty 25 .ty 64 65),oC 67 104 [61,66] [.tm,.lty] (tp [.ty,.bool]),oM 57 67,oE 68 57 0,oE 69 57 1,oA 11 25 z_ty,oS 1 .ty 11 68,oM 12 69])
    (.seq (sq [oM 70 12,o 71 (.un 70)]
    (.cond 71 (sq [oL 72 .ty 11,oS 0 .ty 4 72,oM 5 (cB false)]
     .ret)
     .skip))
    (.ops [oF 73 .tm 2 2,oL 74 .ty 73,oL 75 .ty 11,oC 76 131 [74,75] [.ty,.ty] (.p .ty),oS 0 .ty 6 76])))
    .skip))))))))
 (.seq (.draw [o 77 (.ldd .ty 6 [4]),o 78 (.ldd .ty 6 [4]),oC 79 133 [78] [.ty] (.p .int),oO 80 .leq 79 (cI 100),oS 1 .ty 4 77,oM 5 80])
 .ret))))⟩
def c105:XFn G:=⟨18,[.c 2 .ty,.t 3],.pure [.p .ty,.p .int],
 (sq [ob 1 0,oA 2 25 z_ty,oM 3 (cI 0)]
 (.seq (sq [oL 6 .tm 1,oC 7 134 [6] [.tm] (.p .bool)]
 (.cond 7 (sq [o 8 (.bld .ty zs_ty []),oS 0 .ty 2 8,oM 3 (cI 21)]
  .ret)
  .skip))
 (sq [oL 10 .tm 1,oC 11 135 [10,(.c (.ns .ty))] [.tm,.lty] (tp [.ty,.bool]),oM 9 11,oE 12 9 0,oE 13 9 1,oA 4 25 z_ty,oS 0 .ty 4 12,oM 5 13]
 (.seq (sq [oM 14 5,o 15 (.un 14)]
 (.cond 15 (sq [o 16 (.bld .ty zs_ty []),oS 0 .ty 2 16,oM 3 (cI 20)]
  .ret)
  .skip))
 (sq [oL 17 .ty 4,oS 0 .ty 2 17,oM 3 (cI 0)]
 .ret)))))⟩
def c106:XFn G:=⟨7,[.t 4],.pure [.p .int],
 (sq [oM 4 (cI 0)]
 (.seq (sq [oM 5 1]
 (.cond 5 (sq [oM 4 (cI 0)]
  .ret)
  .skip))
 (.seq (sq [oM 6 0]
 (.cond 6 (sq [o 4 (.mv (.c (.v .int ((-1):Int))))]
  .ret)
  .skip))
 (sq [oM 4 (cI 1)]
 .ret))))⟩
def c107:XFn G:=⟨59,[.t 4],.pure [.p .int],
 (sq [ob 2 0,ob 3 1,oM 4 (cI 0)]
 (.seq (sq [oF 7 .ty 0 2,oL 8 .bool 7,oF 9 .ty 0 3,oL 10 .bool 9,o 11 (.bib .neq 8 10)]
 (.cond 11 (.seq (sq [oF 12 .ty 0 2,oL 13 .bool 12]
  (.cond 13 (sq [o 4 (.mv (.c (.v .int ((-1):Int))))]
   .ret)
   .skip))
  (sq [oM 4 (cI 1)]
  .ret))
  .skip))
 (.seq (sq [oF 14 .ty 1 2,oL 15 .str 14,oF 16 .ty 1 3,oL 17 .str 16,oO 18 .neq 15 17]
 (.cond 18 (.seq (sq [oF 19 .ty 1 2,oL 20 .str 19,oF 21 .ty 1 3,oL 22 .str 21,oO 23 .lss 20 22]
  (.cond 23 (sq [o 4 (.mv (.c (.v .int ((-1):Int))))]
   .ret)
   .skip))
  (sq [oM 4 (cI 1)]
  .ret))
  .skip))
 (.seq (sq [oF 24 .ty 2 2,oL 25 .lty 24,oU 26 25,oF 27 .ty 2 3,oL 28 .lty 27,oU 29 28,oO 30 .neq 26 29]
 (.cond 30 (.seq (sq [oF 31 .ty 2 2,oL 32 .lty 31,oU 33 32,oF 34 .ty 2 3,oL 35 .lty 34,oU 36 35,oO 37 .lss 33 36]
  (.cond 37 (sq [o 4 (.mv (.c (.v .int ((-1):Int))))]
   .ret)
   .skip))
  (sq [oM 4 (cI 1)]
  .ret))
  .skip))
 (.seq (sq [oM 5 (cI 0)]
 (.block 0 (.loop ⟨[(5,.p .int)],[],[2,3]⟩ (.seq (sq [oM 38 5,oF 39 .ty 2 2,oL 40 .lty 39,oU 41 40,oO 42 .lss 38 41]
 (.cond 42 .skip
  (.exit 0)))
 (.seq (.block 1 (.seq (.draw [oF 45 .ty 2 2,oI 46 .lty 45,oM 47 5,oX 48 .ty 46 47,oI 49 .ty 48,oF 50 .ty 2 3,oI 51 .lty 50,oM 52 5,oX 53 .ty 51 52,oI 54 .ty 53,oC 55 107 [49,54] [.ty,.ty] (.p .int),oM 6 55])
 (sq [oM 56 6,oO 57 .neq 56 (cI 0)]
 (.cond 57 (sq [oM 58 6,oM 4 58]
  .ret)
  .skip))))
 (.ops [oM 43 5,o 44 (.inc 43 .i64),oM 5 44]))))))
 (sq [oM 4 (cI 0)]
 .ret))))))⟩
def c108:XFn G:=⟨27,[.t 4],.pure [.p .bool],
 (sq [oM 4 (cB false)]
 (.seq (sq [oM 6 0,oU 7 6,oM 8 1,oU 9 8,oO 10 .neq 7 9]
 (.cond 10 (sq [oM 4 (cB false)]
  .ret)
  .skip))
 (.seq (sq [oM 5 (cI 0)]
 (.block 0 (.loop ⟨[(5,.p .int)],[],[0,1]⟩ (.seq (sq [oM 11 5,oM 12 0,oU 13 12,oO 14 .lss 11 13]
 (.cond 14 .skip
  (.exit 0)))
 (.seq (.block 1 (.seq (.draw [oM 17 0,oM 18 5,oX 19 .tm 17 18,oI 20 .tm 19,oM 21 1,oM 22 5,oX 23 .tm 21 22,oI 24 .tm 23,oC 25 23 [20,24] [.tm,.tm] (.p .bool),o 26 (.un 25)])
 (.cond 26 (sq [oM 4 (cB false)]
  .ret)
  .skip)))
 (.ops [oM 15 5,o 16 (.inc 15 .i64),oM 5 16]))))))
 (sq [oM 4 (cB true)]
 .ret))))⟩
def c109:XFn G:=⟨52,[.t 4],.pure [.p .ltm],
 (sq [ob 3 1,o 4 (.mv (.c (.ns .tm)))]
 (sq [o 5 (.mv (.c (.ns .tm)))]
 (sq [oM 6 (cI 0)]
 (.seq (.block 0 (.ps [.adT 5 27 .tm] (.loop ⟨[(5,.row 0),(6,.p .int)],[.row 27 .ltm],[0,3]⟩ (.seq (.jn ⟨[(5,.row 0),(19,.p .bool)],[.row 27 .ltm],[0,3,6]⟩ (.draw [oM 7 6,oM 8 0,oU 9 8,oO 10 .lss 7 9,oM 11 10,.gd 11 true (some 12) (oM 12 0),.gd 11 true (some 13) (oM 13 6),.gd 11 true (some 14) (oX 14 .tm 12 13),.gd 11 true (some 15) (oI 15 .tm 14),.gd 11 true (some 16) (oI 16 .tm 3),.gd 11 true (some 17) (oC 17 60 [15,16] [.tm,.tm] (.p .int)),.gd 11 true (some 18) (oO 18 .lss 17 (cI 0)),o 19 (.pk 11 18 (cB false))])
 (.cond 19 .skip
  (.exit 0)))
 (.block 1 (sq [oM 20 5,oM 21 0,oM 22 6,oX 23 .tm 21 22,oL 24 .tm 23,o 25 (.bsl .tm [24]),.a (some 26) (.app 27 .tm 20 25),oM 5 26]
 (.ops [oM 27 6,o 28 (.inc 27 .i64),oM 6 28])))))))
 (sq [oM 29 5,oL 30 .tm 3,o 31 (.bsl .tm [30]),.a (some 32) (.app 27 .tm 29 31),oM 5 32]
 (.jn ⟨[(5,.row 0),(6,.p .int)],[.row 27 .ltm],[0,3]⟩ (.jn ⟨[(5,.row 0),(44,.p .bool)],[.row 27 .ltm],[0,3,6]⟩ (.draw [oM 33 6,oM 34 0,oU 35 34,oO 36 .lss 33 35,oM 37 36,.gd 37 true (some 38) (oM 38 0),.gd 37 true (some 39) (oM 39 6),.gd 37 true (some 40) (oX 40 .tm 38 39),.gd 37 true (some 41) (oI 41 .tm 40),.gd 37 true (some 42) (oI 42 .tm 3),.gd 37 true (some 43) (oC 43 23 [41,42] [.tm,.tm] (.p .bool)),o 44 (.pk 37 43 (cB false))])
 (.cond 44 (.ops [oM 45 6,o 46 (.inc 45 .i64),oM 6 46])
  .skip))
 (sq [oM 47 5,oM 48 0,oM 49 6,o 50 (.slc .tm 48 (some 49) none none),.a (some 51) (.app 27 .tm 47 50),oM 4 51]
 .ret)))))))⟩
def c110:XFn G:=⟨56,[.t 4],.pure [.p .int],
 (sq [ob 2 0,ob 3 1,oM 4 (cI 0)]
 (.seq (sq [oF 8 .tm 0 2,oL 9 .u8 8,oF 10 .tm 0 3,oL 11 .u8 10,oC 12 136 [9,11] [.u8,.u8] (.p .int),oM 5 12]
 (sq [oM 13 5,oO 14 .neq 13 (cI 0)]
 (.cond 14 (sq [oM 15 5,oM 4 15]
  .ret)
  .skip)))
 (.seq (sq [oF 16 .tm 1 2,oL 17 .str 16,oF 18 .tm 1 3,oL 19 .str 18,oC 20 137 [17,19] [.str,.str] (.p .int),oM 6 20]
 (.jn ⟨[(27,.p .bool)],[],[2,3,6]⟩ (.ops [oM 21 6,oO 22 .neq 21 (cI 0),oM 23 22,.gd 23 true (some 24) (oF 24 .tm 0 2),.gd 23 true (some 25) (oL 25 .u8 24),.gd 23 true (some 26) (o 26 (.bi .neq 25 (.c (.v .u8 (5:Int))))),o 27 (.pk 23 26 (cB false))])
 (.cond 27 (sq [oM 28 6,oM 4 28]
  .ret)
  .skip)))
 (.seq (.seq (.draw [oF 29 .tm 2 2,oI 30 .ty 29,oF 31 .tm 2 3,oI 32 .ty 31,oC 33 123 [30,32] [.ty,.ty] (.p .int),oF 34 .tm 3 2,oI 35 .int 34,oF 36 .tm 3 3,oI 37 .int 36,oC 38 139 [35,37] [.int,.int] (.p .int),oF 39 .tm 4 2,oI 40 .ltm 39,oU 41 40,oF 42 .tm 4 3,oI 43 .ltm 42,oU 44 43,oC 45 139 [41,44] [.int,.int] (.p .int),o 46 (.bsl .int [33,38,45]),oC 47 138 [46] [.lint] (.p .int),oM 7 47])
 (sq [oM 48 7,oO 49 .neq 48 (cI 0)]
 (.cond 49 (sq [oM 50 7,oM 4 50]
  .ret)
  .skip)))
 (sq [oF 51 .tm 4 2,oL 52 .ltm 51,oF 53 .tm 4 3,oL 54 .ltm 53,.call 0 (some 55) (.c (.fn 140 [] [])) [52,54,(.c (.fn 110 [] []))] [some .ltm,some .ltm] (.p .int),oM 4 55]
 .ret)))))⟩
def c111:XFn G:=⟨9,[.t 4],.pure [.p .ltm],
 (sq [ob 3 1,o 4 (.mv (.c (.ns .tm)))]
 (sq [oM 5 0,.callg 1 (some 6) (.c (.fn 142 [] [])) [5] [] hi142v1 as142v1 ho142v1 rs142v1,o 7 (.mkf 143 [] [3]),.callg 1 (some 8) (.c (.fn 141 [] [])) [6,7] [0] hi141v1 as141v1 ho141v1 rs141v1,oM 4 8]
 .ret))⟩
def c112:XFn G:=⟨38,[.t 6],.pure [.p .int],
 (sq [ob 3 0,oM 6 (cI 0)]
 (.seq (sq [oM 8 2,oO 9 .eql 8 (cI 0)]
 (.cond 9 (sq [oM 6 (cI 0)]
  .ret)
  .skip))
 (sq [oM 10 1,o 11 (.dcr 10 .i64),oF 12 .ty 1 3,oL 13 .str 12,o 14 (.lens 13),oO 15 .quo 14 (cI 100),oO 16 .sub 11 15,oM 1 16]
 (.seq (sq [oM 7 (cI 0)]
 (.block 0 (.loop ⟨[(1,.p .int),(7,.p .int)],[],[2,3]⟩ (.seq (.jn ⟨[(25,.p .bool)],[],[1,2,3,7]⟩ (.ops [oM 17 7,oF 18 .ty 2 3,oL 19 .lty 18,oU 20 19,oO 21 .lss 17 20,oM 22 21,.gd 22 true (some 23) (oM 23 1),.gd 22 true (some 24) (oO 24 .gtr 23 (cI 0)),o 25 (.pk 22 24 (cB false))])
 (.cond 25 .skip
  (.exit 0)))
 (.seq (.block 1 (.ops [oF 28 .ty 2 3,oL 29 .lty 28,oM 30 7,oX 31 .ty 29 30,oL 32 .ty 31,oM 33 1,oM 34 2,o 35 (.dcr 34 .i64),oC 36 112 [32,33,35] [.ty,.int,.int] (.p .int),oM 1 36]))
 (.ops [oM 26 7,o 27 (.inc 26 .i64),oM 7 27]))))))
 (sq [oM 37 1,oM 6 37]
 .ret)))))⟩
def c113:XFn G:=⟨18,[.t 4],.pure [.p .int],
 (sq [oM 4 (cI 0)]
 (.seq (sq [oM 7 1,oU 8 7,oM 9 (cI 0)]
 (.block 0 (.loop ⟨[(9,.p .int)],[],[0,7,8]⟩ (sq [oO 10 .lss 9 8]
 (.seq (.cond 10 .skip
  (.exit 0))
 (.seq (.block 1 (sq [oX 11 .tm 7 9,oL 12 .tm 11,oA 6 27 z_tm,oS 0 .tm 6 12]
 (sq [oM 13 0,oL 14 .tm 6,oC 15 144 [13,14] [.pnode,.tm] (.p .bool),o 16 (.un 15)]
 (.cond 16 (sq [oM 4 (cI 40)]
  .ret)
  .skip))))
 (.ops [o 17 (.inc 9 .i64),oM 9 17])))))))
 (sq [oM 4 (cI 0)]
 .ret)))⟩
def c114:XFn G:=⟨30,[.t 2,.t 3],.pure [.p .int,.p .int],
 (sq [ob 1 0,oM 2 (cI 0),oM 3 (cI 0)]
 (sq [oM 2 (cI 1)]
 (.seq (sq [oF 8 .tm 4 1,oL 9 .ltm 8,oU 10 9,oM 11 (cI 0)]
 (.block 0 (.loop ⟨[(2,.p .int),(3,.p .int),(11,.p .int)],[],[9,10]⟩ (sq [oO 12 .lss 11 10]
 (.seq (.cond 12 .skip
  (.exit 0))
 (.seq (.block 1 (sq [oX 13 .tm 9 11,oL 14 .tm 13,oA 5 27 z_tm,oS 0 .tm 5 14]
 (sq [oL 16 .tm 5,oC 17 114 [16] [.tm] (tp [.int,.int]),oM 15 17,oE 18 15 0,oE 19 15 1,oM 6 18,oM 7 19]
 (.ops [oM 20 2,oM 21 6,oO 22 .add 20 21,oM 23 3,oM 24 7,o 25 (.mx 23 24),oM 2 22,oM 3 25]))))
 (.ops [o 26 (.inc 11 .i64),oM 11 26])))))))
 (sq [oM 27 2,oM 28 3,o 29 (.inc 28 .i64),oM 2 27,oM 3 29]
 .ret))))⟩
def c115:XFn G:=⟨22,[.t 2],.pure [.p .int],
 (sq [ob 1 0,oM 2 (cI 0)]
 (.seq (sq [oL 7 .ty 1,oC 8 145 [7] [.ty] (tp [.int,.int,.bool]),oM 6 8,oE 9 6 0,oE 10 6 1,oE 11 6 2,oM 3 9,oM 4 10,oM 5 11]
 (.jn ⟨[(21,.p .bool)],[],[]⟩ (.ops [oM 12 5,o 13 (.un 12),oM 14 13,.gd 14 false (some 15) (oM 15 3),.gd 14 false (some 16) (oO 16 .gtr 15 (cI 500)),o 17 (.pk 14 (cB true) 16),oM 18 17,.gd 18 false (some 19) (oM 19 4),.gd 18 false (some 20) (oO 20 .gtr 19 (cI 200)),o 21 (.pk 18 (cB true) 20)])
 (.cond 21 (sq [oM 2 (cI 10)]
  .ret)
  .skip)))
 (sq [oM 2 (cI 0)]
 .ret)))⟩
def c116:XFn G:=⟨9,[.t 4],.pure [.p .bool],
 (sq [ob 3 1,oM 4 (cB false)]
 (sq [oM 5 0,oL 6 .thm 3,oC 7 146 [5,6] [.lthm,.thm] (.p .int),oO 8 .geq 7 (cI 0),oM 4 8]
 .ret))⟩
def c117:XFn G:=⟨19,[.t 4],.pure [.p .int],
 (sq [ob 3 1,oM 4 (cI 0)]
 (.seq (sq [oM 6 0,oU 7 6,oM 8 (cI 0)]
 (.block 0 (.loop ⟨[(8,.p .int)],[],[0,3,7]⟩ (sq [oO 9 .lss 8 7]
 (.seq (.cond 9 .skip
  (.exit 0))
 (.seq (.block 1 (sq [oM 10 8,oM 5 10]
 (.seq (.draw [oI 11 .theory 3,oM 12 0,oM 13 5,oX 14 .theory 12 13,oI 15 .theory 14,o 16 (.eqs false 1 11 15)])
 (.cond 16 (sq [oM 17 5,oM 4 17]
  .ret)
  .skip))))
 (.ops [o 18 (.inc 8 .i64),oM 8 18])))))))
 (sq [o 4 (.mv (.c (.v .int ((-1):Int))))]
 .ret)))⟩
def c118:XFn G:=⟨15,[.t 4,.t 5],.pure [.p .bool,.p .int],
 (sq [ob 2 0,ob 3 1,oM 4 (cB false),oM 5 (cI 0)]
 (.seq (sq [oL 6 .theory 2,oL 7 .theory 3,o 8 (.bsl .theory [6,7]),oC 9 40 [8] [.ltheory] (.p .bool)]
 (.cond 9 (sq [oM 4 (cB false),oM 5 (cI 52)]
  .ret)
  .skip))
 (sq [oF 10 .theory 0 2,oL 11 .pnode 10,oF 12 .theory 0 3,oL 13 .pnode 12,oC 14 122 [11,13] [.pnode,.pnode] (.p .bool),oM 4 14,oM 5 (cI 0)]
 .ret)))⟩
def c119:XFn G:=⟨72,[.c 2 .theory,.t 3],.pure [.p .theory,.p .int],
 (sq [oA 2 39 z_theory,oM 3 (cI 0)]
 (.seq (sq [oM 15 0,oU 16 15,oO 17 .eql 16 (cI 0)]
 (.cond 17 (sq [o 18 (.bld .theory zs_theory []),oS 0 .theory 2 18,oM 3 (cI 52)]
  .ret)
  .skip))
 (.seq (sq [oM 19 0,oU 20 19,oM 21 (cI 0)]
 (.block 0 (.loop ⟨[(2,.ptr 0 0 []),(21,.p .int)],[.box 39 (.p .theory)],[0,19,20]⟩ (sq [oO 22 .lss 21 20]
 (.seq (.cond 22 .skip
  (.exit 0))
 (.seq (.block 1 (sq [oX 23 .theory 19 21,oL 24 .theory 23,oA 5 39 z_theory,oS 0 .theory 5 24]
 (sq [oL 26 .theory 5,oL 27 .theory 5,oC 28 118 [26,27] [.theory,.theory] (tp [.bool,.int]),oM 25 28,oE 29 25 0,oE 30 25 1,oM 6 29,oM 7 30]
 (sq [oM 31 7,oO 32 .neq 31 (cI 0)]
 (.cond 32 (sq [o 33 (.bld .theory zs_theory []),oS 0 .theory 2 33,oM 3 (cI 52)]
  .ret)
  .skip)))))
 (.ops [o 34 (.inc 21 .i64),oM 21 34])))))))
 (sq [oM 35 0,oX 36 .theory 35 (cI 0),oL 37 .theory 36,oA 8 39 z_theory,oS 0 .theory 8 37]
 (.seq (sq [oM 38 0,o 39 (.slc .theory 38 (some (cI 1)) none none),oU 40 39,oM 41 (cI 0)]
 (.block 2 (.loop ⟨[(2,.ptr 0 0 []),(8,.ptr 1 0 []),(41,.p .int)],[.box 39 (.p .theory),.box 39 (.p .theory)],[0,19,20,39,40]⟩ (sq [oO 42 .lss 41 40]
 (.seq (.cond 42 .skip
  (.exit 2))
 (.jn ⟨[(2,.ptr 0 0 []),(8,.ptr 1 0 [])],[.box 39 (.p .theory),.box 39 (.p .theory)],[0,19,20,39,40,41]⟩ (.block 3 (sq [oX 43 .theory 39 41,oL 44 .theory 43,oA 10 39 z_theory,oS 0 .theory 10 44]
 (.seq (sq [oL 46 .theory 8,oL 47 .theory 10,oC 48 118 [46,47] [.theory,.theory] (tp [.bool,.int]),oM 45 48,oE 49 45 0,oE 50 45 1,oM 11 49,oM 12 50]
 (.jn ⟨[(2,.ptr 0 0 []),(8,.ptr 1 0 []),(10,.ptr 2 0 []),(55,.p .bool)],[.keep,.keep,.keep],[0,19,20,39,40,41]⟩ (.ops [oM 51 12,oO 52 .eql 51 (cI 0),oM 53 52,.gd 53 true (some 54) (oM 54 11),o 55 (.pk 53 54 (cB false))])
 (.cond 55 (.exit 3)
  .skip)))
 (.seq (sq [oL 57 .theory 10,oL 58 .theory 8,oC 59 118 [57,58] [.theory,.theory] (tp [.bool,.int]),oM 56 59,oE 60 56 0,oE 61 56 1,oM 13 60,oM 14 61]
 (.jn ⟨[(2,.ptr 0 0 []),(8,.ptr 1 0 []),(10,.ptr 2 0 []),(67,.p .bool)],[.keep,.keep,.keep],[0,19,20,39,40,41]⟩ (.ops [oM 62 14,oO 63 .neq 62 (cI 0),oM 64 63,.gd 64 false (some 65) (oM 65 13),.gd 64 false (some 66) (o 66 (.un 65)),o 67 (.pk 64 (cB true) 66)])
 (.cond 67 (sq [o 68 (.bld .theory zs_theory []),oS 0 .theory 2 68,oM 3 (cI 52)]
  .ret)
  .skip)))
 (.ops [oL 69 .theory 10,oS 0 .theory 8 69])))))
 (.ops [o 70 (.inc 41 .i64),oM 41 70])))))))
 (sq [oL 71 .theory 8,oS 0 .theory 2 71,oM 3 (cI 0)]
 .ret))))))⟩
def c120:XFn G:=⟨122,[.t 2],.pure [.p .int],
 (sq [ob 1 0,oM 2 (cI 0)]
 (.seq (.jn ⟨[(16,.p .bool)],[],[1]⟩ (.ops [oF 7 .signature 0 1,oL 8 .ltypeop 7,oU 9 8,oO 10 .gtr 9 (cI 512),oM 11 10,.gd 11 false (some 12) (oF 12 .signature 1 1),.gd 11 false (some 13) (oL 13 .lconst 12),.gd 11 false (some 14) (oU 14 13),.gd 11 false (some 15) (oO 15 .gtr 14 (cI 512)),o 16 (.pk 11 (cB true) 15)])
 (.cond 16 (sq [oM 2 (cI 4)]
  .ret)
  .skip))
 (.seq (sq [oM 3 (cI 0)]
 (.block 0 (.loop ⟨[(3,.p .int)],[],[1]⟩ (.seq (sq [oM 17 3,oF 18 .signature 0 1,oL 19 .ltypeop 18,oU 20 19,oO 21 .lss 17 20]
 (.cond 21 .skip
  (.exit 0)))
 (.seq (.block 1 (.seq (.jn ⟨[(49,.p .bool)],[],[1,3]⟩ (.ops [oF 24 .signature 0 1,oL 25 .ltypeop 24,oM 26 3,oX 27 .typeop 25 26,oF 28 .typeop 0 27,oL 29 .str 28,oC 30 147 [29] [.str] (.p .bool),o 31 (.un 30),oM 32 31,.gd 32 false (some 33) (oF 33 .signature 0 1),.gd 32 false (some 34) (oL 34 .ltypeop 33),.gd 32 false (some 35) (oM 35 3),.gd 32 false (some 36) (oX 36 .typeop 34 35),.gd 32 false (some 37) (oF 37 .typeop 1 36),.gd 32 false (some 38) (oL 38 .int 37),.gd 32 false (some 39) (oO 39 .lss 38 (cI 0)),o 40 (.pk 32 (cB true) 39),oM 41 40,.gd 41 false (some 42) (oF 42 .signature 0 1),.gd 41 false (some 43) (oL 43 .ltypeop 42),.gd 41 false (some 44) (oM 44 3),.gd 41 false (some 45) (oX 45 .typeop 43 44),.gd 41 false (some 46) (oF 46 .typeop 1 45),.gd 41 false (some 47) (oL 47 .int 46),.gd 41 false (some 48) (oO 48 .gtr 47 (cI 8)),o 49 (.pk 41 (cB true) 48)])
 (.cond 49 (sq [oM 2 (cI 8)]
  .ret)
  .skip))
 (sq [oM 4 (cI 0)]
 (.block 2 (.loop ⟨[(4,.p .int)],[],[1,3]⟩ (.seq (sq [oM 50 4,oM 51 3,oO 52 .lss 50 51]
 (.cond 52 .skip
  (.exit 2)))
 (.seq (.block 3 (.seq (.draw [oF 55 .signature 0 1,oI 56 .ltypeop 55,oM 57 4,oX 58 .typeop 56 57,oF 59 .typeop 0 58,oI 60 .str 59,oF 61 .signature 0 1,oI 62 .ltypeop 61,oM 63 3,oX 64 .typeop 62 63,oF 65 .typeop 0 64,oI 66 .str 65,oO 67 .eql 60 66])
 (.cond 67 (sq [oM 2 (cI 8)]
  .ret)
  .skip)))
 (.ops [oM 53 4,o 54 (.inc 53 .i64),oM 4 54]))))))))
 (.ops [oM 22 3,o 23 (.inc 22 .i64),oM 3 23]))))))
 (.seq (sq [oM 5 (cI 0)]
 (.block 4 (.loop ⟨[(5,.p .int)],[],[1]⟩ (.seq (sq [oM 68 5,oF 69 .signature 1 1,oL 70 .lconst 69,oU 71 70,oO 72 .lss 68 71]
 (.cond 72 .skip
  (.exit 4)))
 (.seq (.block 5 (.seq (.jn ⟨[(103,.p .bool)],[],[1,5]⟩ (.draw [oF 75 .signature 1 1,oI 76 .lconst 75,oM 77 5,oX 78 .const 76 77,oF 79 .const 0 78,oI 80 .str 79,oC 81 128 [80] [.str] (.p .bool),o 82 (.un 81),oM 83 82,.gd 83 false (some 84) (oF 84 .signature 1 1),.gd 83 false (some 85) (oI 85 .lconst 84),.gd 83 false (some 86) (oM 86 5),.gd 83 false (some 87) (oX 87 .const 85 86),.gd 83 false (some 88) (oF 88 .const 1 87),.gd 83 false (some 89) (oI 89 .ty 88),.gd 83 false (some 90) (oC 90 129 [89] [.ty] (.p .bool)),.gd 83 false (some 91) (o 91 (.un 90)),o 92 (.pk 83 (cB true) 91),oM 93 92,.gd 93 false (some 94) (oI 94 .signature 1),.gd 93 false (some 95) (oF 95 .signature 1 1),.gd 93 false (some 96) (oI 96 .lconst 95),.gd 93 false (some 97) (oM 97 5),.gd 93 false (some 98) (oX 98 .const 96 97),.gd 93 false (some 99) (oF 99 .const 1 98),.gd 93 false (some 100) (oI 100 .ty 99),.gd 93 false (some 101) (oC 101 148 [94,100] [.signature,.ty] (.p .bool)),.gd 93 false (some 102) (o 102 (.un 101)),o 103 (.pk 93 (cB true) 102)])
 (.cond 103 (sq [oM 2 (cI 8)]
  .ret)
  .skip))
 (sq [oM 6 (cI 0)]
 (.block 6 (.loop ⟨[(6,.p .int)],[],[1,5]⟩ (.seq (sq [oM 104 6,oM 105 5,oO 106 .lss 104 105]
 (.cond 106 .skip
  (.exit 6)))
 (.seq (.block 7 (.seq (.draw [oF 109 .signature 1 1,oI 110 .lconst 109,oM 111 6,oX 112 .const 110 111,oF 113 .const 0 112,oI 114 .str 113,oF 115 .signature 1 1,oI 116 .lconst 115,oM 117 5,oX 118 .const 116 117,oF 119 .const 0 118,oI 120 .str 119,oO 121 .eql 114 120])
 (.cond 121 (sq [oM 2 (cI 8)]
  .ret)
  .skip)))
 (.ops [oM 107 6,o 108 (.inc 107 .i64),oM 6 108]))))))))
 (.ops [oM 73 5,o 74 (.inc 73 .i64),oM 5 74]))))))
 (sq [oM 2 (cI 0)]
 .ret)))))⟩
def c121:XFn G:=⟨64,[.t 4],.pure [.p .bool],
 (sq [ob 2 0,ob 3 1,oM 4 (cB false)]
 (.jn ⟨[],[],[2,3]⟩ (.jn ⟨[(22,.p .bool)],[],[2,3]⟩ (.ops [oF 10 .tm 0 3,oL 11 .u8 10,o 12 (.bi .eql 11 (.c (.v .u8 (1:Int)))),oM 13 12,.gd 13 false (some 14) (oF 14 .tm 0 3),.gd 13 false (some 15) (oL 15 .u8 14),.gd 13 false (some 16) (o 16 (.bi .eql 15 (.c (.v .u8 (2:Int))))),o 17 (.pk 13 (cB true) 16),oM 18 17,.gd 18 false (some 19) (oF 19 .tm 0 3),.gd 18 false (some 20) (oL 20 .u8 19),.gd 18 false (some 21) (o 21 (.bi .eql 20 (.c (.v .u8 (5:Int))))),o 22 (.pk 18 (cB true) 21)])
 (.cond 22 (sq [oL 23 .signature 2,oF 24 .tm 2 3,oL 25 .ty 24,oC 26 148 [23,25] [.signature,.ty] (.p .bool),o 27 (.un 26)]
  (.cond 27 (sq [oM 4 (cB false)]
   .ret)
   .skip))
  .skip))
 (.jn ⟨[],[],[2,3]⟩ (sq [oF 28 .tm 0 3,oL 29 .u8 28,o 30 (.bi .eql 29 (.c (.v .u8 (2:Int))))]
 (.cond 30 (sq [oL 32 .signature 2,oF 33 .tm 1 3,oL 34 .str 33,oC 35 149 [32,34] [.signature,.str] (tp [.ty,.bool]),oM 31 35,oE 36 31 0,oE 37 31 1,oA 5 25 z_ty,oS 0 .ty 5 36,oM 6 37]
  (.seq (sq [oM 38 6,o 39 (.un 38)]
  (.cond 39 (sq [oM 4 (cB false)]
   .ret)
   .skip))
  (sq [oL 41 .ty 5,oF 42 .tm 2 3,oL 43 .ty 42,oC 44 150 [41,43,(.c (.ns .typebind))] [.ty,.ty,.ltypebind] (tp [.ltypebind,.bool]),oM 40 44,oE 45 40 0,oE 46 40 1,oM 7 45,oM 8 46]
  (sq [oM 47 8,o 48 (.un 47)]
  (.cond 48 (sq [oM 4 (cB false)]
   .ret)
   .skip)))))
  .skip))
 (.seq (sq [oM 9 (cI 0)]
 (.block 0 (.loop ⟨[(9,.p .int)],[],[2,3]⟩ (.seq (sq [oM 49 9,oF 50 .tm 4 3,oL 51 .ltm 50,oU 52 51,oO 53 .lss 49 52]
 (.cond 53 .skip
  (.exit 0)))
 (.seq (.block 1 (.seq (.draw [oI 56 .signature 2,oF 57 .tm 4 3,oI 58 .ltm 57,oM 59 9,oX 60 .tm 58 59,oI 61 .tm 60,oC 62 121 [56,61] [.signature,.tm] (.p .bool),o 63 (.un 62)])
 (.cond 63 (sq [oM 4 (cB false)]
  .ret)
  .skip)))
 (.ops [oM 54 9,o 55 (.inc 54 .i64),oM 9 55]))))))
 (sq [oM 4 (cB true)]
 .ret)))))⟩
def c122:XFn G:=⟨63,[.t 4],.pure [.p .bool],
 (sq [oM 4 (cB false)]
 (.seq (.block 0 (.loop ⟨[(0,.p .pnode)],[],[1]⟩ (.seq (.jn ⟨[(17,.p .bool)],[],[0,1]⟩ (.draw [oM 5 0,o 6 (.eqp true 5 (.c (.nilp))),oM 7 6,.gd 7 true (some 8) (oM 8 0),.gd 7 true (some 9) (oN 9 8),.gd 7 true (some 10) (oF 10 .node 2 9),.gd 7 true (some 11) (oI 11 .int 10),.gd 7 true (some 12) (oM 12 1),.gd 7 true (some 13) (oN 13 12),.gd 7 true (some 14) (oF 14 .node 2 13),.gd 7 true (some 15) (oI 15 .int 14),.gd 7 true (some 16) (oO 16 .gtr 11 15),o 17 (.pk 7 16 (cB false))])
 (.cond 17 .skip
  (.exit 0)))
 (.block 1 (.ops [oM 18 0,oN 19 18,oF 20 .node 1 19,oL 21 .pnode 20,oM 0 21])))))
 (.seq (.block 2 (.loop ⟨[(0,.p .pnode),(1,.p .pnode)],[],[]⟩ (.seq (sq [oM 22 0,oM 23 1,o 24 (.eqp true 22 23)]
 (.cond 24 .skip
  (.exit 2)))
 (.block 3 (.seq (.jn ⟨[(45,.p .bool)],[],[0,1]⟩ (.draw [oM 25 0,oN 26 25,oF 27 .node 2 26,oI 28 .int 27,oM 29 1,oN 30 29,oF 31 .node 2 30,oI 32 .int 31,oO 33 .neq 28 32,oM 34 33,.gd 34 false (some 35) (oM 35 0),.gd 34 false (some 36) (oN 36 35),.gd 34 false (some 37) (oF 37 .node 0 36),.gd 34 false (some 38) (oI 38 .decl 37),.gd 34 false (some 39) (oM 39 1),.gd 34 false (some 40) (oN 40 39),.gd 34 false (some 41) (oF 41 .node 0 40),.gd 34 false (some 42) (oI 42 .decl 41),.gd 34 false (some 43) (oC 43 151 [38,42] [.decl,.decl] (.p .bool)),.gd 34 false (some 44) (o 44 (.un 43)),o 45 (.pk 34 (cB true) 44)])
 (.cond 45 (sq [oM 4 (cB false)]
  .ret)
  .skip))
 (.seq (.draw [oM 46 0,oN 47 46,oF 48 .node 1 47,oI 49 .pnode 48,oM 50 1,oN 51 50,oF 52 .node 1 51,oI 53 .pnode 52,oM 0 49,oM 1 53])
 (.jn ⟨[(59,.p .bool)],[],[0,1]⟩ (.ops [oM 54 0,o 55 (.eqp false 54 (.c (.nilp))),oM 56 55,.gd 56 false (some 57) (oM 57 1),.gd 56 false (some 58) (o 58 (.eqp false 57 (.c (.nilp)))),o 59 (.pk 56 (cB true) 58)])
 (.cond 59 (sq [oM 60 0,oM 61 1,o 62 (.eqp false 60 61),oM 4 62]
  .ret)
  .skip))))))))
 (sq [oM 4 (cB true)]
 .ret))))⟩
def c123:XFn G:=⟨33,[.t 4],.pure [.p .int],
 (sq [ob 2 0,ob 3 1,oM 4 (cI 0)]
 (.seq (.seq (.draw [oI 6 .ty 2,oC 7 152 [6] [.ty] (.p .int),oI 8 .ty 3,oC 9 152 [8] [.ty] (.p .int),oC 10 139 [7,9] [.int,.int] (.p .int),oF 11 .ty 1 2,oI 12 .str 11,oF 13 .ty 1 3,oI 14 .str 13,oC 15 137 [12,14] [.str,.str] (.p .int),oF 16 .ty 2 2,oI 17 .lty 16,oU 18 17,oF 19 .ty 2 3,oI 20 .lty 19,oU 21 20,oC 22 139 [18,21] [.int,.int] (.p .int),o 23 (.bsl .int [10,15,22]),oC 24 138 [23] [.lint] (.p .int),oM 5 24])
 (sq [oM 25 5,oO 26 .neq 25 (cI 0)]
 (.cond 26 (sq [oM 27 5,oM 4 27]
  .ret)
  .skip)))
 (sq [oF 28 .ty 2 2,oL 29 .lty 28,oF 30 .ty 2 3,oL 31 .lty 30,.call 0 (some 32) (.c (.fn 153 [] [])) [29,31,(.c (.fn 123 [] []))] [some .lty,some .lty] (.p .int),oM 4 32]
 .ret)))⟩
def c124v1:XFn G:=⟨36,[.t 2],.own 0 ho124v1 [.row 0],
 (sq [o 2 (.mv (.c (.ns .tm)))]
 (sq [oM 3 (cI 0)]
 (.seq (sq [oM 9 0,oU 10 9,oM 11 (cI 0)]
 (.block 0 (.loop ⟨[(3,.p .int),(11,.p .int)],[],[0,9,10]⟩ (sq [oO 12 .lss 11 10]
 (.seq (.cond 12 .skip
  (.exit 0))
 (.jn ⟨[(3,.p .int)],[],[0,9,10,11]⟩ (.block 1 (sq [oX 13 .ltm 9 11,oL 14 .ltm 13,oM 5 14]
 (sq [oM 15 3,oM 16 5,oU 17 16,oO 18 .add 15 17,oM 3 18]
 (sq [oM 19 3,oO 20 .lss 19 (cI 0)]
 (.cond 20 (.ops [o 21 (.stuck),.a none (.q (.stuck))])
  .skip)))))
 (.ops [o 22 (.inc 11 .i64),oM 11 22])))))))
 (sq [oM 23 3,.callg 1 (some 24) (.c (.fn 154 [] [])) [(.c (.ns .tm)),23] [] hi154v1 as154v1 ho154v1 rs154v1,oM 6 24]
 (.seq (sq [oM 25 0,oU 26 25,oM 27 (cI 0)]
 (.block 2 (.loop ⟨[(6,.row 0),(27,.p .int)],[.row 27 .ltm],[25,26]⟩ (sq [oO 28 .lss 27 26]
 (.seq (.cond 28 .skip
  (.exit 2))
 (.seq (.block 3 (sq [oX 29 .ltm 25 27,oL 30 .ltm 29,oM 8 30]
 (.ops [oM 31 6,oM 32 8,.a (some 33) (.app 27 .tm 31 32),oM 6 33])))
 (.ops [o 34 (.inc 27 .i64),oM 27 34])))))))
 (sq [oM 35 6,oM 2 35]
 .ret))))))⟩
def c125v10:XFn G:=⟨9,[],.own 1 ho125v10 [],
 (.ops [oM 4 0,oM 5 0,oU 6 5,oM 7 1,.callg 10 (some 8) (.c (.fn 155 [] [])) [4,6,7] [0] hi155v10 as155v10 ho155v10 rs155v10])⟩
def c126v1:XFn G:=⟨66,[.t 4],.own 1 ho126v1 [.row 0],
 (sq [o 4 (.mv (.c (.ns .tm)))]
 (.seq (sq [oM 8 0,oU 9 8,oO 10 .lss 9 (cI 2)]
 (.cond 10 (sq [oM 11 0,oM 4 11]
  .ret)
  .skip))
 (.seq (sq [oM 5 (cI 1)]
 (.block 0 (.loop ⟨[(0,.row 0),(5,.p .int)],[.row 27 .ltm],[1]⟩ (.seq (sq [oM 12 5,oM 13 0,oU 14 13,oO 15 .lss 12 14]
 (.cond 15 .skip
  (.exit 0)))
 (.seq (.block 1 (.seq (.draw [oM 18 1,oM 19 0,oM 20 5,oX 21 .tm 19 20,oL 22 .tm 21,oM 23 0,oM 24 5,o 25 (.dcr 24 .i64),oX 26 .tm 23 25,oL 27 .tm 26,.call 0 (some 28) 18 [22,27] [some .tm,some .tm] (.p .bool)])
 (.cond 28 (sq [oM 29 0,oM 30 5,o 31 (.rsl .tm 29 (some 30) none none),oM 6 31]
  (.seq (sq [oM 7 (cI 1)]
  (.block 2 (.loop ⟨[(0,.row 0),(5,.p .int),(6,.rv 0 .tm),(7,.p .int)],[.row 27 .ltm],[1]⟩ (.seq (sq [oM 32 7,oM 33 6,oU 34 33,oO 35 .lss 32 34]
  (.cond 35 .skip
   (.exit 2)))
  (.jn ⟨[(0,.row 0),(5,.p .int),(6,.rv 0 .tm)],[.row 27 .ltm],[1,7]⟩ (.block 3 (.seq (.draw [oM 38 1,oM 39 6,oM 40 7,oX 41 .tm 39 40,oL 42 .tm 41,oM 43 6,oM 44 7,o 45 (.dcr 44 .i64),oX 46 .tm 43 45,oL 47 .tm 46,.call 0 (some 48) 38 [42,47] [some .tm,some .tm] (.p .bool),o 49 (.un 48)])
  (.cond 49 (sq [oM 50 0,oM 51 5,oM 52 6,oM 53 7,oX 54 .tm 52 53,oL 55 .tm 54,oX 56 .tm 50 51,oS 0 .tm 56 55]
   (.ops [oM 57 5,o 58 (.inc 57 .i64),oM 5 58]))
   .skip)))
  (.ops [oM 36 7,o 37 (.inc 36 .i64),oM 7 37]))))))
  (sq [oM 59 0,oM 60 5,o 61 (.rsl .tm 59 (some 60) none none),.a none (.clr .tm (Tm.mk 0 (⟨#[]⟩:ByteArray) (Ty.mk false (⟨#[]⟩:ByteArray) []) 0 []) 61)]
  (sq [oM 62 0,oM 63 5,o 64 (.rsl .tm 62 none (some 63) none),oM 4 64]
  (.ps [.tr 4] .ret)))))
  .skip)))
 (.ops [oM 16 5,o 17 (.inc 16 .i64),oM 5 17]))))))
 (sq [oM 65 0,oM 4 65]
 .ret))))⟩
def c127:XFn G:=⟨9,[.c 2 .tm],.pure [.p .tm],
 (sq [ob 1 0,oA 2 27 z_tm]
 (.seq (.draw [oI 3 .ty 1,oI 4 .ty 1,oC 5 156 [] [] (.p .ty),oC 6 131 [4,5] [.ty,.ty] (.p .ty),oC 7 131 [3,6] [.ty,.ty] (.p .ty),o 8 (.bld .tm zs_tm [(0,(.c (.v .u8 (2:Int)))),(1,(.c (.v .str (⟨#[61]⟩:ByteArray)))),(2,7)]),oS 1 .tm 2 8])
 .ret))⟩
def c128:XFn G:=⟨10,[.t 2],.pure [.p .bool],
 (sq [oM 2 (cB false)]
 (sq [oM 3 0,oC 4 157 [3] [.str] (.p .bool),oM 5 4,.gd 5 true (some 6) (oM 6 0),.gd 5 true (some 7) (o 7 (.ix 6 (cI 0))),.gd 5 true (some 8) (o 8 (.bi .neq 7 (.c (.v .u8 (39:Int))))),o 9 (.pk 5 8 (cB false)),oM 2 9]
 .ret))⟩
def c129:XFn G:=⟨9,[.t 2],.pure [.p .bool],
 (sq [ob 1 0,oM 2 (cB false)]
 (sq [oL 3 .ty 1,oC 4 158 [3] [.ty] (.p .bool),oM 5 4,.gd 5 true (some 6) (oL 6 .ty 1),.gd 5 true (some 7) (oC 7 159 [6] [.ty] (.p .bool)),o 8 (.pk 5 7 (cB false)),oM 2 8]
 .ret))⟩
def c130:XFn G:=⟨17,[.t 2],.pure [.p .bool],
 (sq [ob 1 0,oM 2 (cB false)]
 (sq [oF 3 .ty 0 1,oL 4 .bool 3,o 5 (.un 4),oM 6 5,.gd 6 true (some 7) (oF 7 .ty 1 1),.gd 6 true (some 8) (oL 8 .str 7),.gd 6 true (some 9) (o 9 (.bi .eql 8 (.c (.v .str (⟨#[]⟩:ByteArray))))),o 10 (.pk 6 9 (cB false)),oM 11 10,.gd 11 true (some 12) (oF 12 .ty 2 1),.gd 11 true (some 13) (oL 13 .lty 12),.gd 11 true (some 14) (oU 14 13),.gd 11 true (some 15) (oO 15 .eql 14 (cI 0)),o 16 (.pk 11 15 (cB false)),oM 2 16]
 .ret))⟩
def c131:XFn G:=⟨11,[.c 4 .ty],.pure [.p .ty],
 (sq [ob 2 0,ob 3 1,oA 4 25 z_ty]
 (.seq (.draw [oI 5 .ty 2,oC 6 100 [5] [.ty] (.p .ty),oI 7 .ty 3,oC 8 100 [7] [.ty] (.p .ty),o 9 (.bsl .ty [6,8]),o 10 (.bld .ty zs_ty [(1,(.c (.v .str (⟨#[102,117,110]⟩:ByteArray)))),(2,9)]),oS 1 .ty 4 10])
 .ret))⟩
def c132:XFn G:=⟨19,[.t 2],.pure [.p .int],
 (sq [ob 1 0,oM 2 (cI 0)]
 (sq [oM 3 (cI 1)]
 (.seq (sq [oF 6 .ty 2 1,oL 7 .lty 6,oU 8 7,oM 9 (cI 0)]
 (.block 0 (.loop ⟨[(3,.p .int),(9,.p .int)],[],[7,8]⟩ (sq [oO 10 .lss 9 8]
 (.seq (.cond 10 .skip
  (.exit 0))
 (.seq (.block 1 (sq [oX 11 .ty 7 9,oL 12 .ty 11,oA 5 25 z_ty,oS 0 .ty 5 12]
 (.ops [oM 13 3,oL 14 .ty 5,oC 15 132 [14] [.ty] (.p .int),oO 16 .add 13 15,oM 3 16])))
 (.ops [o 17 (.inc 9 .i64),oM 9 17])))))))
 (sq [oM 18 3,oM 2 18]
 .ret))))⟩
def c133:XFn G:=⟨21,[.t 2],.pure [.p .int],
 (sq [ob 1 0,oM 2 (cI 0)]
 (sq [oM 3 (cI 1)]
 (.seq (sq [oM 4 (cI 0)]
 (.block 0 (.loop ⟨[(3,.p .int),(4,.p .int)],[],[1]⟩ (.seq (sq [oM 5 4,oF 6 .ty 2 1,oL 7 .lty 6,oU 8 7,oO 9 .lss 5 8]
 (.cond 9 .skip
  (.exit 0)))
 (.seq (.block 1 (.ops [oM 12 3,oF 13 .ty 2 1,oL 14 .lty 13,oM 15 4,oX 16 .ty 14 15,oL 17 .ty 16,oC 18 133 [17] [.ty] (.p .int),oO 19 .add 12 18,oM 3 19]))
 (.ops [oM 10 4,o 11 (.inc 10 .i64),oM 4 11]))))))
 (sq [oM 20 3,oM 2 20]
 .ret))))⟩
def c134:XFn G:=⟨16,[.t 2],.pure [.p .bool],
 (sq [ob 1 0,oM 2 (cB false)]
 (sq [oL 6 .tm 1,oC 7 160 [6] [.tm] (tp [.int,.int]),oM 5 7,oE 8 5 0,oE 9 5 1,oM 3 8,oM 4 9]
 (sq [oM 10 3,oO 11 .gtr 10 (cI 32000),oM 12 11,.gd 12 false (some 13) (oM 13 4),.gd 12 false (some 14) (oO 14 .gtr 13 (cI 300)),o 15 (.pk 12 (cB true) 14),oM 2 15]
 .ret)))⟩
def c135:XFn G:=⟨191,[.c 4 .ty,.t 5],.pure [.p .ty,.p .bool],
 (sq [ob 2 0,oA 4 25 z_ty,oM 5 (cB false)]
 (.seq (sq [oF 12 .tm 0 2,oL 13 .u8 12]
 (.block 0 (.jn ⟨[(4,.ptr 0 0 []),(14,.p .bool)],[.keep],[1,2,13]⟩ (sq [o 15 (.bi .eql 13 (.c (.v .u8 (1:Int)))),oM 14 15]
 (.cond 14 .skip
  (.ops [o 16 (.bi .eql 13 (.c (.v .u8 (2:Int)))),oM 14 16])))
 (.cond 14 (.seq (.draw [oF 17 .tm 2 2,oI 18 .ty 17,oI 19 .tm 2,oC 20 161 [19,(cB true),(cB true),(cB false)] [.tm,.bool,.bool,.bool] (.p .bool),oM 21 20,.gd 21 true (some 22) (oF 22 .tm 1 2),.gd 21 true (some 23) (oI 23 .str 22),.gd 21 true (some 24) (oC 24 162 [23] [.str] (.p .bool)),o 25 (.pk 21 24 (cB false)),oM 26 25,.gd 26 true (some 27) (oF 27 .tm 4 2),.gd 26 true (some 28) (oI 28 .ltm 27),.gd 26 true (some 29) (oU 29 28),.gd 26 true (some 30) (oO 30 .eql 29 (cI 0)),o 31 (.pk 26 30 (cB false)),oM 32 31,.gd 32 true (some 33) (oF 33 .tm 2 2),.gd 32 true (some 34) (oI 34 .ty 33),.gd 32 true (some 35) (oC 35 115 [34] [.ty] (.p .int)),.gd 32 true (some 36) (oO 36 .eql 35 (cI 0)),o 37 (.pk 32 36 (cB false)),oS 1 .ty 4 18,oM 5 37])
  .ret)
  (sq [o 39 (.bi .eql 13 (.c (.v .u8 (3:Int)))),oM 38 39]
  (.cond 38 (.seq (.jn ⟨[(4,.ptr 0 0 []),(60,.p .bool)],[.keep],[1,2]⟩ (.ops [oL 40 .tm 2,oC 41 161 [40,(cB false),(cB false),(cB true)] [.tm,.bool,.bool,.bool] (.p .bool),o 42 (.un 41),oM 43 42,.gd 43 false (some 44) (oF 44 .tm 4 2),.gd 43 false (some 45) (oL 45 .ltm 44),.gd 43 false (some 46) (oU 46 45),.gd 43 false (some 47) (oO 47 .gtr 46 (cI 0)),o 48 (.pk 43 (cB true) 47),oM 49 48,.gd 49 false (some 50) (oF 50 .tm 3 2),.gd 49 false (some 51) (oL 51 .int 50),.gd 49 false (some 52) (oO 52 .lss 51 (cI 0)),o 53 (.pk 49 (cB true) 52),oM 54 53,.gd 54 false (some 55) (oF 55 .tm 3 2),.gd 54 false (some 56) (oL 56 .int 55),.gd 54 false (some 57) (oM 57 1),.gd 54 false (some 58) (oU 58 57),.gd 54 false (some 59) (oO 59 .geq 56 58),o 60 (.pk 54 (cB true) 59)])
   (.cond 60 (sq [oL 61 .ty 4,oS 0 .ty 4 61,oM 5 (cB false)]
    .ret)
    .skip))
   (sq [oM 62 1,oM 63 1,oU 64 63,o 65 (.dcr 64 .i64),oF 66 .tm 3 2,oL 67 .int 66,oO 68 .sub 65 67,oX 69 .ty 62 68,oL 70 .ty 69,oS 0 .ty 4 70,oM 5 (cB true)]
   .ret))
   (sq [o 72 (.bi .eql 13 (.c (.v .u8 (4:Int)))),oM 71 72]
   (.cond 71 (.seq (.jn ⟨[(4,.ptr 0 0 []),(81,.p .bool)],[.keep],[1,2]⟩ (.ops [oL 73 .tm 2,oC 74 161 [73,(cB false),(cB false),(cB false)] [.tm,.bool,.bool,.bool] (.p .bool),o 75 (.un 74),oM 76 75,.gd 76 false (some 77) (oF 77 .tm 4 2),.gd 76 false (some 78) (oL 78 .ltm 77),.gd 76 false (some 79) (oU 79 78),.gd 76 false (some 80) (oO 80 .neq 79 (cI 2)),o 81 (.pk 76 (cB true) 80)])
    (.cond 81 (sq [oL 82 .ty 4,oS 0 .ty 4 82,oM 5 (cB false)]
     .ret)
     .skip))
    (sq [oF 84 .tm 4 2,oL 85 .ltm 84,oX 86 .tm 85 (cI 0),oL 87 .tm 86,oM 88 1,oC 89 135 [87,88] [.tm,.lty] (tp [.ty,.bool]),oM 83 89,oE 90 83 0,oE 91 83 1,oA 6 25 z_ty,oS 0 .ty 6 90,oM 7 91]
    (sq [oF 93 .tm 4 2,oL 94 .ltm 93,oX 95 .tm 94 (cI 1),oL 96 .tm 95,oM 97 1,oC 98 135 [96,97] [.tm,.lty] (tp [.ty,.bool]),oM 92 98,oE 99 92 0,oE 100 92 1,oA 8 25 z_ty,oS 0 .ty 8 99,oM 9 100]
    (.seq (.jn ⟨[(4,.ptr 0 0 []),(6,.ptr 1 0 []),(130,.p .bool)],[.keep,.keep],[]⟩ (.draw [oM 101 7,o 102 (.un 101),oM 103 102,.gd 103 false (some 104) (oM 104 9),.gd 103 false (some 105) (o 105 (.un 104)),o 106 (.pk 103 (cB true) 105),oM 107 106,.gd 107 false (some 108) (oF 108 .ty 0 6),.gd 107 false (some 109) (oL 109 .bool 108),o 110 (.pk 107 (cB true) 109),oM 111 110,.gd 111 false (some 112) (oF 112 .ty 1 6),.gd 111 false (some 113) (oL 113 .str 112),.gd 111 false (some 114) (o 114 (.bi .neq 113 (.c (.v .str (⟨#[102,117,110]⟩:ByteArray))))),o 115 (.pk 111 (cB true) 114),oM 116 115,.gd 116 false (some 117) (oF 117 .ty 2 6),.gd 116 false (some 118) (oL 118 .lty 117),.gd 116 false (some 119) (oU 119 118),.gd 116 false (some 120) (oO 120 .neq 119 (cI 2)),o 121 (.pk 116 (cB true) 120),oM 122 121,.gd 122 false (some 123) (oF 123 .ty 2 6),.gd 122 false (some 124) (oL 124 .lty 123),.gd 122 false (some 125) (oX 125 .ty 124 (cI 0)),.gd 122 false (some 126) (oI 126 .ty 125),.gd 122 false (some 127) (oL 127 .ty 8),.gd 122 false (some 128) (oC 128 90 [126,127] [.ty,.ty] (.p .bool)),.gd 122 false (some 129) (o 129 (.un 128)),o 130 (.pk 122 (cB true) 129)])
    (.cond 130 (sq [oL 131 .ty 4,oS 0 .ty 4 131,oM 5 (cB false)]
     .ret)
     .skip))
    (sq [oF 132 .ty 2 6,oL 133 .lty 132,oX 134 .ty 133 (cI 1),oL 135 .ty 134,oS 0 .ty 4 135,oM 5 (cB true)]
    .ret)))))
    (sq [o 137 (.bi .eql 13 (.c (.v .u8 (5:Int)))),oM 136 137]
    (.cond 136 (.seq (.jn ⟨[(4,.ptr 0 0 []),(158,.p .bool)],[.keep],[1,2]⟩ (.ops [oL 138 .tm 2,oC 139 161 [138,(cB true),(cB true),(cB false)] [.tm,.bool,.bool,.bool] (.p .bool),o 140 (.un 139),oM 141 140,.gd 141 false (some 142) (oF 142 .tm 4 2),.gd 141 false (some 143) (oL 143 .ltm 142),.gd 141 false (some 144) (oU 144 143),.gd 141 false (some 145) (oO 145 .neq 144 (cI 1)),o 146 (.pk 141 (cB true) 145),oM 147 146,.gd 147 false (some 148) (oF 148 .tm 1 2),.gd 147 false (some 149) (oL 149 .str 148),.gd 147 false (some 150) (oC 150 162 [149] [.str] (.p .bool)),.gd 147 false (some 151) (o 151 (.un 150)),o 152 (.pk 147 (cB true) 151),oM 153 152,.gd 153 false (some 154) (oF 154 .tm 2 2),.gd 153 false (some 155) (oL 155 .ty 154),.gd 153 false (some 156) (oC 156 115 [155] [.ty] (.p .int)),.gd 153 false (some 157) (oO 157 .neq 156 (cI 0)),o 158 (.pk 153 (cB true) 157)])
     (.cond 158 (sq [oL 159 .ty 4,oS 0 .ty 4 159,oM 5 (cB false)]
      .ret)
      .skip))
     (.seq (.draw [oF 161 .tm 4 2,oI 162 .ltm 161,oX 163 .tm 162 (cI 0),oI 164 .tm 163,oM 165 1,oM 166 1,oU 167 166,oM 168 1,oU 169 168,o 170 (.slct .ty 165 167 169),oF 171 .tm 2 2,oI 172 .ty 171,o 173 (.bsl .ty [172]),o 174 (.apt .lty 25 .ty 170 173),oC 175 135 [164,174] [.tm,.lty] (tp [.ty,.bool]),oM 160 175,oE 176 160 0,oE 177 160 1,oA 10 25 z_ty,oS 1 .ty 10 176,oM 11 177])
     (.seq (sq [oM 178 11,o 179 (.un 178)]
     (.cond 179 (sq [oL 180 .ty 4,oS 0 .ty 4 180,oM 5 (cB false)]
      .ret)
      .skip))
     (sq [oF 181 .tm 2 2,oL 182 .ty 181,oL 183 .ty 10,o 184 (.bsl .ty [182,183]),o 185 (.bld .ty zs_ty [(1,(.c (.v .str (⟨#[102,117,110]⟩:ByteArray)))),(2,184)]),oS 0 .ty 4 185]
     (.seq (.draw [oL 186 .ty 4,oL 187 .ty 4,oC 188 115 [187] [.ty] (.p .int),oO 189 .eql 188 (cI 0),oS 1 .ty 4 186,oM 5 189])
     .ret)))))
     .skip))))))))))
 (sq [oL 190 .ty 4,oS 0 .ty 4 190,oM 5 (cB false)]
 .ret)))⟩
def c136:XFn G:=⟨20,[.t 4],.pure [.p .int],
 (sq [oM 4 (cI 0)]
 (sq [oM 7 0,oC 8 163 [7] [.u8] (.p .bool),oM 5 8]
 (sq [oM 9 1,oC 10 163 [9] [.u8] (.p .bool),oM 6 10]
 (.seq (sq [oM 11 5]
 (.cond 11 (.seq (sq [oM 12 6]
  (.cond 12 (sq [oM 4 (cI 0)]
   .ret)
   .skip))
  (sq [o 4 (.mv (.c (.v .int ((-1):Int))))]
  .ret))
  .skip))
 (.seq (sq [oM 13 6]
 (.cond 13 (sq [oM 4 (cI 1)]
  .ret)
  .skip))
 (.seq (sq [oM 14 0,oM 15 1,oO 16 .lss 14 15]
 (.cond 16 (sq [o 4 (.mv (.c (.v .int ((-1):Int))))]
  .ret)
  .skip))
 (.seq (sq [oM 17 0,oM 18 1,oO 19 .gtr 17 18]
 (.cond 19 (sq [oM 4 (cI 1)]
  .ret)
  .skip))
 (sq [oM 4 (cI 0)]
 .ret))))))))⟩
def c137:XFn G:=⟨8,[.t 4],.pure [.p .int],
 (sq [oM 4 (cI 0)]
 (sq [oM 5 0,oM 6 1,oC 7 164 [5,6] [.str,.str] (.p .int),oM 4 7]
 .ret))⟩
def c138:XFn G:=⟨18,[.t 2],.pure [.p .int],
 (sq [oM 2 (cI 0)]
 (sq [oM 3 (cI 0)]
 (.seq (sq [oM 6 0,oU 7 6,oM 8 (cI 0)]
 (.block 0 (.loop ⟨[(8,.p .int)],[],[3,6,7]⟩ (sq [oO 9 .lss 8 7]
 (.seq (.cond 9 .skip
  (.exit 0))
 (.seq (.block 1 (sq [oX 10 .int 6 8,oL 11 .int 10,oM 5 11]
 (sq [oM 12 5,oM 13 3,oO 14 .neq 12 13]
 (.cond 14 (sq [oM 15 5,oM 2 15]
  .ret)
  .skip))))
 (.ops [o 16 (.inc 8 .i64),oM 8 16])))))))
 (sq [oM 17 3,oM 2 17]
 .ret))))⟩
def c139:XFn G:=⟨20,[.t 4],.pure [.p .int],
 (sq [oM 4 (cI 0)]
 (sq [oM 7 0,oC 8 165 [7] [.int] (.p .bool),oM 5 8]
 (sq [oM 9 1,oC 10 165 [9] [.int] (.p .bool),oM 6 10]
 (.seq (sq [oM 11 5]
 (.cond 11 (.seq (sq [oM 12 6]
  (.cond 12 (sq [oM 4 (cI 0)]
   .ret)
   .skip))
  (sq [o 4 (.mv (.c (.v .int ((-1):Int))))]
  .ret))
  .skip))
 (.seq (sq [oM 13 6]
 (.cond 13 (sq [oM 4 (cI 1)]
  .ret)
  .skip))
 (.seq (sq [oM 14 0,oM 15 1,oO 16 .lss 14 15]
 (.cond 16 (sq [o 4 (.mv (.c (.v .int ((-1):Int))))]
  .ret)
  .skip))
 (.seq (sq [oM 17 0,oM 18 1,oO 19 .gtr 17 18]
 (.cond 19 (sq [oM 4 (cI 1)]
  .ret)
  .skip))
 (sq [oM 4 (cI 0)]
 .ret))))))))⟩
def c140:XFn G:=⟨39,[.t 6],.pure [.p .int],
 (sq [oM 6 (cI 0)]
 (.seq (sq [oM 11 0,oU 12 11,oM 13 (cI 0)]
 (.block 0 (.loop ⟨[(13,.p .int)],[],[0,1,2,11,12]⟩ (sq [oO 14 .lss 13 12]
 (.seq (.cond 14 .skip
  (.exit 0))
 (.seq (.block 1 (sq [oM 15 13,oX 16 .tm 11 13,oL 17 .tm 16,oA 8 27 z_tm,oM 7 15,oS 0 .tm 8 17]
 (.seq (sq [oM 18 7,oM 19 1,oU 20 19,oO 21 .geq 18 20]
 (.cond 21 (sq [oM 6 (cI 1)]
  .ret)
  .skip))
 (sq [oM 22 1,oM 23 7,oX 24 .tm 22 23,oL 25 .tm 24,oA 9 27 z_tm,oS 0 .tm 9 25]
 (sq [oM 26 2,oL 27 .tm 8,oL 28 .tm 9,.call 0 (some 29) 26 [27,28] [some .tm,some .tm] (.p .int),oM 10 29]
 (sq [oM 30 10,oO 31 .neq 30 (cI 0)]
 (.cond 31 (sq [oM 32 10,oM 6 32]
  .ret)
  .skip)))))))
 (.ops [o 33 (.inc 13 .i64),oM 13 33])))))))
 (.seq (sq [oM 34 0,oU 35 34,oM 36 1,oU 37 36,oO 38 .lss 35 37]
 (.cond 38 (sq [o 6 (.mv (.c (.v .int ((-1):Int))))]
  .ret)
  .skip))
 (sq [oM 6 (cI 0)]
 .ret))))⟩
def c141v1:XFn G:=⟨42,[.t 4],.own 1 ho141v1 [.row 0],
 (sq [o 4 (.mv (.c (.ns .tm)))]
 (sq [oM 8 0,oM 9 1,.call 1 (some 10) (.c (.fn 166 [] [])) [8,9] [some .ltm] (.p .int),oM 5 10]
 (.seq (sq [oM 11 5,o 12 (.bi .eql 11 (.c (.v .int ((-1):Int))))]
 (.cond 12 (sq [oM 13 0,oM 4 13]
  .ret)
  .skip))
 (.seq (sq [oM 14 5,o 15 (.inc 14 .i64),oM 6 15]
 (.block 0 (.loop ⟨[(0,.row 0),(5,.p .int),(6,.p .int)],[.row 27 .ltm],[1]⟩ (.seq (sq [oM 16 6,oM 17 0,oU 18 17,oO 19 .lss 16 18]
 (.cond 19 .skip
  (.exit 0)))
 (.jn ⟨[(0,.row 0),(5,.p .int)],[.row 27 .ltm],[1,6]⟩ (.block 1 (sq [oM 22 0,oM 23 6,oX 24 .tm 22 23,oL 25 .tm 24,oA 7 27 z_tm,oS 0 .tm 7 25]
 (sq [oM 26 1,oL 27 .tm 7,.call 0 (some 28) 26 [27] [some .tm] (.p .bool),o 29 (.un 28)]
 (.cond 29 (sq [oM 30 0,oM 31 5,oL 32 .tm 7,oX 33 .tm 30 31,oS 0 .tm 33 32]
  (.ops [oM 34 5,o 35 (.inc 34 .i64),oM 5 35]))
  .skip))))
 (.ops [oM 20 6,o 21 (.inc 20 .i64),oM 6 21]))))))
 (sq [oM 36 0,oM 37 5,o 38 (.rsl .tm 36 (some 37) none none),.a none (.clr .tm (Tm.mk 0 (⟨#[]⟩:ByteArray) (Ty.mk false (⟨#[]⟩:ByteArray) []) 0 []) 38)]
 (sq [oM 39 0,oM 40 5,o 41 (.rsl .tm 39 none (some 40) none),oM 4 41]
 (.ps [.tr 4] .ret)))))))⟩
def c142:XFn G:=⟨8,[.t 2],.pure [.p .ltm],
 (sq [o 2 (.mv (.c (.ns .tm)))]
 (.seq (sq [oM 3 0,o 4 (.eqn false 3)]
 (.cond 4 (sq [o 2 (.mv (.c (.ns .tm)))]
  .ret)
  .skip))
 (sq [.a (some 5) (.bsr 27 .tm),oM 6 0,.a (some 7) (.app 27 .tm 5 6),oM 2 7]
 .ret)))⟩
def c142v1:XFn G:=⟨8,[.t 2],.own 0 ho142v1 [.row 0],
 (sq [o 2 (.mv (.c (.ns .tm)))]
 (.seq (sq [oM 3 0,o 4 (.eqn false 3)]
 (.cond 4 (sq [o 2 (.mv (.c (.ns .tm)))]
  (.ps [.adT 2 27 .tm] .ret))
  .skip))
 (sq [.a (some 5) (.bsr 27 .tm),oM 6 0,.a (some 7) (.app 27 .tm 5 6),oM 2 7]
 .ret)))⟩
def c143:XFn G:=⟨7,[.t 3],.pure [.p .bool],
 (sq [ob 2 0,oM 3 (cB false)]
 (sq [oL 4 .tm 2,oL 5 .tm 1,oC 6 63 [4,5] [.tm,.tm] (.p .bool),oM 3 6]
 .ret))⟩
def c144:XFn G:=⟨82,[.t 4],.pure [.p .bool],
 (sq [ob 3 1,oM 4 (cB false)]
 (.jn ⟨[(5,.p .bool)],[],[0,3]⟩ (.ops [oF 13 .tm 0 3,oL 14 .u8 13,o 15 (.bi .eql 14 (.c (.v .u8 (1:Int)))),oM 16 15,.gd 16 false (some 17) (oF 17 .tm 0 3),.gd 16 false (some 18) (oL 18 .u8 17),.gd 16 false (some 19) (o 19 (.bi .eql 18 (.c (.v .u8 (2:Int))))),o 20 (.pk 16 (cB true) 19),oM 21 20,.gd 21 false (some 22) (oF 22 .tm 0 3),.gd 21 false (some 23) (oL 23 .u8 22),.gd 21 false (some 24) (o 24 (.bi .eql 23 (.c (.v .u8 (5:Int))))),o 25 (.pk 21 (cB true) 24),oM 5 25])
 (.seq (.jn ⟨[(33,.p .bool)],[],[0,3]⟩ (.ops [oM 26 5,oM 27 26,.gd 27 true (some 28) (oM 28 0),.gd 27 true (some 29) (oF 29 .tm 2 3),.gd 27 true (some 30) (oL 30 .ty 29),.gd 27 true (some 31) (oC 31 167 [28,30] [.pnode,.ty] (.p .bool)),.gd 27 true (some 32) (o 32 (.un 31)),o 33 (.pk 27 32 (cB false))])
 (.cond 33 (sq [oM 4 (cB false)]
  .ret)
  .skip))
 (.jn ⟨[],[],[0,3]⟩ (sq [oF 34 .tm 0 3,oL 35 .u8 34,o 36 (.bi .eql 35 (.c (.v .u8 (2:Int))))]
 (.cond 36 (sq [oM 37 0,oN 38 37,oF 39 .node 3 38,oF 40 .signature 1 39,oL 41 .lconst 40,o 42 (.mkf 169 [] [3]),oC 43 168 [41,42] [.lconst] (.p .int),oM 6 43]
  (.seq (sq [oM 44 6,oO 45 .lss 44 (cI 0)]
  (.cond 45 (sq [oM 4 (cB false)]
   .ret)
   .skip))
  (sq [oM 46 0,oN 47 46,oF 48 .node 3 47,oF 49 .signature 1 48,oL 50 .lconst 49,oM 51 6,oX 52 .const 50 51,oF 53 .const 1 52,oL 54 .ty 53,oA 7 25 z_ty,oS 0 .ty 7 54]
  (sq [oL 55 .ty 7,oF 56 .tm 2 3,oL 57 .ty 56,oC 58 90 [55,57] [.ty,.ty] (.p .bool),o 59 (.un 58)]
  (.cond 59 (sq [oL 61 .ty 7,oF 62 .tm 2 3,oL 63 .ty 62,oC 64 170 [61,63,(.c (.ns .typebind))] [.ty,.ty,.ltypebind] (tp [.ltypebind,.bool,.int]),oM 60 64,oE 65 60 0,oE 66 60 1,oE 67 60 2,oM 8 65,oM 9 66,oM 10 67]
   (sq [oM 68 9,o 69 (.un 68)]
   (.cond 69 (sq [oM 4 (cB false)]
    .ret)
    .skip)))
   .skip)))))
  .skip))
 (.seq (sq [oF 70 .tm 4 3,oL 71 .ltm 70,oU 72 71,oM 73 (cI 0)]
 (.block 0 (.loop ⟨[(73,.p .int)],[],[0,71,72]⟩ (sq [oO 74 .lss 73 72]
 (.seq (.cond 74 .skip
  (.exit 0))
 (.seq (.block 1 (sq [oX 75 .tm 71 73,oL 76 .tm 75,oA 12 27 z_tm,oS 0 .tm 12 76]
 (sq [oM 77 0,oL 78 .tm 12,oC 79 144 [77,78] [.pnode,.tm] (.p .bool),o 80 (.un 79)]
 (.cond 80 (sq [oM 4 (cB false)]
  .ret)
  .skip))))
 (.ops [o 81 (.inc 73 .i64),oM 73 81])))))))
 (sq [oM 4 (cB true)]
 .ret))))))⟩
def c145:XFn G:=⟨64,[.t 2,.t 3,.t 4],.pure [.p .int,.p .int,.p .bool],
 (sq [ob 1 0,oM 2 (cI 0),oM 3 (cI 0),oM 4 (cB false)]
 (sq [oM 2 (cI 1)]
 (.jn ⟨[(4,.p .bool)],[],[1,2,3]⟩ (sq [oF 10 .ty 0 1,oL 11 .bool 10]
 (.cond 11 (.ops [oF 12 .ty 1 1,oL 13 .str 12,oC 14 171 [13] [.str] (.p .bool),oM 15 14,.gd 15 true (some 16) (oF 16 .ty 2 1),.gd 15 true (some 17) (oL 17 .lty 16),.gd 15 true (some 18) (oU 18 17),.gd 15 true (some 19) (oO 19 .eql 18 (cI 0)),o 20 (.pk 15 19 (cB false)),oM 4 20])
  (.ops [oF 21 .ty 1 1,oL 22 .str 21,oC 23 172 [22] [.str] (.p .bool),oM 24 23,.gd 24 true (some 25) (oF 25 .ty 1 1),.gd 24 true (some 26) (oL 26 .str 25),.gd 24 true (some 27) (o 27 (.ix 26 (cI 0))),.gd 24 true (some 28) (o 28 (.bi .neq 27 (.c (.v .u8 (39:Int))))),o 29 (.pk 24 28 (cB false)),oM 30 29,.gd 30 true (some 31) (oF 31 .ty 2 1),.gd 30 true (some 32) (oL 32 .lty 31),.gd 30 true (some 33) (oU 33 32),.gd 30 true (some 34) (oO 34 .leq 33 (cI 8)),o 35 (.pk 30 34 (cB false)),oM 4 35])))
 (.seq (sq [oF 36 .ty 2 1,oL 37 .lty 36,oU 38 37,oM 39 (cI 0)]
 (.block 0 (.loop ⟨[(2,.p .int),(3,.p .int),(4,.p .bool),(39,.p .int)],[],[37,38]⟩ (sq [oO 40 .lss 39 38]
 (.seq (.cond 40 .skip
  (.exit 0))
 (.jn ⟨[(2,.p .int),(3,.p .int),(4,.p .bool)],[],[37,38,39]⟩ (.block 1 (sq [oX 41 .ty 37 39,oL 42 .ty 41,oA 6 25 z_ty,oS 0 .ty 6 42]
 (sq [oL 44 .ty 6,oC 45 145 [44] [.ty] (tp [.int,.int,.bool]),oM 43 45,oE 46 43 0,oE 47 43 1,oE 48 43 2,oM 7 46,oM 8 47,oM 9 48]
 (.ops [oM 49 2,oM 50 7,oO 51 .add 49 50,oM 52 3,oM 53 8,o 54 (.mx 52 53),oM 55 4,oM 56 55,.gd 56 true (some 57) (oM 57 9),o 58 (.pk 56 57 (cB false)),oM 2 51,oM 3 54,oM 4 58]))))
 (.ops [o 59 (.inc 39 .i64),oM 39 59])))))))
 (sq [oM 60 2,oM 61 3,o 62 (.inc 61 .i64),oM 63 4,oM 2 60,oM 3 62,oM 4 63]
 .ret)))))⟩
def c146:XFn G:=⟨19,[.t 4],.pure [.p .int],
 (sq [ob 3 1,oM 4 (cI 0)]
 (.seq (sq [oM 6 0,oU 7 6,oM 8 (cI 0)]
 (.block 0 (.loop ⟨[(8,.p .int)],[],[0,3,7]⟩ (sq [oO 9 .lss 8 7]
 (.seq (.cond 9 .skip
  (.exit 0))
 (.seq (.block 1 (sq [oM 10 8,oM 5 10]
 (.seq (.draw [oI 11 .thm 3,oM 12 0,oM 13 5,oX 14 .thm 12 13,oI 15 .thm 14,o 16 (.eqs false 2 11 15)])
 (.cond 16 (sq [oM 17 5,oM 4 17]
  .ret)
  .skip))))
 (.ops [o 18 (.inc 8 .i64),oM 8 18])))))))
 (sq [o 4 (.mv (.c (.v .int ((-1):Int))))]
 .ret)))⟩
def c147:XFn G:=⟨10,[.t 2],.pure [.p .bool],
 (sq [oM 2 (cB false)]
 (sq [oM 3 0,oC 4 157 [3] [.str] (.p .bool),oM 5 4,.gd 5 true (some 6) (oM 6 0),.gd 5 true (some 7) (o 7 (.ix 6 (cI 0))),.gd 5 true (some 8) (o 8 (.bi .neq 7 (.c (.v .u8 (39:Int))))),o 9 (.pk 5 8 (cB false)),oM 2 9]
 .ret))⟩
def c148:XFn G:=⟨41,[.t 4],.pure [.p .bool],
 (sq [ob 2 0,ob 3 1,oM 4 (cB false)]
 (.seq (sq [oF 8 .ty 0 3,oL 9 .bool 8]
 (.cond 9 (sq [oM 4 (cB true)]
  .ret)
  .skip))
 (sq [oL 11 .signature 2,oF 12 .ty 1 3,oL 13 .str 12,oC 14 173 [11,13] [.signature,.str] (tp [.int,.bool]),oM 10 14,oE 15 10 0,oE 16 10 1,oM 5 15,oM 6 16]
 (.seq (.jn ⟨[(25,.p .bool)],[],[2,3]⟩ (.ops [oM 17 6,o 18 (.un 17),oM 19 18,.gd 19 false (some 20) (oM 20 5),.gd 19 false (some 21) (oF 21 .ty 2 3),.gd 19 false (some 22) (oL 22 .lty 21),.gd 19 false (some 23) (oU 23 22),.gd 19 false (some 24) (oO 24 .neq 20 23),o 25 (.pk 19 (cB true) 24)])
 (.cond 25 (sq [oM 4 (cB false)]
  .ret)
  .skip))
 (.seq (sq [oM 7 (cI 0)]
 (.block 0 (.loop ⟨[(7,.p .int)],[],[2,3]⟩ (.seq (sq [oM 26 7,oF 27 .ty 2 3,oL 28 .lty 27,oU 29 28,oO 30 .lss 26 29]
 (.cond 30 .skip
  (.exit 0)))
 (.seq (.block 1 (.seq (.draw [oI 33 .signature 2,oF 34 .ty 2 3,oI 35 .lty 34,oM 36 7,oX 37 .ty 35 36,oI 38 .ty 37,oC 39 148 [33,38] [.signature,.ty] (.p .bool),o 40 (.un 39)])
 (.cond 40 (sq [oM 4 (cB false)]
  .ret)
  .skip)))
 (.ops [oM 31 7,o 32 (.inc 31 .i64),oM 7 32]))))))
 (sq [oM 4 (cB true)]
 .ret))))))⟩
def c149:XFn G:=⟨30,[.c 4 .ty,.t 5],.pure [.p .ty,.p .bool],
 (sq [ob 2 0,oA 4 25 z_ty,oM 5 (cB false)]
 (.seq (sq [oM 6 (cI 0)]
 (.block 0 (.loop ⟨[(4,.ptr 0 0 []),(6,.p .int)],[.box 25 (.p .ty)],[1,2]⟩ (.seq (sq [oM 7 6,oF 8 .signature 1 2,oL 9 .lconst 8,oU 10 9,oO 11 .lss 7 10]
 (.cond 11 .skip
  (.exit 0)))
 (.seq (.block 1 (sq [oF 14 .signature 1 2,oL 15 .lconst 14,oM 16 6,oX 17 .const 15 16,oF 18 .const 0 17,oL 19 .str 18,oM 20 1,oO 21 .eql 19 20]
 (.cond 21 (sq [oF 22 .signature 1 2,oL 23 .lconst 22,oM 24 6,oX 25 .const 23 24,oF 26 .const 1 25,oL 27 .ty 26,oC 28 100 [27] [.ty] (.p .ty),oS 0 .ty 4 28,oM 5 (cB true)]
  .ret)
  .skip)))
 (.ops [oM 12 6,o 13 (.inc 12 .i64),oM 6 13]))))))
 (sq [o 29 (.bld .ty zs_ty []),oS 0 .ty 4 29,oM 5 (cB false)]
 .ret)))⟩
def c150:XFn G:=⟨81,[.t 6,.t 7],.pure [.p .ltypebind,.p .bool],
 (sq [ob 3 0,ob 4 1,o 6 (.mv (.c (.ns .typebind))),oM 7 (cB false)]
 (.seq (sq [oF 13 .ty 0 3,oL 14 .bool 13]
 (.cond 14 (sq [oM 16 2,oF 17 .ty 1 3,oL 18 .str 17,oC 19 174 [16,18] [.ltypebind,.str] (tp [.ty,.bool]),oM 15 19,oE 20 15 0,oE 21 15 1,oA 8 25 z_ty,oS 0 .ty 8 20,oM 9 21]
  (.seq (sq [oM 22 9]
  (.cond 22 (sq [oM 23 2,oL 24 .ty 8,oL 25 .ty 4,oC 26 98 [24,25] [.ty,.ty] (.p .bool),oM 6 23,oM 7 26]
   .ret)
   .skip))
  (.seq (.draw [.a (some 27) (.bsr 198 .typebind),oM 28 2,.a (some 29) (.app 198 .typebind 27 28),oF 30 .ty 1 3,oI 31 .str 30,oI 32 .ty 4,oC 33 100 [32] [.ty] (.p .ty),o 34 (.bld .typebind zs_typebind [(0,31),(1,33)]),o 35 (.bsl .typebind [34]),.a (some 36) (.app 198 .typebind 29 35),oM 6 36,oM 7 (cB true)])
  .ret)))
  .skip))
 (.seq (.jn ⟨[(54,.p .bool)],[],[2,3,4]⟩ (.ops [oF 37 .ty 0 4,oL 38 .bool 37,oM 39 38,.gd 39 false (some 40) (oF 40 .ty 1 3),.gd 39 false (some 41) (oL 41 .str 40),.gd 39 false (some 42) (oF 42 .ty 1 4),.gd 39 false (some 43) (oL 43 .str 42),.gd 39 false (some 44) (oO 44 .neq 41 43),o 45 (.pk 39 (cB true) 44),oM 46 45,.gd 46 false (some 47) (oF 47 .ty 2 3),.gd 46 false (some 48) (oL 48 .lty 47),.gd 46 false (some 49) (oU 49 48),.gd 46 false (some 50) (oF 50 .ty 2 4),.gd 46 false (some 51) (oL 51 .lty 50),.gd 46 false (some 52) (oU 52 51),.gd 46 false (some 53) (oO 53 .neq 49 52),o 54 (.pk 46 (cB true) 53)])
 (.cond 54 (sq [o 6 (.mv (.c (.ns .typebind))),oM 7 (cB false)]
  .ret)
  .skip))
 (.seq (sq [oM 10 (cI 0)]
 (.block 0 (.loop ⟨[(2,.p .ltypebind),(10,.p .int)],[],[3,4]⟩ (.seq (sq [oM 55 10,oF 56 .ty 2 3,oL 57 .lty 56,oU 58 57,oO 59 .lss 55 58]
 (.cond 59 .skip
  (.exit 0)))
 (.seq (.block 1 (.seq (.draw [oF 63 .ty 2 3,oI 64 .lty 63,oM 65 10,oX 66 .ty 64 65,oI 67 .ty 66,oF 68 .ty 2 4,oI 69 .lty 68,oM 70 10,oX 71 .ty 69 70,oI 72 .ty 71,oM 73 2,oC 74 150 [67,72,73] [.ty,.ty,.ltypebind] (tp [.ltypebind,.bool]),oM 62 74,oE 75 62 0,oE 76 62 1,oM 11 75,oM 12 76])
 (.seq (sq [oM 77 12,o 78 (.un 77)]
 (.cond 78 (sq [o 6 (.mv (.c (.ns .typebind))),oM 7 (cB false)]
  .ret)
  .skip))
 (.ops [oM 79 11,oM 2 79]))))
 (.ops [oM 60 10,o 61 (.inc 60 .i64),oM 10 61]))))))
 (sq [oM 80 2,oM 6 80,oM 7 (cB true)]
 .ret)))))⟩
def c151:XFn G:=⟨38,[.t 4],.pure [.p .bool],
 (sq [ob 2 0,ob 3 1,oM 4 (cB false)]
 (.seq (.ops (oF 5 .decl 0 2::oL 6 .u8 5::oF 7 .decl 0 3::oL 8 .u8 7::oO 9 .eql 6 8::oM 10 9::.gd 10 true (some 11) (oF 11 .decl 1 2)::.gd 10 true (some 12) (oL 12 .str 11)::.gd 10 true (some 13) (oF 13 .decl 1 3)::.gd 10 true (some 14) (oL 14 .str 13)::.gd 10 true (some 15) (oO 15 .eql 12 14)::o 16 (.pk 10 15 (cB false))::oM 17 16::.gd 17 true (some 18) (oF 18 .decl 2 2)::.gd 17 true (some 19) (oL 19 .int 18)::.gd 17 true (some 20) (oF 20 .decl 2 3)::.gd 17 true (some 21) (oL 21 .int 20)::.gd 17 true (some 22) (oO 22 .eql 19 21)::o 23 (.pk 17 22 (cB false))::oM 24 23::.gd 24 true (some 25) (oF 25 .decl 3 2)::.gd 24 true (some 26) (oL 26 .ty 25)::.gd 24 true (some 27) (oF 27 .decl 3 3)::.gd 24 true (some 28) (oL 28 .ty 27)::.gd 24 true (some 29) (oC 29 90 [26,28] [.ty,.ty] (.p .bool))::o 30 (.pk 24 29 (cB false))::oM 31 30::.gd 31 true (some 32) (oF 32 .decl 4 2)::.gd 31 true (some 33) (oL 33 .lsequent 32)::.gd 31 true (some 34) (oF 34 .decl 4 3)::.gd 31 true (some 35) (oL 35 .lsequent 34)::.gd 31 true (some 36) (.call 0 (some 36) (.c (.fn 175 [] [])) [33,35,(.c (.fn 176 [] []))] [some .lsequent,some .lsequent] (.p .bool))::o 37 (.pk 31 36 (cB false))::oM 4 37::[]))
 .ret))⟩
def c152:XFn G:=⟨5,[.t 2],.pure [.p .int],
 (sq [ob 1 0,oM 2 (cI 0)]
 (.seq (sq [oF 3 .ty 0 1,oL 4 .bool 3]
 (.cond 4 (sq [oM 2 (cI 0)]
  .ret)
  .skip))
 (sq [oM 2 (cI 1)]
 .ret)))⟩
def c153:XFn G:=⟨39,[.t 6],.pure [.p .int],
 (sq [oM 6 (cI 0)]
 (.seq (sq [oM 11 0,oU 12 11,oM 13 (cI 0)]
 (.block 0 (.loop ⟨[(13,.p .int)],[],[0,1,2,11,12]⟩ (sq [oO 14 .lss 13 12]
 (.seq (.cond 14 .skip
  (.exit 0))
 (.seq (.block 1 (sq [oM 15 13,oX 16 .ty 11 13,oL 17 .ty 16,oA 8 25 z_ty,oM 7 15,oS 0 .ty 8 17]
 (.seq (sq [oM 18 7,oM 19 1,oU 20 19,oO 21 .geq 18 20]
 (.cond 21 (sq [oM 6 (cI 1)]
  .ret)
  .skip))
 (sq [oM 22 1,oM 23 7,oX 24 .ty 22 23,oL 25 .ty 24,oA 9 25 z_ty,oS 0 .ty 9 25]
 (sq [oM 26 2,oL 27 .ty 8,oL 28 .ty 9,.call 0 (some 29) 26 [27,28] [some .ty,some .ty] (.p .int),oM 10 29]
 (sq [oM 30 10,oO 31 .neq 30 (cI 0)]
 (.cond 31 (sq [oM 32 10,oM 6 32]
  .ret)
  .skip)))))))
 (.ops [o 33 (.inc 13 .i64),oM 13 33])))))))
 (.seq (sq [oM 34 0,oU 35 34,oM 36 1,oU 37 36,oO 38 .lss 35 37]
 (.cond 38 (sq [o 6 (.mv (.c (.v .int ((-1):Int))))]
  .ret)
  .skip))
 (sq [oM 6 (cI 0)]
 .ret))))⟩
def c154v1:XFn G:=⟨27,[.t 4],.own 0 ho154v1 [.row 0],
 (sq [o 4 (.mv (.c (.ns .tm)))]
 (.jn ⟨[],[],[0,1]⟩ (sq [oM 5 1,oO 6 .lss 5 (cI 0)]
 (.cond 6 (.ops [o 7 (.stuck),.a none (.q (.stuck))])
  .skip))
 (.jn ⟨[(0,.row 0)],[.row 27 .ltm],[]⟩ (.th (sq [oM 8 1,oM 9 0,o 10 (.capn 9),oM 11 0,oU 12 11,oO 13 .sub 10 12,oO 14 .sub 8 13,oM 1 14]
 (sq [oM 15 1,oO 16 .gtr 15 (cI 0)]
 (.cond 16 (.ops [oM 17 0,oM 18 0,o 19 (.capn 18),o 20 (.sln 17 19),oM 21 1,.a (some 22) (.apz 27 .tm (Tm.mk 0 (⟨#[]⟩:ByteArray) (Ty.mk false (⟨#[]⟩:ByteArray) []) 0 []) 20 21),oM 23 0,oU 24 23,o 25 (.rsl .tm 22 none (some 24) none),oM 0 25])
  .skip))) [.tr 0,.adT 0 27 .tm])
 (sq [oM 26 0,oM 4 26]
 .ret))))⟩
def c155v10:XFn G:=⟨63,[],.own 1 ho155v10 [],
 (sq [oM 6 (cI 20)]
 (sq [oM 10 6,oM 7 (cI 0),oM 8 10]
 (.seq (.block 0 (.loop ⟨[(0,.row 0),(7,.p .int),(8,.p .int)],[.row 27 .ltm,.pin 0],[1,2,6]⟩ (.seq (sq [oM 11 8,oM 12 1,oO 13 .leq 11 12]
 (.cond 13 .skip
  (.exit 0)))
 (.block 1 (sq [oM 14 0,oM 15 7,oM 16 8,oM 17 2,.callg 10 (some 18) (.c (.fn 177 [] [])) [14,15,16,17] [0] hi177v10 as177v10 ho177v10 rs177v10]
 (sq [oM 19 8,oM 7 19]
 (.ops [oM 20 8,oM 21 6,oO 22 .add 20 21,oM 8 22])))))))
 (sq [oM 23 0,oM 24 7,oM 25 1,oM 26 2,.callg 10 (some 27) (.c (.fn 177 [] [])) [23,24,25,26] [0] hi177v10 as177v10 ho177v10 rs177v10]
 (.block 2 (.loop ⟨[(0,.row 0),(6,.p .int)],[.row 27 .ltm,.pin 0],[1,2]⟩ (.seq (sq [oM 28 6,oM 29 1,oO 30 .lss 28 29]
 (.cond 30 .skip
  (.exit 2)))
 (.block 3 (sq [oM 31 6,oO 32 .mul (cI 2) 31,oM 7 (cI 0),oM 8 32]
 (.seq (.block 4 (.loop ⟨[(0,.row 0),(7,.p .int),(8,.p .int)],[.row 27 .ltm,.pin 0],[1,2,6]⟩ (.seq (sq [oM 33 8,oM 34 1,oO 35 .leq 33 34]
 (.cond 35 .skip
  (.exit 4)))
 (.block 5 (sq [oM 36 0,oM 37 7,oM 38 7,oM 39 6,oO 40 .add 38 39,oM 41 8,oM 42 2,.callg 10 (some 43) (.c (.fn 178 [] [])) [36,37,40,41,42] [0] hi178v10 as178v10 ho178v10 rs178v10]
 (sq [oM 44 8,oM 7 44]
 (.ops [oM 45 8,oM 46 6,oO 47 .mul (cI 2) 46,oO 48 .add 45 47,oM 8 48])))))))
 (.jn ⟨[(0,.row 0)],[.row 27 .ltm,.pin 0],[1,2,6]⟩ (sq [oM 49 7,oM 50 6,oO 51 .add 49 50,oM 9 51]
 (sq [oM 52 9,oM 53 1,oO 54 .lss 52 53]
 (.cond 54 (.ops [oM 55 0,oM 56 7,oM 57 9,oM 58 1,oM 59 2,.callg 10 (some 60) (.c (.fn 178 [] [])) [55,56,57,58,59] [0] hi178v10 as178v10 ho178v10 rs178v10])
  .skip)))
 (.ops [oM 61 6,oO 62 .mul 61 (cI 2),oM 6 62]))))))))))))⟩
def c156:XFn G:=⟨2,[.c 0 .ty],.pure [.p .ty],
 (sq [oA 0 25 z_ty]
 (sq [o 1 (.bld .ty zs_ty [(1,(.c (.v .str (⟨#[98,111,111,108]⟩:ByteArray))))]),oS 0 .ty 0 1]
 .ret))⟩
def c157:XFn G:=⟨56,[.t 2],.pure [.p .bool],
 (sq [oM 2 (cB false)]
 (.seq (.jn ⟨[(12,.p .bool)],[],[0]⟩ (.ops [oM 5 0,o 6 (.lens 5),oO 7 .lss 6 (cI 1),oM 8 7,.gd 8 false (some 9) (oM 9 0),.gd 8 false (some 10) (o 10 (.lens 9)),.gd 8 false (some 11) (oO 11 .gtr 10 (cI 30)),o 12 (.pk 8 (cB true) 11)])
 (.cond 12 (sq [oM 2 (cB false)]
  .ret)
  .skip))
 (.seq (sq [oM 3 (cI 0)]
 (.block 0 (.loop ⟨[(3,.p .int)],[],[0]⟩ (.seq (sq [oM 13 3,oM 14 0,o 15 (.lens 14),oO 16 .lss 13 15]
 (.cond 16 .skip
  (.exit 0)))
 (.seq (.block 1 (sq [oM 19 0,oM 20 3,o 21 (.ix 19 20),oM 4 21]
 (.jn ⟨[(55,.p .bool)],[],[0,3]⟩ (.ops (oM 22 4::o 23 (.bi .lss 22 (.c (.v .u8 (33:Int))))::oM 24 23::.gd 24 false (some 25) (oM 25 4)::.gd 24 false (some 26) (o 26 (.bi .gtr 25 (.c (.v .u8 (126:Int)))))::o 27 (.pk 24 (cB true) 26)::oM 28 27::.gd 28 false (some 29) (oM 29 4)::.gd 28 false (some 30) (o 30 (.bi .eql 29 (.c (.v .u8 (40:Int)))))::o 31 (.pk 28 (cB true) 30)::oM 32 31::.gd 32 false (some 33) (oM 33 4)::.gd 32 false (some 34) (o 34 (.bi .eql 33 (.c (.v .u8 (41:Int)))))::o 35 (.pk 32 (cB true) 34)::oM 36 35::.gd 36 false (some 37) (oM 37 4)::.gd 36 false (some 38) (o 38 (.bi .eql 37 (.c (.v .u8 (44:Int)))))::o 39 (.pk 36 (cB true) 38)::oM 40 39::.gd 40 false (some 41) (oM 41 4)::.gd 40 false (some 42) (o 42 (.bi .eql 41 (.c (.v .u8 (58:Int)))))::o 43 (.pk 40 (cB true) 42)::oM 44 43::.gd 44 false (some 45) (oM 45 4)::.gd 44 false (some 46) (o 46 (.bi .eql 45 (.c (.v .u8 (92:Int)))))::o 47 (.pk 44 (cB true) 46)::oM 48 47::.gd 48 false (some 49) (oM 49 4)::.gd 48 false (some 50) (o 50 (.bi .eql 49 (.c (.v .u8 (46:Int)))))::o 51 (.pk 48 (cB true) 50)::oM 52 51::.gd 52 false (some 53) (oM 53 4)::.gd 52 false (some 54) (o 54 (.bi .eql 53 (.c (.v .u8 (34:Int)))))::o 55 (.pk 52 (cB true) 54)::[]))
 (.cond 55 (sq [oM 2 (cB false)]
  .ret)
  .skip))))
 (.ops [oM 17 3,o 18 (.inc 17 .i64),oM 3 18]))))))
 (sq [oM 2 (cB true)]
 .ret))))⟩
def c158:XFn G:=⟨11,[.t 2],.pure [.p .bool],
 (sq [ob 1 0,oM 2 (cB false)]
 (sq [oL 3 .ty 1,oC 4 133 [3] [.ty] (.p .int),oO 5 .leq 4 (cI 500),oM 6 5,.gd 6 true (some 7) (oL 7 .ty 1),.gd 6 true (some 8) (oC 8 179 [7] [.ty] (.p .int)),.gd 6 true (some 9) (oO 9 .leq 8 (cI 200)),o 10 (.pk 6 9 (cB false)),oM 2 10]
 .ret))⟩
def c159:XFn G:=⟨47,[.t 2],.pure [.p .bool],
 (sq [ob 1 0,oM 2 (cB false)]
 (.seq (.jn ⟨[(32,.p .bool)],[],[1]⟩ (.draw [oF 4 .ty 1 1,oI 5 .str 4,oC 6 157 [5] [.str] (.p .bool),o 7 (.un 6),oM 8 7,.gd 8 false (some 9) (oF 9 .ty 0 1),.gd 8 false (some 10) (oI 10 .bool 9),.gd 8 false (some 11) (oF 11 .ty 1 1),.gd 8 false (some 12) (oI 12 .str 11),.gd 8 false (some 13) (o 13 (.ix 12 (cI 0))),.gd 8 false (some 14) (o 14 (.bi .eql 13 (.c (.v .u8 (39:Int))))),.gd 8 false (some 15) (o 15 (.bib .neq 10 14)),o 16 (.pk 8 (cB true) 15),oM 17 16,.gd 17 false (some 18) (oF 18 .ty 0 1),.gd 17 false (some 19) (oI 19 .bool 18),.gd 17 false (some 20) (oM 20 19),.gd 20 true (some 21) (oF 21 .ty 2 1),.gd 20 true (some 22) (oI 22 .lty 21),.gd 20 true (some 23) (oU 23 22),.gd 20 true (some 24) (oO 24 .gtr 23 (cI 0)),.gd 17 false (some 25) (o 25 (.pk 20 24 (cB false))),o 26 (.pk 17 (cB true) 25),oM 27 26,.gd 27 false (some 28) (oF 28 .ty 2 1),.gd 27 false (some 29) (oI 29 .lty 28),.gd 27 false (some 30) (oU 30 29),.gd 27 false (some 31) (oO 31 .gtr 30 (cI 8)),o 32 (.pk 27 (cB true) 31)])
 (.cond 32 (sq [oM 2 (cB false)]
  .ret)
  .skip))
 (.seq (sq [oM 3 (cI 0)]
 (.block 0 (.loop ⟨[(3,.p .int)],[],[1]⟩ (.seq (sq [oM 33 3,oF 34 .ty 2 1,oL 35 .lty 34,oU 36 35,oO 37 .lss 33 36]
 (.cond 37 .skip
  (.exit 0)))
 (.seq (.block 1 (sq [oF 40 .ty 2 1,oL 41 .lty 40,oM 42 3,oX 43 .ty 41 42,oL 44 .ty 43,oC 45 159 [44] [.ty] (.p .bool),o 46 (.un 45)]
 (.cond 46 (sq [oM 2 (cB false)]
  .ret)
  .skip)))
 (.ops [oM 38 3,o 39 (.inc 38 .i64),oM 3 39]))))))
 (sq [oM 2 (cB true)]
 .ret))))⟩
def c160:XFn G:=⟨30,[.t 2,.t 3],.pure [.p .int,.p .int],
 (sq [ob 1 0,oM 2 (cI 0),oM 3 (cI 0)]
 (sq [oM 2 (cI 1)]
 (.seq (sq [oF 8 .tm 4 1,oL 9 .ltm 8,oU 10 9,oM 11 (cI 0)]
 (.block 0 (.loop ⟨[(2,.p .int),(3,.p .int),(11,.p .int)],[],[9,10]⟩ (sq [oO 12 .lss 11 10]
 (.seq (.cond 12 .skip
  (.exit 0))
 (.seq (.block 1 (sq [oX 13 .tm 9 11,oL 14 .tm 13,oA 5 27 z_tm,oS 0 .tm 5 14]
 (sq [oL 16 .tm 5,oC 17 160 [16] [.tm] (tp [.int,.int]),oM 15 17,oE 18 15 0,oE 19 15 1,oM 6 18,oM 7 19]
 (.ops [oM 20 2,oM 21 6,oO 22 .add 20 21,oM 23 3,oM 24 7,o 25 (.mx 23 24),oM 2 22,oM 3 25]))))
 (.ops [o 26 (.inc 11 .i64),oM 11 26])))))))
 (sq [oM 27 2,oM 28 3,o 29 (.inc 28 .i64),oM 2 27,oM 3 29]
 .ret))))⟩
def c161:XFn G:=⟨45,[.t 8],.pure [.p .bool],
 (sq [ob 4 0,oM 8 (cB false)]
 (.seq (.ops (oM 9 1::oM 10 9::.gd 10 false (some 11) (oF 11 .tm 1 4)::.gd 10 false (some 12) (oL 12 .str 11)::.gd 10 false (some 13) (o 13 (.bi .eql 12 (.c (.v .str (⟨#[]⟩:ByteArray)))))::o 14 (.pk 10 (cB true) 13)::oM 15 14::.gd 15 true (some 16) (oM 16 2)::.gd 15 true (some 17) (oM 17 16)::.gd 17 false (some 18) (oF 18 .tm 2 4)::.gd 17 false (some 19) (oF 19 .ty 0 18)::.gd 17 false (some 20) (oL 20 .bool 19)::.gd 17 false (some 21) (o 21 (.un 20))::.gd 17 false (some 22) (oM 22 21)::.gd 22 true (some 23) (oF 23 .tm 2 4)::.gd 22 true (some 24) (oF 24 .ty 1 23)::.gd 22 true (some 25) (oL 25 .str 24)::.gd 22 true (some 26) (o 26 (.bi .eql 25 (.c (.v .str (⟨#[]⟩:ByteArray)))))::.gd 17 false (some 27) (o 27 (.pk 22 26 (cB false)))::.gd 17 false (some 28) (oM 28 27)::.gd 28 true (some 29) (oF 29 .tm 2 4)::.gd 28 true (some 30) (oF 30 .ty 2 29)::.gd 28 true (some 31) (oL 31 .lty 30)::.gd 28 true (some 32) (oU 32 31)::.gd 28 true (some 33) (oO 33 .eql 32 (cI 0))::.gd 17 false (some 34) (o 34 (.pk 28 33 (cB false)))::.gd 15 true (some 35) (o 35 (.pk 17 (cB true) 34))::o 36 (.pk 15 35 (cB false))::oM 37 36::.gd 37 true (some 38) (oM 38 3)::.gd 37 true (some 39) (oM 39 38)::.gd 39 false (some 40) (oF 40 .tm 3 4)::.gd 39 false (some 41) (oL 41 .int 40)::.gd 39 false (some 42) (oO 42 .eql 41 (cI 0))::.gd 37 true (some 43) (o 43 (.pk 39 (cB true) 42))::o 44 (.pk 37 43 (cB false))::oM 8 44::[]))
 .ret))⟩
def c162:XFn G:=⟨7,[.t 2],.pure [.p .bool],
 (sq [oM 2 (cB false)]
 (sq [oM 3 0,o 4 (.bld .ty zs_ty [(1,3)]),oC 5 115 [4] [.ty] (.p .int),oO 6 .eql 5 (cI 0),oM 2 6]
 .ret))⟩
def c163:XFn G:=⟨6,[.t 2],.pure [.p .bool],
 (sq [oM 2 (cB false)]
 (sq [oM 3 0,oM 4 0,oO 5 .neq 3 4,oM 2 5]
 .ret))⟩
def c165:XFn G:=⟨6,[.t 2],.pure [.p .bool],
 (sq [oM 2 (cB false)]
 (sq [oM 3 0,oM 4 0,oO 5 .neq 3 4,oM 2 5]
 .ret))⟩
def c166:XFn G:=⟨19,[.t 4],.pure [.p .int],
 (sq [oM 4 (cI 0)]
 (.seq (sq [oM 6 0,oU 7 6,oM 8 (cI 0)]
 (.block 0 (.loop ⟨[(8,.p .int)],[],[0,1,7]⟩ (sq [oO 9 .lss 8 7]
 (.seq (.cond 9 .skip
  (.exit 0))
 (.seq (.block 1 (sq [oM 10 8,oM 5 10]
 (sq [oM 11 1,oM 12 0,oM 13 5,oX 14 .tm 12 13,oL 15 .tm 14,.call 0 (some 16) 11 [15] [some .tm] (.p .bool)]
 (.cond 16 (sq [oM 17 5,oM 4 17]
  .ret)
  .skip))))
 (.ops [o 18 (.inc 8 .i64),oM 8 18])))))))
 (sq [o 4 (.mv (.c (.v .int ((-1):Int))))]
 .ret)))⟩
def c167:XFn G:=⟨46,[.t 4],.pure [.p .bool],
 (sq [ob 3 1,oM 4 (cB false)]
 (.seq (sq [oF 8 .ty 0 3,oL 9 .bool 8]
 (.cond 9 (sq [oM 4 (cB true)]
  .ret)
  .skip))
 (sq [oM 10 0,oN 11 10,oF 12 .node 3 11,oF 13 .signature 0 12,oL 14 .ltypeop 13,o 15 (.mkf 182 [] [3]),oC 16 181 [14,15] [.ltypeop] (.p .int),oM 5 16]
 (.seq (.jn ⟨[(33,.p .bool)],[],[0,3]⟩ (.draw [oM 17 5,oO 18 .lss 17 (cI 0),oM 19 18,.gd 19 false (some 20) (oM 20 0),.gd 19 false (some 21) (oN 21 20),.gd 19 false (some 22) (oF 22 .node 3 21),.gd 19 false (some 23) (oF 23 .signature 0 22),.gd 19 false (some 24) (oI 24 .ltypeop 23),.gd 19 false (some 25) (oM 25 5),.gd 19 false (some 26) (oX 26 .typeop 24 25),.gd 19 false (some 27) (oF 27 .typeop 1 26),.gd 19 false (some 28) (oI 28 .int 27),.gd 19 false (some 29) (oF 29 .ty 2 3),.gd 19 false (some 30) (oI 30 .lty 29),.gd 19 false (some 31) (oU 31 30),.gd 19 false (some 32) (oO 32 .neq 28 31),o 33 (.pk 19 (cB true) 32)])
 (.cond 33 (sq [oM 4 (cB false)]
  .ret)
  .skip))
 (.seq (sq [oF 34 .ty 2 3,oL 35 .lty 34,oU 36 35,oM 37 (cI 0)]
 (.block 0 (.loop ⟨[(37,.p .int)],[],[0,35,36]⟩ (sq [oO 38 .lss 37 36]
 (.seq (.cond 38 .skip
  (.exit 0))
 (.seq (.block 1 (sq [oX 39 .ty 35 37,oL 40 .ty 39,oA 7 25 z_ty,oS 0 .ty 7 40]
 (sq [oM 41 0,oL 42 .ty 7,oC 43 167 [41,42] [.pnode,.ty] (.p .bool),o 44 (.un 43)]
 (.cond 44 (sq [oM 4 (cB false)]
  .ret)
  .skip))))
 (.ops [o 45 (.inc 37 .i64),oM 37 45])))))))
 (sq [oM 4 (cB true)]
 .ret))))))⟩
def c168:XFn G:=⟨19,[.t 4],.pure [.p .int],
 (sq [oM 4 (cI 0)]
 (.seq (sq [oM 6 0,oU 7 6,oM 8 (cI 0)]
 (.block 0 (.loop ⟨[(8,.p .int)],[],[0,1,7]⟩ (sq [oO 9 .lss 8 7]
 (.seq (.cond 9 .skip
  (.exit 0))
 (.seq (.block 1 (sq [oM 10 8,oM 5 10]
 (sq [oM 11 1,oM 12 0,oM 13 5,oX 14 .const 12 13,oL 15 .const 14,.call 0 (some 16) 11 [15] [some .const] (.p .bool)]
 (.cond 16 (sq [oM 17 5,oM 4 17]
  .ret)
  .skip))))
 (.ops [o 18 (.inc 8 .i64),oM 8 18])))))))
 (sq [o 4 (.mv (.c (.v .int ((-1):Int))))]
 .ret)))⟩
def c169:XFn G:=⟨9,[.t 3],.pure [.p .bool],
 (sq [ob 2 0,oM 3 (cB false)]
 (sq [oF 4 .const 0 2,oL 5 .str 4,oF 6 .tm 1 1,oL 7 .str 6,oO 8 .eql 5 7,oM 3 8]
 .ret))⟩
def c170:XFn G:=⟨57,[.t 6,.t 7,.t 8],.pure [.p .ltypebind,.p .bool,.p .int],
 (sq [ob 3 0,ob 4 1,o 6 (.mv (.c (.ns .typebind))),oM 7 (cB false),oM 8 (cI 0)]
 (.seq (.jn ⟨[(26,.p .bool)],[],[2,3,4]⟩ (.ops [oL 14 .ty 3,oC 15 115 [14] [.ty] (.p .int),oO 16 .neq 15 (cI 0),oM 17 16,.gd 17 false (some 18) (oL 18 .ty 4),.gd 17 false (some 19) (oC 19 115 [18] [.ty] (.p .int)),.gd 17 false (some 20) (oO 20 .neq 19 (cI 0)),o 21 (.pk 17 (cB true) 20),oM 22 21,.gd 22 false (some 23) (oM 23 2),.gd 22 false (some 24) (oC 24 183 [23] [.ltypebind] (.p .bool)),.gd 22 false (some 25) (o 25 (.un 24)),o 26 (.pk 22 (cB true) 25)])
 (.cond 26 (sq [o 6 (.mv (.c (.ns .typebind))),oM 7 (cB false),oM 8 (cI 10)]
  .ret)
  .skip))
 (sq [oM 27 2,oU 28 27,o 29 (.inc 28 .i64),.a (some 30) (.mkc 198 .typebind 29),oM 9 30]
 (.seq (sq [oM 31 2,oU 32 31,oM 33 (cI 0)]
 (.block 0 (.loop ⟨[(9,.row 0),(33,.p .int)],[.row 198 .ltypebind],[3,4,31,32]⟩ (sq [oO 34 .lss 33 32]
 (.seq (.cond 34 .skip
  (.exit 0))
 (.seq (.block 1 (sq [oX 35 .typebind 31 33,oL 36 .typebind 35,oA 11 198 z_typebind,oS 0 .typebind 11 36]
 (.draw [oM 37 9,oF 38 .typebind 0 11,oL 39 .str 38,oF 40 .typebind 1 11,oL 41 .ty 40,oC 42 84 [41] [.ty] (.p .ty),o 43 (.bld .typebind zs_typebind [(0,39),(1,42)]),o 44 (.bsl .typebind [43]),.a (some 45) (.app 198 .typebind 37 44),oM 9 45])))
 (.ops [o 46 (.inc 33 .i64),oM 33 46])))))))
 (sq [oL 48 .ty 3,oL 49 .ty 4,oM 50 9,.callg 1 (some 51) (.c (.fn 184 [] [])) [48,49,50] [0] hi184v1 as184v1 ho184v1 rs184v1,oM 47 51,oE 52 47 0,oE 53 47 1,oM 12 52,oM 13 53]
 (.seq (sq [oM 54 13,o 55 (.un 54)]
 (.cond 55 (sq [o 6 (.mv (.c (.ns .typebind))),oM 7 (cB false),oM 8 (cI 0)]
  .ret)
  .skip))
 (sq [oM 56 12,oM 6 56,oM 7 (cB true),oM 8 (cI 0)]
 .ret)))))))⟩
def c171:XFn G:=⟨10,[.t 2],.pure [.p .bool],
 (sq [oM 2 (cB false)]
 (sq [oM 3 0,oC 4 172 [3] [.str] (.p .bool),oM 5 4,.gd 5 true (some 6) (oM 6 0),.gd 5 true (some 7) (o 7 (.ix 6 (cI 0))),.gd 5 true (some 8) (o 8 (.bi .eql 7 (.c (.v .u8 (39:Int))))),o 9 (.pk 5 8 (cB false)),oM 2 9]
 .ret))⟩
def c172:XFn G:=⟨36,[.t 2],.pure [.p .bool],
 (sq [oM 2 (cB false)]
 (.seq (sq [oM 5 0,o 6 (.lens 5),oM 7 (cI 0)]
 (.block 0 (.loop ⟨[(7,.p .int)],[],[0,6]⟩ (sq [oO 8 .lss 7 6]
 (.seq (.cond 8 .skip
  (.exit 0))
 (.seq (.block 1 (sq [oM 9 7,oM 3 9]
 (sq [oM 10 0,oM 11 3,o 12 (.ix 10 11),oM 4 12]
 (sq [oM 13 4]
 (.block 2 (.jn ⟨[(20,.p .bool)],[],[0,4,6,7]⟩ (sq [o 21 (.bi .eql 13 (.c (.v .u8 (40:Int)))),oM 20 21]
 (.cond 20 .skip
  (sq [o 22 (.bi .eql 13 (.c (.v .u8 (41:Int)))),oM 20 22]
  (.cond 20 .skip
   (sq [o 23 (.bi .eql 13 (.c (.v .u8 (44:Int)))),oM 20 23]
   (.cond 20 .skip
    (sq [o 24 (.bi .eql 13 (.c (.v .u8 (58:Int)))),oM 20 24]
    (.cond 20 .skip
     (sq [o 25 (.bi .eql 13 (.c (.v .u8 (92:Int)))),oM 20 25]
     (.cond 20 .skip
      (sq [o 26 (.bi .eql 13 (.c (.v .u8 (46:Int)))),oM 20 26]
      (.cond 20 .skip
       (.ops [o 27 (.bi .eql 13 (.c (.v .u8 (34:Int)))),oM 20 27])))))))))))))
 (.cond 20 (sq [oM 2 (cB false)]
  .ret)
  (.jn ⟨[(19,.p .bool)],[],[0,6,7]⟩ (.ops [oM 14 4,o 15 (.bi .lss 14 (.c (.v .u8 (33:Int)))),oM 16 15,.gd 16 false (some 17) (oM 17 4),.gd 16 false (some 18) (o 18 (.bi .gtr 17 (.c (.v .u8 (126:Int))))),o 19 (.pk 16 (cB true) 18)])
  (.cond 19 (sq [oM 2 (cB false)]
   .ret)
   .skip)))))))))
 (.ops [o 28 (.inc 7 .i64),oM 7 28])))))))
 (sq [oM 29 0,o 30 (.bi .neq 29 (.c (.v .str (⟨#[]⟩:ByteArray)))),oM 31 30,.gd 31 true (some 32) (oM 32 0),.gd 31 true (some 33) (o 33 (.lens 32)),.gd 31 true (some 34) (oO 34 .leq 33 (cI 30)),o 35 (.pk 31 34 (cB false)),oM 2 35]
 .ret)))⟩
def c173:XFn G:=⟨28,[.t 4,.t 5],.pure [.p .int,.p .bool],
 (sq [ob 2 0,oM 4 (cI 0),oM 5 (cB false)]
 (.seq (sq [oM 6 (cI 0)]
 (.block 0 (.loop ⟨[(6,.p .int)],[],[1,2]⟩ (.seq (sq [oM 7 6,oF 8 .signature 0 2,oL 9 .ltypeop 8,oU 10 9,oO 11 .lss 7 10]
 (.cond 11 .skip
  (.exit 0)))
 (.seq (.block 1 (sq [oF 14 .signature 0 2,oL 15 .ltypeop 14,oM 16 6,oX 17 .typeop 15 16,oF 18 .typeop 0 17,oL 19 .str 18,oM 20 1,oO 21 .eql 19 20]
 (.cond 21 (sq [oF 22 .signature 0 2,oL 23 .ltypeop 22,oM 24 6,oX 25 .typeop 23 24,oF 26 .typeop 1 25,oL 27 .int 26,oM 4 27,oM 5 (cB true)]
  .ret)
  .skip)))
 (.ops [oM 12 6,o 13 (.inc 12 .i64),oM 6 13]))))))
 (sq [oM 4 (cI 0),oM 5 (cB false)]
 .ret)))⟩
def c174:XFn G:=⟨27,[.c 4 .ty,.t 5],.pure [.p .ty,.p .bool],
 (sq [oA 4 25 z_ty,oM 5 (cB false)]
 (.seq (sq [oM 6 (cI 0)]
 (.block 0 (.loop ⟨[(4,.ptr 0 0 []),(6,.p .int)],[.box 25 (.p .ty)],[0,1]⟩ (.seq (sq [oM 7 6,oM 8 0,oU 9 8,oO 10 .lss 7 9]
 (.cond 10 .skip
  (.exit 0)))
 (.seq (.block 1 (sq [oM 13 0,oM 14 6,oX 15 .typebind 13 14,oF 16 .typebind 0 15,oL 17 .str 16,oM 18 1,oO 19 .eql 17 18]
 (.cond 19 (sq [oM 20 0,oM 21 6,oX 22 .typebind 20 21,oF 23 .typebind 1 22,oL 24 .ty 23,oS 0 .ty 4 24,oM 5 (cB true)]
  .ret)
  .skip)))
 (.ops [oM 11 6,o 12 (.inc 11 .i64),oM 6 12]))))))
 (sq [oM 25 1,o 26 (.bld .ty zs_ty [(0,(cB true)),(1,25)]),oS 0 .ty 4 26,oM 5 (cB false)]
 .ret)))⟩
def c175:XFn G:=⟨32,[.t 6],.pure [.p .bool],
 (sq [oM 6 (cB false)]
 (.seq (sq [oM 10 0,oU 11 10,oM 12 1,oU 13 12,oO 14 .neq 11 13]
 (.cond 14 (sq [oM 6 (cB false)]
  .ret)
  .skip))
 (.seq (sq [oM 15 0,oU 16 15,oM 17 (cI 0)]
 (.block 0 (.loop ⟨[(17,.p .int)],[],[1,2,15,16]⟩ (sq [oO 18 .lss 17 16]
 (.seq (.cond 18 .skip
  (.exit 0))
 (.seq (.block 1 (sq [oM 19 17,oX 20 .sequent 15 17,oL 21 .sequent 20,oA 8 29 z_sequent,oM 7 19,oS 0 .sequent 8 21]
 (sq [oM 22 1,oM 23 7,oX 24 .sequent 22 23,oL 25 .sequent 24,oA 9 29 z_sequent,oS 0 .sequent 9 25]
 (sq [oM 26 2,oL 27 .sequent 8,oL 28 .sequent 9,.call 0 (some 29) 26 [27,28] [some .sequent,some .sequent] (.p .bool),o 30 (.un 29)]
 (.cond 30 (sq [oM 6 (cB false)]
  .ret)
  .skip)))))
 (.ops [o 31 (.inc 17 .i64),oM 17 31])))))))
 (sq [oM 6 (cB true)]
 .ret))))⟩
def c176:XFn G:=⟨17,[.t 4],.pure [.p .bool],
 (sq [ob 2 0,ob 3 1,oM 4 (cB false)]
 (sq [oF 5 .sequent 1 2,oL 6 .tm 5,oF 7 .sequent 1 3,oL 8 .tm 7,oC 9 63 [6,8] [.tm,.tm] (.p .bool),oM 10 9,.gd 10 true (some 11) (oF 11 .sequent 0 2),.gd 10 true (some 12) (oL 12 .ltm 11),.gd 10 true (some 13) (oF 13 .sequent 0 3),.gd 10 true (some 14) (oL 14 .ltm 13),.gd 10 true (some 15) (.call 0 (some 15) (.c (.fn 185 [] [])) [12,14,(.c (.fn 63 [] []))] [some .ltm,some .ltm] (.p .bool)),o 16 (.pk 10 15 (cB false)),oM 4 16]
 .ret))⟩
def c177v10:XFn G:=⟨53,[],.own 1 ho177v10 [],
 (sq [oM 10 1,o 11 (.inc 10 .i64),oM 8 11]
 (.block 0 (.loop ⟨[(0,.row 0),(8,.p .int)],[.row 27 .ltm,.pin 0],[1,2,3]⟩ (.seq (sq [oM 12 8,oM 13 2,oO 14 .lss 12 13]
 (.cond 14 .skip
  (.exit 0)))
 (.seq (.block 1 (sq [oM 17 8,oM 9 17]
 (.block 2 (.loop ⟨[(0,.row 0),(9,.p .int)],[.row 27 .ltm,.pin 0],[1,2,3,8]⟩ (.seq (.jn ⟨[(0,.row 0),(34,.p .bool)],[.row 27 .ltm,.pin 0],[1,2,3,8,9]⟩ (.draw [oM 18 9,oM 19 1,oO 20 .gtr 18 19,oM 21 20,.gd 21 true (some 22) (oM 22 3),.gd 21 true (some 23) (oM 23 0),.gd 21 true (some 24) (oM 24 9),.gd 21 true (some 25) (oX 25 .tm 23 24),.gd 21 true (some 26) (oL 26 .tm 25),.gd 21 true (some 27) (oM 27 0),.gd 21 true (some 28) (oM 28 9),.gd 21 true (some 29) (o 29 (.dcr 28 .i64)),.gd 21 true (some 30) (oX 30 .tm 27 29),.gd 21 true (some 31) (oL 31 .tm 30),.gd 21 true (some 32) (.call 0 (some 32) 22 [26,31] [some .tm,some .tm] (.p .int)),.gd 21 true (some 33) (oO 33 .lss 32 (cI 0)),o 34 (.pk 21 33 (cB false))])
 (.cond 34 .skip
  (.exit 2)))
 (.seq (.block 3 (.draw [oM 37 0,oM 38 9,oM 39 0,oM 40 9,o 41 (.dcr 40 .i64),oM 42 0,oM 43 9,o 44 (.dcr 43 .i64),oX 45 .tm 42 44,oL 46 .tm 45,oM 47 0,oM 48 9,oX 49 .tm 47 48,oL 50 .tm 49,oX 51 .tm 37 38,oS 2 .tm 51 46,oX 52 .tm 39 41,oS 2 .tm 52 50]))
 (.ops [oM 35 9,o 36 (.dcr 35 .i64),oM 9 36])))))))
 (.ops [oM 15 8,o 16 (.inc 15 .i64),oM 8 16]))))))⟩
def c178v10:XFn G:=⟨220,[],.own 1 ho178v10 [],
 (.seq (sq [oM 25 2,oM 26 1,oO 27 .sub 25 26,oO 28 .eql 27 (cI 1)]
 (.cond 28 (sq [oM 29 2,oM 10 29]
  (sq [oM 30 3,oM 11 30]
  (.seq (.block 0 (.loop ⟨[(0,.row 0),(10,.p .int),(11,.p .int)],[.row 27 .ltm,.pin 0],[1,4]⟩ (.seq (sq [oM 31 10,oM 32 11,oO 33 .lss 31 32]
  (.cond 33 .skip
   (.exit 0)))
  (.block 1 (sq [oM 34 10,oM 35 11,oO 36 .add 34 35,o 37 (.cvi .u64 .u64 36),o 38 (.shr 37),o 39 (.cvi .int .i64 38),oM 12 39]
  (.seq (.draw [oM 40 4,oM 41 0,oM 42 12,oX 43 .tm 41 42,oL 44 .tm 43,oM 45 0,oM 46 1,oX 47 .tm 45 46,oL 48 .tm 47,.call 0 (some 49) 40 [44,48] [some .tm,some .tm] (.p .int),oO 50 .lss 49 (cI 0)])
  (.cond 50 (.ops [oM 51 12,o 52 (.inc 51 .i64),oM 10 52])
   (.ops [oM 53 12,oM 11 53]))))))))
  (.seq (sq [oM 54 1,oM 13 54]
  (.block 2 (.loop ⟨[(0,.row 0),(13,.p .int)],[.row 27 .ltm,.pin 0],[10]⟩ (.seq (sq [oM 55 13,oM 56 10,o 57 (.dcr 56 .i64),oO 58 .lss 55 57]
  (.cond 58 .skip
   (.exit 2)))
  (.seq (.block 3 (.draw [oM 61 0,oM 62 13,oM 63 0,oM 64 13,o 65 (.inc 64 .i64),oM 66 0,oM 67 13,o 68 (.inc 67 .i64),oX 69 .tm 66 68,oL 70 .tm 69,oM 71 0,oM 72 13,oX 73 .tm 71 72,oL 74 .tm 73,oX 75 .tm 61 62,oS 2 .tm 75 70,oX 76 .tm 63 65,oS 2 .tm 76 74]))
  (.ops [oM 59 13,o 60 (.inc 59 .i64),oM 13 60]))))))
  .ret))))
  .skip))
 (.seq (sq [oM 77 3,oM 78 2,oO 79 .sub 77 78,oO 80 .eql 79 (cI 1)]
 (.cond 80 (sq [oM 81 1,oM 14 81]
  (sq [oM 82 2,oM 15 82]
  (.seq (.block 4 (.loop ⟨[(0,.row 0),(14,.p .int),(15,.p .int)],[.row 27 .ltm,.pin 0],[2,4]⟩ (.seq (sq [oM 83 14,oM 84 15,oO 85 .lss 83 84]
  (.cond 85 .skip
   (.exit 4)))
  (.block 5 (sq [oM 86 14,oM 87 15,oO 88 .add 86 87,o 89 (.cvi .u64 .u64 88),o 90 (.shr 89),o 91 (.cvi .int .i64 90),oM 16 91]
  (.seq (.draw [oM 92 4,oM 93 0,oM 94 2,oX 95 .tm 93 94,oL 96 .tm 95,oM 97 0,oM 98 16,oX 99 .tm 97 98,oL 100 .tm 99,.call 0 (some 101) 92 [96,100] [some .tm,some .tm] (.p .int),oO 102 .lss 101 (cI 0),o 103 (.un 102)])
  (.cond 103 (.ops [oM 104 16,o 105 (.inc 104 .i64),oM 14 105])
   (.ops [oM 106 16,oM 15 106]))))))))
  (.seq (sq [oM 107 2,oM 17 107]
  (.block 6 (.loop ⟨[(0,.row 0),(17,.p .int)],[.row 27 .ltm,.pin 0],[14]⟩ (.seq (sq [oM 108 17,oM 109 14,oO 110 .gtr 108 109]
  (.cond 110 .skip
   (.exit 6)))
  (.seq (.block 7 (.draw [oM 113 0,oM 114 17,oM 115 0,oM 116 17,o 117 (.dcr 116 .i64),oM 118 0,oM 119 17,o 120 (.dcr 119 .i64),oX 121 .tm 118 120,oL 122 .tm 121,oM 123 0,oM 124 17,oX 125 .tm 123 124,oL 126 .tm 125,oX 127 .tm 113 114,oS 2 .tm 127 122,oX 128 .tm 115 117,oS 2 .tm 128 126]))
  (.ops [oM 111 17,o 112 (.dcr 111 .i64),oM 17 112]))))))
  .ret))))
  .skip))
 (sq [oM 129 1,oM 130 3,oO 131 .add 129 130,o 132 (.cvi .u64 .u64 131),o 133 (.shr 132),o 134 (.cvi .int .i64 133),oM 18 134]
 (sq [oM 135 18,oM 136 2,oO 137 .add 135 136,oM 19 137]
 (sq [oM 20 (cI 0),oM 21 (cI 0)]
 (.jn ⟨[(0,.row 0),(20,.p .int),(21,.p .int)],[.row 27 .ltm,.pin 0],[1,2,3,4,18,19]⟩ (sq [oM 138 2,oM 139 18,oO 140 .gtr 138 139]
 (.cond 140 (sq [oM 141 19,oM 142 3,oO 143 .sub 141 142,oM 20 143]
  (.ops [oM 144 18,oM 21 144]))
  (sq [oM 145 1,oM 20 145]
  (.ops [oM 146 2,oM 21 146]))))
 (sq [oM 147 19,o 148 (.dcr 147 .i64),oM 22 148]
 (.seq (.block 8 (.loop ⟨[(0,.row 0),(20,.p .int),(21,.p .int)],[.row 27 .ltm,.pin 0],[1,2,3,4,18,19,22]⟩ (.seq (sq [oM 149 20,oM 150 21,oO 151 .lss 149 150]
 (.cond 151 .skip
  (.exit 8)))
 (.block 9 (sq [oM 152 20,oM 153 21,oO 154 .add 152 153,o 155 (.cvi .u64 .u64 154),o 156 (.shr 155),o 157 (.cvi .int .i64 156),oM 23 157]
 (.seq (.draw [oM 158 4,oM 159 0,oM 160 22,oM 161 23,oO 162 .sub 160 161,oX 163 .tm 159 162,oL 164 .tm 163,oM 165 0,oM 166 23,oX 167 .tm 165 166,oL 168 .tm 167,.call 0 (some 169) 158 [164,168] [some .tm,some .tm] (.p .int),oO 170 .lss 169 (cI 0),o 171 (.un 170)])
 (.cond 171 (.ops [oM 172 23,o 173 (.inc 172 .i64),oM 20 173])
  (.ops [oM 174 23,oM 21 174]))))))))
 (sq [oM 175 19,oM 176 20,oO 177 .sub 175 176,oM 24 177]
 (.jn ⟨[(0,.row 0)],[.row 27 .ltm,.pin 0],[1,3,4,18,20,24]⟩ (.jn ⟨[(0,.row 0),(185,.p .bool)],[.row 27 .ltm,.pin 0],[1,2,3,4,18,20,24]⟩ (.ops [oM 178 20,oM 179 2,oO 180 .lss 178 179,oM 181 180,.gd 181 true (some 182) (oM 182 2),.gd 181 true (some 183) (oM 183 24),.gd 181 true (some 184) (oO 184 .lss 182 183),o 185 (.pk 181 184 (cB false))])
 (.cond 185 (.ops [oM 186 0,oM 187 20,oM 188 2,oM 189 24,oM 190 4,.callg 10 (some 191) (.c (.fn 186 [] [])) [186,187,188,189,190] [0] hi186v10 as186v10 ho186v10 rs186v10])
  .skip))
 (.jn ⟨[(0,.row 0)],[.row 27 .ltm,.pin 0],[3,4,18,24]⟩ (.jn ⟨[(0,.row 0),(199,.p .bool)],[.row 27 .ltm,.pin 0],[1,3,4,18,20,24]⟩ (.ops [oM 192 1,oM 193 20,oO 194 .lss 192 193,oM 195 194,.gd 195 true (some 196) (oM 196 20),.gd 195 true (some 197) (oM 197 18),.gd 195 true (some 198) (oO 198 .lss 196 197),o 199 (.pk 195 198 (cB false))])
 (.cond 199 (.ops [oM 200 0,oM 201 1,oM 202 20,oM 203 18,oM 204 4,.callg 10 (some 205) (.c (.fn 178 [] [])) [200,201,202,203,204] [0] hi178v10 as178v10 ho178v10 rs178v10])
  .skip))
 (.jn ⟨[(0,.row 0),(213,.p .bool)],[.row 27 .ltm,.pin 0],[3,4,18,24]⟩ (.ops [oM 206 18,oM 207 24,oO 208 .lss 206 207,oM 209 208,.gd 209 true (some 210) (oM 210 24),.gd 209 true (some 211) (oM 211 3),.gd 209 true (some 212) (oO 212 .lss 210 211),o 213 (.pk 209 212 (cB false))])
 (.cond 213 (.ops [oM 214 0,oM 215 18,oM 216 24,oM 217 3,oM 218 4,.callg 10 (some 219) (.c (.fn 178 [] [])) [214,215,216,217,218] [0] hi178v10 as178v10 ho178v10 rs178v10])
  .skip)))))))))))))⟩
def c179:XFn G:=⟨22,[.t 2],.pure [.p .int],
 (sq [ob 1 0,oM 2 (cI 0)]
 (sq [oM 3 (cI 0)]
 (.seq (sq [oM 4 (cI 0)]
 (.block 0 (.loop ⟨[(3,.p .int),(4,.p .int)],[],[1]⟩ (.seq (sq [oM 5 4,oF 6 .ty 2 1,oL 7 .lty 6,oU 8 7,oO 9 .lss 5 8]
 (.cond 9 .skip
  (.exit 0)))
 (.seq (.block 1 (.ops [oM 12 3,oF 13 .ty 2 1,oL 14 .lty 13,oM 15 4,oX 16 .ty 14 15,oL 17 .ty 16,oC 18 179 [17] [.ty] (.p .int),o 19 (.mx 12 18),oM 3 19]))
 (.ops [oM 10 4,o 11 (.inc 10 .i64),oM 4 11]))))))
 (sq [oM 20 3,oO 21 .add (cI 1) 20,oM 2 21]
 .ret))))⟩
def c181:XFn G:=⟨19,[.t 4],.pure [.p .int],
 (sq [oM 4 (cI 0)]
 (.seq (sq [oM 6 0,oU 7 6,oM 8 (cI 0)]
 (.block 0 (.loop ⟨[(8,.p .int)],[],[0,1,7]⟩ (sq [oO 9 .lss 8 7]
 (.seq (.cond 9 .skip
  (.exit 0))
 (.seq (.block 1 (sq [oM 10 8,oM 5 10]
 (sq [oM 11 1,oM 12 0,oM 13 5,oX 14 .typeop 12 13,oL 15 .typeop 14,.call 0 (some 16) 11 [15] [some .typeop] (.p .bool)]
 (.cond 16 (sq [oM 17 5,oM 4 17]
  .ret)
  .skip))))
 (.ops [o 18 (.inc 8 .i64),oM 8 18])))))))
 (sq [o 4 (.mv (.c (.v .int ((-1):Int))))]
 .ret)))⟩
def c182:XFn G:=⟨9,[.t 3],.pure [.p .bool],
 (sq [ob 2 0,oM 3 (cB false)]
 (sq [oF 4 .typeop 0 2,oL 5 .str 4,oF 6 .ty 1 1,oL 7 .str 6,oO 8 .eql 5 7,oM 3 8]
 .ret))⟩
def c183:XFn G:=⟨6,[.t 2],.pure [.p .bool],
 (sq [oM 2 (cB false)]
 (sq [oM 3 0,.call 0 (some 4) (.c (.fn 187 [] [])) [3,(.c (.fn 188 [] []))] [some .ltypebind] (.p .bool),o 5 (.un 4),oM 2 5]
 .ret))⟩
def c184v1:XFn G:=⟨77,[.t 6,.t 7],.own 1 ho184v1 [.row 0,.p .bool],
 (sq [ob 3 0,ob 4 1,o 6 (.mv (.c (.ns .typebind))),oM 7 (cB false)]
 (.seq (sq [oF 12 .ty 0 3,oL 13 .bool 12]
 (.cond 13 (.seq (sq [oM 15 2,oF 16 .ty 1 3,oL 17 .str 16,.callg 10 (some 18) (.c (.fn 189 [] [])) [15,17] [0] hi189v10 as189v10 ho189v10 rs189v10,oM 14 18,oE 19 14 0,oE 20 14 1,oA 8 25 z_ty,oS 0 .ty 8 19,oM 9 20]
  (sq [oM 21 9]
  (.cond 21 (sq [oM 22 2,oL 23 .ty 8,oL 24 .ty 4,oC 25 90 [23,24] [.ty,.ty] (.p .bool),oM 6 22,oM 7 25]
   .ret)
   .skip)))
  (.seq (.draw [oM 26 2,oF 27 .ty 1 3,oI 28 .str 27,oI 29 .ty 4,oC 30 84 [29] [.ty] (.p .ty),o 31 (.bld .typebind zs_typebind [(0,28),(1,30)]),o 32 (.bsl .typebind [31]),.a (some 33) (.app 198 .typebind 26 32),oM 6 33,oM 7 (cB true)])
  .ret))
  .skip))
 (.seq (.jn ⟨[(2,.row 0),(51,.p .bool)],[.row 198 .ltypebind],[3,4]⟩ (.ops [oF 34 .ty 0 4,oL 35 .bool 34,oM 36 35,.gd 36 false (some 37) (oF 37 .ty 1 4),.gd 36 false (some 38) (oL 38 .str 37),.gd 36 false (some 39) (oF 39 .ty 1 3),.gd 36 false (some 40) (oL 40 .str 39),.gd 36 false (some 41) (oO 41 .neq 38 40),o 42 (.pk 36 (cB true) 41),oM 43 42,.gd 43 false (some 44) (oF 44 .ty 2 4),.gd 43 false (some 45) (oL 45 .lty 44),.gd 43 false (some 46) (oU 46 45),.gd 43 false (some 47) (oF 47 .ty 2 3),.gd 43 false (some 48) (oL 48 .lty 47),.gd 43 false (some 49) (oU 49 48),.gd 43 false (some 50) (oO 50 .neq 46 49),o 51 (.pk 43 (cB true) 50)])
 (.cond 51 (sq [o 6 (.mv (.c (.ns .typebind))),oM 7 (cB false)]
  (.ps [.nl 6 0] .ret))
  .skip))
 (sq [oM 10 (cB true)]
 (.seq (sq [oF 52 .ty 2 4,oL 53 .lty 52,oU 54 53,oM 55 (cI 0)]
 (.block 0 (.loop ⟨[(2,.row 0),(55,.p .int)],[.row 198 .ltypebind],[3,4,54]⟩ (sq [oO 56 .lss 55 54]
 (.seq (.cond 56 .skip
  (.exit 0))
 (.seq (.block 1 (sq [oM 57 55,oM 11 57]
 (.seq (.draw [oF 59 .ty 2 3,oI 60 .lty 59,oM 61 11,oX 62 .ty 60 61,oI 63 .ty 62,oF 64 .ty 2 4,oI 65 .lty 64,oM 66 11,oX 67 .ty 65 66,oI 68 .ty 67,oM 69 2,.callg 1 (some 70) (.c (.fn 184 [] [])) [63,68,69] [0] hi184v1 as184v1 ho184v1 rs184v1,oM 58 70,oE 71 58 0,oE 72 58 1,oM 2 71,oM 10 72])
 (sq [oM 73 10,o 74 (.un 73)]
 (.cond 74 (sq [o 6 (.mv (.c (.ns .typebind))),oM 7 (cB false)]
  (.ps [.nl 6 0] .ret))
  .skip)))))
 (.ops [o 75 (.inc 55 .i64),oM 55 75])))))))
 (sq [oM 76 2,oM 6 76,oM 7 (cB true)]
 .ret))))))⟩
def c185:XFn G:=⟨32,[.t 6],.pure [.p .bool],
 (sq [oM 6 (cB false)]
 (.seq (sq [oM 10 0,oU 11 10,oM 12 1,oU 13 12,oO 14 .neq 11 13]
 (.cond 14 (sq [oM 6 (cB false)]
  .ret)
  .skip))
 (.seq (sq [oM 15 0,oU 16 15,oM 17 (cI 0)]
 (.block 0 (.loop ⟨[(17,.p .int)],[],[1,2,15,16]⟩ (sq [oO 18 .lss 17 16]
 (.seq (.cond 18 .skip
  (.exit 0))
 (.seq (.block 1 (sq [oM 19 17,oX 20 .tm 15 17,oL 21 .tm 20,oA 8 27 z_tm,oM 7 19,oS 0 .tm 8 21]
 (sq [oM 22 1,oM 23 7,oX 24 .tm 22 23,oL 25 .tm 24,oA 9 27 z_tm,oS 0 .tm 9 25]
 (sq [oM 26 2,oL 27 .tm 8,oL 28 .tm 9,.call 0 (some 29) 26 [27,28] [some .tm,some .tm] (.p .bool),o 30 (.un 29)]
 (.cond 30 (sq [oM 6 (cB false)]
  .ret)
  .skip)))))
 (.ops [o 31 (.inc 17 .i64),oM 17 31])))))))
 (sq [oM 6 (cB true)]
 .ret))))⟩
def c186v10:XFn G:=⟨58,[],.own 1 ho186v10 [],
 (sq [oM 12 2,oM 13 1,oO 14 .sub 12 13,oM 10 14]
 (sq [oM 15 3,oM 16 2,oO 17 .sub 15 16,oM 11 17]
 (.seq (.block 0 (.loop ⟨[(0,.row 0),(10,.p .int),(11,.p .int)],[.row 27 .ltm,.pin 0],[2,4]⟩ (.seq (sq [oM 18 10,oM 19 11,oO 20 .neq 18 19]
 (.cond 20 .skip
  (.exit 0)))
 (.block 1 (sq [oM 21 10,oM 22 11,oO 23 .gtr 21 22]
 (.cond 23 (sq [oM 24 0,oM 25 2,oM 26 10,oO 27 .sub 25 26,oM 28 2,oM 29 11,oM 30 4,.callg 10 (some 31) (.c (.fn 190 [] [])) [24,27,28,29,30] [0] hi190v10 as190v10 ho190v10 rs190v10]
  (.ops [oM 32 10,oM 33 11,oO 34 .sub 32 33,oM 10 34]))
  (sq [oM 35 0,oM 36 2,oM 37 10,oO 38 .sub 36 37,oM 39 2,oM 40 11,oO 41 .add 39 40,oM 42 10,oO 43 .sub 41 42,oM 44 10,oM 45 4,.callg 10 (some 46) (.c (.fn 190 [] [])) [35,38,43,44,45] [0] hi190v10 as190v10 ho190v10 rs190v10]
  (.ops [oM 47 11,oM 48 10,oO 49 .sub 47 48,oM 11 49]))))))))
 (.ops [oM 50 0,oM 51 2,oM 52 10,oO 53 .sub 51 52,oM 54 2,oM 55 10,oM 56 4,.callg 10 (some 57) (.c (.fn 190 [] [])) [50,53,54,55,56] [0] hi190v10 as190v10 ho190v10 rs190v10]))))⟩
def c187:XFn G:=⟨9,[.t 4],.pure [.p .bool],
 (sq [oM 4 (cB false)]
 (sq [oM 5 0,oM 6 1,oC 7 191 [5,6] [.ltypebind] (.p .int),oO 8 .geq 7 (cI 0),oM 4 8]
 .ret))⟩
def c188:XFn G:=⟨13,[.t 2],.pure [.p .bool],
 (sq [ob 1 0,oM 2 (cB false)]
 (sq [oF 3 .typebind 0 1,oL 4 .str 3,oC 5 171 [4] [.str] (.p .bool),o 6 (.un 5),oM 7 6,.gd 7 false (some 8) (oF 8 .typebind 1 1),.gd 7 false (some 9) (oL 9 .ty 8),.gd 7 false (some 10) (oC 10 115 [9] [.ty] (.p .int)),.gd 7 false (some 11) (oO 11 .neq 10 (cI 0)),o 12 (.pk 7 (cB true) 11),oM 2 12]
 .ret))⟩
def c189v10:XFn G:=⟨18,[.c 4 .ty,.t 5],.own 1 ho189v10 [.p .ty,.p .bool],
 (sq [ob 3 1,oA 4 25 z_ty,oM 5 (cB false)]
 (sq [oM 7 0,o 8 (.mkf 192 [] [3]),.call 1 (some 9) (.c (.fn 191 [] [])) [7,8] [some .ltypebind] (.p .int),oM 6 9]
 (.seq (sq [oM 10 6,oO 11 .lss 10 (cI 0)]
 (.cond 11 (sq [o 12 (.bld .ty zs_ty []),oS 0 .ty 4 12,oM 5 (cB false)]
  .ret)
  .skip))
 (sq [oM 13 0,oM 14 6,oX 15 .typebind 13 14,oF 16 .typebind 1 15,oL 17 .ty 16,oS 0 .ty 4 17,oM 5 (cB true)]
 .ret))))⟩
def c190v10:XFn G:=⟨38,[],.own 1 ho190v10 [],
 (sq [oM 10 (cI 0)]
 (.block 0 (.loop ⟨[(0,.row 0),(10,.p .int)],[.row 27 .ltm,.pin 0],[1,2,3]⟩ (.seq (sq [oM 11 10,oM 12 3,oO 13 .lss 11 12]
 (.cond 13 .skip
  (.exit 0)))
 (.seq (.block 1 (.draw [oM 16 0,oM 17 1,oM 18 10,oO 19 .add 17 18,oM 20 0,oM 21 2,oM 22 10,oO 23 .add 21 22,oM 24 0,oM 25 2,oM 26 10,oO 27 .add 25 26,oX 28 .tm 24 27,oL 29 .tm 28,oM 30 0,oM 31 1,oM 32 10,oO 33 .add 31 32,oX 34 .tm 30 33,oL 35 .tm 34,oX 36 .tm 16 19,oS 2 .tm 36 29,oX 37 .tm 20 23,oS 2 .tm 37 35]))
 (.ops [oM 14 10,o 15 (.inc 14 .i64),oM 10 15]))))))⟩
def c191:XFn G:=⟨19,[.t 4],.pure [.p .int],
 (sq [oM 4 (cI 0)]
 (.seq (sq [oM 6 0,oU 7 6,oM 8 (cI 0)]
 (.block 0 (.loop ⟨[(8,.p .int)],[],[0,1,7]⟩ (sq [oO 9 .lss 8 7]
 (.seq (.cond 9 .skip
  (.exit 0))
 (.seq (.block 1 (sq [oM 10 8,oM 5 10]
 (sq [oM 11 1,oM 12 0,oM 13 5,oX 14 .typebind 12 13,oL 15 .typebind 14,.call 0 (some 16) 11 [15] [some .typebind] (.p .bool)]
 (.cond 16 (sq [oM 17 5,oM 4 17]
  .ret)
  .skip))))
 (.ops [o 18 (.inc 8 .i64),oM 8 18])))))))
 (sq [o 4 (.mv (.c (.v .int ((-1):Int))))]
 .ret)))⟩
def c192:XFn G:=⟨8,[.t 3],.pure [.p .bool],
 (sq [ob 2 0,oM 3 (cB false)]
 (sq [oF 4 .typebind 0 2,oL 5 .str 4,oL 6 .str 1,oO 7 .eql 5 6,oM 3 7]
 .ret))⟩
end Go.Ab.X
