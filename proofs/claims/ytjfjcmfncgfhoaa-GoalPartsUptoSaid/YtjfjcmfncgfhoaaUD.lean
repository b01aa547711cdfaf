/- A part of the proof: UD. -/
import Derived.Test.YtjfjcmfncgfhoaaUC
import Derived.Test.YtjfjcmfncgfhoaaUP
set_option linter.all false
set_option linter.all false
set_option maxRecDepth 100000
set_option maxHeartbeats 4000000
namespace Go.Ab.X
open Go.RowKit Go.Ab
def hi24v1 : List (HSh G) := []
def as24v1 : List (Sh G) := [.p .sequent, .p .tm]
def ho24v1 : List (HSh G) := [.row 27 .ltm]
def rs24v1 : Sh G := .ag .sequent [.row 0, .p .tm]
def hi31v1 : List (HSh G) := []
def as31v1 : List (Sh G) := [.p .sequent]
def ho31v1 : List (HSh G) := [.row 27 .ltm]
def rs31v1 : Sh G := .ag .sequent [.row 0, .p .tm]
def hi63v1 : List (HSh G) := [.row 27 .ltm]
def as63v1 : List (Sh G) := [.row 0, .p .int, .p .ltm]
def ho63v1 : List (HSh G) := [.row 27 .ltm]
def rs63v1 : Sh G := .row 0
def hi64v1 : List (HSh G) := [.row 27 .ltm]
def as64v1 : List (Sh G) := [.row 0, .p .int, .p .int]
def ho64v1 : List (HSh G) := [.row 27 .ltm]
def rs64v1 : Sh G := .row 0
def hi67v1 : List (HSh G) := []
def as67v1 : List (Sh G) := [.p .ltm]
def ho67v1 : List (HSh G) := [.row 27 .ltm]
def rs67v1 : Sh G := .row 0
def hi117v1 : List (HSh G) := [.box 114 (.ag .walker [.row 1, .row 2]), .row 27 .ltm, .row 9 .lstr]
def as117v1 : List (Sh G) := [.ptr 0 0 [], .p .tm]
def ho117v1 : List (HSh G) := [.box 114 (.ag .walker [.row 1, .row 2]), .row 27 .ltm, .row 9 .lstr]
def rs117v1 : Sh G := .tup []
def hi118v1 : List (HSh G) := [.box 114 (.ag .walker [.row 1, .row 2]), .row 27 .ltm, .row 9 .lstr]
def as118v1 : List (Sh G) := [.p .tm, .fn 117 [.ptr 0 0 []] []]
def ho118v1 : List (HSh G) := [.box 114 (.ag .walker [.row 1, .row 2]), .row 27 .ltm, .row 9 .lstr]
def rs118v1 : Sh G := .tup []
def hi121v1 : List (HSh G) := [.row 27 .ltm]
def as121v1 : List (Sh G) := [.row 0, .p .tm]
def ho121v1 : List (HSh G) := [.row 27 .ltm]
def rs121v1 : Sh G := .row 0
def hi121v2 : List (HSh G) := []
def as121v2 : List (Sh G) := [.ns .tm, .p .tm]
def ho121v2 : List (HSh G) := [.row 27 .ltm]
def rs121v2 : Sh G := .row 0
/-- sequent/sequentlaw28.GoalParts -/
def c5 : XFn G := ⟨171, [.t 10], .pure [.p .bool],
  (.seq (.ops [o 5 (.bx (T 0)), o 6 (.bx (T 1)), o 7 (.bx (T 2)), o 8 (.bx (T 3)), o 10 (.mv (.c (.v .bool false)))])
  (.seq (.jn ⟨[(42, .p .bool)], [], [4, 5, 6, 7, 8]⟩ (.ops [o 29 (.ld .sequent (T 5)), .call 0 (some 30) (.c (.fn 21 [] [])) [(T 29)] [some .sequent] (.p .bool), o 31 (.mv (T 30)), .gd 31 false (some 32) (o 32 (.ld .sequent (T 6))), .gd 31 false (some 33) (.call 0 (some 33) (.c (.fn 21 [] [])) [(T 32)] [some .sequent] (.p .bool)), o 34 (.pk (T 31) (.c (.v .bool true)) (T 33)), o 35 (.mv (T 34)), .gd 35 false (some 36) (o 36 (.ld .tm (T 7))), .gd 35 false (some 37) (.call 0 (some 37) (.c (.fn 22 [] [])) [(T 36)] [some .tm] (.p .bool)), o 38 (.pk (T 35) (.c (.v .bool true)) (T 37)), o 39 (.mv (T 38)), .gd 39 false (some 40) (o 40 (.ld .tm (T 8))), .gd 39 false (some 41) (.call 0 (some 41) (.c (.fn 22 [] [])) [(T 40)] [some .tm] (.p .bool)), o 42 (.pk (T 39) (.c (.v .bool true)) (T 41))])
  (.cond (T 42) (.seq (.ops [o 10 (.mv (.c (.v .bool true)))])
    .ret)
    .skip))
  (.seq (.ops [o 43 (.ld .sequent (T 5)), .call 0 (some 44) (.c (.fn 23 [] [])) [(T 43)] [some .sequent] (.p .sequent), .a (some 11) (.alm 44 (.ag .sequent [.ns .tm, .ag .tm [.v .u8 (0 : Int), .v .str (⟨#[]⟩ : ByteArray), .ag .ty [.v .bool false, .v .str (⟨#[]⟩ : ByteArray), .ns .ty], .v .int (0 : Int), .ns .tm]])), .a none (.st 0 .sequent (T 11) (T 44))])
  (.seq (.ops [o 45 (.ld .sequent (T 11)), o 46 (.ld .tm (T 7)), .callg 1 (some 47) (.c (.fn 24 [] [])) [(T 45), (T 46)] [] hi24v1 as24v1 ho24v1 rs24v1, .a (some 12) (.alm 44 (.ag .sequent [.ns .tm, .ag .tm [.v .u8 (0 : Int), .v .str (⟨#[]⟩ : ByteArray), .ag .ty [.v .bool false, .v .str (⟨#[]⟩ : ByteArray), .ns .ty], .v .int (0 : Int), .ns .tm]])), .a none (.st 0 .sequent (T 12) (T 47))])
  (.seq (.ops [o 49 (.ld .sequent (T 11)), o 50 (.mv (T 4)), .call 0 (some 51) (.c (.fn 25 [] [])) [(T 49), (T 50)] [some .sequent, some .int] (.tup [.p .sequent, .p .bool]), o 48 (.mv (T 51)), o 52 (.ext (T 48) 0), o 53 (.ext (T 48) 1), .a (some 13) (.alm 44 (.ag .sequent [.ns .tm, .ag .tm [.v .u8 (0 : Int), .v .str (⟨#[]⟩ : ByteArray), .ag .ty [.v .bool false, .v .str (⟨#[]⟩ : ByteArray), .ns .ty], .v .int (0 : Int), .ns .tm]])), .a none (.st 0 .sequent (T 13) (T 52)), o 14 (.mv (T 53))])
  (.seq (.ops [o 55 (.ld .sequent (T 5)), o 56 (.mv (T 4)), .call 0 (some 57) (.c (.fn 26 [] [])) [(T 55), (T 56)] [some .sequent, some .int] (.tup [.p .sequent, .p .bool]), o 54 (.mv (T 57)), o 58 (.ext (T 54) 0), o 59 (.ext (T 54) 1), .a (some 15) (.alm 44 (.ag .sequent [.ns .tm, .ag .tm [.v .u8 (0 : Int), .v .str (⟨#[]⟩ : ByteArray), .ag .ty [.v .bool false, .v .str (⟨#[]⟩ : ByteArray), .ns .ty], .v .int (0 : Int), .ns .tm]])), .a none (.st 0 .sequent (T 15) (T 58)), o 16 (.mv (T 59))])
  (.seq (.ops [o 61 (.ld .sequent (T 11)), o 62 (.ld .tm (T 7)), .call 0 (some 63) (.c (.fn 27 [] [])) [(T 61), (T 62)] [some .sequent, some .tm] (.tup [.p .int, .p .bool]), o 60 (.mv (T 63)), o 64 (.ext (T 60) 0), o 65 (.ext (T 60) 1), o 17 (.mv (T 64)), o 18 (.mv (T 65))])
  (.seq (.ops [o 67 (.ld .sequent (T 5)), o 68 (.ld .tm (T 7)), .call 0 (some 69) (.c (.fn 28 [] [])) [(T 67), (T 68)] [some .sequent, some .tm] (.tup [.p .int, .p .bool]), o 66 (.mv (T 69)), o 70 (.ext (T 66) 0), o 71 (.ext (T 66) 1), o 19 (.mv (T 70)), o 20 (.mv (T 71))])
  (.seq (.ops [o 73 (.ld .sequent (T 11)), o 74 (.ld .tm (T 8)), .call 0 (some 75) (.c (.fn 29 [] [])) [(T 73), (T 74)] [some .sequent, some .tm] (.tup [.p .tm, .p .int]), o 72 (.mv (T 75)), o 76 (.ext (T 72) 0), o 77 (.ext (T 72) 1), .a (some 21) (.alm 27 (.ag .tm [.v .u8 (0 : Int), .v .str (⟨#[]⟩ : ByteArray), .ag .ty [.v .bool false, .v .str (⟨#[]⟩ : ByteArray), .ns .ty], .v .int (0 : Int), .ns .tm])), .a none (.st 0 .tm (T 21) (T 76)), o 22 (.mv (T 77))])
  (.seq (.ops [o 79 (.ld .sequent (T 5)), o 80 (.ld .tm (T 8)), .call 0 (some 81) (.c (.fn 30 [] [])) [(T 79), (T 80)] [some .sequent, some .tm] (.tup [.p .tm, .p .int]), o 78 (.mv (T 81)), o 82 (.ext (T 78) 0), o 83 (.ext (T 78) 1), .a (some 23) (.alm 27 (.ag .tm [.v .u8 (0 : Int), .v .str (⟨#[]⟩ : ByteArray), .ag .ty [.v .bool false, .v .str (⟨#[]⟩ : ByteArray), .ns .ty], .v .int (0 : Int), .ns .tm])), .a none (.st 0 .tm (T 23) (T 82)), o 24 (.mv (T 83))])
  (.seq (.ops [o 84 (.ld .sequent (T 11)), .callg 1 (some 85) (.c (.fn 31 [] [])) [(T 84)] [] hi31v1 as31v1 ho31v1 rs31v1, .a (some 25) (.alm 44 (.ag .sequent [.ns .tm, .ag .tm [.v .u8 (0 : Int), .v .str (⟨#[]⟩ : ByteArray), .ag .ty [.v .bool false, .v .str (⟨#[]⟩ : ByteArray), .ns .ty], .v .int (0 : Int), .ns .tm]])), .a none (.st 0 .sequent (T 25) (T 85))])
  (.jn ⟨[(11, .ptr 0 0 []), (12, .ptr 2 0 []), (25, .ptr 8 0 []), (26, .p .bool)], [.keep, .row 27 .ltm, .keep, .gone, .gone, .gone, .gone, .row 27 .ltm, .keep], [5, 6]⟩ (.draw (o 86 (.ld .sequent (T 12)) :: o 87 (.ldi .sequent (T 5)) :: o 88 (.ldi .tm (T 7)) :: .call 0 (some 89) (.c (.fn 33 [] [])) [(T 87), (T 88)] [some .sequent, some .tm] (.p .sequent) :: .call 1 (some 90) (.c (.fn 32 [] [])) [(T 86), (T 89)] [some .sequent, some .sequent] (.p .bool) :: o 91 (.mv (T 90)) :: .gd 91 true (some 92) (o 92 (.ld .sequent (T 13))) :: .gd 91 true (some 93) (o 93 (.ld .sequent (T 15))) :: .gd 91 true (some 94) (.call 0 (some 94) (.c (.fn 32 [] [])) [(T 92), (T 93)] [some .sequent, some .sequent] (.p .bool)) :: o 95 (.pk (T 91) (T 94) (.c (.v .bool false))) :: o 96 (.mv (T 95)) :: .gd 96 true (some 97) (o 97 (.mv (T 14))) :: .gd 96 true (some 98) (o 98 (.mv (T 16))) :: .gd 96 true (some 99) (o 99 (.bib .eql (T 97) (T 98))) :: o 100 (.pk (T 96) (T 99) (.c (.v .bool false))) :: o 101 (.mv (T 100)) :: .gd 101 true (some 102) (o 102 (.mv (T 17))) :: .gd 101 true (some 103) (o 103 (.mv (T 19))) :: .gd 101 true (some 104) (o 104 (.bi .eql (T 102) (T 103))) :: o 105 (.pk (T 101) (T 104) (.c (.v .bool false))) :: o 106 (.mv (T 105)) :: .gd 106 true (some 107) (o 107 (.mv (T 18))) :: .gd 106 true (some 108) (o 108 (.mv (T 20))) :: .gd 106 true (some 109) (o 109 (.bib .eql (T 107) (T 108))) :: o 110 (.pk (T 106) (T 109) (.c (.v .bool false))) :: o 111 (.mv (T 110)) :: .gd 111 true (some 112) (o 112 (.ld .tm (T 21))) :: .gd 111 true (some 113) (o 113 (.ld .tm (T 23))) :: .gd 111 true (some 114) (.call 0 (some 114) (.c (.fn 15 [] [])) [(T 112), (T 113)] [some .tm, some .tm] (.p .bool)) :: o 115 (.pk (T 111) (T 114) (.c (.v .bool false))) :: o 116 (.mv (T 115)) :: .gd 116 true (some 117) (o 117 (.mv (T 22))) :: .gd 116 true (some 118) (o 118 (.mv (T 24))) :: .gd 116 true (some 119) (o 119 (.bi .eql (T 117) (T 118))) :: o 120 (.pk (T 116) (T 119) (.c (.v .bool false))) :: o 26 (.mv (T 120)) :: []))
  (.jn ⟨[(11, .ptr 0 0 []), (12, .ptr 2 0 []), (25, .ptr 8 0 []), (26, .p .bool)], [.keep, .row 27 .ltm, .keep, .gone, .gone, .gone, .gone, .row 27 .ltm, .keep], [5]⟩ (.draw [o 121 (.mv (T 26)), o 122 (.mv (T 121)), .gd 122 true (some 123) (o 123 (.ld .sequent (T 25))), .gd 122 true (some 124) (o 124 (.ldi .sequent (T 5))), .gd 122 true (some 125) (.call 1 (some 125) (.c (.fn 32 [] [])) [(T 123), (T 124)] [some .sequent, some .sequent] (.p .bool)), o 126 (.pk (T 122) (T 125) (.c (.v .bool false))), o 127 (.mv (T 126)), .gd 127 true (some 128) (o 128 (.ld .sequent (T 11))), .gd 127 true (some 129) (o 129 (.ldi .sequent (T 6))), .gd 127 true (some 130) (.call 0 (some 130) (.c (.fn 34 [] [])) [(T 128), (T 129)] [some .sequent, some .sequent] (.p .bool)), .gd 127 true (some 131) (o 131 (.ldi .sequent (T 5))), .gd 127 true (some 132) (o 132 (.ldi .sequent (T 6))), .gd 127 true (some 133) (.call 0 (some 133) (.c (.fn 32 [] [])) [(T 131), (T 132)] [some .sequent, some .sequent] (.p .bool)), .gd 127 true (some 134) (o 134 (.bib .eql (T 130) (T 133))), o 135 (.pk (T 127) (T 134) (.c (.v .bool false))), o 136 (.mv (T 135)), .gd 136 true (some 137) (o 137 (.ld .sequent (T 25))), .gd 136 true (some 138) (o 138 (.ld .sequent (T 11))), .gd 136 true (some 139) (.call 1 (some 139) (.c (.fn 34 [] [])) [(T 137), (T 138)] [some .sequent, some .sequent] (.p .bool)), o 140 (.pk (T 136) (T 139) (.c (.v .bool false))), o 26 (.mv (T 140))])
  (.seq (.seq (.ops [o 27 (.mv (.c (.v .int (0 : Int))))])
  (.block 0 (.loop ⟨[(11, .ptr 0 0 []), (12, .ptr 2 0 []), (25, .ptr 8 0 []), (27, .p .int)], [.keep, .row 27 .ltm, .keep, .gone, .gone, .gone, .gone, .row 27 .ltm, .keep], [5, 26]⟩ (.seq (.seq (.ops [o 141 (.mv (T 27)), o 142 (.fa .sequent 0 (T 12)), o 143 (.ld .ltm (T 142)), o 144 (.len (T 143)), o 145 (.bi .lss (T 141) (T 144))])
  (.cond (T 145) .skip
    (.exit 0)))
  (.seq (.block 1 (.ops [o 148 (.fa .sequent 0 (T 12)), o 149 (.ld .ltm (T 148)), o 150 (.mv (T 27)), o 151 (.ia .tm (T 149) (T 150)), o 152 (.fa .tm 0 (T 151)), .a none (.st 0 .u8 (T 152) (.c (.v .u8 (77 : Int))))]))
  (.ops [o 146 (.mv (T 27)), o 147 (.inc 146 .i64), o 27 (.mv (T 147))]))))))
  (.seq (.seq (.ops [o 28 (.mv (.c (.v .int (0 : Int))))])
  (.block 2 (.loop ⟨[(11, .ptr 0 0 []), (25, .ptr 8 0 []), (28, .p .int)], [.keep, .gone, .gone, .gone, .gone, .gone, .gone, .row 27 .ltm, .keep], [5, 26]⟩ (.seq (.seq (.ops [o 153 (.mv (T 28)), o 154 (.fa .sequent 0 (T 25)), o 155 (.ld .ltm (T 154)), o 156 (.len (T 155)), o 157 (.bi .lss (T 153) (T 156))])
  (.cond (T 157) .skip
    (.exit 2)))
  (.seq (.block 3 (.ops [o 160 (.fa .sequent 0 (T 25)), o 161 (.ld .ltm (T 160)), o 162 (.mv (T 28)), o 163 (.ia .tm (T 161) (T 162)), o 164 (.fa .tm 0 (T 163)), .a none (.st 0 .u8 (T 164) (.c (.v .u8 (77 : Int))))]))
  (.ops [o 158 (.mv (T 28)), o 159 (.inc 158 .i64), o 28 (.mv (T 159))]))))))
  (.seq (.ops [o 165 (.mv (T 26)), o 166 (.mv (T 165)), .gd 166 true (some 167) (o 167 (.ld .sequent (T 11))), .gd 166 true (some 168) (o 168 (.ld .sequent (T 5))), .gd 166 true (some 169) (.call 0 (some 169) (.c (.fn 32 [] [])) [(T 167), (T 168)] [some .sequent, some .sequent] (.p .bool)), o 170 (.pk (T 166) (T 169) (.c (.v .bool false))), o 10 (.mv (T 170))])
  .ret))))))))))))))))⟩
/-- sequent/sequentref02.Same -/
def c15 : XFn G := ⟨9, [.t 4], .pure [.p .bool],
  (.seq (.ops [o 2 (.bx (T 0)), o 3 (.bx (T 1)), o 4 (.mv (.c (.v .bool false)))])
  (.seq (.ops [o 5 (.ld .tm (T 2)), o 6 (.ld .tm (T 3)), .call 0 (some 7) (.c (.fn 43 [] [])) [(T 5), (T 6)] [some .tm, some .tm] (.p .int), o 8 (.bi .eql (T 7) (.c (.v .int (0 : Int)))), o 4 (.mv (T 8))])
  .ret))⟩
/-- sequent/sequentref28.Great -/
def c21 : XFn G := ⟨38, [.t 2], .pure [.p .bool],
  (.seq (.ops [o 1 (.bx (T 0)), o 2 (.mv (.c (.v .bool false)))])
  (.seq (.jn ⟨[(24, .p .bool)], [], [1]⟩ (.ops [o 4 (.fa .sequent 0 (T 1)), o 5 (.ld .ltm (T 4)), o 6 (.len (T 5)), o 7 (.bi .gtr (T 6) (.c (.v .int (80 : Int)))), o 8 (.mv (T 7)), .gd 8 false (some 9) (o 9 (.fa .sequent 0 (T 1))), .gd 8 false (some 10) (o 10 (.ld .ltm (T 9))), .gd 8 false (some 11) (o 11 (.len (T 10))), .gd 8 false (some 12) (o 12 (.bi .gtr (T 11) (.c (.v .int (20 : Int))))), .gd 8 false (some 13) (o 13 (.mv (T 12))), .gd 13 true (some 14) (o 14 (.fa .sequent 0 (T 1))), .gd 13 true (some 15) (o 15 (.ld .ltm (T 14))), .gd 13 true (some 16) (o 16 (.len (T 15))), .gd 13 true (some 17) (o 17 (.bi .leq (T 16) (.c (.v .int (64 : Int))))), .gd 8 false (some 18) (o 18 (.pk (T 13) (T 17) (.c (.v .bool false)))), o 19 (.pk (T 8) (.c (.v .bool true)) (T 18)), o 20 (.mv (T 19)), .gd 20 false (some 21) (o 21 (.fa .sequent 1 (T 1))), .gd 20 false (some 22) (o 22 (.ld .tm (T 21))), .gd 20 false (some 23) (.call 0 (some 23) (.c (.fn 22 [] [])) [(T 22)] [some .tm] (.p .bool)), o 24 (.pk (T 20) (.c (.v .bool true)) (T 23))])
  (.cond (T 24) (.seq (.ops [o 2 (.mv (.c (.v .bool true)))])
    .ret)
    .skip))
  (.seq (.seq (.ops [o 3 (.mv (.c (.v .int (0 : Int))))])
  (.block 0 (.loop ⟨[(3, .p .int)], [], [1]⟩ (.seq (.seq (.ops [o 25 (.mv (T 3)), o 26 (.fa .sequent 0 (T 1)), o 27 (.ld .ltm (T 26)), o 28 (.len (T 27)), o 29 (.bi .lss (T 25) (T 28))])
  (.cond (T 29) .skip
    (.exit 0)))
  (.seq (.block 1 (.seq (.ops [o 32 (.fa .sequent 0 (T 1)), o 33 (.ld .ltm (T 32)), o 34 (.mv (T 3)), o 35 (.ia .tm (T 33) (T 34)), o 36 (.ld .tm (T 35)), .call 0 (some 37) (.c (.fn 22 [] [])) [(T 36)] [some .tm] (.p .bool)])
  (.cond (T 37) (.seq (.ops [o 2 (.mv (.c (.v .bool true)))])
    .ret)
    .skip)))
  (.ops [o 30 (.mv (T 3)), o 31 (.inc 30 .i64), o 3 (.mv (T 31))]))))))
  (.seq (.ops [o 2 (.mv (.c (.v .bool false)))])
  .ret))))⟩
/-- sequent/sequentref02.Great -/
def c22 : XFn G := ⟨13, [.t 2], .pure [.p .bool],
  (.seq (.ops [o 1 (.bx (T 0)), o 2 (.mv (.c (.v .bool false)))])
  (.seq (.seq (.ops [o 3 (.ld .tm (T 1)), .call 0 (some 4) (.c (.fn 56 [] [])) [(T 3), (.c (.v .int (2000 : Int))), (.c (.v .int (400 : Int)))] [some .tm, some .int, some .int] (.p .int), o 5 (.bi .gtr (T 4) (.c (.v .int (0 : Int))))])
  (.cond (T 5) (.seq (.ops [o 2 (.mv (.c (.v .bool false)))])
    .ret)
    .skip))
  (.seq (.ops [o 6 (.ld .tm (T 1)), .call 0 (some 7) (.c (.fn 56 [] [])) [(T 6), (.c (.v .int (40000 : Int))), (.c (.v .int (400 : Int)))] [some .tm, some .int, some .int] (.p .int), o 8 (.bi .leq (T 7) (.c (.v .int (0 : Int)))), o 9 (.mv (T 8)), .gd 9 false (some 10) (o 10 (.ld .tm (T 1))), .gd 9 false (some 11) (.call 0 (some 11) (.c (.fn 57 [] [])) [(T 10)] [some .tm] (.p .bool)), o 12 (.pk (T 9) (.c (.v .bool true)) (T 11)), o 2 (.mv (T 12))])
  .ret)))⟩
/-- sequent/sequentref28.Twin -/
def c23 : XFn G := ⟨28, [.c 2 .sequent], .pure [.p .sequent],
  (.seq (.ops [o 1 (.bx (T 0)), .a (some 2) (.alm 44 (.ag .sequent [.ns .tm, .ag .tm [.v .u8 (0 : Int), .v .str (⟨#[]⟩ : ByteArray), .ag .ty [.v .bool false, .v .str (⟨#[]⟩ : ByteArray), .ns .ty], .v .int (0 : Int), .ns .tm]]))])
  (.seq (.ops [o 5 (.fa .sequent 1 (T 1)), o 6 (.ld .tm (T 5)), .call 0 (some 7) (.c (.fn 58 [] [])) [(T 6)] [some .tm] (.p .tm), o 8 (.bld .sequent [.ns .tm, .ag .tm [.v .u8 (0 : Int), .v .str (⟨#[]⟩ : ByteArray), .ag .ty [.v .bool false, .v .str (⟨#[]⟩ : ByteArray), .ns .ty], .v .int (0 : Int), .ns .tm]] [(1, (T 7))]), .a (some 3) (.alm 44 (.ag .sequent [.ns .tm, .ag .tm [.v .u8 (0 : Int), .v .str (⟨#[]⟩ : ByteArray), .ag .ty [.v .bool false, .v .str (⟨#[]⟩ : ByteArray), .ns .ty], .v .int (0 : Int), .ns .tm]])), .a none (.st 0 .sequent (T 3) (T 8))])
  (.seq (.seq (.ops [o 4 (.mv (.c (.v .int (0 : Int))))])
  (.block 0 (.ps [.adB 1 [0] 27 .tm] (.loop ⟨[(2, .ptr 0 0 []), (3, .ptr 1 0 []), (4, .p .int)], [.keep, .box 44 (.ag .sequent [.row 2, .p .tm]), .row 27 .ltm], [1]⟩ (.seq (.seq (.ops [o 9 (.mv (T 4)), o 10 (.fa .sequent 0 (T 1)), o 11 (.ld .ltm (T 10)), o 12 (.len (T 11)), o 13 (.bi .lss (T 9) (T 12))])
  (.cond (T 13) .skip
    (.exit 0)))
  (.seq (.block 1 (.draw [o 16 (.fa .sequent 0 (T 3)), o 17 (.ld .ltm (T 16)), o 18 (.fa .sequent 0 (T 1)), o 19 (.ldi .ltm (T 18)), o 20 (.mv (T 4)), o 21 (.ia .tm (T 19) (T 20)), o 22 (.ld .tm (T 21)), .call 0 (some 23) (.c (.fn 58 [] [])) [(T 22)] [some .tm] (.p .tm), o 24 (.bsl .tm [(T 23)]), .a (some 25) (.app 27 .tm (T 17) (T 24)), o 26 (.fa .sequent 0 (T 3)), .a none (.st 1 .ltm (T 26) (T 25))]))
  (.ops [o 14 (.mv (T 4)), o 15 (.inc 14 .i64), o 4 (.mv (T 15))])))))))
  (.seq (.ops [o 27 (.ld .sequent (T 3)), .a none (.st 0 .sequent (T 2) (T 27))])
  .ret))))⟩
/-- sequent/goal.With -/
def c24v1 : XFn G := ⟨41, [.c 4 .sequent], .own 0 ho24v1 [.ag .sequent [.row 0, .p .tm]],
  (.seq (.ops [.a (some 2) (.bxm 44 (T 0)), o 3 (.bx (T 1)), .a (some 4) (.alm 44 (.ag .sequent [.ns .tm, .ag .tm [.v .u8 (0 : Int), .v .str (⟨#[]⟩ : ByteArray), .ag .ty [.v .bool false, .v .str (⟨#[]⟩ : ByteArray), .ns .ty], .v .int (0 : Int), .ns .tm]]))])
  (.seq (.ops [o 6 (.ld .sequent (T 2)), .callg 1 (some 7) (.c (.fn 31 [] [])) [(T 6)] [] hi31v1 as31v1 ho31v1 rs31v1, .a none (.st 0 .sequent (T 2) (T 7))])
  (.seq (.ops [o 8 (.fa .sequent 0 (T 2)), o 9 (.ld .ltm (T 8)), o 10 (.mkf 60 [] [(T 3)]), .call 1 (some 11) (.c (.fn 59 [] [])) [(T 9), (T 10)] [some .ltm] (.p .int), o 5 (.mv (T 11))])
  (.jn ⟨[(2, .ptr 0 0 []), (4, .ptr 1 0 []), (5, .p .int)], [.keep, .keep, .row 27 .ltm], [3]⟩ (.seq (.ops [o 12 (.mv (T 5)), o 13 (.bi .lss (T 12) (.c (.v .int (0 : Int))))])
  (.cond (T 13) (.ops [o 14 (.fa .sequent 0 (T 2)), o 15 (.ld .ltm (T 14)), o 16 (.len (T 15)), o 5 (.mv (T 16))])
    .skip))
  (.seq (.jn ⟨[(2, .ptr 0 0 []), (4, .ptr 1 0 []), (30, .p .bool)], [.keep, .keep, .row 27 .ltm], [3, 5]⟩ (.draw [o 17 (.mv (T 5)), o 18 (.fa .sequent 0 (T 2)), o 19 (.ld .ltm (T 18)), o 20 (.len (T 19)), o 21 (.bi .lss (T 17) (T 20)), o 22 (.mv (T 21)), .gd 22 true (some 23) (o 23 (.fa .sequent 0 (T 2))), .gd 22 true (some 24) (o 24 (.ld .ltm (T 23))), .gd 22 true (some 25) (o 25 (.mv (T 5))), .gd 22 true (some 26) (o 26 (.ia .tm (T 24) (T 25))), .gd 22 true (some 27) (o 27 (.ld .tm (T 26))), .gd 22 true (some 28) (o 28 (.ldi .tm (T 3))), .gd 22 true (some 29) (.call 0 (some 29) (.c (.fn 62 [] [])) [(T 27), (T 28)] [some .tm, some .tm] (.p .bool)), o 30 (.pk (T 22) (T 29) (.c (.v .bool false)))])
  (.cond (T 30) (.seq (.ops [o 31 (.ld .sequent (T 2)), .a none (.st 0 .sequent (T 4) (T 31))])
    .ret)
    .skip))
  (.seq (.draw [o 32 (.fa .sequent 0 (T 2)), o 33 (.ld .ltm (T 32)), o 34 (.mv (T 5)), o 35 (.ldi .tm (T 3)), .call 0 (some 36) (.c (.fn 52 [] [])) [(T 35)] [some .tm] (.p .tm), o 37 (.bsl .tm [(T 36)]), .callg 1 (some 38) (.c (.fn 63 [] [])) [(T 33), (T 34), (T 37)] [2] hi63v1 as63v1 ho63v1 rs63v1, o 39 (.fa .sequent 0 (T 2)), .a none (.st 1 .ltm (T 39) (T 38))])
  (.seq (.ops [o 40 (.ld .sequent (T 2)), .a none (.st 0 .sequent (T 4) (T 40))])
  .ret)))))))⟩
/-- sequent/goal.Without -/
def c25 : XFn G := ⟨26, [.c 4 .sequent, .t 5], .pure [.p .sequent, .p .bool],
  (.seq (.ops [.a (some 2) (.bxm 44 (T 0)), .a (some 4) (.alm 44 (.ag .sequent [.ns .tm, .ag .tm [.v .u8 (0 : Int), .v .str (⟨#[]⟩ : ByteArray), .ag .ty [.v .bool false, .v .str (⟨#[]⟩ : ByteArray), .ns .ty], .v .int (0 : Int), .ns .tm]])), o 5 (.mv (.c (.v .bool false)))])
  (.seq (.jn ⟨[(2, .ptr 0 0 []), (4, .ptr 1 0 []), (14, .p .bool)], [.keep, .keep], [1]⟩ (.ops [o 6 (.mv (T 1)), o 7 (.bi .lss (T 6) (.c (.v .int (0 : Int)))), o 8 (.mv (T 7)), .gd 8 false (some 9) (o 9 (.mv (T 1))), .gd 8 false (some 10) (o 10 (.fa .sequent 0 (T 2))), .gd 8 false (some 11) (o 11 (.ld .ltm (T 10))), .gd 8 false (some 12) (o 12 (.len (T 11))), .gd 8 false (some 13) (o 13 (.bi .geq (T 9) (T 12))), o 14 (.pk (T 8) (.c (.v .bool true)) (T 13))])
  (.cond (T 14) (.seq (.ops [o 15 (.bld .sequent [.ns .tm, .ag .tm [.v .u8 (0 : Int), .v .str (⟨#[]⟩ : ByteArray), .ag .ty [.v .bool false, .v .str (⟨#[]⟩ : ByteArray), .ns .ty], .v .int (0 : Int), .ns .tm]] []), .a none (.st 0 .sequent (T 4) (T 15)), o 5 (.mv (.c (.v .bool false)))])
    .ret)
    .skip))
  (.seq (.ops [o 16 (.ld .sequent (T 2)), .callg 1 (some 17) (.c (.fn 31 [] [])) [(T 16)] [] hi31v1 as31v1 ho31v1 rs31v1, .a none (.st 0 .sequent (T 2) (T 17))])
  (.seq (.ops [o 18 (.fa .sequent 0 (T 2)), o 19 (.ld .ltm (T 18)), o 20 (.mv (T 1)), o 21 (.mv (T 1)), o 22 (.inc 21 .i64), .callg 1 (some 23) (.c (.fn 64 [] [])) [(T 19), (T 20), (T 22)] [2] hi64v1 as64v1 ho64v1 rs64v1, o 24 (.fa .sequent 0 (T 2)), .a none (.st 0 .ltm (T 24) (T 23))])
  (.seq (.ops [o 25 (.ld .sequent (T 2)), .a none (.st 0 .sequent (T 4) (T 25)), o 5 (.mv (.c (.v .bool true)))])
  .ret)))))⟩
/-- sequent/sequentref28.Without -/
def c26 : XFn G := ⟨34, [.c 4 .sequent, .t 5], .pure [.p .sequent, .p .bool],
  (.seq (.ops [o 2 (.bx (T 0)), .a (some 4) (.alm 44 (.ag .sequent [.ns .tm, .ag .tm [.v .u8 (0 : Int), .v .str (⟨#[]⟩ : ByteArray), .ag .ty [.v .bool false, .v .str (⟨#[]⟩ : ByteArray), .ns .ty], .v .int (0 : Int), .ns .tm]])), o 5 (.mv (.c (.v .bool false)))])
  (.seq (.jn ⟨[(4, .ptr 0 0 []), (15, .p .bool)], [.keep], [1, 2]⟩ (.ops [o 7 (.mv (T 1)), o 8 (.bi .lss (T 7) (.c (.v .int (0 : Int)))), o 9 (.mv (T 8)), .gd 9 false (some 10) (o 10 (.mv (T 1))), .gd 9 false (some 11) (o 11 (.fa .sequent 0 (T 2))), .gd 9 false (some 12) (o 12 (.ld .ltm (T 11))), .gd 9 false (some 13) (o 13 (.len (T 12))), .gd 9 false (some 14) (o 14 (.bi .geq (T 10) (T 13))), o 15 (.pk (T 9) (.c (.v .bool true)) (T 14))])
  (.cond (T 15) (.seq (.ops [o 16 (.bld .sequent [.ns .tm, .ag .tm [.v .u8 (0 : Int), .v .str (⟨#[]⟩ : ByteArray), .ag .ty [.v .bool false, .v .str (⟨#[]⟩ : ByteArray), .ns .ty], .v .int (0 : Int), .ns .tm]] []), .a none (.st 0 .sequent (T 4) (T 16)), o 5 (.mv (.c (.v .bool false)))])
    .ret)
    .skip))
  (.seq (.ops [o 6 (.mv (.c (.ns .tm)))])
  (.seq (.ops [o 17 (.mv (T 6)), o 18 (.fa .sequent 0 (T 2)), o 19 (.ld .ltm (T 18)), o 20 (.mv (T 1)), o 21 (.slc .tm (T 19) none (some (T 20)) none), .a (some 22) (.app 27 .tm (T 17) (T 21)), o 6 (.mv (T 22))])
  (.seq (.ops [o 23 (.mv (T 6)), o 24 (.fa .sequent 0 (T 2)), o 25 (.ld .ltm (T 24)), o 26 (.mv (T 1)), o 27 (.inc 26 .i64), o 28 (.slc .tm (T 25) (some (T 27)) none none), .a (some 29) (.app 27 .tm (T 23) (T 28)), o 6 (.mv (T 29))])
  (.seq (.ops [o 30 (.mv (T 6)), o 31 (.fa .sequent 1 (T 2)), o 32 (.ld .tm (T 31)), o 33 (.bld .sequent [.ns .tm, .ag .tm [.v .u8 (0 : Int), .v .str (⟨#[]⟩ : ByteArray), .ag .ty [.v .bool false, .v .str (⟨#[]⟩ : ByteArray), .ns .ty], .v .int (0 : Int), .ns .tm]] [(0, (T 30)), (1, (T 32))]), .a none (.st 0 .sequent (T 4) (T 33)), o 5 (.mv (.c (.v .bool true)))])
  .ret))))))⟩
/-- sequent/goal.Find -/
def c27 : XFn G := ⟨15, [.t 4, .t 5], .pure [.p .int, .p .bool],
  (.seq (.ops [o 2 (.bx (T 0)), o 3 (.bx (T 1)), o 4 (.mv (.c (.v .int (0 : Int)))), o 5 (.mv (.c (.v .bool false)))])
  (.seq (.ops [o 7 (.fa .sequent 0 (T 2)), o 8 (.ld .ltm (T 7)), o 9 (.mkf 65 [] [(T 3)]), .call 0 (some 10) (.c (.fn 59 [] [])) [(T 8), (T 9)] [some .ltm] (.p .int), o 6 (.mv (T 10))])
  (.seq (.ops [o 11 (.mv (T 6)), o 12 (.mx (T 11) (.c (.v .int (0 : Int)))), o 13 (.mv (T 6)), o 14 (.bi .geq (T 13) (.c (.v .int (0 : Int)))), o 4 (.mv (T 12)), o 5 (.mv (T 14))])
  .ret)))⟩
/-- sequent/sequentref28.Find -/
def c28 : XFn G := ⟨22, [.t 4, .t 5], .pure [.p .int, .p .bool],
  (.seq (.ops [o 2 (.bx (T 0)), o 3 (.bx (T 1)), o 4 (.mv (.c (.v .int (0 : Int)))), o 5 (.mv (.c (.v .bool false)))])
  (.seq (.seq (.ops [o 6 (.mv (.c (.v .int (0 : Int))))])
  (.block 0 (.loop ⟨[(6, .p .int)], [], [2, 3]⟩ (.seq (.seq (.ops [o 7 (.mv (T 6)), o 8 (.fa .sequent 0 (T 2)), o 9 (.ld .ltm (T 8)), o 10 (.len (T 9)), o 11 (.bi .lss (T 7) (T 10))])
  (.cond (T 11) .skip
    (.exit 0)))
  (.seq (.block 1 (.seq (.draw [o 14 (.fa .sequent 0 (T 2)), o 15 (.ldi .ltm (T 14)), o 16 (.mv (T 6)), o 17 (.ia .tm (T 15) (T 16)), o 18 (.ld .tm (T 17)), o 19 (.ldi .tm (T 3)), .call 0 (some 20) (.c (.fn 15 [] [])) [(T 18), (T 19)] [some .tm, some .tm] (.p .bool)])
  (.cond (T 20) (.seq (.ops [o 21 (.mv (T 6)), o 4 (.mv (T 21)), o 5 (.mv (.c (.v .bool true)))])
    .ret)
    .skip)))
  (.ops [o 12 (.mv (T 6)), o 13 (.inc 12 .i64), o 6 (.mv (T 13))]))))))
  (.seq (.ops [o 4 (.mv (.c (.v .int (0 : Int)))), o 5 (.mv (.c (.v .bool false)))])
  .ret)))⟩
/-- sequent/goal.Fresh -/
def c29 : XFn G := ⟨17, [.c 4 .tm, .t 5], .pure [.p .tm, .p .int],
  (.seq (.ops [o 2 (.bx (T 0)), o 3 (.bx (T 1)), .a (some 4) (.alm 27 (.ag .tm [.v .u8 (0 : Int), .v .str (⟨#[]⟩ : ByteArray), .ag .ty [.v .bool false, .v .str (⟨#[]⟩ : ByteArray), .ns .ty], .v .int (0 : Int), .ns .tm])), o 5 (.mv (.c (.v .int (0 : Int))))])
  (.seq (.draw [o 6 (.fa .sequent 0 (T 2)), o 7 (.ldi .ltm (T 6)), .callg 1 (some 8) (.c (.fn 67 [] [])) [(T 7)] [] hi67v1 as67v1 ho67v1 rs67v1, o 9 (.fa .sequent 1 (T 2)), o 10 (.ldi .tm (T 9)), o 11 (.bsl .tm [(T 10)]), .a (some 12) (.app 27 .tm (T 8) (T 11)), o 13 (.ldi .tm (T 3)), .pre (.fz 1 .ltm) (.call 0 (some 14) (.c (.fn 66 [] [])) [(T 12), (T 13)] [some .ltm, some .tm] (.tup [.p .tm, .p .int])), o 15 (.ext (T 14) 0), o 16 (.ext (T 14) 1), .a none (.st 1 .tm (T 4) (T 15)), o 5 (.mv (T 16))])
  .ret))⟩
/-- sequent/sequentref28.Fresh -/
def c30 : XFn G := ⟨26, [.c 4 .tm, .t 5], .pure [.p .tm, .p .int],
  (.seq (.ops [o 2 (.bx (T 0)), o 3 (.bx (T 1)), .a (some 4) (.alm 27 (.ag .tm [.v .u8 (0 : Int), .v .str (⟨#[]⟩ : ByteArray), .ag .ty [.v .bool false, .v .str (⟨#[]⟩ : ByteArray), .ns .ty], .v .int (0 : Int), .ns .tm])), o 5 (.mv (.c (.v .int (0 : Int))))])
  (.seq (.ops [o 6 (.mv (.c (.ns .tm)))])
  (.seq (.ops [o 9 (.mv (T 6)), o 10 (.fa .sequent 0 (T 2)), o 11 (.ld .ltm (T 10)), .a (some 12) (.app 27 .tm (T 9) (T 11)), o 6 (.mv (T 12))])
  (.seq (.ops [o 13 (.mv (T 6)), o 14 (.fa .sequent 1 (T 2)), o 15 (.ld .tm (T 14)), o 16 (.bsl .tm [(T 15)]), .a (some 17) (.app 27 .tm (T 13) (T 16)), o 6 (.mv (T 17))])
  (.seq (.ops [o 19 (.mv (T 6)), o 20 (.ld .tm (T 3)), .fz 1 .ltm, .call 0 (some 21) (.c (.fn 68 [] [])) [(T 19), (T 20)] [some .ltm, some .tm] (.tup [.p .tm, .p .int]), o 18 (.mv (T 21)), o 22 (.ext (T 18) 0), o 23 (.ext (T 18) 1), .a (some 7) (.alm 27 (.ag .tm [.v .u8 (0 : Int), .v .str (⟨#[]⟩ : ByteArray), .ag .ty [.v .bool false, .v .str (⟨#[]⟩ : ByteArray), .ns .ty], .v .int (0 : Int), .ns .tm])), .a none (.st 0 .tm (T 7) (T 22)), o 8 (.mv (T 23))])
  (.seq (.ops [o 24 (.ld .tm (T 7)), o 25 (.mv (T 8)), .a none (.st 0 .tm (T 4) (T 24)), o 5 (.mv (T 25))])
  .ret))))))⟩
/-- sequent/goal.Twin -/
def c31 : XFn G := ⟨26, [.c 2 .sequent], .pure [.p .sequent],
  (.seq (.ops [o 1 (.bx (T 0)), .a (some 2) (.alm 44 (.ag .sequent [.ns .tm, .ag .tm [.v .u8 (0 : Int), .v .str (⟨#[]⟩ : ByteArray), .ag .ty [.v .bool false, .v .str (⟨#[]⟩ : ByteArray), .ns .ty], .v .int (0 : Int), .ns .tm]]))])
  (.seq (.ops [o 6 (.fa .sequent 1 (T 1)), o 7 (.ld .tm (T 6)), .call 0 (some 8) (.c (.fn 52 [] [])) [(T 7)] [some .tm] (.p .tm), o 9 (.bld .sequent [.ns .tm, .ag .tm [.v .u8 (0 : Int), .v .str (⟨#[]⟩ : ByteArray), .ag .ty [.v .bool false, .v .str (⟨#[]⟩ : ByteArray), .ns .ty], .v .int (0 : Int), .ns .tm]] [(1, (T 8))]), .a (some 3) (.alm 44 (.ag .sequent [.ns .tm, .ag .tm [.v .u8 (0 : Int), .v .str (⟨#[]⟩ : ByteArray), .ag .ty [.v .bool false, .v .str (⟨#[]⟩ : ByteArray), .ns .ty], .v .int (0 : Int), .ns .tm]])), .a none (.st 0 .sequent (T 3) (T 9))])
  (.seq (.seq (.ops [o 10 (.fa .sequent 0 (T 1)), o 11 (.ld .ltm (T 10)), o 12 (.len (T 11)), o 13 (.mv (.c (.v .int (0 : Int))))])
  (.block 0 (.ps [.adB 1 [0] 27 .tm] (.loop ⟨[(2, .ptr 0 0 []), (3, .ptr 1 0 []), (13, .p .int)], [.keep, .box 44 (.ag .sequent [.row 2, .p .tm]), .row 27 .ltm], [11, 12]⟩ (.seq (.ops [o 14 (.bi .lss (T 13) (T 12))])
  (.seq (.cond (T 14) .skip
    (.exit 0))
  (.seq (.block 1 (.seq (.ops [o 15 (.ia .tm (T 11) (T 13)), o 16 (.ld .tm (T 15)), .a (some 5) (.alm 27 (.ag .tm [.v .u8 (0 : Int), .v .str (⟨#[]⟩ : ByteArray), .ag .ty [.v .bool false, .v .str (⟨#[]⟩ : ByteArray), .ns .ty], .v .int (0 : Int), .ns .tm])), .a none (.st 0 .tm (T 5) (T 16))])
  (.draw [o 17 (.fa .sequent 0 (T 3)), o 18 (.ld .ltm (T 17)), o 19 (.ld .tm (T 5)), .call 0 (some 20) (.c (.fn 52 [] [])) [(T 19)] [some .tm] (.p .tm), o 21 (.bsl .tm [(T 20)]), .a (some 22) (.app 27 .tm (T 18) (T 21)), o 23 (.fa .sequent 0 (T 3)), .a none (.st 1 .ltm (T 23) (T 22))])))
  (.ops [o 24 (.inc 13 .i64), o 13 (.mv (T 24))]))))))))
  (.seq (.ops [o 25 (.ld .sequent (T 3)), .a none (.st 0 .sequent (T 2) (T 25))])
  .ret))))⟩
/-- sequent/goal.Twin -/
def c31v1 : XFn G := ⟨26, [.c 2 .sequent], .own 0 ho31v1 [.ag .sequent [.row 0, .p .tm]],
  (.seq (.ops [o 1 (.bx (T 0)), .a (some 2) (.alm 44 (.ag .sequent [.ns .tm, .ag .tm [.v .u8 (0 : Int), .v .str (⟨#[]⟩ : ByteArray), .ag .ty [.v .bool false, .v .str (⟨#[]⟩ : ByteArray), .ns .ty], .v .int (0 : Int), .ns .tm]]))])
  (.seq (.ops [o 6 (.fa .sequent 1 (T 1)), o 7 (.ld .tm (T 6)), .call 0 (some 8) (.c (.fn 52 [] [])) [(T 7)] [some .tm] (.p .tm), o 9 (.bld .sequent [.ns .tm, .ag .tm [.v .u8 (0 : Int), .v .str (⟨#[]⟩ : ByteArray), .ag .ty [.v .bool false, .v .str (⟨#[]⟩ : ByteArray), .ns .ty], .v .int (0 : Int), .ns .tm]] [(1, (T 8))]), .a (some 3) (.alm 44 (.ag .sequent [.ns .tm, .ag .tm [.v .u8 (0 : Int), .v .str (⟨#[]⟩ : ByteArray), .ag .ty [.v .bool false, .v .str (⟨#[]⟩ : ByteArray), .ns .ty], .v .int (0 : Int), .ns .tm]])), .a none (.st 0 .sequent (T 3) (T 9))])
  (.seq (.seq (.ops [o 10 (.fa .sequent 0 (T 1)), o 11 (.ld .ltm (T 10)), o 12 (.len (T 11)), o 13 (.mv (.c (.v .int (0 : Int))))])
  (.block 0 (.ps [.adB 1 [0] 27 .tm] (.loop ⟨[(2, .ptr 0 0 []), (3, .ptr 1 0 []), (13, .p .int)], [.keep, .box 44 (.ag .sequent [.row 2, .p .tm]), .row 27 .ltm], [11, 12]⟩ (.seq (.ops [o 14 (.bi .lss (T 13) (T 12))])
  (.seq (.cond (T 14) .skip
    (.exit 0))
  (.seq (.block 1 (.seq (.ops [o 15 (.ia .tm (T 11) (T 13)), o 16 (.ld .tm (T 15)), .a (some 5) (.alm 27 (.ag .tm [.v .u8 (0 : Int), .v .str (⟨#[]⟩ : ByteArray), .ag .ty [.v .bool false, .v .str (⟨#[]⟩ : ByteArray), .ns .ty], .v .int (0 : Int), .ns .tm])), .a none (.st 0 .tm (T 5) (T 16))])
  (.draw [o 17 (.fa .sequent 0 (T 3)), o 18 (.ld .ltm (T 17)), o 19 (.ld .tm (T 5)), .call 0 (some 20) (.c (.fn 52 [] [])) [(T 19)] [some .tm] (.p .tm), o 21 (.bsl .tm [(T 20)]), .a (some 22) (.app 27 .tm (T 18) (T 21)), o 23 (.fa .sequent 0 (T 3)), .a none (.st 1 .ltm (T 23) (T 22))])))
  (.ops [o 24 (.inc 13 .i64), o 13 (.mv (T 24))]))))))))
  (.seq (.ops [o 25 (.ld .sequent (T 3)), .a none (.st 0 .sequent (T 2) (T 25))])
  .ret))))⟩
/-- sequent/sequentref28.Same -/
def c32 : XFn G := ⟨17, [.t 4], .pure [.p .bool],
  (.seq (.ops [o 2 (.bx (T 0)), o 3 (.bx (T 1)), o 4 (.mv (.c (.v .bool false)))])
  (.seq (.ops [o 5 (.fa .sequent 0 (T 2)), o 6 (.ld .ltm (T 5)), o 7 (.fa .sequent 0 (T 3)), o 8 (.ld .ltm (T 7)), .call 0 (some 9) (.c (.fn 69 [] [])) [(T 6), (T 8)] [some .ltm, some .ltm] (.p .bool), o 10 (.mv (T 9)), .gd 10 true (some 11) (o 11 (.fa .sequent 1 (T 2))), .gd 10 true (some 12) (o 12 (.ld .tm (T 11))), .gd 10 true (some 13) (o 13 (.fa .sequent 1 (T 3))), .gd 10 true (some 14) (o 14 (.ld .tm (T 13))), .gd 10 true (some 15) (.call 0 (some 15) (.c (.fn 15 [] [])) [(T 12), (T 14)] [some .tm, some .tm] (.p .bool)), o 16 (.pk (T 10) (T 15) (.c (.v .bool false))), o 4 (.mv (T 16))])
  .ret))⟩
/-- sequent/sequentref28.With -/
def c33 : XFn G := ⟨59, [.c 4 .sequent], .pure [.p .sequent],
  (.seq (.ops [o 2 (.bx (T 0)), o 3 (.bx (T 1)), .a (some 4) (.alm 44 (.ag .sequent [.ns .tm, .ag .tm [.v .u8 (0 : Int), .v .str (⟨#[]⟩ : ByteArray), .ag .ty [.v .bool false, .v .str (⟨#[]⟩ : ByteArray), .ns .ty], .v .int (0 : Int), .ns .tm]]))])
  (.seq (.ops [o 5 (.mv (.c (.v .int (0 : Int))))])
  (.seq (.block 0 (.loop ⟨[(4, .ptr 0 0 []), (5, .p .int)], [.keep], [2, 3]⟩ (.seq (.jn ⟨[(4, .ptr 0 0 []), (21, .p .bool)], [.keep], [2, 3, 5]⟩ (.draw [o 7 (.mv (T 5)), o 8 (.fa .sequent 0 (T 2)), o 9 (.ldi .ltm (T 8)), o 10 (.len (T 9)), o 11 (.bi .lss (T 7) (T 10)), o 12 (.mv (T 11)), .gd 12 true (some 13) (o 13 (.fa .sequent 0 (T 2))), .gd 12 true (some 14) (o 14 (.ldi .ltm (T 13))), .gd 12 true (some 15) (o 15 (.mv (T 5))), .gd 12 true (some 16) (o 16 (.ia .tm (T 14) (T 15))), .gd 12 true (some 17) (o 17 (.ld .tm (T 16))), .gd 12 true (some 18) (o 18 (.ldi .tm (T 3))), .gd 12 true (some 19) (.call 0 (some 19) (.c (.fn 43 [] [])) [(T 17), (T 18)] [some .tm, some .tm] (.p .int)), .gd 12 true (some 20) (o 20 (.bi .lss (T 19) (.c (.v .int (0 : Int))))), o 21 (.pk (T 12) (T 20) (.c (.v .bool false)))])
  (.cond (T 21) .skip
    (.exit 0)))
  (.block 1 (.ops [o 22 (.mv (T 5)), o 23 (.inc 22 .i64), o 5 (.mv (T 23))])))))
  (.seq (.jn ⟨[(4, .ptr 0 0 []), (37, .p .bool)], [.keep], [2, 3, 5]⟩ (.draw [o 24 (.mv (T 5)), o 25 (.fa .sequent 0 (T 2)), o 26 (.ldi .ltm (T 25)), o 27 (.len (T 26)), o 28 (.bi .lss (T 24) (T 27)), o 29 (.mv (T 28)), .gd 29 true (some 30) (o 30 (.fa .sequent 0 (T 2))), .gd 29 true (some 31) (o 31 (.ldi .ltm (T 30))), .gd 29 true (some 32) (o 32 (.mv (T 5))), .gd 29 true (some 33) (o 33 (.ia .tm (T 31) (T 32))), .gd 29 true (some 34) (o 34 (.ld .tm (T 33))), .gd 29 true (some 35) (o 35 (.ldi .tm (T 3))), .gd 29 true (some 36) (.call 0 (some 36) (.c (.fn 15 [] [])) [(T 34), (T 35)] [some .tm, some .tm] (.p .bool)), o 37 (.pk (T 29) (T 36) (.c (.v .bool false)))])
  (.cond (T 37) (.seq (.ops [o 38 (.ld .sequent (T 2)), .a none (.st 0 .sequent (T 4) (T 38))])
    .ret)
    .skip))
  (.seq (.ops [o 6 (.mv (.c (.ns .tm)))])
  (.seq (.ops [o 39 (.mv (T 6)), o 40 (.fa .sequent 0 (T 2)), o 41 (.ld .ltm (T 40)), o 42 (.mv (T 5)), o 43 (.slc .tm (T 41) none (some (T 42)) none), .a (some 44) (.app 27 .tm (T 39) (T 43)), o 6 (.mv (T 44))])
  (.seq (.ops [o 45 (.mv (T 6)), o 46 (.ld .tm (T 3)), o 47 (.bsl .tm [(T 46)]), .a (some 48) (.app 27 .tm (T 45) (T 47)), o 6 (.mv (T 48))])
  (.seq (.ops [o 49 (.mv (T 6)), o 50 (.fa .sequent 0 (T 2)), o 51 (.ld .ltm (T 50)), o 52 (.mv (T 5)), o 53 (.slc .tm (T 51) (some (T 52)) none none), .a (some 54) (.app 27 .tm (T 49) (T 53)), o 6 (.mv (T 54))])
  (.seq (.ops [o 55 (.mv (T 6)), o 56 (.fa .sequent 1 (T 2)), o 57 (.ld .tm (T 56)), o 58 (.bld .sequent [.ns .tm, .ag .tm [.v .u8 (0 : Int), .v .str (⟨#[]⟩ : ByteArray), .ag .ty [.v .bool false, .v .str (⟨#[]⟩ : ByteArray), .ns .ty], .v .int (0 : Int), .ns .tm]] [(0, (T 55)), (1, (T 57))]), .a none (.st 0 .sequent (T 4) (T 58))])
  .ret)))))))))⟩
/-- sequent/goal.Same -/
def c34 : XFn G := ⟨17, [.t 4], .pure [.p .bool],
  (.seq (.ops [o 2 (.bx (T 0)), o 3 (.bx (T 1)), o 4 (.mv (.c (.v .bool false)))])
  (.seq (.ops [o 5 (.fa .sequent 0 (T 2)), o 6 (.ld .ltm (T 5)), o 7 (.fa .sequent 0 (T 3)), o 8 (.ld .ltm (T 7)), .call 0 (some 9) (.c (.fn 70 [] [])) [(T 6), (T 8), (.c (.fn 62 [] []))] [some .ltm, some .ltm] (.p .bool), o 10 (.mv (T 9)), .gd 10 true (some 11) (o 11 (.fa .sequent 1 (T 2))), .gd 10 true (some 12) (o 12 (.ld .tm (T 11))), .gd 10 true (some 13) (o 13 (.fa .sequent 1 (T 3))), .gd 10 true (some 14) (o 14 (.ld .tm (T 13))), .gd 10 true (some 15) (.call 0 (some 15) (.c (.fn 62 [] [])) [(T 12), (T 14)] [some .tm, some .tm] (.p .bool)), o 16 (.pk (T 10) (T 15) (.c (.v .bool false))), o 4 (.mv (T 16))])
  .ret))⟩
/-- sequent/sequentref08.Great -/
def c35 : XFn G := ⟨35, [.t 2], .pure [.p .bool],
  (.seq (.ops [o 1 (.bx (T 0)), o 2 (.mv (.c (.v .bool false)))])
  (.seq (.ops [o 5 (.fa .sequent 1 (T 1)), o 6 (.ld .tm (T 5)), .call 0 (some 7) (.c (.fn 22 [] [])) [(T 6)] [some .tm] (.p .bool), o 3 (.mv (T 7))])
  (.seq (.seq (.ops [o 4 (.mv (.c (.v .int (0 : Int))))])
  (.block 0 (.loop ⟨[(3, .p .bool), (4, .p .int)], [], [1]⟩ (.seq (.jn ⟨[(16, .p .bool)], [], [1, 3, 4]⟩ (.ops [o 8 (.mv (T 4)), o 9 (.fa .sequent 0 (T 1)), o 10 (.ld .ltm (T 9)), o 11 (.len (T 10)), o 12 (.bi .lss (T 8) (T 11)), o 13 (.mv (T 12)), .gd 13 true (some 14) (o 14 (.mv (T 4))), .gd 13 true (some 15) (o 15 (.bi .lss (T 14) (.c (.v .int (80 : Int))))), o 16 (.pk (T 13) (T 15) (.c (.v .bool false)))])
  (.cond (T 16) .skip
    (.exit 0)))
  (.jn ⟨[(3, .p .bool)], [], [1, 4]⟩ (.block 1 (.ops [o 19 (.mv (T 3)), o 20 (.mv (T 19)), .gd 20 false (some 21) (o 21 (.fa .sequent 0 (T 1))), .gd 20 false (some 22) (o 22 (.ld .ltm (T 21))), .gd 20 false (some 23) (o 23 (.mv (T 4))), .gd 20 false (some 24) (o 24 (.ia .tm (T 22) (T 23))), .gd 20 false (some 25) (o 25 (.ld .tm (T 24))), .gd 20 false (some 26) (.call 0 (some 26) (.c (.fn 22 [] [])) [(T 25)] [some .tm] (.p .bool)), o 27 (.pk (T 20) (.c (.v .bool true)) (T 26)), o 3 (.mv (T 27))]))
  (.ops [o 17 (.mv (T 4)), o 18 (.inc 17 .i64), o 4 (.mv (T 18))]))))))
  (.seq (.ops [o 28 (.mv (T 3)), o 29 (.mv (T 28)), .gd 29 false (some 30) (o 30 (.fa .sequent 0 (T 1))), .gd 29 false (some 31) (o 31 (.ld .ltm (T 30))), .gd 29 false (some 32) (o 32 (.len (T 31))), .gd 29 false (some 33) (o 33 (.bi .gtr (T 32) (.c (.v .int (80 : Int))))), o 34 (.pk (T 29) (.c (.v .bool true)) (T 33)), o 2 (.mv (T 34))])
  .ret))))⟩
/-- sequent/sequentref02.Checks -/
def c37 : XFn G := ⟨19, [.t 2], .pure [.p .int],
  (.seq (.ops [o 2 (.mv (.c (.v .int (0 : Int))))])
  (.seq (.seq (.ops [o 3 (.mv (.c (.v .int (0 : Int))))])
  (.block 0 (.loop ⟨[(3, .p .int)], [], [0]⟩ (.seq (.seq (.ops [o 5 (.mv (T 3)), o 6 (.mv (T 0)), o 7 (.len (T 6)), o 8 (.bi .lss (T 5) (T 7))])
  (.cond (T 8) .skip
    (.exit 0)))
  (.seq (.block 1 (.seq (.ops [o 11 (.mv (T 0)), o 12 (.mv (T 3)), o 13 (.ia .tm (T 11) (T 12)), o 14 (.ld .tm (T 13)), .call 0 (some 15) (.c (.fn 73 [] [])) [(T 14)] [some .tm] (.p .int), o 4 (.mv (T 15))])
  (.seq (.ops [o 16 (.mv (T 4)), o 17 (.bi .neq (T 16) (.c (.v .int (0 : Int))))])
  (.cond (T 17) (.seq (.ops [o 18 (.mv (T 4)), o 2 (.mv (T 18))])
    .ret)
    .skip))))
  (.ops [o 9 (.mv (T 3)), o 10 (.inc 9 .i64), o 3 (.mv (T 10))]))))))
  (.seq (.ops [o 2 (.mv (.c (.v .int (0 : Int))))])
  .ret)))⟩
/-- sequent/sequentref02.Compare -/
def c43 : XFn G := ⟨96, [.t 4], .pure [.p .int],
  (.seq (.ops [o 2 (.bx (T 0)), o 3 (.bx (T 1)), o 4 (.mv (.c (.v .int (0 : Int))))])
  (.seq (.ops [o 7 (.fa .tm 0 (T 2)), o 8 (.ld .u8 (T 7)), o 9 (.fa .tm 0 (T 3)), o 10 (.ld .u8 (T 9)), o 11 (.bi .lss (T 8) (T 10)), o 12 (.fa .tm 0 (T 2)), o 13 (.ld .u8 (T 12)), o 14 (.fa .tm 0 (T 3)), o 15 (.ld .u8 (T 14)), o 16 (.bi .eql (T 13) (T 15)), .call 0 (some 17) (.c (.fn 79 [] [])) [(T 11), (T 16)] [some .bool, some .bool] (.p .int), o 5 (.mv (T 17))])
  (.jn ⟨[(5, .p .int)], [], [2, 3]⟩ (.jn ⟨[(24, .p .bool)], [], [2, 3, 5]⟩ (.ops [o 18 (.mv (T 5)), o 19 (.bi .eql (T 18) (.c (.v .int (0 : Int)))), o 20 (.mv (T 19)), .gd 20 true (some 21) (o 21 (.fa .tm 0 (T 2))), .gd 20 true (some 22) (o 22 (.ld .u8 (T 21))), .gd 20 true (some 23) (o 23 (.bi .neq (T 22) (.c (.v .u8 (5 : Int))))), o 24 (.pk (T 20) (T 23) (.c (.v .bool false)))])
  (.cond (T 24) (.ops [o 25 (.fa .tm 1 (T 2)), o 26 (.ld .str (T 25)), o 27 (.fa .tm 1 (T 3)), o 28 (.ld .str (T 27)), o 29 (.bi .lss (T 26) (T 28)), o 30 (.fa .tm 1 (T 2)), o 31 (.ld .str (T 30)), o 32 (.fa .tm 1 (T 3)), o 33 (.ld .str (T 32)), o 34 (.bi .eql (T 31) (T 33)), .call 0 (some 35) (.c (.fn 79 [] [])) [(T 29), (T 34)] [some .bool, some .bool] (.p .int), o 5 (.mv (T 35))])
    .skip))
  (.jn ⟨[(5, .p .int)], [], [2, 3]⟩ (.seq (.ops [o 36 (.mv (T 5)), o 37 (.bi .eql (T 36) (.c (.v .int (0 : Int))))])
  (.cond (T 37) (.ops [o 38 (.fa .tm 2 (T 2)), o 39 (.ld .ty (T 38)), o 40 (.fa .tm 2 (T 3)), o 41 (.ld .ty (T 40)), .call 0 (some 42) (.c (.fn 80 [] [])) [(T 39), (T 41)] [some .ty, some .ty] (.p .int), o 5 (.mv (T 42))])
    .skip))
  (.jn ⟨[(5, .p .int)], [], [2, 3]⟩ (.seq (.ops [o 43 (.mv (T 5)), o 44 (.bi .eql (T 43) (.c (.v .int (0 : Int))))])
  (.cond (T 44) (.ops [o 45 (.fa .tm 3 (T 2)), o 46 (.ld .int (T 45)), o 47 (.fa .tm 3 (T 3)), o 48 (.ld .int (T 47)), o 49 (.bi .lss (T 46) (T 48)), o 50 (.fa .tm 3 (T 2)), o 51 (.ld .int (T 50)), o 52 (.fa .tm 3 (T 3)), o 53 (.ld .int (T 52)), o 54 (.bi .eql (T 51) (T 53)), .call 0 (some 55) (.c (.fn 79 [] [])) [(T 49), (T 54)] [some .bool, some .bool] (.p .int), o 5 (.mv (T 55))])
    .skip))
  (.jn ⟨[(5, .p .int)], [], [2, 3]⟩ (.seq (.ops [o 56 (.mv (T 5)), o 57 (.bi .eql (T 56) (.c (.v .int (0 : Int))))])
  (.cond (T 57) (.ops [o 58 (.fa .tm 4 (T 2)), o 59 (.ld .ltm (T 58)), o 60 (.len (T 59)), o 61 (.fa .tm 4 (T 3)), o 62 (.ld .ltm (T 61)), o 63 (.len (T 62)), o 64 (.bi .lss (T 60) (T 63)), o 65 (.fa .tm 4 (T 2)), o 66 (.ld .ltm (T 65)), o 67 (.len (T 66)), o 68 (.fa .tm 4 (T 3)), o 69 (.ld .ltm (T 68)), o 70 (.len (T 69)), o 71 (.bi .eql (T 67) (T 70)), .call 0 (some 72) (.c (.fn 79 [] [])) [(T 64), (T 71)] [some .bool, some .bool] (.p .int), o 5 (.mv (T 72))])
    .skip))
  (.seq (.seq (.ops [o 6 (.mv (.c (.v .int (0 : Int))))])
  (.block 0 (.loop ⟨[(5, .p .int), (6, .p .int)], [], [2, 3]⟩ (.seq (.jn ⟨[(81, .p .bool)], [], [2, 3, 5, 6]⟩ (.ops [o 73 (.mv (T 5)), o 74 (.bi .eql (T 73) (.c (.v .int (0 : Int)))), o 75 (.mv (T 74)), .gd 75 true (some 76) (o 76 (.mv (T 6))), .gd 75 true (some 77) (o 77 (.fa .tm 4 (T 2))), .gd 75 true (some 78) (o 78 (.ld .ltm (T 77))), .gd 75 true (some 79) (o 79 (.len (T 78))), .gd 75 true (some 80) (o 80 (.bi .lss (T 76) (T 79))), o 81 (.pk (T 75) (T 80) (.c (.v .bool false)))])
  (.cond (T 81) .skip
    (.exit 0)))
  (.seq (.block 1 (.draw [o 84 (.fa .tm 4 (T 2)), o 85 (.ldi .ltm (T 84)), o 86 (.mv (T 6)), o 87 (.ia .tm (T 85) (T 86)), o 88 (.ld .tm (T 87)), o 89 (.fa .tm 4 (T 3)), o 90 (.ldi .ltm (T 89)), o 91 (.mv (T 6)), o 92 (.ia .tm (T 90) (T 91)), o 93 (.ld .tm (T 92)), .call 0 (some 94) (.c (.fn 43 [] [])) [(T 88), (T 93)] [some .tm, some .tm] (.p .int), o 5 (.mv (T 94))]))
  (.ops [o 82 (.mv (T 6)), o 83 (.inc 82 .i64), o 6 (.mv (T 83))]))))))
  (.seq (.ops [o 95 (.mv (T 5)), o 4 (.mv (T 95))])
  .ret))))))))⟩
/-- sequent/prove.Bool -/
def c45 : XFn G := ⟨2, [.c 0 .ty], .pure [.p .ty],
  (.seq (.ops [.a (some 0) (.alm 24 (.ag .ty [.v .bool false, .v .str (⟨#[]⟩ : ByteArray), .ns .ty]))])
  (.seq (.ops [.call 0 (some 1) (.c (.fn 82 [] [])) [] [] (.p .ty), .a none (.st 0 .ty (T 0) (T 1))])
  .ret))⟩
/-- sequent/terms.Check -/
def c46 : XFn G := ⟨11, [.t 2], .pure [.p .int],
  (.seq (.ops [o 1 (.bx (T 0)), o 2 (.mv (.c (.v .int (0 : Int))))])
  (.seq (.ops [o 6 (.ld .tm (T 1)), .call 0 (some 7) (.c (.fn 83 [] [])) [(T 6)] [some .tm] (.tup [.p .ty, .p .int]), o 5 (.mv (T 7)), o 8 (.ext (T 5) 0), o 9 (.ext (T 5) 1), .a (some 3) (.alm 24 (.ag .ty [.v .bool false, .v .str (⟨#[]⟩ : ByteArray), .ns .ty])), .a none (.st 0 .ty (T 3) (T 8)), o 4 (.mv (T 9))])
  (.seq (.ops [o 10 (.mv (T 4)), o 2 (.mv (T 10))])
  .ret)))⟩
/-- sequent/terms.TypeOf -/
def c49 : XFn G := ⟨14, [.c 2 .ty, .t 3], .pure [.p .ty, .p .int],
  (.seq (.ops [o 1 (.bx (T 0)), .a (some 2) (.alm 24 (.ag .ty [.v .bool false, .v .str (⟨#[]⟩ : ByteArray), .ns .ty])), o 3 (.mv (.c (.v .int (0 : Int))))])
  (.seq (.ops [o 7 (.ld .tm (T 1)), .call 0 (some 8) (.c (.fn 83 [] [])) [(T 7)] [some .tm] (.tup [.p .ty, .p .int]), o 6 (.mv (T 8)), o 9 (.ext (T 6) 0), o 10 (.ext (T 6) 1), .a (some 4) (.alm 24 (.ag .ty [.v .bool false, .v .str (⟨#[]⟩ : ByteArray), .ns .ty])), .a none (.st 0 .ty (T 4) (T 9)), o 5 (.mv (T 10))])
  (.seq (.ops [o 11 (.ld .ty (T 4)), .call 0 (some 12) (.c (.fn 81 [] [])) [(T 11)] [some .ty] (.p .ty), o 13 (.mv (T 5)), .a none (.st 0 .ty (T 2) (T 12)), o 3 (.mv (T 13))])
  .ret)))⟩
/-- sequent/types.Same -/
def c51 : XFn G := ⟨9, [.t 4], .pure [.p .bool],
  (.seq (.ops [o 2 (.bx (T 0)), o 3 (.bx (T 1)), o 4 (.mv (.c (.v .bool false)))])
  (.seq (.ops [o 5 (.ld .ty (T 2)), o 6 (.ld .ty (T 3)), .call 0 (some 7) (.c (.fn 86 [] [])) [(T 5), (T 6)] [some .ty, some .ty] (.p .int), o 8 (.bi .eql (T 7) (.c (.v .int (0 : Int)))), o 4 (.mv (T 8))])
  .ret))⟩
/-- sequent/terms.Twin -/
def c52 : XFn G := ⟨35, [.c 2 .tm], .pure [.p .tm],
  (.seq (.ops [.a (some 1) (.bxm 27 (T 0)), .a (some 2) (.alm 27 (.ag .tm [.v .u8 (0 : Int), .v .str (⟨#[]⟩ : ByteArray), .ag .ty [.v .bool false, .v .str (⟨#[]⟩ : ByteArray), .ns .ty], .v .int (0 : Int), .ns .tm]))])
  (.seq (.ops [o 6 (.fa .tm 4 (T 1)), o 7 (.ld .ltm (T 6)), o 3 (.mv (T 7))])
  (.seq (.ops [o 8 (.fa .tm 2 (T 1)), o 9 (.ld .ty (T 8)), .call 0 (some 10) (.c (.fn 81 [] [])) [(T 9)] [some .ty] (.p .ty), o 11 (.fa .tm 2 (T 1)), .a none (.st 0 .ty (T 11) (T 10)), o 12 (.fa .tm 4 (T 1)), .a none (.st 0 .ltm (T 12) (.c (.ns .tm)))])
  (.jn ⟨[(1, .ptr 0 0 []), (2, .ptr 1 0 [])], [.box 27 (.ag .tm [.p .u8, .p .str, .p .ty, .p .int, .row 2]), .keep, .row 27 .ltm], [3]⟩ (.th (.seq (.ops [o 13 (.mv (T 3)), o 14 (.len (T 13)), o 15 (.bi .gtr (T 14) (.c (.v .int (0 : Int))))])
  (.cond (T 15) (.ops [o 16 (.mv (T 3)), o 17 (.len (T 16)), .a (some 18) (.mks 27 .tm (Tm.mk 0 (⟨#[]⟩ : ByteArray) (Ty.mk false (⟨#[]⟩ : ByteArray) []) 0 []) (T 17)), o 19 (.fa .tm 4 (T 1)), .a none (.st 0 .ltm (T 19) (T 18))])
    .skip)) [.adB 0 [4] 27 .tm])
  (.seq (.seq (.ops [o 20 (.mv (T 3)), o 21 (.len (T 20)), o 22 (.mv (.c (.v .int (0 : Int))))])
  (.block 0 (.loop ⟨[(1, .ptr 0 0 []), (2, .ptr 1 0 []), (22, .p .int)], [.keep, .keep, .row 27 .ltm], [20, 21]⟩ (.seq (.ops [o 23 (.bi .lss (T 22) (T 21))])
  (.seq (.cond (T 23) .skip
    (.exit 0))
  (.seq (.block 1 (.seq (.ops [o 24 (.mv (T 22)), o 25 (.ia .tm (T 20) (T 22)), o 26 (.ld .tm (T 25)), .a (some 5) (.alm 27 (.ag .tm [.v .u8 (0 : Int), .v .str (⟨#[]⟩ : ByteArray), .ag .ty [.v .bool false, .v .str (⟨#[]⟩ : ByteArray), .ns .ty], .v .int (0 : Int), .ns .tm])), o 4 (.mv (T 24)), .a none (.st 0 .tm (T 5) (T 26))])
  (.draw [o 27 (.fa .tm 4 (T 1)), o 28 (.ld .ltm (T 27)), o 29 (.mv (T 4)), o 30 (.ld .tm (T 5)), .call 0 (some 31) (.c (.fn 52 [] [])) [(T 30)] [some .tm] (.p .tm), o 32 (.ia .tm (T 28) (T 29)), .a none (.st 2 .tm (T 32) (T 31))])))
  (.ops [o 33 (.inc 22 .i64), o 22 (.mv (T 33))])))))))
  (.seq (.ops [o 34 (.ld .tm (T 1)), .a none (.st 0 .tm (T 2) (T 34))])
  .ret))))))⟩
/-- sequent/sequentref01.Same -/
def c53 : XFn G := ⟨9, [.t 4], .pure [.p .bool],
  (.seq (.ops [o 2 (.bx (T 0)), o 3 (.bx (T 1)), o 4 (.mv (.c (.v .bool false)))])
  (.seq (.ops [o 5 (.ld .ty (T 2)), o 6 (.ld .ty (T 3)), .call 0 (some 7) (.c (.fn 80 [] [])) [(T 5), (T 6)] [some .ty, some .ty] (.p .int), o 8 (.bi .eql (T 7) (.c (.v .int (0 : Int)))), o 4 (.mv (T 8))])
  .ret))⟩
/-- sequent/sequentref02.count -/
def c56 : XFn G := ⟨43, [.t 6], .pure [.p .int],
  (.seq (.ops [o 3 (.bx (T 0)), o 6 (.mv (.c (.v .int (0 : Int))))])
  (.seq (.jn ⟨[(14, .p .bool)], [], [1, 2, 3]⟩ (.ops [o 8 (.mv (T 2)), o 9 (.bi .eql (T 8) (.c (.v .int (0 : Int)))), o 10 (.mv (T 9)), .gd 10 false (some 11) (o 11 (.fa .tm 2 (T 3))), .gd 10 false (some 12) (o 12 (.ld .ty (T 11))), .gd 10 false (some 13) (.call 0 (some 13) (.c (.fn 90 [] [])) [(T 12)] [some .ty] (.p .bool)), o 14 (.pk (T 10) (.c (.v .bool true)) (T 13))])
  (.cond (T 14) (.seq (.ops [o 6 (.mv (.c (.v .int (0 : Int))))])
    .ret)
    .skip))
  (.seq (.ops [o 15 (.mv (T 1)), o 16 (.dcr 15 .i64), o 17 (.fa .tm 1 (T 3)), o 18 (.ld .str (T 17)), o 19 (.lens (T 18)), o 20 (.bi .quo (T 19) (.c (.v .int (100 : Int)))), o 21 (.bi .sub (T 16) (T 20)), o 1 (.mv (T 21))])
  (.seq (.seq (.ops [o 7 (.mv (.c (.v .int (0 : Int))))])
  (.block 0 (.loop ⟨[(1, .p .int), (7, .p .int)], [], [2, 3]⟩ (.seq (.jn ⟨[(30, .p .bool)], [], [1, 2, 3, 7]⟩ (.ops [o 22 (.mv (T 7)), o 23 (.fa .tm 4 (T 3)), o 24 (.ld .ltm (T 23)), o 25 (.len (T 24)), o 26 (.bi .lss (T 22) (T 25)), o 27 (.mv (T 26)), .gd 27 true (some 28) (o 28 (.mv (T 1))), .gd 27 true (some 29) (o 29 (.bi .gtr (T 28) (.c (.v .int (0 : Int))))), o 30 (.pk (T 27) (T 29) (.c (.v .bool false)))])
  (.cond (T 30) .skip
    (.exit 0)))
  (.seq (.block 1 (.ops [o 33 (.fa .tm 4 (T 3)), o 34 (.ld .ltm (T 33)), o 35 (.mv (T 7)), o 36 (.ia .tm (T 34) (T 35)), o 37 (.ld .tm (T 36)), o 38 (.mv (T 1)), o 39 (.mv (T 2)), o 40 (.dcr 39 .i64), .call 0 (some 41) (.c (.fn 56 [] [])) [(T 37), (T 38), (T 40)] [some .tm, some .int, some .int] (.p .int), o 1 (.mv (T 41))]))
  (.ops [o 31 (.mv (T 7)), o 32 (.inc 31 .i64), o 7 (.mv (T 32))]))))))
  (.seq (.ops [o 42 (.mv (T 1)), o 6 (.mv (T 42))])
  .ret)))))⟩
/-- sequent/sequentref02.Small -/
def c57 : XFn G := ⟨11, [.t 2], .pure [.p .bool],
  (.seq (.ops [o 1 (.bx (T 0)), o 2 (.mv (.c (.v .bool false)))])
  (.seq (.ops [o 3 (.ld .tm (T 1)), .call 0 (some 4) (.c (.fn 91 [] [])) [(T 3)] [some .tm] (.p .int), o 5 (.bi .leq (T 4) (.c (.v .int (32000 : Int)))), o 6 (.mv (T 5)), .gd 6 true (some 7) (o 7 (.ld .tm (T 1))), .gd 6 true (some 8) (.call 0 (some 8) (.c (.fn 92 [] [])) [(T 7)] [some .tm] (.p .int)), .gd 6 true (some 9) (o 9 (.bi .leq (T 8) (.c (.v .int (300 : Int))))), o 10 (.pk (T 6) (T 9) (.c (.v .bool false))), o 2 (.mv (T 10))])
  .ret))⟩
/-- sequent/sequentref02.Twin -/
def c58 : XFn G := ⟨34, [.c 2 .tm], .pure [.p .tm],
  (.seq (.ops [o 1 (.bx (T 0)), .a (some 2) (.alm 27 (.ag .tm [.v .u8 (0 : Int), .v .str (⟨#[]⟩ : ByteArray), .ag .ty [.v .bool false, .v .str (⟨#[]⟩ : ByteArray), .ns .ty], .v .int (0 : Int), .ns .tm]))])
  (.seq (.draw [o 5 (.fa .tm 0 (T 1)), o 6 (.ldi .u8 (T 5)), o 7 (.fa .tm 1 (T 1)), o 8 (.ldi .str (T 7)), o 9 (.fa .tm 2 (T 1)), o 10 (.ldi .ty (T 9)), .call 0 (some 11) (.c (.fn 88 [] [])) [(T 10)] [some .ty] (.p .ty), o 12 (.fa .tm 3 (T 1)), o 13 (.ldi .int (T 12)), o 14 (.bld .tm [.v .u8 (0 : Int), .v .str (⟨#[]⟩ : ByteArray), .ag .ty [.v .bool false, .v .str (⟨#[]⟩ : ByteArray), .ns .ty], .v .int (0 : Int), .ns .tm] [(0, (T 6)), (1, (T 8)), (2, (T 11)), (3, (T 13))]), .a (some 3) (.alm 27 (.ag .tm [.v .u8 (0 : Int), .v .str (⟨#[]⟩ : ByteArray), .ag .ty [.v .bool false, .v .str (⟨#[]⟩ : ByteArray), .ns .ty], .v .int (0 : Int), .ns .tm])), .a none (.st 1 .tm (T 3) (T 14))])
  (.seq (.seq (.ops [o 4 (.mv (.c (.v .int (0 : Int))))])
  (.block 0 (.ps [.adB 1 [4] 27 .tm] (.loop ⟨[(2, .ptr 0 0 []), (3, .ptr 1 0 []), (4, .p .int)], [.keep, .box 27 (.ag .tm [.p .u8, .p .str, .p .ty, .p .int, .row 2]), .row 27 .ltm], [1]⟩ (.seq (.seq (.ops [o 15 (.mv (T 4)), o 16 (.fa .tm 4 (T 1)), o 17 (.ld .ltm (T 16)), o 18 (.len (T 17)), o 19 (.bi .lss (T 15) (T 18))])
  (.cond (T 19) .skip
    (.exit 0)))
  (.seq (.block 1 (.draw [o 22 (.fa .tm 4 (T 3)), o 23 (.ld .ltm (T 22)), o 24 (.fa .tm 4 (T 1)), o 25 (.ldi .ltm (T 24)), o 26 (.mv (T 4)), o 27 (.ia .tm (T 25) (T 26)), o 28 (.ld .tm (T 27)), .call 0 (some 29) (.c (.fn 58 [] [])) [(T 28)] [some .tm] (.p .tm), o 30 (.bsl .tm [(T 29)]), .a (some 31) (.app 27 .tm (T 23) (T 30)), o 32 (.fa .tm 4 (T 3)), .a none (.st 1 .ltm (T 32) (T 31))]))
  (.ops [o 20 (.mv (T 4)), o 21 (.inc 20 .i64), o 4 (.mv (T 21))])))))))
  (.seq (.ops [o 33 (.ld .tm (T 3)), .a none (.st 0 .tm (T 2) (T 33))])
  .ret))))⟩
/-- slices.IndexFunc[[]sequent/api.Term,sequent/api.Term] -/
def c59 : XFn G := ⟨19, [.t 4], .pure [.p .int],
  (.seq (.ops [o 4 (.mv (.c (.v .int (0 : Int))))])
  (.seq (.seq (.ops [o 6 (.mv (T 0)), o 7 (.len (T 6)), o 8 (.mv (.c (.v .int (0 : Int))))])
  (.block 0 (.loop ⟨[(8, .p .int)], [], [0, 1, 7]⟩ (.seq (.ops [o 9 (.bi .lss (T 8) (T 7))])
  (.seq (.cond (T 9) .skip
    (.exit 0))
  (.seq (.block 1 (.seq (.ops [o 10 (.mv (T 8)), o 5 (.mv (T 10))])
  (.seq (.ops [o 11 (.mv (T 1)), o 12 (.mv (T 0)), o 13 (.mv (T 5)), o 14 (.ia .tm (T 12) (T 13)), o 15 (.ld .tm (T 14)), .call 0 (some 16) (T 11) [(T 15)] [some .tm] (.p .bool)])
  (.cond (T 16) (.seq (.ops [o 17 (.mv (T 5)), o 4 (.mv (T 17))])
    .ret)
    .skip))))
  (.ops [o 18 (.inc 8 .i64), o 8 (.mv (T 18))])))))))
  (.seq (.ops [o 4 (.mv (.c (.v .int ((-1) : Int))))])
  .ret)))⟩
/-- sequent/goal.With$1 -/
def c60 : XFn G := ⟨8, [.t 3], .pure [.p .bool],
  (.seq (.ops [o 2 (.bx (T 0)), o 3 (.mv (.c (.v .bool false)))])
  (.seq (.ops [o 4 (.ld .tm (T 2)), o 5 (.ld .tm (T 1)), .call 0 (some 6) (.c (.fn 61 [] [])) [(T 4), (T 5)] [some .tm, some .tm] (.p .int), o 7 (.bi .geq (T 6) (.c (.v .int (0 : Int)))), o 3 (.mv (T 7))])
  .ret))⟩
/-- sequent/terms.Compare -/
def c61 : XFn G := ⟨56, [.t 4], .pure [.p .int],
  (.seq (.ops [o 2 (.bx (T 0)), o 3 (.bx (T 1)), o 4 (.mv (.c (.v .int (0 : Int))))])
  (.seq (.seq (.ops [o 8 (.fa .tm 0 (T 2)), o 9 (.ld .u8 (T 8)), o 10 (.fa .tm 0 (T 3)), o 11 (.ld .u8 (T 10)), .call 0 (some 12) (.c (.fn 93 [] [])) [(T 9), (T 11)] [some .u8, some .u8] (.p .int), o 5 (.mv (T 12))])
  (.seq (.ops [o 13 (.mv (T 5)), o 14 (.bi .neq (T 13) (.c (.v .int (0 : Int))))])
  (.cond (T 14) (.seq (.ops [o 15 (.mv (T 5)), o 4 (.mv (T 15))])
    .ret)
    .skip)))
  (.seq (.seq (.ops [o 16 (.fa .tm 1 (T 2)), o 17 (.ld .str (T 16)), o 18 (.fa .tm 1 (T 3)), o 19 (.ld .str (T 18)), .call 0 (some 20) (.c (.fn 94 [] [])) [(T 17), (T 19)] [some .str, some .str] (.p .int), o 6 (.mv (T 20))])
  (.jn ⟨[(27, .p .bool)], [], [2, 3, 6]⟩ (.ops [o 21 (.mv (T 6)), o 22 (.bi .neq (T 21) (.c (.v .int (0 : Int)))), o 23 (.mv (T 22)), .gd 23 true (some 24) (o 24 (.fa .tm 0 (T 2))), .gd 23 true (some 25) (o 25 (.ld .u8 (T 24))), .gd 23 true (some 26) (o 26 (.bi .neq (T 25) (.c (.v .u8 (5 : Int))))), o 27 (.pk (T 23) (T 26) (.c (.v .bool false)))])
  (.cond (T 27) (.seq (.ops [o 28 (.mv (T 6)), o 4 (.mv (T 28))])
    .ret)
    .skip)))
  (.seq (.seq (.draw [o 29 (.fa .tm 2 (T 2)), o 30 (.ldi .ty (T 29)), o 31 (.fa .tm 2 (T 3)), o 32 (.ldi .ty (T 31)), .call 0 (some 33) (.c (.fn 86 [] [])) [(T 30), (T 32)] [some .ty, some .ty] (.p .int), o 34 (.fa .tm 3 (T 2)), o 35 (.ldi .int (T 34)), o 36 (.fa .tm 3 (T 3)), o 37 (.ldi .int (T 36)), .call 0 (some 38) (.c (.fn 96 [] [])) [(T 35), (T 37)] [some .int, some .int] (.p .int), o 39 (.fa .tm 4 (T 2)), o 40 (.ldi .ltm (T 39)), o 41 (.len (T 40)), o 42 (.fa .tm 4 (T 3)), o 43 (.ldi .ltm (T 42)), o 44 (.len (T 43)), .call 0 (some 45) (.c (.fn 96 [] [])) [(T 41), (T 44)] [some .int, some .int] (.p .int), o 46 (.bsl .int [(T 33), (T 38), (T 45)]), .call 0 (some 47) (.c (.fn 95 [] [])) [(T 46)] [some .lint] (.p .int), o 7 (.mv (T 47))])
  (.seq (.ops [o 48 (.mv (T 7)), o 49 (.bi .neq (T 48) (.c (.v .int (0 : Int))))])
  (.cond (T 49) (.seq (.ops [o 50 (.mv (T 7)), o 4 (.mv (T 50))])
    .ret)
    .skip)))
  (.seq (.ops [o 51 (.fa .tm 4 (T 2)), o 52 (.ld .ltm (T 51)), o 53 (.fa .tm 4 (T 3)), o 54 (.ld .ltm (T 53)), .call 0 (some 55) (.c (.fn 97 [] [])) [(T 52), (T 54), (.c (.fn 61 [] []))] [some .ltm, some .ltm] (.p .int), o 4 (.mv (T 55))])
  .ret)))))⟩
/-- sequent/terms.Same -/
def c62 : XFn G := ⟨9, [.t 4], .pure [.p .bool],
  (.seq (.ops [o 2 (.bx (T 0)), o 3 (.bx (T 1)), o 4 (.mv (.c (.v .bool false)))])
  (.seq (.ops [o 5 (.ld .tm (T 2)), o 6 (.ld .tm (T 3)), .call 0 (some 7) (.c (.fn 61 [] [])) [(T 5), (T 6)] [some .tm, some .tm] (.p .int), o 8 (.bi .eql (T 7) (.c (.v .int (0 : Int)))), o 4 (.mv (T 8))])
  .ret))⟩
/-- slices.Delete[[]sequent/api.Term,sequent/api.Term] -/
def c64v1 : XFn G := ⟨33, [.t 6], .own 1 ho64v1 [.row 0],
  (.seq (.ops [o 6 (.mv (.c (.ns .tm)))])
  (.seq (.ops [o 8 (.mv (T 0)), o 9 (.mv (T 1)), o 10 (.mv (T 2)), o 11 (.mv (T 0)), o 12 (.len (T 11)), o 13 (.rsl .tm (T 8) (some (T 9)) (some (T 10)) (some (T 12)))])
  (.seq (.seq (.ops [o 14 (.mv (T 1)), o 15 (.mv (T 2)), o 16 (.bi .eql (T 14) (T 15))])
  (.cond (T 16) (.seq (.ops [o 17 (.mv (T 0)), o 6 (.mv (T 17))])
    .ret)
    .skip))
  (.seq (.ops [o 18 (.mv (T 0)), o 19 (.len (T 18)), o 7 (.mv (T 19))])
  (.seq (.draw [o 20 (.mv (T 0)), o 21 (.mv (T 1)), o 22 (.rsl .tm (T 20) none (some (T 21)) none), o 23 (.mv (T 0)), o 24 (.mv (T 2)), o 25 (.rsl .tm (T 23) (some (T 24)) none none), .a (some 26) (.apv 27 .tm (T 22) (T 25)), o 0 (.mv (T 26))])
  (.seq (.ops [o 27 (.mv (T 0)), o 28 (.mv (T 0)), o 29 (.len (T 28)), o 30 (.mv (T 7)), o 31 (.rsl .tm (T 27) (some (T 29)) (some (T 30)) none), .a none (.clr .tm (Tm.mk 0 (⟨#[]⟩ : ByteArray) (Ty.mk false (⟨#[]⟩ : ByteArray) []) 0 []) (T 31))])
  (.seq (.ops [o 32 (.mv (T 0)), o 6 (.mv (T 32))])
  (.ps [.tr 6] .ret))))))))⟩
/-- sequent/goal.Find$1 -/
def c65 : XFn G := ⟨7, [.t 3], .pure [.p .bool],
  (.seq (.ops [o 2 (.bx (T 0)), o 3 (.mv (.c (.v .bool false)))])
  (.seq (.ops [o 4 (.ld .tm (T 2)), o 5 (.ld .tm (T 1)), .call 0 (some 6) (.c (.fn 62 [] [])) [(T 4), (T 5)] [some .tm, some .tm] (.p .bool), o 3 (.mv (T 6))])
  .ret))⟩
/-- sequent/subst.Variant -/
def c66 : XFn G := ⟨66, [.c 4 .tm, .t 5], .pure [.p .tm, .p .int],
  (.seq (.ops [o 3 (.bx (T 1)), .a (some 4) (.alm 27 (.ag .tm [.v .u8 (0 : Int), .v .str (⟨#[]⟩ : ByteArray), .ag .ty [.v .bool false, .v .str (⟨#[]⟩ : ByteArray), .ns .ty], .v .int (0 : Int), .ns .tm])), o 5 (.mv (.c (.v .int (0 : Int))))])
  (.seq (.ops [o 6 (.mv (.c (.ns .str)))])
  (.seq (.seq (.ops [o 16 (.mv (T 0)), o 17 (.len (T 16)), o 18 (.mv (.c (.v .int (0 : Int))))])
  (.block 0 (.ps [.adT 6 9 .str] (.loop ⟨[(4, .ptr 0 0 []), (6, .row 1), (18, .p .int)], [.box 27 (.p .tm), .row 9 .lstr], [3, 16, 17]⟩ (.seq (.ops [o 19 (.bi .lss (T 18) (T 17))])
  (.seq (.cond (T 19) .skip
    (.exit 0))
  (.seq (.block 1 (.seq (.ops [o 20 (.ia .tm (T 16) (T 18)), o 21 (.ld .tm (T 20)), .a (some 8) (.alm 27 (.ag .tm [.v .u8 (0 : Int), .v .str (⟨#[]⟩ : ByteArray), .ag .ty [.v .bool false, .v .str (⟨#[]⟩ : ByteArray), .ns .ty], .v .int (0 : Int), .ns .tm])), .a none (.st 0 .tm (T 8) (T 21))])
  (.seq (.ops [o 23 (.ld .tm (T 8)), .call 0 (some 24) (.c (.fn 100 [] [])) [(T 23)] [some .tm] (.tup [.p .ltm, .p .int]), o 22 (.mv (T 24)), o 25 (.ext (T 22) 0), o 26 (.ext (T 22) 1), o 9 (.mv (T 25)), o 10 (.mv (T 26))])
  (.seq (.seq (.ops [o 27 (.mv (T 10)), o 28 (.bi .neq (T 27) (.c (.v .int (0 : Int))))])
  (.cond (T 28) (.seq (.ops [o 29 (.bld .tm [.v .u8 (0 : Int), .v .str (⟨#[]⟩ : ByteArray), .ag .ty [.v .bool false, .v .str (⟨#[]⟩ : ByteArray), .ns .ty], .v .int (0 : Int), .ns .tm] []), o 30 (.mv (T 10)), .a none (.st 0 .tm (T 4) (T 29)), o 5 (.mv (T 30))])
    .ret)
    .skip))
  (.seq (.ops [o 31 (.mv (T 9)), o 32 (.len (T 31)), o 33 (.mv (.c (.v .int (0 : Int))))])
  (.block 2 (.loop ⟨[(4, .ptr 0 0 []), (6, .row 1), (33, .p .int)], [.keep, .row 9 .lstr], [3, 16, 17, 18, 31, 32]⟩ (.seq (.ops [o 34 (.bi .lss (T 33) (T 32))])
  (.seq (.cond (T 34) .skip
    (.exit 2))
  (.seq (.block 3 (.seq (.ops [o 35 (.ia .tm (T 31) (T 33)), o 36 (.ld .tm (T 35)), .a (some 12) (.alm 27 (.ag .tm [.v .u8 (0 : Int), .v .str (⟨#[]⟩ : ByteArray), .ag .ty [.v .bool false, .v .str (⟨#[]⟩ : ByteArray), .ns .ty], .v .int (0 : Int), .ns .tm])), .a none (.st 0 .tm (T 12) (T 36))])
  (.ops [o 37 (.mv (T 6)), o 38 (.fa .tm 1 (T 12)), o 39 (.ld .str (T 38)), o 40 (.bsl .str [(T 39)]), .a (some 41) (.app 9 .str (T 37) (T 40)), o 6 (.mv (T 41))])))
  (.ops [o 42 (.inc 33 .i64), o 33 (.mv (T 42))])))))))))))
  (.ops [o 43 (.inc 18 .i64), o 18 (.mv (T 43))]))))))))
  (.seq (.seq (.ops [o 44 (.ld .tm (T 3)), .call 0 (some 45) (.c (.fn 101 [] [])) [(T 44)] [some .tm] (.p .int), o 13 (.mv (T 45))])
  (.seq (.ops [o 46 (.mv (T 13)), o 47 (.bi .neq (T 46) (.c (.v .int (0 : Int))))])
  (.cond (T 47) (.seq (.ops [o 48 (.bld .tm [.v .u8 (0 : Int), .v .str (⟨#[]⟩ : ByteArray), .ag .ty [.v .bool false, .v .str (⟨#[]⟩ : ByteArray), .ns .ty], .v .int (0 : Int), .ns .tm] []), o 49 (.mv (T 13)), .a none (.st 0 .tm (T 4) (T 48)), o 5 (.mv (T 49))])
    .ret)
    .skip)))
  (.seq (.ops [o 50 (.fa .tm 1 (T 3)), o 51 (.ld .str (T 50)), o 14 (.mv (T 51))])
  (.seq (.block 4 (.loop ⟨[(4, .ptr 0 0 []), (6, .row 1), (14, .p .str)], [.keep, .row 9 .lstr], [3, 16, 17, 18]⟩ (.seq (.seq (.ops [o 52 (.mv (T 6)), o 53 (.mv (T 14)), .call 1 (some 54) (.c (.fn 102 [] [])) [(T 52), (T 53)] [some .lstr, some .str] (.p .bool)])
  (.cond (T 54) .skip
    (.exit 4)))
  (.block 5 (.ops [o 55 (.mv (T 14)), o 56 (.bi .add (T 55) (.c (.v .str (⟨#[39]⟩ : ByteArray)))), o 14 (.mv (T 56))])))))
  (.seq (.seq (.ops [o 57 (.mv (T 14)), o 58 (.lens (T 57)), o 59 (.bi .gtr (T 58) (.c (.v .int (30 : Int))))])
  (.cond (T 59) (.seq (.ops [o 60 (.bld .tm [.v .u8 (0 : Int), .v .str (⟨#[]⟩ : ByteArray), .ag .ty [.v .bool false, .v .str (⟨#[]⟩ : ByteArray), .ns .ty], .v .int (0 : Int), .ns .tm] []), .a none (.st 0 .tm (T 4) (T 60)), o 5 (.mv (.c (.v .int (60 : Int))))])
    .ret)
    .skip))
  (.seq (.ops [o 61 (.ld .tm (T 3)), .call 0 (some 62) (.c (.fn 52 [] [])) [(T 61)] [some .tm] (.p .tm), .a (some 15) (.alm 27 (.ag .tm [.v .u8 (0 : Int), .v .str (⟨#[]⟩ : ByteArray), .ag .ty [.v .bool false, .v .str (⟨#[]⟩ : ByteArray), .ns .ty], .v .int (0 : Int), .ns .tm])), .a none (.st 0 .tm (T 15) (T 62))])
  (.seq (.ops [o 63 (.mv (T 14)), o 64 (.fa .tm 1 (T 15)), .a none (.st 0 .str (T 64) (T 63))])
  (.seq (.ops [o 65 (.ld .tm (T 15)), .a none (.st 0 .tm (T 4) (T 65)), o 5 (.mv (.c (.v .int (0 : Int))))])
  .ret))))))))))⟩
/-- slices.Clone[[]sequent/api.Term,sequent/api.Term] -/
def c67 : XFn G := ⟨8, [.t 2], .pure [.p .ltm],
  (.seq (.ops [o 2 (.mv (.c (.ns .tm)))])
  (.seq (.seq (.ops [o 3 (.mv (T 0)), o 4 (.eqn false (T 3))])
  (.cond (T 4) (.seq (.ops [o 2 (.mv (.c (.ns .tm)))])
    .ret)
    .skip))
  (.seq (.ops [.a (some 5) (.bsr 27 .tm), o 6 (.mv (T 0)), .a (some 7) (.app 27 .tm (T 5) (T 6)), o 2 (.mv (T 7))])
  .ret)))⟩
/-- slices.Clone[[]sequent/api.Term,sequent/api.Term] -/
def c67v1 : XFn G := ⟨8, [.t 2], .own 0 ho67v1 [.row 0],
  (.seq (.ops [o 2 (.mv (.c (.ns .tm)))])
  (.seq (.seq (.ops [o 3 (.mv (T 0)), o 4 (.eqn false (T 3))])
  (.cond (T 4) (.seq (.ops [o 2 (.mv (.c (.ns .tm)))])
    (.ps [.adT 2 27 .tm] .ret))
    .skip))
  (.seq (.ops [.a (some 5) (.bsr 27 .tm), o 6 (.mv (T 0)), .a (some 7) (.app 27 .tm (T 5) (T 6)), o 2 (.mv (T 7))])
  .ret)))⟩
/-- sequent/sequentref03.Variant -/
def c68 : XFn G := ⟨36, [.c 4 .tm, .t 5], .pure [.p .tm, .p .int],
  (.seq (.ops [o 3 (.bx (T 1)), .a (some 4) (.alm 27 (.ag .tm [.v .u8 (0 : Int), .v .str (⟨#[]⟩ : ByteArray), .ag .ty [.v .bool false, .v .str (⟨#[]⟩ : ByteArray), .ns .ty], .v .int (0 : Int), .ns .tm])), o 5 (.mv (.c (.v .int (0 : Int))))])
  (.seq (.ops [o 8 (.mv (T 0)), .call 0 (some 9) (.c (.fn 37 [] [])) [(T 8)] [some .ltm] (.p .int), o 6 (.mv (T 9))])
  (.jn ⟨[(4, .ptr 0 0 []), (6, .p .int)], [.keep], [0, 3]⟩ (.seq (.ops [o 10 (.mv (T 6)), o 11 (.bi .eql (T 10) (.c (.v .int (0 : Int))))])
  (.cond (T 11) (.ops [o 12 (.ld .tm (T 3)), .call 0 (some 13) (.c (.fn 73 [] [])) [(T 12)] [some .tm] (.p .int), o 6 (.mv (T 13))])
    .skip))
  (.seq (.seq (.ops [o 14 (.mv (T 6)), o 15 (.bi .neq (T 14) (.c (.v .int (0 : Int))))])
  (.cond (T 15) (.seq (.ops [o 16 (.bld .tm [.v .u8 (0 : Int), .v .str (⟨#[]⟩ : ByteArray), .ag .ty [.v .bool false, .v .str (⟨#[]⟩ : ByteArray), .ns .ty], .v .int (0 : Int), .ns .tm] []), o 17 (.mv (T 6)), .a none (.st 0 .tm (T 4) (T 16)), o 5 (.mv (T 17))])
    .ret)
    .skip))
  (.seq (.seq (.ops [o 18 (.fa .tm 0 (T 3)), o 19 (.ld .u8 (T 18)), o 20 (.bi .neq (T 19) (.c (.v .u8 (1 : Int))))])
  (.cond (T 20) (.seq (.ops [o 21 (.bld .tm [.v .u8 (0 : Int), .v .str (⟨#[]⟩ : ByteArray), .ag .ty [.v .bool false, .v .str (⟨#[]⟩ : ByteArray), .ns .ty], .v .int (0 : Int), .ns .tm] []), .a none (.st 0 .tm (T 4) (T 21)), o 5 (.mv (.c (.v .int (20 : Int))))])
    .ret)
    .skip))
  (.seq (.draw [o 22 (.mv (T 0)), .call 0 (some 23) (.c (.fn 104 [] [])) [(T 22)] [some .ltm] (.p .lstr), o 24 (.fa .tm 1 (T 3)), o 25 (.ldi .str (T 24)), .call 0 (some 26) (.c (.fn 103 [] [])) [(T 23), (T 25)] [some .lstr, some .str] (.p .str), o 7 (.mv (T 26))])
  (.seq (.seq (.ops [o 27 (.mv (T 7)), o 28 (.lens (T 27)), o 29 (.bi .gtr (T 28) (.c (.v .int (30 : Int))))])
  (.cond (T 29) (.seq (.ops [o 30 (.bld .tm [.v .u8 (0 : Int), .v .str (⟨#[]⟩ : ByteArray), .ag .ty [.v .bool false, .v .str (⟨#[]⟩ : ByteArray), .ns .ty], .v .int (0 : Int), .ns .tm] []), .a none (.st 0 .tm (T 4) (T 30)), o 5 (.mv (.c (.v .int (60 : Int))))])
    .ret)
    .skip))
  (.seq (.ops [o 31 (.mv (T 7)), o 32 (.fa .tm 2 (T 3)), o 33 (.ld .ty (T 32)), .call 0 (some 34) (.c (.fn 88 [] [])) [(T 33)] [some .ty] (.p .ty), o 35 (.bld .tm [.v .u8 (0 : Int), .v .str (⟨#[]⟩ : ByteArray), .ag .ty [.v .bool false, .v .str (⟨#[]⟩ : ByteArray), .ns .ty], .v .int (0 : Int), .ns .tm] [(0, (.c (.v .u8 (1 : Int)))), (1, (T 31)), (2, (T 34))]), .a none (.st 0 .tm (T 4) (T 35)), o 5 (.mv (.c (.v .int (0 : Int))))])
  .ret))))))))⟩
/-- sequent/sequentref02.SameAll -/
def c69 : XFn G := ⟨27, [.t 4], .pure [.p .bool],
  (.seq (.ops [o 4 (.mv (.c (.v .bool false)))])
  (.seq (.seq (.ops [o 6 (.mv (T 0)), o 7 (.len (T 6)), o 8 (.mv (T 1)), o 9 (.len (T 8)), o 10 (.bi .neq (T 7) (T 9))])
  (.cond (T 10) (.seq (.ops [o 4 (.mv (.c (.v .bool false)))])
    .ret)
    .skip))
  (.seq (.seq (.ops [o 5 (.mv (.c (.v .int (0 : Int))))])
  (.block 0 (.loop ⟨[(5, .p .int)], [], [0, 1]⟩ (.seq (.seq (.ops [o 11 (.mv (T 5)), o 12 (.mv (T 0)), o 13 (.len (T 12)), o 14 (.bi .lss (T 11) (T 13))])
  (.cond (T 14) .skip
    (.exit 0)))
  (.seq (.block 1 (.seq (.draw [o 17 (.mv (T 0)), o 18 (.mv (T 5)), o 19 (.ia .tm (T 17) (T 18)), o 20 (.ld .tm (T 19)), o 21 (.mv (T 1)), o 22 (.mv (T 5)), o 23 (.ia .tm (T 21) (T 22)), o 24 (.ld .tm (T 23)), .call 0 (some 25) (.c (.fn 15 [] [])) [(T 20), (T 24)] [some .tm, some .tm] (.p .bool), o 26 (.un (T 25))])
  (.cond (T 26) (.seq (.ops [o 4 (.mv (.c (.v .bool false)))])
    .ret)
    .skip)))
  (.ops [o 15 (.mv (T 5)), o 16 (.inc 15 .i64), o 5 (.mv (T 16))]))))))
  (.seq (.ops [o 4 (.mv (.c (.v .bool true)))])
  .ret))))⟩
/-- slices.EqualFunc[[]sequent/api.Term,[]sequent/api.Term,sequent/api.Term,sequent/api.Term] -/
def c70 : XFn G := ⟨32, [.t 6], .pure [.p .bool],
  (.seq (.ops [o 6 (.mv (.c (.v .bool false)))])
  (.seq (.seq (.ops [o 10 (.mv (T 0)), o 11 (.len (T 10)), o 12 (.mv (T 1)), o 13 (.len (T 12)), o 14 (.bi .neq (T 11) (T 13))])
  (.cond (T 14) (.seq (.ops [o 6 (.mv (.c (.v .bool false)))])
    .ret)
    .skip))
  (.seq (.seq (.ops [o 15 (.mv (T 0)), o 16 (.len (T 15)), o 17 (.mv (.c (.v .int (0 : Int))))])
  (.block 0 (.loop ⟨[(17, .p .int)], [], [1, 2, 15, 16]⟩ (.seq (.ops [o 18 (.bi .lss (T 17) (T 16))])
  (.seq (.cond (T 18) .skip
    (.exit 0))
  (.seq (.block 1 (.seq (.ops [o 19 (.mv (T 17)), o 20 (.ia .tm (T 15) (T 17)), o 21 (.ld .tm (T 20)), .a (some 8) (.alm 27 (.ag .tm [.v .u8 (0 : Int), .v .str (⟨#[]⟩ : ByteArray), .ag .ty [.v .bool false, .v .str (⟨#[]⟩ : ByteArray), .ns .ty], .v .int (0 : Int), .ns .tm])), o 7 (.mv (T 19)), .a none (.st 0 .tm (T 8) (T 21))])
  (.seq (.ops [o 22 (.mv (T 1)), o 23 (.mv (T 7)), o 24 (.ia .tm (T 22) (T 23)), o 25 (.ld .tm (T 24)), .a (some 9) (.alm 27 (.ag .tm [.v .u8 (0 : Int), .v .str (⟨#[]⟩ : ByteArray), .ag .ty [.v .bool false, .v .str (⟨#[]⟩ : ByteArray), .ns .ty], .v .int (0 : Int), .ns .tm])), .a none (.st 0 .tm (T 9) (T 25))])
  (.seq (.ops [o 26 (.mv (T 2)), o 27 (.ld .tm (T 8)), o 28 (.ld .tm (T 9)), .call 0 (some 29) (T 26) [(T 27), (T 28)] [some .tm, some .tm] (.p .bool), o 30 (.un (T 29))])
  (.cond (T 30) (.seq (.ops [o 6 (.mv (.c (.v .bool false)))])
    .ret)
    .skip)))))
  (.ops [o 31 (.inc 17 .i64), o 17 (.mv (T 31))])))))))
  (.seq (.ops [o 6 (.mv (.c (.v .bool true)))])
  .ret))))⟩
/-- sequent/sequentref02.Check -/
def c73 : XFn G := ⟨15, [.t 2], .pure [.p .int],
  (.seq (.ops [o 1 (.bx (T 0)), o 2 (.mv (.c (.v .int (0 : Int))))])
  (.seq (.seq (.ops [o 5 (.ld .tm (T 1)), .call 0 (some 6) (.c (.fn 57 [] [])) [(T 5)] [some .tm] (.p .bool), o 7 (.un (T 6))])
  (.cond (T 7) (.seq (.ops [o 2 (.mv (.c (.v .int (21 : Int))))])
    .ret)
    .skip))
  (.seq (.ops [o 9 (.ld .tm (T 1)), .call 0 (some 10) (.c (.fn 87 [] [])) [(T 9), (.c (.ns .ty))] [some .tm, some .lty] (.tup [.p .ty, .p .bool]), o 8 (.mv (T 10)), o 11 (.ext (T 8) 0), o 12 (.ext (T 8) 1), .a (some 3) (.alm 24 (.ag .ty [.v .bool false, .v .str (⟨#[]⟩ : ByteArray), .ns .ty])), .a none (.st 0 .ty (T 3) (T 11)), o 4 (.mv (T 12))])
  (.seq (.seq (.ops [o 13 (.mv (T 4)), o 14 (.un (T 13))])
  (.cond (T 14) (.seq (.ops [o 2 (.mv (.c (.v .int (20 : Int))))])
    .ret)
    .skip))
  (.seq (.ops [o 2 (.mv (.c (.v .int (0 : Int))))])
  .ret)))))⟩
/-- sequent/sequentref01.Bool -/
def c74 : XFn G := ⟨2, [.c 0 .ty], .pure [.p .ty],
  (.seq (.ops [.a (some 0) (.alm 24 (.ag .ty [.v .bool false, .v .str (⟨#[]⟩ : ByteArray), .ns .ty]))])
  (.seq (.ops [o 1 (.bld .ty [.v .bool false, .v .str (⟨#[]⟩ : ByteArray), .ns .ty] [(1, (.c (.v .str (⟨#[98, 111, 111, 108]⟩ : ByteArray))))]), .a none (.st 0 .ty (T 0) (T 1))])
  .ret))⟩
/-- sequent/sequentref02.sign -/
def c79 : XFn G := ⟨7, [.t 4], .pure [.p .int],
  (.seq (.ops [o 4 (.mv (.c (.v .int (0 : Int))))])
  (.seq (.seq (.ops [o 5 (.mv (T 1))])
  (.cond (T 5) (.seq (.ops [o 4 (.mv (.c (.v .int (0 : Int))))])
    .ret)
    .skip))
  (.seq (.seq (.ops [o 6 (.mv (T 0))])
  (.cond (T 6) (.seq (.ops [o 4 (.mv (.c (.v .int ((-1) : Int))))])
    .ret)
    .skip))
  (.seq (.ops [o 4 (.mv (.c (.v .int (1 : Int))))])
  .ret))))⟩
/-- sequent/sequentref01.Compare -/
def c80 : XFn G := ⟨59, [.t 4], .pure [.p .int],
  (.seq (.ops [o 2 (.bx (T 0)), o 3 (.bx (T 1)), o 4 (.mv (.c (.v .int (0 : Int))))])
  (.seq (.seq (.ops [o 7 (.fa .ty 0 (T 2)), o 8 (.ld .bool (T 7)), o 9 (.fa .ty 0 (T 3)), o 10 (.ld .bool (T 9)), o 11 (.bib .neq (T 8) (T 10))])
  (.cond (T 11) (.seq (.seq (.ops [o 12 (.fa .ty 0 (T 2)), o 13 (.ld .bool (T 12))])
    (.cond (T 13) (.seq (.ops [o 4 (.mv (.c (.v .int ((-1) : Int))))])
      .ret)
      .skip))
    (.seq (.ops [o 4 (.mv (.c (.v .int (1 : Int))))])
    .ret))
    .skip))
  (.seq (.seq (.ops [o 14 (.fa .ty 1 (T 2)), o 15 (.ld .str (T 14)), o 16 (.fa .ty 1 (T 3)), o 17 (.ld .str (T 16)), o 18 (.bi .neq (T 15) (T 17))])
  (.cond (T 18) (.seq (.seq (.ops [o 19 (.fa .ty 1 (T 2)), o 20 (.ld .str (T 19)), o 21 (.fa .ty 1 (T 3)), o 22 (.ld .str (T 21)), o 23 (.bi .lss (T 20) (T 22))])
    (.cond (T 23) (.seq (.ops [o 4 (.mv (.c (.v .int ((-1) : Int))))])
      .ret)
      .skip))
    (.seq (.ops [o 4 (.mv (.c (.v .int (1 : Int))))])
    .ret))
    .skip))
  (.seq (.seq (.ops [o 24 (.fa .ty 2 (T 2)), o 25 (.ld .lty (T 24)), o 26 (.len (T 25)), o 27 (.fa .ty 2 (T 3)), o 28 (.ld .lty (T 27)), o 29 (.len (T 28)), o 30 (.bi .neq (T 26) (T 29))])
  (.cond (T 30) (.seq (.seq (.ops [o 31 (.fa .ty 2 (T 2)), o 32 (.ld .lty (T 31)), o 33 (.len (T 32)), o 34 (.fa .ty 2 (T 3)), o 35 (.ld .lty (T 34)), o 36 (.len (T 35)), o 37 (.bi .lss (T 33) (T 36))])
    (.cond (T 37) (.seq (.ops [o 4 (.mv (.c (.v .int ((-1) : Int))))])
      .ret)
      .skip))
    (.seq (.ops [o 4 (.mv (.c (.v .int (1 : Int))))])
    .ret))
    .skip))
  (.seq (.seq (.ops [o 5 (.mv (.c (.v .int (0 : Int))))])
  (.block 0 (.loop ⟨[(5, .p .int)], [], [2, 3]⟩ (.seq (.seq (.ops [o 38 (.mv (T 5)), o 39 (.fa .ty 2 (T 2)), o 40 (.ld .lty (T 39)), o 41 (.len (T 40)), o 42 (.bi .lss (T 38) (T 41))])
  (.cond (T 42) .skip
    (.exit 0)))
  (.seq (.block 1 (.seq (.draw [o 45 (.fa .ty 2 (T 2)), o 46 (.ldi .lty (T 45)), o 47 (.mv (T 5)), o 48 (.ia .ty (T 46) (T 47)), o 49 (.ld .ty (T 48)), o 50 (.fa .ty 2 (T 3)), o 51 (.ldi .lty (T 50)), o 52 (.mv (T 5)), o 53 (.ia .ty (T 51) (T 52)), o 54 (.ld .ty (T 53)), .call 0 (some 55) (.c (.fn 80 [] [])) [(T 49), (T 54)] [some .ty, some .ty] (.p .int), o 6 (.mv (T 55))])
  (.seq (.ops [o 56 (.mv (T 6)), o 57 (.bi .neq (T 56) (.c (.v .int (0 : Int))))])
  (.cond (T 57) (.seq (.ops [o 58 (.mv (T 6)), o 4 (.mv (T 58))])
    .ret)
    .skip))))
  (.ops [o 43 (.mv (T 5)), o 44 (.inc 43 .i64), o 5 (.mv (T 44))]))))))
  (.seq (.ops [o 4 (.mv (.c (.v .int (0 : Int))))])
  .ret))))))⟩
/-- sequent/types.Twin -/
def c81 : XFn G := ⟨31, [.c 2 .ty], .pure [.p .ty],
  (.seq (.ops [.a (some 1) (.bxm 24 (T 0)), .a (some 2) (.alm 24 (.ag .ty [.v .bool false, .v .str (⟨#[]⟩ : ByteArray), .ns .ty]))])
  (.seq (.ops [o 6 (.fa .ty 2 (T 1)), o 7 (.ld .lty (T 6)), o 3 (.mv (T 7))])
  (.seq (.ops [o 8 (.fa .ty 2 (T 1)), .a none (.st 0 .lty (T 8) (.c (.ns .ty)))])
  (.jn ⟨[(1, .ptr 0 0 []), (2, .ptr 1 0 [])], [.box 24 (.ag .ty [.p .bool, .p .str, .row 2]), .keep, .row 24 .lty], [3]⟩ (.th (.seq (.ops [o 9 (.mv (T 3)), o 10 (.len (T 9)), o 11 (.bi .gtr (T 10) (.c (.v .int (0 : Int))))])
  (.cond (T 11) (.ops [o 12 (.mv (T 3)), o 13 (.len (T 12)), .a (some 14) (.mks 24 .ty (Ty.mk false (⟨#[]⟩ : ByteArray) []) (T 13)), o 15 (.fa .ty 2 (T 1)), .a none (.st 0 .lty (T 15) (T 14))])
    .skip)) [.adB 0 [2] 24 .ty])
  (.seq (.seq (.ops [o 16 (.mv (T 3)), o 17 (.len (T 16)), o 18 (.mv (.c (.v .int (0 : Int))))])
  (.block 0 (.loop ⟨[(1, .ptr 0 0 []), (2, .ptr 1 0 []), (18, .p .int)], [.keep, .keep, .row 24 .lty], [16, 17]⟩ (.seq (.ops [o 19 (.bi .lss (T 18) (T 17))])
  (.seq (.cond (T 19) .skip
    (.exit 0))
  (.seq (.block 1 (.seq (.ops [o 20 (.mv (T 18)), o 21 (.ia .ty (T 16) (T 18)), o 22 (.ld .ty (T 21)), .a (some 5) (.alm 24 (.ag .ty [.v .bool false, .v .str (⟨#[]⟩ : ByteArray), .ns .ty])), o 4 (.mv (T 20)), .a none (.st 0 .ty (T 5) (T 22))])
  (.draw [o 23 (.fa .ty 2 (T 1)), o 24 (.ld .lty (T 23)), o 25 (.mv (T 4)), o 26 (.ld .ty (T 5)), .call 0 (some 27) (.c (.fn 81 [] [])) [(T 26)] [some .ty] (.p .ty), o 28 (.ia .ty (T 24) (T 25)), .a none (.st 2 .ty (T 28) (T 27))])))
  (.ops [o 29 (.inc 18 .i64), o 18 (.mv (T 29))])))))))
  (.seq (.ops [o 30 (.ld .ty (T 1)), .a none (.st 0 .ty (T 2) (T 30))])
  .ret))))))⟩
/-- sequent/types.Bool -/
def c82 : XFn G := ⟨2, [.c 0 .ty], .pure [.p .ty],
  (.seq (.ops [.a (some 0) (.alm 24 (.ag .ty [.v .bool false, .v .str (⟨#[]⟩ : ByteArray), .ns .ty]))])
  (.seq (.ops [o 1 (.bld .ty [.v .bool false, .v .str (⟨#[]⟩ : ByteArray), .ns .ty] [(1, (.c (.v .str (⟨#[98, 111, 111, 108]⟩ : ByteArray))))]), .a none (.st 0 .ty (T 0) (T 1))])
  .ret))⟩
/-- sequent/terms.typed -/
def c83 : XFn G := ⟨18, [.c 2 .ty, .t 3], .pure [.p .ty, .p .int],
  (.seq (.ops [o 1 (.bx (T 0)), .a (some 2) (.alm 24 (.ag .ty [.v .bool false, .v .str (⟨#[]⟩ : ByteArray), .ns .ty])), o 3 (.mv (.c (.v .int (0 : Int))))])
  (.seq (.seq (.ops [o 6 (.ld .tm (T 1)), .call 0 (some 7) (.c (.fn 105 [] [])) [(T 6)] [some .tm] (.p .bool)])
  (.cond (T 7) (.seq (.ops [o 8 (.bld .ty [.v .bool false, .v .str (⟨#[]⟩ : ByteArray), .ns .ty] []), .a none (.st 0 .ty (T 2) (T 8)), o 3 (.mv (.c (.v .int (21 : Int))))])
    .ret)
    .skip))
  (.seq (.ops [o 10 (.ld .tm (T 1)), .call 0 (some 11) (.c (.fn 106 [] [])) [(T 10), (.c (.ns .ty))] [some .tm, some .lty] (.tup [.p .ty, .p .bool]), o 9 (.mv (T 11)), o 12 (.ext (T 9) 0), o 13 (.ext (T 9) 1), .a (some 4) (.alm 24 (.ag .ty [.v .bool false, .v .str (⟨#[]⟩ : ByteArray), .ns .ty])), .a none (.st 0 .ty (T 4) (T 12)), o 5 (.mv (T 13))])
  (.seq (.seq (.ops [o 14 (.mv (T 5)), o 15 (.un (T 14))])
  (.cond (T 15) (.seq (.ops [o 16 (.bld .ty [.v .bool false, .v .str (⟨#[]⟩ : ByteArray), .ns .ty] []), .a none (.st 0 .ty (T 2) (T 16)), o 3 (.mv (.c (.v .int (20 : Int))))])
    .ret)
    .skip))
  (.seq (.ops [o 17 (.ld .ty (T 4)), .a none (.st 0 .ty (T 2) (T 17)), o 3 (.mv (.c (.v .int (0 : Int))))])
  .ret)))))⟩
/-- sequent/types.Compare -/
def c86 : XFn G := ⟨33, [.t 4], .pure [.p .int],
  (.seq (.ops [o 2 (.bx (T 0)), o 3 (.bx (T 1)), o 4 (.mv (.c (.v .int (0 : Int))))])
  (.seq (.seq (.draw [o 6 (.ldi .ty (T 2)), .call 0 (some 7) (.c (.fn 107 [] [])) [(T 6)] [some .ty] (.p .int), o 8 (.ldi .ty (T 3)), .call 0 (some 9) (.c (.fn 107 [] [])) [(T 8)] [some .ty] (.p .int), .call 0 (some 10) (.c (.fn 96 [] [])) [(T 7), (T 9)] [some .int, some .int] (.p .int), o 11 (.fa .ty 1 (T 2)), o 12 (.ldi .str (T 11)), o 13 (.fa .ty 1 (T 3)), o 14 (.ldi .str (T 13)), .call 0 (some 15) (.c (.fn 94 [] [])) [(T 12), (T 14)] [some .str, some .str] (.p .int), o 16 (.fa .ty 2 (T 2)), o 17 (.ldi .lty (T 16)), o 18 (.len (T 17)), o 19 (.fa .ty 2 (T 3)), o 20 (.ldi .lty (T 19)), o 21 (.len (T 20)), .call 0 (some 22) (.c (.fn 96 [] [])) [(T 18), (T 21)] [some .int, some .int] (.p .int), o 23 (.bsl .int [(T 10), (T 15), (T 22)]), .call 0 (some 24) (.c (.fn 95 [] [])) [(T 23)] [some .lint] (.p .int), o 5 (.mv (T 24))])
  (.seq (.ops [o 25 (.mv (T 5)), o 26 (.bi .neq (T 25) (.c (.v .int (0 : Int))))])
  (.cond (T 26) (.seq (.ops [o 27 (.mv (T 5)), o 4 (.mv (T 27))])
    .ret)
    .skip)))
  (.seq (.ops [o 28 (.fa .ty 2 (T 2)), o 29 (.ld .lty (T 28)), o 30 (.fa .ty 2 (T 3)), o 31 (.ld .lty (T 30)), .call 0 (some 32) (.c (.fn 108 [] [])) [(T 29), (T 31), (.c (.fn 86 [] []))] [some .lty, some .lty] (.p .int), o 4 (.mv (T 32))])
  .ret)))⟩
/-- sequent/sequentref02.Formed -/
def c87 : XFn G := ⟨198, [.c 4 .ty, .t 5], .pure [.p .ty, .p .bool],
  (.seq (.ops [o 2 (.bx (T 0)), .a (some 4) (.alm 24 (.ag .ty [.v .bool false, .v .str (⟨#[]⟩ : ByteArray), .ns .ty])), o 5 (.mv (.c (.v .bool false)))])
  (.seq (.seq (.ops [o 13 (.fa .tm 0 (T 2)), o 14 (.ld .u8 (T 13))])
  (.block 0 (.jn ⟨[(4, .ptr 0 0 []), (15, .p .bool)], [.keep], [1, 2, 14]⟩ (.seq (.ops [o 16 (.bi .eql (T 14) (.c (.v .u8 (1 : Int)))), o 15 (.mv (T 16))])
  (.cond (T 15) .skip
    (.ops [o 17 (.bi .eql (T 14) (.c (.v .u8 (2 : Int)))), o 15 (.mv (T 17))])))
  (.cond (T 15) (.seq (.draw [o 18 (.fa .tm 2 (T 2)), o 19 (.ldi .ty (T 18)), o 20 (.fa .tm 1 (T 2)), o 21 (.ldi .str (T 20)), .call 0 (some 22) (.c (.fn 109 [] [])) [(T 21)] [some .str] (.p .bool), o 23 (.mv (T 22)), .gd 23 true (some 24) (o 24 (.fa .tm 2 (T 2))), .gd 23 true (some 25) (o 25 (.ldi .ty (T 24))), .gd 23 true (some 26) (.call 0 (some 26) (.c (.fn 110 [] [])) [(T 25)] [some .ty] (.p .bool)), o 27 (.pk (T 23) (T 26) (.c (.v .bool false))), o 28 (.mv (T 27)), .gd 28 true (some 29) (o 29 (.fa .tm 3 (T 2))), .gd 28 true (some 30) (o 30 (.ldi .int (T 29))), .gd 28 true (some 31) (o 31 (.bi .eql (T 30) (.c (.v .int (0 : Int))))), o 32 (.pk (T 28) (T 31) (.c (.v .bool false))), o 33 (.mv (T 32)), .gd 33 true (some 34) (o 34 (.fa .tm 4 (T 2))), .gd 33 true (some 35) (o 35 (.ldi .ltm (T 34))), .gd 33 true (some 36) (o 36 (.len (T 35))), .gd 33 true (some 37) (o 37 (.bi .eql (T 36) (.c (.v .int (0 : Int))))), o 38 (.pk (T 33) (T 37) (.c (.v .bool false))), .a none (.st 1 .ty (T 4) (T 19)), o 5 (.mv (T 38))])
    .ret)
    (.seq (.ops [o 40 (.bi .eql (T 14) (.c (.v .u8 (3 : Int)))), o 39 (.mv (T 40))])
    (.cond (T 39) (.seq (.jn ⟨[(4, .ptr 0 0 []), (67, .p .bool)], [.keep], [1, 2]⟩ (.ops [o 41 (.fa .tm 1 (T 2)), o 42 (.ld .str (T 41)), o 43 (.bi .neq (T 42) (.c (.v .str (⟨#[]⟩ : ByteArray)))), o 44 (.mv (T 43)), .gd 44 false (some 45) (o 45 (.fa .tm 2 (T 2))), .gd 44 false (some 46) (o 46 (.ld .ty (T 45))), .gd 44 false (some 47) (.call 0 (some 47) (.c (.fn 111 [] [])) [(T 46)] [some .ty] (.p .bool)), .gd 44 false (some 48) (o 48 (.un (T 47))), o 49 (.pk (T 44) (.c (.v .bool true)) (T 48)), o 50 (.mv (T 49)), .gd 50 false (some 51) (o 51 (.fa .tm 4 (T 2))), .gd 50 false (some 52) (o 52 (.ld .ltm (T 51))), .gd 50 false (some 53) (o 53 (.len (T 52))), .gd 50 false (some 54) (o 54 (.bi .neq (T 53) (.c (.v .int (0 : Int))))), o 55 (.pk (T 50) (.c (.v .bool true)) (T 54)), o 56 (.mv (T 55)), .gd 56 false (some 57) (o 57 (.fa .tm 3 (T 2))), .gd 56 false (some 58) (o 58 (.ld .int (T 57))), .gd 56 false (some 59) (o 59 (.bi .lss (T 58) (.c (.v .int (0 : Int))))), o 60 (.pk (T 56) (.c (.v .bool true)) (T 59)), o 61 (.mv (T 60)), .gd 61 false (some 62) (o 62 (.fa .tm 3 (T 2))), .gd 61 false (some 63) (o 63 (.ld .int (T 62))), .gd 61 false (some 64) (o 64 (.mv (T 1))), .gd 61 false (some 65) (o 65 (.len (T 64))), .gd 61 false (some 66) (o 66 (.bi .geq (T 63) (T 65))), o 67 (.pk (T 61) (.c (.v .bool true)) (T 66))])
      (.cond (T 67) (.seq (.ops [o 68 (.bld .ty [.v .bool false, .v .str (⟨#[]⟩ : ByteArray), .ns .ty] []), .a none (.st 0 .ty (T 4) (T 68)), o 5 (.mv (.c (.v .bool false)))])
        .ret)
        .skip))
      (.seq (.ops [o 69 (.mv (T 1)), o 70 (.fa .tm 3 (T 2)), o 71 (.ld .int (T 70)), o 72 (.ia .ty (T 69) (T 71)), o 73 (.ld .ty (T 72)), .a none (.st 0 .ty (T 4) (T 73)), o 5 (.mv (.c (.v .bool true)))])
      .ret))
      (.seq (.ops [o 75 (.bi .eql (T 14) (.c (.v .u8 (4 : Int)))), o 74 (.mv (T 75))])
      (.cond (T 74) (.seq (.jn ⟨[(4, .ptr 0 0 []), (95, .p .bool)], [.keep], [1, 2]⟩ (.ops [o 76 (.fa .tm 1 (T 2)), o 77 (.ld .str (T 76)), o 78 (.bi .neq (T 77) (.c (.v .str (⟨#[]⟩ : ByteArray)))), o 79 (.mv (T 78)), .gd 79 false (some 80) (o 80 (.fa .tm 2 (T 2))), .gd 79 false (some 81) (o 81 (.ld .ty (T 80))), .gd 79 false (some 82) (.call 0 (some 82) (.c (.fn 111 [] [])) [(T 81)] [some .ty] (.p .bool)), .gd 79 false (some 83) (o 83 (.un (T 82))), o 84 (.pk (T 79) (.c (.v .bool true)) (T 83)), o 85 (.mv (T 84)), .gd 85 false (some 86) (o 86 (.fa .tm 3 (T 2))), .gd 85 false (some 87) (o 87 (.ld .int (T 86))), .gd 85 false (some 88) (o 88 (.bi .neq (T 87) (.c (.v .int (0 : Int))))), o 89 (.pk (T 85) (.c (.v .bool true)) (T 88)), o 90 (.mv (T 89)), .gd 90 false (some 91) (o 91 (.fa .tm 4 (T 2))), .gd 90 false (some 92) (o 92 (.ld .ltm (T 91))), .gd 90 false (some 93) (o 93 (.len (T 92))), .gd 90 false (some 94) (o 94 (.bi .neq (T 93) (.c (.v .int (2 : Int))))), o 95 (.pk (T 90) (.c (.v .bool true)) (T 94))])
        (.cond (T 95) (.seq (.ops [o 96 (.bld .ty [.v .bool false, .v .str (⟨#[]⟩ : ByteArray), .ns .ty] []), .a none (.st 0 .ty (T 4) (T 96)), o 5 (.mv (.c (.v .bool false)))])
          .ret)
          .skip))
        (.seq (.ops [o 98 (.fa .tm 4 (T 2)), o 99 (.ld .ltm (T 98)), o 100 (.ia .tm (T 99) (.c (.v .int (0 : Int)))), o 101 (.ld .tm (T 100)), o 102 (.mv (T 1)), .call 0 (some 103) (.c (.fn 87 [] [])) [(T 101), (T 102)] [some .tm, some .lty] (.tup [.p .ty, .p .bool]), o 97 (.mv (T 103)), o 104 (.ext (T 97) 0), o 105 (.ext (T 97) 1), .a (some 6) (.alm 24 (.ag .ty [.v .bool false, .v .str (⟨#[]⟩ : ByteArray), .ns .ty])), .a none (.st 0 .ty (T 6) (T 104)), o 7 (.mv (T 105))])
        (.seq (.ops [o 107 (.fa .tm 4 (T 2)), o 108 (.ld .ltm (T 107)), o 109 (.ia .tm (T 108) (.c (.v .int (1 : Int)))), o 110 (.ld .tm (T 109)), o 111 (.mv (T 1)), .call 0 (some 112) (.c (.fn 87 [] [])) [(T 110), (T 111)] [some .tm, some .lty] (.tup [.p .ty, .p .bool]), o 106 (.mv (T 112)), o 113 (.ext (T 106) 0), o 114 (.ext (T 106) 1), .a (some 8) (.alm 24 (.ag .ty [.v .bool false, .v .str (⟨#[]⟩ : ByteArray), .ns .ty])), .a none (.st 0 .ty (T 8) (T 113)), o 9 (.mv (T 114))])
        (.seq (.jn ⟨[(4, .ptr 0 0 []), (6, .ptr 1 0 []), (144, .p .bool)], [.keep, .keep], []⟩ (.draw [o 115 (.mv (T 7)), o 116 (.un (T 115)), o 117 (.mv (T 116)), .gd 117 false (some 118) (o 118 (.mv (T 9))), .gd 117 false (some 119) (o 119 (.un (T 118))), o 120 (.pk (T 117) (.c (.v .bool true)) (T 119)), o 121 (.mv (T 120)), .gd 121 false (some 122) (o 122 (.fa .ty 0 (T 6))), .gd 121 false (some 123) (o 123 (.ld .bool (T 122))), o 124 (.pk (T 121) (.c (.v .bool true)) (T 123)), o 125 (.mv (T 124)), .gd 125 false (some 126) (o 126 (.fa .ty 1 (T 6))), .gd 125 false (some 127) (o 127 (.ld .str (T 126))), .gd 125 false (some 128) (o 128 (.bi .neq (T 127) (.c (.v .str (⟨#[102, 117, 110]⟩ : ByteArray))))), o 129 (.pk (T 125) (.c (.v .bool true)) (T 128)), o 130 (.mv (T 129)), .gd 130 false (some 131) (o 131 (.fa .ty 2 (T 6))), .gd 130 false (some 132) (o 132 (.ld .lty (T 131))), .gd 130 false (some 133) (o 133 (.len (T 132))), .gd 130 false (some 134) (o 134 (.bi .neq (T 133) (.c (.v .int (2 : Int))))), o 135 (.pk (T 130) (.c (.v .bool true)) (T 134)), o 136 (.mv (T 135)), .gd 136 false (some 137) (o 137 (.fa .ty 2 (T 6))), .gd 136 false (some 138) (o 138 (.ld .lty (T 137))), .gd 136 false (some 139) (o 139 (.ia .ty (T 138) (.c (.v .int (0 : Int))))), .gd 136 false (some 140) (o 140 (.ld .ty (T 139))), .gd 136 false (some 141) (o 141 (.ld .ty (T 8))), .gd 136 false (some 142) (.call 0 (some 142) (.c (.fn 53 [] [])) [(T 140), (T 141)] [some .ty, some .ty] (.p .bool)), .gd 136 false (some 143) (o 143 (.un (T 142))), o 144 (.pk (T 136) (.c (.v .bool true)) (T 143))])
        (.cond (T 144) (.seq (.ops [o 145 (.bld .ty [.v .bool false, .v .str (⟨#[]⟩ : ByteArray), .ns .ty] []), .a none (.st 0 .ty (T 4) (T 145)), o 5 (.mv (.c (.v .bool false)))])
          .ret)
          .skip))
        (.seq (.ops [o 146 (.fa .ty 2 (T 6)), o 147 (.ld .lty (T 146)), o 148 (.ia .ty (T 147) (.c (.v .int (1 : Int)))), o 149 (.ld .ty (T 148)), .a none (.st 0 .ty (T 4) (T 149)), o 5 (.mv (.c (.v .bool true)))])
        .ret)))))
        (.seq (.ops [o 151 (.bi .eql (T 14) (.c (.v .u8 (5 : Int)))), o 150 (.mv (T 151))])
        (.cond (T 150) (.seq (.jn ⟨[(4, .ptr 0 0 []), (172, .p .bool)], [.keep], [1, 2]⟩ (.ops [o 152 (.fa .tm 1 (T 2)), o 153 (.ld .str (T 152)), .call 0 (some 154) (.c (.fn 109 [] [])) [(T 153)] [some .str] (.p .bool), o 155 (.un (T 154)), o 156 (.mv (T 155)), .gd 156 false (some 157) (o 157 (.fa .tm 2 (T 2))), .gd 156 false (some 158) (o 158 (.ld .ty (T 157))), .gd 156 false (some 159) (.call 0 (some 159) (.c (.fn 110 [] [])) [(T 158)] [some .ty] (.p .bool)), .gd 156 false (some 160) (o 160 (.un (T 159))), o 161 (.pk (T 156) (.c (.v .bool true)) (T 160)), o 162 (.mv (T 161)), .gd 162 false (some 163) (o 163 (.fa .tm 3 (T 2))), .gd 162 false (some 164) (o 164 (.ld .int (T 163))), .gd 162 false (some 165) (o 165 (.bi .neq (T 164) (.c (.v .int (0 : Int))))), o 166 (.pk (T 162) (.c (.v .bool true)) (T 165)), o 167 (.mv (T 166)), .gd 167 false (some 168) (o 168 (.fa .tm 4 (T 2))), .gd 167 false (some 169) (o 169 (.ld .ltm (T 168))), .gd 167 false (some 170) (o 170 (.len (T 169))), .gd 167 false (some 171) (o 171 (.bi .neq (T 170) (.c (.v .int (1 : Int))))), o 172 (.pk (T 167) (.c (.v .bool true)) (T 171))])
          (.cond (T 172) (.seq (.ops [o 173 (.bld .ty [.v .bool false, .v .str (⟨#[]⟩ : ByteArray), .ns .ty] []), .a none (.st 0 .ty (T 4) (T 173)), o 5 (.mv (.c (.v .bool false)))])
            .ret)
            .skip))
          (.seq (.draw [o 175 (.fa .tm 4 (T 2)), o 176 (.ldi .ltm (T 175)), o 177 (.ia .tm (T 176) (.c (.v .int (0 : Int)))), o 178 (.ld .tm (T 177)), o 179 (.fa .tm 2 (T 2)), o 180 (.ldi .ty (T 179)), o 181 (.bsl .ty [(T 180)]), o 182 (.mv (T 1)), o 183 (.apt .lty 24 .ty (T 181) (T 182)), .call 0 (some 184) (.c (.fn 87 [] [])) [(T 178), (T 183)] [some .tm, some .lty] (.tup [.p .ty, .p .bool]), o 174 (.mv (T 184)), o 185 (.ext (T 174) 0), o 186 (.ext (T 174) 1), .a (some 10) (.alm 24 (.ag .ty [.v .bool false, .v .str (⟨#[]⟩ : ByteArray), .ns .ty])), .a none (.st 1 .ty (T 10) (T 185)), o 11 (.mv (T 186))])
          (.seq (.ops [o 187 (.fa .tm 2 (T 2)), o 188 (.ld .ty (T 187)), o 189 (.ld .ty (T 10)), .call 0 (some 190) (.c (.fn 89 [] [])) [(T 188), (T 189)] [some .ty, some .ty] (.p .ty), .a (some 12) (.alm 24 (.ag .ty [.v .bool false, .v .str (⟨#[]⟩ : ByteArray), .ns .ty])), .a none (.st 0 .ty (T 12) (T 190))])
          (.seq (.draw [o 191 (.ld .ty (T 12)), o 192 (.mv (T 11)), o 193 (.mv (T 192)), .gd 193 true (some 194) (o 194 (.ld .ty (T 12))), .gd 193 true (some 195) (.call 0 (some 195) (.c (.fn 110 [] [])) [(T 194)] [some .ty] (.p .bool)), o 196 (.pk (T 193) (T 195) (.c (.v .bool false))), .a none (.st 1 .ty (T 4) (T 191)), o 5 (.mv (T 196))])
          .ret))))
          .skip))))))))))
  (.seq (.ops [o 197 (.bld .ty [.v .bool false, .v .str (⟨#[]⟩ : ByteArray), .ns .ty] []), .a none (.st 0 .ty (T 4) (T 197)), o 5 (.mv (.c (.v .bool false)))])
  .ret)))⟩
/-- sequent/sequentref01.Twin -/
def c88 : XFn G := ⟨29, [.c 2 .ty], .pure [.p .ty],
  (.seq (.ops [o 1 (.bx (T 0)), .a (some 2) (.alm 24 (.ag .ty [.v .bool false, .v .str (⟨#[]⟩ : ByteArray), .ns .ty]))])
  (.seq (.ops [o 5 (.fa .ty 0 (T 1)), o 6 (.ld .bool (T 5)), o 7 (.fa .ty 1 (T 1)), o 8 (.ld .str (T 7)), o 9 (.bld .ty [.v .bool false, .v .str (⟨#[]⟩ : ByteArray), .ns .ty] [(0, (T 6)), (1, (T 8))]), .a (some 3) (.alm 24 (.ag .ty [.v .bool false, .v .str (⟨#[]⟩ : ByteArray), .ns .ty])), .a none (.st 0 .ty (T 3) (T 9))])
  (.seq (.seq (.ops [o 4 (.mv (.c (.v .int (0 : Int))))])
  (.block 0 (.ps [.adB 1 [2] 24 .ty] (.loop ⟨[(2, .ptr 0 0 []), (3, .ptr 1 0 []), (4, .p .int)], [.keep, .box 24 (.ag .ty [.p .bool, .p .str, .row 2]), .row 24 .lty], [1]⟩ (.seq (.seq (.ops [o 10 (.mv (T 4)), o 11 (.fa .ty 2 (T 1)), o 12 (.ld .lty (T 11)), o 13 (.len (T 12)), o 14 (.bi .lss (T 10) (T 13))])
  (.cond (T 14) .skip
    (.exit 0)))
  (.seq (.block 1 (.draw [o 17 (.fa .ty 2 (T 3)), o 18 (.ld .lty (T 17)), o 19 (.fa .ty 2 (T 1)), o 20 (.ldi .lty (T 19)), o 21 (.mv (T 4)), o 22 (.ia .ty (T 20) (T 21)), o 23 (.ld .ty (T 22)), .call 0 (some 24) (.c (.fn 88 [] [])) [(T 23)] [some .ty] (.p .ty), o 25 (.bsl .ty [(T 24)]), .a (some 26) (.app 24 .ty (T 18) (T 25)), o 27 (.fa .ty 2 (T 3)), .a none (.st 1 .lty (T 27) (T 26))]))
  (.ops [o 15 (.mv (T 4)), o 16 (.inc 15 .i64), o 4 (.mv (T 16))])))))))
  (.seq (.ops [o 28 (.ld .ty (T 3)), .a none (.st 0 .ty (T 2) (T 28))])
  .ret))))⟩
/-- sequent/sequentref01.Fun -/
def c89 : XFn G := ⟨11, [.c 4 .ty], .pure [.p .ty],
  (.seq (.ops [o 2 (.bx (T 0)), o 3 (.bx (T 1)), .a (some 4) (.alm 24 (.ag .ty [.v .bool false, .v .str (⟨#[]⟩ : ByteArray), .ns .ty]))])
  (.seq (.draw [o 5 (.ldi .ty (T 2)), .call 0 (some 6) (.c (.fn 88 [] [])) [(T 5)] [some .ty] (.p .ty), o 7 (.ldi .ty (T 3)), .call 0 (some 8) (.c (.fn 88 [] [])) [(T 7)] [some .ty] (.p .ty), o 9 (.bsl .ty [(T 6), (T 8)]), o 10 (.bld .ty [.v .bool false, .v .str (⟨#[]⟩ : ByteArray), .ns .ty] [(1, (.c (.v .str (⟨#[102, 117, 110]⟩ : ByteArray)))), (2, (T 9))]), .a none (.st 1 .ty (T 4) (T 10))])
  .ret))⟩
/-- sequent/sequentref01.Great -/
def c90 : XFn G := ⟨6, [.t 2], .pure [.p .bool],
  (.seq (.ops [o 1 (.bx (T 0)), o 2 (.mv (.c (.v .bool false)))])
  (.seq (.ops [o 3 (.ld .ty (T 1)), .call 0 (some 4) (.c (.fn 112 [] [])) [(T 3), (.c (.v .int (1500 : Int))), (.c (.v .int (500 : Int)))] [some .ty, some .int, some .int] (.p .int), o 5 (.bi .leq (T 4) (.c (.v .int (0 : Int)))), o 2 (.mv (T 5))])
  .ret))⟩
/-- sequent/sequentref02.Size -/
def c91 : XFn G := ⟨21, [.t 2], .pure [.p .int],
  (.seq (.ops [o 1 (.bx (T 0)), o 2 (.mv (.c (.v .int (0 : Int))))])
  (.seq (.ops [o 3 (.mv (.c (.v .int (1 : Int))))])
  (.seq (.seq (.ops [o 4 (.mv (.c (.v .int (0 : Int))))])
  (.block 0 (.loop ⟨[(3, .p .int), (4, .p .int)], [], [1]⟩ (.seq (.seq (.ops [o 5 (.mv (T 4)), o 6 (.fa .tm 4 (T 1)), o 7 (.ld .ltm (T 6)), o 8 (.len (T 7)), o 9 (.bi .lss (T 5) (T 8))])
  (.cond (T 9) .skip
    (.exit 0)))
  (.seq (.block 1 (.ops [o 12 (.mv (T 3)), o 13 (.fa .tm 4 (T 1)), o 14 (.ld .ltm (T 13)), o 15 (.mv (T 4)), o 16 (.ia .tm (T 14) (T 15)), o 17 (.ld .tm (T 16)), .call 0 (some 18) (.c (.fn 91 [] [])) [(T 17)] [some .tm] (.p .int), o 19 (.bi .add (T 12) (T 18)), o 3 (.mv (T 19))]))
  (.ops [o 10 (.mv (T 4)), o 11 (.inc 10 .i64), o 4 (.mv (T 11))]))))))
  (.seq (.ops [o 20 (.mv (T 3)), o 2 (.mv (T 20))])
  .ret))))⟩
/-- sequent/sequentref02.Depth -/
def c92 : XFn G := ⟨22, [.t 2], .pure [.p .int],
  (.seq (.ops [o 1 (.bx (T 0)), o 2 (.mv (.c (.v .int (0 : Int))))])
  (.seq (.ops [o 3 (.mv (.c (.v .int (0 : Int))))])
  (.seq (.seq (.ops [o 4 (.mv (.c (.v .int (0 : Int))))])
  (.block 0 (.loop ⟨[(3, .p .int), (4, .p .int)], [], [1]⟩ (.seq (.seq (.ops [o 5 (.mv (T 4)), o 6 (.fa .tm 4 (T 1)), o 7 (.ld .ltm (T 6)), o 8 (.len (T 7)), o 9 (.bi .lss (T 5) (T 8))])
  (.cond (T 9) .skip
    (.exit 0)))
  (.seq (.block 1 (.ops [o 12 (.mv (T 3)), o 13 (.fa .tm 4 (T 1)), o 14 (.ld .ltm (T 13)), o 15 (.mv (T 4)), o 16 (.ia .tm (T 14) (T 15)), o 17 (.ld .tm (T 16)), .call 0 (some 18) (.c (.fn 92 [] [])) [(T 17)] [some .tm] (.p .int), o 19 (.mx (T 12) (T 18)), o 3 (.mv (T 19))]))
  (.ops [o 10 (.mv (T 4)), o 11 (.inc 10 .i64), o 4 (.mv (T 11))]))))))
  (.seq (.ops [o 20 (.mv (T 3)), o 21 (.bi .add (.c (.v .int (1 : Int))) (T 20)), o 2 (.mv (T 21))])
  .ret))))⟩
/-- cmp.Compare[uint8] -/
def c93 : XFn G := ⟨20, [.t 4], .pure [.p .int],
  (.seq (.ops [o 4 (.mv (.c (.v .int (0 : Int))))])
  (.seq (.ops [o 7 (.mv (T 0)), .call 0 (some 8) (.c (.fn 113 [] [])) [(T 7)] [some .u8] (.p .bool), o 5 (.mv (T 8))])
  (.seq (.ops [o 9 (.mv (T 1)), .call 0 (some 10) (.c (.fn 113 [] [])) [(T 9)] [some .u8] (.p .bool), o 6 (.mv (T 10))])
  (.seq (.seq (.ops [o 11 (.mv (T 5))])
  (.cond (T 11) (.seq (.seq (.ops [o 12 (.mv (T 6))])
    (.cond (T 12) (.seq (.ops [o 4 (.mv (.c (.v .int (0 : Int))))])
      .ret)
      .skip))
    (.seq (.ops [o 4 (.mv (.c (.v .int ((-1) : Int))))])
    .ret))
    .skip))
  (.seq (.seq (.ops [o 13 (.mv (T 6))])
  (.cond (T 13) (.seq (.ops [o 4 (.mv (.c (.v .int (1 : Int))))])
    .ret)
    .skip))
  (.seq (.seq (.ops [o 14 (.mv (T 0)), o 15 (.mv (T 1)), o 16 (.bi .lss (T 14) (T 15))])
  (.cond (T 16) (.seq (.ops [o 4 (.mv (.c (.v .int ((-1) : Int))))])
    .ret)
    .skip))
  (.seq (.seq (.ops [o 17 (.mv (T 0)), o 18 (.mv (T 1)), o 19 (.bi .gtr (T 17) (T 18))])
  (.cond (T 19) (.seq (.ops [o 4 (.mv (.c (.v .int (1 : Int))))])
    .ret)
    .skip))
  (.seq (.ops [o 4 (.mv (.c (.v .int (0 : Int))))])
  .ret))))))))⟩
/-- strings.Compare -/
def c94 : XFn G := ⟨8, [.t 4], .pure [.p .int],
  (.seq (.ops [o 4 (.mv (.c (.v .int (0 : Int))))])
  (.seq (.ops [o 5 (.mv (T 0)), o 6 (.mv (T 1)), .call 0 (some 7) (.c (.fn 114 [] [])) [(T 5), (T 6)] [some .str, some .str] (.p .int), o 4 (.mv (T 7))])
  .ret))⟩
/-- cmp.Or[int] -/
def c95 : XFn G := ⟨18, [.t 2], .pure [.p .int],
  (.seq (.ops [o 2 (.mv (.c (.v .int (0 : Int))))])
  (.seq (.ops [o 3 (.mv (.c (.v .int (0 : Int))))])
  (.seq (.seq (.ops [o 6 (.mv (T 0)), o 7 (.len (T 6)), o 8 (.mv (.c (.v .int (0 : Int))))])
  (.block 0 (.loop ⟨[(8, .p .int)], [], [3, 6, 7]⟩ (.seq (.ops [o 9 (.bi .lss (T 8) (T 7))])
  (.seq (.cond (T 9) .skip
    (.exit 0))
  (.seq (.block 1 (.seq (.ops [o 10 (.ia .int (T 6) (T 8)), o 11 (.ld .int (T 10)), o 5 (.mv (T 11))])
  (.seq (.ops [o 12 (.mv (T 5)), o 13 (.mv (T 3)), o 14 (.bi .neq (T 12) (T 13))])
  (.cond (T 14) (.seq (.ops [o 15 (.mv (T 5)), o 2 (.mv (T 15))])
    .ret)
    .skip))))
  (.ops [o 16 (.inc 8 .i64), o 8 (.mv (T 16))])))))))
  (.seq (.ops [o 17 (.mv (T 3)), o 2 (.mv (T 17))])
  .ret))))⟩
/-- cmp.Compare[int] -/
def c96 : XFn G := ⟨20, [.t 4], .pure [.p .int],
  (.seq (.ops [o 4 (.mv (.c (.v .int (0 : Int))))])
  (.seq (.ops [o 7 (.mv (T 0)), .call 0 (some 8) (.c (.fn 115 [] [])) [(T 7)] [some .int] (.p .bool), o 5 (.mv (T 8))])
  (.seq (.ops [o 9 (.mv (T 1)), .call 0 (some 10) (.c (.fn 115 [] [])) [(T 9)] [some .int] (.p .bool), o 6 (.mv (T 10))])
  (.seq (.seq (.ops [o 11 (.mv (T 5))])
  (.cond (T 11) (.seq (.seq (.ops [o 12 (.mv (T 6))])
    (.cond (T 12) (.seq (.ops [o 4 (.mv (.c (.v .int (0 : Int))))])
      .ret)
      .skip))
    (.seq (.ops [o 4 (.mv (.c (.v .int ((-1) : Int))))])
    .ret))
    .skip))
  (.seq (.seq (.ops [o 13 (.mv (T 6))])
  (.cond (T 13) (.seq (.ops [o 4 (.mv (.c (.v .int (1 : Int))))])
    .ret)
    .skip))
  (.seq (.seq (.ops [o 14 (.mv (T 0)), o 15 (.mv (T 1)), o 16 (.bi .lss (T 14) (T 15))])
  (.cond (T 16) (.seq (.ops [o 4 (.mv (.c (.v .int ((-1) : Int))))])
    .ret)
    .skip))
  (.seq (.seq (.ops [o 17 (.mv (T 0)), o 18 (.mv (T 1)), o 19 (.bi .gtr (T 17) (T 18))])
  (.cond (T 19) (.seq (.ops [o 4 (.mv (.c (.v .int (1 : Int))))])
    .ret)
    .skip))
  (.seq (.ops [o 4 (.mv (.c (.v .int (0 : Int))))])
  .ret))))))))⟩
/-- slices.CompareFunc[[]sequent/api.Term,[]sequent/api.Term,sequent/api.Term,sequent/api.Term] -/
def c97 : XFn G := ⟨39, [.t 6], .pure [.p .int],
  (.seq (.ops [o 6 (.mv (.c (.v .int (0 : Int))))])
  (.seq (.seq (.ops [o 11 (.mv (T 0)), o 12 (.len (T 11)), o 13 (.mv (.c (.v .int (0 : Int))))])
  (.block 0 (.loop ⟨[(13, .p .int)], [], [0, 1, 2, 11, 12]⟩ (.seq (.ops [o 14 (.bi .lss (T 13) (T 12))])
  (.seq (.cond (T 14) .skip
    (.exit 0))
  (.seq (.block 1 (.seq (.ops [o 15 (.mv (T 13)), o 16 (.ia .tm (T 11) (T 13)), o 17 (.ld .tm (T 16)), .a (some 8) (.alm 27 (.ag .tm [.v .u8 (0 : Int), .v .str (⟨#[]⟩ : ByteArray), .ag .ty [.v .bool false, .v .str (⟨#[]⟩ : ByteArray), .ns .ty], .v .int (0 : Int), .ns .tm])), o 7 (.mv (T 15)), .a none (.st 0 .tm (T 8) (T 17))])
  (.seq (.seq (.ops [o 18 (.mv (T 7)), o 19 (.mv (T 1)), o 20 (.len (T 19)), o 21 (.bi .geq (T 18) (T 20))])
  (.cond (T 21) (.seq (.ops [o 6 (.mv (.c (.v .int (1 : Int))))])
    .ret)
    .skip))
  (.seq (.ops [o 22 (.mv (T 1)), o 23 (.mv (T 7)), o 24 (.ia .tm (T 22) (T 23)), o 25 (.ld .tm (T 24)), .a (some 9) (.alm 27 (.ag .tm [.v .u8 (0 : Int), .v .str (⟨#[]⟩ : ByteArray), .ag .ty [.v .bool false, .v .str (⟨#[]⟩ : ByteArray), .ns .ty], .v .int (0 : Int), .ns .tm])), .a none (.st 0 .tm (T 9) (T 25))])
  (.seq (.ops [o 26 (.mv (T 2)), o 27 (.ld .tm (T 8)), o 28 (.ld .tm (T 9)), .call 0 (some 29) (T 26) [(T 27), (T 28)] [some .tm, some .tm] (.p .int), o 10 (.mv (T 29))])
  (.seq (.ops [o 30 (.mv (T 10)), o 31 (.bi .neq (T 30) (.c (.v .int (0 : Int))))])
  (.cond (T 31) (.seq (.ops [o 32 (.mv (T 10)), o 6 (.mv (T 32))])
    .ret)
    .skip)))))))
  (.ops [o 33 (.inc 13 .i64), o 13 (.mv (T 33))])))))))
  (.seq (.seq (.ops [o 34 (.mv (T 0)), o 35 (.len (T 34)), o 36 (.mv (T 1)), o 37 (.len (T 36)), o 38 (.bi .lss (T 35) (T 37))])
  (.cond (T 38) (.seq (.ops [o 6 (.mv (.c (.v .int ((-1) : Int))))])
    .ret)
    .skip))
  (.seq (.ops [o 6 (.mv (.c (.v .int (0 : Int))))])
  .ret))))⟩
/-- sequent/terms.Free -/
def c100 : XFn G := ⟨18, [.t 2, .t 3], .pure [.p .ltm, .p .int],
  (.seq (.ops [o 1 (.bx (T 0)), o 2 (.mv (.c (.ns .tm))), o 3 (.mv (.c (.v .int (0 : Int))))])
  (.seq (.seq (.ops [o 7 (.ld .tm (T 1)), .call 0 (some 8) (.c (.fn 46 [] [])) [(T 7)] [some .tm] (.p .int), o 4 (.mv (T 8))])
  (.seq (.ops [o 9 (.mv (T 4)), o 10 (.bi .neq (T 9) (.c (.v .int (0 : Int))))])
  (.cond (T 10) (.seq (.ops [o 11 (.mv (T 4)), o 2 (.mv (.c (.ns .tm))), o 3 (.mv (T 11))])
    .ret)
    .skip)))
  (.seq (.ops [.a (some 5) (.alm 114 (.ag .walker [.ns .tm, .ns .str]))])
  (.seq (.ops [o 12 (.mkf 117 [(T 5)] []), o 6 (.mv (T 12))])
  (.seq (.ops [o 13 (.ld .tm (T 1)), o 14 (.mv (T 6)), .adB 0 [0] 27 .tm, .adB 0 [1] 9 .str, .callg 1 (some 15) (.c (.fn 118 [] [])) [(T 13), (T 14)] [0, 1, 2] hi118v1 as118v1 ho118v1 rs118v1])
  (.seq (.ops [o 16 (.fa .walker 0 (T 5)), o 17 (.ld .ltm (T 16)), o 2 (.mv (T 17)), o 3 (.mv (.c (.v .int (0 : Int))))])
  .ret))))))⟩
/-- sequent/subst.variable -/
def c101 : XFn G := ⟨12, [.t 2], .pure [.p .int],
  (.seq (.ops [o 1 (.bx (T 0)), o 2 (.mv (.c (.v .int (0 : Int))))])
  (.seq (.seq (.ops [o 4 (.ld .tm (T 1)), .call 0 (some 5) (.c (.fn 46 [] [])) [(T 4)] [some .tm] (.p .int), o 3 (.mv (T 5))])
  (.seq (.ops [o 6 (.mv (T 3)), o 7 (.bi .neq (T 6) (.c (.v .int (0 : Int))))])
  (.cond (T 7) (.seq (.ops [o 8 (.mv (T 3)), o 2 (.mv (T 8))])
    .ret)
    .skip)))
  (.seq (.seq (.ops [o 9 (.fa .tm 0 (T 1)), o 10 (.ld .u8 (T 9)), o 11 (.bi .neq (T 10) (.c (.v .u8 (1 : Int))))])
  (.cond (T 11) (.seq (.ops [o 2 (.mv (.c (.v .int (20 : Int))))])
    .ret)
    .skip))
  (.seq (.ops [o 2 (.mv (.c (.v .int (0 : Int))))])
  .ret))))⟩
/-- slices.Contains[[]string,string] -/
def c102 : XFn G := ⟨9, [.t 4], .pure [.p .bool],
  (.seq (.ops [o 4 (.mv (.c (.v .bool false)))])
  (.seq (.ops [o 5 (.mv (T 0)), o 6 (.mv (T 1)), .call 0 (some 7) (.c (.fn 119 [] [])) [(T 5), (T 6)] [some .lstr, some .str] (.p .int), o 8 (.bi .geq (T 7) (.c (.v .int (0 : Int)))), o 4 (.mv (T 8))])
  .ret))⟩
/-- sequent/sequentref03.Fresh -/
def c103 : XFn G := ⟨11, [.t 4], .pure [.p .str],
  (.seq (.ops [o 4 (.mv (.c (.v .str (⟨#[]⟩ : ByteArray))))])
  (.seq (.block 0 (.loop ⟨[(1, .p .str)], [], [0]⟩ (.seq (.seq (.ops [o 5 (.mv (T 0)), o 6 (.mv (T 1)), .call 0 (some 7) (.c (.fn 120 [] [])) [(T 5), (T 6)] [some .lstr, some .str] (.p .bool)])
  (.cond (T 7) .skip
    (.exit 0)))
  (.block 1 (.ops [o 8 (.mv (T 1)), o 9 (.bi .add (T 8) (.c (.v .str (⟨#[39]⟩ : ByteArray)))), o 1 (.mv (T 9))])))))
  (.seq (.ops [o 10 (.mv (T 1)), o 4 (.mv (T 10))])
  .ret)))⟩
/-- sequent/sequentref03.Names -/
def c104 : XFn G := ⟨33, [.t 2], .pure [.p .lstr],
  (.seq (.ops [o 2 (.mv (.c (.ns .str)))])
  (.seq (.ops [o 3 (.mv (.c (.ns .str)))])
  (.seq (.seq (.ops [o 4 (.mv (.c (.v .int (0 : Int))))])
  (.block 0 (.ps [.adT 3 9 .str] (.loop ⟨[(3, .row 0), (4, .p .int)], [.row 9 .lstr], [0]⟩ (.seq (.seq (.ops [o 7 (.mv (T 4)), o 8 (.mv (T 0)), o 9 (.len (T 8)), o 10 (.bi .lss (T 7) (T 9))])
  (.cond (T 10) .skip
    (.exit 0)))
  (.seq (.block 1 (.seq (.ops [o 13 (.mv (T 0)), o 14 (.mv (T 4)), o 15 (.ia .tm (T 13) (T 14)), o 16 (.ld .tm (T 15)), .callg 2 (some 17) (.c (.fn 121 [] [])) [(.c (.ns .tm)), (T 16)] [] hi121v2 as121v2 ho121v2 rs121v2, o 5 (.mv (T 17))])
  (.seq (.ops [o 6 (.mv (.c (.v .int (0 : Int))))])
  (.block 2 (.loop ⟨[(3, .row 0), (5, .row 1), (6, .p .int)], [.row 9 .lstr, .row 27 .ltm], [0, 4]⟩ (.seq (.seq (.ops [o 18 (.mv (T 6)), o 19 (.mv (T 5)), o 20 (.len (T 19)), o 21 (.bi .lss (T 18) (T 20))])
  (.cond (T 21) .skip
    (.exit 2)))
  (.seq (.block 3 (.ops [o 24 (.mv (T 3)), o 25 (.mv (T 5)), o 26 (.mv (T 6)), o 27 (.ia .tm (T 25) (T 26)), o 28 (.fa .tm 1 (T 27)), o 29 (.ld .str (T 28)), o 30 (.bsl .str [(T 29)]), .a (some 31) (.app 9 .str (T 24) (T 30)), o 3 (.mv (T 31))]))
  (.ops [o 22 (.mv (T 6)), o 23 (.inc 22 .i64), o 6 (.mv (T 23))]))))))))
  (.ops [o 11 (.mv (T 4)), o 12 (.inc 11 .i64), o 4 (.mv (T 12))])))))))
  (.seq (.ops [o 32 (.mv (T 3)), o 2 (.mv (T 32))])
  .ret))))⟩
/-- sequent/terms.great -/
def c105 : XFn G := ⟨16, [.t 2], .pure [.p .bool],
  (.seq (.ops [o 1 (.bx (T 0)), o 2 (.mv (.c (.v .bool false)))])
  (.seq (.ops [o 6 (.ld .tm (T 1)), .call 0 (some 7) (.c (.fn 122 [] [])) [(T 6)] [some .tm] (.tup [.p .int, .p .int]), o 5 (.mv (T 7)), o 8 (.ext (T 5) 0), o 9 (.ext (T 5) 1), o 3 (.mv (T 8)), o 4 (.mv (T 9))])
  (.seq (.ops [o 10 (.mv (T 3)), o 11 (.bi .gtr (T 10) (.c (.v .int (32000 : Int)))), o 12 (.mv (T 11)), .gd 12 false (some 13) (o 13 (.mv (T 4))), .gd 12 false (some 14) (o 14 (.bi .gtr (T 13) (.c (.v .int (300 : Int))))), o 15 (.pk (T 12) (.c (.v .bool true)) (T 14)), o 2 (.mv (T 15))])
  .ret)))⟩
/-- sequent/terms.formed -/
def c106 : XFn G := ⟨191, [.c 4 .ty, .t 5], .pure [.p .ty, .p .bool],
  (.seq (.ops [o 2 (.bx (T 0)), .a (some 4) (.alm 24 (.ag .ty [.v .bool false, .v .str (⟨#[]⟩ : ByteArray), .ns .ty])), o 5 (.mv (.c (.v .bool false)))])
  (.seq (.seq (.ops [o 12 (.fa .tm 0 (T 2)), o 13 (.ld .u8 (T 12))])
  (.block 0 (.jn ⟨[(4, .ptr 0 0 []), (14, .p .bool)], [.keep], [1, 2, 13]⟩ (.seq (.ops [o 15 (.bi .eql (T 13) (.c (.v .u8 (1 : Int)))), o 14 (.mv (T 15))])
  (.cond (T 14) .skip
    (.ops [o 16 (.bi .eql (T 13) (.c (.v .u8 (2 : Int)))), o 14 (.mv (T 16))])))
  (.cond (T 14) (.seq (.draw [o 17 (.fa .tm 2 (T 2)), o 18 (.ldi .ty (T 17)), o 19 (.ldi .tm (T 2)), .call 0 (some 20) (.c (.fn 123 [] [])) [(T 19), (.c (.v .bool true)), (.c (.v .bool true)), (.c (.v .bool false))] [some .tm, some .bool, some .bool, some .bool] (.p .bool), o 21 (.mv (T 20)), .gd 21 true (some 22) (o 22 (.fa .tm 1 (T 2))), .gd 21 true (some 23) (o 23 (.ldi .str (T 22))), .gd 21 true (some 24) (.call 0 (some 24) (.c (.fn 124 [] [])) [(T 23)] [some .str] (.p .bool)), o 25 (.pk (T 21) (T 24) (.c (.v .bool false))), o 26 (.mv (T 25)), .gd 26 true (some 27) (o 27 (.fa .tm 4 (T 2))), .gd 26 true (some 28) (o 28 (.ldi .ltm (T 27))), .gd 26 true (some 29) (o 29 (.len (T 28))), .gd 26 true (some 30) (o 30 (.bi .eql (T 29) (.c (.v .int (0 : Int))))), o 31 (.pk (T 26) (T 30) (.c (.v .bool false))), o 32 (.mv (T 31)), .gd 32 true (some 33) (o 33 (.fa .tm 2 (T 2))), .gd 32 true (some 34) (o 34 (.ldi .ty (T 33))), .gd 32 true (some 35) (.call 0 (some 35) (.c (.fn 125 [] [])) [(T 34)] [some .ty] (.p .int)), .gd 32 true (some 36) (o 36 (.bi .eql (T 35) (.c (.v .int (0 : Int))))), o 37 (.pk (T 32) (T 36) (.c (.v .bool false))), .a none (.st 1 .ty (T 4) (T 18)), o 5 (.mv (T 37))])
    .ret)
    (.seq (.ops [o 39 (.bi .eql (T 13) (.c (.v .u8 (3 : Int)))), o 38 (.mv (T 39))])
    (.cond (T 38) (.seq (.jn ⟨[(4, .ptr 0 0 []), (60, .p .bool)], [.keep], [1, 2]⟩ (.ops [o 40 (.ld .tm (T 2)), .call 0 (some 41) (.c (.fn 123 [] [])) [(T 40), (.c (.v .bool false)), (.c (.v .bool false)), (.c (.v .bool true))] [some .tm, some .bool, some .bool, some .bool] (.p .bool), o 42 (.un (T 41)), o 43 (.mv (T 42)), .gd 43 false (some 44) (o 44 (.fa .tm 4 (T 2))), .gd 43 false (some 45) (o 45 (.ld .ltm (T 44))), .gd 43 false (some 46) (o 46 (.len (T 45))), .gd 43 false (some 47) (o 47 (.bi .gtr (T 46) (.c (.v .int (0 : Int))))), o 48 (.pk (T 43) (.c (.v .bool true)) (T 47)), o 49 (.mv (T 48)), .gd 49 false (some 50) (o 50 (.fa .tm 3 (T 2))), .gd 49 false (some 51) (o 51 (.ld .int (T 50))), .gd 49 false (some 52) (o 52 (.bi .lss (T 51) (.c (.v .int (0 : Int))))), o 53 (.pk (T 49) (.c (.v .bool true)) (T 52)), o 54 (.mv (T 53)), .gd 54 false (some 55) (o 55 (.fa .tm 3 (T 2))), .gd 54 false (some 56) (o 56 (.ld .int (T 55))), .gd 54 false (some 57) (o 57 (.mv (T 1))), .gd 54 false (some 58) (o 58 (.len (T 57))), .gd 54 false (some 59) (o 59 (.bi .geq (T 56) (T 58))), o 60 (.pk (T 54) (.c (.v .bool true)) (T 59))])
      (.cond (T 60) (.seq (.ops [o 61 (.ld .ty (T 4)), .a none (.st 0 .ty (T 4) (T 61)), o 5 (.mv (.c (.v .bool false)))])
        .ret)
        .skip))
      (.seq (.ops [o 62 (.mv (T 1)), o 63 (.mv (T 1)), o 64 (.len (T 63)), o 65 (.dcr 64 .i64), o 66 (.fa .tm 3 (T 2)), o 67 (.ld .int (T 66)), o 68 (.bi .sub (T 65) (T 67)), o 69 (.ia .ty (T 62) (T 68)), o 70 (.ld .ty (T 69)), .a none (.st 0 .ty (T 4) (T 70)), o 5 (.mv (.c (.v .bool true)))])
      .ret))
      (.seq (.ops [o 72 (.bi .eql (T 13) (.c (.v .u8 (4 : Int)))), o 71 (.mv (T 72))])
      (.cond (T 71) (.seq (.jn ⟨[(4, .ptr 0 0 []), (81, .p .bool)], [.keep], [1, 2]⟩ (.ops [o 73 (.ld .tm (T 2)), .call 0 (some 74) (.c (.fn 123 [] [])) [(T 73), (.c (.v .bool false)), (.c (.v .bool false)), (.c (.v .bool false))] [some .tm, some .bool, some .bool, some .bool] (.p .bool), o 75 (.un (T 74)), o 76 (.mv (T 75)), .gd 76 false (some 77) (o 77 (.fa .tm 4 (T 2))), .gd 76 false (some 78) (o 78 (.ld .ltm (T 77))), .gd 76 false (some 79) (o 79 (.len (T 78))), .gd 76 false (some 80) (o 80 (.bi .neq (T 79) (.c (.v .int (2 : Int))))), o 81 (.pk (T 76) (.c (.v .bool true)) (T 80))])
        (.cond (T 81) (.seq (.ops [o 82 (.ld .ty (T 4)), .a none (.st 0 .ty (T 4) (T 82)), o 5 (.mv (.c (.v .bool false)))])
          .ret)
          .skip))
        (.seq (.ops [o 84 (.fa .tm 4 (T 2)), o 85 (.ld .ltm (T 84)), o 86 (.ia .tm (T 85) (.c (.v .int (0 : Int)))), o 87 (.ld .tm (T 86)), o 88 (.mv (T 1)), .call 0 (some 89) (.c (.fn 106 [] [])) [(T 87), (T 88)] [some .tm, some .lty] (.tup [.p .ty, .p .bool]), o 83 (.mv (T 89)), o 90 (.ext (T 83) 0), o 91 (.ext (T 83) 1), .a (some 6) (.alm 24 (.ag .ty [.v .bool false, .v .str (⟨#[]⟩ : ByteArray), .ns .ty])), .a none (.st 0 .ty (T 6) (T 90)), o 7 (.mv (T 91))])
        (.seq (.ops [o 93 (.fa .tm 4 (T 2)), o 94 (.ld .ltm (T 93)), o 95 (.ia .tm (T 94) (.c (.v .int (1 : Int)))), o 96 (.ld .tm (T 95)), o 97 (.mv (T 1)), .call 0 (some 98) (.c (.fn 106 [] [])) [(T 96), (T 97)] [some .tm, some .lty] (.tup [.p .ty, .p .bool]), o 92 (.mv (T 98)), o 99 (.ext (T 92) 0), o 100 (.ext (T 92) 1), .a (some 8) (.alm 24 (.ag .ty [.v .bool false, .v .str (⟨#[]⟩ : ByteArray), .ns .ty])), .a none (.st 0 .ty (T 8) (T 99)), o 9 (.mv (T 100))])
        (.seq (.jn ⟨[(4, .ptr 0 0 []), (6, .ptr 1 0 []), (130, .p .bool)], [.keep, .keep], []⟩ (.draw [o 101 (.mv (T 7)), o 102 (.un (T 101)), o 103 (.mv (T 102)), .gd 103 false (some 104) (o 104 (.mv (T 9))), .gd 103 false (some 105) (o 105 (.un (T 104))), o 106 (.pk (T 103) (.c (.v .bool true)) (T 105)), o 107 (.mv (T 106)), .gd 107 false (some 108) (o 108 (.fa .ty 0 (T 6))), .gd 107 false (some 109) (o 109 (.ld .bool (T 108))), o 110 (.pk (T 107) (.c (.v .bool true)) (T 109)), o 111 (.mv (T 110)), .gd 111 false (some 112) (o 112 (.fa .ty 1 (T 6))), .gd 111 false (some 113) (o 113 (.ld .str (T 112))), .gd 111 false (some 114) (o 114 (.bi .neq (T 113) (.c (.v .str (⟨#[102, 117, 110]⟩ : ByteArray))))), o 115 (.pk (T 111) (.c (.v .bool true)) (T 114)), o 116 (.mv (T 115)), .gd 116 false (some 117) (o 117 (.fa .ty 2 (T 6))), .gd 116 false (some 118) (o 118 (.ld .lty (T 117))), .gd 116 false (some 119) (o 119 (.len (T 118))), .gd 116 false (some 120) (o 120 (.bi .neq (T 119) (.c (.v .int (2 : Int))))), o 121 (.pk (T 116) (.c (.v .bool true)) (T 120)), o 122 (.mv (T 121)), .gd 122 false (some 123) (o 123 (.fa .ty 2 (T 6))), .gd 122 false (some 124) (o 124 (.ld .lty (T 123))), .gd 122 false (some 125) (o 125 (.ia .ty (T 124) (.c (.v .int (0 : Int))))), .gd 122 false (some 126) (o 126 (.ld .ty (T 125))), .gd 122 false (some 127) (o 127 (.ld .ty (T 8))), .gd 122 false (some 128) (.call 0 (some 128) (.c (.fn 51 [] [])) [(T 126), (T 127)] [some .ty, some .ty] (.p .bool)), .gd 122 false (some 129) (o 129 (.un (T 128))), o 130 (.pk (T 122) (.c (.v .bool true)) (T 129))])
        (.cond (T 130) (.seq (.ops [o 131 (.ld .ty (T 4)), .a none (.st 0 .ty (T 4) (T 131)), o 5 (.mv (.c (.v .bool false)))])
          .ret)
          .skip))
        (.seq (.ops [o 132 (.fa .ty 2 (T 6)), o 133 (.ld .lty (T 132)), o 134 (.ia .ty (T 133) (.c (.v .int (1 : Int)))), o 135 (.ld .ty (T 134)), .a none (.st 0 .ty (T 4) (T 135)), o 5 (.mv (.c (.v .bool true)))])
        .ret)))))
        (.seq (.ops [o 137 (.bi .eql (T 13) (.c (.v .u8 (5 : Int)))), o 136 (.mv (T 137))])
        (.cond (T 136) (.seq (.jn ⟨[(4, .ptr 0 0 []), (158, .p .bool)], [.keep], [1, 2]⟩ (.ops [o 138 (.ld .tm (T 2)), .call 0 (some 139) (.c (.fn 123 [] [])) [(T 138), (.c (.v .bool true)), (.c (.v .bool true)), (.c (.v .bool false))] [some .tm, some .bool, some .bool, some .bool] (.p .bool), o 140 (.un (T 139)), o 141 (.mv (T 140)), .gd 141 false (some 142) (o 142 (.fa .tm 4 (T 2))), .gd 141 false (some 143) (o 143 (.ld .ltm (T 142))), .gd 141 false (some 144) (o 144 (.len (T 143))), .gd 141 false (some 145) (o 145 (.bi .neq (T 144) (.c (.v .int (1 : Int))))), o 146 (.pk (T 141) (.c (.v .bool true)) (T 145)), o 147 (.mv (T 146)), .gd 147 false (some 148) (o 148 (.fa .tm 1 (T 2))), .gd 147 false (some 149) (o 149 (.ld .str (T 148))), .gd 147 false (some 150) (.call 0 (some 150) (.c (.fn 124 [] [])) [(T 149)] [some .str] (.p .bool)), .gd 147 false (some 151) (o 151 (.un (T 150))), o 152 (.pk (T 147) (.c (.v .bool true)) (T 151)), o 153 (.mv (T 152)), .gd 153 false (some 154) (o 154 (.fa .tm 2 (T 2))), .gd 153 false (some 155) (o 155 (.ld .ty (T 154))), .gd 153 false (some 156) (.call 0 (some 156) (.c (.fn 125 [] [])) [(T 155)] [some .ty] (.p .int)), .gd 153 false (some 157) (o 157 (.bi .neq (T 156) (.c (.v .int (0 : Int))))), o 158 (.pk (T 153) (.c (.v .bool true)) (T 157))])
          (.cond (T 158) (.seq (.ops [o 159 (.ld .ty (T 4)), .a none (.st 0 .ty (T 4) (T 159)), o 5 (.mv (.c (.v .bool false)))])
            .ret)
            .skip))
          (.seq (.draw [o 161 (.fa .tm 4 (T 2)), o 162 (.ldi .ltm (T 161)), o 163 (.ia .tm (T 162) (.c (.v .int (0 : Int)))), o 164 (.ld .tm (T 163)), o 165 (.mv (T 1)), o 166 (.mv (T 1)), o 167 (.len (T 166)), o 168 (.mv (T 1)), o 169 (.len (T 168)), o 170 (.slct .ty (T 165) (T 167) (T 169)), o 171 (.fa .tm 2 (T 2)), o 172 (.ldi .ty (T 171)), o 173 (.bsl .ty [(T 172)]), o 174 (.apt .lty 24 .ty (T 170) (T 173)), .call 0 (some 175) (.c (.fn 106 [] [])) [(T 164), (T 174)] [some .tm, some .lty] (.tup [.p .ty, .p .bool]), o 160 (.mv (T 175)), o 176 (.ext (T 160) 0), o 177 (.ext (T 160) 1), .a (some 10) (.alm 24 (.ag .ty [.v .bool false, .v .str (⟨#[]⟩ : ByteArray), .ns .ty])), .a none (.st 1 .ty (T 10) (T 176)), o 11 (.mv (T 177))])
          (.seq (.seq (.ops [o 178 (.mv (T 11)), o 179 (.un (T 178))])
          (.cond (T 179) (.seq (.ops [o 180 (.ld .ty (T 4)), .a none (.st 0 .ty (T 4) (T 180)), o 5 (.mv (.c (.v .bool false)))])
            .ret)
            .skip))
          (.seq (.ops [o 181 (.fa .tm 2 (T 2)), o 182 (.ld .ty (T 181)), o 183 (.ld .ty (T 10)), o 184 (.bsl .ty [(T 182), (T 183)]), o 185 (.bld .ty [.v .bool false, .v .str (⟨#[]⟩ : ByteArray), .ns .ty] [(1, (.c (.v .str (⟨#[102, 117, 110]⟩ : ByteArray)))), (2, (T 184))]), .a none (.st 0 .ty (T 4) (T 185))])
          (.seq (.draw [o 186 (.ld .ty (T 4)), o 187 (.ld .ty (T 4)), .call 0 (some 188) (.c (.fn 125 [] [])) [(T 187)] [some .ty] (.p .int), o 189 (.bi .eql (T 188) (.c (.v .int (0 : Int)))), .a none (.st 1 .ty (T 4) (T 186)), o 5 (.mv (T 189))])
          .ret)))))
          .skip))))))))))
  (.seq (.ops [o 190 (.ld .ty (T 4)), .a none (.st 0 .ty (T 4) (T 190)), o 5 (.mv (.c (.v .bool false)))])
  .ret)))⟩
/-- sequent/types.rank -/
def c107 : XFn G := ⟨5, [.t 2], .pure [.p .int],
  (.seq (.ops [o 1 (.bx (T 0)), o 2 (.mv (.c (.v .int (0 : Int))))])
  (.seq (.seq (.ops [o 3 (.fa .ty 0 (T 1)), o 4 (.ld .bool (T 3))])
  (.cond (T 4) (.seq (.ops [o 2 (.mv (.c (.v .int (0 : Int))))])
    .ret)
    .skip))
  (.seq (.ops [o 2 (.mv (.c (.v .int (1 : Int))))])
  .ret)))⟩
/-- slices.CompareFunc[[]sequent/api.Type,[]sequent/api.Type,sequent/api.Type,sequent/api.Type] -/
def c108 : XFn G := ⟨39, [.t 6], .pure [.p .int],
  (.seq (.ops [o 6 (.mv (.c (.v .int (0 : Int))))])
  (.seq (.seq (.ops [o 11 (.mv (T 0)), o 12 (.len (T 11)), o 13 (.mv (.c (.v .int (0 : Int))))])
  (.block 0 (.loop ⟨[(13, .p .int)], [], [0, 1, 2, 11, 12]⟩ (.seq (.ops [o 14 (.bi .lss (T 13) (T 12))])
  (.seq (.cond (T 14) .skip
    (.exit 0))
  (.seq (.block 1 (.seq (.ops [o 15 (.mv (T 13)), o 16 (.ia .ty (T 11) (T 13)), o 17 (.ld .ty (T 16)), .a (some 8) (.alm 24 (.ag .ty [.v .bool false, .v .str (⟨#[]⟩ : ByteArray), .ns .ty])), o 7 (.mv (T 15)), .a none (.st 0 .ty (T 8) (T 17))])
  (.seq (.seq (.ops [o 18 (.mv (T 7)), o 19 (.mv (T 1)), o 20 (.len (T 19)), o 21 (.bi .geq (T 18) (T 20))])
  (.cond (T 21) (.seq (.ops [o 6 (.mv (.c (.v .int (1 : Int))))])
    .ret)
    .skip))
  (.seq (.ops [o 22 (.mv (T 1)), o 23 (.mv (T 7)), o 24 (.ia .ty (T 22) (T 23)), o 25 (.ld .ty (T 24)), .a (some 9) (.alm 24 (.ag .ty [.v .bool false, .v .str (⟨#[]⟩ : ByteArray), .ns .ty])), .a none (.st 0 .ty (T 9) (T 25))])
  (.seq (.ops [o 26 (.mv (T 2)), o 27 (.ld .ty (T 8)), o 28 (.ld .ty (T 9)), .call 0 (some 29) (T 26) [(T 27), (T 28)] [some .ty, some .ty] (.p .int), o 10 (.mv (T 29))])
  (.seq (.ops [o 30 (.mv (T 10)), o 31 (.bi .neq (T 30) (.c (.v .int (0 : Int))))])
  (.cond (T 31) (.seq (.ops [o 32 (.mv (T 10)), o 6 (.mv (T 32))])
    .ret)
    .skip)))))))
  (.ops [o 33 (.inc 13 .i64), o 13 (.mv (T 33))])))))))
  (.seq (.seq (.ops [o 34 (.mv (T 0)), o 35 (.len (T 34)), o 36 (.mv (T 1)), o 37 (.len (T 36)), o 38 (.bi .lss (T 35) (T 37))])
  (.cond (T 38) (.seq (.ops [o 6 (.mv (.c (.v .int ((-1) : Int))))])
    .ret)
    .skip))
  (.seq (.ops [o 6 (.mv (.c (.v .int (0 : Int))))])
  .ret))))⟩
/-- sequent/sequentref02.Name -/
def c109 : XFn G := ⟨10, [.t 2], .pure [.p .bool],
  (.seq (.ops [o 2 (.mv (.c (.v .bool false)))])
  (.seq (.ops [o 3 (.mv (T 0)), .call 0 (some 4) (.c (.fn 126 [] [])) [(T 3)] [some .str] (.p .bool), o 5 (.mv (T 4)), .gd 5 true (some 6) (o 6 (.mv (T 0))), .gd 5 true (some 7) (o 7 (.ix (T 6) (.c (.v .int (0 : Int))))), .gd 5 true (some 8) (o 8 (.bi .neq (T 7) (.c (.v .u8 (39 : Int))))), o 9 (.pk (T 5) (T 8) (.c (.v .bool false))), o 2 (.mv (T 9))])
  .ret))⟩
/-- sequent/sequentref01.Valid -/
def c110 : XFn G := ⟨9, [.t 2], .pure [.p .bool],
  (.seq (.ops [o 1 (.bx (T 0)), o 2 (.mv (.c (.v .bool false)))])
  (.seq (.ops [o 3 (.ld .ty (T 1)), .call 0 (some 4) (.c (.fn 127 [] [])) [(T 3)] [some .ty] (.p .bool), o 5 (.mv (T 4)), .gd 5 true (some 6) (o 6 (.ld .ty (T 1))), .gd 5 true (some 7) (.call 0 (some 7) (.c (.fn 128 [] [])) [(T 6)] [some .ty] (.p .bool)), o 8 (.pk (T 5) (T 7) (.c (.v .bool false))), o 2 (.mv (T 8))])
  .ret))⟩
/-- sequent/sequentref02.none -/
def c111 : XFn G := ⟨17, [.t 2], .pure [.p .bool],
  (.seq (.ops [o 1 (.bx (T 0)), o 2 (.mv (.c (.v .bool false)))])
  (.seq (.ops [o 3 (.fa .ty 0 (T 1)), o 4 (.ld .bool (T 3)), o 5 (.un (T 4)), o 6 (.mv (T 5)), .gd 6 true (some 7) (o 7 (.fa .ty 1 (T 1))), .gd 6 true (some 8) (o 8 (.ld .str (T 7))), .gd 6 true (some 9) (o 9 (.bi .eql (T 8) (.c (.v .str (⟨#[]⟩ : ByteArray))))), o 10 (.pk (T 6) (T 9) (.c (.v .bool false))), o 11 (.mv (T 10)), .gd 11 true (some 12) (o 12 (.fa .ty 2 (T 1))), .gd 11 true (some 13) (o 13 (.ld .lty (T 12))), .gd 11 true (some 14) (o 14 (.len (T 13))), .gd 11 true (some 15) (o 15 (.bi .eql (T 14) (.c (.v .int (0 : Int))))), o 16 (.pk (T 11) (T 15) (.c (.v .bool false))), o 2 (.mv (T 16))])
  .ret))⟩
/-- sequent/sequentref01.count -/
def c112 : XFn G := ⟨38, [.t 6], .pure [.p .int],
  (.seq (.ops [o 3 (.bx (T 0)), o 6 (.mv (.c (.v .int (0 : Int))))])
  (.seq (.seq (.ops [o 8 (.mv (T 2)), o 9 (.bi .eql (T 8) (.c (.v .int (0 : Int))))])
  (.cond (T 9) (.seq (.ops [o 6 (.mv (.c (.v .int (0 : Int))))])
    .ret)
    .skip))
  (.seq (.ops [o 10 (.mv (T 1)), o 11 (.dcr 10 .i64), o 12 (.fa .ty 1 (T 3)), o 13 (.ld .str (T 12)), o 14 (.lens (T 13)), o 15 (.bi .quo (T 14) (.c (.v .int (100 : Int)))), o 16 (.bi .sub (T 11) (T 15)), o 1 (.mv (T 16))])
  (.seq (.seq (.ops [o 7 (.mv (.c (.v .int (0 : Int))))])
  (.block 0 (.loop ⟨[(1, .p .int), (7, .p .int)], [], [2, 3]⟩ (.seq (.jn ⟨[(25, .p .bool)], [], [1, 2, 3, 7]⟩ (.ops [o 17 (.mv (T 7)), o 18 (.fa .ty 2 (T 3)), o 19 (.ld .lty (T 18)), o 20 (.len (T 19)), o 21 (.bi .lss (T 17) (T 20)), o 22 (.mv (T 21)), .gd 22 true (some 23) (o 23 (.mv (T 1))), .gd 22 true (some 24) (o 24 (.bi .gtr (T 23) (.c (.v .int (0 : Int))))), o 25 (.pk (T 22) (T 24) (.c (.v .bool false)))])
  (.cond (T 25) .skip
    (.exit 0)))
  (.seq (.block 1 (.ops [o 28 (.fa .ty 2 (T 3)), o 29 (.ld .lty (T 28)), o 30 (.mv (T 7)), o 31 (.ia .ty (T 29) (T 30)), o 32 (.ld .ty (T 31)), o 33 (.mv (T 1)), o 34 (.mv (T 2)), o 35 (.dcr 34 .i64), .call 0 (some 36) (.c (.fn 112 [] [])) [(T 32), (T 33), (T 35)] [some .ty, some .int, some .int] (.p .int), o 1 (.mv (T 36))]))
  (.ops [o 26 (.mv (T 7)), o 27 (.inc 26 .i64), o 7 (.mv (T 27))]))))))
  (.seq (.ops [o 37 (.mv (T 1)), o 6 (.mv (T 37))])
  .ret)))))⟩
/-- cmp.isNaN[uint8] -/
def c113 : XFn G := ⟨6, [.t 2], .pure [.p .bool],
  (.seq (.ops [o 2 (.mv (.c (.v .bool false)))])
  (.seq (.ops [o 3 (.mv (T 0)), o 4 (.mv (T 0)), o 5 (.bi .neq (T 3) (T 4)), o 2 (.mv (T 5))])
  .ret))⟩
/-- cmp.isNaN[int] -/
def c115 : XFn G := ⟨6, [.t 2], .pure [.p .bool],
  (.seq (.ops [o 2 (.mv (.c (.v .bool false)))])
  (.seq (.ops [o 3 (.mv (T 0)), o 4 (.mv (T 0)), o 5 (.bi .neq (T 3) (T 4)), o 2 (.mv (T 5))])
  .ret))⟩
/-- (*sequent/terms.walker).note -/
def c117v1 : XFn G := ⟨70, [], .own 3 ho117v1 [],
  (.seq (.ops [o 3 (.bx (T 1))])
  (.jn ⟨[(0, .ptr 0 0 [])], [.box 114 (.ag .walker [.row 1, .row 2]), .row 27 .ltm, .row 9 .lstr, .pin 0], [3]⟩ (.jn ⟨[(0, .ptr 0 0 []), (19, .p .bool)], [.keep, .row 27 .ltm, .row 9 .lstr, .pin 0], [3]⟩ (.ops [o 8 (.fa .tm 0 (T 3)), o 9 (.ld .u8 (T 8)), o 10 (.bi .eql (T 9) (.c (.v .u8 (1 : Int)))), o 11 (.mv (T 10)), .gd 11 true (some 12) (o 12 (.mv (T 0))), .gd 11 true (some 13) (o 13 (.nc (T 12))), .gd 11 true (some 14) (o 14 (.fa .walker 0 (T 13))), .gd 11 true (some 15) (o 15 (.ld .ltm (T 14))), .gd 11 true (some 16) (o 16 (.mkf 132 [] [(T 3)])), .gd 11 true (some 17) (.call 1 (some 17) (.c (.fn 131 [] [])) [(T 15), (T 16)] [some .ltm] (.p .bool)), .gd 11 true (some 18) (o 18 (.un (T 17))), o 19 (.pk (T 11) (T 18) (.c (.v .bool false)))])
  (.cond (T 19) (.draw [o 20 (.mv (T 0)), o 21 (.nc (T 20)), o 22 (.fa .walker 0 (T 21)), o 23 (.ld .ltm (T 22)), o 24 (.ldi .tm (T 3)), .call 0 (some 25) (.c (.fn 52 [] [])) [(T 24)] [some .tm] (.p .tm), o 26 (.len (T 23)), o 27 (.bsl .tm [(.c (.v .tm (Tm.mk 0 (⟨#[]⟩ : ByteArray) (Ty.mk false (⟨#[]⟩ : ByteArray) []) 0 [])))]), .a (some 28) (.app 27 .tm (T 23) (T 27)), o 29 (.ia .tm (T 28) (T 26)), .a none (.st 2 .tm (T 29) (T 25)), o 30 (.nc (T 20)), o 31 (.fa .walker 0 (T 30)), .a none (.st 1 .ltm (T 31) (T 28))])
    .skip))
  (.seq (.jn ⟨[(0, .ptr 0 0 []), (39, .p .bool)], [.keep, .row 27 .ltm, .row 9 .lstr, .pin 0], [3]⟩ (.ops [o 32 (.fa .tm 0 (T 3)), o 33 (.ld .u8 (T 32)), o 34 (.bi .eql (T 33) (.c (.v .u8 (4 : Int)))), o 35 (.mv (T 34)), .gd 35 false (some 36) (o 36 (.fa .tm 0 (T 3))), .gd 35 false (some 37) (o 37 (.ld .u8 (T 36))), .gd 35 false (some 38) (o 38 (.bi .eql (T 37) (.c (.v .u8 (3 : Int))))), o 39 (.pk (T 35) (.c (.v .bool true)) (T 38))])
  (.cond (T 39) .ret
    .skip))
  (.seq (.ops [o 41 (.fa .tm 2 (T 3)), o 42 (.ld .ty (T 41)), .call 0 (some 43) (.c (.fn 133 [] [])) [(T 42)] [some .ty] (.tup [.p .lstr, .p .int]), o 40 (.mv (T 43)), o 44 (.ext (T 40) 0), o 45 (.ext (T 40) 1), o 4 (.mv (T 44)), o 5 (.mv (T 45))])
  (.seq (.ops [o 46 (.mv (T 4)), o 47 (.len (T 46)), o 48 (.mv (.c (.v .int (0 : Int))))])
  (.block 0 (.loop ⟨[(0, .ptr 0 0 []), (48, .p .int)], [.box 114 (.ag .walker [.row 1, .row 2]), .row 27 .ltm, .row 9 .lstr, .pin 0], [3, 46, 47]⟩ (.seq (.ops [o 49 (.bi .lss (T 48) (T 47))])
  (.seq (.cond (T 49) .skip
    (.exit 0))
  (.jn ⟨[(0, .ptr 0 0 [])], [.box 114 (.ag .walker [.row 1, .row 2]), .row 27 .ltm, .row 9 .lstr, .pin 0], [3, 46, 47, 48]⟩ (.block 1 (.seq (.ops [o 50 (.ia .str (T 46) (T 48)), o 51 (.ld .str (T 50)), o 7 (.mv (T 51))])
  (.seq (.ops [o 52 (.mv (T 0)), o 53 (.nc (T 52)), o 54 (.fa .walker 1 (T 53)), o 55 (.ld .lstr (T 54)), o 56 (.mv (T 7)), .call 1 (some 57) (.c (.fn 102 [] [])) [(T 55), (T 56)] [some .lstr, some .str] (.p .bool), o 58 (.un (T 57))])
  (.cond (T 58) (.ops [o 59 (.mv (T 0)), o 60 (.mv (T 0)), o 61 (.nc (T 60)), o 62 (.fa .walker 1 (T 61)), o 63 (.ld .lstr (T 62)), o 64 (.mv (T 7)), o 65 (.bsl .str [(T 64)]), .a (some 66) (.app 9 .str (T 63) (T 65)), o 67 (.nc (T 59)), o 68 (.fa .walker 1 (T 67)), .a none (.st 0 .lstr (T 68) (T 66))])
    .skip))))
  (.ops [o 69 (.inc 48 .i64), o 48 (.mv (T 69))])))))))))))⟩
/-- sequent/terms.each -/
def c118v1 : XFn G := ⟨20, [], .own 3 ho118v1 [],
  (.seq (.ops [o 2 (.bx (T 0))])
  (.seq (.ops [o 6 (.mv (T 1)), o 7 (.ld .tm (T 2)), .callg 1 (some 8) (T 6) [(T 7)] [0, 1, 2] hi117v1 as117v1 ho117v1 rs117v1])
  (.seq (.ops [o 9 (.fa .tm 4 (T 2)), o 10 (.ld .ltm (T 9)), o 11 (.len (T 10)), o 12 (.mv (.c (.v .int (0 : Int))))])
  (.block 0 (.loop ⟨[(1, .fn 117 [.ptr 0 0 []] []), (12, .p .int)], [.box 114 (.ag .walker [.row 1, .row 2]), .row 27 .ltm, .row 9 .lstr, .pin 0], [10, 11]⟩ (.seq (.ops [o 13 (.bi .lss (T 12) (T 11))])
  (.seq (.cond (T 13) .skip
    (.exit 0))
  (.seq (.block 1 (.seq (.ops [o 14 (.ia .tm (T 10) (T 12)), o 15 (.ld .tm (T 14)), .a (some 5) (.alm 27 (.ag .tm [.v .u8 (0 : Int), .v .str (⟨#[]⟩ : ByteArray), .ag .ty [.v .bool false, .v .str (⟨#[]⟩ : ByteArray), .ns .ty], .v .int (0 : Int), .ns .tm])), .a none (.st 0 .tm (T 5) (T 15))])
  (.ops [o 16 (.ld .tm (T 5)), o 17 (.mv (T 1)), .callg 1 (some 18) (.c (.fn 118 [] [])) [(T 16), (T 17)] [0, 1, 2] hi118v1 as118v1 ho118v1 rs118v1])))
  (.ops [o 19 (.inc 12 .i64), o 12 (.mv (T 19))])))))))))⟩
/-- slices.Index[[]string,string] -/
def c119 : XFn G := ⟨19, [.t 4], .pure [.p .int],
  (.seq (.ops [o 4 (.mv (.c (.v .int (0 : Int))))])
  (.seq (.seq (.ops [o 6 (.mv (T 0)), o 7 (.len (T 6)), o 8 (.mv (.c (.v .int (0 : Int))))])
  (.block 0 (.loop ⟨[(8, .p .int)], [], [0, 1, 7]⟩ (.seq (.ops [o 9 (.bi .lss (T 8) (T 7))])
  (.seq (.cond (T 9) .skip
    (.exit 0))
  (.seq (.block 1 (.seq (.ops [o 10 (.mv (T 8)), o 5 (.mv (T 10))])
  (.seq (.ops [o 11 (.mv (T 1)), o 12 (.mv (T 0)), o 13 (.mv (T 5)), o 14 (.ia .str (T 12) (T 13)), o 15 (.ld .str (T 14)), o 16 (.bi .eql (T 11) (T 15))])
  (.cond (T 16) (.seq (.ops [o 17 (.mv (T 5)), o 4 (.mv (T 17))])
    .ret)
    .skip))))
  (.ops [o 18 (.inc 8 .i64), o 8 (.mv (T 18))])))))))
  (.seq (.ops [o 4 (.mv (.c (.v .int ((-1) : Int))))])
  .ret)))⟩
/-- sequent/sequentref01.In -/
def c120 : XFn G := ⟨18, [.t 4], .pure [.p .bool],
  (.seq (.ops [o 4 (.mv (.c (.v .bool false)))])
  (.seq (.seq (.ops [o 5 (.mv (.c (.v .int (0 : Int))))])
  (.block 0 (.loop ⟨[(5, .p .int)], [], [0, 1]⟩ (.seq (.seq (.ops [o 6 (.mv (T 5)), o 7 (.mv (T 0)), o 8 (.len (T 7)), o 9 (.bi .lss (T 6) (T 8))])
  (.cond (T 9) .skip
    (.exit 0)))
  (.seq (.block 1 (.seq (.ops [o 12 (.mv (T 0)), o 13 (.mv (T 5)), o 14 (.ia .str (T 12) (T 13)), o 15 (.ld .str (T 14)), o 16 (.mv (T 1)), o 17 (.bi .eql (T 15) (T 16))])
  (.cond (T 17) (.seq (.ops [o 4 (.mv (.c (.v .bool true)))])
    .ret)
    .skip)))
  (.ops [o 10 (.mv (T 5)), o 11 (.inc 10 .i64), o 5 (.mv (T 11))]))))))
  (.seq (.ops [o 4 (.mv (.c (.v .bool false)))])
  .ret)))⟩
/-- sequent/sequentref02.Vars -/
def c121v1 : XFn G := ⟨35, [.t 4], .own 1 ho121v1 [.row 0],
  (.seq (.ops [o 3 (.bx (T 1)), o 4 (.mv (.c (.ns .tm)))])
  (.jn ⟨[(0, .row 0)], [.row 27 .ltm], [3]⟩ (.jn ⟨[(0, .row 0), (14, .p .bool)], [.row 27 .ltm], [3]⟩ (.ops [o 6 (.fa .tm 0 (T 3)), o 7 (.ld .u8 (T 6)), o 8 (.bi .eql (T 7) (.c (.v .u8 (1 : Int)))), o 9 (.mv (T 8)), .gd 9 true (some 10) (o 10 (.mv (T 0))), .gd 9 true (some 11) (o 11 (.ld .tm (T 3))), .gd 9 true (some 12) (.call 1 (some 12) (.c (.fn 134 [] [])) [(T 10), (T 11)] [some .ltm, some .tm] (.p .bool)), .gd 9 true (some 13) (o 13 (.un (T 12))), o 14 (.pk (T 9) (T 13) (.c (.v .bool false)))])
  (.cond (T 14) (.ops [o 15 (.mv (T 0)), o 16 (.ld .tm (T 3)), .call 0 (some 17) (.c (.fn 58 [] [])) [(T 16)] [some .tm] (.p .tm), o 18 (.bsl .tm [(T 17)]), .a (some 19) (.app 27 .tm (T 15) (T 18)), o 0 (.mv (T 19))])
    .skip))
  (.seq (.seq (.ops [o 5 (.mv (.c (.v .int (0 : Int))))])
  (.block 0 (.loop ⟨[(0, .row 0), (5, .p .int)], [.row 27 .ltm], [3]⟩ (.seq (.seq (.ops [o 20 (.mv (T 5)), o 21 (.fa .tm 4 (T 3)), o 22 (.ld .ltm (T 21)), o 23 (.len (T 22)), o 24 (.bi .lss (T 20) (T 23))])
  (.cond (T 24) .skip
    (.exit 0)))
  (.seq (.block 1 (.ops [o 27 (.mv (T 0)), o 28 (.fa .tm 4 (T 3)), o 29 (.ld .ltm (T 28)), o 30 (.mv (T 5)), o 31 (.ia .tm (T 29) (T 30)), o 32 (.ld .tm (T 31)), .callg 1 (some 33) (.c (.fn 121 [] [])) [(T 27), (T 32)] [0] hi121v1 as121v1 ho121v1 rs121v1, o 0 (.mv (T 33))]))
  (.ops [o 25 (.mv (T 5)), o 26 (.inc 25 .i64), o 5 (.mv (T 26))]))))))
  (.seq (.ops [o 34 (.mv (T 0)), o 4 (.mv (T 34))])
  .ret))))⟩
/-- sequent/sequentref02.Vars -/
def c121v2 : XFn G := ⟨35, [.t 4], .own 0 ho121v2 [.row 0],
  (.seq (.ops [o 3 (.bx (T 1)), o 4 (.mv (.c (.ns .tm)))])
  (.jn ⟨[(0, .row 0)], [.row 27 .ltm], [3]⟩ (.th (.jn ⟨[(14, .p .bool)], [], [0, 3]⟩ (.ops [o 6 (.fa .tm 0 (T 3)), o 7 (.ld .u8 (T 6)), o 8 (.bi .eql (T 7) (.c (.v .u8 (1 : Int)))), o 9 (.mv (T 8)), .gd 9 true (some 10) (o 10 (.mv (T 0))), .gd 9 true (some 11) (o 11 (.ld .tm (T 3))), .gd 9 true (some 12) (.call 0 (some 12) (.c (.fn 134 [] [])) [(T 10), (T 11)] [some .ltm, some .tm] (.p .bool)), .gd 9 true (some 13) (o 13 (.un (T 12))), o 14 (.pk (T 9) (T 13) (.c (.v .bool false)))])
  (.cond (T 14) (.ops [o 15 (.mv (T 0)), o 16 (.ld .tm (T 3)), .call 0 (some 17) (.c (.fn 58 [] [])) [(T 16)] [some .tm] (.p .tm), o 18 (.bsl .tm [(T 17)]), .a (some 19) (.app 27 .tm (T 15) (T 18)), o 0 (.mv (T 19))])
    .skip)) [.adT 0 27 .tm])
  (.seq (.seq (.ops [o 5 (.mv (.c (.v .int (0 : Int))))])
  (.block 0 (.loop ⟨[(0, .row 0), (5, .p .int)], [.row 27 .ltm], [3]⟩ (.seq (.seq (.ops [o 20 (.mv (T 5)), o 21 (.fa .tm 4 (T 3)), o 22 (.ld .ltm (T 21)), o 23 (.len (T 22)), o 24 (.bi .lss (T 20) (T 23))])
  (.cond (T 24) .skip
    (.exit 0)))
  (.seq (.block 1 (.ops [o 27 (.mv (T 0)), o 28 (.fa .tm 4 (T 3)), o 29 (.ld .ltm (T 28)), o 30 (.mv (T 5)), o 31 (.ia .tm (T 29) (T 30)), o 32 (.ld .tm (T 31)), .callg 1 (some 33) (.c (.fn 121 [] [])) [(T 27), (T 32)] [0] hi121v1 as121v1 ho121v1 rs121v1, o 0 (.mv (T 33))]))
  (.ops [o 25 (.mv (T 5)), o 26 (.inc 25 .i64), o 5 (.mv (T 26))]))))))
  (.seq (.ops [o 34 (.mv (T 0)), o 4 (.mv (T 34))])
  .ret))))⟩
/-- sequent/terms.extent -/
def c122 : XFn G := ⟨30, [.t 2, .t 3], .pure [.p .int, .p .int],
  (.seq (.ops [o 1 (.bx (T 0)), o 2 (.mv (.c (.v .int (0 : Int)))), o 3 (.mv (.c (.v .int (0 : Int))))])
  (.seq (.ops [o 2 (.mv (.c (.v .int (1 : Int))))])
  (.seq (.seq (.ops [o 8 (.fa .tm 4 (T 1)), o 9 (.ld .ltm (T 8)), o 10 (.len (T 9)), o 11 (.mv (.c (.v .int (0 : Int))))])
  (.block 0 (.loop ⟨[(2, .p .int), (3, .p .int), (11, .p .int)], [], [9, 10]⟩ (.seq (.ops [o 12 (.bi .lss (T 11) (T 10))])
  (.seq (.cond (T 12) .skip
    (.exit 0))
  (.seq (.block 1 (.seq (.ops [o 13 (.ia .tm (T 9) (T 11)), o 14 (.ld .tm (T 13)), .a (some 5) (.alm 27 (.ag .tm [.v .u8 (0 : Int), .v .str (⟨#[]⟩ : ByteArray), .ag .ty [.v .bool false, .v .str (⟨#[]⟩ : ByteArray), .ns .ty], .v .int (0 : Int), .ns .tm])), .a none (.st 0 .tm (T 5) (T 14))])
  (.seq (.ops [o 16 (.ld .tm (T 5)), .call 0 (some 17) (.c (.fn 122 [] [])) [(T 16)] [some .tm] (.tup [.p .int, .p .int]), o 15 (.mv (T 17)), o 18 (.ext (T 15) 0), o 19 (.ext (T 15) 1), o 6 (.mv (T 18)), o 7 (.mv (T 19))])
  (.ops [o 20 (.mv (T 2)), o 21 (.mv (T 6)), o 22 (.bi .add (T 20) (T 21)), o 23 (.mv (T 3)), o 24 (.mv (T 7)), o 25 (.mx (T 23) (T 24)), o 2 (.mv (T 22)), o 3 (.mv (T 25))]))))
  (.ops [o 26 (.inc 11 .i64), o 11 (.mv (T 26))])))))))
  (.seq (.ops [o 27 (.mv (T 2)), o 28 (.mv (T 3)), o 29 (.inc 28 .i64), o 2 (.mv (T 27)), o 3 (.mv (T 29))])
  .ret))))⟩
/-- sequent/terms.plain -/
def c123 : XFn G := ⟨45, [.t 8], .pure [.p .bool],
  (.seq (.ops [o 4 (.bx (T 0)), o 8 (.mv (.c (.v .bool false)))])
  (.seq (.ops (o 9 (.mv (T 1)) :: o 10 (.mv (T 9)) :: .gd 10 false (some 11) (o 11 (.fa .tm 1 (T 4))) :: .gd 10 false (some 12) (o 12 (.ld .str (T 11))) :: .gd 10 false (some 13) (o 13 (.bi .eql (T 12) (.c (.v .str (⟨#[]⟩ : ByteArray))))) :: o 14 (.pk (T 10) (.c (.v .bool true)) (T 13)) :: o 15 (.mv (T 14)) :: .gd 15 true (some 16) (o 16 (.mv (T 2))) :: .gd 15 true (some 17) (o 17 (.mv (T 16))) :: .gd 17 false (some 18) (o 18 (.fa .tm 2 (T 4))) :: .gd 17 false (some 19) (o 19 (.fa .ty 0 (T 18))) :: .gd 17 false (some 20) (o 20 (.ld .bool (T 19))) :: .gd 17 false (some 21) (o 21 (.un (T 20))) :: .gd 17 false (some 22) (o 22 (.mv (T 21))) :: .gd 22 true (some 23) (o 23 (.fa .tm 2 (T 4))) :: .gd 22 true (some 24) (o 24 (.fa .ty 1 (T 23))) :: .gd 22 true (some 25) (o 25 (.ld .str (T 24))) :: .gd 22 true (some 26) (o 26 (.bi .eql (T 25) (.c (.v .str (⟨#[]⟩ : ByteArray))))) :: .gd 17 false (some 27) (o 27 (.pk (T 22) (T 26) (.c (.v .bool false)))) :: .gd 17 false (some 28) (o 28 (.mv (T 27))) :: .gd 28 true (some 29) (o 29 (.fa .tm 2 (T 4))) :: .gd 28 true (some 30) (o 30 (.fa .ty 2 (T 29))) :: .gd 28 true (some 31) (o 31 (.ld .lty (T 30))) :: .gd 28 true (some 32) (o 32 (.len (T 31))) :: .gd 28 true (some 33) (o 33 (.bi .eql (T 32) (.c (.v .int (0 : Int))))) :: .gd 17 false (some 34) (o 34 (.pk (T 28) (T 33) (.c (.v .bool false)))) :: .gd 15 true (some 35) (o 35 (.pk (T 17) (.c (.v .bool true)) (T 34))) :: o 36 (.pk (T 15) (T 35) (.c (.v .bool false))) :: o 37 (.mv (T 36)) :: .gd 37 true (some 38) (o 38 (.mv (T 3))) :: .gd 37 true (some 39) (o 39 (.mv (T 38))) :: .gd 39 false (some 40) (o 40 (.fa .tm 3 (T 4))) :: .gd 39 false (some 41) (o 41 (.ld .int (T 40))) :: .gd 39 false (some 42) (o 42 (.bi .eql (T 41) (.c (.v .int (0 : Int))))) :: .gd 37 true (some 43) (o 43 (.pk (T 39) (.c (.v .bool true)) (T 42))) :: o 44 (.pk (T 37) (T 43) (.c (.v .bool false))) :: o 8 (.mv (T 44)) :: []))
  .ret))⟩
/-- sequent/terms.named -/
def c124 : XFn G := ⟨7, [.t 2], .pure [.p .bool],
  (.seq (.ops [o 2 (.mv (.c (.v .bool false)))])
  (.seq (.ops [o 3 (.mv (T 0)), o 4 (.bld .ty [.v .bool false, .v .str (⟨#[]⟩ : ByteArray), .ns .ty] [(1, (T 3))]), .call 0 (some 5) (.c (.fn 125 [] [])) [(T 4)] [some .ty] (.p .int), o 6 (.bi .eql (T 5) (.c (.v .int (0 : Int)))), o 2 (.mv (T 6))])
  .ret))⟩
/-- sequent/types.Check -/
def c125 : XFn G := ⟨22, [.t 2], .pure [.p .int],
  (.seq (.ops [o 1 (.bx (T 0)), o 2 (.mv (.c (.v .int (0 : Int))))])
  (.seq (.seq (.ops [o 7 (.ld .ty (T 1)), .call 0 (some 8) (.c (.fn 135 [] [])) [(T 7)] [some .ty] (.tup [.p .int, .p .int, .p .bool]), o 6 (.mv (T 8)), o 9 (.ext (T 6) 0), o 10 (.ext (T 6) 1), o 11 (.ext (T 6) 2), o 3 (.mv (T 9)), o 4 (.mv (T 10)), o 5 (.mv (T 11))])
  (.jn ⟨[(21, .p .bool)], [], []⟩ (.ops [o 12 (.mv (T 5)), o 13 (.un (T 12)), o 14 (.mv (T 13)), .gd 14 false (some 15) (o 15 (.mv (T 3))), .gd 14 false (some 16) (o 16 (.bi .gtr (T 15) (.c (.v .int (500 : Int))))), o 17 (.pk (T 14) (.c (.v .bool true)) (T 16)), o 18 (.mv (T 17)), .gd 18 false (some 19) (o 19 (.mv (T 4))), .gd 18 false (some 20) (o 20 (.bi .gtr (T 19) (.c (.v .int (200 : Int))))), o 21 (.pk (T 18) (.c (.v .bool true)) (T 20))])
  (.cond (T 21) (.seq (.ops [o 2 (.mv (.c (.v .int (10 : Int))))])
    .ret)
    .skip)))
  (.seq (.ops [o 2 (.mv (.c (.v .int (0 : Int))))])
  .ret)))⟩
/-- sequent/sequentref01.Name -/
def c126 : XFn G := ⟨56, [.t 2], .pure [.p .bool],
  (.seq (.ops [o 2 (.mv (.c (.v .bool false)))])
  (.seq (.jn ⟨[(12, .p .bool)], [], [0]⟩ (.ops [o 5 (.mv (T 0)), o 6 (.lens (T 5)), o 7 (.bi .lss (T 6) (.c (.v .int (1 : Int)))), o 8 (.mv (T 7)), .gd 8 false (some 9) (o 9 (.mv (T 0))), .gd 8 false (some 10) (o 10 (.lens (T 9))), .gd 8 false (some 11) (o 11 (.bi .gtr (T 10) (.c (.v .int (30 : Int))))), o 12 (.pk (T 8) (.c (.v .bool true)) (T 11))])
  (.cond (T 12) (.seq (.ops [o 2 (.mv (.c (.v .bool false)))])
    .ret)
    .skip))
  (.seq (.seq (.ops [o 3 (.mv (.c (.v .int (0 : Int))))])
  (.block 0 (.loop ⟨[(3, .p .int)], [], [0]⟩ (.seq (.seq (.ops [o 13 (.mv (T 3)), o 14 (.mv (T 0)), o 15 (.lens (T 14)), o 16 (.bi .lss (T 13) (T 15))])
  (.cond (T 16) .skip
    (.exit 0)))
  (.seq (.block 1 (.seq (.ops [o 19 (.mv (T 0)), o 20 (.mv (T 3)), o 21 (.ix (T 19) (T 20)), o 4 (.mv (T 21))])
  (.jn ⟨[(55, .p .bool)], [], [0, 3]⟩ (.ops (o 22 (.mv (T 4)) :: o 23 (.bi .lss (T 22) (.c (.v .u8 (33 : Int)))) :: o 24 (.mv (T 23)) :: .gd 24 false (some 25) (o 25 (.mv (T 4))) :: .gd 24 false (some 26) (o 26 (.bi .gtr (T 25) (.c (.v .u8 (126 : Int))))) :: o 27 (.pk (T 24) (.c (.v .bool true)) (T 26)) :: o 28 (.mv (T 27)) :: .gd 28 false (some 29) (o 29 (.mv (T 4))) :: .gd 28 false (some 30) (o 30 (.bi .eql (T 29) (.c (.v .u8 (40 : Int))))) :: o 31 (.pk (T 28) (.c (.v .bool true)) (T 30)) :: o 32 (.mv (T 31)) :: .gd 32 false (some 33) (o 33 (.mv (T 4))) :: .gd 32 false (some 34) (o 34 (.bi .eql (T 33) (.c (.v .u8 (41 : Int))))) :: o 35 (.pk (T 32) (.c (.v .bool true)) (T 34)) :: o 36 (.mv (T 35)) :: .gd 36 false (some 37) (o 37 (.mv (T 4))) :: .gd 36 false (some 38) (o 38 (.bi .eql (T 37) (.c (.v .u8 (44 : Int))))) :: o 39 (.pk (T 36) (.c (.v .bool true)) (T 38)) :: o 40 (.mv (T 39)) :: .gd 40 false (some 41) (o 41 (.mv (T 4))) :: .gd 40 false (some 42) (o 42 (.bi .eql (T 41) (.c (.v .u8 (58 : Int))))) :: o 43 (.pk (T 40) (.c (.v .bool true)) (T 42)) :: o 44 (.mv (T 43)) :: .gd 44 false (some 45) (o 45 (.mv (T 4))) :: .gd 44 false (some 46) (o 46 (.bi .eql (T 45) (.c (.v .u8 (92 : Int))))) :: o 47 (.pk (T 44) (.c (.v .bool true)) (T 46)) :: o 48 (.mv (T 47)) :: .gd 48 false (some 49) (o 49 (.mv (T 4))) :: .gd 48 false (some 50) (o 50 (.bi .eql (T 49) (.c (.v .u8 (46 : Int))))) :: o 51 (.pk (T 48) (.c (.v .bool true)) (T 50)) :: o 52 (.mv (T 51)) :: .gd 52 false (some 53) (o 53 (.mv (T 4))) :: .gd 52 false (some 54) (o 54 (.bi .eql (T 53) (.c (.v .u8 (34 : Int))))) :: o 55 (.pk (T 52) (.c (.v .bool true)) (T 54)) :: []))
  (.cond (T 55) (.seq (.ops [o 2 (.mv (.c (.v .bool false)))])
    .ret)
    .skip))))
  (.ops [o 17 (.mv (T 3)), o 18 (.inc 17 .i64), o 3 (.mv (T 18))]))))))
  (.seq (.ops [o 2 (.mv (.c (.v .bool true)))])
  .ret))))⟩
/-- sequent/sequentref01.Small -/
def c127 : XFn G := ⟨11, [.t 2], .pure [.p .bool],
  (.seq (.ops [o 1 (.bx (T 0)), o 2 (.mv (.c (.v .bool false)))])
  (.seq (.ops [o 3 (.ld .ty (T 1)), .call 0 (some 4) (.c (.fn 136 [] [])) [(T 3)] [some .ty] (.p .int), o 5 (.bi .leq (T 4) (.c (.v .int (500 : Int)))), o 6 (.mv (T 5)), .gd 6 true (some 7) (o 7 (.ld .ty (T 1))), .gd 6 true (some 8) (.call 0 (some 8) (.c (.fn 137 [] [])) [(T 7)] [some .ty] (.p .int)), .gd 6 true (some 9) (o 9 (.bi .leq (T 8) (.c (.v .int (200 : Int))))), o 10 (.pk (T 6) (T 9) (.c (.v .bool false))), o 2 (.mv (T 10))])
  .ret))⟩
/-- sequent/sequentref01.shape -/
def c128 : XFn G := ⟨47, [.t 2], .pure [.p .bool],
  (.seq (.ops [o 1 (.bx (T 0)), o 2 (.mv (.c (.v .bool false)))])
  (.seq (.jn ⟨[(32, .p .bool)], [], [1]⟩ (.draw [o 4 (.fa .ty 1 (T 1)), o 5 (.ldi .str (T 4)), .call 0 (some 6) (.c (.fn 126 [] [])) [(T 5)] [some .str] (.p .bool), o 7 (.un (T 6)), o 8 (.mv (T 7)), .gd 8 false (some 9) (o 9 (.fa .ty 0 (T 1))), .gd 8 false (some 10) (o 10 (.ldi .bool (T 9))), .gd 8 false (some 11) (o 11 (.fa .ty 1 (T 1))), .gd 8 false (some 12) (o 12 (.ldi .str (T 11))), .gd 8 false (some 13) (o 13 (.ix (T 12) (.c (.v .int (0 : Int))))), .gd 8 false (some 14) (o 14 (.bi .eql (T 13) (.c (.v .u8 (39 : Int))))), .gd 8 false (some 15) (o 15 (.bib .neq (T 10) (T 14))), o 16 (.pk (T 8) (.c (.v .bool true)) (T 15)), o 17 (.mv (T 16)), .gd 17 false (some 18) (o 18 (.fa .ty 0 (T 1))), .gd 17 false (some 19) (o 19 (.ldi .bool (T 18))), .gd 17 false (some 20) (o 20 (.mv (T 19))), .gd 20 true (some 21) (o 21 (.fa .ty 2 (T 1))), .gd 20 true (some 22) (o 22 (.ldi .lty (T 21))), .gd 20 true (some 23) (o 23 (.len (T 22))), .gd 20 true (some 24) (o 24 (.bi .gtr (T 23) (.c (.v .int (0 : Int))))), .gd 17 false (some 25) (o 25 (.pk (T 20) (T 24) (.c (.v .bool false)))), o 26 (.pk (T 17) (.c (.v .bool true)) (T 25)), o 27 (.mv (T 26)), .gd 27 false (some 28) (o 28 (.fa .ty 2 (T 1))), .gd 27 false (some 29) (o 29 (.ldi .lty (T 28))), .gd 27 false (some 30) (o 30 (.len (T 29))), .gd 27 false (some 31) (o 31 (.bi .gtr (T 30) (.c (.v .int (8 : Int))))), o 32 (.pk (T 27) (.c (.v .bool true)) (T 31))])
  (.cond (T 32) (.seq (.ops [o 2 (.mv (.c (.v .bool false)))])
    .ret)
    .skip))
  (.seq (.seq (.ops [o 3 (.mv (.c (.v .int (0 : Int))))])
  (.block 0 (.loop ⟨[(3, .p .int)], [], [1]⟩ (.seq (.seq (.ops [o 33 (.mv (T 3)), o 34 (.fa .ty 2 (T 1)), o 35 (.ld .lty (T 34)), o 36 (.len (T 35)), o 37 (.bi .lss (T 33) (T 36))])
  (.cond (T 37) .skip
    (.exit 0)))
  (.seq (.block 1 (.seq (.ops [o 40 (.fa .ty 2 (T 1)), o 41 (.ld .lty (T 40)), o 42 (.mv (T 3)), o 43 (.ia .ty (T 41) (T 42)), o 44 (.ld .ty (T 43)), .call 0 (some 45) (.c (.fn 128 [] [])) [(T 44)] [some .ty] (.p .bool), o 46 (.un (T 45))])
  (.cond (T 46) (.seq (.ops [o 2 (.mv (.c (.v .bool false)))])
    .ret)
    .skip)))
  (.ops [o 38 (.mv (T 3)), o 39 (.inc 38 .i64), o 3 (.mv (T 39))]))))))
  (.seq (.ops [o 2 (.mv (.c (.v .bool true)))])
  .ret))))⟩
/-- slices.ContainsFunc[[]sequent/api.Term,sequent/api.Term] -/
def c131 : XFn G := ⟨9, [.t 4], .pure [.p .bool],
  (.seq (.ops [o 4 (.mv (.c (.v .bool false)))])
  (.seq (.ops [o 5 (.mv (T 0)), o 6 (.mv (T 1)), .call 0 (some 7) (.c (.fn 59 [] [])) [(T 5), (T 6)] [some .ltm] (.p .int), o 8 (.bi .geq (T 7) (.c (.v .int (0 : Int)))), o 4 (.mv (T 8))])
  .ret))⟩
/-- (*sequent/terms.walker).note$1 -/
def c132 : XFn G := ⟨7, [.t 3], .pure [.p .bool],
  (.seq (.ops [o 2 (.bx (T 0)), o 3 (.mv (.c (.v .bool false)))])
  (.seq (.ops [o 4 (.ld .tm (T 2)), o 5 (.ld .tm (T 1)), .call 0 (some 6) (.c (.fn 62 [] [])) [(T 4), (T 5)] [some .tm, some .tm] (.p .bool), o 3 (.mv (T 6))])
  .ret))⟩
/-- sequent/types.Vars -/
def c133 : XFn G := ⟨28, [.c 2 .lstr, .t 3], .pure [.p .lstr, .p .int],
  (.seq (.ops [o 1 (.bx (T 0)), .a (some 2) (.alm 100 (.ns .str)), o 3 (.mv (.c (.v .int (0 : Int))))])
  (.seq (.seq (.ops [o 5 (.ld .ty (T 1)), .call 0 (some 6) (.c (.fn 125 [] [])) [(T 5)] [some .ty] (.p .int), o 3 (.mv (T 6))])
  (.seq (.ops [o 7 (.mv (T 3)), o 8 (.bi .neq (T 7) (.c (.v .int (0 : Int))))])
  (.cond (T 8) (.seq (.ops [o 9 (.mv (T 3)), .a none (.st 0 .lstr (T 2) (.c (.ns .str))), o 3 (.mv (T 9))])
    .ret)
    .skip)))
  (.seq (.seq (.ops [o 10 (.ld .ty (T 1)), .call 0 (some 11) (.c (.fn 138 [] [])) [(T 10)] [some .ty] (.fn 141 [] [.ip .ty])])
  (.block 0 (.ps [.adB 0 [] 9 .str] (.range [.ty] itNodes 141 (T 11) [12] [(2, 0)] [11] [.box 100 (.row 1), .row 9 .lstr, .pin 0] [.a (some 4) (.alm 24 (.ag .ty [.v .bool false, .v .str (⟨#[]⟩ : ByteArray), .ns .ty])), .a none (.st 0 .ty (T 4) (T 12))]
  (.block 1 (.jn ⟨[(2, .ptr 0 0 []), (4, .ptr 3 0 []), (21, .p .bool)], [.keep, .row 9 .lstr, .pin 0, .keep], []⟩ (.ops [o 13 (.fa .ty 0 (T 4)), o 14 (.ld .bool (T 13)), o 15 (.mv (T 14)), .gd 15 true (some 16) (o 16 (.ld .lstr (T 2))), .gd 15 true (some 17) (o 17 (.fa .ty 1 (T 4))), .gd 15 true (some 18) (o 18 (.ld .str (T 17))), .gd 15 true (some 19) (.call 1 (some 19) (.c (.fn 102 [] [])) [(T 16), (T 18)] [some .lstr, some .str] (.p .bool)), .gd 15 true (some 20) (o 20 (.un (T 19))), o 21 (.pk (T 15) (T 20) (.c (.v .bool false)))])
  (.cond (T 21) (.ops [o 22 (.ld .lstr (T 2)), o 23 (.fa .ty 1 (T 4)), o 24 (.ld .str (T 23)), o 25 (.bsl .str [(T 24)]), .a (some 26) (.app 9 .str (T 22) (T 25)), .a none (.st 0 .lstr (T 2) (T 26))])
    .skip)))))))
  (.seq (.ops [o 27 (.ld .lstr (T 2)), .a none (.st 0 .lstr (T 2) (T 27)), o 3 (.mv (.c (.v .int (0 : Int))))])
  .ret))))⟩
/-- sequent/sequentref02.Has -/
def c134 : XFn G := ⟨18, [.t 4], .pure [.p .bool],
  (.seq (.ops [o 3 (.bx (T 1)), o 4 (.mv (.c (.v .bool false)))])
  (.seq (.seq (.ops [o 5 (.mv (.c (.v .int (0 : Int))))])
  (.block 0 (.loop ⟨[(5, .p .int)], [], [0, 3]⟩ (.seq (.seq (.ops [o 6 (.mv (T 5)), o 7 (.mv (T 0)), o 8 (.len (T 7)), o 9 (.bi .lss (T 6) (T 8))])
  (.cond (T 9) .skip
    (.exit 0)))
  (.seq (.block 1 (.seq (.draw [o 12 (.mv (T 0)), o 13 (.mv (T 5)), o 14 (.ia .tm (T 12) (T 13)), o 15 (.ld .tm (T 14)), o 16 (.ldi .tm (T 3)), .call 0 (some 17) (.c (.fn 15 [] [])) [(T 15), (T 16)] [some .tm, some .tm] (.p .bool)])
  (.cond (T 17) (.seq (.ops [o 4 (.mv (.c (.v .bool true)))])
    .ret)
    .skip)))
  (.ops [o 10 (.mv (T 5)), o 11 (.inc 10 .i64), o 5 (.mv (T 11))]))))))
  (.seq (.ops [o 4 (.mv (.c (.v .bool false)))])
  .ret)))⟩
/-- sequent/types.measure -/
def c135 : XFn G := ⟨64, [.t 2, .t 3, .t 4], .pure [.p .int, .p .int, .p .bool],
  (.seq (.ops [o 1 (.bx (T 0)), o 2 (.mv (.c (.v .int (0 : Int)))), o 3 (.mv (.c (.v .int (0 : Int)))), o 4 (.mv (.c (.v .bool false)))])
  (.seq (.ops [o 2 (.mv (.c (.v .int (1 : Int))))])
  (.jn ⟨[(4, .p .bool)], [], [1, 2, 3]⟩ (.seq (.ops [o 10 (.fa .ty 0 (T 1)), o 11 (.ld .bool (T 10))])
  (.cond (T 11) (.ops [o 12 (.fa .ty 1 (T 1)), o 13 (.ld .str (T 12)), .call 0 (some 14) (.c (.fn 139 [] [])) [(T 13)] [some .str] (.p .bool), o 15 (.mv (T 14)), .gd 15 true (some 16) (o 16 (.fa .ty 2 (T 1))), .gd 15 true (some 17) (o 17 (.ld .lty (T 16))), .gd 15 true (some 18) (o 18 (.len (T 17))), .gd 15 true (some 19) (o 19 (.bi .eql (T 18) (.c (.v .int (0 : Int))))), o 20 (.pk (T 15) (T 19) (.c (.v .bool false))), o 4 (.mv (T 20))])
    (.ops [o 21 (.fa .ty 1 (T 1)), o 22 (.ld .str (T 21)), .call 0 (some 23) (.c (.fn 140 [] [])) [(T 22)] [some .str] (.p .bool), o 24 (.mv (T 23)), .gd 24 true (some 25) (o 25 (.fa .ty 1 (T 1))), .gd 24 true (some 26) (o 26 (.ld .str (T 25))), .gd 24 true (some 27) (o 27 (.ix (T 26) (.c (.v .int (0 : Int))))), .gd 24 true (some 28) (o 28 (.bi .neq (T 27) (.c (.v .u8 (39 : Int))))), o 29 (.pk (T 24) (T 28) (.c (.v .bool false))), o 30 (.mv (T 29)), .gd 30 true (some 31) (o 31 (.fa .ty 2 (T 1))), .gd 30 true (some 32) (o 32 (.ld .lty (T 31))), .gd 30 true (some 33) (o 33 (.len (T 32))), .gd 30 true (some 34) (o 34 (.bi .leq (T 33) (.c (.v .int (8 : Int))))), o 35 (.pk (T 30) (T 34) (.c (.v .bool false))), o 4 (.mv (T 35))])))
  (.seq (.seq (.ops [o 36 (.fa .ty 2 (T 1)), o 37 (.ld .lty (T 36)), o 38 (.len (T 37)), o 39 (.mv (.c (.v .int (0 : Int))))])
  (.block 0 (.loop ⟨[(2, .p .int), (3, .p .int), (4, .p .bool), (39, .p .int)], [], [37, 38]⟩ (.seq (.ops [o 40 (.bi .lss (T 39) (T 38))])
  (.seq (.cond (T 40) .skip
    (.exit 0))
  (.jn ⟨[(2, .p .int), (3, .p .int), (4, .p .bool)], [], [37, 38, 39]⟩ (.block 1 (.seq (.ops [o 41 (.ia .ty (T 37) (T 39)), o 42 (.ld .ty (T 41)), .a (some 6) (.alm 24 (.ag .ty [.v .bool false, .v .str (⟨#[]⟩ : ByteArray), .ns .ty])), .a none (.st 0 .ty (T 6) (T 42))])
  (.seq (.ops [o 44 (.ld .ty (T 6)), .call 0 (some 45) (.c (.fn 135 [] [])) [(T 44)] [some .ty] (.tup [.p .int, .p .int, .p .bool]), o 43 (.mv (T 45)), o 46 (.ext (T 43) 0), o 47 (.ext (T 43) 1), o 48 (.ext (T 43) 2), o 7 (.mv (T 46)), o 8 (.mv (T 47)), o 9 (.mv (T 48))])
  (.ops [o 49 (.mv (T 2)), o 50 (.mv (T 7)), o 51 (.bi .add (T 49) (T 50)), o 52 (.mv (T 3)), o 53 (.mv (T 8)), o 54 (.mx (T 52) (T 53)), o 55 (.mv (T 4)), o 56 (.mv (T 55)), .gd 56 true (some 57) (o 57 (.mv (T 9))), o 58 (.pk (T 56) (T 57) (.c (.v .bool false))), o 2 (.mv (T 51)), o 3 (.mv (T 54)), o 4 (.mv (T 58))]))))
  (.ops [o 59 (.inc 39 .i64), o 39 (.mv (T 59))])))))))
  (.seq (.ops [o 60 (.mv (T 2)), o 61 (.mv (T 3)), o 62 (.inc 61 .i64), o 63 (.mv (T 4)), o 2 (.mv (T 60)), o 3 (.mv (T 62)), o 4 (.mv (T 63))])
  .ret)))))⟩
/-- sequent/sequentref01.Size -/
def c136 : XFn G := ⟨21, [.t 2], .pure [.p .int],
  (.seq (.ops [o 1 (.bx (T 0)), o 2 (.mv (.c (.v .int (0 : Int))))])
  (.seq (.ops [o 3 (.mv (.c (.v .int (1 : Int))))])
  (.seq (.seq (.ops [o 4 (.mv (.c (.v .int (0 : Int))))])
  (.block 0 (.loop ⟨[(3, .p .int), (4, .p .int)], [], [1]⟩ (.seq (.seq (.ops [o 5 (.mv (T 4)), o 6 (.fa .ty 2 (T 1)), o 7 (.ld .lty (T 6)), o 8 (.len (T 7)), o 9 (.bi .lss (T 5) (T 8))])
  (.cond (T 9) .skip
    (.exit 0)))
  (.seq (.block 1 (.ops [o 12 (.mv (T 3)), o 13 (.fa .ty 2 (T 1)), o 14 (.ld .lty (T 13)), o 15 (.mv (T 4)), o 16 (.ia .ty (T 14) (T 15)), o 17 (.ld .ty (T 16)), .call 0 (some 18) (.c (.fn 136 [] [])) [(T 17)] [some .ty] (.p .int), o 19 (.bi .add (T 12) (T 18)), o 3 (.mv (T 19))]))
  (.ops [o 10 (.mv (T 4)), o 11 (.inc 10 .i64), o 4 (.mv (T 11))]))))))
  (.seq (.ops [o 20 (.mv (T 3)), o 2 (.mv (T 20))])
  .ret))))⟩
/-- sequent/sequentref01.Depth -/
def c137 : XFn G := ⟨22, [.t 2], .pure [.p .int],
  (.seq (.ops [o 1 (.bx (T 0)), o 2 (.mv (.c (.v .int (0 : Int))))])
  (.seq (.ops [o 3 (.mv (.c (.v .int (0 : Int))))])
  (.seq (.seq (.ops [o 4 (.mv (.c (.v .int (0 : Int))))])
  (.block 0 (.loop ⟨[(3, .p .int), (4, .p .int)], [], [1]⟩ (.seq (.seq (.ops [o 5 (.mv (T 4)), o 6 (.fa .ty 2 (T 1)), o 7 (.ld .lty (T 6)), o 8 (.len (T 7)), o 9 (.bi .lss (T 5) (T 8))])
  (.cond (T 9) .skip
    (.exit 0)))
  (.seq (.block 1 (.ops [o 12 (.mv (T 3)), o 13 (.fa .ty 2 (T 1)), o 14 (.ld .lty (T 13)), o 15 (.mv (T 4)), o 16 (.ia .ty (T 14) (T 15)), o 17 (.ld .ty (T 16)), .call 0 (some 18) (.c (.fn 137 [] [])) [(T 17)] [some .ty] (.p .int), o 19 (.mx (T 12) (T 18)), o 3 (.mv (T 19))]))
  (.ops [o 10 (.mv (T 4)), o 11 (.inc 10 .i64), o 4 (.mv (T 11))]))))))
  (.seq (.ops [o 20 (.mv (T 3)), o 21 (.bi .add (.c (.v .int (1 : Int))) (T 20)), o 2 (.mv (T 21))])
  .ret))))⟩
/-- sequent/types.nodes -/
def c138 : XFn G := ⟨4, [.t 2], .pure [.fn 141 [] [.ip .ty]],
  (.seq (.ops [o 1 (.bx (T 0)), o 2 (.mv (.c (.nilf)))])
  (.seq (.ops [o 3 (.mkf 141 [] [(T 1)]), o 2 (.mv (T 3))])
  .ret))⟩
/-- sequent/types.variable -/
def c139 : XFn G := ⟨10, [.t 2], .pure [.p .bool],
  (.seq (.ops [o 2 (.mv (.c (.v .bool false)))])
  (.seq (.ops [o 3 (.mv (T 0)), .call 0 (some 4) (.c (.fn 140 [] [])) [(T 3)] [some .str] (.p .bool), o 5 (.mv (T 4)), .gd 5 true (some 6) (o 6 (.mv (T 0))), .gd 5 true (some 7) (o 7 (.ix (T 6) (.c (.v .int (0 : Int))))), .gd 5 true (some 8) (o 8 (.bi .eql (T 7) (.c (.v .u8 (39 : Int))))), o 9 (.pk (T 5) (T 8) (.c (.v .bool false))), o 2 (.mv (T 9))])
  .ret))⟩
/-- sequent/types.name -/
def c140 : XFn G := ⟨36, [.t 2], .pure [.p .bool],
  (.seq (.ops [o 2 (.mv (.c (.v .bool false)))])
  (.seq (.seq (.ops [o 5 (.mv (T 0)), o 6 (.lens (T 5)), o 7 (.mv (.c (.v .int (0 : Int))))])
  (.block 0 (.loop ⟨[(7, .p .int)], [], [0, 6]⟩ (.seq (.ops [o 8 (.bi .lss (T 7) (T 6))])
  (.seq (.cond (T 8) .skip
    (.exit 0))
  (.seq (.block 1 (.seq (.ops [o 9 (.mv (T 7)), o 3 (.mv (T 9))])
  (.seq (.ops [o 10 (.mv (T 0)), o 11 (.mv (T 3)), o 12 (.ix (T 10) (T 11)), o 4 (.mv (T 12))])
  (.seq (.ops [o 13 (.mv (T 4))])
  (.block 2 (.jn ⟨[(20, .p .bool)], [], [0, 4, 6, 7]⟩ (.seq (.ops [o 21 (.bi .eql (T 13) (.c (.v .u8 (40 : Int)))), o 20 (.mv (T 21))])
  (.cond (T 20) .skip
    (.seq (.ops [o 22 (.bi .eql (T 13) (.c (.v .u8 (41 : Int)))), o 20 (.mv (T 22))])
    (.cond (T 20) .skip
      (.seq (.ops [o 23 (.bi .eql (T 13) (.c (.v .u8 (44 : Int)))), o 20 (.mv (T 23))])
      (.cond (T 20) .skip
        (.seq (.ops [o 24 (.bi .eql (T 13) (.c (.v .u8 (58 : Int)))), o 20 (.mv (T 24))])
        (.cond (T 20) .skip
          (.seq (.ops [o 25 (.bi .eql (T 13) (.c (.v .u8 (92 : Int)))), o 20 (.mv (T 25))])
          (.cond (T 20) .skip
            (.seq (.ops [o 26 (.bi .eql (T 13) (.c (.v .u8 (46 : Int)))), o 20 (.mv (T 26))])
            (.cond (T 20) .skip
              (.ops [o 27 (.bi .eql (T 13) (.c (.v .u8 (34 : Int)))), o 20 (.mv (T 27))])))))))))))))
  (.cond (T 20) (.seq (.ops [o 2 (.mv (.c (.v .bool false)))])
    .ret)
    (.jn ⟨[(19, .p .bool)], [], [0, 6, 7]⟩ (.ops [o 14 (.mv (T 4)), o 15 (.bi .lss (T 14) (.c (.v .u8 (33 : Int)))), o 16 (.mv (T 15)), .gd 16 false (some 17) (o 17 (.mv (T 4))), .gd 16 false (some 18) (o 18 (.bi .gtr (T 17) (.c (.v .u8 (126 : Int))))), o 19 (.pk (T 16) (.c (.v .bool true)) (T 18))])
    (.cond (T 19) (.seq (.ops [o 2 (.mv (.c (.v .bool false)))])
      .ret)
      .skip)))))))))
  (.ops [o 28 (.inc 7 .i64), o 7 (.mv (T 28))])))))))
  (.seq (.ops [o 29 (.mv (T 0)), o 30 (.bi .neq (T 29) (.c (.v .str (⟨#[]⟩ : ByteArray)))), o 31 (.mv (T 30)), .gd 31 true (some 32) (o 32 (.mv (T 0))), .gd 31 true (some 33) (o 33 (.lens (T 32))), .gd 31 true (some 34) (o 34 (.bi .leq (T 33) (.c (.v .int (30 : Int))))), o 35 (.pk (T 31) (T 34) (.c (.v .bool false))), o 2 (.mv (T 35))])
  .ret)))⟩
end Go.Ab.X
