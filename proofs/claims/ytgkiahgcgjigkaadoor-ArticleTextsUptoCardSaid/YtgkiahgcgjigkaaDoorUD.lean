/- A part of the proof: UD. -/
import Derived.Test.YtgkiahgcgjigkaaDoorUC
import Derived.Test.YtgkiahgcgjigkaaDoorAP
set_option linter.all false
set_option linter.all false
set_option maxRecDepth 100000
set_option maxHeartbeats 4000000
namespace Go.Ab.X
open Go.RowKit Go.Ab
def zs_cmd:List (N G):=[.v .u8 (0:Int),.v .int (0:Int),.v .str (⟨#[]⟩:ByteArray)]
def z_cmd:N G:=.ag .cmd zs_cmd
def c3:XFn G:=⟨85,[.t 4],.pure [.p .bool],
 (sq [oM 4 (cB false)]
 (.seq (.jn ⟨[(32,.p .bool)],[],[0,1]⟩ (.ops [oM 16 0,oC 17 4 [16] [.lcmd] (.p .bool),oM 18 17,.gd 18 false (some 19) (oM 19 1),.gd 18 false (some 20) (o 20 (.lens 19)),.gd 18 false (some 21) (oO 21 .gtr 20 (cI 5000)),.gd 18 false (some 22) (oM 22 21),.gd 22 true (some 23) (oM 23 1),.gd 22 true (some 24) (o 24 (.lens 23)),.gd 22 true (some 25) (oO 25 .leq 24 (cI 65536)),.gd 18 false (some 26) (o 26 (.pk 22 25 (cB false))),o 27 (.pk 18 (cB true) 26),oM 28 27,.gd 28 false (some 29) (oM 29 1),.gd 28 false (some 30) (o 30 (.lens 29)),.gd 28 false (some 31) (oO 31 .gtr 30 (cI 65600)),o 32 (.pk 28 (cB true) 31)])
 (.cond 32 (sq [oM 4 (cB true)]
  .ret)
  .skip))
 (sq [oM 33 0,oC 34 5 [33] [.lcmd] (.p .lcmd),oM 5 34]
 (sq [oM 36 5,oC 37 6 [36] [.lcmd] (tp [.str,.int]),oM 35 37,oE 38 35 0,oE 39 35 1,oM 6 38,oM 7 39]
 (sq [oM 41 0,oC 42 7 [41] [.lcmd] (tp [.str,.int]),oM 40 42,oE 43 40 0,oE 44 40 1,oM 8 43,oM 9 44]
 (sq [oM 46 1,oC 47 8 [46] [.str] (tp [.lcmd,.int,.int]),oM 45 47,oE 48 45 0,oE 49 45 1,oE 50 45 2,oM 10 48,oM 11 49,oM 12 50]
 (sq [oM 52 1,oC 53 9 [52] [.str] (tp [.lcmd,.int,.int]),oM 51 53,oE 54 51 0,oE 55 51 1,oE 56 51 2,oM 13 54,oM 14 55,oM 15 56]
 (sq [oM 57 6,oM 58 8,oO 59 .eql 57 58,oM 60 59,.gd 60 true (some 61) (oM 61 7),.gd 60 true (some 62) (oM 62 9),.gd 60 true (some 63) (oO 63 .eql 61 62),o 64 (.pk 60 63 (cB false)),oM 65 64,.gd 65 true (some 66) (oM 66 10),.gd 65 true (some 67) (oM 67 13),.gd 65 true (some 68) (oC 68 10 [66,67] [.lcmd,.lcmd] (.p .bool)),o 69 (.pk 65 68 (cB false)),oM 70 69,.gd 70 true (some 71) (oM 71 11),.gd 70 true (some 72) (oM 72 14),.gd 70 true (some 73) (oO 73 .eql 71 72),o 74 (.pk 70 73 (cB false)),oM 75 74,.gd 75 true (some 76) (oM 76 12),.gd 75 true (some 77) (oM 77 15),.gd 75 true (some 78) (oO 78 .eql 76 77),o 79 (.pk 75 78 (cB false)),oM 80 79,.gd 80 true (some 81) (oM 81 5),.gd 80 true (some 82) (oM 82 0),.gd 80 true (some 83) (oC 83 10 [81,82] [.lcmd,.lcmd] (.p .bool)),o 84 (.pk 80 83 (cB false)),oM 4 84]
 .ret))))))))⟩
def c4:XFn G:=⟨38,[.t 2],.pure [.p .bool],
 (sq [oM 2 (cB false)]
 (.seq (.jn ⟨[(17,.p .bool)],[],[0]⟩ (.ops [oM 5 0,oU 6 5,oO 7 .gtr 6 (cI 300),oM 8 7,.gd 8 true (some 9) (oM 9 0),.gd 8 true (some 10) (oU 10 9),.gd 8 true (some 11) (oO 11 .leq 10 (cI 65536)),o 12 (.pk 8 11 (cB false)),oM 13 12,.gd 13 false (some 14) (oM 14 0),.gd 13 false (some 15) (oU 15 14),.gd 13 false (some 16) (oO 16 .gtr 15 (cI 65600)),o 17 (.pk 13 (cB true) 16)])
 (.cond 17 (sq [oM 2 (cB true)]
  .ret)
  .skip))
 (sq [oM 3 (cI 0)]
 (.seq (sq [oM 4 (cI 0)]
 (.block 0 (.loop ⟨[(3,.p .int),(4,.p .int)],[],[0]⟩ (.seq (.jn ⟨[(25,.p .bool)],[],[0,3,4]⟩ (.ops [oM 18 4,oM 19 0,oU 20 19,oO 21 .lss 18 20,oM 22 21,.gd 22 true (some 23) (oM 23 3),.gd 22 true (some 24) (oO 24 .leq 23 (cI 3000)),o 25 (.pk 22 24 (cB false))])
 (.cond 25 .skip
  (.exit 0)))
 (.seq (.block 1 (.ops [oM 28 3,oM 29 0,oM 30 4,oX 31 .cmd 29 30,oF 32 .cmd 2 31,oL 33 .str 32,o 34 (.lens 33),oO 35 .add 28 34,oM 3 35]))
 (.ops [oM 26 4,o 27 (.inc 26 .i64),oM 4 27]))))))
 (sq [oM 36 3,oO 37 .gtr 36 (cI 3000),oM 2 37]
 .ret)))))⟩
def c5:XFn G:=⟨6,[.t 2],.pure [.p .lcmd],
 (sq [o 2 (.mv (.c (.ns .cmd)))]
 (sq [.a (some 3) (.bsr 37 .cmd),oM 4 0,.a (some 5) (.app 37 .cmd 3 4),oM 2 5]
 .ret))⟩
def c7:XFn G:=⟨53,[.t 2,.t 3],.pure [.p .str,.p .int],
 (sq [o 2 (.mv (.c (.v .str (⟨#[]⟩:ByteArray)))),oM 3 (cI 0)]
 (.seq (sq [oM 4 (cI 0)]
 (.block 0 (.loop ⟨[(4,.p .int)],[],[0]⟩ (.seq (sq [oM 7 4,oM 8 0,oU 9 8,oO 10 .lss 7 9]
 (.cond 10 .skip
  (.exit 0)))
 (.seq (.block 1 (.jn ⟨[(35,.p .bool)],[],[0,4]⟩ (.ops [oM 13 0,oM 14 4,oX 15 .cmd 13 14,oL 16 .cmd 15,oC 17 17 [16] [.cmd] (.p .bool),o 18 (.un 17),oM 19 18,.gd 19 false (some 20) (oM 20 0),.gd 19 false (some 21) (oM 21 4),.gd 19 false (some 22) (oX 22 .cmd 20 21),.gd 19 false (some 23) (oF 23 .cmd 0 22),.gd 19 false (some 24) (oL 24 .u8 23),.gd 19 false (some 25) (o 25 (.bi .eql 24 (.c (.v .u8 (2:Int))))),.gd 19 false (some 26) (oM 26 25),.gd 26 true (some 27) (oM 27 0),.gd 26 true (some 28) (oM 28 4),.gd 26 true (some 29) (oX 29 .cmd 27 28),.gd 26 true (some 30) (oF 30 .cmd 2 29),.gd 26 true (some 31) (oL 31 .str 30),.gd 26 true (some 32) (oC 32 18 [31] [.str] (.p .bool)),.gd 26 true (some 33) (o 33 (.un 32)),.gd 19 false (some 34) (o 34 (.pk 26 33 (cB false))),o 35 (.pk 19 (cB true) 34)])
 (.cond 35 (sq [o 2 (.mv (.c (.v .str (⟨#[]⟩:ByteArray)))),oM 3 (cI 2)]
  .ret)
  .skip)))
 (.ops [oM 11 4,o 12 (.inc 11 .i64),oM 4 12]))))))
 (sq [o 5 (.mv (.c (.v .str (⟨#[]⟩:ByteArray))))]
 (.seq (sq [oM 6 (cI 0)]
 (.block 2 (.loop ⟨[(5,.p .str),(6,.p .int)],[],[0]⟩ (.seq (sq [oM 36 6,oM 37 0,oU 38 37,oO 39 .lss 36 38]
 (.cond 39 .skip
  (.exit 2)))
 (.seq (.block 3 (sq [oM 42 5,oM 43 0,oM 44 6,oX 45 .cmd 43 44,oL 46 .cmd 45,oC 47 19 [46] [.cmd] (.p .str),oO 48 .add 42 47,oM 5 48]
 (sq [oM 49 5,o 50 (.lens 49),oO 51 .gtr 50 (cI 65536)]
 (.cond 51 (sq [o 2 (.mv (.c (.v .str (⟨#[]⟩:ByteArray)))),oM 3 (cI 4)]
  .ret)
  .skip))))
 (.ops [oM 40 6,o 41 (.inc 40 .i64),oM 6 41]))))))
 (sq [oM 52 5,oM 2 52,oM 3 (cI 0)]
 .ret)))))⟩
def c8:XFn G:=⟨41,[.t 2,.t 3,.t 4],.pure [.p .lcmd,.p .int,.p .int],
 (sq [o 2 (.mv (.c (.ns .cmd))),oM 3 (cI 0),oM 4 (cI 0)]
 (.seq (sq [oM 10 0,o 11 (.lens 10),oO 12 .gtr 11 (cI 65536)]
 (.cond 12 (sq [o 2 (.mv (.c (.ns .cmd))),oM 3 (cI 0),oM 4 (cI 4)]
  .ret)
  .skip))
 (.seq (.block 0 (.ps [.adT 2 37 .cmd] (.loop ⟨[(0,.p .str),(2,.row 0),(3,.p .int)],[.row 37 .lcmd],[]⟩ (.seq (sq [oM 13 0,o 14 (.bi .neq 13 (.c (.v .str (⟨#[]⟩:ByteArray))))]
 (.cond 14 .skip
  (.exit 0)))
 (.block 1 (sq [oM 15 3,o 16 (.inc 15 .i64),oM 3 16]
 (sq [oM 18 0,.call 0 (some 19) (.c (.fn 20 [] [])) [18,(.c (.v .str (⟨#[10]⟩:ByteArray)))] [some .str,some .str] (tp [.str,.str,.bool]),oM 17 19,oE 20 17 0,oE 21 17 1,oE 22 17 2,oM 5 20,oM 6 21,oM 7 22]
 (sq [oM 24 5,oC 25 21 [24] [.str] (tp [.cmd,.bool]),oM 23 25,oE 26 23 0,oE 27 23 1,oA 8 37 z_cmd,oS 0 .cmd 8 26,oM 9 27]
 (.seq (.jn ⟨[(2,.row 0),(8,.ptr 1 0 []),(33,.p .bool)],[.row 37 .lcmd,.keep],[3,6]⟩ (.ops [oM 28 7,o 29 (.un 28),oM 30 29,.gd 30 false (some 31) (oM 31 9),.gd 30 false (some 32) (o 32 (.un 31)),o 33 (.pk 30 (cB true) 32)])
 (.cond 33 (sq [oM 34 3,o 2 (.mv (.c (.ns .cmd))),oM 3 34,oM 4 (cI 70)]
  .ret)
  .skip))
 (.ops [oM 35 2,oL 36 .cmd 8,o 37 (.bsl .cmd [36]),.a (some 38) (.app 37 .cmd 35 37),oM 39 6,oM 2 38,oM 0 39]))))))))))
 (sq [oM 40 2,oM 2 40,oM 3 (cI 0),oM 4 (cI 0)]
 .ret))))⟩
def c9:XFn G:=⟨57,[.t 2,.t 3,.t 4],.pure [.p .lcmd,.p .int,.p .int],
 (sq [o 2 (.mv (.c (.ns .cmd))),oM 3 (cI 0),oM 4 (cI 0)]
 (.seq (sq [oM 11 0,o 12 (.lens 11),oO 13 .gtr 12 (cI 65536)]
 (.cond 13 (sq [o 2 (.mv (.c (.ns .cmd))),oM 3 (cI 0),oM 4 (cI 4)]
  .ret)
  .skip))
 (sq [o 5 (.mv (.c (.ns .cmd)))]
 (sq [oM 6 (cI 0)]
 (sq [oM 7 (cI 0)]
 (.seq (.block 0 (.ps [.adT 5 37 .cmd] (.loop ⟨[(5,.row 0),(6,.p .int),(7,.p .int)],[.row 37 .lcmd],[0]⟩ (.seq (sq [oM 14 6,oM 15 0,o 16 (.lens 15),oO 17 .lss 14 16]
 (.cond 17 .skip
  (.exit 0)))
 (.block 1 (sq [oM 18 7,o 19 (.inc 18 .i64),oM 7 19]
 (sq [oM 20 6,oM 8 20]
 (.seq (.block 2 (.loop ⟨[(5,.row 0),(8,.p .int)],[.row 37 .lcmd],[0,6,7]⟩ (.seq (.jn ⟨[(5,.row 0),(30,.p .bool)],[.row 37 .lcmd],[0,6,7,8]⟩ (.ops [oM 21 8,oM 22 0,o 23 (.lens 22),oO 24 .lss 21 23,oM 25 24,.gd 25 true (some 26) (oM 26 0),.gd 25 true (some 27) (oM 27 8),.gd 25 true (some 28) (o 28 (.ix 26 27)),.gd 25 true (some 29) (o 29 (.bi .neq 28 (.c (.v .u8 (10:Int))))),o 30 (.pk 25 29 (cB false))])
 (.cond 30 .skip
  (.exit 2)))
 (.block 3 (.ops [oM 31 8,o 32 (.inc 31 .i64),oM 8 32])))))
 (sq [oM 34 0,oM 35 6,oM 36 8,o 37 (.slcs 34 (some 35) (some 36)),oC 38 22 [37] [.str] (tp [.cmd,.bool]),oM 33 38,oE 39 33 0,oE 40 33 1,oA 9 37 z_cmd,oS 0 .cmd 9 39,oM 10 40]
 (.seq (.jn ⟨[(5,.row 0),(9,.ptr 1 0 []),(48,.p .bool)],[.row 37 .lcmd,.keep],[0,7,8]⟩ (.ops [oM 41 10,o 42 (.un 41),oM 43 42,.gd 43 false (some 44) (oM 44 8),.gd 43 false (some 45) (oM 45 0),.gd 43 false (some 46) (o 46 (.lens 45)),.gd 43 false (some 47) (oO 47 .eql 44 46),o 48 (.pk 43 (cB true) 47)])
 (.cond 48 (sq [oM 49 7,o 2 (.mv (.c (.ns .cmd))),oM 3 49,oM 4 (cI 70)]
  .ret)
  .skip))
 (sq [oM 50 5,oL 51 .cmd 9,o 52 (.bsl .cmd [51]),.a (some 53) (.app 37 .cmd 50 52),oM 5 53]
 (.ops [oM 54 8,o 55 (.inc 54 .i64),oM 6 55]))))))))))))
 (sq [oM 56 5,oM 2 56,oM 3 (cI 0),oM 4 (cI 0)]
 .ret)))))))⟩
def c10:XFn G:=⟨26,[.t 4],.pure [.p .bool],
 (sq [oM 4 (cB false)]
 (.seq (sq [oM 6 0,oU 7 6,oM 8 1,oU 9 8,oO 10 .neq 7 9]
 (.cond 10 (sq [oM 4 (cB false)]
  .ret)
  .skip))
 (.seq (sq [oM 5 (cI 0)]
 (.block 0 (.loop ⟨[(5,.p .int)],[],[0,1]⟩ (.seq (sq [oM 11 5,oM 12 0,oU 13 12,oO 14 .lss 11 13]
 (.cond 14 .skip
  (.exit 0)))
 (.seq (.block 1 (.seq (.draw [oM 17 0,oM 18 5,oX 19 .cmd 17 18,oI 20 .cmd 19,oM 21 1,oM 22 5,oX 23 .cmd 21 22,oI 24 .cmd 23,o 25 (.eqf true [0,0,2] 20 24)])
 (.cond 25 (sq [oM 4 (cB false)]
  .ret)
  .skip)))
 (.ops [oM 15 5,o 16 (.inc 15 .i64),oM 5 16]))))))
 (sq [oM 4 (cB true)]
 .ret))))⟩
def c11:XFn G:=⟨43,[.t 2],.pure [.p .bool],
 (sq [ob 1 0,oM 2 (cB false)]
 (.jn ⟨[(3,.p .bool)],[],[1]⟩ (.ops [oF 4 .cmd 0 1,oL 5 .u8 4,o 6 (.bi .eql 5 (.c (.v .u8 (1:Int)))),oM 7 6,.gd 7 false (some 8) (oF 8 .cmd 0 1),.gd 7 false (some 9) (oL 9 .u8 8),.gd 7 false (some 10) (o 10 (.bi .eql 9 (.c (.v .u8 (26:Int))))),o 11 (.pk 7 (cB true) 10),oM 12 11,.gd 12 false (some 13) (oF 13 .cmd 0 1),.gd 12 false (some 14) (oL 14 .u8 13),.gd 12 false (some 15) (o 15 (.bi .eql 14 (.c (.v .u8 (27:Int))))),o 16 (.pk 12 (cB true) 15),oM 3 16])
 (sq [oF 17 .cmd 0 1,oL 18 .u8 17,o 19 (.bi .geq 18 (.c (.v .u8 (1:Int)))),oM 20 19,.gd 20 true (some 21) (oF 21 .cmd 0 1),.gd 20 true (some 22) (oL 22 .u8 21),.gd 20 true (some 23) (o 23 (.bi .leq 22 (.c (.v .u8 (29:Int))))),o 24 (.pk 20 23 (cB false)),oM 25 24,.gd 25 true (some 26) (oM 26 3),.gd 25 true (some 27) (oM 27 26),.gd 27 false (some 28) (oF 28 .cmd 1 1),.gd 27 false (some 29) (oL 29 .int 28),.gd 27 false (some 30) (oO 30 .eql 29 (cI 0)),.gd 25 true (some 31) (o 31 (.pk 27 (cB true) 30)),o 32 (.pk 25 31 (cB false)),oM 33 32,.gd 33 true (some 34) (oF 34 .cmd 0 1),.gd 33 true (some 35) (oL 35 .u8 34),.gd 33 true (some 36) (o 36 (.bi .eql 35 (.c (.v .u8 (2:Int))))),.gd 33 true (some 37) (oM 37 36),.gd 37 false (some 38) (oF 38 .cmd 2 1),.gd 37 false (some 39) (oL 39 .str 38),.gd 37 false (some 40) (o 40 (.bi .eql 39 (.c (.v .str (⟨#[]⟩:ByteArray))))),.gd 33 true (some 41) (o 41 (.pk 37 (cB true) 40)),o 42 (.pk 33 41 (cB false)),oM 2 42]
 .ret)))⟩
def c12:XFn G:=⟨17,[.t 2],.pure [.p .bool],
 (sq [oM 2 (cB false)]
 (sq [o 3 (.mv (.c (.fn 23 [] [])))]
 (sq [oM 4 0,o 5 (.bi .neq 4 (.c (.v .str (⟨#[]⟩:ByteArray)))),oM 6 5,.gd 6 true (some 7) (oM 7 0),.gd 6 true (some 8) (o 8 (.lens 7)),.gd 6 true (some 9) (oO 9 .leq 8 (cI 30)),o 10 (.pk 6 9 (cB false)),oM 11 10,.gd 11 true (some 12) (oM 12 0),.gd 11 true (some 13) (oM 13 3),.gd 11 true (some 14) (oC 14 24 [12,13] [.str] (.p .bool)),.gd 11 true (some 15) (o 15 (.un 14)),o 16 (.pk 11 15 (cB false)),oM 2 16]
 .ret)))⟩
def c14:XFn G:=⟨30,[.t 2],.pure [.p .str],
 (sq [ob 1 0,o 2 (.mv (.c (.v .str (⟨#[]⟩:ByteArray))))]
 (.seq (.draw [oC 4 26 [] [] (.p .lstr),oF 5 .cmd 0 1,oI 6 .u8 5,oX 7 .str 4 6,oI 8 .str 7,oM 3 8])
 (.jn ⟨[(3,.p .str)],[],[]⟩ (sq [oF 9 .cmd 0 1,oL 10 .u8 9]
 (.block 0 (.jn ⟨[(11,.p .bool)],[],[1,3,10]⟩ (sq [o 12 (.bi .eql 10 (.c (.v .u8 (1:Int)))),oM 11 12]
 (.cond 11 .skip
  (sq [o 13 (.bi .eql 10 (.c (.v .u8 (26:Int)))),oM 11 13]
  (.cond 11 .skip
   (.ops [o 14 (.bi .eql 10 (.c (.v .u8 (27:Int)))),oM 11 14])))))
 (.cond 11 (.ops [oM 15 3,oF 16 .cmd 1 1,oL 17 .int 16,oC 18 27 [17] [.int] (.p .str),o 19 (.bi .add (.c (.v .str (⟨#[32]⟩:ByteArray))) 18),oO 20 .add 15 19,oM 3 20])
  (sq [o 22 (.bi .eql 10 (.c (.v .u8 (2:Int)))),oM 21 22]
  (.cond 21 (.ops [oM 23 3,oF 24 .cmd 2 1,oL 25 .str 24,o 26 (.bi .add (.c (.v .str (⟨#[32]⟩:ByteArray))) 25),oO 27 .add 23 26,oM 3 27])
   .skip))))))
 (sq [oM 28 3,o 29 (.bi .add 28 (.c (.v .str (⟨#[10]⟩:ByteArray)))),oM 2 29]
 .ret))))⟩
def c17:XFn G:=⟨39,[.t 2],.pure [.p .bool],
 (sq [ob 1 0,oM 2 (cB false)]
 (.seq (.jn ⟨[(20,.p .bool)],[],[1]⟩ (.ops [oF 3 .cmd 0 1,oL 4 .u8 3,o 5 (.bi .lss 4 (.c (.v .u8 (1:Int)))),oM 6 5,.gd 6 false (some 7) (oF 7 .cmd 0 1),.gd 6 false (some 8) (oL 8 .u8 7),.gd 6 false (some 9) (o 9 (.bi .gtr 8 (.c (.v .u8 (29:Int))))),o 10 (.pk 6 (cB true) 9),oM 11 10,.gd 11 false (some 12) (oF 12 .cmd 0 1),.gd 11 false (some 13) (oL 13 .u8 12),.gd 11 false (some 14) (o 14 (.bi .neq 13 (.c (.v .u8 (2:Int))))),.gd 11 false (some 15) (oM 15 14),.gd 15 true (some 16) (oF 16 .cmd 2 1),.gd 15 true (some 17) (oL 17 .str 16),.gd 15 true (some 18) (o 18 (.bi .neq 17 (.c (.v .str (⟨#[]⟩:ByteArray))))),.gd 11 false (some 19) (o 19 (.pk 15 18 (cB false))),o 20 (.pk 11 (cB true) 19)])
 (.cond 20 (sq [oM 2 (cB false)]
  .ret)
  .skip))
 (sq [oF 21 .cmd 1 1,oL 22 .int 21,oO 23 .eql 22 (cI 0),oM 24 23,.gd 24 false (some 25) (oF 25 .cmd 0 1),.gd 24 false (some 26) (oL 26 .u8 25),.gd 24 false (some 27) (o 27 (.bi .eql 26 (.c (.v .u8 (1:Int))))),o 28 (.pk 24 (cB true) 27),oM 29 28,.gd 29 false (some 30) (oF 30 .cmd 0 1),.gd 29 false (some 31) (oL 31 .u8 30),.gd 29 false (some 32) (o 32 (.bi .eql 31 (.c (.v .u8 (26:Int))))),o 33 (.pk 29 (cB true) 32),oM 34 33,.gd 34 false (some 35) (oF 35 .cmd 0 1),.gd 34 false (some 36) (oL 36 .u8 35),.gd 34 false (some 37) (o 37 (.bi .eql 36 (.c (.v .u8 (27:Int))))),o 38 (.pk 34 (cB true) 37),oM 2 38]
 .ret)))⟩
def c18:XFn G:=⟨28,[.t 2],.pure [.p .bool],
 (sq [oM 2 (cB false)]
 (.seq (sq [oM 3 (cI 0)]
 (.block 0 (.loop ⟨[(3,.p .int)],[],[0]⟩ (.seq (sq [oM 4 3,oM 5 0,o 6 (.lens 5),oO 7 .lss 4 6]
 (.cond 7 .skip
  (.exit 0)))
 (.seq (.block 1 (.jn ⟨[(19,.p .bool)],[],[0,3]⟩ (.ops [oM 10 0,oM 11 3,o 12 (.ix 10 11),o 13 (.bi .lss 12 (.c (.v .u8 (33:Int)))),oM 14 13,.gd 14 false (some 15) (oM 15 0),.gd 14 false (some 16) (oM 16 3),.gd 14 false (some 17) (o 17 (.ix 15 16)),.gd 14 false (some 18) (o 18 (.bi .gtr 17 (.c (.v .u8 (126:Int))))),o 19 (.pk 14 (cB true) 18)])
 (.cond 19 (sq [oM 2 (cB false)]
  .ret)
  .skip)))
 (.ops [oM 8 3,o 9 (.inc 8 .i64),oM 3 9]))))))
 (sq [oM 20 0,o 21 (.lens 20),oO 22 .gtr 21 (cI 0),oM 23 22,.gd 23 true (some 24) (oM 24 0),.gd 23 true (some 25) (o 25 (.lens 24)),.gd 23 true (some 26) (oO 26 .leq 25 (cI 30)),o 27 (.pk 23 26 (cB false)),oM 2 27]
 .ret)))⟩
def c19:XFn G:=⟨38,[.t 2],.pure [.p .str],
 (sq [ob 1 0,o 2 (.mv (.c (.v .str (⟨#[]⟩:ByteArray))))]
 (.seq (.draw [oC 4 28 [] [] (.p .lstr),oF 5 .cmd 0 1,oI 6 .u8 5,oX 7 .str 4 6,oI 8 .str 7,oM 3 8])
 (.jn ⟨[(3,.p .str)],[],[1]⟩ (.jn ⟨[(21,.p .bool)],[],[1,3]⟩ (.ops [oF 9 .cmd 0 1,oL 10 .u8 9,o 11 (.bi .eql 10 (.c (.v .u8 (1:Int)))),oM 12 11,.gd 12 false (some 13) (oF 13 .cmd 0 1),.gd 12 false (some 14) (oL 14 .u8 13),.gd 12 false (some 15) (o 15 (.bi .eql 14 (.c (.v .u8 (26:Int))))),o 16 (.pk 12 (cB true) 15),oM 17 16,.gd 17 false (some 18) (oF 18 .cmd 0 1),.gd 17 false (some 19) (oL 19 .u8 18),.gd 17 false (some 20) (o 20 (.bi .eql 19 (.c (.v .u8 (27:Int))))),o 21 (.pk 17 (cB true) 20)])
 (.cond 21 (.ops [oM 22 3,o 23 (.bi .add 22 (.c (.v .str (⟨#[32]⟩:ByteArray)))),oF 24 .cmd 1 1,oL 25 .int 24,oC 26 29 [25] [.int] (.p .str),oO 27 .add 23 26,oM 3 27])
  .skip))
 (.jn ⟨[(3,.p .str)],[],[]⟩ (sq [oF 28 .cmd 0 1,oL 29 .u8 28,o 30 (.bi .eql 29 (.c (.v .u8 (2:Int))))]
 (.cond 30 (.ops [oM 31 3,o 32 (.bi .add 31 (.c (.v .str (⟨#[32]⟩:ByteArray)))),oF 33 .cmd 2 1,oL 34 .str 33,oO 35 .add 32 34,oM 3 35])
  .skip))
 (sq [oM 36 3,o 37 (.bi .add 36 (.c (.v .str (⟨#[10]⟩:ByteArray)))),oM 2 37]
 .ret)))))⟩
def c21:XFn G:=⟨56,[.c 2 .cmd,.t 3],.pure [.p .cmd,.p .bool],
 (sq [oA 2 37 z_cmd,oM 3 (cB false)]
 (sq [oM 9 0,.call 0 (some 10) (.c (.fn 20 [] [])) [9,(.c (.v .str (⟨#[32]⟩:ByteArray)))] [some .str,some .str] (tp [.str,.str,.bool]),oM 8 10,oE 11 8 0,oE 12 8 1,oE 13 8 2,oM 4 11,oM 5 12,oM 6 13]
 (sq [oC 14 26 [] [] (.p .lstr),oM 15 4,oC 16 31 [14,15] [.lstr,.str] (.p .int),o 17 (.mx 16 (cI 0)),o 18 (.cvi .u8 .u8 17),o 19 (.bld .cmd zs_cmd [(0,18)]),oA 7 37 z_cmd,oS 0 .cmd 7 19]
 (.jn ⟨[(2,.ptr 0 0 []),(7,.ptr 1 0 [])],[.keep,.box 37 (.p .cmd)],[0,5]⟩ (sq [oF 20 .cmd 0 7,oL 21 .u8 20]
 (.block 0 (.jn ⟨[(2,.ptr 0 0 []),(7,.ptr 1 0 []),(22,.p .bool)],[.keep,.keep],[0,5,21]⟩ (sq [o 23 (.bi .eql 21 (.c (.v .u8 (1:Int)))),oM 22 23]
 (.cond 22 .skip
  (sq [o 24 (.bi .eql 21 (.c (.v .u8 (26:Int)))),oM 22 24]
  (.cond 22 .skip
   (.ops [o 25 (.bi .eql 21 (.c (.v .u8 (27:Int)))),oM 22 25])))))
 (.cond 22 (.ops [oM 27 5,oC 28 32 [27] [.str] (.tup [.p .int,.u]),oM 26 28,oE 29 26 0,oE 30 26 1,oF 31 .cmd 1 7,oS 0 .int 31 29])
  (sq [o 33 (.bi .eql 21 (.c (.v .u8 (2:Int)))),oM 32 33]
  (.cond 32 (.ops [oM 34 5,oF 35 .cmd 2 7,oS 0 .str 35 34])
   .skip))))))
 (.seq (.jn ⟨[(2,.ptr 0 0 []),(7,.ptr 1 0 []),(48,.p .bool)],[.keep,.keep],[0]⟩ (.ops [oF 36 .cmd 0 7,oL 37 .u8 36,o 38 (.bi .eql 37 (.c (.v .u8 (0:Int)))),oM 39 38,.gd 39 false (some 40) (oF 40 .cmd 0 7),.gd 39 false (some 41) (oL 41 .u8 40),.gd 39 false (some 42) (o 42 (.bi .eql 41 (.c (.v .u8 (2:Int))))),.gd 39 false (some 43) (oM 43 42),.gd 43 true (some 44) (oM 44 5),.gd 43 true (some 45) (oC 45 12 [44] [.str] (.p .bool)),.gd 43 true (some 46) (o 46 (.un 45)),.gd 39 false (some 47) (o 47 (.pk 43 46 (cB false))),o 48 (.pk 39 (cB true) 47)])
 (.cond 48 (sq [oL 49 .cmd 7,oS 0 .cmd 2 49,oM 3 (cB false)]
  .ret)
  .skip))
 (.seq (.draw [o 50 (.ldd .cmd 7 [2]),o 51 (.ldd .cmd 7 [2]),oC 52 14 [51] [.cmd] (.p .str),oM 53 0,o 54 (.bi .add 53 (.c (.v .str (⟨#[10]⟩:ByteArray)))),oO 55 .eql 52 54,oS 1 .cmd 2 50,oM 3 55])
 .ret))))))⟩
def c22:XFn G:=⟨97,[.c 2 .cmd,.t 3],.pure [.p .cmd,.p .bool],
 (sq [oA 2 37 z_cmd,oM 3 (cB false)]
 (sq [oM 4 (cI 0)]
 (.seq (.block 0 (.loop ⟨[(2,.ptr 0 0 []),(4,.p .int)],[.keep],[0]⟩ (.seq (.jn ⟨[(2,.ptr 0 0 []),(20,.p .bool)],[.keep],[0,4]⟩ (.ops [oM 11 4,oM 12 0,o 13 (.lens 12),oO 14 .lss 11 13,oM 15 14,.gd 15 true (some 16) (oM 16 0),.gd 15 true (some 17) (oM 17 4),.gd 15 true (some 18) (o 18 (.ix 16 17)),.gd 15 true (some 19) (o 19 (.bi .neq 18 (.c (.v .u8 (32:Int))))),o 20 (.pk 15 19 (cB false))])
 (.cond 20 .skip
  (.exit 0)))
 (.block 1 (.ops [oM 21 4,o 22 (.inc 21 .i64),oM 4 22])))))
 (sq [oM 5 (cI 0)]
 (sq [oC 23 28 [] [] (.p .lstr),oM 6 23]
 (.seq (sq [oM 7 (cI 1)]
 (.block 2 (.loop ⟨[(2,.ptr 0 0 []),(5,.p .int),(7,.p .int)],[.keep],[0,4,6]⟩ (.seq (sq [oM 24 7,oM 25 6,oU 26 25,oO 27 .lss 24 26]
 (.cond 27 .skip
  (.exit 2)))
 (.jn ⟨[(2,.ptr 0 0 []),(5,.p .int)],[.keep],[0,4,6,7]⟩ (.block 3 (.seq (.draw [oM 30 6,oM 31 7,oX 32 .str 30 31,oI 33 .str 32,oM 34 0,oM 35 4,o 36 (.slcs 34 none (some 35)),oO 37 .eql 33 36])
 (.cond 37 (.ops [oM 38 7,oM 5 38])
  .skip)))
 (.ops [oM 28 7,o 29 (.inc 28 .i64),oM 7 29]))))))
 (sq [oM 39 5,o 40 (.cvi .u8 .u8 39),o 41 (.bld .cmd zs_cmd [(0,40)]),oA 8 37 z_cmd,oS 0 .cmd 8 41]
 (.seq (sq [oM 42 5,oO 43 .eql 42 (cI 0)]
 (.cond 43 (sq [oL 44 .cmd 8,oS 0 .cmd 2 44,oM 3 (cB false)]
  .ret)
  .skip))
 (.seq (.jn ⟨[(2,.ptr 0 0 []),(8,.ptr 1 0 []),(62,.p .bool)],[.keep,.keep],[0,4]⟩ (.ops [oF 45 .cmd 0 8,oL 46 .u8 45,o 47 (.bi .neq 46 (.c (.v .u8 (1:Int)))),oM 48 47,.gd 48 true (some 49) (oF 49 .cmd 0 8),.gd 48 true (some 50) (oL 50 .u8 49),.gd 48 true (some 51) (o 51 (.bi .neq 50 (.c (.v .u8 (26:Int))))),o 52 (.pk 48 51 (cB false)),oM 53 52,.gd 53 true (some 54) (oF 54 .cmd 0 8),.gd 53 true (some 55) (oL 55 .u8 54),.gd 53 true (some 56) (o 56 (.bi .neq 55 (.c (.v .u8 (27:Int))))),o 57 (.pk 53 56 (cB false)),oM 58 57,.gd 58 true (some 59) (oF 59 .cmd 0 8),.gd 58 true (some 60) (oL 60 .u8 59),.gd 58 true (some 61) (o 61 (.bi .neq 60 (.c (.v .u8 (2:Int))))),o 62 (.pk 58 61 (cB false))])
 (.cond 62 (sq [oL 63 .cmd 8,oM 64 4,oM 65 0,o 66 (.lens 65),oO 67 .eql 64 66,oS 0 .cmd 2 63,oM 3 67]
  .ret)
  .skip))
 (.seq (sq [oM 68 4,oM 69 0,o 70 (.lens 69),oO 71 .eql 68 70]
 (.cond 71 (sq [oL 72 .cmd 8,oS 0 .cmd 2 72,oM 3 (cB false)]
  .ret)
  .skip))
 (.seq (sq [oF 73 .cmd 0 8,oL 74 .u8 73,o 75 (.bi .eql 74 (.c (.v .u8 (2:Int))))]
 (.cond 75 (sq [oM 76 0,oM 77 4,o 78 (.inc 77 .i64),o 79 (.slcs 76 (some 78) none),oF 80 .cmd 2 8,oS 0 .str 80 79]
  (.seq (.draw [o 81 (.ldd .cmd 8 [2]),oF 82 .cmd 2 8,o 83 (.ldd .str 82 [2]),oC 84 18 [83] [.str] (.p .bool),oS 1 .cmd 2 81,oM 3 84])
  .ret))
  .skip))
 (sq [oM 86 0,oM 87 4,o 88 (.inc 87 .i64),o 89 (.slcs 86 (some 88) none),oC 90 33 [89] [.str] (tp [.int,.bool]),oM 85 90,oE 91 85 0,oE 92 85 1,oM 9 91,oM 10 92]
 (sq [oM 93 9,oF 94 .cmd 1 8,oS 0 .int 94 93]
 (sq [oL 95 .cmd 8,oM 96 10,oS 0 .cmd 2 95,oM 3 96]
 .ret))))))))))))))⟩
def c23:XFn G:=⟨9,[.t 2],.pure [.p .bool],
 (sq [oM 2 (cB false)]
 (sq [oM 3 0,o 4 (.bi .lss 3 (.c (.v .i32 (33:Int)))),oM 5 4,.gd 5 false (some 6) (oM 6 0),.gd 5 false (some 7) (o 7 (.bi .gtr 6 (.c (.v .i32 (126:Int))))),o 8 (.pk 5 (cB true) 7),oM 2 8]
 .ret))⟩
def c26:XFn G:=⟨2,[.t 0],.pure [.p .lstr],
 (sq [o 0 (.mv (.c (.ns .str)))]
 (sq [.call 0 (some 1) (.c (.fn 36 [] [])) [(.c (.v .str (⟨#[32,110,117,109,32,110,97,109,101,32,110,105,108,32,97,112,112,101,110,100,32,116,121,112,101,118,97,114,32,116,121,112,101,111,112,32,118,97,114,32,99,111,110,115,116,32,99,111,109,98,32,108,97,109,98,100,97,32,114,101,102,108,32,98,101,116,97,32,97,115,115,117,109,101,32,116,114,97,110,115,32,109,107,99,111,109,98,32,101,113,109,112,32,100,101,100,117,99,116,32,97,98,115,32,105,110,115,116,32,105,110,115,116,116,121,112,101,32,110,101,119,116,121,112,101,32,110,101,119,99,111,110,115,116,32,97,120,105,111,109,32,100,101,102,105,110,101,32,100,101,102,116,121,112,101,32,100,101,102,32,114,101,102,32,112,111,112,32,115,97,118,101]⟩:ByteArray))),(.c (.v .str (⟨#[32]⟩:ByteArray)))] [some .str,some .str] (.p .lstr),oM 0 1]
 .ret))⟩
def c28:XFn G:=⟨2,[.t 0],.pure [.p .lstr],
 (sq [o 0 (.mv (.c (.ns .str)))]
 (sq [o 1 (.bsl .str [(.c (.v .str (⟨#[]⟩:ByteArray))),(.c (.v .str (⟨#[110,117,109]⟩:ByteArray))),(.c (.v .str (⟨#[110,97,109,101]⟩:ByteArray))),(.c (.v .str (⟨#[110,105,108]⟩:ByteArray))),(.c (.v .str (⟨#[97,112,112,101,110,100]⟩:ByteArray))),(.c (.v .str (⟨#[116,121,112,101,118,97,114]⟩:ByteArray))),(.c (.v .str (⟨#[116,121,112,101,111,112]⟩:ByteArray))),(.c (.v .str (⟨#[118,97,114]⟩:ByteArray))),(.c (.v .str (⟨#[99,111,110,115,116]⟩:ByteArray))),(.c (.v .str (⟨#[99,111,109,98]⟩:ByteArray))),(.c (.v .str (⟨#[108,97,109,98,100,97]⟩:ByteArray))),(.c (.v .str (⟨#[114,101,102,108]⟩:ByteArray))),(.c (.v .str (⟨#[98,101,116,97]⟩:ByteArray))),(.c (.v .str (⟨#[97,115,115,117,109,101]⟩:ByteArray))),(.c (.v .str (⟨#[116,114,97,110,115]⟩:ByteArray))),(.c (.v .str (⟨#[109,107,99,111,109,98]⟩:ByteArray))),(.c (.v .str (⟨#[101,113,109,112]⟩:ByteArray))),(.c (.v .str (⟨#[100,101,100,117,99,116]⟩:ByteArray))),(.c (.v .str (⟨#[97,98,115]⟩:ByteArray))),(.c (.v .str (⟨#[105,110,115,116]⟩:ByteArray))),(.c (.v .str (⟨#[105,110,115,116,116,121,112,101]⟩:ByteArray))),(.c (.v .str (⟨#[110,101,119,116,121,112,101]⟩:ByteArray))),(.c (.v .str (⟨#[110,101,119,99,111,110,115,116]⟩:ByteArray))),(.c (.v .str (⟨#[97,120,105,111,109]⟩:ByteArray))),(.c (.v .str (⟨#[100,101,102,105,110,101]⟩:ByteArray))),(.c (.v .str (⟨#[100,101,102,116,121,112,101]⟩:ByteArray))),(.c (.v .str (⟨#[100,101,102]⟩:ByteArray))),(.c (.v .str (⟨#[114,101,102]⟩:ByteArray))),(.c (.v .str (⟨#[112,111,112]⟩:ByteArray))),(.c (.v .str (⟨#[115,97,118,101]⟩:ByteArray)))]),oM 0 1]
 .ret))⟩
def c29:XFn G:=⟨31,[.t 2],.pure [.p .str],
 (sq [o 2 (.mv (.c (.v .str (⟨#[]⟩:ByteArray))))]
 (.seq (sq [oM 4 0,oO 5 .lss 4 (cI 0)]
 (.cond 5 (.seq (sq [oM 6 0,o 7 (.bi .eql 6 (.c (.v .int ((-9223372036854775808):Int))))]
  (.cond 7 (sq [o 2 (.mv (.c (.v .str (⟨#[45,57,50,50,51,51,55,50,48,51,54,56,53,52,55,55,53,56,48,56]⟩:ByteArray))))]
   .ret)
   .skip))
  (sq [oM 8 0,o 9 (.neg .int 8),oC 10 29 [9] [.int] (.p .str),o 11 (.bi .add (.c (.v .str (⟨#[45]⟩:ByteArray))) 10),oM 2 11]
  .ret))
  .skip))
 (sq [o 3 (.mv (.c (.v .str (⟨#[]⟩:ByteArray))))]
 (.seq (.block 0 (.loop ⟨[(0,.p .int),(3,.p .str)],[],[]⟩ (.seq (sq [oM 12 0,oO 13 .geq 12 (cI 10)]
 (.cond 13 .skip
  (.exit 0)))
 (.block 1 (sq [oM 14 0,oO 15 .rem 14 (cI 10),oO 16 .add (cI 48) 15,o 17 (.cvi .u8 .u8 16),o 18 (.bsl .u8 [17]),o 19 (.cvb .str 18),oM 20 3,oO 21 .add 19 20,oM 3 21]
 (.ops [oM 22 0,oO 23 .quo 22 (cI 10),oM 0 23]))))))
 (sq [oM 24 0,oO 25 .add (cI 48) 24,o 26 (.cvi .u8 .u8 25),o 27 (.bsl .u8 [26]),o 28 (.cvb .str 27),oM 29 3,oO 30 .add 28 29,oM 2 30]
 .ret)))))⟩
def c31:XFn G:=⟨19,[.t 4],.pure [.p .int],
 (sq [oM 4 (cI 0)]
 (.seq (sq [oM 6 0,oU 7 6,oM 8 (cI 0)]
 (.block 0 (.loop ⟨[(8,.p .int)],[],[0,1,7]⟩ (sq [oO 9 .lss 8 7]
 (.seq (.cond 9 .skip
  (.exit 0))
 (.seq (.block 1 (sq [oM 10 8,oM 5 10]
 (sq [oM 11 1,oM 12 0,oM 13 5,oX 14 .str 12 13,oL 15 .str 14,oO 16 .eql 11 15]
 (.cond 16 (sq [oM 17 5,oM 4 17]
  .ret)
  .skip))))
 (.ops [o 18 (.inc 8 .i64),oM 8 18])))))))
 (sq [o 4 (.mv (.c (.v .int ((-1):Int))))]
 .ret)))⟩
def c33:XFn G:=⟨59,[.t 2,.t 3],.pure [.p .int,.p .bool],
 (sq [oM 2 (cI 0),oM 3 (cB false)]
 (.jn ⟨[(4,.p .bool)],[],[0]⟩ (.ops [oM 9 0,o 10 (.lens 9),oO 11 .gtr 10 (cI 0),oM 12 11,.gd 12 true (some 13) (oM 13 0),.gd 12 true (some 14) (o 14 (.ix 13 (cI 0))),.gd 12 true (some 15) (o 15 (.bi .eql 14 (.c (.v .u8 (45:Int))))),o 16 (.pk 12 15 (cB false)),oM 4 16])
 (sq [oM 5 (cI 0)]
 (sq [oM 6 (cI 0)]
 (.jn ⟨[(6,.p .int)],[],[0,4,5]⟩ (sq [oM 17 4]
 (.cond 17 (.ops [oM 6 (cI 1)])
  .skip))
 (.seq (.jn ⟨[(26,.p .bool)],[],[0,4,5,6]⟩ (.ops [oM 18 6,oM 19 0,o 20 (.lens 19),oO 21 .eql 18 20,oM 22 21,.gd 22 false (some 23) (oM 23 0),.gd 22 false (some 24) (o 24 (.lens 23)),.gd 22 false (some 25) (oO 25 .gtr 24 (cI 20)),o 26 (.pk 22 (cB true) 25)])
 (.cond 26 (sq [oM 2 (cI 0),oM 3 (cB false)]
  .ret)
  .skip))
 (.seq (sq [oM 27 6,oM 7 27]
 (.block 0 (.loop ⟨[(5,.p .int),(7,.p .int)],[],[0,4]⟩ (.seq (sq [oM 28 7,oM 29 0,o 30 (.lens 29),oO 31 .lss 28 30]
 (.cond 31 .skip
  (.exit 0)))
 (.jn ⟨[(5,.p .int)],[],[0,4,7]⟩ (.block 1 (sq [oM 34 0,oM 35 7,o 36 (.ix 34 35),o 37 (.cvi .int .i64 36),oO 38 .sub 37 (cI 48),oM 8 38]
 (.seq (.jn ⟨[(44,.p .bool)],[],[0,4,5,7,8]⟩ (.ops [oM 39 8,oO 40 .lss 39 (cI 0),oM 41 40,.gd 41 false (some 42) (oM 42 8),.gd 41 false (some 43) (oO 43 .gtr 42 (cI 9)),o 44 (.pk 41 (cB true) 43)])
 (.cond 44 (sq [oM 2 (cI 0),oM 3 (cB false)]
  .ret)
  .skip))
 (sq [oM 45 4]
 (.cond 45 (.ops [oM 46 5,oO 47 .mul (cI 10) 46,oM 48 8,oO 49 .sub 47 48,oM 5 49])
  (.ops [oM 50 5,oO 51 .mul (cI 10) 50,oM 52 8,oO 53 .add 51 52,oM 5 53]))))))
 (.ops [oM 32 7,o 33 (.inc 32 .i64),oM 7 33]))))))
 (sq [oM 54 5,oM 55 5,oC 56 29 [55] [.int] (.p .str),oM 57 0,oO 58 .eql 56 57,oM 2 54,oM 3 58]
 .ret))))))))⟩
end Go.Ab.X
