/- A text of this proof. -/
import Derived.Test.YtkenggenkmfopaaGreatNai
import Derived.Test.YtkenggenkmfopaaGreatProg
set_option linter.unusedVariables false
set_option linter.unusedSimpArgs false
/- The compiled code of the functions. -/
namespace Go.Proofs.YtkenggenkmfopaaGreat
open Go Go.V
@[reducible] def zm (d s:Nat):GI:=⟨none,some d,.v (.mov (.t s))⟩
@[reducible] def zv (d:Nat) (x:IV):GI:=⟨none,some d,.v x⟩
@[reducible] def zi (d:Nat) (i:I):GI:=⟨none,some d,i⟩
@[reducible] def zn (i:I):GI:=⟨none,none,i⟩
@[reducible] def zw (j:Nat) (b:Bool) (d:Nat) (x:IV):GI:=⟨some (j,b),some d,.v x⟩
@[reducible] def zp (g:GI):GI×List Nat:=(g,[])
@[reducible] def zN:Co:=.agg [.id,.id,.id,.id,(.sl 5)]
@[reducible] def zC:Co:=.agg [(.sl 4),.id,.id,.id,.id,.id,.id,.id]
@[reducible] def zaN:I:=.alo [(.int .i64 0),(.int .i64 0),(.int .i64 0),(.str []),.nils]
@[reducible] def zaC:I:=.alo [.nils,(.int .i64 0),(.int .i64 0),(.int .i64 0),(.str []),(.int .i64 0),(.int .i64 0),(.int .i64 0)]
@[reducible] def zaT:I:=.alo [(.int .i64 0),(.int .i64 0),(.int .i64 0),(.str [])]
@[reducible] def zZ:AV:=.agg [(.int .i64 0),(.int .i64 0),(.int .i64 0),(.str []),.nils]
@[reducible] def zc (n:Int):Opd:=.c (.int .i64 n)
@[reducible] def zf:IV:=.mov (.c (.bool false))
@[reducible] def zr (l:List GI):IC:=.reg false l
@[reducible] def zk (f:FuncId) (l:List (Opd×Co)):I:=.call (.c (.fn f [] [])) l
@[reducible] def zA (n:Nat):Opd×Co:=(.t n,zN)
@[reducible] def zI (n:Nat):Opd×Co:=(.t n,.id)
@[reducible] def zx (n k:Nat):IV:=.ext (.t n) k
@[reducible] def zl (n k:Nat):IV:=.ld true n (.t k)
@[reducible] def zg (n k:Nat):IV:=.ld false n (.t k)
@[reducible] def zd (n k:Nat):IV:=.fad (.t n) k
@[reducible] def zq (a b:Opd):IV:=.bin .eql .no a b
@[reducible] def zo (n:Nat):IV:=.mov (.t n)
@[reducible] def zj (j:Nat) (b:Bool) (d:Nat) (i:I):GI:=⟨some (j,b),some d,i⟩
def qbt7:IC:=zr [zi 1 (.box (.t 0)),zv 2 zf]
def qbq5:IC:=zr [zv 3 (.mov (.c .nilp))]
def qbu8:IC:=zr [zm 7 3,zv 8 (zd 1 1),zv 9 (zg 1 8),zi 10 (zk 20 [zI 7,zI 9])]
def qbro:IC:=zr [zm 12 3,zi 13 (zk 19 [zI 12]),zm 11 13,zv 14 (zx 11 0),zv 15 (zx 11 1),zm 4 14,zm 5 15]
def qbvk:IC:=zr [zm 16 3,zv 17 (zd 1 4),zv 18 (zl 3 17),zi 19 (zk 15 [zI 16,((.t 18),(.agg [.id,.id,(.sl 3)]))]),zi 6 (.alo [(.str []),(.int .i64 0),.nils]),zn (.st 3 (.agg [.id,.id,(.sl 3)]) (.t 6) (.t 19))]
def qbwt:IC:=zr [zm 20 3,zi 21 (zk 21 [zI 20]),zv 22 (.bld [(.str []),(.int .i64 0),.nils] []),zi 23 (zk 16 [((.t 21),(.agg [.id,.id,(.sl 3)])),((.t 22),(.agg [.id,.id,(.sl 3)]))]),zm 24 23,zw 24 true 25 (zo 3),zj 24 true 26 (zk 22 [zI 25]),zw 24 true 27 (.bld [(.str []),(.int .i64 0),.nils] []),zj 24 true 28 (zk 16 [((.t 26),(.agg [.id,.id,(.sl 3)])),((.t 27),(.agg [.id,.id,(.sl 3)]))]),zv 29 (.pick (.t 24) (.t 28) (.c (.bool false))),zm 30 29,zw 30 true 31 (zo 3),zj 30 true 32 (zk 23 [zI 31]),zw 30 true 33 (zq (.t 32) (.c (.str []))),zv 34 (.pick (.t 30) (.t 33) (.c (.bool false))),zm 35 34,zw 35 true 36 (zl 3 6),zw 35 true 37 (.bld [.nils,(.str []),(.int .i64 0),.nils] [(1,3,(.t 36))]),zw 35 true 38 (.bld [.nils,(.str []),(.int .i64 0),.nils] []),zj 35 true 39 (zk 24 [((.t 37),(.agg [(.sl 1),.id,.id,(.sl 3)])),((.t 38),(.agg [(.sl 1),.id,.id,(.sl 3)]))]),zv 40 (.pick (.t 35) (.t 39) (.c (.bool false))),zm 41 40,zw 41 true 42 (zo 3),zw 41 true 43 (zd 1 4),zw 41 true 44 (zl 3 43),zw 41 true 45 (zd 1 7),zw 41 true 46 (zl 3 45),zw 41 true 47 (zd 1 2),zw 41 true 48 (zg 1 47),zj 41 true 49 (zk 12 [zI 42,((.t 44),(.agg [.id,.id,(.sl 3)])),((.t 46),(.agg [.id,.id,(.sl 3)])),zI 48]),zw 41 true 50 (.un .not (.t 49)),zv 51 (.pick (.t 41) (.t 50) (.c (.bool false))),zm 52 51,zw 52 true 53 (zo 3),zw 52 true 54 (zd 1 1),zw 52 true 55 (zg 1 54),zw 52 true 56 (zd 1 2),zw 52 true 57 (zg 1 56),zj 52 true 58 (zk 17 [zI 53,zI 55,zI 57]),zw 52 true 59 (.un .not (.t 58)),zv 60 (.pick (.t 52) (.t 59) (.c (.bool false))),zm 61 60,zw 61 true 62 (zo 4),zw 61 true 63 (zq (.t 62) (zc 0)),zv 64 (.pick (.t 61) (.t 63) (.c (.bool false))),zm 65 64,zw 65 true 66 (zo 5),zw 65 true 67 (zq (.t 66) (zc 0)),zv 68 (.pick (.t 65) (.t 67) (.c (.bool false))),zm 69 68,zw 69 true 70 (zo 3),zw 69 true 71 (.bld [(.str []),(.str []),(.int .i64 0),.nils] []),zw 69 true 72 (zd 1 2),zw 69 true 73 (zg 1 72),zj 69 true 74 (zk 25 [zI 70,((.t 71),(.agg [.id,.id,.id,(.sl 3)])),zI 73]),zw 69 true 75 (zq (.t 74) (zc 0)),zv 76 (.pick (.t 69) (.t 75) (.c (.bool false))),zm 77 76,zw 77 true 78 (zo 3),zj 77 true 79 (zk 26 [zI 78]),zw 77 true 80 (zq (.t 79) (zc 0)),zv 81 (.pick (.t 77) (.t 80) (.c (.bool false))),zm 82 81,zw 82 true 83 (zo 3),zw 82 true 84 (zd 1 1),zw 82 true 85 (zg 1 84),zj 82 true 86 (zk 27 [zI 83,zI 85]),zw 82 true 87 (.len false (.t 86)),zw 82 true 88 (zq (.t 87) (zc 0)),zv 89 (.pick (.t 82) (.t 88) (.c (.bool false))),zm 90 89,zw 90 true 91 (zo 3),zw 90 true 92 (zd 1 1),zw 90 true 93 (zg 1 92),zw 90 true 94 (zd 1 10),zw 90 true 95 (zl 6 94),zj 90 true 96 (zk 28 [zI 91,zI 93,((.t 95),(.agg [.id,.id,.id,(.sl 1),(.sl 3),(.sl 6)]))]),zw 90 true 97 (zq (.t 96) (zc 1)),zv 98 (.pick (.t 90) (.t 97) (.c (.bool false))),zm 99 98,zw 99 true 100 (zo 3),zw 99 true 101 (zd 1 10),zw 99 true 102 (zl 6 101),zj 99 true 103 (zk 30 [zI 100,((.t 102),(.agg [.id,.id,.id,(.sl 1),(.sl 3),(.sl 6)]))]),zw 99 true 104 (.bld [(.int .i64 0),(.int .i64 0),(.str []),.nils,.nils,.nils] []),zj 99 true 105 (zk 29 [((.t 103),(.agg [.id,.id,.id,(.sl 1),(.sl 3),(.sl 6)])),((.t 104),(.agg [.id,.id,.id,(.sl 1),(.sl 3),(.sl 6)]))]),zv 106 (.pick (.t 99) (.t 105) (.c (.bool false))),zm 107 106,zj 107 true 108 (zk 10 []),zv 109 (.pick (.t 107) (.t 108) (.c (.bool false))),zm 2 109]
def k0a:IC:=(.seq qbt7 (.seq qbq5 (.seq qbu8 (.seq qbro (.seq qbvk (.seq qbwt .ret))))))
@[go_sem] def s0a:List (RV×Co):=[(.t 2,.id)]
theorem c0a:cFun Tryz.prog 5 = some (110,k0a,s0a):=by kernel_rfl

def qbmz:IC:=zr [zv 0 zf]
def qbi8:IC:=zr [zi 18 (zk 11 []),zm 1 18]
def qbdf:IC:=zr [zm 19 1,zv 20 (.bin .eql .ptr (.t 19) (.c .nilp))]
def qbgv:IC:=zr [zv 0 zf]
def qbgg:IC:=zr [zm 21 1,zi 22 (zk 21 [zI 21]),zm 23 1,zi 24 (zk 21 [zI 23]),zm 25 1,zi 26 (zk 22 [zI 25]),zi 2 (.alo [(.str []),(.int .i64 0),.nils]),zi 3 (.alo [(.str []),(.int .i64 0),.nils]),zi 4 (.alo [(.str []),(.int .i64 0),.nils]),zn (.st 3 (.agg [.id,.id,(.sl 3)]) (.t 2) (.t 22)),zn (.st 3 (.agg [.id,.id,(.sl 3)]) (.t 3) (.t 24)),zn (.st 3 (.agg [.id,.id,(.sl 3)]) (.t 4) (.t 26))]
def qbls:IC:=zr [zv 27 (.bld [(.str []),(.int .i64 0),.nils] [(0,1,(.c (.str [73,110,116])))]),zi 5 (.alo [(.str []),(.int .i64 0),.nils]),zn (.st 3 (.agg [.id,.id,(.sl 3)]) (.t 5) (.t 27))]
def qbaz:IC:=zr [zm 28 1,zv 29 (zl 3 2),zv 30 (zl 3 5),zi 31 (zk 12 [zI 28,((.t 29),(.agg [.id,.id,(.sl 3)])),((.t 30),(.agg [.id,.id,(.sl 3)])),((zc 3),.id)]),zm 6 31]
def qbio:IC:=zr [zm 32 1,zv 33 (zl 3 2),zv 34 (.bsl 3 [((.t 33),(.agg [.id,.id,(.sl 3)]))]),zv 35 (.bld [(.str []),(.int .i64 0),.nils] [(0,1,(.c (.str [84]))),(2,1,(.t 34))]),zi 36 (zk 15 [zI 32,((.t 35),(.agg [.id,.id,(.sl 3)]))]),zi 7 (.alo [(.str []),(.int .i64 0),.nils]),zn (.st 3 (.agg [.id,.id,(.sl 3)]) (.t 7) (.t 36))]
def qbcm:IC:=zr [zm 37 1,zv 38 (zl 3 2),zv 39 (.bld [(.str []),(.str []),(.int .i64 0),.nils] [(0,1,(.c (.str [67]))),(1,3,(.t 38))]),zi 40 (zk 25 [zI 37,((.t 39),(.agg [.id,.id,.id,(.sl 3)])),((zc 5),.id)]),zm 41 1,zi 42 (zk 26 [zI 41]),zm 8 40,zm 9 42]
def qbks:IC:=zr [zm 43 1,zi 44 (zk 27 [zI 43,((zc 0),.id)]),zm 10 44]
def q6k:IC:=zr [zm 45 1,zm 46 8,zm 47 9,zv 48 (.bld [(.int .i64 0),(.int .i64 0),(.str []),.nils,.nils,.nils] [(0,1,(zc 14)),(1,1,(.t 47))]),zi 49 (zk 28 [zI 45,zI 46,((.t 48),(.agg [.id,.id,.id,(.sl 1),(.sl 3),(.sl 6)]))]),zm 11 49]
def q3d:IC:=zr [zm 50 1,zm 51 9,zv 52 (.bld [(.int .i64 0),(.int .i64 0),(.str []),.nils,.nils,.nils] [(0,1,(zc 2)),(1,1,(zc 9))]),zi 53 (zk 28 [zI 50,zI 51,((.t 52),(.agg [.id,.id,.id,(.sl 1),(.sl 3),(.sl 6)]))]),zm 12 53]
def q3x:IC:=zr [zm 54 1,zm 55 8,zv 56 (.bld [(.int .i64 0),(.int .i64 0),(.str []),.nils,.nils,.nils] [(0,1,(zc 14)),(1,1,(.t 55))]),zi 57 (zk 30 [zI 54,((.t 56),(.agg [.id,.id,.id,(.sl 1),(.sl 3),(.sl 6)]))]),zi 13 (.alo [(.int .i64 0),(.int .i64 0),(.str []),.nils,.nils,.nils]),zn (.st 6 (.agg [.id,.id,.id,(.sl 1),(.sl 3),(.sl 6)]) (.t 13) (.t 57))]
def q6r:IC:=zr [zm 58 1,zv 59 (zl 3 4),zv 60 (zl 3 3),zi 61 (zk 12 [zI 58,((.t 59),(.agg [.id,.id,(.sl 3)])),((.t 60),(.agg [.id,.id,(.sl 3)])),((zc 4),.id)]),zm 14 61]
def q5n:IC:=zr [zm 62 1,zv 63 (zl 3 4),zv 64 (zl 3 5),zi 65 (zk 12 [zI 62,((.t 63),(.agg [.id,.id,(.sl 3)])),((.t 64),(.agg [.id,.id,(.sl 3)])),((zc 7),.id)]),zm 15 65]
def q2t:IC:=zr [zm 67 1,zi 68 (zk 19 [zI 67]),zm 66 68,zv 69 (zx 66 0),zv 70 (zx 66 1),zm 16 69,zm 17 70]
def qs1:IC:=zr [zv 71 (zd 2 1),zv 72 (zg 1 71),zv 73 (zq (.t 72) (zc (-1))),zm 74 73,zw 74 true 75 (zd 3 1),zw 74 true 76 (zg 1 75),zw 74 true 77 (zq (.t 76) (zc (-2))),zv 78 (.pick (.t 74) (.t 77) (.c (.bool false))),zm 79 78,zw 79 true 80 (zd 4 0),zw 79 true 81 (zg 1 80),zw 79 true 82 (zq (.t 81) (.c (.str [33,48]))),zv 83 (.pick (.t 79) (.t 82) (.c (.bool false))),zm 84 83,zw 84 true 85 (zo 6),zv 86 (.pick (.t 84) (.t 85) (.c (.bool false))),zm 87 86,zw 87 true 88 (zl 3 7),zj 87 true 89 (zk 38 [((.t 88),(.agg [.id,.id,(.sl 3)]))]),zw 87 true 90 (zq (.t 89) (.c (.str [84,32,73,110,116]))),zv 91 (.pick (.t 87) (.t 90) (.c (.bool false))),zm 92 91,zw 92 true 93 (zo 8),zw 92 true 94 (zq (.t 93) (zc 0)),zv 95 (.pick (.t 92) (.t 94) (.c (.bool false))),zm 96 95,zw 96 true 97 (zo 9),zw 96 true 98 (zq (.t 97) (zc 1)),zv 99 (.pick (.t 96) (.t 98) (.c (.bool false))),zm 100 99,zw 100 true 101 (zo 10),zw 100 true 102 (.len false (.t 101)),zw 100 true 103 (zq (.t 102) (zc 1)),zv 104 (.pick (.t 100) (.t 103) (.c (.bool false))),zm 105 104,zw 105 true 106 (zo 10),zw 105 true 107 (.iad 6 (.t 106) (zc 0)),zw 105 true 108 (zd 107 0),zw 105 true 109 (zd 108 1),zw 105 true 110 (zd 109 0),zw 105 true 111 (zg 1 110),zw 105 true 112 (zq (.t 111) (.c (.str [73,110,116]))),zv 113 (.pick (.t 105) (.t 112) (.c (.bool false))),zm 114 113,zw 114 true 115 (zo 11),zw 114 true 116 (zq (.t 115) (zc 0)),zv 117 (.pick (.t 114) (.t 116) (.c (.bool false))),zm 118 117,zw 118 true 119 (zo 12),zw 118 true 120 (zq (.t 119) (zc 0)),zv 121 (.pick (.t 118) (.t 120) (.c (.bool false))),zm 122 121,zw 122 true 123 (zo 1),zw 122 true 124 (zo 9),zw 122 true 125 (.bld [(.int .i64 0),(.int .i64 0),(.str []),.nils,.nils,.nils] [(0,1,(zc 2))]),zj 122 true 126 (zk 28 [zI 123,zI 124,((.t 125),(.agg [.id,.id,.id,(.sl 1),(.sl 3),(.sl 6)]))]),zw 122 true 127 (zq (.t 126) (zc 6)),zv 128 (.pick (.t 122) (.t 127) (.c (.bool false))),zm 129 128,zw 129 true 130 (zd 13 1),zw 129 true 131 (zg 1 130),zw 129 true 132 (zq (.t 131) (zc 9)),zv 133 (.pick (.t 129) (.t 132) (.c (.bool false))),zm 134 133,zw 134 true 135 (zd 13 0),zw 134 true 136 (zg 1 135),zw 134 true 137 (zq (.t 136) (zc 2)),zv 138 (.pick (.t 134) (.t 137) (.c (.bool false))),zm 139 138,zw 139 true 140 (zo 14),zv 141 (.pick (.t 139) (.t 140) (.c (.bool false))),zm 142 141,zw 142 true 143 (zo 15),zw 142 true 144 (.un .not (.t 143)),zv 145 (.pick (.t 142) (.t 144) (.c (.bool false))),zm 146 145,zw 146 true 147 (zo 16),zw 146 true 148 (zq (.t 147) (zc 7)),zv 149 (.pick (.t 146) (.t 148) (.c (.bool false))),zm 150 149,zw 150 true 151 (zo 17),zw 150 true 152 (zq (.t 151) (zc 14)),zv 153 (.pick (.t 150) (.t 152) (.c (.bool false))),zm 154 153,zw 154 true 155 (zo 1),zj 154 true 156 (zk 23 [zI 155]),zw 154 true 157 (zq (.t 156) (.c (.str [35,48]))),zv 158 (.pick (.t 154) (.t 157) (.c (.bool false))),zm 159 158,zw 159 true 160 (zo 1),zj 159 true 161 (zk 23 [zI 160]),zw 159 true 162 (zq (.t 161) (.c (.str [35,49]))),zv 163 (.pick (.t 159) (.t 162) (.c (.bool false))),zm 0 163]
def k0dv:IC:=(.seq qbmz (.seq qbi8 (.seq (.seq qbdf (.cond (.t 20) (.seq qbgv .ret) .skip)) (.seq qbgg (.seq qbls (.seq qbaz (.seq qbio (.seq qbcm (.seq qbks (.seq q6k (.seq q3d (.seq q3x (.seq q6r (.seq q5n (.seq q2t (.seq qs1 .ret))))))))))))))))
@[go_sem] def s0dv:List (RV×Co):=[(.t 0,.id)]
theorem c0dv:cFun Tryz.prog 10 = some (164,k0dv,s0dv):=by kernel_rfl

def qbq9:IC:=zr [zv 0 (.mov (.c .nilp))]
def qbwv:IC:=zr [zi 1 (zk 39 [((.c .nils),(.sl 4))]),zi 2 (.call (.c (.eptr 94 [] 0 0)) []),zi 3 (.call (.c (.eptr 95 [] 0 0)) []),zv 4 (.bld [(.int .i64 0),(.int .i64 0),(.int .i64 0),(.int .i64 0),.nilp,.nils,.nilm,.nilm,(.int .i64 0),(.int .i64 0)] [(4,1,(.t 1)),(6,1,(.t 2)),(7,1,(.t 3))]),zi 5 (.box (.t 4)),zm 0 5]
def k0t:IC:=(.seq qbq9 (.seq qbwv .ret))
@[go_sem] def s0t:List (RV×Co):=[(.t 0,.id)]
theorem c0t:cFun Tryz.prog 11 = some (6,k0t,s0t):=by kernel_rfl

def qbtu:IC:=zr [zi 5 (.box (.t 1)),zi 6 (.box (.t 2)),zv 8 zf]
def q8n:IC:=zr [zm 11 0,zv 12 (.bin .eql .ptr (.t 11) (.c .nilp)),zm 13 12,zw 13 false 14 (zo 0),zw 13 false 15 (.nck (.t 14)),zw 13 false 16 (zd 15 9),zw 13 false 17 (zg 1 16),zw 13 false 18 (.bin .neq .no (.t 17) (zc 0)),zv 19 (.pick (.t 13) (.c (.bool true)) (.t 18))]
def qbr0:IC:=zr [zv 8 zf]
def qbqv:IC:=.drw [zp (zm 21 0),zp (zv 22 (.nck (.t 21))),zp (zv 23 (zd 22 4)),zp (zv 24 (zg 1 23)),zp (zv 25 (zl 3 5)),zp (zv 26 (zl 3 6)),(zi 27 (zk 40 [zI 24,((.t 25),(.agg [.id,.id,(.sl 3)])),((.t 26),(.agg [.id,.id,(.sl 3)]))]),[]),zp (zm 20 27),zp (zv 28 (zx 20 0)),zp (zv 29 (zx 20 1)),zp (zm 9 28),zp (zm 10 29)]
def q8g:IC:=zr [zm 30 10,zv 31 (zq (.t 30) (zc 1))]
def qbt5:IC:=zr [zv 10 (.mov (zc 2))]
def qbtj:IC:=zr [zm 32 10,zv 33 (.bin .neq .no (.t 32) (zc 0))]
def qbxq:IC:=zr [zm 34 0,zm 35 10,zm 36 3,zi 37 (zk 17 [zI 34,zI 35,zI 36]),zm 8 37]
def qbtk:IC:=zr [zm 38 0,zm 39 9,zv 40 (.nck (.t 38)),zv 41 (zd 40 4),zn (.st 1 .id (.t 41) (.t 39))]
def qbve:IC:=zr [zv 8 (.mov (.c (.bool true)))]
def k0f:IC:=(.seq qbtu (.seq (.seq q8n (.cond (.t 19) (.seq qbr0 .ret) .skip)) (.seq qbqv (.seq (.seq q8g (.cond (.t 31) qbt5 .skip)) (.seq (.seq qbtj (.cond (.t 33) (.seq qbxq .ret) .skip)) (.seq qbtk (.seq qbve .ret)))))))
@[go_sem] def s0f:List (RV×Co):=[(.t 8,.id)]
theorem c0f:cFun Tryz.prog 12 = some (42,k0f,s0f):=by kernel_rfl

def qbxf:IC:=zr [zi 3 (.box (.t 1)),zi 4 (.alo [(.str []),(.int .i64 0),.nils])]
def qbwz:IC:=zr [zm 9 0,zv 10 (.bin .eql .ptr (.t 9) (.c .nilp))]
def qbrh:IC:=zr [zv 11 (.bld [(.str []),(.int .i64 0),.nils] []),zn (.st 3 (.agg [.id,.id,(.sl 3)]) (.t 4) (.t 11))]
def qbsr:IC:=zr [zm 13 0,zi 14 (zk 50 [zI 13]),zm 12 14,zv 15 (zx 12 0),zv 16 (zx 12 1),zm 5 15,zm 6 16]
def qbyw:IC:=zr [zv 18 (zl 3 3),zm 19 5,zm 20 6,zi 21 (zk 51 [((.t 18),(.agg [.id,.id,(.sl 3)])),((.t 19),(.sl 1)),((.t 20),(.sl 3))]),zm 17 21,zv 22 (zx 17 0),zv 23 (zx 17 1),zi 7 (.alo [(.str []),(.int .i64 0),.nils]),zn (.st 3 (.agg [.id,.id,(.sl 3)]) (.t 7) (.t 22)),zm 8 23]
def qbxs:IC:=zr [zm 24 8,zv 25 (.un .not (.t 24))]
def qbv8:IC:=zr [zv 26 (.bld [(.str []),(.int .i64 0),.nils] []),zn (.st 3 (.agg [.id,.id,(.sl 3)]) (.t 4) (.t 26))]
def qbyv:IC:=zr [zv 27 (zl 3 7),zn (.st 3 (.agg [.id,.id,(.sl 3)]) (.t 4) (.t 27))]
def k0e:IC:=(.seq qbxf (.seq (.seq qbwz (.cond (.t 10) (.seq qbrh .ret) .skip)) (.seq qbsr (.seq qbyw (.seq (.seq qbxs (.cond (.t 25) (.seq qbv8 .ret) .skip)) (.seq qbyv .ret))))))
@[go_sem] def s0e:List (RV×Co):=[(.c true 3 4,(.agg [.id,.id,(.sl 3)]))]
theorem c0e:cFun Tryz.prog 15 = some (28,k0e,s0e):=by kernel_rfl

def qbdr:IC:=zr [zi 2 (.box (.t 0)),zi 3 (.box (.t 1)),zv 4 zf]
def qbja:IC:=zr [zv 6 (zd 2 0),zv 7 (zg 1 6),zv 8 (zd 3 0),zv 9 (zg 1 8),zv 10 (.bin .neq .no (.t 7) (.t 9)),zm 11 10,zw 11 false 12 (zd 2 1),zw 11 false 13 (zg 1 12),zw 11 false 14 (zd 3 1),zw 11 false 15 (zg 1 14),zw 11 false 16 (.bin .neq .no (.t 13) (.t 15)),zv 17 (.pick (.t 11) (.c (.bool true)) (.t 16)),zm 18 17,zw 18 false 19 (zd 2 2),zw 18 false 20 (zg 1 19),zw 18 false 21 (.len false (.t 20)),zw 18 false 22 (zd 3 2),zw 18 false 23 (zg 1 22),zw 18 false 24 (.len false (.t 23)),zw 18 false 25 (.bin .neq .no (.t 21) (.t 24)),zv 26 (.pick (.t 18) (.c (.bool true)) (.t 25))]
def qba2:IC:=zr [zv 4 zf]
def qblt:IC:=zr [zv 5 (.mov (zc 0))]
def qbi6:IC:=zr [zm 27 5,zv 28 (zd 2 2),zv 29 (zg 1 28),zv 30 (.len false (.t 29)),zv 31 (.bin .lss .no (.t 27) (.t 30))]
def qbmo:IC:=.drw [zp (zv 34 (zd 2 2)),zp (zv 35 (zg 1 34)),zp (zm 36 5),zp (zv 37 (.iad 3 (.t 35) (.t 36))),zp (zv 38 (zl 3 37)),zp (zv 39 (zd 3 2)),zp (zv 40 (zg 1 39)),zp (zm 41 5),zp (zv 42 (.iad 3 (.t 40) (.t 41))),zp (zv 43 (zl 3 42)),(zi 44 (zk 16 [((.t 38),(.agg [.id,.id,(.sl 3)])),((.t 43),(.agg [.id,.id,(.sl 3)]))]),[]),zp (zv 45 (.un .not (.t 44)))]
def qbbj:IC:=zr [zv 4 zf]
def qbmm:IC:=zr [zm 32 5,zv 33 (.bin .add .no (.t 32) (zc 1)),zm 5 33]
def qbcr:IC:=(.seq (.seq qbi6 (.cond (.t 31) .skip (.exit 0))) (.seq (.block 1 (.seq qbmo (.cond (.t 45) (.seq qbbj .ret) .skip))) qbmm))
def q6z:IC:=zr [zv 4 (.mov (.c (.bool true)))]
def k0bz:IC:=(.seq qbdr (.seq (.seq qbja (.cond (.t 26) (.seq qba2 .ret) .skip)) (.seq (.seq qblt (.block 0 (.loop qbcr))) (.seq q6z .ret))))
@[go_sem] def s0bz:List (RV×Co):=[(.t 4,.id)]
theorem c0bz:cFun Tryz.prog 16 = some (46,k0bz,s0bz):=by kernel_rfl

def qbs8:IC:=zr [zv 6 zf]
def qbwm:IC:=zr [zm 7 0,zv 8 (.bin .neq .ptr (.t 7) (.c .nilp)),zm 9 8,zw 9 true 10 (zo 0),zw 9 true 11 (.nck (.t 10)),zw 9 true 12 (zd 11 9),zw 9 true 13 (zg 1 12),zw 9 true 14 (zq (.t 13) (zc 0)),zv 15 (.pick (.t 9) (.t 14) (.c (.bool false)))]
def qbqf:IC:=zr [zm 16 1,zv 17 (zq (.t 16) (zc 0))]
def qbs7:IC:=zr [zv 1 (.mov (zc 1))]
def qbwe:IC:=zr [zm 18 0,zm 19 0,zm 20 1,zm 21 2,zv 22 (.nck (.t 18)),zv 23 (zd 22 9),zn (.st 1 .id (.t 23) (.t 20)),zv 24 (.nck (.t 19)),zv 25 (zd 24 8),zn (.st 1 .id (.t 25) (.t 21))]
def qbxa:IC:=zr [zv 6 zf]
def k0g:IC:=(.seq qbs8 (.seq (.seq qbwm (.cond (.t 15) (.seq (.seq qbqf (.cond (.t 17) qbs7 .skip)) qbwe) .skip)) (.seq qbxa .ret)))
@[go_sem] def s0g:List (RV×Co):=[(.t 6,.id)]
theorem c0g:cFun Tryz.prog 17 = some (26,k0g,s0g):=by kernel_rfl

def qbyg:IC:=zr [zv 2 (.mov (zc 0)),zv 3 (.mov (zc 0))]
def qbp2:IC:=zr [zm 4 0,zv 5 (.bin .eql .ptr (.t 4) (.c .nilp))]
def qbyn:IC:=zr [zv 2 (.mov (zc 0)),zv 3 (.mov (zc 0))]
def qbwg:IC:=.drw [zp (zm 6 0),zp (zv 7 (.nck (.t 6))),zp (zv 8 (zd 7 8)),zp (zv 9 (zg 1 8)),zp (zm 10 0),zp (zv 11 (.nck (.t 10))),zp (zv 12 (zd 11 9)),zp (zv 13 (zg 1 12)),zp (zm 2 9),zp (zm 3 13)]
def k0h:IC:=(.seq qbyg (.seq (.seq qbp2 (.cond (.t 5) (.seq qbyn .ret) .skip)) (.seq qbwg .ret)))
@[go_sem] def s0h:List (RV×Co):=[(.t 2,.id),(.t 3,.id)]
theorem c0h:cFun Tryz.prog 19 = some (14,k0h,s0h):=by kernel_rfl

def qbqn:IC:=zr [zm 4 0,zv 5 (.bin .neq .ptr (.t 4) (.c .nilp))]
def qbv5:IC:=.drw [zp (zm 6 0),zp (zm 7 0),zp (zv 8 (.nck (.t 7))),zp (zv 9 (zd 8 5)),zp (zv 10 (zg 1 9)),zp (zm 11 1),zp (zv 12 (.mm true (.t 11) (zc 0))),zp (zm 13 0),zp (zv 14 (.nck (.t 13))),zp (zv 15 (zd 14 5)),zp (zv 16 (zg 1 15)),zp (zv 17 (.len false (.t 16))),zp (zv 18 (.mm false (.t 12) (.t 17))),zp (zv 19 (.slv 6 (.t 10) none (some (.t 18)) none)),zp (zv 20 (.nck (.t 6))),zp (zv 21 (zd 20 5)),(zn (.st 1 (.sl 6) (.t 21) (.t 19)),[])]
def k0n:IC:=(.seq qbqn (.cond (.t 5) qbv5 .skip))
@[go_sem] def s0n:List (RV×Co):=[]
theorem c0n:cFun Tryz.prog 20 = some (22,k0n,s0n):=by kernel_rfl

def qbsx:IC:=zr [zi 2 (.alo [(.str []),(.int .i64 0),.nils])]
def qbty:IC:=zr [zm 3 0,zv 4 (.bin .eql .ptr (.t 3) (.c .nilp))]
def qbs6:IC:=zr [zv 5 (.bld [(.str []),(.int .i64 0),.nils] []),zn (.st 3 (.agg [.id,.id,(.sl 3)]) (.t 2) (.t 5))]
def qbu3:IC:=zr [zm 6 0,zv 7 (.nck (.t 6)),zv 8 (zd 7 0),zv 9 (zg 1 8),zv 10 (.bin .add .no (.t 9) (zc 1)),zv 11 (.nck (.t 6)),zv 12 (zd 11 0),zn (.st 1 .id (.t 12) (.t 10))]
def qbxr:IC:=zr [zm 13 0,zv 14 (.nck (.t 13)),zv 15 (zd 14 0),zv 16 (zg 1 15),zv 17 (.un .neg (.t 16)),zv 18 (.bld [(.str []),(.int .i64 0),.nils] [(1,1,(.t 17))]),zn (.st 3 (.agg [.id,.id,(.sl 3)]) (.t 2) (.t 18))]
def k0b:IC:=(.seq qbsx (.seq (.seq qbty (.cond (.t 4) (.seq qbs6 .ret) .skip)) (.seq qbu3 (.seq qbxr .ret))))
@[go_sem] def s0b:List (RV×Co):=[(.c true 3 2,(.agg [.id,.id,(.sl 3)]))]
theorem c0b:cFun Tryz.prog 21 = some (19,k0b,s0b):=by kernel_rfl

def qbs0:IC:=zr [zi 2 (.alo [(.str []),(.int .i64 0),.nils])]
def qbu6:IC:=zr [zm 3 0,zv 4 (.bin .eql .ptr (.t 3) (.c .nilp))]
def qbuw:IC:=zr [zv 5 (.bld [(.str []),(.int .i64 0),.nils] []),zn (.st 3 (.agg [.id,.id,(.sl 3)]) (.t 2) (.t 5))]
def qbt6:IC:=zr [zm 6 0,zv 7 (.nck (.t 6)),zv 8 (zd 7 1),zv 9 (zg 1 8),zv 10 (.bin .add .no (.t 9) (zc 1)),zv 11 (.nck (.t 6)),zv 12 (zd 11 1),zn (.st 1 .id (.t 12) (.t 10))]
def qbpy:IC:=zr [zm 13 0,zv 14 (.nck (.t 13)),zv 15 (zd 14 1),zv 16 (zg 1 15),zv 17 (.bin .sub .no (.t 16) (zc 1)),zi 18 (zk 52 [zI 17]),zv 19 (.bin .add .no (.c (.str [33])) (.t 18)),zv 20 (.bld [(.str []),(.int .i64 0),.nils] [(0,1,(.t 19))]),zn (.st 3 (.agg [.id,.id,(.sl 3)]) (.t 2) (.t 20))]
def k0c:IC:=(.seq qbs0 (.seq (.seq qbu6 (.cond (.t 4) (.seq qbuw .ret) .skip)) (.seq qbt6 (.seq qbpy .ret))))
@[go_sem] def s0c:List (RV×Co):=[(.c true 3 2,(.agg [.id,.id,(.sl 3)]))]
theorem c0c:cFun Tryz.prog 22 = some (21,k0c,s0c):=by kernel_rfl

def qbql:IC:=zr [zv 2 (.mov (.c (.str [])))]
def qbtv:IC:=zr [zm 3 0,zv 4 (.bin .eql .ptr (.t 3) (.c .nilp))]
def qbqa:IC:=zr [zv 2 (.mov (.c (.str [])))]
def qbw3:IC:=zr [zm 5 0,zv 6 (.nck (.t 5)),zv 7 (zd 6 2),zv 8 (zg 1 7),zv 9 (.bin .add .no (.t 8) (zc 1)),zv 10 (.nck (.t 5)),zv 11 (zd 10 2),zn (.st 1 .id (.t 11) (.t 9))]
def qbum:IC:=zr [zm 12 0,zv 13 (.nck (.t 12)),zv 14 (zd 13 2),zv 15 (zg 1 14),zv 16 (.bin .sub .no (.t 15) (zc 1)),zi 17 (zk 52 [zI 16]),zv 18 (.bin .add .no (.c (.str [35])) (.t 17)),zm 2 18]
def k0d:IC:=(.seq qbql (.seq (.seq qbtv (.cond (.t 4) (.seq qbqa .ret) .skip)) (.seq qbw3 (.seq qbum .ret))))
@[go_sem] def s0d:List (RV×Co):=[(.t 2,.id)]
theorem c0d:cFun Tryz.prog 23 = some (19,k0d,s0d):=by kernel_rfl

def qbyc:IC:=zr [zi 2 (.box (.t 0)),zi 3 (.box (.t 1)),zv 4 zf]
def qbur:IC:=zr [zv 6 (zd 2 0),zv 7 (zg 1 6),zv 8 (.len false (.t 7)),zv 9 (zd 3 0),zv 10 (zg 1 9),zv 11 (.len false (.t 10)),zv 12 (.bin .neq .no (.t 8) (.t 11)),zm 13 12,zw 13 false 14 (zd 2 1),zw 13 false 15 (zl 3 14),zw 13 false 16 (zd 3 1),zw 13 false 17 (zl 3 16),zj 13 false 18 (zk 16 [((.t 15),(.agg [.id,.id,(.sl 3)])),((.t 17),(.agg [.id,.id,(.sl 3)]))]),zw 13 false 19 (.un .not (.t 18)),zv 20 (.pick (.t 13) (.c (.bool true)) (.t 19))]
def qbw5:IC:=zr [zv 4 zf]
def qbqh:IC:=zr [zv 5 (.mov (zc 0))]
def qbq1:IC:=zr [zm 21 5,zv 22 (zd 2 0),zv 23 (zg 1 22),zv 24 (.len false (.t 23)),zv 25 (.bin .lss .no (.t 21) (.t 24))]
def qbuk:IC:=.drw [zp (zv 28 (zd 2 0)),zp (zv 29 (zg 1 28)),zp (zm 30 5),zp (zv 31 (.iad 1 (.t 29) (.t 30))),zp (zv 32 (zg 1 31)),zp (zv 33 (zd 3 0)),zp (zv 34 (zg 1 33)),zp (zm 35 5),zp (zv 36 (.iad 1 (.t 34) (.t 35))),zp (zv 37 (zg 1 36)),zp (zv 38 (.bin .neq .no (.t 32) (.t 37)))]
def qbq4:IC:=zr [zv 4 zf]
def qbvv:IC:=zr [zm 26 5,zv 27 (.bin .add .no (.t 26) (zc 1)),zm 5 27]
def qbtl:IC:=(.seq (.seq qbq1 (.cond (.t 25) .skip (.exit 0))) (.seq (.block 1 (.seq qbuk (.cond (.t 38) (.seq qbq4 .ret) .skip))) qbvv))
def qbjb:IC:=zr [zv 4 (.mov (.c (.bool true)))]
def k0o:IC:=(.seq qbyc (.seq (.seq qbur (.cond (.t 20) (.seq qbw5 .ret) .skip)) (.seq (.seq qbqh (.block 0 (.loop qbtl))) (.seq qbjb .ret))))
@[go_sem] def s0o:List (RV×Co):=[(.t 4,.id)]
theorem c0o:cFun Tryz.prog 24 = some (39,k0o,s0o):=by kernel_rfl

def qby2:IC:=zr [zi 4 (.box (.t 1)),zv 6 (.mov (zc 0))]
def qbpx:IC:=zr [zm 8 0,zv 9 (.bin .eql .ptr (.t 8) (.c .nilp))]
def qbrv:IC:=zr [zv 6 (.mov (zc 0))]
def qbp6:IC:=zr [zm 10 0,zi 11 (zk 26 [zI 10]),zm 7 11]
def q8f:IC:=.drw [zp (zm 12 0),zp (zm 13 0),zp (zv 14 (.nck (.t 13))),zp (zv 15 (zd 14 5)),zp (zv 16 (zg 1 15)),zp (zm 17 0),zp (zv 18 (.nck (.t 17))),zp (zv 19 (zd 18 5)),zp (zv 20 (zg 1 19)),zp (zv 21 (.len false (.t 20))),zp (zm 22 0),zp (zv 23 (.nck (.t 22))),zp (zv 24 (zd 23 5)),zp (zv 25 (zg 1 24)),zp (zv 26 (.len false (.t 25))),zp (zv 27 (.slv 6 (.t 16) none (some (.t 21)) (some (.t 26)))),zp (zv 28 (zl 4 4)),zp (zm 29 2),zp (zm 30 7),(zv 31 (.bld [(.str []),(.str []),(.int .i64 0),.nils,(.int .i64 0),(.int .i64 0)] [(0,4,(.t 28)),(4,1,(.t 29)),(5,1,(.t 30))]),[]),(zv 32 (.bsl 6 [((.t 31),(.agg [.id,.id,.id,(.sl 3),.id,.id]))]),[]),(zi 33 (.app 6 (.agg [(.str []),(.str []),(.int .i64 0),.nils,(.int .i64 0),(.int .i64 0)]) 80 (.sl 6) (.t 27) (.t 32)),[]),zp (zv 34 (.nck (.t 12))),zp (zv 35 (zd 34 5)),(zn (.st 1 (.sl 6) (.t 35) (.t 33)),[])]
def q8x:IC:=zr [zm 36 7,zm 6 36]
def k0i:IC:=(.seq qby2 (.seq (.seq qbpx (.cond (.t 9) (.seq qbrv .ret) .skip)) (.seq qbp6 (.seq q8f (.seq q8x .ret)))))
@[go_sem] def s0i:List (RV×Co):=[(.t 6,.id)]
theorem c0i:cFun Tryz.prog 25 = some (37,k0i,s0i):=by kernel_rfl

def qbtf:IC:=zr [zv 2 (.mov (zc 0))]
def qbvj:IC:=zr [zm 3 0,zv 4 (.bin .eql .ptr (.t 3) (.c .nilp))]
def qbrs:IC:=zr [zv 2 (.mov (zc 0))]
def qbwf:IC:=zr [zm 5 0,zv 6 (.nck (.t 5)),zv 7 (zd 6 3),zv 8 (zg 1 7),zv 9 (.bin .add .no (.t 8) (zc 1)),zv 10 (.nck (.t 5)),zv 11 (zd 10 3),zn (.st 1 .id (.t 11) (.t 9))]
def qbrz:IC:=.drw [zp (zm 12 0),zp (zv 13 (.nck (.t 12))),zp (zv 14 (zd 13 7)),zp (zv 15 (zg 1 14)),zp (zm 16 0),zp (zv 17 (.nck (.t 16))),zp (zv 18 (zd 17 3)),zp (zv 19 (zg 1 18)),zp (zv 20 (.bin .sub .no (.t 19) (zc 1))),(zn (.call (.c (.eptr 95 [] 3 0)) [zI 15,zI 20,((zc 1),.id)]),[])]
def qbus:IC:=zr [zm 21 0,zv 22 (.nck (.t 21)),zv 23 (zd 22 3),zv 24 (zg 1 23),zv 25 (.bin .sub .no (.t 24) (zc 1)),zm 2 25]
def k0j:IC:=(.seq qbtf (.seq (.seq qbvj (.cond (.t 4) (.seq qbrs .ret) .skip)) (.seq qbwf (.seq qbrz (.seq qbus .ret)))))
@[go_sem] def s0j:List (RV×Co):=[(.t 2,.id)]
theorem c0j:cFun Tryz.prog 26 = some (26,k0j,s0j):=by kernel_rfl

def qbxb:IC:=zr [zv 4 (.mov (.c .nils))]
def qbrn:IC:=zr [zm 10 0,zv 11 (.bin .eql .ptr (.t 10) (.c .nilp))]
def qbtt:IC:=zr [zv 4 (.mov (.c .nils))]
def qbqs:IC:=zr [zv 5 (.mov (.c .nils))]
def qbvb:IC:=.drw [zp (zm 12 0),zp (zv 13 (.nck (.t 12))),zp (zv 14 (zd 13 5)),zp (zv 15 (zg 1 14)),zp (zm 16 1),zp (zv 17 (.mm true (.t 16) (zc 0))),zp (zm 18 0),zp (zv 19 (.nck (.t 18))),zp (zv 20 (zd 19 5)),zp (zv 21 (zg 1 20)),zp (zv 22 (.len false (.t 21))),zp (zv 23 (.mm false (.t 17) (.t 22))),zp (zv 24 (.slv 6 (.t 15) (some (.t 23)) none none)),zp (zv 25 (.len false (.t 24))),zp (zv 26 (.mov (zc 0)))]
def qbya:IC:=zr [zv 27 (.bin .lss .no (.t 26) (.t 25))]
def qbvy:IC:=zr [zv 28 (.iad 6 (.t 24) (.t 26)),zv 29 (zl 6 28),zi 7 (.alo [(.str []),(.str []),(.int .i64 0),.nils,(.int .i64 0),(.int .i64 0)]),zn (.st 6 (.agg [.id,.id,.id,(.sl 3),.id,.id]) (.t 7) (.t 29))]
def qbqm:IC:=.drw [zp (zm 31 0),zp (zv 32 (.nck (.t 31))),zp (zv 33 (zd 32 4)),zp (zv 34 (zg 1 33)),zp (zv 35 (zd 7 0)),zp (zv 36 (zd 35 1)),zp (zv 37 (zl 3 36)),(zi 38 (zk 53 [zI 34,((.t 37),(.agg [.id,.id,(.sl 3)]))]),[]),zp (zm 30 38),zp (zv 39 (zx 30 0)),zp (zv 40 (zx 30 1)),(zi 8 (.alo [(.str []),(.int .i64 0),.nils]),[3,6,7]),(zn (.st 3 (.agg [.id,.id,(.sl 3)]) (.t 8) (.t 39)),[]),zp (zm 9 40)]
def qbvp:IC:=zr [zm 41 9,zv 42 (zq (.t 41) (zc 0))]
def qbot:IC:=zr [zv 43 (zl 3 8),zv 44 (zd 7 0),zv 45 (zd 44 1),zn (.st 3 (.agg [.id,.id,(.sl 3)]) (.t 45) (.t 43))]
def q92:IC:=zr [zm 46 5,zv 47 (zl 6 7),zv 48 (.bsl 6 [((.t 47),(.agg [.id,.id,.id,(.sl 3),.id,.id]))]),zi 49 (.app 6 (.agg [(.str []),(.str []),(.int .i64 0),.nils,(.int .i64 0),(.int .i64 0)]) 80 (.sl 6) (.t 46) (.t 48)),zm 5 49]
def q9n:IC:=zr [zv 50 (.bin .add .no (.t 26) (zc 1)),zm 26 50]
def qby4:IC:=(.seq qbya (.seq (.cond (.t 27) .skip (.exit 0)) (.seq (.block 1 (.seq qbvy (.seq (.seq qbqm (.seq qbvp (.cond (.t 42) qbot .skip))) q92))) q9n)))
def q86:IC:=zr [zm 51 5,zm 4 51]
def k0k:IC:=(.seq qbxb (.seq (.seq qbrn (.cond (.t 11) (.seq qbtt .ret) .skip)) (.seq qbqs (.seq (.seq qbvb (.block 0 (.loop qby4))) (.seq q86 .ret)))))
@[go_sem] def s0k:List (RV×Co):=[(.t 4,(.sl 6))]
theorem c0k:cFun Tryz.prog 27 = some (52,k0k,s0k):=by kernel_rfl

def qbsa:IC:=zr [zi 5 (.box (.t 2)),zv 6 (.mov (zc 0))]
def qbqz:IC:=zr [zm 7 0,zv 8 (.bin .eql .ptr (.t 7) (.c .nilp)),zm 9 8,zw 9 false 10 (zo 1),zw 9 false 11 (.bin .lss .no (.t 10) (zc 0)),zv 12 (.pick (.t 9) (.c (.bool true)) (.t 11)),zm 13 12,zw 13 false 14 (zo 1),zw 13 false 15 (zo 0),zw 13 false 16 (.nck (.t 15)),zw 13 false 17 (zd 16 3),zw 13 false 18 (zg 1 17),zw 13 false 19 (.bin .geq .no (.t 14) (.t 18)),zv 20 (.pick (.t 13) (.c (.bool true)) (.t 19)),zm 21 20,zw 21 false 22 (zl 6 5),zj 21 false 23 (zk 54 [((.t 22),(.agg [.id,.id,.id,(.sl 1),(.sl 3),(.sl 6)]))]),zw 21 false 24 (.un .not (.t 23)),zv 25 (.pick (.t 21) (.c (.bool true)) (.t 24)),zm 26 25,zw 26 false 27 (zl 6 5),zw 26 false 28 (zo 1),zw 26 false 29 (.bin .add .no (.t 28) (zc 1)),zj 26 false 30 (zk 55 [((.t 27),(.agg [.id,.id,.id,(.sl 1),(.sl 3),(.sl 6)])),zI 29]),zw 26 false 31 (zo 1),zw 26 false 32 (.bin .leq .no (.t 30) (.t 31)),zv 33 (.pick (.t 26) (.c (.bool true)) (.t 32))]
def qbrt:IC:=zr [zv 6 (.mov (zc 1))]
def qbvx:IC:=zr [zm 34 0,zv 35 (.nck (.t 34)),zv 36 (zd 35 7),zv 37 (zg 1 36),zm 38 1,zi 39 (.call (.c (.eptr 95 [] 1 0)) [zI 37,zI 38]),zv 40 (zq (.t 39) (zc 0))]
def qbxm:IC:=zr [zv 6 (.mov (zc 6))]
def qbxw:IC:=zr [zm 41 0,zv 42 (.nck (.t 41)),zv 43 (zd 42 7),zv 44 (zg 1 43),zm 45 1,zn (.call (.c (.eptr 95 [] 4 0)) [zI 44,zI 45])]
def qbv3:IC:=.drw [zp (zm 46 0),zp (zv 47 (.nck (.t 46))),zp (zv 48 (zd 47 6)),zp (zv 49 (zg 1 48)),zp (zm 50 1),zp (zv 51 (zl 6 5)),(zn (.call (.c (.eptr 94 [] 3 0)) [zI 49,zI 50,((.t 51),(.agg [.id,.id,.id,(.sl 1),(.sl 3),(.sl 6)]))]),[])]
def qbvh:IC:=zr [zv 6 (.mov (zc 0))]
def k0l:IC:=(.seq qbsa (.seq (.seq qbqz (.cond (.t 33) (.seq qbrt .ret) .skip)) (.seq (.seq qbvx (.cond (.t 40) (.seq qbxm .ret) .skip)) (.seq qbxw (.seq qbv3 (.seq qbvh .ret))))))
@[go_sem] def s0l:List (RV×Co):=[(.t 6,.id)]
theorem c0l:cFun Tryz.prog 28 = some (52,k0l,s0l):=by kernel_rfl

def qbw6:IC:=zr [zi 2 (.box (.t 0)),zi 3 (.box (.t 1)),zv 4 zf]
def qbp3:IC:=zr [zv 7 (zd 2 0),zv 8 (zg 1 7),zv 9 (zd 3 0),zv 10 (zg 1 9),zv 11 (.bin .neq .no (.t 8) (.t 10)),zm 12 11,zw 12 false 13 (zd 2 1),zw 12 false 14 (zg 1 13),zw 12 false 15 (zd 3 1),zw 12 false 16 (zg 1 15),zw 12 false 17 (.bin .neq .no (.t 14) (.t 16)),zv 18 (.pick (.t 12) (.c (.bool true)) (.t 17)),zm 19 18,zw 19 false 20 (zd 2 2),zw 19 false 21 (zg 1 20),zw 19 false 22 (zd 3 2),zw 19 false 23 (zg 1 22),zw 19 false 24 (.bin .neq .no (.t 21) (.t 23)),zv 25 (.pick (.t 19) (.c (.bool true)) (.t 24)),zm 26 25,zw 26 false 27 (zd 2 3),zw 26 false 28 (zg 1 27),zw 26 false 29 (.len false (.t 28)),zw 26 false 30 (zd 3 3),zw 26 false 31 (zg 1 30),zw 26 false 32 (.len false (.t 31)),zw 26 false 33 (.bin .neq .no (.t 29) (.t 32)),zv 34 (.pick (.t 26) (.c (.bool true)) (.t 33)),zm 35 34,zw 35 false 36 (zd 2 5),zw 35 false 37 (zg 1 36),zw 35 false 38 (.len false (.t 37)),zw 35 false 39 (zd 3 5),zw 35 false 40 (zg 1 39),zw 35 false 41 (.len false (.t 40)),zw 35 false 42 (.bin .neq .no (.t 38) (.t 41)),zv 43 (.pick (.t 35) (.c (.bool true)) (.t 42)),zm 44 43,zw 44 false 45 (zd 2 4),zw 44 false 46 (zg 1 45),zw 44 false 47 (zd 3 4),zw 44 false 48 (zg 1 47),zj 44 false 49 (zk 56 [((.t 46),(.sl 3)),((.t 48),(.sl 3))]),zw 44 false 50 (.un .not (.t 49)),zv 51 (.pick (.t 44) (.c (.bool true)) (.t 50))]
def qbq3:IC:=zr [zv 4 zf]
def qbx3:IC:=zr [zv 5 (.mov (zc 0))]
def qbyl:IC:=zr [zm 52 5,zv 53 (zd 2 3),zv 54 (zg 1 53),zv 55 (.len false (.t 54)),zv 56 (.bin .lss .no (.t 52) (.t 55))]
def qbul:IC:=.drw [zp (zv 59 (zd 2 3)),zp (zv 60 (zg 1 59)),zp (zm 61 5),zp (zv 62 (.iad 1 (.t 60) (.t 61))),zp (zv 63 (zg 1 62)),zp (zv 64 (zd 3 3)),zp (zv 65 (zg 1 64)),zp (zm 66 5),zp (zv 67 (.iad 1 (.t 65) (.t 66))),zp (zv 68 (zg 1 67)),zp (zv 69 (.bin .neq .no (.t 63) (.t 68)))]
def qbws:IC:=zr [zv 4 zf]
def qbyh:IC:=zr [zm 57 5,zv 58 (.bin .add .no (.t 57) (zc 1)),zm 5 58]
def qbt4:IC:=(.seq (.seq qbyl (.cond (.t 56) .skip (.exit 0))) (.seq (.block 1 (.seq qbul (.cond (.t 69) (.seq qbws .ret) .skip))) qbyh))
def qblf:IC:=zr [zv 6 (.mov (zc 0))]
def q9h:IC:=zr [zm 70 6,zv 71 (zd 2 5),zv 72 (zg 1 71),zv 73 (.len false (.t 72)),zv 74 (.bin .lss .no (.t 70) (.t 73))]
def qbbu:IC:=.drw [zp (zv 77 (zd 2 5)),zp (zv 78 (zg 1 77)),zp (zm 79 6),zp (zv 80 (.iad 6 (.t 78) (.t 79))),zp (zv 81 (zl 6 80)),zp (zv 82 (zd 3 5)),zp (zv 83 (zg 1 82)),zp (zm 84 6),zp (zv 85 (.iad 6 (.t 83) (.t 84))),zp (zv 86 (zl 6 85)),(zi 87 (zk 29 [((.t 81),(.agg [.id,.id,.id,(.sl 1),(.sl 3),(.sl 6)])),((.t 86),(.agg [.id,.id,.id,(.sl 1),(.sl 3),(.sl 6)]))]),[]),zp (zv 88 (.un .not (.t 87)))]
def qbjm:IC:=zr [zv 4 zf]
def qbnm:IC:=zr [zm 75 6,zv 76 (.bin .add .no (.t 75) (zc 1)),zm 6 76]
def qbaw:IC:=(.seq (.seq q9h (.cond (.t 74) .skip (.exit 2))) (.seq (.block 3 (.seq qbbu (.cond (.t 88) (.seq qbjm .ret) .skip))) qbnm))
def qbbg:IC:=zr [zv 4 (.mov (.c (.bool true)))]
def k0q:IC:=(.seq qbw6 (.seq (.seq qbp3 (.cond (.t 51) (.seq qbq3 .ret) .skip)) (.seq (.seq qbx3 (.block 0 (.loop qbt4))) (.seq (.seq qblf (.block 2 (.loop qbaw))) (.seq qbbg .ret)))))
@[go_sem] def s0q:List (RV×Co):=[(.t 4,.id)]
theorem c0q:cFun Tryz.prog 29 = some (89,k0q,s0q):=by kernel_rfl

def qbxp:IC:=zr [zi 3 (.box (.t 1)),zi 4 (.alo [(.int .i64 0),(.int .i64 0),(.str []),.nils,.nils,.nils])]
def qbts:IC:=zr [zm 9 0,zv 10 (.bin .eql .ptr (.t 9) (.c .nilp)),zm 11 10,zw 11 false 12 (zl 6 3),zj 11 false 13 (zk 54 [((.t 12),(.agg [.id,.id,.id,(.sl 1),(.sl 3),(.sl 6)]))]),zw 11 false 14 (.un .not (.t 13)),zv 15 (.pick (.t 11) (.c (.bool true)) (.t 14))]
def qby1:IC:=zr [zv 16 (.bld [(.int .i64 0),(.int .i64 0),(.str []),.nils,.nils,.nils] []),zn (.st 6 (.agg [.id,.id,.id,(.sl 1),(.sl 3),(.sl 6)]) (.t 4) (.t 16))]
def qbr3:IC:=zr [zm 18 0,zi 19 (zk 50 [zI 18]),zm 17 19,zv 20 (zx 17 0),zv 21 (zx 17 1),zm 5 20,zm 6 21]
def qbu5:IC:=zr [zm 22 0,zm 23 5,zm 24 6,zv 25 (.bld [.nilp,.nils,.nils,(.int .i64 0)] [(0,1,(.t 22)),(1,1,(.t 23)),(2,1,(.t 24)),(3,1,(zc 4096))]),zi 26 (.box (.t 25)),zm 7 26]
def q8p:IC:=zr [zm 27 7,zv 28 (zl 6 3),zi 29 (zk 57 [zI 27,((.t 28),(.agg [.id,.id,.id,(.sl 1),(.sl 3),(.sl 6)]))]),zi 8 (.alo [(.int .i64 0),(.int .i64 0),(.str []),.nils,.nils,.nils]),zn (.st 6 (.agg [.id,.id,.id,(.sl 1),(.sl 3),(.sl 6)]) (.t 8) (.t 29))]
def q81:IC:=zr [zm 30 7,zv 31 (.nck (.t 30)),zv 32 (zd 31 3),zv 33 (zg 1 32),zv 34 (.bin .lss .no (.t 33) (zc 0)),zm 35 34,zw 35 false 36 (zl 6 8),zj 35 false 37 (zk 54 [((.t 36),(.agg [.id,.id,.id,(.sl 1),(.sl 3),(.sl 6)]))]),zw 35 false 38 (.un .not (.t 37)),zv 39 (.pick (.t 35) (.c (.bool true)) (.t 38))]
def qbvn:IC:=zr [zv 40 (.bld [(.int .i64 0),(.int .i64 0),(.str []),.nils,.nils,.nils] []),zn (.st 6 (.agg [.id,.id,.id,(.sl 1),(.sl 3),(.sl 6)]) (.t 4) (.t 40))]
def qbxk:IC:=zr [zv 41 (zl 6 8),zn (.st 6 (.agg [.id,.id,.id,(.sl 1),(.sl 3),(.sl 6)]) (.t 4) (.t 41))]
def k0m:IC:=(.seq qbxp (.seq (.seq qbts (.cond (.t 15) (.seq qby1 .ret) .skip)) (.seq qbr3 (.seq qbu5 (.seq q8p (.seq (.seq q81 (.cond (.t 39) (.seq qbvn .ret) .skip)) (.seq qbxk .ret)))))))
@[go_sem] def s0m:List (RV×Co):=[(.c true 6 4,(.agg [.id,.id,.id,(.sl 1),(.sl 3),(.sl 6)]))]
theorem c0m:cFun Tryz.prog 30 = some (42,k0m,s0m):=by kernel_rfl

def qbgy:IC:=zr [zi 1 (.box (.t 0)),zv 2 (.mov (.c (.str [])))]
def qbow:IC:=zr [zv 3 (zl 3 1),zi 4 (zk 67 [((.t 3),(.agg [.id,.id,(.sl 3)]))]),zv 5 (.un .not (.t 4))]
def qbbw:IC:=zr [zv 2 (.mov (.c (.str [])))]
def qbnn:IC:=zr [zv 6 (zl 3 1),zi 7 (zk 68 [((.t 6),(.agg [.id,.id,(.sl 3)]))]),zm 2 7]
def k0cu:IC:=(.seq qbgy (.seq (.seq qbow (.cond (.t 5) (.seq qbbw .ret) .skip)) (.seq qbnn .ret)))
@[go_sem] def s0cu:List (RV×Co):=[(.t 2,.id)]
theorem c0cu:cFun Tryz.prog 38 = some (8,k0cu,s0cu):=by kernel_rfl

def qbko:IC:=zr [zv 2 (.mov (.c .nilp))]
def q9x:IC:=zr [zv 6 (.bld [.nils] []),zi 7 (.box (.t 6)),zm 3 7]
def qbec:IC:=zr [zm 8 0,zv 9 (.len false (.t 8)),zv 10 (.mov (zc 0))]
def qbfn:IC:=zr [zv 11 (.bin .lss .no (.t 10) (.t 9))]
def qbl8:IC:=zr [zv 12 (.iad 4 (.t 8) (.t 10)),zv 13 (zl 4 12),zi 5 (.alo [(.int .i64 0),(.str []),(.int .i64 0),.nils]),zn (.st 4 (.agg [.id,.id,.id,(.sl 3)]) (.t 5) (.t 13))]
def qbet:IC:=zr [zm 14 3,zv 15 (zd 5 0),zv 16 (zg 1 15),zv 17 (zd 5 1),zv 18 (zl 3 17),zi 19 (zk 69 [zI 14,zI 16,((.t 18),(.agg [.id,.id,(.sl 3)]))])]
def qbdp:IC:=zr [zv 20 (.bin .add .no (.t 10) (zc 1)),zm 10 20]
def qbgu:IC:=(.seq qbfn (.seq (.cond (.t 11) .skip (.exit 0)) (.seq (.block 1 (.seq qbl8 qbet)) qbdp)))
def qbde:IC:=zr [zm 21 3,zm 2 21]
def k0di:IC:=(.seq qbko (.seq q9x (.seq (.seq qbec (.block 0 (.loop qbgu))) (.seq qbde .ret))))
@[go_sem] def s0di:List (RV×Co):=[(.t 2,.id)]
theorem c0di:cFun Tryz.prog 39 = some (22,k0di,s0di):=by kernel_rfl

def qbq7:IC:=zr [zi 4 (.box (.t 1)),zi 5 (.box (.t 2)),zv 6 (.mov (.c .nilp)),zv 7 (.mov (zc 0))]
def qbq0:IC:=zr [zm 13 0,zv 14 (zl 3 4),zi 15 (zk 53 [zI 13,((.t 14),(.agg [.id,.id,(.sl 3)]))]),zm 12 15,zv 16 (zx 12 0),zv 17 (zx 12 1),zi 8 (.alo [(.str []),(.int .i64 0),.nils]),zn (.st 3 (.agg [.id,.id,(.sl 3)]) (.t 8) (.t 16)),zm 9 17]
def qbw1:IC:=zr [zm 18 9,zv 19 (.bin .neq .no (.t 18) (zc 0))]
def qbsy:IC:=zr [zm 20 9,zv 6 (.mov (.c .nilp)),zm 7 20]
def qbqx:IC:=zr [zm 22 0,zv 23 (zl 3 5),zi 24 (zk 53 [zI 22,((.t 23),(.agg [.id,.id,(.sl 3)]))]),zm 21 24,zv 25 (zx 21 0),zv 26 (zx 21 1),zi 10 (.alo [(.str []),(.int .i64 0),.nils]),zn (.st 3 (.agg [.id,.id,(.sl 3)]) (.t 10) (.t 25)),zm 9 26]
def qbqp:IC:=zr [zm 27 9,zv 28 (.bin .neq .no (.t 27) (zc 0))]
def qbqb:IC:=zr [zm 29 9,zv 6 (.mov (.c .nilp)),zm 7 29]
def qbrc:IC:=zr [zv 31 (zl 3 8),zv 32 (zl 3 10),zi 33 (zk 70 [((.t 31),(.agg [.id,.id,(.sl 3)])),((.t 32),(.agg [.id,.id,(.sl 3)]))]),zm 30 33,zv 34 (zx 30 0),zv 35 (zx 30 1),zm 11 34,zm 9 35]
def qbx8:IC:=zr [zm 36 9,zv 37 (.bin .neq .no (.t 36) (zc 0))]
def qbx0:IC:=zr [zm 38 9,zv 6 (.mov (.c .nilp)),zm 7 38]
def qbl9:IC:=zr [zm 39 0,zm 40 11,zi 41 (zk 71 [zI 39,zI 40]),zv 42 (zx 41 0),zv 43 (zx 41 1),zm 6 42,zm 7 43]
def k0s:IC:=(.seq qbq7 (.seq qbq0 (.seq (.seq qbw1 (.cond (.t 19) (.seq qbsy .ret) .skip)) (.seq qbqx (.seq (.seq qbqp (.cond (.t 28) (.seq qbqb .ret) .skip)) (.seq qbrc (.seq (.seq qbx8 (.cond (.t 37) (.seq qbx0 .ret) .skip)) (.seq qbl9 .ret))))))))
@[go_sem] def s0s:List (RV×Co):=[(.t 6,.id),(.t 7,.id)]
theorem c0s:cFun Tryz.prog 40 = some (44,k0s,s0s):=by kernel_rfl

def qbsm:IC:=zr [zv 2 (.mov (.c .nils)),zv 3 (.mov (.c .nils))]
def qbrp:IC:=zr [zv 4 (.mov (.c .nils))]
def qbsk:IC:=zr [zv 5 (.mov (.c .nils))]
def qbyf:IC:=zr [zm 8 0,zv 9 (.nck (.t 8)),zv 10 (zd 9 4),zv 11 (zg 1 10),zi 12 (zk 81 [zI 11]),zv 13 (.len false (.t 12)),zv 14 (.mov (zc 0))]
def qbt8:IC:=zr [zv 15 (.bin .lss .no (.t 14) (.t 13))]
def qbt9:IC:=zr [zv 16 (.iad 4 (.t 12) (.t 14)),zv 17 (zl 4 16),zi 7 (.alo [(.int .i64 0),(.str []),(.int .i64 0),.nils]),zn (.st 4 (.agg [.id,.id,.id,(.sl 3)]) (.t 7) (.t 17))]
def qbx5:IC:=.drw [zp (zm 18 4),zp (zv 19 (zd 7 0)),zp (zv 20 (zg 1 19)),(zv 21 (.bsl 1 [zI 20]),[]),zp (zi 22 (.app 1 (.int .i64 0) 8 (.sl 1) (.t 18) (.t 21))),zp (zm 23 5),zp (zv 24 (zd 7 1)),(zv 25 (zl 3 24),[4]),(zv 26 (.bsl 3 [((.t 25),(.agg [.id,.id,(.sl 3)]))]),[4]),(zi 27 (.app 3 (.agg [(.str []),(.int .i64 0),.nils]) 48 (.sl 3) (.t 23) (.t 26)),[]),zp (zm 4 22),zp (zm 5 27)]
def qbyq:IC:=zr [zv 28 (.bin .add .no (.t 14) (zc 1)),zm 14 28]
def qbr2:IC:=(.seq qbt8 (.seq (.cond (.t 15) .skip (.exit 0)) (.seq (.block 1 (.seq qbt9 qbx5)) qbyq)))
def qbfq:IC:=zr [zm 29 4,zm 30 5,zm 2 29,zm 3 30]
def k0u:IC:=(.seq qbsm (.seq qbrp (.seq qbsk (.seq (.seq qbyf (.block 0 (.loop qbr2))) (.seq qbfq .ret)))))
@[go_sem] def s0u:List (RV×Co):=[(.t 2,(.sl 1)),(.t 3,(.sl 3))]
theorem c0u:cFun Tryz.prog 50 = some (31,k0u,s0u):=by kernel_rfl

def qbc5:IC:=zr [zi 3 (.box (.t 0)),zi 6 (.alo [(.str []),(.int .i64 0),.nils]),zv 7 zf]
def q9d:IC:=zr [zv 9 (zl 3 3),zi 10 (zk 82 [((.t 9),(.agg [.id,.id,(.sl 3)]))]),zv 11 (.un .not (.t 10))]
def q9g:IC:=zr [zv 12 (.bld [(.str []),(.int .i64 0),.nils] []),zn (.st 3 (.agg [.id,.id,(.sl 3)]) (.t 6) (.t 12)),zv 7 zf]
def qbj4:IC:=zr [zv 13 (zl 3 3),zm 14 1,zm 15 2,zi 16 (zk 83 [((.t 13),(.agg [.id,.id,(.sl 3)])),((.t 14),(.sl 1)),((.t 15),(.sl 3))]),zi 8 (.alo [(.str []),(.int .i64 0),.nils]),zn (.st 3 (.agg [.id,.id,(.sl 3)]) (.t 8) (.t 16))]
def qbm6:IC:=.drw [zp (zv 17 (zl 3 8)),zp (zv 18 (zl 3 8)),(zi 19 (zk 82 [((.t 18),(.agg [.id,.id,(.sl 3)]))]),[0]),(zn (.st 3 (.agg [.id,.id,(.sl 3)]) (.t 6) (.t 17)),[]),zp (zm 7 19)]
def k0bp:IC:=(.seq qbc5 (.seq (.seq q9d (.cond (.t 11) (.seq q9g .ret) .skip)) (.seq qbj4 (.seq qbm6 .ret))))
@[go_sem] def s0bp:List (RV×Co):=[(.c true 3 6,(.agg [.id,.id,(.sl 3)])),(.t 7,.id)]
theorem c0bp:cFun Tryz.prog 51 = some (20,k0bp,s0bp):=by kernel_rfl

def qbm8:IC:=zr [zv 2 (.mov (.c (.str [])))]
def qbnj:IC:=zr [zm 6 0,zv 7 (.cvi .u64 (.t 6)),zm 3 7]
def qbax:IC:=zr [zm 8 0,zv 9 (.bin .lss .no (.t 8) (zc 0))]
def qbkg:IC:=zr [zm 10 3,zv 11 (.un .neg (.t 10)),zm 3 11]
def q99:IC:=zr [zi 4 (.alo [(.int .u8 0),(.int .u8 0),(.int .u8 0),(.int .u8 0),(.int .u8 0),(.int .u8 0),(.int .u8 0),(.int .u8 0),(.int .u8 0),(.int .u8 0),(.int .u8 0),(.int .u8 0),(.int .u8 0),(.int .u8 0),(.int .u8 0),(.int .u8 0),(.int .u8 0),(.int .u8 0),(.int .u8 0),(.int .u8 0)])]
def qbga:IC:=zr [zv 5 (.mov (zc 20))]
def qbdz:IC:=zr [zm 12 5,zv 13 (.bin .sub .no (.t 12) (zc 1)),zm 5 13]
def qbbk:IC:=zr [zm 14 5,zm 15 3,zv 16 (.bin .rem .no (.t 15) (.c (.int .u64 10))),zv 17 (.bin .add .no (.c (.int .u64 48)) (.t 16)),zv 18 (.cvi .u8 (.t 17)),zv 19 (.aad 1 20 (.t 4) (.t 14)),zn (.st 1 .id (.t 19) (.t 18))]
def qbi7:IC:=zr [zm 20 3,zv 21 (.bin .quo .no (.t 20) (.c (.int .u64 10))),zm 3 21]
def q7x:IC:=zr [zm 22 3,zv 23 (zq (.t 22) (.c (.int .u64 0)))]
def qbfe:IC:=(.block 1 (.seq qbdz (.seq qbbk (.seq qbi7 (.seq q7x (.cond (.t 23) (.exit 0) .skip))))))
def q6f:IC:=zr [zm 24 0,zv 25 (.bin .lss .no (.t 24) (zc 0))]
def q2r:IC:=zr [zm 26 5,zv 27 (.sla 20 (.t 4) (.t 26)),zv 28 (.cbs (.t 27)),zv 29 (.bin .add .no (.c (.str [45])) (.t 28)),zm 2 29]
def q5x:IC:=zr [zm 30 5,zv 31 (.sla 20 (.t 4) (.t 30)),zv 32 (.cbs (.t 31)),zm 2 32]
def k0co:IC:=(.seq qbm8 (.seq qbnj (.seq (.seq qbax (.cond (.t 9) qbkg .skip)) (.seq q99 (.seq qbga (.seq (.block 0 (.loop qbfe)) (.seq (.seq q6f (.cond (.t 25) (.seq q2r .ret) .skip)) (.seq q5x .ret))))))))
@[go_sem] def s0co:List (RV×Co):=[(.t 2,.id)]
theorem c0co:cFun Tryz.prog 52 = some (33,k0co,s0co):=by kernel_rfl

def qbeb:IC:=zr [zi 3 (.box (.t 1)),zi 4 (.alo [(.str []),(.int .i64 0),.nils]),zv 5 (.mov (zc 0))]
def qba4:IC:=zr [zv 8 (zl 3 3),zi 9 (zk 67 [((.t 8),(.agg [.id,.id,(.sl 3)]))]),zv 10 (.un .not (.t 9))]
def q87:IC:=zr [zv 11 (.bld [(.str []),(.int .i64 0),.nils] []),zn (.st 3 (.agg [.id,.id,(.sl 3)]) (.t 4) (.t 11)),zv 5 (.mov (zc 1))]
def qbis:IC:=zr [zm 12 0,zv 13 (.bld [.nilp,(.int .i64 0)] [(0,1,(.t 12)),(1,1,(zc 4096))]),zi 14 (.box (.t 13)),zm 6 14]
def qbhf:IC:=zr [zm 15 6,zv 16 (zl 3 3),zi 17 (zk 84 [zI 15,((.t 16),(.agg [.id,.id,(.sl 3)])),((zc 1),.id)]),zi 7 (.alo [(.str []),(.int .i64 0),.nils]),zn (.st 3 (.agg [.id,.id,(.sl 3)]) (.t 7) (.t 17))]
def qbo8:IC:=zr [zm 18 6,zv 19 (.nck (.t 18)),zv 20 (zd 19 1),zv 21 (zg 1 20),zv 22 (.bin .lss .no (.t 21) (zc 0))]
def qbm5:IC:=zr [zv 23 (.bld [(.str []),(.int .i64 0),.nils] []),zn (.st 3 (.agg [.id,.id,(.sl 3)]) (.t 4) (.t 23)),zv 5 (.mov (zc 2))]
def qbkq:IC:=zr [zv 24 (zl 3 7),zn (.st 3 (.agg [.id,.id,(.sl 3)]) (.t 4) (.t 24)),zv 5 (.mov (zc 0))]
def k0dh:IC:=(.seq qbeb (.seq (.seq qba4 (.cond (.t 10) (.seq q87 .ret) .skip)) (.seq qbis (.seq qbhf (.seq (.seq qbo8 (.cond (.t 22) (.seq qbm5 .ret) .skip)) (.seq qbkq .ret))))))
@[go_sem] def s0dh:List (RV×Co):=[(.c true 3 4,(.agg [.id,.id,(.sl 3)])),(.t 5,.id)]
theorem c0dh:cFun Tryz.prog 53 = some (25,k0dh,s0dh):=by kernel_rfl

def qbut:IC:=zr [zi 1 (.box (.t 0)),zi 2 (.alo [(.bool false)])]
def qbyx:IC:=zr [zi 3 (.alo [(.int .i64 0)]),zn (.st 1 .id (.t 3) (zc 0))]
def qbw2:IC:=zr [zv 5 (zl 6 1),zi 6 (zk 85 [((.t 5),(.agg [.id,.id,.id,(.sl 1),(.sl 3),(.sl 6)]))])]
def qbvr:IC:=zr [zv 9 (zg 1 3),zv 10 (.bin .add .no (.t 9) (zc 1)),zn (.st 1 .id (.t 3) (.t 10))]
def qbu7:IC:=zr [zv 11 (zg 1 3),zv 12 (.bin .gtr .no (.t 11) (zc 4096)),zm 13 12,zw 13 false 14 (zo 4),zw 13 false 15 (.bin .gtr .no (.t 14) (zc 400)),zv 16 (.pick (.t 13) (.c (.bool true)) (.t 15))]
def qbqt:IC:=zr [zn (.st 1 .id (.t 2) (.c (.bool false)))]
def q8i:IC:=(.block 1 (.seq qbvr (.seq qbu7 (.cond (.t 16) (.seq qbqt .ret) .skip))))
def q80:IC:=zr [zm 4 7]
def qbx2:IC:=zr [zv 17 (zl 6 1),zi 18 (zk 86 [((.t 17),(.agg [.id,.id,.id,(.sl 1),(.sl 3),(.sl 6)]))]),zn (.st 1 .id (.t 2) (.t 18))]
def k0x:IC:=(.seq qbut (.seq qbyx (.seq (.seq qbw2 (.block 0 (.rng (.t 6) [7,8] q80 q8i))) (.seq qbx2 .ret))))
@[go_sem] def s0x:List (RV×Co):=[(.c false 1 2,.id)]
theorem c0x:cFun Tryz.prog 54 = some (19,k0x,s0x):=by kernel_rfl

def qbtc:IC:=zr [zi 2 (.box (.t 0)),zv 4 (.mov (zc 0))]
def qbyi:IC:=zr [zv 7 (zd 2 0),zv 8 (zg 1 7),zv 9 (zq (.t 8) (zc 14))]
def qbyk:IC:=zr [zv 10 (zd 2 1),zv 11 (zg 1 10),zm 12 1,zv 13 (.mm false (.t 11) (.t 12)),zm 4 13]
def qbwc:IC:=zr [zv 14 (zd 2 5),zv 15 (zg 1 14),zv 16 (.len false (.t 15)),zv 17 (.mov (zc 0))]
def qbqw:IC:=zr [zv 18 (.bin .lss .no (.t 17) (.t 16))]
def qbxg:IC:=zr [zv 19 (.iad 6 (.t 15) (.t 17)),zv 20 (zl 6 19),zi 6 (.alo [(.int .i64 0),(.int .i64 0),(.str []),.nils,.nils,.nils]),zn (.st 6 (.agg [.id,.id,.id,(.sl 1),(.sl 3),(.sl 6)]) (.t 6) (.t 20))]
def qbwo:IC:=zr [zv 21 (zl 6 6),zm 22 1,zi 23 (zk 55 [((.t 21),(.agg [.id,.id,.id,(.sl 1),(.sl 3),(.sl 6)])),zI 22]),zm 1 23]
def qbwp:IC:=zr [zv 24 (.bin .add .no (.t 17) (zc 1)),zm 17 24]
def qbpz:IC:=(.seq qbqw (.seq (.cond (.t 18) .skip (.exit 0)) (.seq (.block 1 (.seq qbxg qbwo)) qbwp)))
def qbh0:IC:=zr [zm 25 1,zm 4 25]
def k0y:IC:=(.seq qbtc (.seq (.seq qbyi (.cond (.t 9) (.seq qbyk .ret) .skip)) (.seq (.seq qbwc (.block 0 (.loop qbpz))) (.seq qbh0 .ret))))
@[go_sem] def s0y:List (RV×Co):=[(.t 4,.id)]
theorem c0y:cFun Tryz.prog 55 = some (26,k0y,s0y):=by kernel_rfl

def qbv4:IC:=zr [zv 4 zf]
def qbr6:IC:=zr [zm 6 0,zv 7 (.len false (.t 6)),zm 8 1,zv 9 (.len false (.t 8)),zv 10 (.bin .neq .no (.t 7) (.t 9))]
def qbrw:IC:=zr [zv 4 zf]
def qbsl:IC:=zr [zv 5 (.mov (zc 0))]
def qbuf:IC:=zr [zm 11 5,zm 12 0,zv 13 (.len false (.t 12)),zv 14 (.bin .lss .no (.t 11) (.t 13))]
def qbwi:IC:=.drw [zp (zm 17 0),zp (zm 18 5),zp (zv 19 (.iad 3 (.t 17) (.t 18))),zp (zv 20 (zl 3 19)),zp (zm 21 1),zp (zm 22 5),zp (zv 23 (.iad 3 (.t 21) (.t 22))),zp (zv 24 (zl 3 23)),(zi 25 (zk 16 [((.t 20),(.agg [.id,.id,(.sl 3)])),((.t 24),(.agg [.id,.id,(.sl 3)]))]),[]),zp (zv 26 (.un .not (.t 25)))]
def qbwq:IC:=zr [zv 4 zf]
def qbxv:IC:=zr [zm 15 5,zv 16 (.bin .add .no (.t 15) (zc 1)),zm 5 16]
def qbyu:IC:=(.seq (.seq qbuf (.cond (.t 14) .skip (.exit 0))) (.seq (.block 1 (.seq qbwi (.cond (.t 26) (.seq qbwq .ret) .skip))) qbxv))
def qbeq:IC:=zr [zv 4 (.mov (.c (.bool true)))]
def k0p:IC:=(.seq qbv4 (.seq (.seq qbr6 (.cond (.t 10) (.seq qbrw .ret) .skip)) (.seq (.seq qbsl (.block 0 (.loop qbyu))) (.seq qbeq .ret))))
@[go_sem] def s0p:List (RV×Co):=[(.t 4,.id)]
theorem c0p:cFun Tryz.prog 56 = some (27,k0p,s0p):=by kernel_rfl

def qbyp:IC:=zr [zi 3 (.box (.t 1)),zi 4 (.alo [(.int .i64 0),(.int .i64 0),(.str []),.nils,.nils,.nils])]
def qbxh:IC:=zr [zv 15 (zd 3 0),zv 16 (zg 1 15),zv 17 (zq (.t 16) (zc 14))]
def qbst:IC:=.drw [zp (zm 19 0),zp (zv 20 (.nck (.t 19))),zp (zv 21 (zd 20 0)),zp (zv 22 (zg 1 21)),zp (zv 23 (.nck (.t 22))),zp (zv 24 (zd 23 6)),zp (zv 25 (zg 1 24)),zp (zv 26 (zd 3 1)),zp (zv 27 (zg 1 26)),(zi 28 (.call (.c (.eptr 94 [] 2 0)) [zI 25,zI 27]),[]),zp (zm 18 28),zp (zv 29 (zx 18 0)),zp (zv 30 (zx 18 1)),(zi 5 (.alo [(.int .i64 0),(.int .i64 0),(.str []),.nils,.nils,.nils]),[3,6,8,9]),(zn (.st 6 (.agg [.id,.id,.id,(.sl 1),(.sl 3),(.sl 6)]) (.t 5) (.t 29)),[]),zp (zm 6 30)]
def qbuv:IC:=zr [zm 31 6]
def qbsh:IC:=zr [zm 32 0,zv 33 (zl 6 5),zi 34 (zk 57 [zI 32,((.t 33),(.agg [.id,.id,.id,(.sl 1),(.sl 3),(.sl 6)]))]),zn (.st 6 (.agg [.id,.id,.id,(.sl 1),(.sl 3),(.sl 6)]) (.t 4) (.t 34))]
def qbr5:IC:=zr [zm 35 0,zv 36 (.nck (.t 35)),zv 37 (zd 36 3),zv 38 (zg 1 37),zv 39 (.bin .sub .no (.t 38) (zc 1)),zv 40 (.nck (.t 35)),zv 41 (zd 40 3),zn (.st 1 .id (.t 41) (.t 39))]
def qbqc:IC:=zr [zm 42 0,zv 43 (.nck (.t 42)),zv 44 (zd 43 3),zv 45 (zg 1 44),zv 46 (.bin .lss .no (.t 45) (zc 0))]
def qbqe:IC:=zr [zv 47 (zl 6 3),zn (.st 6 (.agg [.id,.id,.id,(.sl 1),(.sl 3),(.sl 6)]) (.t 4) (.t 47))]
def qbwa:IC:=zr [zv 48 (zd 3 4),zv 49 (zg 1 48),zv 50 (.len false (.t 49)),zi 51 (.mks 3 (.agg [(.str []),(.int .i64 0),.nils]) 48 (.t 50) (.t 50)),zm 7 51]
def qbp4:IC:=zr [zv 52 (zd 3 4),zv 53 (zg 1 52),zv 54 (.len false (.t 53)),zv 55 (.mov (zc 0))]
def qbos:IC:=zr [zv 56 (.bin .lss .no (.t 55) (.t 54))]
def qbl3:IC:=zr [zm 57 55,zv 58 (.iad 3 (.t 53) (.t 55)),zv 59 (zl 3 58),zi 9 (.alo [(.str []),(.int .i64 0),.nils]),zm 8 57,zn (.st 3 (.agg [.id,.id,(.sl 3)]) (.t 9) (.t 59))]
def qbg3:IC:=.drw [zp (zv 61 (zl 3 9)),zp (zm 62 0),zp (zv 63 (.nck (.t 62))),zp (zv 64 (zd 63 1)),zp (zv 65 (zg 1 64)),zp (zm 66 0),zp (zv 67 (.nck (.t 66))),zp (zv 68 (zd 67 2)),zp (zv 69 (zg 1 68)),(zi 70 (zk 51 [((.t 61),(.agg [.id,.id,(.sl 3)])),((.t 65),(.sl 1)),((.t 69),(.sl 3))]),[]),zp (zm 60 70),zp (zv 71 (zx 60 0)),zp (zv 72 (zx 60 1)),(zi 10 (.alo [(.str []),(.int .i64 0),.nils]),[0,4,8,9]),(zn (.st 3 (.agg [.id,.id,(.sl 3)]) (.t 10) (.t 71)),[]),zp (zm 11 72)]
def qbkw:IC:=zr [zm 73 11,zv 74 (.un .not (.t 73))]
def q9a:IC:=zr [zv 75 (zl 3 9),zn (.st 3 (.agg [.id,.id,(.sl 3)]) (.t 10) (.t 75))]
def qbcc:IC:=zr [zm 76 7,zm 77 8,zv 78 (zl 3 10),zv 79 (.iad 3 (.t 76) (.t 77)),zn (.st 3 (.agg [.id,.id,(.sl 3)]) (.t 79) (.t 78))]
def qbfk:IC:=zr [zv 80 (.bin .add .no (.t 55) (zc 1)),zm 55 80]
def qbox:IC:=(.seq qbos (.seq (.cond (.t 56) .skip (.exit 0)) (.seq (.block 1 (.seq qbl3 (.seq qbg3 (.seq (.seq qbkw (.cond (.t 74) q9a .skip)) qbcc)))) qbfk)))
def qba1:IC:=zr [zv 81 (zd 3 5),zv 82 (zg 1 81),zv 83 (.len false (.t 82)),zi 84 (.mks 6 (.agg [(.int .i64 0),(.int .i64 0),(.str []),.nils,.nils,.nils]) 104 (.t 83) (.t 83)),zm 12 84]
def qba9:IC:=zr [zv 85 (zd 3 5),zv 86 (zg 1 85),zv 87 (.len false (.t 86)),zv 88 (.mov (zc 0))]
def qbh7:IC:=zr [zv 89 (.bin .lss .no (.t 88) (.t 87))]
def q9p:IC:=zr [zm 90 88,zv 91 (.iad 6 (.t 86) (.t 88)),zv 92 (zl 6 91),zi 14 (.alo [(.int .i64 0),(.int .i64 0),(.str []),.nils,.nils,.nils]),zm 13 90,zn (.st 6 (.agg [.id,.id,.id,(.sl 1),(.sl 3),(.sl 6)]) (.t 14) (.t 92))]
def q84:IC:=zr [zm 93 12,zm 94 13,zm 95 0,zv 96 (zl 6 14),zi 97 (zk 57 [zI 95,((.t 96),(.agg [.id,.id,.id,(.sl 1),(.sl 3),(.sl 6)]))]),zv 98 (.iad 6 (.t 93) (.t 94)),zn (.st 6 (.agg [.id,.id,.id,(.sl 1),(.sl 3),(.sl 6)]) (.t 98) (.t 97))]
def qbo4:IC:=zr [zv 99 (.bin .add .no (.t 88) (zc 1)),zm 88 99]
def qbnz:IC:=(.seq qbh7 (.seq (.cond (.t 89) .skip (.exit 2)) (.seq (.block 3 (.seq q9p q84)) qbo4)))
def qbgq:IC:=zr [zm 100 7,zm 101 12,zv 102 (zd 3 4),zn (.st 1 (.sl 3) (.t 102) (.t 100)),zv 103 (zd 3 5),zn (.st 1 (.sl 6) (.t 103) (.t 101))]
def qbjr:IC:=zr [zv 104 (zl 6 3),zn (.st 6 (.agg [.id,.id,.id,(.sl 1),(.sl 3),(.sl 6)]) (.t 4) (.t 104))]
def k0r:IC:=(.seq qbyp (.seq (.seq qbxh (.cond (.t 17) (.seq qbst (.seq qbuv (.cond (.t 31) (.seq qbsh .ret) .skip))) .skip)) (.seq (.seq qbr5 (.seq qbqc (.cond (.t 46) (.seq qbqe .ret) .skip))) (.seq qbwa (.seq (.seq qbp4 (.block 0 (.loop qbox))) (.seq qba1 (.seq (.seq qba9 (.block 2 (.loop qbnz))) (.seq qbgq (.seq qbjr .ret)))))))))
@[go_sem] def s0r:List (RV×Co):=[(.c true 6 4,(.agg [.id,.id,.id,(.sl 1),(.sl 3),(.sl 6)]))]
theorem c0r:cFun Tryz.prog 57 = some (105,k0r,s0r):=by kernel_rfl

def qbgl:IC:=zr [zi 1 (.box (.t 0)),zv 2 zf]
def qbc7:IC:=zr [zi 3 (.alo [(.int .i64 0)]),zn (.st 1 .id (.t 3) (zc 0))]
def qbns:IC:=zr [zv 4 (zl 3 1),zv 5 (.mfn 100 [] [(.t 3)]),zi 6 (zk 99 [((.t 4),(.agg [.id,.id,(.sl 3)])),((zc 1),.id),zI 5]),zm 2 6]
def k0cy:IC:=(.seq qbgl (.seq qbc7 (.seq qbns .ret)))
@[go_sem] def s0cy:List (RV×Co):=[(.t 2,.id)]
theorem c0cy:cFun Tryz.prog 67 = some (7,k0cy,s0cy):=by kernel_rfl

def qbha:IC:=zr [zi 1 (.box (.t 0)),zv 2 (.mov (.c (.str [])))]
def qbms:IC:=zr [zv 6 (zd 1 0),zv 7 (zg 1 6),zv 8 (zq (.t 7) (.c (.str [45,62])))]
def q82:IC:=.drw [zp (zv 9 (zd 1 2)),zp (zv 10 (zg 1 9)),zp (zv 11 (.iad 3 (.t 10) (zc 0))),zp (zv 12 (zl 3 11)),zp (zv 13 (zd 1 2)),zp (zv 14 (zg 1 13)),zp (zv 15 (.iad 3 (.t 14) (zc 0))),zp (zv 16 (zd 15 0)),zp (zv 17 (zg 1 16)),(zv 18 (zq (.t 17) (.c (.str [45,62]))),[]),(zi 19 (zk 103 [((.t 12),(.agg [.id,.id,(.sl 3)])),zI 18]),[]),(zv 20 (.bin .add .no (.t 19) (.c (.str [32,45,62,32]))),[]),zp (zv 21 (zd 1 2)),(zv 22 (zg 1 21),[10]),zp (zv 23 (.iad 3 (.t 22) (zc 1))),(zv 24 (zl 3 23),[10]),(zi 25 (zk 68 [((.t 24),(.agg [.id,.id,(.sl 3)]))]),[]),zp (zv 26 (.bin .add .no (.t 20) (.t 25))),zp (zm 2 26)]
def qbo3:IC:=zr [zi 3 (.bld 202 5)]
def qbdl:IC:=zr [zv 27 (zl 3 1),zi 28 (zk 101 [((.t 27),(.agg [.id,.id,(.sl 3)]))]),zi 29 (zk 105 [zI 28]),zi 30 (zk 104 [((.t 3),(.agg [.id,(.sl 1)])),zI 29])]
def qbd4:IC:=zr [zv 31 (zd 1 2),zv 32 (zg 1 31),zv 33 (.len false (.t 32)),zv 34 (.mov (zc 0))]
def qboq:IC:=zr [zv 35 (.bin .lss .no (.t 34) (.t 33))]
def qbi9:IC:=zr [zv 36 (.iad 3 (.t 32) (.t 34)),zv 37 (zl 3 36),zi 5 (.alo [(.str []),(.int .i64 0),.nils]),zn (.st 3 (.agg [.id,.id,(.sl 3)]) (.t 5) (.t 37))]
def qbc6:IC:=zr [zv 38 (zl 3 5),zv 39 (zd 5 2),zv 40 (zg 1 39),zv 41 (.len false (.t 40)),zv 42 (.bin .gtr .no (.t 41) (zc 0)),zi 43 (zk 103 [((.t 38),(.agg [.id,.id,(.sl 3)])),zI 42]),zv 44 (.bin .add .no (.c (.str [32])) (.t 43)),zi 45 (zk 104 [((.t 3),(.agg [.id,(.sl 1)])),zI 44])]
def q5h:IC:=zr [zv 46 (.bin .add .no (.t 34) (zc 1)),zm 34 46]
def qbfv:IC:=(.seq qboq (.seq (.cond (.t 35) .skip (.exit 0)) (.seq (.block 1 (.seq qbi9 qbc6)) q5h)))
def q1q:IC:=zr [zi 47 (zk 106 [((.t 3),(.agg [.id,(.sl 1)]))]),zm 2 47]
def k0ct:IC:=(.seq qbha (.seq (.seq qbms (.cond (.t 8) (.seq q82 .ret) .skip)) (.seq qbo3 (.seq qbdl (.seq (.seq qbd4 (.block 0 (.loop qbfv))) (.seq q1q .ret))))))
@[go_sem] def s0ct:List (RV×Co):=[(.t 2,.id)]
theorem c0ct:cFun Tryz.prog 68 = some (48,k0ct,s0ct):=by kernel_rfl

def qbgs:IC:=zr [zi 5 (.box (.t 2)),zv 6 (.mov (zc 0))]
def qbnv:IC:=zr [zm 9 0,zv 10 (.bin .eql .ptr (.t 9) (.c .nilp)),zm 11 10,zw 11 false 12 (zl 3 5),zj 11 false 13 (zk 67 [((.t 12),(.agg [.id,.id,(.sl 3)]))]),zw 11 false 14 (.un .not (.t 13)),zv 15 (.pick (.t 11) (.c (.bool true)) (.t 14))]
def qbhs:IC:=zr [zv 6 (.mov (zc 1))]
def qbk0:IC:=zr [zm 17 0,zm 18 1,zi 19 (zk 107 [zI 17,zI 18]),zm 16 19,zv 20 (zx 16 0),zv 21 (zx 16 1),zm 7 20,zm 8 21]
def qbcb:IC:=zr [zm 22 8]
def qbcz:IC:=zr [zv 6 (.mov (zc 6))]
def qbob:IC:=.drw [zp (zm 23 0),zp (zm 24 0),zp (zv 25 (.nck (.t 24))),zp (zv 26 (zd 25 0)),zp (zv 27 (zg 1 26)),zp (zm 28 7),zp (zm 29 1),zp (zv 30 (zl 3 5)),(zi 31 (zk 109 [((.t 30),(.agg [.id,.id,(.sl 3)]))]),[4]),(zv 32 (.bld [(.int .i64 0),(.str []),(.int .i64 0),.nils] [(0,1,(.t 29)),(1,3,(.t 31))]),[]),(zv 33 (.bsl 4 [((.t 32),(.agg [.id,.id,.id,(.sl 3)]))]),[]),(zi 34 (zk 108 [((.t 27),(.sl 4)),zI 28,((.t 33),(.sl 4))]),[]),zp (zv 35 (.nck (.t 23))),zp (zv 36 (zd 35 0)),(zn (.st 1 (.sl 4) (.t 36) (.t 34)),[])]
def q9y:IC:=zr [zv 6 (.mov (zc 0))]
def k0db:IC:=(.seq qbgs (.seq (.seq qbnv (.cond (.t 15) (.seq qbhs .ret) .skip)) (.seq qbk0 (.seq (.seq qbcb (.cond (.t 22) (.seq qbcz .ret) .skip)) (.seq qbob (.seq q9y .ret))))))
@[go_sem] def s0db:List (RV×Co):=[(.t 6,.id)]
theorem c0db:cFun Tryz.prog 69 = some (37,k0db,s0db):=by kernel_rfl

def qbea:IC:=zr [zi 2 (.box (.t 0)),zi 3 (.box (.t 1)),zv 4 (.mov (.c .nilp)),zv 5 (.mov (zc 0))]
def qbev:IC:=zr [zv 6 (zl 3 2),zv 7 (zl 3 3),zv 8 (.bsl 3 [((.t 6),(.agg [.id,.id,(.sl 3)])),((.t 7),(.agg [.id,.id,(.sl 3)]))]),zi 9 (zk 110 [((.t 8),(.sl 3))]),zv 10 (.un .not (.t 9))]
def qblk:IC:=zr [zv 4 (.mov (.c .nilp)),zv 5 (.mov (zc 1))]
def qbhm:IC:=zr [zv 11 (zl 3 2),zv 12 (zl 3 3),zv 13 (.bld [(.str []),(.int .i64 0),.nils,(.str []),(.int .i64 0),.nils] [(0,3,(.t 11)),(3,3,(.t 12))]),zv 14 (.bsl 6 [((.t 13),(.agg [.id,.id,(.sl 3),.id,.id,(.sl 3)]))]),zi 15 (zk 111 [((.t 14),(.sl 6))]),zv 16 (zx 15 0),zv 17 (zx 15 1),zm 4 16,zm 5 17]
def k0dl:IC:=(.seq qbea (.seq (.seq qbev (.cond (.t 10) (.seq qblk .ret) .skip)) (.seq qbhm .ret)))
@[go_sem] def s0dl:List (RV×Co):=[(.t 4,.id),(.t 5,.id)]
theorem c0dl:cFun Tryz.prog 70 = some (18,k0dl,s0dl):=by kernel_rfl

def qbfg:IC:=zr [zv 4 (.mov (.c .nilp)),zv 5 (.mov (zc 0))]
def qbn4:IC:=zr [zi 13 (zk 39 [((.c .nils),(.sl 4))]),zm 6 13]
def qbn1:IC:=zr [zm 14 0,zi 15 (zk 81 [zI 14]),zv 16 (.len false (.t 15)),zv 17 (.mov (zc 0))]
def qbna:IC:=zr [zv 18 (.bin .lss .no (.t 17) (.t 16))]
def qbfh:IC:=zr [zv 19 (.iad 4 (.t 15) (.t 17)),zv 20 (zl 4 19),zi 8 (.alo [(.int .i64 0),(.str []),(.int .i64 0),.nils]),zn (.st 4 (.agg [.id,.id,.id,(.sl 3)]) (.t 8) (.t 20))]
def qboo:IC:=zr [zm 22 1,zv 23 (zd 8 1),zv 24 (zl 3 23),zi 25 (zk 53 [zI 22,((.t 24),(.agg [.id,.id,(.sl 3)]))]),zm 21 25,zv 26 (zx 21 0),zv 27 (zx 21 1),zi 9 (.alo [(.str []),(.int .i64 0),.nils]),zn (.st 3 (.agg [.id,.id,(.sl 3)]) (.t 9) (.t 26)),zm 10 27]
def qbok:IC:=zr [zm 28 10,zv 29 (.bin .neq .no (.t 28) (zc 0))]
def qbht:IC:=zr [zm 30 10,zv 4 (.mov (.c .nilp)),zm 5 30]
def qbjs:IC:=zr [zm 31 6,zv 32 (zd 8 0),zv 33 (zg 1 32),zv 34 (zl 3 9),zi 35 (zk 69 [zI 31,zI 33,((.t 34),(.agg [.id,.id,(.sl 3)]))])]
def q71:IC:=zr [zv 36 (.bin .add .no (.t 17) (zc 1)),zm 17 36]
def qbiy:IC:=(.seq qbna (.seq (.cond (.t 18) .skip (.exit 0)) (.seq (.block 1 (.seq qbfh (.seq qboo (.seq (.seq qbok (.cond (.t 29) (.seq qbht .ret) .skip)) qbjs)))) q71)))
def q4y:IC:=zr [zm 37 1,zi 38 (zk 81 [zI 37]),zv 39 (.len false (.t 38)),zv 40 (.mov (zc 0))]
def q4r:IC:=zr [zv 41 (.bin .lss .no (.t 40) (.t 39))]
def q2j:IC:=zr [zv 42 (.iad 4 (.t 38) (.t 40)),zv 43 (zl 4 42),zi 12 (.alo [(.int .i64 0),(.str []),(.int .i64 0),.nils]),zn (.st 4 (.agg [.id,.id,.id,(.sl 3)]) (.t 12) (.t 43))]
def q19:IC:=zr [zm 44 6,zv 45 (zd 12 0),zv 46 (zg 1 45),zv 47 (zd 12 1),zv 48 (zl 3 47),zi 49 (zk 69 [zI 44,zI 46,((.t 48),(.agg [.id,.id,(.sl 3)]))])]
def q22:IC:=zr [zv 50 (.bin .add .no (.t 40) (zc 1)),zm 40 50]
def q1y:IC:=(.seq q4r (.seq (.cond (.t 41) .skip (.exit 2)) (.seq (.block 3 (.seq q2j q19)) q22)))
def q4v:IC:=zr [zm 51 6,zm 4 51,zv 5 (.mov (zc 0))]
def k0dk:IC:=(.seq qbfg (.seq qbn4 (.seq (.seq qbn1 (.block 0 (.loop qbiy))) (.seq (.seq q4y (.block 2 (.loop q1y))) (.seq q4v .ret)))))
@[go_sem] def s0dk:List (RV×Co):=[(.t 4,.id),(.t 5,.id)]
theorem c0dk:cFun Tryz.prog 71 = some (52,k0dk,s0dk):=by kernel_rfl

def qbjp:IC:=zr [zv 2 (.mov (.c (.str [])))]
def qbmn:IC:=zr [zm 5 0,zi 6 (zk 117 [zI 5]),zm 3 6]
def qbcw:IC:=zr [zv 4 (.mov (.c (.str [])))]
def qbph:IC:=zr [zm 7 3,zv 8 (.bin .gtr .no (.t 7) (.c (.int .u64 9)))]
def qbpl:IC:=zr [zm 9 3,zv 10 (.bin .rem .no (.t 9) (.c (.int .u64 10))),zv 11 (.bin .add .no (.c (.int .u64 48)) (.t 10)),zv 12 (.cvi .u8 (.t 11)),zv 13 (.bsl 1 [zI 12]),zv 14 (.cbs (.t 13)),zm 15 4,zv 16 (.bin .add .no (.t 14) (.t 15)),zm 4 16]
def qbil:IC:=zr [zm 17 3,zv 18 (.bin .quo .no (.t 17) (.c (.int .u64 10))),zm 3 18]
def qbf2:IC:=(.seq (.seq qbph (.cond (.t 8) .skip (.exit 0))) (.block 1 (.seq qbpl qbil)))
def qbii:IC:=zr [zm 19 3,zv 20 (.bin .add .no (.c (.int .u64 48)) (.t 19)),zv 21 (.cvi .u8 (.t 20)),zv 22 (.bsl 1 [zI 21]),zv 23 (.cbs (.t 22)),zm 24 4,zv 25 (.bin .add .no (.t 23) (.t 24)),zm 4 25]
def qbee:IC:=zr [zm 26 0,zv 27 (.bin .lss .no (.t 26) (zc 0))]
def q1o:IC:=zr [zm 28 4,zv 29 (.bin .add .no (.c (.str [45])) (.t 28)),zm 2 29]
def q2n:IC:=zr [zm 30 4,zm 2 30]
def k0cn:IC:=(.seq qbjp (.seq qbmn (.seq qbcw (.seq (.block 0 (.loop qbf2)) (.seq qbii (.seq (.seq qbee (.cond (.t 27) (.seq q1o .ret) .skip)) (.seq q2n .ret)))))))
@[go_sem] def s0cn:List (RV×Co):=[(.t 2,.id)]
theorem c0cn:cFun Tryz.prog 76 = some (31,k0cn,s0cn):=by kernel_rfl

def qbg5:IC:=zr [zv 2 (.mov (.c .nils))]
def qbm2:IC:=zr [zm 6 0,zv 7 (.bin .eql .ptr (.t 6) (.c .nilp))]
def qbnx:IC:=zr [zv 2 (.mov (.c .nils))]
def qbfc:IC:=zr [zm 8 0,zv 9 (.nck (.t 8)),zv 10 (zd 9 0),zv 11 (zg 1 10),zv 12 (.len false (.t 11)),zi 13 (.mks 4 (.agg [(.int .i64 0),(.str []),(.int .i64 0),.nils]) 56 (.t 12) (.t 12)),zm 3 13]
def qbl1:IC:=zr [zm 14 0,zv 15 (.nck (.t 14)),zv 16 (zd 15 0),zv 17 (zg 1 16),zv 18 (.len false (.t 17)),zv 19 (.mov (zc 0))]
def qbog:IC:=zr [zv 20 (.bin .lss .no (.t 19) (.t 18))]
def qbn2:IC:=zr [zm 21 19,zv 22 (.iad 4 (.t 17) (.t 19)),zv 23 (zl 4 22),zi 5 (.alo [(.int .i64 0),(.str []),(.int .i64 0),.nils]),zm 4 21,zn (.st 4 (.agg [.id,.id,.id,(.sl 3)]) (.t 5) (.t 23))]
def q83:IC:=.drw [zp (zm 24 3),zp (zm 25 4),zp (zv 26 (zd 5 0)),zp (zv 27 (zg 1 26)),zp (zv 28 (zd 5 1)),zp (zv 29 (zl 3 28)),(zi 30 (zk 109 [((.t 29),(.agg [.id,.id,(.sl 3)]))]),[3]),(zv 31 (.bld [(.int .i64 0),(.str []),(.int .i64 0),.nils] [(0,1,(.t 27)),(1,3,(.t 30))]),[]),zp (zv 32 (.iad 4 (.t 24) (.t 25))),(zn (.st 4 (.agg [.id,.id,.id,(.sl 3)]) (.t 32) (.t 31)),[])]
def qbaf:IC:=zr [zv 33 (.bin .add .no (.t 19) (zc 1)),zm 19 33]
def qbjt:IC:=(.seq qbog (.seq (.cond (.t 20) .skip (.exit 0)) (.seq (.block 1 (.seq qbn2 q83)) qbaf)))
def q3p:IC:=zr [zm 34 3,zm 2 34]
def k0dg:IC:=(.seq qbg5 (.seq (.seq qbm2 (.cond (.t 7) (.seq qbnx .ret) .skip)) (.seq qbfc (.seq (.seq qbl1 (.block 0 (.loop qbjt))) (.seq q3p .ret)))))
@[go_sem] def s0dg:List (RV×Co):=[(.t 2,(.sl 4))]
theorem c0dg:cFun Tryz.prog 81 = some (35,k0dg,s0dg):=by kernel_rfl

def qbiv:IC:=zr [zi 1 (.box (.t 0)),zv 2 zf]
def qbcq:IC:=zr [zv 4 (.bld [(.int .i64 0)] [(0,1,(zc 4096))]),zi 5 (.box (.t 4)),zm 3 5]
def q9b:IC:=zr [zm 6 3,zv 7 (zl 3 1),zi 8 (zk 121 [zI 6,((.t 7),(.agg [.id,.id,(.sl 3)])),((zc 100),.id)]),zm 2 8]
def k0bn:IC:=(.seq qbiv (.seq qbcq (.seq q9b .ret)))
@[go_sem] def s0bn:List (RV×Co):=[(.t 2,.id)]
theorem c0bn:cFun Tryz.prog 82 = some (9,k0bn,s0bn):=by kernel_rfl

def qbmj:IC:=zr [zi 3 (.box (.t 0)),zi 6 (.alo [(.str []),(.int .i64 0),.nils])]
def qbj2:IC:=zr [zv 11 (zd 3 0),zv 12 (zg 1 11),zv 13 (zq (.t 12) (.c (.str [])))]
def qba8:IC:=zr [zm 14 1,zv 15 (zd 3 1),zv 16 (zg 1 15),zi 17 (zk 122 [((.t 14),(.sl 1)),zI 16]),zm 7 17]
def qbfy:IC:=zr [zm 18 7,zv 19 (.bin .geq .no (.t 18) (zc 0)),zm 20 19,zw 20 true 21 (zo 7),zw 20 true 22 (zo 2),zw 20 true 23 (.len false (.t 22)),zw 20 true 24 (.bin .lss .no (.t 21) (.t 23)),zv 25 (.pick (.t 20) (.t 24) (.c (.bool false)))]
def qbnp:IC:=zr [zm 26 2,zm 27 7,zv 28 (.iad 3 (.t 26) (.t 27)),zv 29 (zl 3 28),zn (.st 3 (.agg [.id,.id,(.sl 3)]) (.t 6) (.t 29))]
def qbaa:IC:=zr [zv 30 (zl 3 3),zn (.st 3 (.agg [.id,.id,(.sl 3)]) (.t 6) (.t 30))]
def qbpd:IC:=zr [zv 31 (zd 3 2),zv 32 (zg 1 31),zv 33 (.len false (.t 32)),zi 34 (.mks 3 (.agg [(.str []),(.int .i64 0),.nils]) 48 (.t 33) (.t 33)),zm 8 34]
def qbix:IC:=zr [zv 35 (zd 3 2),zv 36 (zg 1 35),zv 37 (.len false (.t 36)),zv 38 (.mov (zc 0))]
def qbgz:IC:=zr [zv 39 (.bin .lss .no (.t 38) (.t 37))]
def q21:IC:=zr [zm 40 38,zv 41 (.iad 3 (.t 36) (.t 38)),zv 42 (zl 3 41),zi 10 (.alo [(.str []),(.int .i64 0),.nils]),zm 9 40,zn (.st 3 (.agg [.id,.id,(.sl 3)]) (.t 10) (.t 42))]
def q2k:IC:=zr [zm 43 8,zm 44 9,zv 45 (zl 3 10),zm 46 1,zm 47 2,zi 48 (zk 83 [((.t 45),(.agg [.id,.id,(.sl 3)])),((.t 46),(.sl 1)),((.t 47),(.sl 3))]),zv 49 (.iad 3 (.t 43) (.t 44)),zn (.st 3 (.agg [.id,.id,(.sl 3)]) (.t 49) (.t 48))]
def q7q:IC:=zr [zv 50 (.bin .add .no (.t 38) (zc 1)),zm 38 50]
def q94:IC:=(.seq qbgz (.seq (.cond (.t 39) .skip (.exit 0)) (.seq (.block 1 (.seq q21 q2k)) q7q)))
def q6y:IC:=zr [zm 51 8,zv 52 (zd 3 2),zn (.st 1 (.sl 3) (.t 52) (.t 51))]
def q5t:IC:=zr [zv 53 (zl 3 3),zn (.st 3 (.agg [.id,.id,(.sl 3)]) (.t 6) (.t 53))]
def k0bo:IC:=(.seq qbmj (.seq (.seq qbj2 (.cond (.t 13) (.seq (.seq qba8 (.seq qbfy (.cond (.t 25) (.seq qbnp .ret) .skip))) (.seq qbaa .ret)) .skip)) (.seq qbpd (.seq (.seq qbix (.block 0 (.loop q94))) (.seq q6y (.seq q5t .ret))))))
@[go_sem] def s0bo:List (RV×Co):=[(.c true 3 6,(.agg [.id,.id,(.sl 3)]))]
theorem c0bo:cFun Tryz.prog 83 = some (54,k0bo,s0bo):=by kernel_rfl

def qbky:IC:=zr [zi 4 (.box (.t 1)),zi 6 (.alo [(.str []),(.int .i64 0),.nils])]
def qbjd:IC:=zr [zv 11 (zd 4 0),zv 12 (zg 1 11),zv 13 (zq (.t 12) (.c (.str [])))]
def qbk1:IC:=.drw [zp (zm 15 0),zp (zv 16 (.nck (.t 15))),zp (zv 17 (zd 16 0)),zp (zv 18 (zg 1 17)),zp (zv 19 (zd 4 1)),zp (zv 20 (zg 1 19)),(zi 21 (zk 123 [zI 18,zI 20]),[]),zp (zm 14 21),zp (zv 22 (zx 14 0)),zp (zv 23 (zx 14 1)),(zi 7 (.alo [(.str []),(.int .i64 0),.nils]),[3,5,6]),(zn (.st 3 (.agg [.id,.id,(.sl 3)]) (.t 7) (.t 22)),[]),zp (zm 8 23)]
def qbe6:IC:=zr [zm 24 8]
def qbad:IC:=.drw [zp (zm 25 0),zp (zv 26 (.nck (.t 25))),zp (zv 27 (zd 26 1)),zp (zv 28 (zg 1 27)),zp (zv 29 (zl 3 7)),(zi 30 (zk 124 [((.t 29),(.agg [.id,.id,(.sl 3)]))]),[3]),zp (zv 31 (.bin .sub .no (.t 28) (.t 30))),zp (zv 32 (.nck (.t 25))),zp (zv 33 (zd 32 1)),(zn (.st 1 .id (.t 33) (.t 31)),[])]
def qbi1:IC:=zr [zm 34 2,zv 35 (zl 3 7),zi 36 (zk 125 [((.t 35),(.agg [.id,.id,(.sl 3)]))]),zv 37 (.bin .add .no (.t 34) (.t 36)),zv 38 (.bin .gtr .no (.t 37) (zc 101))]
def qbhz:IC:=zr [zm 39 0,zv 40 (.nck (.t 39)),zv 41 (zd 40 1),zn (.st 1 .id (.t 41) (zc (-1)))]
def qbov:IC:=zr [zv 42 (zl 3 7),zi 43 (zk 109 [((.t 42),(.agg [.id,.id,(.sl 3)]))]),zn (.st 3 (.agg [.id,.id,(.sl 3)]) (.t 6) (.t 43))]
def qblb:IC:=zr [zm 44 0,zv 45 (.nck (.t 44)),zv 46 (zd 45 1),zv 47 (zg 1 46),zv 48 (.bin .sub .no (.t 47) (zc 1)),zv 49 (.nck (.t 44)),zv 50 (zd 49 1),zn (.st 1 .id (.t 50) (.t 48))]
def qbn9:IC:=zr [zv 51 (zd 4 2),zv 52 (zg 1 51),zv 53 (.len false (.t 52)),zi 54 (.mks 3 (.agg [(.str []),(.int .i64 0),.nils]) 48 (.t 53) (.t 53)),zm 9 54]
def q4h:IC:=zr [zv 55 (zd 4 2),zv 56 (zg 1 55),zv 57 (.len false (.t 56)),zv 58 (.mov (zc 0))]
def q3s:IC:=zr [zv 59 (.bin .lss .no (.t 58) (.t 57))]
def q1f:IC:=zr [zm 60 58,zm 10 60]
def q31:IC:=zr [zm 61 0,zv 62 (.nck (.t 61)),zv 63 (zd 62 1),zv 64 (zg 1 63),zv 65 (.bin .lss .no (.t 64) (zc 0))]
def q5i:IC:=zr [zv 66 (zl 3 4),zn (.st 3 (.agg [.id,.id,(.sl 3)]) (.t 6) (.t 66))]
def q7j:IC:=zr [zm 67 9,zm 68 10,zm 69 0,zv 70 (zd 4 2),zv 71 (zg 1 70),zm 72 10,zv 73 (.iad 3 (.t 71) (.t 72)),zv 74 (zl 3 73),zm 75 2,zv 76 (.bin .add .no (.t 75) (zc 1)),zi 77 (zk 84 [zI 69,((.t 74),(.agg [.id,.id,(.sl 3)])),zI 76]),zv 78 (.iad 3 (.t 67) (.t 68)),zn (.st 3 (.agg [.id,.id,(.sl 3)]) (.t 78) (.t 77))]
def q4l:IC:=zr [zv 79 (.bin .add .no (.t 58) (zc 1)),zm 58 79]
def q18:IC:=(.seq q3s (.seq (.cond (.t 59) .skip (.exit 0)) (.seq (.block 1 (.seq q1f (.seq (.seq q31 (.cond (.t 65) (.seq q5i .ret) .skip)) q7j))) q4l)))
def q5q:IC:=zr [zm 80 9,zv 81 (zd 4 2),zn (.st 1 (.sl 3) (.t 81) (.t 80))]
def q41:IC:=zr [zv 82 (zl 3 4),zn (.st 3 (.agg [.id,.id,(.sl 3)]) (.t 6) (.t 82))]
def k0dj:IC:=(.seq qbky (.seq (.seq qbjd (.cond (.t 13) (.seq qbk1 (.seq qbe6 (.cond (.t 24) (.seq qbad (.seq (.seq qbi1 (.cond (.t 38) qbhz .skip)) (.seq qbov .ret))) .skip))) .skip)) (.seq qblb (.seq qbn9 (.seq (.seq q4h (.block 0 (.loop q18))) (.seq q5q (.seq q41 .ret)))))))
@[go_sem] def s0dj:List (RV×Co):=[(.c true 3 6,(.agg [.id,.id,(.sl 3)]))]
theorem c0dj:cFun Tryz.prog 84 = some (83,k0dj,s0dj):=by kernel_rfl

def qbui:IC:=zr [zi 1 (.box (.t 0)),zv 2 (.mov (.c .nilf))]
def qbsu:IC:=zr [zv 4 (zl 6 1),zv 5 (.bld [(.int .i64 0),(.int .i64 0),(.str []),.nils,.nils,.nils] [(0,6,(.t 4))]),zv 6 (.mfn 126 [(.t 5)] []),zm 3 6]
def qbvu:IC:=zr [zm 7 3,zm 2 7]
def k0w:IC:=(.seq qbui (.seq qbsu (.seq qbvu .ret)))
@[go_sem] def s0w:List (RV×Co):=[(.t 2,.id)]
theorem c0w:cFun Tryz.prog 85 = some (8,k0w,s0w):=by kernel_rfl

def q9l:IC:=zr [zi 1 (.box (.t 0)),zv 2 zf]
def q0s:IC:=zr [zv 4 (zd 1 0),zv 5 (zg 1 4),zv 6 (.bin .geq .no (.t 5) (zc 21)),zm 7 6,zw 7 false 8 (zd 1 0),zw 7 false 9 (zg 1 8),zw 7 false 10 (zq (.t 9) (zc 9)),zv 11 (.pick (.t 7) (.c (.bool true)) (.t 10)),zm 12 11,zw 12 false 13 (zd 1 0),zw 12 false 14 (zg 1 13),zw 12 false 15 (zq (.t 14) (zc 11)),zv 16 (.pick (.t 12) (.c (.bool true)) (.t 15)),zm 17 16,zw 17 false 18 (zl 6 1),zj 17 false 19 (zk 127 [((.t 18),(.agg [.id,.id,.id,(.sl 1),(.sl 3),(.sl 6)]))]),zw 17 false 20 (.un .not (.t 19)),zv 21 (.pick (.t 17) (.c (.bool true)) (.t 20))]
def qbnh:IC:=zr [zv 2 zf]
def qq4:IC:=zr [zv 22 (zd 1 5),zv 23 (zg 1 22),zv 24 (.len false (.t 23)),zm 3 24]
def qbdx:IC:=zr [zv 25 (zd 1 0),zv 26 (zg 1 25)]
def q95:IC:=zr [zv 28 (zq (.t 26) (zc 8)),zm 27 28]
def qbl2:IC:=zr [zm 29 3,zv 30 (.bin .geq .no (.t 29) (zc 2)),zm 31 30,zw 31 true 32 (zd 1 5),zw 31 true 33 (zg 1 32),zw 31 true 34 (.iad 6 (.t 33) (zc 0)),zw 31 true 35 (zl 6 34),zj 31 true 36 (zk 86 [((.t 35),(.agg [.id,.id,.id,(.sl 1),(.sl 3),(.sl 6)]))]),zv 37 (.pick (.t 31) (.t 36) (.c (.bool false))),zm 38 37,zw 38 true 39 (zd 1 5),zw 38 true 40 (zg 1 39),zw 38 true 41 (.slv 6 (.t 40) (some (zc 1)) none none),zj 38 true 42 (zk 128 [((.t 41),(.sl 6)),((.c (.fn 129 [] [])),.id)]),zw 38 true 43 (.un .not (.t 42)),zv 44 (.pick (.t 38) (.t 43) (.c (.bool false))),zm 2 44]
def qbmi:IC:=zr [zv 46 (zq (.t 26) (zc 10)),zm 45 46]
def qblq:IC:=zr [zm 47 3,zv 48 (.bin .geq .no (.t 47) (zc 1)),zm 49 48,zw 49 true 50 (zd 1 5),zw 49 true 51 (zg 1 50),zw 49 true 52 (zo 3),zw 49 true 53 (.bin .sub .no (.t 52) (zc 1)),zw 49 true 54 (.iad 6 (.t 51) (.t 53)),zw 49 true 55 (zl 6 54),zj 49 true 56 (zk 86 [((.t 55),(.agg [.id,.id,.id,(.sl 1),(.sl 3),(.sl 6)]))]),zv 57 (.pick (.t 49) (.t 56) (.c (.bool false))),zm 58 57,zw 58 true 59 (zd 1 5),zw 58 true 60 (zg 1 59),zw 58 true 61 (zo 3),zw 58 true 62 (.bin .sub .no (.t 61) (zc 1)),zw 58 true 63 (.slv 6 (.t 60) none (some (.t 62)) none),zj 58 true 64 (zk 128 [((.t 63),(.sl 6)),((.c (.fn 131 [] [])),.id)]),zw 58 true 65 (.un .not (.t 64)),zv 66 (.pick (.t 58) (.t 65) (.c (.bool false))),zm 2 66]
def qbhy:IC:=zr [zv 67 (zd 1 5),zv 68 (zg 1 67),zi 69 (zk 128 [((.t 68),(.sl 6)),((.c (.fn 132 [] [])),.id)]),zv 70 (.un .not (.t 69)),zm 2 70]
def k0ba:IC:=(.seq q9l (.seq (.seq q0s (.cond (.t 21) (.seq qbnh .ret) .skip)) (.seq qq4 (.seq (.seq qbdx (.block 0 (.seq q95 (.cond (.t 27) (.seq qbl2 .ret) (.seq qbmi (.cond (.t 45) (.seq qblq .ret) .skip)))))) (.seq qbhy .ret)))))
@[go_sem] def s0ba:List (RV×Co):=[(.t 2,.id)]
theorem c0ba:cFun Tryz.prog 86 = some (71,k0ba,s0ba):=by kernel_rfl

def q9t:IC:=zr [zi 3 (.box (.t 0)),zv 6 zf]
def qbij:IC:=zr [zm 9 2,zv 10 (zl 3 3),zm 11 1,zi 12 (.call (.t 9) [((.t 10),(.agg [.id,.id,(.sl 3)])),zI 11]),zv 13 (.un .not (.t 12))]
def qbf7:IC:=zr [zv 6 zf]
def qbdi:IC:=zr [zv 14 (zd 3 2),zv 15 (zg 1 14),zv 16 (.len false (.t 15)),zv 17 (.mov (zc 0))]
def qbps:IC:=zr [zv 18 (.bin .lss .no (.t 17) (.t 16))]
def qbib:IC:=zr [zv 19 (.iad 3 (.t 15) (.t 17)),zv 20 (zl 3 19),zi 8 (.alo [(.str []),(.int .i64 0),.nils]),zn (.st 3 (.agg [.id,.id,(.sl 3)]) (.t 8) (.t 20))]
def qbeh:IC:=zr [zv 21 (zl 3 8),zm 22 1,zv 23 (.bin .add .no (.t 22) (zc 1)),zm 24 2,zi 25 (zk 99 [((.t 21),(.agg [.id,.id,(.sl 3)])),zI 23,zI 24]),zv 26 (.un .not (.t 25))]
def qboy:IC:=zr [zv 6 zf]
def qbf8:IC:=zr [zv 27 (.bin .add .no (.t 17) (zc 1)),zm 17 27]
def qbf6:IC:=(.seq qbps (.seq (.cond (.t 18) .skip (.exit 0)) (.seq (.block 1 (.seq qbib (.seq qbeh (.cond (.t 26) (.seq qboy .ret) .skip)))) qbf8)))
def q36:IC:=zr [zv 6 (.mov (.c (.bool true)))]
def k0cc:IC:=(.seq q9t (.seq (.seq qbij (.cond (.t 13) (.seq qbf7 .ret) .skip)) (.seq (.seq qbdi (.block 0 (.loop qbf6))) (.seq q36 .ret))))
@[go_sem] def s0cc:List (RV×Co):=[(.t 6,.id)]
theorem c0cc:cFun Tryz.prog 99 = some (28,k0cc,s0cc):=by kernel_rfl

def qbgk:IC:=zr [zi 3 (.box (.t 0)),zv 5 zf]
def q9q:IC:=zr [zv 6 (zg 1 2),zv 7 (.bin .add .no (.t 6) (zc 1)),zn (.st 1 .id (.t 2) (.t 7))]
def qbgo:IC:=zr [zv 8 (zg 1 2),zv 9 (.bin .leq .no (.t 8) (zc 4096)),zm 10 9,zw 10 true 11 (zo 1),zw 10 true 12 (.bin .leq .no (.t 11) (zc 100)),zv 13 (.pick (.t 10) (.t 12) (.c (.bool false))),zm 14 13,zw 14 true 15 (zl 3 3),zj 14 true 16 (zk 101 [((.t 15),(.agg [.id,.id,(.sl 3)]))]),zj 14 true 17 (zk 102 [zI 16]),zv 18 (.pick (.t 14) (.t 17) (.c (.bool false))),zm 5 18]
def k0cv:IC:=(.seq qbgk (.seq q9q (.seq qbgo .ret)))
@[go_sem] def s0cv:List (RV×Co):=[(.t 5,.id)]
theorem c0cv:cFun Tryz.prog 100 = some (19,k0cv,s0cv):=by kernel_rfl

def qbbh:IC:=zr [zi 1 (.box (.t 0)),zi 2 (.alo [(.str []),(.int .i64 0),(.int .i64 0)])]
def qbo5:IC:=zr [zv 3 (zd 1 0),zv 4 (zg 1 3),zv 5 (zd 1 1),zv 6 (zg 1 5),zv 7 (zd 1 2),zv 8 (zg 1 7),zv 9 (.len false (.t 8)),zv 10 (.bld [(.str []),(.int .i64 0),(.int .i64 0)] [(0,1,(.t 4)),(1,1,(.t 6)),(2,1,(.t 9))]),zn (.st 3 .id (.t 2) (.t 10))]
def k0by:IC:=(.seq qbbh (.seq qbo5 .ret))
@[go_sem] def s0by:List (RV×Co):=[(.c true 3 2,.id)]
theorem c0by:cFun Tryz.prog 101 = some (11,k0by,s0by):=by kernel_rfl

def qbh8:IC:=zr [zi 1 (.box (.t 0)),zv 2 zf]
def qbci:IC:=zr [zv 4 (zd 1 0),zv 5 (zg 1 4),zv 6 (zq (.t 5) (.c (.str []))),zm 3 6]
def qbfd:IC:=zr [zv 7 (zd 1 2),zv 8 (zg 1 7),zv 9 (zq (.t 8) (zc 0)),zm 2 9]
def qbk8:IC:=zr [zv 11 (zd 1 0),zv 12 (zg 1 11),zv 13 (zq (.t 12) (.c (.str [45,62]))),zm 10 13]
def qbj7:IC:=zr [zv 14 (zl 3 1),zv 15 (.bld [(.str []),(.int .i64 0),(.int .i64 0)] [(0,1,(.c (.str [45,62]))),(1,1,(zc 0)),(2,1,(zc 2))]),zv 16 (.bin .eql (.cells [.str,(.int .i64),(.int .i64)]) (.t 14) (.t 15)),zm 2 16]
def qblg:IC:=zr [zv 18 (zd 1 0),zv 19 (zg 1 18),zi 20 (zk 152 [zI 19]),zm 17 20]
def qbb0:IC:=zr [zv 21 (zl 3 1),zv 22 (zd 1 0),zv 23 (zg 1 22),zv 24 (.bld [(.str []),(.int .i64 0),(.int .i64 0)] [(0,1,(.t 23))]),zv 25 (.bin .eql (.cells [.str,(.int .i64),(.int .i64)]) (.t 21) (.t 24)),zm 2 25]
def qbcu:IC:=zr [zv 26 (zd 1 1),zv 27 (zg 1 26),zv 28 (zq (.t 27) (zc 0)),zm 29 28,zw 29 true 30 (zd 1 0),zw 29 true 31 (zg 1 30),zj 29 true 32 (zk 148 [zI 31]),zv 33 (.pick (.t 29) (.t 32) (.c (.bool false))),zm 2 33]
def k0cb:IC:=(.seq qbh8 (.seq (.block 0 (.seq qbci (.cond (.t 3) (.seq qbfd .ret) (.seq qbk8 (.cond (.t 10) (.seq qbj7 .ret) (.seq qblg (.cond (.t 17) (.seq qbb0 .ret) .skip))))))) (.seq qbcu .ret)))
@[go_sem] def s0cb:List (RV×Co):=[(.t 2,.id)]
theorem c0cb:cFun Tryz.prog 102 = some (34,k0cb,s0cb):=by kernel_rfl

def qbbv:IC:=zr [zi 2 (.box (.t 0)),zv 4 (.mov (.c (.str [])))]
def qbfm:IC:=zr [zm 5 1]
def qbc9:IC:=zr [zv 6 (zl 3 2),zi 7 (zk 68 [((.t 6),(.agg [.id,.id,(.sl 3)]))]),zv 8 (.bin .add .no (.c (.str [40])) (.t 7)),zv 9 (.bin .add .no (.t 8) (.c (.str [41]))),zm 4 9]
def qbma:IC:=zr [zv 10 (zl 3 2),zi 11 (zk 68 [((.t 10),(.agg [.id,.id,(.sl 3)]))]),zm 4 11]
def k0cs:IC:=(.seq qbbv (.seq (.seq qbfm (.cond (.t 5) (.seq qbc9 .ret) .skip)) (.seq qbma .ret)))
@[go_sem] def s0cs:List (RV×Co):=[(.t 4,.id)]
theorem c0cs:cFun Tryz.prog 103 = some (12,k0cs,s0cs):=by kernel_rfl

def qbmw:IC:=zr [zi 1 (.box (.t 0)),zv 2 (.mov (.c (.str [])))]
def qbd9:IC:=zr [zv 4 (zd 1 0),zv 5 (zg 1 4),zv 6 (.bin .neq .no (.t 5) (.c (.str []))),zm 3 6]
def qbbc:IC:=zr [zv 7 (zd 1 0),zv 8 (zg 1 7),zm 2 8]
def qbk6:IC:=zr [zv 10 (zd 1 1),zv 11 (zg 1 10),zv 12 (.bin .geq .no (.t 11) (zc 0)),zm 9 12]
def qbcp:IC:=zr [zv 13 (zd 1 1),zv 14 (zg 1 13),zi 15 (zk 154 [zI 14]),zm 2 15]
def qbdw:IC:=zr [zv 16 (zd 1 1),zv 17 (zg 1 16),zv 18 (.bin .sub .no (zc (-1)) (.t 17)),zi 19 (zk 52 [zI 18]),zv 20 (.bin .add .no (.c (.str [63])) (.t 19)),zm 2 20]
def k0cr:IC:=(.seq qbmw (.seq (.block 0 (.seq qbd9 (.cond (.t 3) (.seq qbbc .ret) (.seq qbk6 (.cond (.t 9) (.seq qbcp .ret) .skip))))) (.seq qbdw .ret)))
@[go_sem] def s0cr:List (RV×Co):=[(.t 2,.id)]
theorem c0cr:cFun Tryz.prog 105 = some (21,k0cr,s0cr):=by kernel_rfl

def qbbf:IC:=zr [zv 4 (.mov (zc 0)),zv 5 zf]
def qbl0:IC:=zr [zm 6 0,zv 7 (.nck (.t 6)),zv 8 (zd 7 0),zv 9 (zg 1 8),zm 10 1,zi 11 (zk 155 [((.t 9),(.sl 4)),zI 10,((.c (.fn 156 [] [])),.id)]),zv 12 (zx 11 0),zv 13 (zx 11 1),zm 4 12,zm 5 13]
def k0de:IC:=(.seq qbbf (.seq qbl0 .ret))
@[go_sem] def s0de:List (RV×Co):=[(.t 4,.id),(.t 5,.id)]
theorem c0de:cFun Tryz.prog 107 = some (14,k0de,s0de):=by kernel_rfl

def qbkm:IC:=zr [zi 1 (.box (.t 0)),zi 2 (.alo [(.str []),(.int .i64 0),.nils])]
def q9m:IC:=zr [zv 6 (zd 1 2),zv 7 (zg 1 6),zv 8 (.len false (.t 7)),zi 9 (.mks 3 (.agg [(.str []),(.int .i64 0),.nils]) 48 (.t 8) (.t 8)),zm 3 9]
def qba7:IC:=zr [zv 10 (zd 1 2),zv 11 (zg 1 10),zv 12 (.len false (.t 11)),zv 13 (.mov (zc 0))]
def qbag:IC:=zr [zv 14 (.bin .lss .no (.t 13) (.t 12))]
def qbf0:IC:=zr [zm 15 13,zv 16 (.iad 3 (.t 11) (.t 13)),zv 17 (zl 3 16),zi 5 (.alo [(.str []),(.int .i64 0),.nils]),zm 4 15,zn (.st 3 (.agg [.id,.id,(.sl 3)]) (.t 5) (.t 17))]
def qbj1:IC:=zr [zm 18 3,zm 19 4,zv 20 (zl 3 5),zi 21 (zk 109 [((.t 20),(.agg [.id,.id,(.sl 3)]))]),zv 22 (.iad 3 (.t 18) (.t 19)),zn (.st 3 (.agg [.id,.id,(.sl 3)]) (.t 22) (.t 21))]
def qbk2:IC:=zr [zv 23 (.bin .add .no (.t 13) (zc 1)),zm 13 23]
def qbc0:IC:=(.seq qbag (.seq (.cond (.t 14) .skip (.exit 0)) (.seq (.block 1 (.seq qbf0 qbj1)) qbk2)))
def qbne:IC:=zr [zm 24 3,zv 25 (zd 1 2),zn (.st 1 (.sl 3) (.t 25) (.t 24))]
def q3t:IC:=zr [zv 26 (zl 3 1),zn (.st 3 (.agg [.id,.id,(.sl 3)]) (.t 2) (.t 26))]
def k0cq:IC:=(.seq qbkm (.seq q9m (.seq (.seq qba7 (.block 0 (.loop qbc0))) (.seq qbne (.seq q3t .ret)))))
@[go_sem] def s0cq:List (RV×Co):=[(.c true 3 2,(.agg [.id,.id,(.sl 3)]))]
theorem c0cq:cFun Tryz.prog 109 = some (27,k0cq,s0cq):=by kernel_rfl

def qbai:IC:=zr [zv 2 zf]
def qbdv:IC:=zr [zm 5 0,zv 6 (.len false (.t 5)),zv 7 (.mov (zc 0))]
def qbm4:IC:=zr [zv 8 (.bin .lss .no (.t 7) (.t 6))]
def qbak:IC:=zr [zv 9 (.iad 3 (.t 5) (.t 7)),zv 10 (zl 3 9),zi 4 (.alo [(.str []),(.int .i64 0),.nils]),zn (.st 3 (.agg [.id,.id,(.sl 3)]) (.t 4) (.t 10))]
def qba0:IC:=zr [zv 11 (zl 3 4),zi 12 (zk 67 [((.t 11),(.agg [.id,.id,(.sl 3)]))]),zv 13 (.un .not (.t 12))]
def qbje:IC:=zr [zv 2 zf]
def qbk7:IC:=zr [zv 14 (.bin .add .no (.t 7) (zc 1)),zm 7 14]
def qbf1:IC:=(.seq qbm4 (.seq (.cond (.t 8) .skip (.exit 0)) (.seq (.block 1 (.seq qbak (.seq qba0 (.cond (.t 13) (.seq qbje .ret) .skip)))) qbk7)))
def qbn3:IC:=zr [zv 2 (.mov (.c (.bool true)))]
def k0do:IC:=(.seq qbai (.seq (.seq qbdv (.block 0 (.loop qbf1))) (.seq qbn3 .ret)))
@[go_sem] def s0do:List (RV×Co):=[(.t 2,.id)]
theorem c0do:cFun Tryz.prog 110 = some (15,k0do,s0do):=by kernel_rfl

def qbm1:IC:=zr [zv 2 (.mov (.c .nilp)),zv 3 (.mov (zc 0))]
def qbac:IC:=zr [zi 9 (zk 39 [((.c .nils),(.sl 4))]),zm 4 9,zv 5 (.mov (zc 0))]
def qbn6:IC:=zr [zv 10 (.bld [.nils] []),zi 11 (.box (.t 10)),zm 6 11]
def qbpk:IC:=zr [zm 12 6,zm 13 0,zi 14 (zk 159 [zI 12,((.t 13),(.sl 6))])]
def qbbi:IC:=zr [zm 16 6,zi 17 (zk 160 [zI 16]),zm 15 17,zv 18 (zx 15 0),zv 19 (zx 15 1),zi 7 (.alo [(.str []),(.int .i64 0),.nils,(.str []),(.int .i64 0),.nils]),zn (.st 6 (.agg [.id,.id,(.sl 3),.id,.id,(.sl 3)]) (.t 7) (.t 18)),zm 8 19]
def qben:IC:=zr [zm 20 8,zv 21 (.un .not (.t 20))]
def q9c:IC:=zr [zm 22 4,zm 2 22,zv 3 (.mov (zc 0))]
def qblc:IC:=zr [zm 24 4,zv 25 (zl 6 7),zm 26 6,zi 27 (zk 161 [zI 24,((.t 25),(.agg [.id,.id,(.sl 3),.id,.id,(.sl 3)])),zI 26]),zm 23 27,zv 28 (zx 23 0),zv 29 (zx 23 1),zm 4 28,zm 5 29]
def qbpa:IC:=zr [zm 30 5,zv 31 (.bin .neq .no (.t 30) (zc 0))]
def q6v:IC:=zr [zm 32 5,zv 2 (.mov (.c .nilp)),zm 3 32]
def qbd6:IC:=(.block 1 (.seq qbbi (.seq (.seq qben (.cond (.t 21) (.seq q9c .ret) .skip)) (.seq qblc (.seq qbpa (.cond (.t 31) (.seq q6v .ret) .skip))))))
def k0dm:IC:=(.seq qbm1 (.seq qbac (.seq qbn6 (.seq qbpk (.block 0 (.loop qbd6))))))
@[go_sem] def s0dm:List (RV×Co):=[(.t 2,.id),(.t 3,.id)]
theorem c0dm:cFun Tryz.prog 111 = some (33,k0dm,s0dm):=by kernel_rfl

def qbo6:IC:=zr [zv 2 (.mov (.c (.int .u64 0)))]
def qbm9:IC:=zr [zm 3 0,zv 4 (.bin .lss .no (.t 3) (zc 0))]
def qbbx:IC:=zr [zm 5 0,zv 6 (.cvi .u64 (.t 5)),zv 7 (.un .neg (.t 6)),zm 2 7]
def qbhc:IC:=zr [zm 8 0,zv 9 (.cvi .u64 (.t 8)),zm 2 9]
def k0cm:IC:=(.seq qbo6 (.seq (.seq qbm9 (.cond (.t 4) (.seq qbbx .ret) .skip)) (.seq qbhc .ret)))
@[go_sem] def s0cm:List (RV×Co):=[(.t 2,.id)]
theorem c0cm:cFun Tryz.prog 117 = some (10,k0cm,s0cm):=by kernel_rfl

def qbo7:IC:=zr [zi 4 (.box (.t 1)),zv 6 zf]
def qbg6:IC:=zr [zm 13 0,zv 14 (.nck (.t 13)),zv 15 (zd 14 0),zv 16 (zg 1 15),zv 17 (.bin .sub .no (.t 16) (zc 1)),zv 18 (.nck (.t 13)),zv 19 (zd 18 0),zn (.st 1 .id (.t 19) (.t 17))]
def qbni:IC:=zr [zm 20 0,zv 21 (.nck (.t 20)),zv 22 (zd 21 0),zv 23 (zg 1 22),zv 24 (.bin .lss .no (.t 23) (zc 0)),zm 25 24,zw 25 false 26 (zo 2),zw 25 false 27 (.bin .lss .no (.t 26) (zc 1)),zv 28 (.pick (.t 25) (.c (.bool true)) (.t 27))]
def qbah:IC:=zr [zv 6 zf]
def qbaj:IC:=zr [zv 30 (zl 3 4),zi 31 (zk 174 [((.t 30),(.agg [.id,.id,(.sl 3)]))]),zm 29 31,zv 32 (zx 29 0),zv 33 (zx 29 1),zv 34 (zx 29 2),zi 8 (.alo [(.str []),(.int .i64 0),.nils]),zm 7 32,zn (.st 3 (.agg [.id,.id,(.sl 3)]) (.t 8) (.t 33)),zm 9 34]
def qbnq:IC:=zr [zm 35 9,zv 36 (.un .not (.t 35))]
def qrn:IC:=.drw [zp (zv 37 (zd 4 0)),zp (zv 38 (zg 1 37)),zp (zv 39 (zd 4 1)),zp (zv 40 (zg 1 39)),zp (zv 41 (zd 4 2)),zp (zv 42 (zg 1 41)),zp (zv 43 (.len false (.t 42))),zp (zv 44 (.mm false (.t 43) (zc 4095))),(zi 45 (.mks 3 (.agg [(.str []),(.int .i64 0),.nils]) 48 (.t 44) (.t 44)),[1,3]),(zv 46 (.bld [(.str []),(.int .i64 0),.nils] [(0,1,(.t 38)),(1,1,(.t 40)),(2,1,(.t 45))]),[]),(zi 10 (.alo [(.str []),(.int .i64 0),.nils]),[1,3,5,8]),(zn (.st 3 (.agg [.id,.id,(.sl 3)]) (.t 10) (.t 46)),[])]
def qbdb:IC:=zr [zv 47 (zl 3 10),zi 48 (zk 67 [((.t 47),(.agg [.id,.id,(.sl 3)]))]),zv 49 (.un .not (.t 48))]
def qbg8:IC:=zr [zv 6 zf]
def qbfz:IC:=zr [zv 50 (zd 4 2),zv 51 (zg 1 50),zv 52 (.len false (.t 51)),zv 53 (.mov (zc 0))]
def q2h:IC:=zr [zv 54 (.bin .lss .no (.t 53) (.t 52))]
def q5y:IC:=zr [zv 55 (.iad 3 (.t 51) (.t 53)),zv 56 (zl 3 55),zi 12 (.alo [(.str []),(.int .i64 0),.nils]),zn (.st 3 (.agg [.id,.id,(.sl 3)]) (.t 12) (.t 56))]
def q4e:IC:=zr [zm 57 0,zv 58 (zl 3 12),zm 59 2,zv 60 (.bin .sub .no (.t 59) (zc 1)),zi 61 (zk 121 [zI 57,((.t 58),(.agg [.id,.id,(.sl 3)])),zI 60]),zv 62 (.un .not (.t 61))]
def q6i:IC:=zr [zv 6 zf]
def q50:IC:=zr [zv 63 (.bin .add .no (.t 53) (zc 1)),zm 53 63]
def q5w:IC:=(.seq q2h (.seq (.cond (.t 54) .skip (.exit 0)) (.seq (.block 1 (.seq q5y (.seq q4e (.cond (.t 62) (.seq q6i .ret) .skip)))) q50)))
def q3l:IC:=zr [zv 6 (.mov (.c (.bool true)))]
def k0bq:IC:=(.seq qbo7 (.seq qbg6 (.seq (.seq qbni (.cond (.t 28) (.seq qbah .ret) .skip)) (.seq (.seq qbaj (.seq qbnq (.cond (.t 36) (.seq qrn (.seq qbdb (.cond (.t 49) (.seq qbg8 .ret) .skip))) .skip))) (.seq (.seq qbfz (.block 0 (.loop q5w))) (.seq q3l .ret))))))
@[go_sem] def s0bq:List (RV×Co):=[(.t 6,.id)]
theorem c0bq:cFun Tryz.prog 121 = some (64,k0bq,s0bq):=by kernel_rfl

def qbjy:IC:=zr [zv 4 (.mov (zc 0))]
def qbca:IC:=zr [zm 6 0,zv 7 (.len false (.t 6)),zv 8 (.mov (zc 0))]
def qbjj:IC:=zr [zv 9 (.bin .lss .no (.t 8) (.t 7))]
def qbmb:IC:=zr [zm 10 8,zm 5 10]
def qbmv:IC:=zr [zm 11 1,zm 12 0,zm 13 5,zv 14 (.iad 1 (.t 12) (.t 13)),zv 15 (zg 1 14),zv 16 (zq (.t 11) (.t 15))]
def qbmg:IC:=zr [zm 17 5,zm 4 17]
def qbgh:IC:=zr [zv 18 (.bin .add .no (.t 8) (zc 1)),zm 8 18]
def qbnd:IC:=(.seq qbjj (.seq (.cond (.t 9) .skip (.exit 0)) (.seq (.block 1 (.seq qbmb (.seq qbmv (.cond (.t 16) (.seq qbmg .ret) .skip)))) qbgh)))
def qbfo:IC:=zr [zv 4 (.mov (zc (-1)))]
def k0bx:IC:=(.seq qbjy (.seq (.seq qbca (.block 0 (.loop qbnd))) (.seq qbfo .ret)))
@[go_sem] def s0bx:List (RV×Co):=[(.t 4,.id)]
theorem c0bx:cFun Tryz.prog 122 = some (19,k0bx,s0bx):=by kernel_rfl

def qbh2:IC:=zr [zi 4 (.alo [(.str []),(.int .i64 0),.nils]),zv 5 zf]
def qbhh:IC:=zr [zm 8 0,zv 9 (.bin .eql .ptr (.t 8) (.c .nilp))]
def qbau:IC:=zr [zv 10 (.bld [(.str []),(.int .i64 0),.nils] []),zn (.st 3 (.agg [.id,.id,(.sl 3)]) (.t 4) (.t 10)),zv 5 zf]
def qbho:IC:=zr [zm 12 0,zm 13 1,zi 14 (zk 107 [zI 12,zI 13]),zm 11 14,zv 15 (zx 11 0),zv 16 (zx 11 1),zm 6 15,zm 7 16]
def qbcd:IC:=zr [zm 17 7,zv 18 (.un .not (.t 17))]
def qbl5:IC:=zr [zv 19 (.bld [(.str []),(.int .i64 0),.nils] []),zn (.st 3 (.agg [.id,.id,(.sl 3)]) (.t 4) (.t 19)),zv 5 zf]
def qbkj:IC:=zr [zm 20 0,zv 21 (.nck (.t 20)),zv 22 (zd 21 0),zv 23 (zg 1 22),zm 24 6,zv 25 (.iad 4 (.t 23) (.t 24)),zv 26 (zd 25 1),zv 27 (zl 3 26),zn (.st 3 (.agg [.id,.id,(.sl 3)]) (.t 4) (.t 27)),zv 5 (.mov (.c (.bool true)))]
def k0dc:IC:=(.seq qbh2 (.seq (.seq qbhh (.cond (.t 9) (.seq qbau .ret) .skip)) (.seq qbho (.seq (.seq qbcd (.cond (.t 18) (.seq qbl5 .ret) .skip)) (.seq qbkj .ret)))))
@[go_sem] def s0dc:List (RV×Co):=[(.c true 3 4,(.agg [.id,.id,(.sl 3)])),(.t 5,.id)]
theorem c0dc:cFun Tryz.prog 123 = some (28,k0dc,s0dc):=by kernel_rfl

def qbe2:IC:=zr [zi 1 (.box (.t 0)),zv 2 (.mov (zc 0))]
def qbn5:IC:=zr [zi 3 (.alo [(.int .i64 0)]),zn (.st 1 .id (.t 3) (zc 0))]
def q90:IC:=zr [zv 4 (zl 3 1),zv 5 (.mfn 175 [] [(.t 3)]),zi 6 (zk 99 [((.t 4),(.agg [.id,.id,(.sl 3)])),((zc 1),.id),zI 5])]
def qbhw:IC:=zr [zv 7 (zg 1 3),zm 2 7]
def k0cz:IC:=(.seq qbe2 (.seq qbn5 (.seq q90 (.seq qbhw .ret))))
@[go_sem] def s0cz:List (RV×Co):=[(.t 2,.id)]
theorem c0cz:cFun Tryz.prog 124 = some (8,k0cz,s0cz):=by kernel_rfl

def qbj3:IC:=zr [zi 1 (.box (.t 0)),zv 2 (.mov (zc 0))]
def qbhb:IC:=zr [zi 3 (.alo [(.int .i64 0)]),zn (.st 1 .id (.t 3) (zc 0))]
def qbly:IC:=zr [zv 4 (zl 3 1),zv 5 (.mfn 176 [] [(.t 3)]),zi 6 (zk 99 [((.t 4),(.agg [.id,.id,(.sl 3)])),((zc 1),.id),zI 5])]
def qbbt:IC:=zr [zv 7 (zg 1 3),zm 2 7]
def k0da:IC:=(.seq qbj3 (.seq qbhb (.seq qbly (.seq qbbt .ret))))
@[go_sem] def s0da:List (RV×Co):=[(.t 2,.id)]
theorem c0da:cFun Tryz.prog 125 = some (8,k0da,s0da):=by kernel_rfl

def qbw7:IC:=zr [zi 2 (.box (.t 0))]
def qbwx:IC:=zr [zv 4 (zd 2 0),zv 5 (zl 6 4),zm 6 1,zi 7 (zk 177 [((.t 5),(.agg [.id,.id,.id,(.sl 1),(.sl 3),(.sl 6)])),((zc 1),.id),zI 6])]
def k0v:IC:=(.seq qbw7 qbwx)
@[go_sem] def s0v:List (RV×Co):=[]
theorem c0v:cFun Tryz.prog 126 = some (8,k0v,s0v):=by kernel_rfl

def qbiw:IC:=zr [zi 1 (.box (.t 0)),zv 2 zf]
def qbig:IC:=zr [zv 6 (zd 1 0),zv 7 (zg 1 6),zi 8 (zk 178 [zI 7]),zm 5 8,zv 9 (zx 5 0),zv 10 (zx 5 1),zi 3 (.alo [(.bool false),(.bool false),(.bool false),(.int .i64 0),(.int .i64 0)]),zn (.st 5 .id (.t 3) (.t 9)),zm 4 10]
def qx7:IC:=zr [zm 11 4,zv 12 (.un .not (.t 11)),zm 13 12,zw 13 false 14 (zd 1 2),zw 13 false 15 (zg 1 14),zw 13 false 16 (.bin .neq .no (.t 15) (.c (.str []))),zw 13 false 17 (zd 3 0),zw 13 false 18 (zg 1 17),zw 13 false 19 (.bin .neq .bool (.t 16) (.t 18)),zv 20 (.pick (.t 13) (.c (.bool true)) (.t 19)),zm 21 20,zw 21 false 22 (zd 1 1),zw 21 false 23 (zg 1 22),zw 21 false 24 (.bin .neq .no (.t 23) (zc 0)),zw 21 false 25 (zo 24),zw 25 true 26 (zd 3 1),zw 25 true 27 (zg 1 26),zw 25 true 28 (.un .not (.t 27)),zw 21 false 29 (.pick (.t 25) (.t 28) (.c (.bool false))),zv 30 (.pick (.t 21) (.c (.bool true)) (.t 29)),zm 31 30,zw 31 false 32 (zd 1 1),zw 31 false 33 (zg 1 32),zw 31 false 34 (.bin .lss .no (.t 33) (zc 0)),zw 31 false 35 (zo 34),zw 35 true 36 (zd 3 2),zw 35 true 37 (zg 1 36),zw 31 false 38 (.pick (.t 35) (.t 37) (.c (.bool false))),zv 39 (.pick (.t 31) (.c (.bool true)) (.t 38))]
def qbgb:IC:=zr [zv 2 zf]
def qbpg:IC:=zr [zv 40 (zd 1 3),zv 41 (zg 1 40),zv 42 (.len false (.t 41)),zv 43 (.bin .gtr .no (.t 42) (zc 0)),zm 44 43,zw 44 true 45 (zd 1 0),zw 44 true 46 (zg 1 45),zw 44 true 47 (.bin .neq .no (.t 46) (zc 5)),zv 48 (.pick (.t 44) (.t 47) (.c (.bool false))),zm 49 48,zw 49 true 50 (zd 1 0),zw 49 true 51 (zg 1 50),zw 49 true 52 (.bin .neq .no (.t 51) (zc 11)),zv 53 (.pick (.t 49) (.t 52) (.c (.bool false)))]
def qbnl:IC:=zr [zv 2 zf]
def qbbs:IC:=zr [zv 54 (zd 3 3),zv 55 (zg 1 54),zv 56 (.bin .geq .no (.t 55) (zc 0)),zm 57 56,zw 57 true 58 (zd 1 4),zw 57 true 59 (zg 1 58),zw 57 true 60 (.len false (.t 59)),zw 57 true 61 (zd 3 3),zw 57 true 62 (zg 1 61),zw 57 true 63 (.bin .neq .no (.t 60) (.t 62)),zv 64 (.pick (.t 57) (.t 63) (.c (.bool false))),zm 65 64,zw 65 false 66 (zd 3 4),zw 65 false 67 (zg 1 66),zw 65 false 68 (.bin .geq .no (.t 67) (zc 0)),zw 65 false 69 (zo 68),zw 69 true 70 (zd 1 5),zw 69 true 71 (zg 1 70),zw 69 true 72 (.len false (.t 71)),zw 69 true 73 (zd 3 4),zw 69 true 74 (zg 1 73),zw 69 true 75 (.bin .neq .no (.t 72) (.t 74)),zw 65 false 76 (.pick (.t 69) (.t 75) (.c (.bool false))),zv 77 (.pick (.t 65) (.c (.bool true)) (.t 76))]
def qbpp:IC:=zr [zv 2 zf]
def qbjc:IC:=zr [zv 78 (zd 1 4),zv 79 (zg 1 78),zi 80 (zk 179 [((.t 79),(.sl 3)),((.c (.fn 180 [] [])),.id)]),zv 81 (.un .not (.t 80)),zm 2 81]
def k0bh:IC:=(.seq qbiw (.seq qbig (.seq (.seq qx7 (.cond (.t 39) (.seq qbgb .ret) .skip)) (.seq (.seq qbpg (.cond (.t 53) (.seq qbnl .ret) .skip)) (.seq (.seq qbbs (.cond (.t 77) (.seq qbpp .ret) .skip)) (.seq qbjc .ret))))))
@[go_sem] def s0bh:List (RV×Co):=[(.t 2,.id)]
theorem c0bh:cFun Tryz.prog 127 = some (82,k0bh,s0bh):=by kernel_rfl

def q9w:IC:=zr [zv 4 zf]
def qbo9:IC:=zr [zm 5 0,zm 6 1,zi 7 (zk 181 [((.t 5),(.sl 6)),zI 6]),zv 8 (.bin .geq .no (.t 7) (zc 0)),zm 4 8]
def k0bl:IC:=(.seq q9w (.seq qbo9 .ret))
@[go_sem] def s0bl:List (RV×Co):=[(.t 4,.id)]
theorem c0bl:cFun Tryz.prog 128 = some (9,k0bl,s0bl):=by kernel_rfl

def qbe8:IC:=zr [zi 1 (.box (.t 0)),zv 2 zf]
def qbhq:IC:=zr [zv 3 (zd 1 0),zv 4 (zg 1 3),zv 5 (.bin .neq .no (.t 4) (zc 9)),zm 6 5,zw 6 false 7 (zl 6 1),zj 6 false 8 (zk 127 [((.t 7),(.agg [.id,.id,.id,(.sl 1),(.sl 3),(.sl 6)]))]),zw 6 false 9 (.un .not (.t 8)),zv 10 (.pick (.t 6) (.c (.bool true)) (.t 9)),zm 11 10,zw 11 false 12 (zd 1 5),zw 11 false 13 (zg 1 12),zw 11 false 14 (.iad 6 (.t 13) (zc 0)),zw 11 false 15 (zl 6 14),zj 11 false 16 (zk 130 [((.t 15),(.agg [.id,.id,.id,(.sl 1),(.sl 3),(.sl 6)]))]),zw 11 false 17 (.un .not (.t 16)),zv 18 (.pick (.t 11) (.c (.bool true)) (.t 17)),zm 19 18,zw 19 false 20 (zd 1 5),zw 19 false 21 (zg 1 20),zw 19 false 22 (.iad 6 (.t 21) (zc 1)),zw 19 false 23 (zl 6 22),zj 19 false 24 (zk 86 [((.t 23),(.agg [.id,.id,.id,(.sl 1),(.sl 3),(.sl 6)]))]),zw 19 false 25 (.un .not (.t 24)),zv 26 (.pick (.t 19) (.c (.bool true)) (.t 25)),zm 2 26]
def k0bf:IC:=(.seq qbe8 (.seq qbhq .ret))
@[go_sem] def s0bf:List (RV×Co):=[(.t 2,.id)]
theorem c0bf:cFun Tryz.prog 129 = some (27,k0bf,s0bf):=by kernel_rfl

def qbpm:IC:=zr [zi 1 (.box (.t 0)),zv 2 zf]
def qbka:IC:=zr [zv 3 (zd 1 0),zv 4 (zg 1 3),zv 5 (.bin .geq .no (.t 4) (zc 21)),zm 6 5,zw 6 true 7 (zl 6 1),zj 6 true 8 (zk 127 [((.t 7),(.agg [.id,.id,.id,(.sl 1),(.sl 3),(.sl 6)]))]),zv 9 (.pick (.t 6) (.t 8) (.c (.bool false))),zm 10 9,zw 10 true 11 (zd 1 5),zw 10 true 12 (zg 1 11),zj 10 true 13 (zk 128 [((.t 12),(.sl 6)),((.c (.fn 182 [] [])),.id)]),zw 10 true 14 (.un .not (.t 13)),zv 15 (.pick (.t 10) (.t 14) (.c (.bool false))),zm 2 15]
def k0bc:IC:=(.seq qbpm (.seq qbka .ret))
@[go_sem] def s0bc:List (RV×Co):=[(.t 2,.id)]
theorem c0bc:cFun Tryz.prog 130 = some (16,k0bc,s0bc):=by kernel_rfl

def qbb7:IC:=zr [zi 1 (.box (.t 0)),zv 2 zf]
def qbin:IC:=zr [zv 3 (zd 1 0),zv 4 (zg 1 3),zv 5 (.bin .neq .no (.t 4) (zc 11)),zm 6 5,zw 6 false 7 (zl 6 1),zj 6 false 8 (zk 127 [((.t 7),(.agg [.id,.id,.id,(.sl 1),(.sl 3),(.sl 6)]))]),zw 6 false 9 (.un .not (.t 8)),zv 10 (.pick (.t 6) (.c (.bool true)) (.t 9)),zm 11 10,zw 11 false 12 (zd 1 5),zw 11 false 13 (zg 1 12),zw 11 false 14 (.iad 6 (.t 13) (zc 0)),zw 11 false 15 (zl 6 14),zj 11 false 16 (zk 86 [((.t 15),(.agg [.id,.id,.id,(.sl 1),(.sl 3),(.sl 6)]))]),zw 11 false 17 (.un .not (.t 16)),zv 18 (.pick (.t 11) (.c (.bool true)) (.t 17)),zm 2 18]
def k0be:IC:=(.seq qbb7 (.seq qbin .ret))
@[go_sem] def s0be:List (RV×Co):=[(.t 2,.id)]
theorem c0be:cFun Tryz.prog 131 = some (19,k0be,s0be):=by kernel_rfl

def q96:IC:=zr [zi 1 (.box (.t 0)),zv 2 zf]
def qbmu:IC:=zr [zv 3 (zl 6 1),zi 4 (zk 86 [((.t 3),(.agg [.id,.id,.id,(.sl 1),(.sl 3),(.sl 6)]))]),zv 5 (.un .not (.t 4)),zm 2 5]
def k0bd:IC:=(.seq q96 (.seq qbmu .ret))
@[go_sem] def s0bd:List (RV×Co):=[(.t 2,.id)]
theorem c0bd:cFun Tryz.prog 132 = some (6,k0bd,s0bd):=by kernel_rfl

def qbpj:IC:=zr [zv 2 zf]
def qbjq:IC:=zr [zm 3 0,zv 4 (.bin .neq .no (.t 3) (.c (.str []))),zm 5 4,zw 5 true 6 (zo 0),zw 5 true 7 (.idx (.t 6) (zc 0)),zj 5 true 8 (zk 199 [zI 7]),zv 9 (.pick (.t 5) (.t 8) (.c (.bool false))),zm 10 9,zw 10 true 11 (zo 0),zj 10 true 12 (zk 197 [zI 11]),zv 13 (.pick (.t 10) (.t 12) (.c (.bool false))),zm 2 13]
def k0cl:IC:=(.seq qbpj (.seq qbjq .ret))
@[go_sem] def s0cl:List (RV×Co):=[(.t 2,.id)]
theorem c0cl:cFun Tryz.prog 148 = some (14,k0cl,s0cl):=by kernel_rfl

def qba6:IC:=zr [zv 2 zf]
def qbb2:IC:=zr [zm 5 0,zi 6 (zk 205 [zI 5,((.c (.str [33])),.id)]),zv 7 (.un .not (.t 6))]
def qbbr:IC:=zr [zv 2 zf]
def qbpn:IC:=zr [zm 9 0,zv 10 (.sls (.t 9) (some (zc 1)) none),zi 11 (zk 206 [zI 10]),zm 8 11,zv 12 (zx 8 0),zv 13 (zx 8 1),zm 3 12,zm 4 13]
def qbnt:IC:=.drw [zp (zm 14 4),zp (zv 15 (zq (.t 14) (zc 0))),zp (zm 16 15),zp (zw 16 true 17 (zo 3)),(zj 16 true 18 (zk 52 [zI 17]),[]),zp (zw 16 true 19 (zo 0)),zp (zw 16 true 20 (.sls (.t 19) (some (zc 1)) none)),zp (zw 16 true 21 (zq (.t 18) (.t 20))),zp (zv 22 (.pick (.t 16) (.t 21) (.c (.bool false)))),zp (zm 2 22)]
def k0ca:IC:=(.seq qba6 (.seq (.seq qbb2 (.cond (.t 7) (.seq qbbr .ret) .skip)) (.seq qbpn (.seq qbnt .ret))))
@[go_sem] def s0ca:List (RV×Co):=[(.t 2,.id)]
theorem c0ca:cFun Tryz.prog 152 = some (23,k0ca,s0ca):=by kernel_rfl

def qbel:IC:=zr [zv 2 (.mov (.c (.str [])))]
def qbef:IC:=zr [zm 4 0,zv 5 (.bin .lss .no (.t 4) (zc 0))]
def qbgr:IC:=zr [zv 2 (.mov (.c (.str [])))]
def qbav:IC:=zr [zm 6 0,zv 7 (.bin .rem .no (.t 6) (zc 26)),zv 8 (.bin .add .no (zc 97) (.t 7)),zv 9 (.cvi .u8 (.t 8)),zv 10 (.bsl 1 [zI 9]),zv 11 (.cbs (.t 10)),zm 3 11]
def qbct:IC:=zr [zm 12 0,zv 13 (.bin .lss .no (.t 12) (zc 26))]
def qbny:IC:=zr [zm 14 3,zm 2 14]
def qbd1:IC:=zr [zm 15 3,zm 16 0,zv 17 (.bin .quo .no (.t 16) (zc 26)),zi 18 (zk 52 [zI 17]),zv 19 (.bin .add .no (.t 15) (.t 18)),zm 2 19]
def k0cp:IC:=(.seq qbel (.seq (.seq qbef (.cond (.t 5) (.seq qbgr .ret) .skip)) (.seq qbav (.seq (.seq qbct (.cond (.t 13) (.seq qbny .ret) .skip)) (.seq qbd1 .ret)))))
@[go_sem] def s0cp:List (RV×Co):=[(.t 2,.id)]
theorem c0cp:cFun Tryz.prog 154 = some (20,k0cp,s0cp):=by kernel_rfl

def qbnr:IC:=zr [zv 6 (.mov (zc 0)),zv 7 zf]
def qbmq:IC:=zr [zm 12 0,zv 13 (.len false (.t 12)),zm 8 13]
def qbar:IC:=zr [zm 14 8,zv 9 (.mov (zc 0)),zm 10 14]
def qbdn:IC:=zr [zm 15 9,zm 16 10,zv 17 (.bin .lss .no (.t 15) (.t 16))]
def qbnk:IC:=zr [zm 18 9,zm 19 10,zv 20 (.bin .add .no (.t 18) (.t 19)),zv 21 (.cvi .u64 (.t 20)),zv 22 (.bin .shr .no (.t 21) (.c (.int .u64 1))),zv 23 (.cvi .i64 (.t 22)),zm 11 23]
def qbn8:IC:=zr [zm 24 2,zm 25 0,zm 26 11,zv 27 (.iad 4 (.t 25) (.t 26)),zv 28 (zl 4 27),zm 29 1,zi 30 (.call (.t 24) [((.t 28),(.agg [.id,.id,.id,(.sl 3)])),zI 29]),zv 31 (.bin .lss .no (.t 30) (zc 0))]
def qbjf:IC:=zr [zm 32 11,zv 33 (.bin .add .no (.t 32) (zc 1)),zm 9 33]
def qbc1:IC:=zr [zm 34 11,zm 10 34]
def qbkk:IC:=(.seq (.seq qbdn (.cond (.t 17) .skip (.exit 0))) (.block 1 (.seq qbnk (.seq qbn8 (.cond (.t 31) qbjf qbc1)))))
def q4d:IC:=zr [zm 35 9,zm 36 9,zm 37 8,zv 38 (.bin .lss .no (.t 36) (.t 37)),zm 39 38,zw 39 true 40 (zo 2),zw 39 true 41 (zo 0),zw 39 true 42 (zo 9),zw 39 true 43 (.iad 4 (.t 41) (.t 42)),zw 39 true 44 (zl 4 43),zw 39 true 45 (zo 1),zj 39 true 46 (.call (.t 40) [((.t 44),(.agg [.id,.id,.id,(.sl 3)])),zI 45]),zw 39 true 47 (zq (.t 46) (zc 0)),zv 48 (.pick (.t 39) (.t 47) (.c (.bool false))),zm 6 35,zm 7 48]
def k0dd:IC:=(.seq qbnr (.seq qbmq (.seq qbar (.seq (.block 0 (.loop qbkk)) (.seq q4d .ret)))))
@[go_sem] def s0dd:List (RV×Co):=[(.t 6,.id),(.t 7,.id)]
theorem c0dd:cFun Tryz.prog 155 = some (49,k0dd,s0dd):=by kernel_rfl

def qboi:IC:=zr [zi 2 (.box (.t 0)),zv 4 (.mov (zc 0))]
def qbal:IC:=zr [zv 6 (zd 2 0),zv 7 (zg 1 6),zm 8 1,zv 9 (.bin .lss .no (.t 7) (.t 8)),zm 5 9]
def qbco:IC:=zr [zv 4 (.mov (zc (-1)))]
def qbkv:IC:=zr [zv 11 (zd 2 0),zv 12 (zg 1 11),zm 13 1,zv 14 (.bin .gtr .no (.t 12) (.t 13)),zm 10 14]
def qbcy:IC:=zr [zv 4 (.mov (zc 1))]
def qbeg:IC:=zr [zv 4 (.mov (zc 0))]
def k0df:IC:=(.seq qboi (.seq (.block 0 (.seq qbal (.cond (.t 5) (.seq qbco .ret) (.seq qbkv (.cond (.t 10) (.seq qbcy .ret) .skip))))) (.seq qbeg .ret)))
@[go_sem] def s0df:List (RV×Co):=[(.t 4,.id)]
theorem c0df:cFun Tryz.prog 156 = some (15,k0df,s0df):=by kernel_rfl

def qbaq:IC:=zr [zm 5 1,zv 6 (.len false (.t 5)),zv 7 (.bin .sub .no (.t 6) (zc 1)),zm 4 7]
def qbmd:IC:=zr [zm 8 4,zv 9 (.bin .geq .no (.t 8) (zc 0))]
def qbmp:IC:=.drw [zp (zm 12 0),zp (zm 13 0),zp (zv 14 (.nck (.t 13))),zp (zv 15 (zd 14 0)),zp (zv 16 (zg 1 15)),zp (zm 17 1),zp (zm 18 4),zp (zv 19 (.iad 6 (.t 17) (.t 18))),zp (zv 20 (zl 6 19)),(zv 21 (.bsl 6 [((.t 20),(.agg [.id,.id,(.sl 3),.id,.id,(.sl 3)]))]),[]),(zi 22 (.app 6 (.agg [(.str []),(.int .i64 0),.nils,(.str []),(.int .i64 0),.nils]) 96 (.sl 6) (.t 16) (.t 21)),[]),zp (zv 23 (.nck (.t 12))),zp (zv 24 (zd 23 0)),(zn (.st 1 (.sl 6) (.t 24) (.t 22)),[])]
def qbei:IC:=zr [zm 10 4,zv 11 (.bin .sub .no (.t 10) (zc 1)),zm 4 11]
def qbgi:IC:=(.seq (.seq qbmd (.cond (.t 9) .skip (.exit 0))) (.seq (.block 1 qbmp) qbei))
def k0dr:IC:=(.seq qbaq (.block 0 (.loop qbgi)))
@[go_sem] def s0dr:List (RV×Co):=[]
theorem c0dr:cFun Tryz.prog 159 = some (25,k0dr,s0dr):=by kernel_rfl

def qbes:IC:=zr [zi 2 (.alo [(.str []),(.int .i64 0),.nils,(.str []),(.int .i64 0),.nils]),zv 3 zf]
def qboh:IC:=zr [zi 4 (.alo [(.str []),(.int .i64 0),.nils,(.str []),(.int .i64 0),.nils])]
def q9s:IC:=zr [zm 6 0,zv 7 (.nck (.t 6)),zv 8 (zd 7 0),zv 9 (zg 1 8),zv 10 (.len false (.t 9)),zv 11 (.bin .sub .no (.t 10) (zc 1)),zm 5 11]
def qbdm:IC:=zr [zm 12 5,zv 13 (.bin .lss .no (.t 12) (zc 0))]
def qbe7:IC:=zr [zv 14 (zl 6 4),zn (.st 6 (.agg [.id,.id,(.sl 3),.id,.id,(.sl 3)]) (.t 2) (.t 14)),zv 3 zf]
def qbom:IC:=zr [zm 15 0,zv 16 (.nck (.t 15)),zv 17 (zd 16 0),zv 18 (zg 1 17),zm 19 5,zv 20 (.iad 6 (.t 18) (.t 19)),zv 21 (zl 6 20),zn (.st 6 (.agg [.id,.id,(.sl 3),.id,.id,(.sl 3)]) (.t 4) (.t 21))]
def qbj0:IC:=zr [zm 22 0,zm 23 0,zv 24 (.nck (.t 23)),zv 25 (zd 24 0),zv 26 (zg 1 25),zm 27 5,zv 28 (.slv 6 (.t 26) none (some (.t 27)) none),zv 29 (.nck (.t 22)),zv 30 (zd 29 0),zn (.st 1 (.sl 6) (.t 30) (.t 28))]
def qbid:IC:=zr [zv 31 (zl 6 4),zn (.st 6 (.agg [.id,.id,(.sl 3),.id,.id,(.sl 3)]) (.t 2) (.t 31)),zv 3 (.mov (.c (.bool true)))]
def k0ds:IC:=(.seq qbes (.seq qboh (.seq q9s (.seq (.seq qbdm (.cond (.t 13) (.seq qbe7 .ret) .skip)) (.seq qbom (.seq qbj0 (.seq qbid .ret)))))))
@[go_sem] def s0ds:List (RV×Co):=[(.c true 6 2,(.agg [.id,.id,(.sl 3),.id,.id,(.sl 3)])),(.t 3,.id)]
theorem c0ds:cFun Tryz.prog 160 = some (32,k0ds,s0ds):=by kernel_rfl

def q9z:IC:=zr [zi 4 (.box (.t 1)),zv 6 (.mov (.c .nilp)),zv 7 (.mov (zc 0))]
def qbjx:IC:=zr [zm 12 0,zv 13 (zd 4 0),zv 14 (zl 3 13),zi 15 (zk 53 [zI 12,((.t 14),(.agg [.id,.id,(.sl 3)]))]),zm 11 15,zv 16 (zx 11 0),zv 17 (zx 11 1),zi 8 (.alo [(.str []),(.int .i64 0),.nils]),zn (.st 3 (.agg [.id,.id,(.sl 3)]) (.t 8) (.t 16)),zm 9 17]
def qbc8:IC:=zr [zm 18 9,zv 19 (.bin .neq .no (.t 18) (zc 0))]
def qbbo:IC:=zr [zm 20 9,zv 6 (.mov (.c .nilp)),zm 7 20]
def qbjw:IC:=zr [zm 22 0,zv 23 (zd 4 3),zv 24 (zl 3 23),zi 25 (zk 53 [zI 22,((.t 24),(.agg [.id,.id,(.sl 3)]))]),zm 21 25,zv 26 (zx 21 0),zv 27 (zx 21 1),zi 10 (.alo [(.str []),(.int .i64 0),.nils]),zn (.st 3 (.agg [.id,.id,(.sl 3)]) (.t 10) (.t 26)),zm 9 27]
def q93:IC:=zr [zm 29 9,zv 30 (.bin .neq .no (.t 29) (zc 0)),zm 28 30]
def qbew:IC:=zr [zm 31 9,zv 6 (.mov (.c .nilp)),zm 7 31]
def qbg4:IC:=zr [zv 33 (zd 8 0),zv 34 (zg 1 33),zv 35 (zq (.t 34) (.c (.str []))),zm 32 35]
def qbhg:IC:=zr [zm 36 0,zv 37 (zd 8 1),zv 38 (zg 1 37),zv 39 (zl 3 10),zi 40 (zk 209 [zI 36,zI 38,((.t 39),(.agg [.id,.id,(.sl 3)]))]),zv 41 (zx 40 0),zv 42 (zx 40 1),zm 6 41,zm 7 42]
def qbm3:IC:=zr [zv 44 (zd 10 0),zv 45 (zg 1 44),zv 46 (zq (.t 45) (.c (.str []))),zm 43 46]
def q2e:IC:=zr [zm 47 0,zv 48 (zd 10 1),zv 49 (zg 1 48),zv 50 (zl 3 8),zi 51 (zk 209 [zI 47,zI 49,((.t 50),(.agg [.id,.id,(.sl 3)]))]),zv 52 (zx 51 0),zv 53 (zx 51 1),zm 6 52,zm 7 53]
def q7t:IC:=zr [zv 55 (zd 8 0),zv 56 (zg 1 55),zv 57 (zd 10 0),zv 58 (zg 1 57),zv 59 (.bin .neq .no (.t 56) (.t 58)),zm 60 59,zw 60 false 61 (zd 8 2),zw 60 false 62 (zg 1 61),zw 60 false 63 (.len false (.t 62)),zw 60 false 64 (zd 10 2),zw 60 false 65 (zg 1 64),zw 60 false 66 (.len false (.t 65)),zw 60 false 67 (.bin .neq .no (.t 63) (.t 66)),zv 68 (.pick (.t 60) (.c (.bool true)) (.t 67)),zm 54 68]
def q4w:IC:=zr [zv 6 (.mov (.c .nilp)),zv 7 (.mov (zc 14))]
def q1k:IC:=zr [zm 69 2,zv 70 (zd 8 2),zv 71 (zg 1 70),zv 72 (zd 10 2),zv 73 (zg 1 72),zi 74 (zk 210 [((.t 71),(.sl 3)),((.t 73),(.sl 3))]),zi 75 (zk 159 [zI 69,((.t 74),(.sl 6))])]
def q2u:IC:=zr [zm 76 0,zm 6 76,zv 7 (.mov (zc 0))]
def k0dn:IC:=(.seq q9z (.seq qbjx (.seq (.seq qbc8 (.cond (.t 19) (.seq qbbo .ret) .skip)) (.seq qbjw (.seq (.block 0 (.seq q93 (.cond (.t 28) (.seq qbew .ret) (.seq qbg4 (.cond (.t 32) (.seq qbhg .ret) (.seq qbm3 (.cond (.t 43) (.seq q2e .ret) (.seq q7t (.cond (.t 54) (.seq q4w .ret) .skip))))))))) (.seq q1k (.seq q2u .ret)))))))
@[go_sem] def s0dn:List (RV×Co):=[(.t 6,.id),(.t 7,.id)]
theorem c0dn:cFun Tryz.prog 161 = some (77,k0dn,s0dn):=by kernel_rfl

def q9r:IC:=zr [zi 1 (.box (.t 0)),zv 2 (.mov (.c (.str []))),zi 3 (.alo [(.str []),(.int .i64 0),.nils]),zv 4 zf]
def qbmk:IC:=zr [zv 9 (zd 1 0),zv 10 (zg 1 9),zi 11 (zk 218 [zI 10,((.c (.str [123])),.id)]),zm 8 11,zv 12 (zx 8 0),zv 13 (zx 8 1),zm 5 12,zm 6 13]
def qbg9:IC:=zr [zm 15 5,zi 16 (zk 219 [zI 15,((.c (.str [125])),.id)]),zm 14 16,zv 17 (zx 14 0),zv 18 (zx 14 1),zm 5 17,zm 7 18]
def qbb9:IC:=zr [zm 19 6,zv 20 (.un .not (.t 19)),zm 21 20,zw 21 false 22 (zo 7),zw 21 false 23 (.un .not (.t 22)),zv 24 (.pick (.t 21) (.c (.bool true)) (.t 23)),zm 25 24,zw 25 false 26 (zo 5),zj 25 false 27 (zk 148 [zI 26]),zw 25 false 28 (.un .not (.t 27)),zv 29 (.pick (.t 25) (.c (.bool true)) (.t 28)),zm 30 29,zw 30 false 31 (zd 1 2),zw 30 false 32 (zg 1 31),zw 30 false 33 (.len false (.t 32)),zw 30 false 34 (.bin .neq .no (.t 33) (zc 1)),zv 35 (.pick (.t 30) (.c (.bool true)) (.t 34)),zm 36 35,zw 36 false 37 (zd 1 1),zw 36 false 38 (zg 1 37),zw 36 false 39 (.bin .neq .no (.t 38) (zc 0)),zv 40 (.pick (.t 36) (.c (.bool true)) (.t 39))]
def q88:IC:=zr [zv 41 (.bld [(.str []),(.int .i64 0),.nils] []),zv 2 (.mov (.c (.str []))),zn (.st 3 (.agg [.id,.id,(.sl 3)]) (.t 3) (.t 41)),zv 4 zf]
def qbe9:IC:=.drw [zp (zm 42 5),zp (zv 43 (zd 1 2)),zp (zv 44 (zg 1 43)),zp (zv 45 (.iad 3 (.t 44) (zc 0))),zp (zv 46 (zl 3 45)),zp (zm 2 42),(zn (.st 3 (.agg [.id,.id,(.sl 3)]) (.t 3) (.t 46)),[]),zp (zv 4 (.mov (.c (.bool true))))]
def k0bw:IC:=(.seq q9r (.seq qbmk (.seq qbg9 (.seq (.seq qbb9 (.cond (.t 40) (.seq q88 .ret) .skip)) (.seq qbe9 .ret)))))
@[go_sem] def s0bw:List (RV×Co):=[(.t 2,.id),(.c true 3 3,(.agg [.id,.id,(.sl 3)])),(.t 4,.id)]
theorem c0bw:cFun Tryz.prog 174 = some (47,k0bw,s0bw):=by kernel_rfl

def qbjh:IC:=zr [zi 3 (.box (.t 0)),zv 5 zf]
def qbez:IC:=zr [zv 6 (zg 1 2),zv 7 (.bin .add .no (.t 6) (zc 1)),zn (.st 1 .id (.t 2) (.t 7))]
def qbcg:IC:=zr [zv 5 (.mov (.c (.bool true)))]
def k0cw:IC:=(.seq qbjh (.seq qbez (.seq qbcg .ret)))
@[go_sem] def s0cw:List (RV×Co):=[(.t 5,.id)]
theorem c0cw:cFun Tryz.prog 175 = some (8,k0cw,s0cw):=by kernel_rfl

def qbod:IC:=zr [zi 3 (.box (.t 0)),zv 5 zf]
def qbd7:IC:=zr [zv 6 (zg 1 2),zm 7 1,zv 8 (.mm true (.t 6) (.t 7)),zn (.st 1 .id (.t 2) (.t 8))]
def qbhj:IC:=zr [zv 5 (.mov (.c (.bool true)))]
def k0cx:IC:=(.seq qbod (.seq qbd7 (.seq qbhj .ret)))
@[go_sem] def s0cx:List (RV×Co):=[(.t 5,.id)]
theorem c0cx:cFun Tryz.prog 176 = some (9,k0cx,s0cx):=by kernel_rfl

def qbtg:IC:=zr [zi 3 (.box (.t 0)),zv 6 zf]
def qbyd:IC:=zr [zm 9 2,zm 10 1,zv 11 (zl 6 3),zi 12 (.call (.t 9) [zI 10,((.t 11),(.agg [.id,.id,.id,(.sl 1),(.sl 3),(.sl 6)]))]),zv 13 (.un .not (.t 12))]
def qbr9:IC:=zr [zv 6 zf]
def qbup:IC:=zr [zv 14 (zd 3 5),zv 15 (zg 1 14),zv 16 (.len false (.t 15)),zv 17 (.mov (zc 0))]
def qbq8:IC:=zr [zv 18 (.bin .lss .no (.t 17) (.t 16))]
def qbv7:IC:=zr [zv 19 (.iad 6 (.t 15) (.t 17)),zv 20 (zl 6 19),zi 8 (.alo [(.int .i64 0),(.int .i64 0),(.str []),.nils,.nils,.nils]),zn (.st 6 (.agg [.id,.id,.id,(.sl 1),(.sl 3),(.sl 6)]) (.t 8) (.t 20))]
def qbx9:IC:=zr [zv 21 (zl 6 8),zm 22 1,zv 23 (.bin .add .no (.t 22) (zc 1)),zm 24 2,zi 25 (zk 177 [((.t 21),(.agg [.id,.id,.id,(.sl 1),(.sl 3),(.sl 6)])),zI 23,zI 24]),zv 26 (.un .not (.t 25))]
def qbvs:IC:=zr [zv 6 zf]
def qbu4:IC:=zr [zv 27 (.bin .add .no (.t 17) (zc 1)),zm 17 27]
def qbwj:IC:=(.seq qbq8 (.seq (.cond (.t 18) .skip (.exit 0)) (.seq (.block 1 (.seq qbv7 (.seq qbx9 (.cond (.t 26) (.seq qbvs .ret) .skip)))) qbu4)))
def qbb6:IC:=zr [zv 6 (.mov (.c (.bool true)))]
def k0z:IC:=(.seq qbtg (.seq (.seq qbyd (.cond (.t 13) (.seq qbr9 .ret) .skip)) (.seq (.seq qbup (.block 0 (.loop qbwj))) (.seq qbb6 .ret))))
@[go_sem] def s0z:List (RV×Co):=[(.t 6,.id)]
theorem c0z:cFun Tryz.prog 177 = some (28,k0z,s0z):=by kernel_rfl

def qbgd:IC:=zr [zi 2 (.alo [(.bool false),(.bool false),(.bool false),(.int .i64 0),(.int .i64 0)]),zv 3 zf]
def qbd0:IC:=zr [zm 4 0]
def qbbl:IC:=zr [zv 6 (zq (.t 4) (zc 1)),zm 5 6]
def qbek:IC:=zr [zv 7 (zq (.t 4) (zc 21)),zm 5 7]
def qbcl:IC:=zr [zv 8 (.bld [(.bool false),(.bool false),(.bool false),(.int .i64 0),(.int .i64 0)] [(0,1,(.c (.bool true)))]),zn (.st 5 .id (.t 2) (.t 8)),zv 3 (.mov (.c (.bool true)))]
def qbds:IC:=zr [zv 10 (zq (.t 4) (zc 2)),zm 9 10]
def qbj5:IC:=zr [zv 11 (zq (.t 4) (zc 14)),zm 9 11]
def qbl7:IC:=zr [zv 12 (zq (.t 4) (zc 23)),zm 9 12]
def qbbq:IC:=zr [zv 13 (.bld [(.bool false),(.bool false),(.bool false),(.int .i64 0),(.int .i64 0)] [(1,1,(.c (.bool true)))]),zn (.st 5 .id (.t 2) (.t 13)),zv 3 (.mov (.c (.bool true)))]
def qbi4:IC:=zr [zv 15 (zq (.t 4) (zc 22)),zm 14 15]
def q3r:IC:=zr [zv 16 (.bld [(.bool false),(.bool false),(.bool false),(.int .i64 0),(.int .i64 0)] []),zn (.st 5 .id (.t 2) (.t 16)),zv 3 (.mov (.c (.bool true)))]
def q6b:IC:=zr [zv 18 (zq (.t 4) (zc 3)),zm 17 18]
def q6j:IC:=zr [zv 19 (zq (.t 4) (zc 11)),zm 17 19]
def q4g:IC:=zr [zv 20 (.bld [(.bool false),(.bool false),(.bool false),(.int .i64 0),(.int .i64 0)] [(0,1,(.c (.bool true))),(3,1,(zc 1)),(4,1,(zc 1))]),zn (.st 5 .id (.t 2) (.t 20)),zv 3 (.mov (.c (.bool true)))]
def q46:IC:=zr [zv 22 (zq (.t 4) (zc 4)),zm 21 22]
def q4c:IC:=zr [zv 23 (zq (.t 4) (zc 9)),zm 21 23]
def q75:IC:=zr [zv 24 (.bld [(.bool false),(.bool false),(.bool false),(.int .i64 0),(.int .i64 0)] [(4,1,(zc 2))]),zn (.st 5 .id (.t 2) (.t 24)),zv 3 (.mov (.c (.bool true)))]
def q6a:IC:=zr [zv 26 (zq (.t 4) (zc 5)),zm 25 26]
def q2q:IC:=zr [zv 27 (.bld [(.bool false),(.bool false),(.bool false),(.int .i64 0),(.int .i64 0)] [(4,1,(zc 1))]),zn (.st 5 .id (.t 2) (.t 27)),zv 3 (.mov (.c (.bool true)))]
def q7k:IC:=zr [zv 29 (zq (.t 4) (zc 6)),zm 28 29]
def q6s:IC:=zr [zv 30 (.bld [(.bool false),(.bool false),(.bool false),(.int .i64 0),(.int .i64 0)] [(3,1,(zc (-1))),(4,1,(zc 1))]),zn (.st 5 .id (.t 2) (.t 30)),zv 3 (.mov (.c (.bool true)))]
def q4m:IC:=zr [zv 32 (zq (.t 4) (zc 7)),zm 31 32]
def q7n:IC:=zr [zv 33 (.bld [(.bool false),(.bool false),(.bool false),(.int .i64 0),(.int .i64 0)] [(0,1,(.c (.bool true))),(3,1,(zc (-1)))]),zn (.st 5 .id (.t 2) (.t 33)),zv 3 (.mov (.c (.bool true)))]
def q7z:IC:=zr [zv 35 (zq (.t 4) (zc 8)),zm 34 35]
def q69:IC:=zr [zv 36 (zq (.t 4) (zc 10)),zm 34 36]
def q3e:IC:=zr [zv 37 (.bld [(.bool false),(.bool false),(.bool false),(.int .i64 0),(.int .i64 0)] [(4,1,(zc (-1)))]),zn (.st 5 .id (.t 2) (.t 37)),zv 3 (.mov (.c (.bool true)))]
def q13:IC:=zr [zv 39 (zq (.t 4) (zc 12)),zm 38 39]
def q34:IC:=zr [zv 40 (.bld [(.bool false),(.bool false),(.bool false),(.int .i64 0),(.int .i64 0)] [(0,1,(.c (.bool true))),(3,1,(zc 1)),(4,1,(zc (-1)))]),zn (.st 5 .id (.t 2) (.t 40)),zv 3 (.mov (.c (.bool true)))]
def q4u:IC:=zr [zv 42 (zq (.t 4) (zc 13)),zm 41 42]
def q4i:IC:=zr [zv 43 (.bld [(.bool false),(.bool false),(.bool false),(.int .i64 0),(.int .i64 0)] [(0,1,(.c (.bool true))),(1,1,(.c (.bool true))),(2,1,(.c (.bool true))),(4,1,(zc 1))]),zn (.st 5 .id (.t 2) (.t 43)),zv 3 (.mov (.c (.bool true)))]
def q4k:IC:=zr [zv 45 (zq (.t 4) (zc 24)),zm 44 45]
def q3w:IC:=zr [zv 46 (.bld [(.bool false),(.bool false),(.bool false),(.int .i64 0),(.int .i64 0)] [(0,1,(.c (.bool true))),(4,1,(zc (-1)))]),zn (.st 5 .id (.t 2) (.t 46)),zv 3 (.mov (.c (.bool true)))]
def q64:IC:=zr [zv 47 (.bld [(.bool false),(.bool false),(.bool false),(.int .i64 0),(.int .i64 0)] []),zn (.st 5 .id (.t 2) (.t 47)),zv 3 zf]
def k0bm:IC:=(.seq qbgd (.seq (.seq qbd0 (.block 0 (.seq (.seq qbbl (.cond (.t 5) .skip qbek)) (.cond (.t 5) (.seq qbcl .ret) (.seq (.seq qbds (.cond (.t 9) .skip (.seq qbj5 (.cond (.t 9) .skip qbl7)))) (.cond (.t 9) (.seq qbbq .ret) (.seq qbi4 (.cond (.t 14) (.seq q3r .ret) (.seq (.seq q6b (.cond (.t 17) .skip q6j)) (.cond (.t 17) (.seq q4g .ret) (.seq (.seq q46 (.cond (.t 21) .skip q4c)) (.cond (.t 21) (.seq q75 .ret) (.seq q6a (.cond (.t 25) (.seq q2q .ret) (.seq q7k (.cond (.t 28) (.seq q6s .ret) (.seq q4m (.cond (.t 31) (.seq q7n .ret) (.seq (.seq q7z (.cond (.t 34) .skip q69)) (.cond (.t 34) (.seq q3e .ret) (.seq q13 (.cond (.t 38) (.seq q34 .ret) (.seq q4u (.cond (.t 41) (.seq q4i .ret) (.seq q4k (.cond (.t 44) (.seq q3w .ret) .skip)))))))))))))))))))))))))) (.seq q64 .ret)))
@[go_sem] def s0bm:List (RV×Co):=[(.c true 5 2,.id),(.t 3,.id)]
theorem c0bm:cFun Tryz.prog 178 = some (48,k0bm,s0bm):=by kernel_rfl

def qbd8:IC:=zr [zv 4 zf]
def qbck:IC:=zr [zm 5 0,zm 6 1,zi 7 (zk 220 [((.t 5),(.sl 3)),zI 6]),zv 8 (.bin .geq .no (.t 7) (zc 0)),zm 4 8]
def k0bj:IC:=(.seq qbd8 (.seq qbck .ret))
@[go_sem] def s0bj:List (RV×Co):=[(.t 4,.id)]
theorem c0bj:cFun Tryz.prog 179 = some (9,k0bj,s0bj):=by kernel_rfl

def qbpq:IC:=zr [zi 1 (.box (.t 0)),zv 2 zf]
def qbop:IC:=zr [zv 3 (zl 3 1),zi 4 (zk 82 [((.t 3),(.agg [.id,.id,(.sl 3)]))]),zv 5 (.un .not (.t 4)),zm 2 5]
def k0bg:IC:=(.seq qbpq (.seq qbop .ret))
@[go_sem] def s0bg:List (RV×Co):=[(.t 2,.id)]
theorem c0bg:cFun Tryz.prog 180 = some (6,k0bg,s0bg):=by kernel_rfl

def qbgx:IC:=zr [zv 4 (.mov (zc 0))]
def qbbn:IC:=zr [zm 6 0,zv 7 (.len false (.t 6)),zv 8 (.mov (zc 0))]
def qbh1:IC:=zr [zv 9 (.bin .lss .no (.t 8) (.t 7))]
def qbli:IC:=zr [zm 10 8,zm 5 10]
def qbie:IC:=zr [zm 11 1,zm 12 0,zm 13 5,zv 14 (.iad 6 (.t 12) (.t 13)),zv 15 (zl 6 14),zi 16 (.call (.t 11) [((.t 15),(.agg [.id,.id,.id,(.sl 1),(.sl 3),(.sl 6)]))])]
def qbb5:IC:=zr [zm 17 5,zm 4 17]
def q9v:IC:=zr [zv 18 (.bin .add .no (.t 8) (zc 1)),zm 8 18]
def qbbb:IC:=(.seq qbh1 (.seq (.cond (.t 9) .skip (.exit 0)) (.seq (.block 1 (.seq qbli (.seq qbie (.cond (.t 16) (.seq qbb5 .ret) .skip)))) q9v)))
def qbb4:IC:=zr [zv 4 (.mov (zc (-1)))]
def k0bk:IC:=(.seq qbgx (.seq (.seq qbbn (.block 0 (.loop qbbb))) (.seq qbb4 .ret)))
@[go_sem] def s0bk:List (RV×Co):=[(.t 4,.id)]
theorem c0bk:cFun Tryz.prog 181 = some (19,k0bk,s0bk):=by kernel_rfl

def qbit:IC:=zr [zi 1 (.box (.t 0)),zv 2 zf]
def qbcx:IC:=zr [zv 3 (zl 6 1),zi 4 (zk 130 [((.t 3),(.agg [.id,.id,.id,(.sl 1),(.sl 3),(.sl 6)]))]),zv 5 (.un .not (.t 4)),zm 2 5]
def k0bb:IC:=(.seq qbit (.seq qbcx .ret))
@[go_sem] def s0bb:List (RV×Co):=[(.t 2,.id)]
theorem c0bb:cFun Tryz.prog 182 = some (6,k0bb,s0bb):=by kernel_rfl

def qbbd:IC:=zr [zv 2 zf]
def qboj:IC:=zr [zm 3 0,zv 4 (.bin .geq .no (.t 3) (.c (.int .u8 97))),zm 5 4,zw 5 true 6 (zo 0),zw 5 true 7 (.bin .leq .no (.t 6) (.c (.int .u8 122))),zv 8 (.pick (.t 5) (.t 7) (.c (.bool false))),zm 9 8,zw 9 false 10 (zo 0),zw 9 false 11 (zq (.t 10) (.c (.int .u8 95))),zv 12 (.pick (.t 9) (.c (.bool true)) (.t 11)),zm 2 12]
def k0ci:IC:=(.seq qbbd (.seq qboj .ret))
@[go_sem] def s0ci:List (RV×Co):=[(.t 2,.id)]
theorem c0ci:cFun Tryz.prog 196 = some (13,k0ci,s0ci):=by kernel_rfl

def qbfl:IC:=zr [zv 2 zf]
def qbhd:IC:=zr [zm 5 0,zv 6 (.len true (.t 5)),zv 7 (.mov (zc 0))]
def qboc:IC:=zr [zv 8 (.bin .lss .no (.t 7) (.t 6))]
def qbic:IC:=zr [zm 9 7,zm 3 9]
def qblv:IC:=zr [zm 10 0,zm 11 3,zv 12 (.idx (.t 10) (.t 11)),zm 4 12]
def q98:IC:=zr [zm 13 4,zi 14 (zk 196 [zI 13]),zv 15 (.un .not (.t 14)),zm 16 15,zw 16 true 17 (zo 4),zj 16 true 18 (zk 199 [zI 17]),zw 16 true 19 (.un .not (.t 18)),zv 20 (.pick (.t 16) (.t 19) (.c (.bool false))),zm 21 20,zw 21 true 22 (zo 4),zw 21 true 23 (.bin .lss .no (.t 22) (.c (.int .u8 48))),zw 21 true 24 (zo 23),zw 24 false 25 (zo 4),zw 24 false 26 (.bin .gtr .no (.t 25) (.c (.int .u8 57))),zw 21 true 27 (.pick (.t 24) (.c (.bool true)) (.t 26)),zv 28 (.pick (.t 21) (.t 27) (.c (.bool false))),zm 29 28,zw 29 true 30 (zo 4),zw 29 true 31 (.bin .neq .no (.t 30) (.c (.int .u8 39))),zv 32 (.pick (.t 29) (.t 31) (.c (.bool false)))]
def qbol:IC:=zr [zv 2 zf]
def qbla:IC:=zr [zv 33 (.bin .add .no (.t 7) (zc 1)),zm 7 33]
def qbgt:IC:=(.seq qboc (.seq (.cond (.t 8) .skip (.exit 0)) (.seq (.block 1 (.seq qbic (.seq qblv (.seq q98 (.cond (.t 32) (.seq qbol .ret) .skip))))) qbla)))
def q1l:IC:=zr [zv 2 (.mov (.c (.bool true)))]
def k0ck:IC:=(.seq qbfl (.seq (.seq qbhd (.block 0 (.loop qbgt))) (.seq q1l .ret)))
@[go_sem] def s0ck:List (RV×Co):=[(.t 2,.id)]
theorem c0ck:cFun Tryz.prog 197 = some (34,k0ck,s0ck):=by kernel_rfl

def qbi5:IC:=zr [zv 2 zf]
def qbkn:IC:=zr [zm 3 0,zv 4 (.bin .geq .no (.t 3) (.c (.int .u8 65))),zm 5 4,zw 5 true 6 (zo 0),zw 5 true 7 (.bin .leq .no (.t 6) (.c (.int .u8 90))),zv 8 (.pick (.t 5) (.t 7) (.c (.bool false))),zm 2 8]
def k0cj:IC:=(.seq qbi5 (.seq qbkn .ret))
@[go_sem] def s0cj:List (RV×Co):=[(.t 2,.id)]
theorem c0cj:cFun Tryz.prog 199 = some (9,k0cj,s0cj):=by kernel_rfl

def qbjn:IC:=zr [zv 4 zf]
def qbeo:IC:=zr [zm 5 0,zm 6 1,zi 7 (zk 231 [zI 5,zI 6]),zm 4 7]
def k0cf:IC:=(.seq qbjn (.seq qbeo .ret))
@[go_sem] def s0cf:List (RV×Co):=[(.t 4,.id)]
theorem c0cf:cFun Tryz.prog 205 = some (8,k0cf,s0cf):=by kernel_rfl

def qbhr:IC:=zr [zv 2 (.mov (zc 0)),zv 3 (.mov (zc 0))]
def qbo2:IC:=zr [zm 8 0,zv 9 (.len true (.t 8)),zv 10 (.mov (zc 0))]
def qbki:IC:=zr [zv 11 (.bin .lss .no (.t 10) (.t 9))]
def qbl4:IC:=zr [zm 12 10,zm 4 12]
def qblj:IC:=zr [zm 13 0,zm 14 4,zv 15 (.idx (.t 13) (.t 14)),zv 16 (.bin .lss .no (.t 15) (.c (.int .u8 48))),zm 17 16,zw 17 false 18 (zo 0),zw 17 false 19 (zo 4),zw 17 false 20 (.idx (.t 18) (.t 19)),zw 17 false 21 (.bin .gtr .no (.t 20) (.c (.int .u8 57))),zv 22 (.pick (.t 17) (.c (.bool true)) (.t 21))]
def qbf4:IC:=zr [zv 2 (.mov (zc 0)),zv 3 (.mov (zc 5))]
def qbh9:IC:=zr [zv 23 (.bin .add .no (.t 10) (zc 1)),zm 10 23]
def qbke:IC:=(.seq qbki (.seq (.cond (.t 11) .skip (.exit 0)) (.seq (.block 1 (.seq qbl4 (.seq qblj (.cond (.t 22) (.seq qbf4 .ret) .skip)))) qbh9)))
def qbfw:IC:=zr [zm 24 0,zv 25 (zq (.t 24) (.c (.str [])))]
def q1j:IC:=zr [zv 2 (.mov (zc 0)),zv 3 (.mov (zc 5))]
def q2l:IC:=zr [zv 5 (.mov (zc 0)),zv 6 (.mov (zc 0))]
def q70:IC:=zr [zm 26 0,zm 27 6,zv 28 (.idx (.t 26) (.t 27)),zv 29 (.bin .sub .no (.t 28) (.c (.int .u8 48))),zv 30 (.cvi .i64 (.t 29)),zm 7 30]
def q68:IC:=zr [zm 31 5,zm 32 7,zv 33 (.bin .sub .no (zc 9223372036854775807) (.t 32)),zv 34 (.bin .quo .no (.t 33) (zc 10)),zv 35 (.bin .gtr .no (.t 31) (.t 34))]
def q47:IC:=zr [zv 2 (.mov (zc 0)),zv 3 (.mov (zc 4))]
def q2f:IC:=zr [zm 36 5,zv 37 (.bin .mul .no (zc 10) (.t 36)),zm 38 7,zv 39 (.bin .add .no (.t 37) (.t 38)),zm 5 39]
def q16:IC:=zr [zm 40 6,zv 41 (.bin .add .no (.t 40) (zc 1)),zm 6 41]
def q5p:IC:=zr [zm 42 6,zm 43 0,zv 44 (.len true (.t 43)),zv 45 (.bin .lss .no (.t 42) (.t 44))]
def q6t:IC:=zr [zm 46 5,zm 2 46,zv 3 (.mov (zc 0))]
def k0ch:IC:=(.seq qbhr (.scope (.seq (.seq qbo2 (.block 0 (.loop qbke))) (.seq (.seq qbfw (.cond (.t 25) (.seq q1j .ret) .skip)) (.seq q2l (.seq (.label 0) (.seq q70 (.seq (.seq q68 (.cond (.t 35) (.seq q47 .ret) .skip)) (.seq q2f (.seq (.seq q16 (.seq q5p (.cond (.t 45) (.goto 0) .skip))) (.seq q6t .ret)))))))))))
@[go_sem] def s0ch:List (RV×Co):=[(.t 2,.id),(.t 3,.id)]
theorem c0ch:cFun Tryz.prog 206 = some (47,k0ch,s0ch):=by kernel_rfl

def qbll:IC:=zr [zi 5 (.box (.t 2)),zv 6 (.mov (.c .nilp)),zv 7 (.mov (zc 0))]
def qbg1:IC:=zr [zv 9 (zd 5 0),zv 10 (zg 1 9),zv 11 (zq (.t 10) (.c (.str []))),zm 12 11,zw 12 true 13 (zd 5 1),zw 12 true 14 (zg 1 13),zw 12 true 15 (zo 1),zw 12 true 16 (zq (.t 14) (.t 15)),zv 17 (.pick (.t 12) (.t 16) (.c (.bool false))),zm 8 17]
def qbpb:IC:=zr [zm 18 0,zm 6 18,zv 7 (.mov (zc 0))]
def qbgm:IC:=zr [zv 20 (zl 3 5),zm 21 1,zi 22 (zk 233 [((.t 20),(.agg [.id,.id,(.sl 3)])),zI 21]),zm 19 22]
def qbbp:IC:=zr [zv 6 (.mov (.c .nilp)),zv 7 (.mov (zc 15))]
def qbim:IC:=zr [zm 23 0,zm 24 1,zv 25 (zl 3 5),zv 26 (.bld [(.int .i64 0),(.str []),(.int .i64 0),.nils] [(0,1,(.t 24)),(1,3,(.t 25))]),zv 27 (.bsl 4 [((.t 26),(.agg [.id,.id,.id,(.sl 3)]))]),zi 28 (zk 39 [((.t 27),(.sl 4))]),zi 29 (zk 71 [zI 23,zI 28]),zv 30 (zx 29 0),zv 31 (zx 29 1),zm 6 30,zm 7 31]
def k0dq:IC:=(.seq qbll (.seq (.block 0 (.seq qbg1 (.cond (.t 8) (.seq qbpb .ret) (.seq qbgm (.cond (.t 19) (.seq qbbp .ret) .skip))))) (.seq qbim .ret)))
@[go_sem] def s0dq:List (RV×Co):=[(.t 6,.id),(.t 7,.id)]
theorem c0dq:cFun Tryz.prog 209 = some (32,k0dq,s0dq):=by kernel_rfl

def qbiu:IC:=zr [zv 4 (.mov (.c .nils))]
def qblu:IC:=zr [zm 7 0,zv 8 (.len false (.t 7)),zi 9 (.mks 6 (.agg [(.str []),(.int .i64 0),.nils,(.str []),(.int .i64 0),.nils]) 96 (.t 8) (.t 8)),zm 5 9]
def qblr:IC:=zr [zm 10 0,zv 11 (.len false (.t 10)),zv 12 (.mov (zc 0))]
def qbdu:IC:=zr [zv 13 (.bin .lss .no (.t 12) (.t 11))]
def qbh4:IC:=zr [zm 14 12,zm 6 14]
def qbpe:IC:=.drw [zp (zm 15 5),zp (zm 16 6),zp (zm 17 0),zp (zm 18 6),zp (zv 19 (.iad 3 (.t 17) (.t 18))),zp (zv 20 (zl 3 19)),zp (zm 21 1),zp (zm 22 6),zp (zv 23 (.iad 3 (.t 21) (.t 22))),zp (zv 24 (zl 3 23)),(zv 25 (.bld [(.str []),(.int .i64 0),.nils,(.str []),(.int .i64 0),.nils] [(0,3,(.t 20)),(3,3,(.t 24))]),[]),zp (zv 26 (.iad 6 (.t 15) (.t 16))),(zn (.st 6 (.agg [.id,.id,(.sl 3),.id,.id,(.sl 3)]) (.t 26) (.t 25)),[])]
def qbi2:IC:=zr [zv 27 (.bin .add .no (.t 12) (zc 1)),zm 12 27]
def qbji:IC:=(.seq qbdu (.seq (.cond (.t 13) .skip (.exit 0)) (.seq (.block 1 (.seq qbh4 qbpe)) qbi2)))
def qbhu:IC:=zr [zm 28 5,zm 4 28]
def k0dp:IC:=(.seq qbiu (.seq qblu (.seq (.seq qblr (.block 0 (.loop qbji))) (.seq qbhu .ret))))
@[go_sem] def s0dp:List (RV×Co):=[(.t 4,(.sl 6))]
theorem c0dp:cFun Tryz.prog 210 = some (29,k0dp,s0dp):=by kernel_rfl

def qbdy:IC:=zr [zv 4 (.mov (.c (.str []))),zv 5 zf]
def qblx:IC:=zr [zm 6 0,zm 7 1,zi 8 (zk 240 [zI 6,zI 7]),zv 9 (zx 8 0),zv 10 (zx 8 1),zm 4 9,zm 5 10]
def k0bs:IC:=(.seq qbdy (.seq qblx .ret))
@[go_sem] def s0bs:List (RV×Co):=[(.t 4,.id),(.t 5,.id)]
theorem c0bs:cFun Tryz.prog 218 = some (11,k0bs,s0bs):=by kernel_rfl

def qbor:IC:=zr [zv 4 (.mov (.c (.str []))),zv 5 zf]
def qbjg:IC:=zr [zm 6 0,zm 7 1,zi 8 (zk 241 [zI 6,zI 7]),zv 9 (zx 8 0),zv 10 (zx 8 1),zm 4 9,zm 5 10]
def k0bv:IC:=(.seq qbor (.seq qbjg .ret))
@[go_sem] def s0bv:List (RV×Co):=[(.t 4,.id),(.t 5,.id)]
theorem c0bv:cFun Tryz.prog 219 = some (11,k0bv,s0bv):=by kernel_rfl

def qbh5:IC:=zr [zv 4 (.mov (zc 0))]
def qbng:IC:=zr [zm 6 0,zv 7 (.len false (.t 6)),zv 8 (.mov (zc 0))]
def q9j:IC:=zr [zv 9 (.bin .lss .no (.t 8) (.t 7))]
def qbhk:IC:=zr [zm 10 8,zm 5 10]
def qbao:IC:=zr [zm 11 1,zm 12 0,zm 13 5,zv 14 (.iad 3 (.t 12) (.t 13)),zv 15 (zl 3 14),zi 16 (.call (.t 11) [((.t 15),(.agg [.id,.id,(.sl 3)]))])]
def qbk5:IC:=zr [zm 17 5,zm 4 17]
def qbkd:IC:=zr [zv 18 (.bin .add .no (.t 8) (zc 1)),zm 8 18]
def qbc4:IC:=(.seq q9j (.seq (.cond (.t 9) .skip (.exit 0)) (.seq (.block 1 (.seq qbhk (.seq qbao (.cond (.t 16) (.seq qbk5 .ret) .skip)))) qbkd)))
def qbdq:IC:=zr [zv 4 (.mov (zc (-1)))]
def k0bi:IC:=(.seq qbh5 (.seq (.seq qbng (.block 0 (.loop qbc4))) (.seq qbdq .ret)))
@[go_sem] def s0bi:List (RV×Co):=[(.t 4,.id)]
theorem c0bi:cFun Tryz.prog 220 = some (19,k0bi,s0bi):=by kernel_rfl

def qbpf:IC:=zr [zv 2 zf]
def qbdo:IC:=zr [zm 3 0,zv 4 (.bin .geq .no (.t 3) (.c (.int .u8 48))),zm 5 4,zw 5 true 6 (zo 0),zw 5 true 7 (.bin .leq .no (.t 6) (.c (.int .u8 57))),zv 8 (.pick (.t 5) (.t 7) (.c (.bool false))),zm 2 8]
def k0cd:IC:=(.seq qbpf (.seq qbdo .ret))
@[go_sem] def s0cd:List (RV×Co):=[(.t 2,.id)]
theorem c0cd:cFun Tryz.prog 224 = some (9,k0cd,s0cd):=by kernel_rfl

def qbeu:IC:=zr [zv 4 zf]
def qbkh:IC:=zr [zm 5 0,zv 6 (.len true (.t 5)),zm 7 1,zv 8 (.len true (.t 7)),zv 9 (.bin .geq .no (.t 6) (.t 8)),zm 10 9,zw 10 true 11 (zo 0),zw 10 true 12 (zo 1),zw 10 true 13 (.len true (.t 12)),zw 10 true 14 (.sls (.t 11) none (some (.t 13))),zw 10 true 15 (zo 1),zw 10 true 16 (zq (.t 14) (.t 15)),zv 17 (.pick (.t 10) (.t 16) (.c (.bool false))),zm 4 17]
def k0ce:IC:=(.seq qbeu (.seq qbkh .ret))
@[go_sem] def s0ce:List (RV×Co):=[(.t 4,.id)]
theorem c0ce:cFun Tryz.prog 231 = some (18,k0ce,s0ce):=by kernel_rfl

def qbgf:IC:=zr [zi 2 (.box (.t 0)),zi 3 (.box (.t 1)),zv 4 zf]
def qbda:IC:=zr [zv 5 (zl 3 2),zv 6 (.mfn 243 [] [(.t 3)]),zi 7 (zk 99 [((.t 5),(.agg [.id,.id,(.sl 3)])),((zc 1),.id),zI 6]),zv 8 (.un .not (.t 7)),zm 4 8]
def k0du:IC:=(.seq qbgf (.seq qbda .ret))
@[go_sem] def s0du:List (RV×Co):=[(.t 4,.id)]
theorem c0du:cFun Tryz.prog 233 = some (9,k0du,s0du):=by kernel_rfl

def qbpr:IC:=zr [zv 2 (.mov (zc 0)),zv 3 (.mov (zc 0))]
def qbik:IC:=zr [zm 8 0,zv 9 (zq (.t 8) (.c (.str [])))]
def qblp:IC:=zr [zv 2 (.mov (zc 0)),zv 3 (.mov (zc 5))]
def qbc3:IC:=zr [zv 4 (.mov (zc 0))]
def qbdg:IC:=zr [zm 10 4,zm 11 0,zv 12 (.len true (.t 11)),zv 13 (.bin .lss .no (.t 10) (.t 12))]
def qbmf:IC:=zr [zm 16 0,zm 17 4,zv 18 (.idx (.t 16) (.t 17)),zv 19 (.bin .lss .no (.t 18) (.c (.int .u8 48))),zm 20 19,zw 20 false 21 (zo 0),zw 20 false 22 (zo 4),zw 20 false 23 (.idx (.t 21) (.t 22)),zw 20 false 24 (.bin .gtr .no (.t 23) (.c (.int .u8 57))),zv 25 (.pick (.t 20) (.c (.bool true)) (.t 24))]
def q9i:IC:=zr [zv 2 (.mov (zc 0)),zv 3 (.mov (zc 5))]
def qbch:IC:=zr [zm 14 4,zv 15 (.bin .add .no (.t 14) (zc 1)),zm 4 15]
def qban:IC:=(.seq (.seq qbdg (.cond (.t 13) .skip (.exit 0))) (.seq (.block 1 (.seq qbmf (.cond (.t 25) (.seq q9i .ret) .skip))) qbch))
def q48:IC:=zr [zv 5 (.mov (zc 0))]
def q43:IC:=zr [zv 6 (.mov (zc 0))]
def q4z:IC:=zr [zm 26 6,zm 27 0,zv 28 (.len true (.t 27)),zv 29 (.bin .lss .no (.t 26) (.t 28))]
def q33:IC:=zr [zm 32 0,zm 33 6,zv 34 (.idx (.t 32) (.t 33)),zv 35 (.bin .sub .no (.t 34) (.c (.int .u8 48))),zv 36 (.cvi .i64 (.t 35)),zm 7 36]
def q1w:IC:=zr [zm 37 5,zm 38 7,zv 39 (.bin .sub .no (zc 9223372036854775807) (.t 38)),zv 40 (.bin .quo .no (.t 39) (zc 10)),zv 41 (.bin .gtr .no (.t 37) (.t 40))]
def q23:IC:=zr [zv 2 (.mov (zc 0)),zv 3 (.mov (zc 4))]
def q59:IC:=zr [zm 42 5,zv 43 (.bin .mul .no (zc 10) (.t 42)),zm 44 7,zv 45 (.bin .add .no (.t 43) (.t 44)),zm 5 45]
def q2v:IC:=zr [zm 30 6,zv 31 (.bin .add .no (.t 30) (zc 1)),zm 6 31]
def q4a:IC:=(.seq (.seq q4z (.cond (.t 29) .skip (.exit 2))) (.seq (.block 3 (.seq q33 (.seq (.seq q1w (.cond (.t 41) (.seq q23 .ret) .skip)) q59))) q2v))
def q15:IC:=zr [zm 46 5,zm 2 46,zv 3 (.mov (zc 0))]
def k0cg:IC:=(.seq qbpr (.seq (.seq qbik (.cond (.t 9) (.seq qblp .ret) .skip)) (.seq (.seq qbc3 (.block 0 (.loop qban))) (.seq q48 (.seq (.seq q43 (.block 2 (.loop q4a))) (.seq q15 .ret))))))
@[go_sem] def s0cg:List (RV×Co):=[(.t 2,.id),(.t 3,.id)]
theorem c0cg:cFun Tryz.prog 234 = some (47,k0cg,s0cg):=by kernel_rfl

def qbm7:IC:=zr [zv 4 (.mov (.c (.str []))),zv 5 zf]
def qbn0:IC:=zr [zm 6 0,zm 7 1,zi 8 (zk 231 [zI 6,zI 7]),zv 9 (.un .not (.t 8))]
def qbkr:IC:=zr [zm 10 0,zm 4 10,zv 5 zf]
def qbat:IC:=zr [zm 11 0,zm 12 1,zv 13 (.len true (.t 12)),zv 14 (.sls (.t 11) (some (.t 13)) none),zm 4 14,zv 5 (.mov (.c (.bool true)))]
def k0br:IC:=(.seq qbm7 (.seq (.seq qbn0 (.cond (.t 9) (.seq qbkr .ret) .skip)) (.seq qbat .ret)))
@[go_sem] def s0br:List (RV×Co):=[(.t 4,.id),(.t 5,.id)]
theorem c0br:cFun Tryz.prog 240 = some (15,k0br,s0br):=by kernel_rfl

def qblw:IC:=zr [zv 4 (.mov (.c (.str []))),zv 5 zf]
def qber:IC:=zr [zm 6 0,zm 7 1,zi 8 (zk 246 [zI 6,zI 7]),zv 9 (.un .not (.t 8))]
def qbh6:IC:=zr [zm 10 0,zm 4 10,zv 5 zf]
def qbjv:IC:=zr [zm 11 0,zm 12 0,zv 13 (.len true (.t 12)),zm 14 1,zv 15 (.len true (.t 14)),zv 16 (.bin .sub .no (.t 13) (.t 15)),zv 17 (.sls (.t 11) none (some (.t 16))),zm 4 17,zv 5 (.mov (.c (.bool true)))]
def k0bu:IC:=(.seq qblw (.seq (.seq qber (.cond (.t 9) (.seq qbh6 .ret) .skip)) (.seq qbjv .ret)))
@[go_sem] def s0bu:List (RV×Co):=[(.t 4,.id),(.t 5,.id)]
theorem c0bu:cFun Tryz.prog 241 = some (18,k0bu,s0bu):=by kernel_rfl

def qbay:IC:=zr [zi 3 (.box (.t 0)),zv 5 zf]
def q85:IC:=zr [zv 6 (zd 3 0),zv 7 (zg 1 6),zv 8 (.bin .neq .no (.t 7) (.c (.str []))),zm 9 8,zw 9 false 10 (zd 3 1),zw 9 false 11 (zg 1 10),zw 9 false 12 (zg 1 2),zw 9 false 13 (.bin .neq .no (.t 11) (.t 12)),zv 14 (.pick (.t 9) (.c (.bool true)) (.t 13)),zm 5 14]
def k0dt:IC:=(.seq qbay (.seq q85 .ret))
@[go_sem] def s0dt:List (RV×Co):=[(.t 5,.id)]
theorem c0dt:cFun Tryz.prog 243 = some (15,k0dt,s0dt):=by kernel_rfl

def qbam:IC:=zr [zv 4 zf]
def qbip:IC:=zr [zm 5 0,zv 6 (.len true (.t 5)),zm 7 1,zv 8 (.len true (.t 7)),zv 9 (.bin .geq .no (.t 6) (.t 8)),zm 10 9,zw 10 true 11 (zo 0),zw 10 true 12 (zo 0),zw 10 true 13 (.len true (.t 12)),zw 10 true 14 (zo 1),zw 10 true 15 (.len true (.t 14)),zw 10 true 16 (.bin .sub .no (.t 13) (.t 15)),zw 10 true 17 (.sls (.t 11) (some (.t 16)) none),zw 10 true 18 (zo 1),zw 10 true 19 (zq (.t 17) (.t 18)),zv 20 (.pick (.t 10) (.t 19) (.c (.bool false))),zm 4 20]
def k0bt:IC:=(.seq qbam (.seq qbip .ret))
@[go_sem] def s0bt:List (RV×Co):=[(.t 4,.id)]
theorem c0bt:cFun Tryz.prog 246 = some (21,k0bt,s0bt):=by kernel_rfl

end Go.Proofs.YtkenggenkmfopaaGreat
