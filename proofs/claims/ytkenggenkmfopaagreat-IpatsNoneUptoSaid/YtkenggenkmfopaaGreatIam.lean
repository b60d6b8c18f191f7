/- A text of this proof. -/
import Derived.Test.YtkenggenkmfopaaGreatIaf
import Derived.Test.YtkenggenkmfopaaGreatProg
set_option linter.unusedVariables false
set_option linter.unusedSimpArgs false
/- The compiled code of the functions. -/
namespace Go.Proofs.YtkenggenkmfopaaGreat
open Go Go.V
@[reducible] def zm(d s:Nat):GI:=⟨none,some d,.v (.mov (.t s))⟩
@[reducible] def zv(d:Nat)(x:IV):GI:=⟨none,some d,.v x⟩
@[reducible] def zi(d:Nat)(i:I):GI:=⟨none,some d,i⟩
@[reducible] def zn(i:I):GI:=⟨none,none,i⟩
@[reducible] def zw(j:Nat)(b:Bool)(d:Nat)(x:IV):GI:=⟨some (j,b),some d,.v x⟩
@[reducible] def zp(g:GI):GI×List Nat:=(g,[])
@[reducible] def zN:Co:=.agg [.id,.id,.id,.id,(.sl 5)]
@[reducible] def zC:Co:=.agg [(.sl 4),.id,.id,.id,.id,.id,.id,.id]
@[reducible] def zaN:I:=.alo [(.int .i64 0),(.int .i64 0),(.int .i64 0),(.str []),.nils]
@[reducible] def zaC:I:=.alo [.nils,(.int .i64 0),(.int .i64 0),(.int .i64 0),(.str []),(.int .i64 0),(.int .i64 0),(.int .i64 0)]
@[reducible] def zaT:I:=.alo [(.int .i64 0),(.int .i64 0),(.int .i64 0),(.str [])]
@[reducible] def zZ:AV:=.agg [(.int .i64 0),(.int .i64 0),(.int .i64 0),(.str []),.nils]
@[reducible] def zc(n:Int):Opd:=.c (.int .i64 n)
@[reducible] def zf:IV:=.mov (.c (.bool false))
@[reducible] def zr(l:List GI):IC:=.reg false l
@[reducible] def zk(f:FuncId)(l:List (Opd×Co)):I:=.call (.c (.fn f [] [])) l
@[reducible] def zA(n:Nat):Opd×Co:=(.t n,zN)
@[reducible] def zI(n:Nat):Opd×Co:=(.t n,.id)
@[reducible] def zx(n k:Nat):IV:=.ext (.t n) k
@[reducible] def zl(n k:Nat):IV:=.ld true n (.t k)
@[reducible] def zg(n k:Nat):IV:=.ld false n (.t k)
@[reducible] def zd(n k:Nat):IV:=.fad (.t n) k
@[reducible] def zq(a b:Opd):IV:=.bin .eql .no a b
@[reducible] def zo(n:Nat):IV:=.mov (.t n)
@[reducible] def zj(j:Nat)(b:Bool)(d:Nat)(i:I):GI:=⟨some (j,b),some d,i⟩
@[reducible] def zza:Co:=.agg [.id,.id,(.sl 3)]
@[reducible] def zzb:Co:=.agg [.id,.id,.id,(.sl 1),(.sl 3),(.sl 6)]
@[reducible] def zzc:Co:=.agg [.id,.id,.id,.id,(.sl 4),(.sl 6),(.sl 7),.id,.id]
@[reducible] def zzd:Co:=.agg [.id,.id,.id,(.sl 3)]
@[reducible] def zze(n:Nat):Opd×Co:=(.t n,zza)
@[reducible] def zzf(n:Nat):Opd×Co:=(.t n,zzb)
@[reducible] def zzg(n:Nat):Opd×Co:=(.t n,zzc)
@[reducible] def zzh(d a b:Nat):GI:=zv d (.pick (.t a) (.t b) (.c (.bool false)))
@[reducible] def zzi(d a b:Nat):GI:=zv d (.pick (.t a) (.c (.bool true)) (.t b))
@[reducible] def zzj(d:Nat)(n:Int):GI:=zv d (.mov (.c (.int .i64 n)))
@[reducible] def zzk(d:Nat):GI:=zv d (.mov (.c (.bool true)))
@[reducible] def zzl(d a:Nat)(n:Int):GI:=zv d (.bin .add .no (.t a) (.c (.int .i64 n)))
@[reducible] def zzm(d a b:Nat):GI:=zv d (.bin .lss .no (.t a) (.t b))
@[reducible] def zzn(d a:Nat):GI:=zi d (.box (.t a))
@[reducible] def zzo(d a:Nat):GI:=zv d (.len false (.t a))
@[reducible] def zzp(d a b:Nat):GI:=zv d (.fad (.t a) b)
@[reducible] def zzq(d a b:Nat):GI:=zv d (.ld true a (.t b))
@[reducible] def zzr(d a b:Nat):GI:=zv d (.ld false a (.t b))
@[reducible] def zzs(d k a b:Nat):GI:=zv d (.iad k (.t a) (.t b))
@[reducible] def zzt(d a b:Nat):GI:=zv d (.ext (.t a) b)
@[reducible] def zzu(d a:Nat):GI×List Nat:=(zm d a,[])
@[reducible] def zzv:I:=.alo [(.str []),(.int .i64 0),.nils]
@[reducible] def zzw:I:=.alo [(.int .i64 0),(.int .i64 0),(.int .i64 0),(.int .i64 0),.nils,.nils,.nils,(.int .i64 0),(.int .i64 0)]
@[reducible] def zzx:I:=.alo [(.int .i64 0),(.int .i64 0),(.str []),.nils,.nils,.nils]
abbrev zzR:Type:=List (RV×Co)
def qbuk:IC:=zr [zzn 2 0,zzn 3 1,zv 4 zf]
def qb5q:IC:=zr [zzq 9 3 2,zi 10 (zk 31 [((.t 9),(.agg [(.sl 3),(.sl 3),(.sl 4)]))]),zv 11 (zq (.t 10) (zc 0)),zm 12 11,zw 12 false 13 (zl 5 3),zj 12 false 14 (zk 32 [zA 13]),zw 12 false 15 (zq (.t 14) (zc 0)),zzi 16 12 15]
def qbnh:IC:=zr [zi 17 (zk 33 []),zm 4 17]
def qb7e:IC:=zr [zzq 19 3 2,zzq 20 5 3,zi 21 (zk 34 [((.t 19),(.agg [(.sl 3),(.sl 3),(.sl 4)])),((.c .nilp),.id),zA 20]),zm 18 21,zzt 22 18 0,zzt 23 18 1,zzt 24 18 2,zzt 25 18 3,zi 5 zzv,zi 7 zzx,zn (.st 3 zza (.t 5) (.t 22)),zm 6 23,zn (.st 6 zzb (.t 7) (.t 24)),zm 8 25]
def qbpu:IC:=zr [zzq 26 3 5,zv 27 (.bld [(.str []),(.int .i64 0),.nils] []),zi 28 (zk 16 [zze 26,zze 27]),zm 29 28,zw 29 true 30 (zo 6),zw 29 true 31 (.len false (.t 30)),zw 29 true 32 (zq (.t 31) (zc 0)),zzh 33 29 32,zm 34 33,zw 34 true 35 (zl 6 7),zw 34 true 36 (.bld [(.int .i64 0),(.int .i64 0),(.str []),.nils,.nils,.nils] []),zj 34 true 37 (zk 29 [zzf 35,zzf 36]),zzh 38 34 37,zm 39 38,zw 39 true 40 (zo 8),zw 39 true 41 (.un .not (.t 40)),zzh 42 39 41,zm 43 42,zj 43 true 44 (zk 33 []),zzh 45 43 44,zm 4 45]
def k0dd:IC:=(.seq qbuk (.seq (.seq qb5q (.cond (.t 16) (.seq qbnh .ret) .skip)) (.seq qb7e (.seq qbpu .ret))))
@[go_sem] def s0dd:zzR:=[(.t 4,.id)]
theorem c0dd:cFun Tryz.prog 6=some (46,k0dd,s0dd):=by kernel_rfl

def qchy:IC:=zr [zzj 2 0]
def qchp:IC:=zr [zzj 3 20000]
def qcdv:IC:=zr [zzj 4 0]
def qcix:IC:=zr [zm 5 4,zm 6 0,zzo 7 6,zzm 8 5 7]
def qckj:IC:=zr [zm 11 0,zm 12 4,zzs 13 3 11 12,zzq 14 3 13,zm 15 3,zi 16 (zk 37 [zze 14,zI 15,((zc 300),.id)]),zm 3 16]
def qcho:IC:=zr [zm 9 4,zzl 10 9 1,zm 4 10]
def qcf6:IC:=(.seq (.seq qcix (.cond (.t 8) .skip (.exit 0))) (.seq (.block 1 qckj) qcho))
def qcki:IC:=zr [zm 17 3,zv 18 (.bin .lss .no (.t 17) (zc 0))]
def qcfo:IC:=zr [zzj 2 0]
def qbyu:IC:=zr [zzj 2 1]
def k0w:IC:=(.seq qchy (.seq qchp (.seq (.seq qcdv (.block 0 (.loop qcf6))) (.seq (.seq qcki (.cond (.t 18) (.seq qcfo .ret) .skip)) (.seq qbyu .ret)))))
@[go_sem] def s0w:zzR:=[(.t 2,.id)]
theorem c0w:cFun Tryz.prog 8=some (19,k0w,s0w):=by kernel_rfl

def qb0w:IC:=zr [zv 0 (.mov (.c .nilp))]
def qbsz:IC:=zr [zi 1 (zk 39 [((.c .nils),(.sl 4))]),zi 2 (.call (.c (.eptr 94 [] 0 0)) []),zi 3 (.call (.c (.eptr 95 [] 0 0)) []),zv 4 (.bld [(.int .i64 0),(.int .i64 0),(.int .i64 0),(.int .i64 0),.nilp,.nils,.nilm,.nilm,(.int .i64 0),(.int .i64 0)] [(4,1,(.t 1)),(6,1,(.t 2)),(7,1,(.t 3))]),zzn 5 4,zm 0 5]
def k0ey:IC:=(.seq qb0w (.seq qbsz .ret))
@[go_sem] def s0ey:zzR:=[(.t 0,.id)]
theorem c0ey:cFun Tryz.prog 11=some (6,k0ey,s0ey):=by kernel_rfl

def qb52:IC:=zr [zzn 5 1,zzn 6 2,zv 8 zf]
def qbbe:IC:=zr [zm 11 0,zv 12 (.bin .eql .ptr (.t 11) (.c .nilp)),zm 13 12,zw 13 false 14 (zo 0),zw 13 false 15 (.nck (.t 14)),zw 13 false 16 (zd 15 9),zw 13 false 17 (zg 1 16),zw 13 false 18 (.bin .neq .no (.t 17) (zc 0)),zzi 19 13 18]
def qb6e:IC:=zr [zv 8 zf]
def qbph:IC:=.drw [zzu 21 0,zp (zv 22 (.nck (.t 21))),zp (zzp 23 22 4),zp (zzr 24 1 23),zp (zzq 25 3 5),zp (zzq 26 3 6),(zi 27 (zk 40 [zI 24,zze 25,zze 26]),[]),zzu 20 27,zp (zzt 28 20 0),zp (zzt 29 20 1),zzu 9 28,zzu 10 29]
def q5z:IC:=zr [zm 30 10,zv 31 (zq (.t 30) (zc 1))]
def qbp0:IC:=zr [zzj 10 2]
def qb2k:IC:=zr [zm 32 10,zv 33 (.bin .neq .no (.t 32) (zc 0))]
def qbyy:IC:=zr [zm 34 0,zm 35 10,zm 36 3,zi 37 (zk 17 [zI 34,zI 35,zI 36]),zm 8 37]
def qb4n:IC:=zr [zm 38 0,zm 39 9,zv 40 (.nck (.t 38)),zzp 41 40 4,zn (.st 1 .id (.t 41) (.t 39))]
def qcbf:IC:=zr [zzk 8]
def k0ew:IC:=(.seq qb52 (.seq (.seq qbbe (.cond (.t 19) (.seq qb6e .ret) .skip)) (.seq qbph (.seq (.seq q5z (.cond (.t 31) qbp0 .skip)) (.seq (.seq qb2k (.cond (.t 33) (.seq qbyy .ret) .skip)) (.seq qb4n (.seq qcbf .ret)))))))
@[go_sem] def s0ew:zzR:=[(.t 8,.id)]
theorem c0ew:cFun Tryz.prog 12=some (42,k0ew,s0ew):=by kernel_rfl

def qbtv:IC:=zr [zzn 3 1,zi 4 zzv]
def qbte:IC:=zr [zm 9 0,zv 10 (.bin .eql .ptr (.t 9) (.c .nilp))]
def qb5f:IC:=zr [zv 11 (.bld [(.str []),(.int .i64 0),.nils] []),zn (.st 3 zza (.t 4) (.t 11))]
def qbrr:IC:=zr [zm 13 0,zi 14 (zk 50 [zI 13]),zm 12 14,zzt 15 12 0,zzt 16 12 1,zm 5 15,zm 6 16]
def qbo8:IC:=zr [zzq 18 3 3,zm 19 5,zm 20 6,zi 21 (zk 51 [zze 18,((.t 19),(.sl 1)),((.t 20),(.sl 3))]),zm 17 21,zzt 22 17 0,zzt 23 17 1,zi 7 zzv,zn (.st 3 zza (.t 7) (.t 22)),zm 8 23]
def qbqn:IC:=zr [zm 24 8,zv 25 (.un .not (.t 24))]
def qca9:IC:=zr [zv 26 (.bld [(.str []),(.int .i64 0),.nils] []),zn (.st 3 zza (.t 4) (.t 26))]
def qbo5:IC:=zr [zzq 27 3 7,zn (.st 3 zza (.t 4) (.t 27))]
def k0fa:IC:=(.seq qbtv (.seq (.seq qbte (.cond (.t 10) (.seq qb5f .ret) .skip)) (.seq qbrr (.seq qbo8 (.seq (.seq qbqn (.cond (.t 25) (.seq qca9 .ret) .skip)) (.seq qbo5 .ret))))))
@[go_sem] def s0fa:zzR:=[(.c true 3 4,zza)]
theorem c0fa:cFun Tryz.prog 15=some (28,k0fa,s0fa):=by kernel_rfl

def qbup:IC:=zr [zzn 2 0,zzn 3 1,zv 4 zf]
def qbtl:IC:=zr [zzp 6 2 0,zzr 7 1 6,zzp 8 3 0,zzr 9 1 8,zv 10 (.bin .neq .no (.t 7) (.t 9)),zm 11 10,zw 11 false 12 (zd 2 1),zw 11 false 13 (zg 1 12),zw 11 false 14 (zd 3 1),zw 11 false 15 (zg 1 14),zw 11 false 16 (.bin .neq .no (.t 13) (.t 15)),zzi 17 11 16,zm 18 17,zw 18 false 19 (zd 2 2),zw 18 false 20 (zg 1 19),zw 18 false 21 (.len false (.t 20)),zw 18 false 22 (zd 3 2),zw 18 false 23 (zg 1 22),zw 18 false 24 (.len false (.t 23)),zw 18 false 25 (.bin .neq .no (.t 21) (.t 24)),zzi 26 18 25]
def qbts:IC:=zr [zv 4 zf]
def qbxu:IC:=zr [zzj 5 0]
def qb2l:IC:=zr [zm 27 5,zzp 28 2 2,zzr 29 1 28,zzo 30 29,zzm 31 27 30]
def qbut:IC:=.drw [zp (zzp 34 2 2),zp (zzr 35 1 34),zzu 36 5,zp (zzs 37 3 35 36),zp (zzq 38 3 37),zp (zzp 39 3 2),zp (zzr 40 1 39),zzu 41 5,zp (zzs 42 3 40 41),zp (zzq 43 3 42),(zi 44 (zk 16 [zze 38,zze 43]),[]),zp (zv 45 (.un .not (.t 44)))]
def qbpb:IC:=zr [zv 4 zf]
def qbwd:IC:=zr [zm 32 5,zzl 33 32 1,zm 5 33]
def qbof:IC:=(.seq (.seq qb2l (.cond (.t 31) .skip (.exit 0))) (.seq (.block 1 (.seq qbut (.cond (.t 45) (.seq qbpb .ret) .skip))) qbwd))
def qbf2:IC:=zr [zzk 4]
def k0bc:IC:=(.seq qbup (.seq (.seq qbtl (.cond (.t 26) (.seq qbts .ret) .skip)) (.seq (.seq qbxu (.block 0 (.loop qbof))) (.seq qbf2 .ret))))
@[go_sem] def s0bc:zzR:=[(.t 4,.id)]
theorem c0bc:cFun Tryz.prog 16=some (46,k0bc,s0bc):=by kernel_rfl

def qbxg:IC:=zr [zv 6 zf]
def qbyo:IC:=zr [zm 7 0,zv 8 (.bin .neq .ptr (.t 7) (.c .nilp)),zm 9 8,zw 9 true 10 (zo 0),zw 9 true 11 (.nck (.t 10)),zw 9 true 12 (zd 11 9),zw 9 true 13 (zg 1 12),zw 9 true 14 (zq (.t 13) (zc 0)),zzh 15 9 14]
def qbsp:IC:=zr [zm 16 1,zv 17 (zq (.t 16) (zc 0))]
def qbv5:IC:=zr [zzj 1 1]
def qb06:IC:=zr [zm 18 0,zm 19 0,zm 20 1,zm 21 2,zv 22 (.nck (.t 18)),zzp 23 22 9,zn (.st 1 .id (.t 23) (.t 20)),zv 24 (.nck (.t 19)),zzp 25 24 8,zn (.st 1 .id (.t 25) (.t 21))]
def qb7p:IC:=zr [zv 6 zf]
def k0fc:IC:=(.seq qbxg (.seq (.seq qbyo (.cond (.t 15) (.seq (.seq qbsp (.cond (.t 17) qbv5 .skip)) qb06) .skip)) (.seq qb7p .ret)))
@[go_sem] def s0fc:zzR:=[(.t 6,.id)]
theorem c0fc:cFun Tryz.prog 17=some (26,k0fc,s0fc):=by kernel_rfl

def qbwo:IC:=zr [zzj 2 0,zzj 3 0]
def qbtc:IC:=zr [zm 4 0,zv 5 (.bin .eql .ptr (.t 4) (.c .nilp))]
def qcbs:IC:=zr [zzj 2 0,zzj 3 0]
def qbzx:IC:=.drw [zzu 6 0,zp (zv 7 (.nck (.t 6))),zp (zzp 8 7 8),zp (zzr 9 1 8),zzu 10 0,zp (zv 11 (.nck (.t 10))),zp (zzp 12 11 9),zp (zzr 13 1 12),zzu 2 9,zzu 3 13]
def k0es:IC:=(.seq qbwo (.seq (.seq qbtc (.cond (.t 5) (.seq qcbs .ret) .skip)) (.seq qbzx .ret)))
@[go_sem] def s0es:zzR:=[(.t 2,.id),(.t 3,.id)]
theorem c0es:cFun Tryz.prog 19=some (14,k0es,s0es):=by kernel_rfl

def qbra:IC:=zr [zi 2 zzv]
def qb8t:IC:=zr [zm 3 0,zv 4 (.bin .eql .ptr (.t 3) (.c .nilp))]
def qb9i:IC:=zr [zv 5 (.bld [(.str []),(.int .i64 0),.nils] []),zn (.st 3 zza (.t 2) (.t 5))]
def qccp:IC:=zr [zm 6 0,zv 7 (.nck (.t 6)),zzp 8 7 0,zzr 9 1 8,zzl 10 9 1,zv 11 (.nck (.t 6)),zzp 12 11 0,zn (.st 1 .id (.t 12) (.t 10))]
def qb3n:IC:=zr [zm 13 0,zv 14 (.nck (.t 13)),zzp 15 14 0,zzr 16 1 15,zv 17 (.un .neg (.t 16)),zv 18 (.bld [(.str []),(.int .i64 0),.nils] [(1,1,(.t 17))]),zn (.st 3 zza (.t 2) (.t 18))]
def k0fb:IC:=(.seq qbra (.seq (.seq qb8t (.cond (.t 4) (.seq qb9i .ret) .skip)) (.seq qccp (.seq qb3n .ret))))
@[go_sem] def s0fb:zzR:=[(.c true 3 2,zza)]
theorem c0fb:cFun Tryz.prog 21=some (19,k0fb,s0fb):=by kernel_rfl

def qbpc:IC:=zr [zzn 2 0,zzn 3 1,zv 4 zf]
def qca4:IC:=zr [zzp 6 2 0,zzr 7 1 6,zzo 8 7,zzp 9 3 0,zzr 10 1 9,zzo 11 10,zv 12 (.bin .neq .no (.t 8) (.t 11)),zm 13 12,zw 13 false 14 (zd 2 1),zw 13 false 15 (zl 3 14),zw 13 false 16 (zd 3 1),zw 13 false 17 (zl 3 16),zj 13 false 18 (zk 16 [zze 15,zze 17]),zw 13 false 19 (.un .not (.t 18)),zzi 20 13 19]
def qbz4:IC:=zr [zv 4 zf]
def qbxd:IC:=zr [zzj 5 0]
def qbw9:IC:=zr [zm 21 5,zzp 22 2 0,zzr 23 1 22,zzo 24 23,zzm 25 21 24]
def qbo9:IC:=.drw [zp (zzp 28 2 0),zp (zzr 29 1 28),zzu 30 5,zp (zzs 31 1 29 30),zp (zzr 32 1 31),zp (zzp 33 3 0),zp (zzr 34 1 33),zzu 35 5,zp (zzs 36 1 34 35),zp (zzr 37 1 36),zp (zv 38 (.bin .neq .no (.t 32) (.t 37)))]
def qcag:IC:=zr [zv 4 zf]
def qb5a:IC:=zr [zm 26 5,zzl 27 26 1,zm 5 27]
def qbsc:IC:=(.seq (.seq qbw9 (.cond (.t 25) .skip (.exit 0))) (.seq (.block 1 (.seq qbo9 (.cond (.t 38) (.seq qcag .ret) .skip))) qb5a))
def qbe7:IC:=zr [zzk 4]
def k0et:IC:=(.seq qbpc (.seq (.seq qca4 (.cond (.t 20) (.seq qbz4 .ret) .skip)) (.seq (.seq qbxd (.block 0 (.loop qbsc))) (.seq qbe7 .ret))))
@[go_sem] def s0et:zzR:=[(.t 4,.id)]
theorem c0et:cFun Tryz.prog 24=some (39,k0et,s0et):=by kernel_rfl

def qbpw:IC:=zr [zzn 2 0,zzn 3 1,zv 4 zf]
def qcbj:IC:=zr [zzp 7 2 0,zzr 8 1 7,zzp 9 3 0,zzr 10 1 9,zv 11 (.bin .neq .no (.t 8) (.t 10)),zm 12 11,zw 12 false 13 (zd 2 1),zw 12 false 14 (zg 1 13),zw 12 false 15 (zd 3 1),zw 12 false 16 (zg 1 15),zw 12 false 17 (.bin .neq .no (.t 14) (.t 16)),zzi 18 12 17,zm 19 18,zw 19 false 20 (zd 2 2),zw 19 false 21 (zg 1 20),zw 19 false 22 (zd 3 2),zw 19 false 23 (zg 1 22),zw 19 false 24 (.bin .neq .no (.t 21) (.t 23)),zzi 25 19 24,zm 26 25,zw 26 false 27 (zd 2 3),zw 26 false 28 (zg 1 27),zw 26 false 29 (.len false (.t 28)),zw 26 false 30 (zd 3 3),zw 26 false 31 (zg 1 30),zw 26 false 32 (.len false (.t 31)),zw 26 false 33 (.bin .neq .no (.t 29) (.t 32)),zzi 34 26 33,zm 35 34,zw 35 false 36 (zd 2 5),zw 35 false 37 (zg 1 36),zw 35 false 38 (.len false (.t 37)),zw 35 false 39 (zd 3 5),zw 35 false 40 (zg 1 39),zw 35 false 41 (.len false (.t 40)),zw 35 false 42 (.bin .neq .no (.t 38) (.t 41)),zzi 43 35 42,zm 44 43,zw 44 false 45 (zd 2 4),zw 44 false 46 (zg 1 45),zw 44 false 47 (zd 3 4),zw 44 false 48 (zg 1 47),zj 44 false 49 (zk 56 [((.t 46),(.sl 3)),((.t 48),(.sl 3))]),zw 44 false 50 (.un .not (.t 49)),zzi 51 44 50]
def qby8:IC:=zr [zv 4 zf]
def qb4r:IC:=zr [zzj 5 0]
def qbm0:IC:=zr [zm 52 5,zzp 53 2 3,zzr 54 1 53,zzo 55 54,zzm 56 52 55]
def qb53:IC:=.drw [zp (zzp 59 2 3),zp (zzr 60 1 59),zzu 61 5,zp (zzs 62 1 60 61),zp (zzr 63 1 62),zp (zzp 64 3 3),zp (zzr 65 1 64),zzu 66 5,zp (zzs 67 1 65 66),zp (zzr 68 1 67),zp (zv 69 (.bin .neq .no (.t 63) (.t 68)))]
def qb1a:IC:=zr [zv 4 zf]
def qbuh:IC:=zr [zm 57 5,zzl 58 57 1,zm 5 58]
def qcbi:IC:=(.seq (.seq qbm0 (.cond (.t 56) .skip (.exit 0))) (.seq (.block 1 (.seq qb53 (.cond (.t 69) (.seq qb1a .ret) .skip))) qbuh))
def qbgi:IC:=zr [zzj 6 0]
def qbd1:IC:=zr [zm 70 6,zzp 71 2 5,zzr 72 1 71,zzo 73 72,zzm 74 70 73]
def qbka:IC:=.drw [zp (zzp 77 2 5),zp (zzr 78 1 77),zzu 79 6,zp (zzs 80 6 78 79),zp (zzq 81 6 80),zp (zzp 82 3 5),zp (zzr 83 1 82),zzu 84 6,zp (zzs 85 6 83 84),zp (zzq 86 6 85),(zi 87 (zk 29 [zzf 81,zzf 86]),[]),zp (zv 88 (.un .not (.t 87)))]
def qbil:IC:=zr [zv 4 zf]
def qbib:IC:=zr [zm 75 6,zzl 76 75 1,zm 6 76]
def qbcm:IC:=(.seq (.seq qbd1 (.cond (.t 74) .skip (.exit 2))) (.seq (.block 3 (.seq qbka (.cond (.t 88) (.seq qbil .ret) .skip))) qbib))
def qbcp:IC:=zr [zzk 4]
def k0ev:IC:=(.seq qbpw (.seq (.seq qcbj (.cond (.t 51) (.seq qby8 .ret) .skip)) (.seq (.seq qb4r (.block 0 (.loop qcbi))) (.seq (.seq qbgi (.block 2 (.loop qbcm))) (.seq qbcp .ret)))))
@[go_sem] def s0ev:zzR:=[(.t 4,.id)]
theorem c0ev:cFun Tryz.prog 29=some (89,k0ev,s0ev):=by kernel_rfl

def qcgc:IC:=zr [zzn 1 0,zzj 2 0]
def qcga:IC:=zr [zzq 10 3 1,zi 11 (zk 58 [((.t 10),(.agg [(.sl 3),(.sl 3),(.sl 4)]))]),zv 12 (zq (.t 11) (zc 0)),zm 13 12,zw 13 false 14 (zd 1 0),zw 13 false 15 (zg 1 14),zj 13 false 16 (zk 59 [((.t 15),(.sl 3))]),zw 13 false 17 (zq (.t 16) (zc 0)),zzi 18 13 17]
def qcg4:IC:=zr [zzj 2 0]
def qcd8:IC:=zr [zv 3 (.mov (.c .nils))]
def qcio:IC:=zr [zzj 4 0]
def qcgk:IC:=zr [zm 19 4,zzp 20 1 0,zzr 21 1 20,zzo 22 21,zzm 23 19 22]
def qcit:IC:=zr [zzp 26 1 0,zzr 27 1 26,zm 28 4,zzs 29 3 27 28,zzq 30 3 29,zi 5 zzv,zn (.st 3 (.agg [.id,.id,(.sl 2)]) (.t 5) (.t 30))]
def qchs:IC:=zr [zzp 31 5 1,zzr 32 1 31,zv 33 (.bin .gtr .no (.t 32) (zc 100)),zm 34 33,zw 34 false 35 (zd 5 2),zw 34 false 36 (zg 1 35),zw 34 false 37 (.len false (.t 36)),zw 34 false 38 (.bin .gtr .no (.t 37) (zc 30)),zzi 39 34 38]
def qcij:IC:=zr [zzj 2 0]
def qcat:IC:=zr [zzj 6 0]
def qb4v:IC:=zr [zm 40 6,zzp 41 5 2,zzr 42 1 41,zzo 43 42,zzm 44 40 43]
def qb1y:IC:=zr [zzp 47 5 2,zzr 48 1 47,zm 49 6,zzs 50 2 48 49,zzp 51 50 1,zzr 52 1 51,zzo 53 52,zv 54 (.bin .gtr .no (.t 53) (zc 30))]
def qbnx:IC:=zr [zzj 2 0]
def qcay:IC:=zr [zm 55 3,zzp 56 5 2,zzr 57 1 56,zm 58 6,zzs 59 2 57 58,zzp 60 59 1,zzr 61 1 60,zi 62 (.app 3 (.agg [(.str []),(.int .i64 0),.nils]) 48 (.sl 3) (.t 55) (.t 61)),zm 3 62]
def qbsr:IC:=zr [zm 45 6,zzl 46 45 1,zm 6 46]
def qb09:IC:=(.seq (.seq qb4v (.cond (.t 44) .skip (.exit 2))) (.seq (.block 3 (.seq (.seq qb1y (.cond (.t 54) (.seq qbnx .ret) .skip)) qcay)) qbsr))
def qca2:IC:=zr [zm 24 4,zzl 25 24 1,zm 4 25]
def qcf2:IC:=(.seq (.seq qcgk (.cond (.t 23) .skip (.exit 0))) (.seq (.block 1 (.seq qcit (.seq (.seq qchs (.cond (.t 39) (.seq qcij .ret) .skip)) (.seq qcat (.block 2 (.loop qb09)))))) qca2))
def qcb5:IC:=zr [zzj 7 0]
def qbnu:IC:=zr [zm 63 7,zzp 64 1 1,zzr 65 1 64,zzo 66 65,zzm 67 63 66]
def qcah:IC:=zr [zzp 70 1 1,zzr 71 1 70,zm 72 7,zzs 73 3 71 72,zzp 74 73 2,zzr 75 1 74,zm 8 75]
def qbme:IC:=zr [zzj 9 0]
def qb0m:IC:=zr [zm 76 9,zm 77 8,zzo 78 77,zzm 79 76 78]
def qbwh:IC:=zr [zm 82 8,zm 83 9,zzs 84 5 82 83,zzp 85 84 1,zzr 86 1 85,zv 87 (.bin .gtr .no (.t 86) (zc 100))]
def qbsg:IC:=zr [zzj 2 0]
def qb22:IC:=zr [zm 88 3,zm 89 8,zm 90 9,zzs 91 5 89 90,zzp 92 91 2,zzq 93 3 92,zv 94 (.bsl 3 [zze 93]),zi 95 (.app 3 (.agg [(.str []),(.int .i64 0),.nils]) 48 (.sl 3) (.t 88) (.t 94)),zm 3 95]
def qb4b:IC:=zr [zm 80 9,zzl 81 80 1,zm 9 81]
def qb0t:IC:=(.seq (.seq qb0m (.cond (.t 79) .skip (.exit 6))) (.seq (.block 7 (.seq (.seq qbwh (.cond (.t 87) (.seq qbsg .ret) .skip)) qb22)) qb4b))
def qb6j:IC:=zr [zm 96 8,zzo 97 96,zv 98 (.bin .gtr .no (.t 97) (zc 30))]
def qby6:IC:=zr [zzj 2 0]
def qbnq:IC:=zr [zm 68 7,zzl 69 68 1,zm 7 69]
def qb1j:IC:=(.seq (.seq qbnu (.cond (.t 67) .skip (.exit 4))) (.seq (.block 5 (.seq qcah (.seq (.seq qbme (.block 6 (.loop qb0t))) (.seq qb6j (.cond (.t 98) (.seq qby6 .ret) .skip))))) qbnq))
def qb9e:IC:=zr [zm 99 3,zi 100 (zk 8 [((.t 99),(.sl 3))]),zm 2 100]
def k0d:IC:=(.seq qcgc (.seq (.seq qcga (.cond (.t 18) (.seq qcg4 .ret) .skip)) (.seq qcd8 (.seq (.seq qcio (.block 0 (.loop qcf2))) (.seq (.seq qcb5 (.block 4 (.loop qb1j))) (.seq qb9e .ret))))))
@[go_sem] def s0d:zzR:=[(.t 2,.id)]
theorem c0d:cFun Tryz.prog 31=some (101,k0d,s0d):=by kernel_rfl

def qbty:IC:=zr [zzn 1 0,zzj 2 0]
def qb14:IC:=zr [zzq 3 5 1,zi 4 (zk 60 [zA 3,((zc 3000),.id)]),zv 5 (.bin .lss .no (.t 4) (zc 0))]
def qbon:IC:=zr [zzj 2 0]
def qcb4:IC:=zr [zzj 2 1]
def k0er:IC:=(.seq qbty (.seq (.seq qb14 (.cond (.t 5) (.seq qbon .ret) .skip)) (.seq qcb4 .ret)))
@[go_sem] def s0er:zzR:=[(.t 2,.id)]
theorem c0er:cFun Tryz.prog 32=some (6,k0er,s0er):=by kernel_rfl

def qbw4:IC:=zr [zv 0 zf]
def qbua:IC:=zr [zi 26 (zk 61 []),zv 27 (.bld [(.str []),.nils] [(0,1,(.c (.str [78])))]),zv 28 (.bld [(.str []),(.int .i64 0),.nils] []),zv 29 (.bsl 3 [zze 28]),zv 30 (.bld [(.str []),.nils] [(0,1,(.c (.str [74]))),(1,1,(.t 29))]),zv 31 (.bsl 2 [((.t 27),(.agg [.id,(.sl 3)])),((.t 30),(.agg [.id,(.sl 3)]))]),zv 32 (.bld [(.str []),(.int .i64 0),.nils] [(0,1,(.c (.str [77]))),(1,1,(zc 1)),(2,1,(.t 31))]),zv 33 (.bsl 3 [((.t 32),(.agg [.id,.id,(.sl 2)]))]),zi 34 (.app 3 (.agg [(.str []),(.int .i64 0),.nils]) 48 (.sl 3) (.t 26) (.t 33)),zv 35 (.bld [.nils,.nils,.nils] [(0,1,(.t 34))]),zi 1 (.alo [.nils,.nils,.nils]),zn (.st 3 (.agg [(.sl 3),(.sl 3),(.sl 4)]) (.t 1) (.t 35))]
def q44:IC:=zr [zi 37 (zk 62 [((.c (.str [74,32,120])),.id)]),zm 36 37,zzt 38 36 0,zzt 39 36 1,zzt 40 36 2,zi 2 zaN,zn (.st 5 zN (.t 2) (.t 38)),zm 3 39,zm 4 40]
def qbyi:IC:=zr [zzq 42 3 1,zzq 43 5 2,zi 44 (zk 63 [((.t 42),(.agg [(.sl 3),(.sl 3),(.sl 4)])),zA 43]),zm 41 44,zzt 45 41 0,zzt 46 41 1,zzt 47 41 2,zzt 48 41 3,zzt 49 41 4,zi 5 zzv,zi 7 zzx,zn (.st 3 zza (.t 5) (.t 45)),zm 6 46,zn (.st 6 zzb (.t 7) (.t 47)),zm 8 48,zm 9 49]
def qbw0:IC:=zr [zi 51 (zk 62 [((.c (.str [74,32,40,74,32,51,41])),.id)]),zm 50 51,zzt 52 50 0,zzt 53 50 1,zzt 54 50 2,zi 10 zaN,zn (.st 5 zN (.t 10) (.t 52)),zm 11 53,zm 12 54]
def qb5z:IC:=zr [zzq 56 3 1,zzq 57 5 10,zi 58 (zk 63 [((.t 56),(.agg [(.sl 3),(.sl 3),(.sl 4)])),zA 57]),zm 55 58,zzt 59 55 0,zzt 60 55 1,zzt 61 55 2,zzt 62 55 3,zzt 63 55 4,zi 13 zzv,zi 15 zzx,zn (.st 3 zza (.t 13) (.t 59)),zm 14 60,zn (.st 6 zzb (.t 15) (.t 61)),zm 16 62,zm 17 63]
def qb1k:IC:=zr [zi 65 (zk 62 [((.c (.str [74,32,40,74,32,120,41,32,121])),.id)]),zm 64 65,zzt 66 64 0,zzt 67 64 1,zzt 68 64 2,zi 18 zaN,zn (.st 5 zN (.t 18) (.t 66)),zm 19 67,zm 20 68]
def qbv6:IC:=zr [zzq 70 3 1,zzq 71 5 18,zi 72 (zk 63 [((.t 70),(.agg [(.sl 3),(.sl 3),(.sl 4)])),zA 71]),zm 69 72,zzt 73 69 0,zzt 74 69 1,zzt 75 69 2,zzt 76 69 3,zzt 77 69 4,zi 21 zzv,zi 23 zzx,zn (.st 3 zza (.t 21) (.t 73)),zm 22 74,zn (.st 6 zzb (.t 23) (.t 75)),zm 24 76,zm 25 77]
def qb4d:IC:=zr [zzq 78 3 5,zi 79 (zk 38 [zze 78]),zv 80 (zq (.t 79) (.c (.str [77,32,97]))),zm 81 80,zw 81 true 82 (zo 6),zw 81 true 83 (.len false (.t 82)),zw 81 true 84 (zq (.t 83) (zc 1)),zzh 85 81 84,zm 86 85,zw 86 true 87 (zo 6),zw 86 true 88 (.iad 5 (.t 87) (zc 0)),zw 86 true 89 (zd 88 0),zw 86 true 90 (zg 1 89),zw 86 true 91 (zq (.t 90) (.c (.str [120]))),zzh 92 86 91,zm 93 92,zw 93 true 94 (zd 7 0),zw 93 true 95 (zg 1 94),zw 93 true 96 (zq (.t 95) (zc 24)),zzh 97 93 96,zm 98 97,zw 98 true 99 (zo 8),zw 98 true 100 (zq (.t 99) (zc 0)),zzh 101 98 100,zm 102 101,zw 102 true 103 (zo 9),zw 102 true 104 (zq (.t 103) (zc 0)),zzh 105 102 104,zm 106 105,zw 106 true 107 (zl 3 13),zj 106 true 108 (zk 38 [zze 107]),zw 106 true 109 (zq (.t 108) (.c (.str [77,32,40,77,32,73,110,116,41]))),zzh 110 106 109,zm 111 110,zw 111 true 112 (zo 17),zw 111 true 113 (zq (.t 112) (zc 0)),zzh 114 111 113,zm 115 114,zw 115 true 116 (zo 24),zw 115 true 117 (zq (.t 116) (zc 0)),zzh 118 115 117,zm 119 118,zw 119 true 120 (zo 25),zw 119 true 121 (zq (.t 120) (zc 8)),zzh 122 119 121,zm 0 122]
def k0df:IC:=(.seq qbw4 (.seq qbua (.seq q44 (.seq qbyi (.seq qbw0 (.seq qb5z (.seq qb1k (.seq qbv6 (.seq qb4d .ret)))))))))
@[go_sem] def s0df:zzR:=[(.t 0,.id)]
theorem c0df:cFun Tryz.prog 33=some (123,k0df,s0df):=by kernel_rfl

def qbu0:IC:=zr [zzn 3 0,zzn 5 2,zi 6 zzv,zv 7 (.mov (.c .nils)),zi 8 zzx,zv 9 zf]
def qcak:IC:=zr [zm 15 1,zi 16 (zk 19 [zI 15]),zm 14 16,zzt 17 14 0,zzt 18 14 1,zm 10 17,zm 11 18]
def qb2s:IC:=zr [zm 19 1,zv 20 (.bin .eql .ptr (.t 19) (.c .nilp)),zm 21 20,zw 21 false 22 (zo 11),zw 21 false 23 (.bin .neq .no (.t 22) (zc 0)),zzi 24 21 23]
def qcbh:IC:=zr [zv 25 (.bld [(.str []),(.int .i64 0),.nils] []),zv 26 (.bld [(.int .i64 0),(.int .i64 0),(.str []),.nils,.nils,.nils] []),zn (.st 3 zza (.t 6) (.t 25)),zv 7 (.mov (.c .nils)),zn (.st 6 zzb (.t 8) (.t 26)),zv 9 zf]
def qbuu:IC:=zr [zzq 27 5 5,zi 28 (zk 64 [zA 27]),zv 29 (.un .not (.t 28))]
def qb78:IC:=zr [zv 30 (.bld [(.str []),(.int .i64 0),.nils] []),zv 31 (.bld [(.int .i64 0),(.int .i64 0),(.str []),.nils,.nils,.nils] []),zm 32 1,zzp 33 5 1,zzr 34 1 33,zi 35 (zk 17 [zI 32,((zc 1),.id),zI 34]),zn (.st 3 zza (.t 6) (.t 30)),zv 7 (.mov (.c .nils)),zn (.st 6 zzb (.t 8) (.t 31)),zm 9 35]
def qbr9:IC:=zr [zzq 37 3 3,zm 38 1,zzq 39 5 5,zi 40 (zk 65 [((.t 37),(.agg [(.sl 3),(.sl 3),(.sl 4)])),zI 38,zA 39]),zm 36 40,zzt 41 36 0,zzt 42 36 1,zi 12 (.alo [(.str []),(.int .i64 0),.nils,.nils,(.int .i64 0),(.int .i64 0),(.str []),.nils,.nils,.nils]),zn (.st 10 (.agg [.id,.id,(.sl 3),(.sl 5),.id,.id,.id,(.sl 1),(.sl 3),(.sl 6)]) (.t 12) (.t 41)),zm 13 42]
def qbza:IC:=zr [zm 43 13,zv 44 (.un .not (.t 43))]
def qboh:IC:=zr [zv 45 (.bld [(.str []),(.int .i64 0),.nils] []),zv 46 (.bld [(.int .i64 0),(.int .i64 0),(.str []),.nils,.nils,.nils] []),zn (.st 3 zza (.t 6) (.t 45)),zv 7 (.mov (.c .nils)),zn (.st 6 zzb (.t 8) (.t 46)),zv 9 zf]
def q6t:IC:=.drw [zp (zzp 47 12 0),zp (zzq 48 3 47),zp (zzp 49 12 3),zp (zzr 50 1 49),zp (zzp 51 12 4),zp (zzq 52 6 51),(zn (.st 3 zza (.t 6) (.t 48)),[3,5]),zzu 7 50,(zn (.st 6 zzb (.t 8) (.t 52)),[]),zp (zzk 9)]
def k0dc:IC:=(.seq qbu0 (.seq (.seq qcak (.seq qb2s (.cond (.t 24) (.seq qcbh .ret) .skip))) (.seq (.seq qbuu (.cond (.t 29) (.seq qb78 .ret) .skip)) (.seq qbr9 (.seq (.seq qbza (.cond (.t 44) (.seq qboh .ret) .skip)) (.seq q6t .ret))))))
@[go_sem] def s0dc:zzR:=[(.c true 3 6,zza),(.t 7,(.sl 5)),(.c true 6 8,zzb),(.t 9,.id)]
theorem c0dc:cFun Tryz.prog 34=some (53,k0dc,s0dc):=by kernel_rfl

def qcgs:IC:=zr [zzn 3 0,zzj 6 0]
def qcf8:IC:=zr [zm 8 1,zv 9 (.bin .sub .no (.t 8) (zc 1)),zm 1 9]
def qcff:IC:=zr [zm 10 2,zv 11 (.bin .lss .no (.t 10) (zc 1))]
def qcjb:IC:=zr [zv 6 (.mov (zc (-1)))]
def qcdu:IC:=zr [zzj 7 0]
def qch3:IC:=zr [zm 12 7,zzp 13 3 2,zzr 14 1 13,zzo 15 14,zzm 16 12 15,zm 17 16,zw 17 true 18 (zo 1),zw 17 true 19 (.bin .geq .no (.t 18) (zc 0)),zzh 20 17 19]
def qcj7:IC:=zr [zzp 23 3 2,zzr 24 1 23,zm 25 7,zzs 26 3 24 25,zzq 27 3 26,zm 28 1,zm 29 2,zv 30 (.bin .sub .no (.t 29) (zc 1)),zi 31 (zk 37 [zze 27,zI 28,zI 30]),zm 1 31]
def qcc6:IC:=zr [zm 21 7,zzl 22 21 1,zm 7 22]
def qciq:IC:=(.seq (.seq qch3 (.cond (.t 20) .skip (.exit 0))) (.seq (.block 1 qcj7) qcc6))
def qcam:IC:=zr [zm 32 1,zm 6 32]
def k0v:IC:=(.seq qcgs (.seq qcf8 (.seq (.seq qcff (.cond (.t 11) (.seq qcjb .ret) .skip)) (.seq (.seq qcdu (.block 0 (.loop qciq))) (.seq qcam .ret)))))
@[go_sem] def s0v:zzR:=[(.t 6,.id)]
theorem c0v:cFun Tryz.prog 37=some (33,k0v,s0v):=by kernel_rfl

def qb0i:IC:=zr [zzn 1 0,zv 2 (.mov (.c (.str [])))]
def qb62:IC:=zr [zzq 3 3 1,zi 4 (zk 67 [zze 3]),zv 5 (.un .not (.t 4))]
def qbny:IC:=zr [zv 2 (.mov (.c (.str [])))]
def qby1:IC:=zr [zzq 6 3 1,zi 7 (zk 68 [zze 6]),zm 2 7]
def k0co:IC:=(.seq qb0i (.seq (.seq qb62 (.cond (.t 5) (.seq qbny .ret) .skip)) (.seq qby1 .ret)))
@[go_sem] def s0co:zzR:=[(.t 2,.id)]
theorem c0co:cFun Tryz.prog 38=some (8,k0co,s0co):=by kernel_rfl

def qb2p:IC:=zr [zv 2 (.mov (.c .nilp))]
def qb3d:IC:=zr [zv 6 (.bld [.nils] []),zzn 7 6,zm 3 7]
def qbtt:IC:=zr [zm 8 0,zzo 9 8,zzj 10 0]
def qb6t:IC:=zr [zzm 11 10 9]
def qbot:IC:=zr [zzs 12 4 8 10,zzq 13 4 12,zi 5 (.alo [(.int .i64 0),(.str []),(.int .i64 0),.nils]),zn (.st 4 zzd (.t 5) (.t 13))]
def qb48:IC:=zr [zm 14 3,zzp 15 5 0,zzr 16 1 15,zzp 17 5 1,zzq 18 3 17,zi 19 (zk 69 [zI 14,zI 16,zze 18])]
def qb88:IC:=zr [zzl 20 10 1,zm 10 20]
def qb3b:IC:=(.seq qb6t (.seq (.cond (.t 11) .skip (.exit 0)) (.seq (.block 1 (.seq qbot qb48)) qb88)))
def qbpr:IC:=zr [zm 21 3,zm 2 21]
def k0da:IC:=(.seq qb2p (.seq qb3d (.seq (.seq qbtt (.block 0 (.loop qb3b))) (.seq qbpr .ret))))
@[go_sem] def s0da:zzR:=[(.t 2,.id)]
theorem c0da:cFun Tryz.prog 39=some (22,k0da,s0da):=by kernel_rfl

def qb38:IC:=zr [zzn 4 1,zzn 5 2,zv 6 (.mov (.c .nilp)),zzj 7 0]
def qbwa:IC:=zr [zm 13 0,zzq 14 3 4,zi 15 (zk 53 [zI 13,zze 14]),zm 12 15,zzt 16 12 0,zzt 17 12 1,zi 8 zzv,zn (.st 3 zza (.t 8) (.t 16)),zm 9 17]
def qbru:IC:=zr [zm 18 9,zv 19 (.bin .neq .no (.t 18) (zc 0))]
def qb45:IC:=zr [zm 20 9,zv 6 (.mov (.c .nilp)),zm 7 20]
def qb3i:IC:=zr [zm 22 0,zzq 23 3 5,zi 24 (zk 53 [zI 22,zze 23]),zm 21 24,zzt 25 21 0,zzt 26 21 1,zi 10 zzv,zn (.st 3 zza (.t 10) (.t 25)),zm 9 26]
def qbnz:IC:=zr [zm 27 9,zv 28 (.bin .neq .no (.t 27) (zc 0))]
def qbpd:IC:=zr [zm 29 9,zv 6 (.mov (.c .nilp)),zm 7 29]
def qb4x:IC:=zr [zzq 31 3 8,zzq 32 3 10,zi 33 (zk 70 [zze 31,zze 32]),zm 30 33,zzt 34 30 0,zzt 35 30 1,zm 11 34,zm 9 35]
def qcb0:IC:=zr [zm 36 9,zv 37 (.bin .neq .no (.t 36) (zc 0))]
def qcbm:IC:=zr [zm 38 9,zv 6 (.mov (.c .nilp)),zm 7 38]
def qbdw:IC:=zr [zm 39 0,zm 40 11,zi 41 (zk 71 [zI 39,zI 40]),zzt 42 41 0,zzt 43 41 1,zm 6 42,zm 7 43]
def k0ex:IC:=(.seq qb38 (.seq qbwa (.seq (.seq qbru (.cond (.t 19) (.seq qb45 .ret) .skip)) (.seq qb3i (.seq (.seq qbnz (.cond (.t 28) (.seq qbpd .ret) .skip)) (.seq qb4x (.seq (.seq qcb0 (.cond (.t 37) (.seq qcbm .ret) .skip)) (.seq qbdw .ret))))))))
@[go_sem] def s0ex:zzR:=[(.t 6,.id),(.t 7,.id)]
theorem c0ex:cFun Tryz.prog 40=some (44,k0ex,s0ex):=by kernel_rfl

def qbqd:IC:=zr [zv 2 (.mov (.c .nils)),zv 3 (.mov (.c .nils))]
def qbt4:IC:=zr [zv 4 (.mov (.c .nils))]
def qb4f:IC:=zr [zv 5 (.mov (.c .nils))]
def qbye:IC:=zr [zm 8 0,zv 9 (.nck (.t 8)),zzp 10 9 4,zzr 11 1 10,zi 12 (zk 81 [zI 11]),zzo 13 12,zzj 14 0]
def qbrm:IC:=zr [zzm 15 14 13]
def qby0:IC:=zr [zzs 16 4 12 14,zzq 17 4 16,zi 7 (.alo [(.int .i64 0),(.str []),(.int .i64 0),.nils]),zn (.st 4 zzd (.t 7) (.t 17))]
def qb94:IC:=.drw [zzu 18 4,zp (zzp 19 7 0),zp (zzr 20 1 19),(zv 21 (.bsl 1 [zI 20]),[]),zp (zi 22 (.app 1 (.int .i64 0) 8 (.sl 1) (.t 18) (.t 21))),zzu 23 5,zp (zzp 24 7 1),(zzq 25 3 24,[4]),(zv 26 (.bsl 3 [zze 25]),[4]),(zi 27 (.app 3 (.agg [(.str []),(.int .i64 0),.nils]) 48 (.sl 3) (.t 23) (.t 26)),[]),zzu 4 22,zzu 5 27]
def qbv2:IC:=zr [zzl 28 14 1,zm 14 28]
def qb5r:IC:=(.seq qbrm (.seq (.cond (.t 15) .skip (.exit 0)) (.seq (.block 1 (.seq qby0 qb94)) qbv2)))
def qbju:IC:=zr [zm 29 4,zm 30 5,zm 2 29,zm 3 30]
def k0ez:IC:=(.seq qbqd (.seq qbt4 (.seq qb4f (.seq (.seq qbye (.block 0 (.loop qb5r))) (.seq qbju .ret)))))
@[go_sem] def s0ez:zzR:=[(.t 2,(.sl 1)),(.t 3,(.sl 3))]
theorem c0ez:cFun Tryz.prog 50=some (31,k0ez,s0ez):=by kernel_rfl

def qb3v:IC:=zr [zzn 3 0,zi 6 zzv,zv 7 zf]
def qb5w:IC:=zr [zzq 9 3 3,zi 10 (zk 82 [zze 9]),zv 11 (.un .not (.t 10))]
def qbm6:IC:=zr [zv 12 (.bld [(.str []),(.int .i64 0),.nils] []),zn (.st 3 zza (.t 6) (.t 12)),zv 7 zf]
def qboi:IC:=zr [zzq 13 3 3,zm 14 1,zm 15 2,zi 16 (zk 83 [zze 13,((.t 14),(.sl 1)),((.t 15),(.sl 3))]),zi 8 zzv,zn (.st 3 zza (.t 8) (.t 16))]
def qcbz:IC:=.drw [zp (zzq 17 3 8),zp (zzq 18 3 8),(zi 19 (zk 82 [zze 18]),[0]),(zn (.st 3 zza (.t 6) (.t 17)),[]),zzu 7 19]
def k0cc:IC:=(.seq qb3v (.seq (.seq qb5w (.cond (.t 11) (.seq qbm6 .ret) .skip)) (.seq qboi (.seq qcbz .ret))))
@[go_sem] def s0cc:zzR:=[(.c true 3 6,zza),(.t 7,.id)]
theorem c0cc:cFun Tryz.prog 51=some (20,k0cc,s0cc):=by kernel_rfl

def qb9g:IC:=zr [zv 2 (.mov (.c (.str [])))]
def qb56:IC:=zr [zm 6 0,zv 7 (.cvi .u64 (.t 6)),zm 3 7]
def qccy:IC:=zr [zm 8 0,zv 9 (.bin .lss .no (.t 8) (zc 0))]
def qbrl:IC:=zr [zm 10 3,zv 11 (.un .neg (.t 10)),zm 3 11]
def qbqz:IC:=zr [zi 4 (.alo [(.int .u8 0),(.int .u8 0),(.int .u8 0),(.int .u8 0),(.int .u8 0),(.int .u8 0),(.int .u8 0),(.int .u8 0),(.int .u8 0),(.int .u8 0),(.int .u8 0),(.int .u8 0),(.int .u8 0),(.int .u8 0),(.int .u8 0),(.int .u8 0),(.int .u8 0),(.int .u8 0),(.int .u8 0),(.int .u8 0)])]
def qbok:IC:=zr [zzj 5 20]
def qb21:IC:=zr [zm 12 5,zv 13 (.bin .sub .no (.t 12) (zc 1)),zm 5 13]
def qb65:IC:=zr [zm 14 5,zm 15 3,zv 16 (.bin .rem .no (.t 15) (.c (.int .u64 10))),zv 17 (.bin .add .no (.c (.int .u64 48)) (.t 16)),zv 18 (.cvi .u8 (.t 17)),zv 19 (.aad 1 20 (.t 4) (.t 14)),zn (.st 1 .id (.t 19) (.t 18))]
def qb9o:IC:=zr [zm 20 3,zv 21 (.bin .quo .no (.t 20) (.c (.int .u64 10))),zm 3 21]
def qbcz:IC:=zr [zm 22 3,zv 23 (zq (.t 22) (.c (.int .u64 0)))]
def qb7t:IC:=(.block 1 (.seq qb21 (.seq qb65 (.seq qb9o (.seq qbcz (.cond (.t 23) (.exit 0) .skip))))))
def qbhr:IC:=zr [zm 24 0,zv 25 (.bin .lss .no (.t 24) (zc 0))]
def qbe5:IC:=zr [zm 26 5,zv 27 (.sla 20 (.t 4) (.t 26)),zv 28 (.cbs (.t 27)),zv 29 (.bin .add .no (.c (.str [45])) (.t 28)),zm 2 29]
def qbft:IC:=zr [zm 30 5,zv 31 (.sla 20 (.t 4) (.t 30)),zv 32 (.cbs (.t 31)),zm 2 32]
def k0by:IC:=(.seq qb9g (.seq qb56 (.seq (.seq qccy (.cond (.t 9) qbrl .skip)) (.seq qbqz (.seq qbok (.seq (.block 0 (.loop qb7t)) (.seq (.seq qbhr (.cond (.t 25) (.seq qbe5 .ret) .skip)) (.seq qbft .ret))))))))
@[go_sem] def s0by:zzR:=[(.t 2,.id)]
theorem c0by:cFun Tryz.prog 52=some (33,k0by,s0by):=by kernel_rfl

def qb0z:IC:=zr [zzn 3 1,zi 4 zzv,zzj 5 0]
def qb7i:IC:=zr [zzq 8 3 3,zi 9 (zk 67 [zze 8]),zv 10 (.un .not (.t 9))]
def qbxb:IC:=zr [zv 11 (.bld [(.str []),(.int .i64 0),.nils] []),zn (.st 3 zza (.t 4) (.t 11)),zzj 5 1]
def qbse:IC:=zr [zm 12 0,zv 13 (.bld [.nilp,(.int .i64 0)] [(0,1,(.t 12)),(1,1,(zc 4096))]),zzn 14 13,zm 6 14]
def qb85:IC:=zr [zm 15 6,zzq 16 3 3,zi 17 (zk 84 [zI 15,zze 16,((zc 1),.id)]),zi 7 zzv,zn (.st 3 zza (.t 7) (.t 17))]
def qb44:IC:=zr [zm 18 6,zv 19 (.nck (.t 18)),zzp 20 19 1,zzr 21 1 20,zv 22 (.bin .lss .no (.t 21) (zc 0))]
def qbs1:IC:=zr [zv 23 (.bld [(.str []),(.int .i64 0),.nils] []),zn (.st 3 zza (.t 4) (.t 23)),zzj 5 2]
def qccc:IC:=zr [zzq 24 3 7,zn (.st 3 zza (.t 4) (.t 24)),zzj 5 0]
def k0cz:IC:=(.seq qb0z (.seq (.seq qb7i (.cond (.t 10) (.seq qbxb .ret) .skip)) (.seq qbse (.seq qb85 (.seq (.seq qb44 (.cond (.t 22) (.seq qbs1 .ret) .skip)) (.seq qccc .ret))))))
@[go_sem] def s0cz:zzR:=[(.c true 3 4,zza),(.t 5,.id)]
theorem c0cz:cFun Tryz.prog 53=some (25,k0cz,s0cz):=by kernel_rfl

def qb4j:IC:=zr [zv 4 zf]
def qb0c:IC:=zr [zm 6 0,zzo 7 6,zm 8 1,zzo 9 8,zv 10 (.bin .neq .no (.t 7) (.t 9))]
def qbw1:IC:=zr [zv 4 zf]
def qb15:IC:=zr [zzj 5 0]
def qbq8:IC:=zr [zm 11 5,zm 12 0,zzo 13 12,zzm 14 11 13]
def qbxi:IC:=.drw [zzu 17 0,zzu 18 5,zp (zzs 19 3 17 18),zp (zzq 20 3 19),zzu 21 1,zzu 22 5,zp (zzs 23 3 21 22),zp (zzq 24 3 23),(zi 25 (zk 16 [zze 20,zze 24]),[]),zp (zv 26 (.un .not (.t 25)))]
def qbyl:IC:=zr [zv 4 zf]
def qb2o:IC:=zr [zm 15 5,zzl 16 15 1,zm 5 16]
def qboc:IC:=(.seq (.seq qbq8 (.cond (.t 14) .skip (.exit 0))) (.seq (.block 1 (.seq qbxi (.cond (.t 26) (.seq qbyl .ret) .skip))) qb2o))
def qbcs:IC:=zr [zzk 4]
def k0eu:IC:=(.seq qb4j (.seq (.seq qb0c (.cond (.t 10) (.seq qbw1 .ret) .skip)) (.seq (.seq qb15 (.block 0 (.loop qboc))) (.seq qbcs .ret))))
@[go_sem] def s0eu:zzR:=[(.t 4,.id)]
theorem c0eu:cFun Tryz.prog 56=some (27,k0eu,s0eu):=by kernel_rfl

def qcgh:IC:=zr [zzn 1 0,zzj 2 0]
def qcjw:IC:=zr [zzp 3 1 1,zzr 4 1 3,zi 5 (zk 87 [((.t 4),(.sl 3))]),zv 6 (zq (.t 5) (zc 0)),zm 7 6,zw 7 false 8 (zd 1 2),zw 7 false 9 (zg 1 8),zj 7 false 10 (zk 88 [((.t 9),(.sl 4))]),zw 7 false 11 (zq (.t 10) (zc 0)),zzi 12 7 11]
def qcc2:IC:=zr [zzj 2 0]
def qcg1:IC:=zr [zzj 2 1]
def k0b:IC:=(.seq qcgh (.seq (.seq qcjw (.cond (.t 12) (.seq qcc2 .ret) .skip)) (.seq qcg1 .ret)))
@[go_sem] def s0b:zzR:=[(.t 2,.id)]
theorem c0b:cFun Tryz.prog 58=some (13,k0b,s0b):=by kernel_rfl

def qckw:IC:=zr [zzj 2 0]
def qce2:IC:=zr [zm 3 0,zzo 4 3,zv 5 (.bin .gtr .no (.t 4) (zc 20))]
def qcdh:IC:=zr [zzj 2 0]
def qcet:IC:=zr [zzj 2 1]
def k0c:IC:=(.seq qckw (.seq (.seq qce2 (.cond (.t 5) (.seq qcdh .ret) .skip)) (.seq qcet .ret)))
@[go_sem] def s0c:zzR:=[(.t 2,.id)]
theorem c0c:cFun Tryz.prog 59=some (6,k0c,s0c):=by kernel_rfl

def qbyb:IC:=zr [zzn 2 0,zzj 4 0]
def qbxk:IC:=zr [zm 6 1,zv 7 (.bin .sub .no (.t 6) (zc 1)),zm 1 7]
def qb01:IC:=zr [zzj 5 0]
def qb0j:IC:=zr [zm 8 5,zzp 9 2 4,zzr 10 1 9,zzo 11 10,zzm 12 8 11,zm 13 12,zw 13 true 14 (zo 1),zw 13 true 15 (.bin .geq .no (.t 14) (zc 0)),zzh 16 13 15]
def qb4y:IC:=zr [zzp 19 2 4,zzr 20 1 19,zm 21 5,zzs 22 5 20 21,zzq 23 5 22,zm 24 1,zi 25 (zk 60 [zA 23,zI 24]),zm 1 25]
def qboo:IC:=zr [zm 17 5,zzl 18 17 1,zm 5 18]
def qbm2:IC:=(.seq (.seq qb0j (.cond (.t 16) .skip (.exit 0))) (.seq (.block 1 qb4y) qboo))
def qbz3:IC:=zr [zm 26 1,zm 4 26]
def k0eq:IC:=(.seq qbyb (.seq qbxk (.seq (.seq qb01 (.block 0 (.loop qbm2))) (.seq qbz3 .ret))))
@[go_sem] def s0eq:zzR:=[(.t 4,.id)]
theorem c0eq:cFun Tryz.prog 60=some (27,k0eq,s0eq):=by kernel_rfl

def qbp5:IC:=zr [zv 0 (.mov (.c .nils))]
def qb20:IC:=zr [zv 1 (.bld [(.str []),.nils] [(0,1,(.c (.str [70,97,108,115,101])))]),zv 2 (.bld [(.str []),.nils] [(0,1,(.c (.str [84,114,117,101])))]),zv 3 (.bsl 2 [((.t 1),(.agg [.id,(.sl 3)])),((.t 2),(.agg [.id,(.sl 3)]))]),zv 4 (.bld [(.str []),(.int .i64 0),.nils] [(0,1,(.c (.str [66,111,111,108]))),(2,1,(.t 3))]),zv 5 (.bld [(.str []),(.int .i64 0),.nils] [(0,1,(.c (.str [73,110,116])))]),zv 6 (.bsl 3 [((.t 4),(.agg [.id,.id,(.sl 2)])),((.t 5),(.agg [.id,.id,(.sl 2)]))]),zm 0 6]
def k0de:IC:=(.seq qbp5 (.seq qb20 .ret))
@[go_sem] def s0de:zzR:=[(.t 0,(.sl 3))]
theorem c0de:cFun Tryz.prog 61=some (7,k0de,s0de):=by kernel_rfl

def qcct:IC:=zr [zi 2 zaN,zzj 3 0,zzj 4 0]
def qbrz:IC:=zr [zm 14 0,zi 15 (zk 89 [zI 14]),zm 13 15,zzt 16 13 0,zzt 17 13 1,zzt 18 13 2,zm 5 16,zm 6 17,zm 7 18]
def qbyz:IC:=zr [zm 19 7,zv 20 (.bin .neq .no (.t 19) (zc 0))]
def qbtm:IC:=zr [zv 21 (.bld [(.int .i64 0),(.int .i64 0),(.int .i64 0),(.str []),.nils] []),zm 22 6,zm 23 7,zn (.st 5 zN (.t 2) (.t 21)),zm 3 22,zm 4 23]
def qbmk:IC:=zr [zm 24 5,zi 25 (zk 90 [((.t 24),(.sl 4))]),zm 8 25]
def qbz2:IC:=zr [zm 27 8,zi 28 (zk 91 [zI 27]),zm 26 28,zzt 29 26 0,zzt 30 26 1,zi 9 zaN,zn (.st 5 zN (.t 9) (.t 29)),zm 10 30]
def qbxq:IC:=zr [zm 32 8,zi 33 (zk 92 [zI 32]),zm 31 33,zzt 34 31 0,zzt 35 31 1,zm 11 34,zm 12 35]
def qb0g:IC:=zr [zm 36 12,zv 37 (.bin .neq .no (.t 36) (zc 0))]
def qb1e:IC:=zr [zv 38 (.bld [(.int .i64 0),(.int .i64 0),(.int .i64 0),(.str []),.nils] []),zm 39 11,zm 40 12,zn (.st 5 zN (.t 2) (.t 38)),zm 3 39,zm 4 40]
def qbve:IC:=zr [zzq 41 5 9,zi 42 (zk 93 [zA 41]),zv 43 (.bin .gtr .no (.t 42) (zc 100))]
def qbdo:IC:=.drw [(zv 44 (.bld [(.int .i64 0),(.int .i64 0),(.int .i64 0),(.str []),.nils] []),[]),zp (zzp 45 9 1),zp (zzr 46 1 45),(zn (.st 5 zN (.t 2) (.t 44)),[2]),zzu 3 46,zp (zzj 4 2)]
def qbhs:IC:=zr [zzq 47 5 9,zn (.st 5 zN (.t 2) (.t 47)),zzj 3 0,zzj 4 0]
def k0dj:IC:=(.seq qcct (.seq qbrz (.seq (.seq qbyz (.cond (.t 20) (.seq qbtm .ret) .skip)) (.seq qbmk (.seq qbz2 (.seq (.seq qbxq (.seq qb0g (.cond (.t 37) (.seq qb1e .ret) .skip))) (.seq (.seq qbve (.cond (.t 43) (.seq qbdo .ret) .skip)) (.seq qbhs .ret))))))))
@[go_sem] def s0dj:zzR:=[(.c true 5 2,zN),(.t 3,.id),(.t 4,.id)]
theorem c0dj:cFun Tryz.prog 62=some (48,k0dj,s0dj):=by kernel_rfl

def qbzb:IC:=zr [zzn 2 0,zzn 3 1,zi 4 zzv,zv 5 (.mov (.c .nils)),zi 6 zzx,zzj 7 0,zzj 8 0]
def qbsx:IC:=zr [zzq 25 5 3,zi 26 (zk 64 [zA 25]),zv 27 (.un .not (.t 26))]
def qbo4:IC:=.drw [(zv 28 (.bld [(.str []),(.int .i64 0),.nils] []),[]),(zv 29 (.bld [(.int .i64 0),(.int .i64 0),(.str []),.nils,.nils,.nils] []),[]),zp (zzp 30 3 1),zp (zzr 31 1 30),(zn (.st 3 zza (.t 4) (.t 28)),[3]),zp (zv 5 (.mov (.c .nils))),(zn (.st 6 zzb (.t 6) (.t 29)),[3]),zzu 7 31,zp (zzj 8 1)]
def qbtj:IC:=zr [zzq 33 5 3,zi 34 (zk 94 [zA 33]),zm 32 34,zzt 35 32 0,zzt 36 32 1,zm 9 35,zm 10 36]
def qbnn:IC:=zr [zm 37 10,zv 38 (.un .not (.t 37))]
def qb9j:IC:=zr [zv 39 (.bld [(.str []),(.int .i64 0),.nils] []),zv 40 (.bld [(.int .i64 0),(.int .i64 0),(.str []),.nils,.nils,.nils] []),zm 41 9,zn (.st 3 zza (.t 4) (.t 39)),zv 5 (.mov (.c .nils)),zn (.st 6 zzb (.t 6) (.t 40)),zm 7 41,zzj 8 6]
def qb9k:IC:=zr [zi 42 (zk 11 []),zm 11 42]
def qbt3:IC:=zr [zzq 44 3 2,zm 45 11,zzq 46 5 3,zi 47 (zk 34 [((.t 44),(.agg [(.sl 3),(.sl 3),(.sl 4)])),zI 45,zA 46]),zm 43 47,zzt 48 43 0,zzt 49 43 1,zzt 50 43 2,zzt 51 43 3,zi 12 zzv,zi 14 zzx,zn (.st 3 zza (.t 12) (.t 48)),zm 13 49,zn (.st 6 zzb (.t 14) (.t 50)),zm 15 51]
def qb8z:IC:=zr [zm 52 15,zv 53 (.un .not (.t 52))]
def qbm4:IC:=zr [zm 55 11,zi 56 (zk 19 [zI 55]),zm 54 56,zzt 57 54 0,zzt 58 54 1,zm 16 57,zm 17 58]
def qber:IC:=zr [zv 59 (.bld [(.str []),(.int .i64 0),.nils] []),zv 60 (.bld [(.int .i64 0),(.int .i64 0),(.str []),.nils,.nils,.nils] []),zm 61 16,zm 62 17,zn (.st 3 zza (.t 4) (.t 59)),zv 5 (.mov (.c .nils)),zn (.st 6 zzb (.t 6) (.t 60)),zm 7 61,zm 8 62]
def qbj2:IC:=zr [zm 63 11,zzq 64 3 12,zi 65 (zk 15 [zI 63,zze 64]),zv 66 (.bld [(.str []),(.str []),(.int .i64 0),.nils] [(1,3,(.t 65))]),zv 67 (.bsl 4 [((.t 66),zzd)]),zm 18 67]
def qso:IC:=zr [zm 68 13,zzo 69 68,zzj 70 0]
def qbhd:IC:=zr [zzm 71 70 69]
def qbcj:IC:=zr [zzs 72 5 68 70,zzq 73 5 72,zi 20 (.alo [(.str []),.nils,(.str []),(.int .i64 0),.nils]),zn (.st 5 (.agg [.id,(.sl 1),.id,.id,(.sl 3)]) (.t 20) (.t 73))]
def qbhz:IC:=zr [zm 74 18,zm 75 11,zzp 76 20 1,zzp 77 76 1,zzq 78 3 77,zi 79 (zk 15 [zI 75,zze 78]),zv 80 (.bld [(.str []),(.str []),(.int .i64 0),.nils] [(1,3,(.t 79))]),zv 81 (.bsl 4 [((.t 80),zzd)]),zi 82 (.app 4 (.agg [(.str []),(.str []),(.int .i64 0),.nils]) 64 (.sl 4) (.t 74) (.t 81)),zm 18 82]
def qbge:IC:=zr [zzl 83 70 1,zm 70 83]
def qbds:IC:=(.seq qbhd (.seq (.cond (.t 71) .skip (.exit 0)) (.seq (.block 1 (.seq qbcj qbhz)) qbge)))
def qrq:IC:=zr [zm 84 18,zi 85 (zk 95 [((.t 84),(.sl 4))]),zm 21 85]
def qbk5:IC:=zr [zm 86 21,zzo 87 86,zi 88 (.mks 3 (.agg [(.str []),(.int .i64 0),.nils]) 48 (.t 87) (.t 87)),zm 22 88]
def qrv:IC:=zr [zm 89 22,zzo 90 89,zzj 91 0]
def qbdl:IC:=zr [zzm 92 91 90]
def qbe4:IC:=zr [zm 93 91,zm 23 93]
def qbhf:IC:=zr [zm 94 22,zm 95 23,zm 96 23,zzs 97 3 94 95,zzp 98 97 1,zn (.st 1 .id (.t 98) (.t 96))]
def qbd3:IC:=zr [zzl 99 91 1,zm 91 99]
def qbjb:IC:=(.seq qbdl (.seq (.cond (.t 92) .skip (.exit 2)) (.seq (.block 3 (.seq qbe4 qbhf)) qbd3)))
def qqs:IC:=zr [zm 100 13,zzo 101 100,zzj 102 0]
def qbeo:IC:=zr [zzm 103 102 101]
def qbim:IC:=zr [zm 104 102,zm 24 104]
def qbez:IC:=zr [zm 105 13,zm 106 24,zm 107 18,zm 108 24,zzl 109 108 1,zzs 110 4 107 109,zzp 111 110 1,zzq 112 3 111,zm 113 21,zm 114 22,zi 115 (zk 83 [zze 112,((.t 113),(.sl 1)),((.t 114),(.sl 3))]),zzs 116 5 105 106,zzp 117 116 1,zzp 118 117 1,zn (.st 3 zza (.t 118) (.t 115))]
def qbek:IC:=zr [zzl 119 102 1,zm 102 119]
def qbh3:IC:=(.seq qbeo (.seq (.cond (.t 103) .skip (.exit 4)) (.seq (.block 5 (.seq qbim qbez)) qbek)))
def qr3:IC:=.drw [zzu 120 18,zp (zv 121 (.iad 4 (.t 120) (zc 0))),zp (zzp 122 121 1),zp (zzq 123 3 122),zzu 124 21,zzu 125 22,(zi 126 (zk 83 [zze 123,((.t 124),(.sl 1)),((.t 125),(.sl 3))]),[]),zzu 127 13,(zzq 128 6 14,[6]),(zn (.st 3 zza (.t 4) (.t 126)),[8]),zzu 5 127,(zn (.st 6 zzb (.t 6) (.t 128)),[]),zp (zzj 7 0),zp (zzj 8 0)]
def k0dg:IC:=(.seq qbzb (.seq (.seq qbsx (.cond (.t 27) (.seq qbo4 .ret) .skip)) (.seq (.seq qbtj (.seq qbnn (.cond (.t 38) (.seq qb9j .ret) .skip))) (.seq qb9k (.seq qbt3 (.seq (.seq qb8z (.cond (.t 53) (.seq qbm4 (.seq qber .ret)) .skip)) (.seq qbj2 (.seq (.seq qso (.block 0 (.loop qbds))) (.seq qrq (.seq qbk5 (.seq (.seq qrv (.block 2 (.loop qbjb))) (.seq (.seq qqs (.block 4 (.loop qbh3))) (.seq qr3 .ret)))))))))))))
@[go_sem] def s0dg:zzR:=[(.c true 3 4,zza),(.t 5,(.sl 5)),(.c true 6 6,zzb),(.t 7,.id),(.t 8,.id)]
theorem c0dg:cFun Tryz.prog 63=some (129,k0dg,s0dg):=by kernel_rfl

def qbx5:IC:=zr [zzn 1 0,zv 2 zf]
def qbrq:IC:=zr [zzq 3 5 1,zi 4 (zk 96 [zA 3]),zm 5 4,zw 5 true 6 (zl 5 1),zj 5 true 7 (zk 97 [zA 6]),zzh 8 5 7,zm 2 8]
def k0eg:IC:=(.seq qbx5 (.seq qbrq .ret))
@[go_sem] def s0eg:zzR:=[(.t 2,.id)]
theorem c0eg:cFun Tryz.prog 64=some (9,k0eg,s0eg):=by kernel_rfl

def qb4e:IC:=zr [zzn 3 0,zzn 5 2,zi 6 (.alo [(.str []),(.int .i64 0),.nils,.nils,(.int .i64 0),(.int .i64 0),(.str []),.nils,.nils,.nils]),zv 7 zf]
def qccn:IC:=zr [zzp 9 5 0,zzr 10 1 9]
def qb13:IC:=zr [zv 12 (zq (.t 10) (zc 11)),zm 11 12]
def qbwc:IC:=zr [zm 13 1,zi 14 (zk 21 [zI 13]),zi 8 zzv,zn (.st 3 zza (.t 8) (.t 14))]
def qbvv:IC:=zr [zzq 15 3 8,zzp 16 5 3,zzr 17 1 16,zzq 18 3 8,zv 19 (.bld [.nils,(.str []),(.int .i64 0),.nils] [(1,3,(.t 18))]),zv 20 (.bld [(.str []),.nils,(.str []),(.int .i64 0),.nils] [(0,1,(.t 17)),(1,4,(.t 19))]),zv 21 (.bsl 5 [((.t 20),(.agg [.id,(.sl 1),.id,.id,(.sl 3)]))]),zzp 22 5 3,zzr 23 1 22,zv 24 (.bld [(.int .i64 0),(.int .i64 0),(.str []),.nils,.nils,.nils] [(0,1,(zc 21)),(2,1,(.t 23))]),zv 25 (.bld [(.str []),(.int .i64 0),.nils,.nils,(.int .i64 0),(.int .i64 0),(.str []),.nils,.nils,.nils] [(0,3,(.t 15)),(3,1,(.t 21)),(4,6,(.t 24))]),zn (.st 10 (.agg [.id,.id,(.sl 3),(.sl 5),.id,.id,.id,(.sl 1),(.sl 3),(.sl 6)]) (.t 6) (.t 25)),zzk 7]
def qb1c:IC:=zr [zv 27 (zq (.t 10) (zc 12)),zm 26 27]
def qbvd:IC:=zr [zm 28 1,zi 29 (zk 21 [zI 28]),zv 30 (.bld [(.int .i64 0),(.int .i64 0),(.str []),.nils,.nils,.nils] [(0,1,(zc 22))]),zv 31 (.bld [(.str []),(.int .i64 0),.nils,.nils,(.int .i64 0),(.int .i64 0),(.str []),.nils,.nils,.nils] [(0,3,(.t 29)),(4,6,(.t 30))]),zn (.st 10 (.agg [.id,.id,(.sl 3),(.sl 5),.id,.id,.id,(.sl 1),(.sl 3),(.sl 6)]) (.t 6) (.t 31)),zzk 7]
def qbsv:IC:=zr [zv 33 (zq (.t 10) (zc 13)),zm 32 33]
def qbyk:IC:=zr [zv 34 (.bld [(.str []),(.int .i64 0),.nils] [(0,1,(.c (.str [73,110,116])))]),zzp 35 5 2,zzr 36 1 35,zv 37 (.bld [(.int .i64 0),(.int .i64 0),(.str []),.nils,.nils,.nils] [(0,1,(zc 23)),(1,1,(.t 36))]),zv 38 (.bld [(.str []),(.int .i64 0),.nils,.nils,(.int .i64 0),(.int .i64 0),(.str []),.nils,.nils,.nils] [(0,3,(.t 34)),(4,6,(.t 37))]),zn (.st 10 (.agg [.id,.id,(.sl 3),(.sl 5),.id,.id,.id,(.sl 1),(.sl 3),(.sl 6)]) (.t 6) (.t 38)),zzk 7]
def qbzi:IC:=zr [zzq 39 3 3,zm 40 1,zzq 41 5 5,zi 42 (zk 98 [((.t 39),(.agg [(.sl 3),(.sl 3),(.sl 4)])),zI 40,zA 41]),zzt 43 42 0,zzt 44 42 1,zn (.st 10 (.agg [.id,.id,(.sl 3),(.sl 5),.id,.id,.id,(.sl 1),(.sl 3),(.sl 6)]) (.t 6) (.t 43)),zm 7 44]
def k0di:IC:=(.seq qb4e (.seq (.seq qccn (.block 0 (.seq qb13 (.cond (.t 11) (.seq qbwc (.seq qbvv .ret)) (.seq qb1c (.cond (.t 26) (.seq qbvd .ret) (.seq qbsv (.cond (.t 32) (.seq qbyk .ret) .skip)))))))) (.seq qbzi .ret)))
@[go_sem] def s0di:zzR:=[(.c true 10 6,(.agg [.id,.id,(.sl 3),(.sl 5),.id,.id,.id,(.sl 1),(.sl 3),(.sl 6)])),(.t 7,.id)]
theorem c0di:cFun Tryz.prog 65=some (45,k0di,s0di):=by kernel_rfl

def qcks:IC:=zr [zzn 1 0,zv 2 zf]
def qci4:IC:=zr [zi 3 (.alo [(.int .i64 0)]),zn (.st 1 .id (.t 3) (zc 0))]
def qcjn:IC:=zr [zzq 4 3 1,zv 5 (.mfn 100 [] [(.t 3)]),zi 6 (zk 99 [zze 4,((zc 1),.id),zI 5]),zm 2 6]
def k0s:IC:=(.seq qcks (.seq qci4 (.seq qcjn .ret)))
@[go_sem] def s0s:zzR:=[(.t 2,.id)]
theorem c0s:cFun Tryz.prog 67=some (7,k0s,s0s):=by kernel_rfl

def qbso:IC:=zr [zzn 1 0,zv 2 (.mov (.c (.str [])))]
def qb7b:IC:=zr [zzp 6 1 0,zzr 7 1 6,zv 8 (zq (.t 7) (.c (.str [45,62])))]
def qb5l:IC:=.drw [zp (zzp 9 1 2),zp (zzr 10 1 9),zp (zv 11 (.iad 3 (.t 10) (zc 0))),zp (zzq 12 3 11),zp (zzp 13 1 2),zp (zzr 14 1 13),zp (zv 15 (.iad 3 (.t 14) (zc 0))),zp (zzp 16 15 0),zp (zzr 17 1 16),(zv 18 (zq (.t 17) (.c (.str [45,62]))),[]),(zi 19 (zk 103 [zze 12,zI 18]),[]),(zv 20 (.bin .add .no (.t 19) (.c (.str [32,45,62,32]))),[]),zp (zzp 21 1 2),(zzr 22 1 21,[10]),zp (zv 23 (.iad 3 (.t 22) (zc 1))),(zzq 24 3 23,[10]),(zi 25 (zk 68 [zze 24]),[]),zp (zv 26 (.bin .add .no (.t 20) (.t 25))),zzu 2 26]
def qb3g:IC:=zr [zi 3 (.bld 202 5)]
def qb66:IC:=zr [zzq 27 3 1,zi 28 (zk 101 [zze 27]),zi 29 (zk 105 [zI 28]),zi 30 (zk 104 [((.t 3),(.agg [.id,(.sl 1)])),zI 29])]
def qccm:IC:=zr [zzp 31 1 2,zzr 32 1 31,zzo 33 32,zzj 34 0]
def qb3j:IC:=zr [zzm 35 34 33]
def qbmd:IC:=zr [zzs 36 3 32 34,zzq 37 3 36,zi 5 zzv,zn (.st 3 zza (.t 5) (.t 37))]
def qb5x:IC:=zr [zzq 38 3 5,zzp 39 5 2,zzr 40 1 39,zzo 41 40,zv 42 (.bin .gtr .no (.t 41) (zc 0)),zi 43 (zk 103 [zze 38,zI 42]),zv 44 (.bin .add .no (.c (.str [32])) (.t 43)),zi 45 (zk 104 [((.t 3),(.agg [.id,(.sl 1)])),zI 44])]
def qbhg:IC:=zr [zzl 46 34 1,zm 34 46]
def qbr0:IC:=(.seq qb3j (.seq (.cond (.t 35) .skip (.exit 0)) (.seq (.block 1 (.seq qbmd qb5x)) qbhg)))
def qbgb:IC:=zr [zi 47 (zk 106 [((.t 3),(.agg [.id,(.sl 1)]))]),zm 2 47]
def k0cn:IC:=(.seq qbso (.seq (.seq qb7b (.cond (.t 8) (.seq qb5l .ret) .skip)) (.seq qb3g (.seq qb66 (.seq (.seq qccm (.block 0 (.loop qbr0))) (.seq qbgb .ret))))))
@[go_sem] def s0cn:zzR:=[(.t 2,.id)]
theorem c0cn:cFun Tryz.prog 68=some (48,k0cn,s0cn):=by kernel_rfl

def qb5e:IC:=zr [zzn 5 2,zzj 6 0]
def qbxn:IC:=zr [zm 9 0,zv 10 (.bin .eql .ptr (.t 9) (.c .nilp)),zm 11 10,zw 11 false 12 (zl 3 5),zj 11 false 13 (zk 67 [zze 12]),zw 11 false 14 (.un .not (.t 13)),zzi 15 11 14]
def qb1i:IC:=zr [zzj 6 1]
def qbx8:IC:=zr [zm 17 0,zm 18 1,zi 19 (zk 107 [zI 17,zI 18]),zm 16 19,zzt 20 16 0,zzt 21 16 1,zm 7 20,zm 8 21]
def qbvx:IC:=zr [zm 22 8]
def qbzp:IC:=zr [zzj 6 6]
def qbwy:IC:=.drw [zzu 23 0,zzu 24 0,zp (zv 25 (.nck (.t 24))),zp (zzp 26 25 0),zp (zzr 27 1 26),zzu 28 7,zzu 29 1,zp (zzq 30 3 5),(zi 31 (zk 109 [zze 30]),[4]),(zv 32 (.bld [(.int .i64 0),(.str []),(.int .i64 0),.nils] [(0,1,(.t 29)),(1,3,(.t 31))]),[]),(zv 33 (.bsl 4 [((.t 32),zzd)]),[]),(zi 34 (zk 108 [((.t 27),(.sl 4)),zI 28,((.t 33),(.sl 4))]),[]),zp (zv 35 (.nck (.t 23))),zp (zzp 36 35 0),(zn (.st 1 (.sl 4) (.t 36) (.t 34)),[])]
def qbod:IC:=zr [zzj 6 0]
def k0cr:IC:=(.seq qb5e (.seq (.seq qbxn (.cond (.t 15) (.seq qb1i .ret) .skip)) (.seq qbx8 (.seq (.seq qbvx (.cond (.t 22) (.seq qbzp .ret) .skip)) (.seq qbwy (.seq qbod .ret))))))
@[go_sem] def s0cr:zzR:=[(.t 6,.id)]
theorem c0cr:cFun Tryz.prog 69=some (37,k0cr,s0cr):=by kernel_rfl

def qbx9:IC:=zr [zzn 2 0,zzn 3 1,zv 4 (.mov (.c .nilp)),zzj 5 0]
def qcae:IC:=zr [zzq 6 3 2,zzq 7 3 3,zv 8 (.bsl 3 [zze 6,zze 7]),zi 9 (zk 110 [((.t 8),(.sl 3))]),zv 10 (.un .not (.t 9))]
def qb3a:IC:=zr [zv 4 (.mov (.c .nilp)),zzj 5 1]
def qbrb:IC:=zr [zzq 11 3 2,zzq 12 3 3,zv 13 (.bld [(.str []),(.int .i64 0),.nils,(.str []),(.int .i64 0),.nils] [(0,3,(.t 11)),(3,3,(.t 12))]),zv 14 (.bsl 6 [((.t 13),(.agg [.id,.id,(.sl 3),.id,.id,(.sl 3)]))]),zi 15 (zk 111 [((.t 14),(.sl 6))]),zzt 16 15 0,zzt 17 15 1,zm 4 16,zm 5 17]
def k0fd:IC:=(.seq qbx9 (.seq (.seq qcae (.cond (.t 10) (.seq qb3a .ret) .skip)) (.seq qbrb .ret)))
@[go_sem] def s0fd:zzR:=[(.t 4,.id),(.t 5,.id)]
theorem c0fd:cFun Tryz.prog 70=some (18,k0fd,s0fd):=by kernel_rfl

def qbzr:IC:=zr [zv 4 (.mov (.c .nilp)),zzj 5 0]
def qbun:IC:=zr [zi 13 (zk 39 [((.c .nils),(.sl 4))]),zm 6 13]
def qb8j:IC:=zr [zm 14 0,zi 15 (zk 81 [zI 14]),zzo 16 15,zzj 17 0]
def qbpy:IC:=zr [zzm 18 17 16]
def qb32:IC:=zr [zzs 19 4 15 17,zzq 20 4 19,zi 8 (.alo [(.int .i64 0),(.str []),(.int .i64 0),.nils]),zn (.st 4 zzd (.t 8) (.t 20))]
def qbta:IC:=zr [zm 22 1,zzp 23 8 1,zzq 24 3 23,zi 25 (zk 53 [zI 22,zze 24]),zm 21 25,zzt 26 21 0,zzt 27 21 1,zi 9 zzv,zn (.st 3 zza (.t 9) (.t 26)),zm 10 27]
def qbue:IC:=zr [zm 28 10,zv 29 (.bin .neq .no (.t 28) (zc 0))]
def qb6z:IC:=zr [zm 30 10,zv 4 (.mov (.c .nilp)),zm 5 30]
def qbrd:IC:=zr [zm 31 6,zzp 32 8 0,zzr 33 1 32,zzq 34 3 9,zi 35 (zk 69 [zI 31,zI 33,zze 34])]
def qbde:IC:=zr [zzl 36 17 1,zm 17 36]
def qb6l:IC:=(.seq qbpy (.seq (.cond (.t 18) .skip (.exit 0)) (.seq (.block 1 (.seq qb32 (.seq qbta (.seq (.seq qbue (.cond (.t 29) (.seq qb6z .ret) .skip)) qbrd)))) qbde)))
def qbdq:IC:=zr [zm 37 1,zi 38 (zk 81 [zI 37]),zzo 39 38,zzj 40 0]
def qbja:IC:=zr [zzm 41 40 39]
def qbf4:IC:=zr [zzs 42 4 38 40,zzq 43 4 42,zi 12 (.alo [(.int .i64 0),(.str []),(.int .i64 0),.nils]),zn (.st 4 zzd (.t 12) (.t 43))]
def qbfv:IC:=zr [zm 44 6,zzp 45 12 0,zzr 46 1 45,zzp 47 12 1,zzq 48 3 47,zi 49 (zk 69 [zI 44,zI 46,zze 48])]
def qbgk:IC:=zr [zzl 50 40 1,zm 40 50]
def qbj1:IC:=(.seq qbja (.seq (.cond (.t 41) .skip (.exit 2)) (.seq (.block 3 (.seq qbf4 qbfv)) qbgk)))
def qbe3:IC:=zr [zm 51 6,zm 4 51,zzj 5 0]
def k0cx:IC:=(.seq qbzr (.seq qbun (.seq (.seq qb8j (.block 0 (.loop qb6l))) (.seq (.seq qbdq (.block 2 (.loop qbj1))) (.seq qbe3 .ret)))))
@[go_sem] def s0cx:zzR:=[(.t 4,.id),(.t 5,.id)]
theorem c0cx:cFun Tryz.prog 71=some (52,k0cx,s0cx):=by kernel_rfl

def qbuc:IC:=zr [zv 2 (.mov (.c (.str [])))]
def qbrt:IC:=zr [zm 5 0,zi 6 (zk 117 [zI 5]),zm 3 6]
def qb5n:IC:=zr [zv 4 (.mov (.c (.str [])))]
def qb3f:IC:=zr [zm 7 3,zv 8 (.bin .gtr .no (.t 7) (.c (.int .u64 9)))]
def qbmt:IC:=zr [zm 9 3,zv 10 (.bin .rem .no (.t 9) (.c (.int .u64 10))),zv 11 (.bin .add .no (.c (.int .u64 48)) (.t 10)),zv 12 (.cvi .u8 (.t 11)),zv 13 (.bsl 1 [zI 12]),zv 14 (.cbs (.t 13)),zm 15 4,zv 16 (.bin .add .no (.t 14) (.t 15)),zm 4 16]
def qbvt:IC:=zr [zm 17 3,zv 18 (.bin .quo .no (.t 17) (.c (.int .u64 10))),zm 3 18]
def qcau:IC:=(.seq (.seq qb3f (.cond (.t 8) .skip (.exit 0))) (.block 1 (.seq qbmt qbvt)))
def qb3m:IC:=zr [zm 19 3,zv 20 (.bin .add .no (.c (.int .u64 48)) (.t 19)),zv 21 (.cvi .u8 (.t 20)),zv 22 (.bsl 1 [zI 21]),zv 23 (.cbs (.t 22)),zm 24 4,zv 25 (.bin .add .no (.t 23) (.t 24)),zm 4 25]
def qbs0:IC:=zr [zm 26 0,zv 27 (.bin .lss .no (.t 26) (zc 0))]
def qbjz:IC:=zr [zm 28 4,zv 29 (.bin .add .no (.c (.str [45])) (.t 28)),zm 2 29]
def qbfy:IC:=zr [zm 30 4,zm 2 30]
def k0bx:IC:=(.seq qbuc (.seq qbrt (.seq qb5n (.seq (.block 0 (.loop qcau)) (.seq qb3m (.seq (.seq qbs0 (.cond (.t 27) (.seq qbjz .ret) .skip)) (.seq qbfy .ret)))))))
@[go_sem] def s0bx:zzR:=[(.t 2,.id)]
theorem c0bx:cFun Tryz.prog 76=some (31,k0bx,s0bx):=by kernel_rfl

def qb2g:IC:=zr [zv 2 (.mov (.c .nils))]
def qb40:IC:=zr [zm 6 0,zv 7 (.bin .eql .ptr (.t 6) (.c .nilp))]
def qb4q:IC:=zr [zv 2 (.mov (.c .nils))]
def qbmw:IC:=zr [zm 8 0,zv 9 (.nck (.t 8)),zzp 10 9 0,zzr 11 1 10,zzo 12 11,zi 13 (.mks 4 (.agg [(.int .i64 0),(.str []),(.int .i64 0),.nils]) 56 (.t 12) (.t 12)),zm 3 13]
def qb8d:IC:=zr [zm 14 0,zv 15 (.nck (.t 14)),zzp 16 15 0,zzr 17 1 16,zzo 18 17,zzj 19 0]
def qb50:IC:=zr [zzm 20 19 18]
def qb2b:IC:=zr [zm 21 19,zzs 22 4 17 19,zzq 23 4 22,zi 5 (.alo [(.int .i64 0),(.str []),(.int .i64 0),.nils]),zm 4 21,zn (.st 4 zzd (.t 5) (.t 23))]
def qby2:IC:=.drw [zzu 24 3,zzu 25 4,zp (zzp 26 5 0),zp (zzr 27 1 26),zp (zzp 28 5 1),zp (zzq 29 3 28),(zi 30 (zk 109 [zze 29]),[3]),(zv 31 (.bld [(.int .i64 0),(.str []),(.int .i64 0),.nils] [(0,1,(.t 27)),(1,3,(.t 30))]),[]),zp (zzs 32 4 24 25),(zn (.st 4 zzd (.t 32) (.t 31)),[])]
def qbnt:IC:=zr [zzl 33 19 1,zm 19 33]
def qbwr:IC:=(.seq qb50 (.seq (.cond (.t 20) .skip (.exit 0)) (.seq (.block 1 (.seq qb2b qby2)) qbnt)))
def qbdg:IC:=zr [zm 34 3,zm 2 34]
def k0cy:IC:=(.seq qb2g (.seq (.seq qb40 (.cond (.t 7) (.seq qb4q .ret) .skip)) (.seq qbmw (.seq (.seq qb8d (.block 0 (.loop qbwr))) (.seq qbdg .ret)))))
@[go_sem] def s0cy:zzR:=[(.t 2,(.sl 4))]
theorem c0cy:cFun Tryz.prog 81=some (35,k0cy,s0cy):=by kernel_rfl

def qb1f:IC:=zr [zzn 1 0,zv 2 zf]
def qbpz:IC:=zr [zv 4 (.bld [(.int .i64 0)] [(0,1,(zc 4096))]),zzn 5 4,zm 3 5]
def qbx4:IC:=zr [zm 6 3,zzq 7 3 1,zi 8 (zk 121 [zI 6,zze 7,((zc 100),.id)]),zm 2 8]
def k0ca:IC:=(.seq qb1f (.seq qbpz (.seq qbx4 .ret)))
@[go_sem] def s0ca:zzR:=[(.t 2,.id)]
theorem c0ca:cFun Tryz.prog 82=some (9,k0ca,s0ca):=by kernel_rfl

def qbor:IC:=zr [zzn 3 0,zi 6 zzv]
def qca0:IC:=zr [zzp 11 3 0,zzr 12 1 11,zv 13 (zq (.t 12) (.c (.str [])))]
def qb8h:IC:=zr [zm 14 1,zzp 15 3 1,zzr 16 1 15,zi 17 (zk 122 [((.t 14),(.sl 1)),zI 16]),zm 7 17]
def qb4s:IC:=zr [zm 18 7,zv 19 (.bin .geq .no (.t 18) (zc 0)),zm 20 19,zw 20 true 21 (zo 7),zw 20 true 22 (zo 2),zw 20 true 23 (.len false (.t 22)),zw 20 true 24 (.bin .lss .no (.t 21) (.t 23)),zzh 25 20 24]
def qbyf:IC:=zr [zm 26 2,zm 27 7,zzs 28 3 26 27,zzq 29 3 28,zn (.st 3 zza (.t 6) (.t 29))]
def qbxe:IC:=zr [zzq 30 3 3,zn (.st 3 zza (.t 6) (.t 30))]
def qbu2:IC:=zr [zzp 31 3 2,zzr 32 1 31,zzo 33 32,zi 34 (.mks 3 (.agg [(.str []),(.int .i64 0),.nils]) 48 (.t 33) (.t 33)),zm 8 34]
def qccd:IC:=zr [zzp 35 3 2,zzr 36 1 35,zzo 37 36,zzj 38 0]
def qbml:IC:=zr [zzm 39 38 37]
def qbg0:IC:=zr [zm 40 38,zzs 41 3 36 38,zzq 42 3 41,zi 10 zzv,zm 9 40,zn (.st 3 zza (.t 10) (.t 42))]
def qbk4:IC:=zr [zm 43 8,zm 44 9,zzq 45 3 10,zm 46 1,zm 47 2,zi 48 (zk 83 [zze 45,((.t 46),(.sl 1)),((.t 47),(.sl 3))]),zzs 49 3 43 44,zn (.st 3 zza (.t 49) (.t 48))]
def qbhv:IC:=zr [zzl 50 38 1,zm 38 50]
def qccw:IC:=(.seq qbml (.seq (.cond (.t 39) .skip (.exit 0)) (.seq (.block 1 (.seq qbg0 qbk4)) qbhv)))
def qbjl:IC:=zr [zm 51 8,zzp 52 3 2,zn (.st 1 (.sl 3) (.t 52) (.t 51))]
def qbfz:IC:=zr [zzq 53 3 3,zn (.st 3 zza (.t 6) (.t 53))]
def k0cb:IC:=(.seq qbor (.seq (.seq qca0 (.cond (.t 13) (.seq (.seq qb8h (.seq qb4s (.cond (.t 25) (.seq qbyf .ret) .skip))) (.seq qbxe .ret)) .skip)) (.seq qbu2 (.seq (.seq qccd (.block 0 (.loop qccw))) (.seq qbjl (.seq qbfz .ret))))))
@[go_sem] def s0cb:zzR:=[(.c true 3 6,zza)]
theorem c0cb:cFun Tryz.prog 83=some (54,k0cb,s0cb):=by kernel_rfl

def qb79:IC:=zr [zzn 4 1,zi 6 zzv]
def qb1w:IC:=zr [zzp 11 4 0,zzr 12 1 11,zv 13 (zq (.t 12) (.c (.str [])))]
def qbwn:IC:=.drw [zzu 15 0,zp (zv 16 (.nck (.t 15))),zp (zzp 17 16 0),zp (zzr 18 1 17),zp (zzp 19 4 1),zp (zzr 20 1 19),(zi 21 (zk 123 [zI 18,zI 20]),[]),zzu 14 21,zp (zzt 22 14 0),zp (zzt 23 14 1),(zi 7 zzv,[3,5,6]),(zn (.st 3 zza (.t 7) (.t 22)),[]),zzu 8 23]
def qbn6:IC:=zr [zm 24 8]
def qbmv:IC:=.drw [zzu 25 0,zp (zv 26 (.nck (.t 25))),zp (zzp 27 26 1),zp (zzr 28 1 27),zp (zzq 29 3 7),(zi 30 (zk 124 [zze 29]),[3]),zp (zv 31 (.bin .sub .no (.t 28) (.t 30))),zp (zv 32 (.nck (.t 25))),zp (zzp 33 32 1),(zn (.st 1 .id (.t 33) (.t 31)),[])]
def qb41:IC:=zr [zm 34 2,zzq 35 3 7,zi 36 (zk 125 [zze 35]),zv 37 (.bin .add .no (.t 34) (.t 36)),zv 38 (.bin .gtr .no (.t 37) (zc 101))]
def qb1z:IC:=zr [zm 39 0,zv 40 (.nck (.t 39)),zzp 41 40 1,zn (.st 1 .id (.t 41) (zc (-1)))]
def qbzt:IC:=zr [zzq 42 3 7,zi 43 (zk 109 [zze 42]),zn (.st 3 zza (.t 6) (.t 43))]
def qb34:IC:=zr [zm 44 0,zv 45 (.nck (.t 44)),zzp 46 45 1,zzr 47 1 46,zv 48 (.bin .sub .no (.t 47) (zc 1)),zv 49 (.nck (.t 44)),zzp 50 49 1,zn (.st 1 .id (.t 50) (.t 48))]
def qb4w:IC:=zr [zzp 51 4 2,zzr 52 1 51,zzo 53 52,zi 54 (.mks 3 (.agg [(.str []),(.int .i64 0),.nils]) 48 (.t 53) (.t 53)),zm 9 54]
def qbcu:IC:=zr [zzp 55 4 2,zzr 56 1 55,zzo 57 56,zzj 58 0]
def qbks:IC:=zr [zzm 59 58 57]
def qbhe:IC:=zr [zm 60 58,zm 10 60]
def qbfk:IC:=zr [zm 61 0,zv 62 (.nck (.t 61)),zzp 63 62 1,zzr 64 1 63,zv 65 (.bin .lss .no (.t 64) (zc 0))]
def qbiy:IC:=zr [zzq 66 3 4,zn (.st 3 zza (.t 6) (.t 66))]
def qbie:IC:=zr [zm 67 9,zm 68 10,zm 69 0,zzp 70 4 2,zzr 71 1 70,zm 72 10,zzs 73 3 71 72,zzq 74 3 73,zm 75 2,zzl 76 75 1,zi 77 (zk 84 [zI 69,zze 74,zI 76]),zzs 78 3 67 68,zn (.st 3 zza (.t 78) (.t 77))]
def qbh7:IC:=zr [zzl 79 58 1,zm 58 79]
def qbkv:IC:=(.seq qbks (.seq (.cond (.t 59) .skip (.exit 0)) (.seq (.block 1 (.seq qbhe (.seq (.seq qbfk (.cond (.t 65) (.seq qbiy .ret) .skip)) qbie))) qbh7)))
def qbiz:IC:=zr [zm 80 9,zzp 81 4 2,zn (.st 1 (.sl 3) (.t 81) (.t 80))]
def qbco:IC:=zr [zzq 82 3 4,zn (.st 3 zza (.t 6) (.t 82))]
def k0db:IC:=(.seq qb79 (.seq (.seq qb1w (.cond (.t 13) (.seq qbwn (.seq qbn6 (.cond (.t 24) (.seq qbmv (.seq (.seq qb41 (.cond (.t 38) qb1z .skip)) (.seq qbzt .ret))) .skip))) .skip)) (.seq qb34 (.seq qb4w (.seq (.seq qbcu (.block 0 (.loop qbkv))) (.seq qbiz (.seq qbco .ret)))))))
@[go_sem] def s0db:zzR:=[(.c true 3 6,zza)]
theorem c0db:cFun Tryz.prog 84=some (83,k0db,s0db):=by kernel_rfl

def qci6:IC:=zr [zzj 2 0]
def qcee:IC:=zr [zm 4 0,zzo 5 4,zv 6 (.bin .gtr .no (.t 5) (zc 9))]
def qcis:IC:=zr [zzj 2 0]
def qcez:IC:=zr [zzj 3 0]
def qcdi:IC:=zr [zm 7 3,zm 8 0,zzo 9 8,zzm 10 7 9]
def qchx:IC:=zr [zm 13 0,zm 14 3,zzs 15 3 13 14,zzp 16 15 1,zzr 17 1 16,zzo 18 17,zv 19 (.bin .gtr .no (.t 18) (zc 9))]
def qcjs:IC:=zr [zzj 2 0]
def qcfu:IC:=zr [zm 11 3,zzl 12 11 1,zm 3 12]
def qcde:IC:=(.seq (.seq qcdi (.cond (.t 10) .skip (.exit 0))) (.seq (.block 1 (.seq qchx (.cond (.t 19) (.seq qcjs .ret) .skip))) qcfu))
def qb3c:IC:=zr [zzj 2 1]
def k0a:IC:=(.seq qci6 (.seq (.seq qcee (.cond (.t 6) (.seq qcis .ret) .skip)) (.seq (.seq qcez (.block 0 (.loop qcde))) (.seq qb3c .ret))))
@[go_sem] def s0a:zzR:=[(.t 2,.id)]
theorem c0a:cFun Tryz.prog 87=some (20,k0a,s0a):=by kernel_rfl

def qb6r:IC:=zr [zzj 2 0]
def qb04:IC:=zr [zm 4 0,zzo 5 4,zv 6 (.bin .gtr .no (.t 5) (zc 12))]
def qb33:IC:=zr [zzj 2 0]
def qbm7:IC:=zr [zzj 3 0]
def qbop:IC:=zr [zm 7 3,zm 8 0,zzo 9 8,zzm 10 7 9]
def qca1:IC:=zr [zm 13 0,zm 14 3,zzs 15 4 13 14,zzp 16 15 3,zzr 17 1 16,zi 18 (zk 133 [((.t 17),(.sl 4))]),zv 19 (zq (.t 18) (zc 0)),zm 20 19,zw 20 false 21 (zo 0),zw 20 false 22 (zo 3),zw 20 false 23 (.iad 4 (.t 21) (.t 22)),zw 20 false 24 (zd 23 2),zw 20 false 25 (zg 1 24),zw 20 false 26 (.bin .gtr .no (.t 25) (zc 200)),zzi 27 20 26]
def qb80:IC:=zr [zzj 2 0]
def qb35:IC:=zr [zm 11 3,zzl 12 11 1,zm 3 12]
def qcab:IC:=(.seq (.seq qbop (.cond (.t 10) .skip (.exit 0))) (.seq (.block 1 (.seq qca1 (.cond (.t 27) (.seq qb80 .ret) .skip))) qb35))
def qbgy:IC:=zr [zzj 2 1]
def k0cw:IC:=(.seq qb6r (.seq (.seq qb04 (.cond (.t 6) (.seq qb33 .ret) .skip)) (.seq (.seq qbm7 (.block 0 (.loop qcab))) (.seq qbgy .ret))))
@[go_sem] def s0cw:zzR:=[(.t 2,.id)]
theorem c0cw:cFun Tryz.prog 88=some (28,k0cw,s0cw):=by kernel_rfl

def qccv:IC:=zr [zi 2 (.alo [.nils]),zi 3 (.alo [(.int .i64 0)]),zi 4 (.alo [(.int .i64 0)])]
def qcaf:IC:=zr [zm 8 0,zv 9 (.len true (.t 8)),zv 10 (.bin .gtr .no (.t 9) (zc 1048576))]
def qb5g:IC:=zr [zn (.st 1 (.sl 4) (.t 2) (.c .nils)),zn (.st 1 .id (.t 3) (zc 0)),zn (.st 1 .id (.t 4) (zc 2))]
def qb6u:IC:=zr [zi 5 (.alo [.nils])]
def qbs7:IC:=zr [zm 11 0,zi 12 (zk 134 [zI 11])]
def qbzc:IC:=zr [zm 15 7,zv 16 (.bin .neq .no (.t 15) (zc 0))]
def qb0o:IC:=.drw [zp (zzp 17 6 1),zp (zzr 18 1 17),zzu 19 7,(zn (.st 1 (.sl 4) (.t 2) (.c .nils)),[1]),(zn (.st 1 .id (.t 3) (.t 18)),[]),(zn (.st 1 .id (.t 4) (.t 19)),[])]
def qbol:IC:=zr [zzr 20 1 5,zzq 21 4 6,zv 22 (.bsl 4 [zI 21]),zi 23 (.app 4 (.agg [(.int .i64 0),(.int .i64 0),(.int .i64 0),(.str [])]) 40 (.sl 4) (.t 20) (.t 22)),zn (.st 1 (.sl 4) (.t 5) (.t 23))]
def qyj:IC:=(.block 1 (.seq (.seq qbzc (.cond (.t 16) (.seq qb0o .ret) .skip)) qbol))
def qs4:IC:=zr [zi 6 zaT,zn (.st 4 .id (.t 6) (.t 13))]
def qsz:IC:=zr [zm 7 14]
def qbe1:IC:=zr [zzr 24 1 5,zm 25 0,zv 26 (.len true (.t 25)),zv 27 (.bld [(.int .i64 0),(.int .i64 0),(.int .i64 0),(.str [])] [(0,1,(zc 0)),(1,1,(.t 26))]),zv 28 (.bsl 4 [zI 27]),zi 29 (.app 4 (.agg [(.int .i64 0),(.int .i64 0),(.int .i64 0),(.str [])]) 40 (.sl 4) (.t 24) (.t 28)),zn (.st 1 (.sl 4) (.t 2) (.t 29)),zn (.st 1 .id (.t 3) (zc 0)),zn (.st 1 .id (.t 4) (zc 0))]
def k0eb:IC:=(.seq qccv (.seq (.seq qcaf (.cond (.t 10) (.seq qb5g .ret) .skip)) (.seq qb6u (.seq (.seq qbs7 (.block 0 (.rng (.t 12) [13,14] (.seq qs4 qsz) qyj))) (.seq qbe1 .ret)))))
@[go_sem] def s0eb:zzR:=[(.c false 1 2,(.sl 4)),(.c false 1 3,.id),(.c false 1 4,.id)]
theorem c0eb:cFun Tryz.prog 89=some (30,k0eb,s0eb):=by kernel_rfl

def qbu5:IC:=zr [zv 2 (.mov (.c .nilp))]
def qbu8:IC:=zr [zv 6 (.bld [.nils,(.int .i64 0),(.int .i64 0),(.int .i64 0),(.str []),(.int .i64 0),(.int .i64 0),(.int .i64 0),(.int .i64 0)] []),zzn 7 6,zm 3 7]
def qbxy:IC:=zr [zm 8 0,zzo 9 8,zzj 10 0]
def qb8k:IC:=zr [zzm 11 10 9]
def qbxh:IC:=zr [zzs 12 4 8 10,zzq 13 4 12,zi 5 zaT,zn (.st 4 .id (.t 5) (.t 13))]
def qbyq:IC:=zr [zzp 14 5 0,zzr 15 1 14,zv 16 (zq (.t 15) (zc 0))]
def qbmj:IC:=zr [zm 17 3,zzp 18 5 1,zzr 19 1 18,zv 20 (.nck (.t 17)),zzp 21 20 1,zzp 22 21 1,zn (.st 1 .id (.t 22) (.t 19))]
def qbri:IC:=.drw [zzu 23 3,zzu 24 3,zp (zv 25 (.nck (.t 24))),zp (zzp 26 25 0),zp (zzr 27 1 26),zp (zzq 28 4 5),(zv 29 (.bsl 4 [zI 28]),[]),(zi 30 (.app 4 (.agg [(.int .i64 0),(.int .i64 0),(.int .i64 0),(.str [])]) 40 (.sl 4) (.t 27) (.t 29)),[]),zp (zv 31 (.nck (.t 23))),zp (zzp 32 31 0),(zn (.st 1 (.sl 4) (.t 32) (.t 30)),[])]
def qbmx:IC:=zr [zzl 33 10 1,zm 10 33]
def qbn0:IC:=(.seq qb8k (.seq (.cond (.t 11) .skip (.exit 0)) (.seq (.block 1 (.seq qbxh (.seq (.seq qbyq (.cond (.t 16) (.seq qbmj (.exit 0)) .skip)) qbri))) qbmx)))
def qbfc:IC:=zr [zm 34 3,zm 2 34]
def k0do:IC:=(.seq qbu5 (.seq qbu8 (.seq (.seq qbxy (.block 0 (.loop qbn0))) (.seq qbfc .ret))))
@[go_sem] def s0do:zzR:=[(.t 2,.id)]
theorem c0do:cFun Tryz.prog 90=some (35,k0do,s0do):=by kernel_rfl

def qbn2:IC:=zr [zi 2 zaN,zv 3 zf]
def qbyv:IC:=zr [zm 8 0,zi 9 (zk 135 [zI 8]),zv 10 (.un .not (.t 9))]
def qbuv:IC:=zr [zv 11 (.bld [(.int .i64 0),(.int .i64 0),(.int .i64 0),(.str []),.nils] []),zn (.st 5 zN (.t 2) (.t 11)),zv 3 zf]
def qb8e:IC:=zr [zm 12 0,zi 13 (zk 136 [zI 12]),zv 14 (.fld false 1 0 (.t 13)),zv 15 (zq (.t 14) (zc 2)),zm 4 15]
def qb2t:IC:=zr [zm 17 0,zi 18 (zk 137 [zI 17]),zm 16 18,zzt 19 16 0,zzt 20 16 1,zi 5 zaN,zn (.st 5 zN (.t 5) (.t 19)),zm 6 20]
def qby7:IC:=zr [zm 21 6,zm 22 21,zw 22 true 23 (zo 4),zzh 24 22 23,zm 25 24,zw 25 true 26 (zo 0),zj 25 true 27 (zk 138 [zI 26]),zzh 28 25 27]
def qccl:IC:=zr [zi 7 zaN]
def qbtp:IC:=zr [zm 30 0,zi 31 (zk 137 [zI 30]),zm 29 31,zzt 32 29 0,zzt 33 29 1,zn (.st 5 zN (.t 7) (.t 32)),zm 6 33]
def qbv4:IC:=zr [zm 34 6]
def qbfa:IC:=zr [zzp 35 5 4,zzr 36 1 35,zzq 37 5 7,zv 38 (.bsl 5 [zA 37]),zi 39 (.app 5 zZ 64 (.sl 5) (.t 36) (.t 38)),zzp 40 5 4,zn (.st 1 (.sl 5) (.t 40) (.t 39))]
def qcci:IC:=(.seq (.seq qby7 (.cond (.t 28) .skip (.exit 0))) (.block 1 (.seq qccl (.seq qbtp (.seq qbv4 (.cond (.t 34) qbfa .skip))))))
def qbki:IC:=zr [zm 41 0,zi 42 (zk 139 [zI 41])]
def qbfi:IC:=zr [zm 43 6,zv 44 (.un .not (.t 43))]
def qbfn:IC:=zr [zv 45 (.bld [(.int .i64 0),(.int .i64 0),(.int .i64 0),(.str []),.nils] []),zn (.st 5 zN (.t 2) (.t 45)),zv 3 zf]
def qbhi:IC:=zr [zzq 46 5 5,zn (.st 5 zN (.t 2) (.t 46)),zzk 3]
def k0dn:IC:=(.seq qbn2 (.seq (.seq qbyv (.cond (.t 10) (.seq qbuv .ret) .skip)) (.seq qb8e (.seq qb2t (.seq (.block 0 (.loop qcci)) (.seq qbki (.seq (.seq qbfi (.cond (.t 44) (.seq qbfn .ret) .skip)) (.seq qbhi .ret))))))))
@[go_sem] def s0dn:zzR:=[(.c true 5 2,zN),(.t 3,.id)]
theorem c0dn:cFun Tryz.prog 91=some (47,k0dn,s0dn):=by kernel_rfl

def qbrp:IC:=zr [zzj 2 0,zzj 3 0]
def qbyh:IC:=zr [zm 5 0,zv 6 (.bin .eql .ptr (.t 5) (.c .nilp)),zm 4 6]
def qbyp:IC:=zr [zzj 2 0,zzj 3 1]
def qbti:IC:=zr [zm 8 0,zv 9 (.nck (.t 8)),zzp 10 9 7,zzr 11 1 10,zv 12 (.bin .neq .no (.t 11) (zc 0)),zm 7 12]
def qb68:IC:=.drw [zzu 13 0,zp (zv 14 (.nck (.t 13))),zp (zzp 15 14 8),zp (zzr 16 1 15),zzu 17 0,zp (zv 18 (.nck (.t 17))),zp (zzp 19 18 7),zp (zzr 20 1 19),zzu 2 16,zzu 3 20]
def qbmo:IC:=.drw [zzu 22 0,zp (zv 23 (.nck (.t 22))),zp (zzp 24 23 5),zp (zzr 25 1 24),zzu 26 0,zp (zv 27 (.nck (.t 26))),zp (zzp 28 27 0),zp (zzr 29 1 28),zp (zzo 30 29),zp (zzm 31 25 30),zzu 21 31]
def qb81:IC:=.drw [zzu 32 0,zp (zv 33 (.nck (.t 32))),zp (zzp 34 33 0),zp (zzr 35 1 34),zzu 36 0,zp (zv 37 (.nck (.t 36))),zp (zzp 38 37 5),zp (zzr 39 1 38),zp (zzs 40 4 35 39),zp (zzp 41 40 1),zp (zzr 42 1 41),zzu 2 42,zp (zzj 3 5)]
def qbsj:IC:=zr [zm 43 0,zv 44 (.nck (.t 43)),zzp 45 44 1,zzp 46 45 1,zzr 47 1 46,zm 2 47,zzj 3 0]
def k0dz:IC:=(.seq qbrp (.seq (.block 0 (.seq qbyh (.cond (.t 4) (.seq qbyp .ret) (.seq qbti (.cond (.t 7) (.seq qb68 .ret) (.seq qbmo (.cond (.t 21) (.seq qb81 .ret) .skip))))))) (.seq qbsj .ret)))
@[go_sem] def s0dz:zzR:=[(.t 2,.id),(.t 3,.id)]
theorem c0dz:cFun Tryz.prog 92=some (48,k0dz,s0dz):=by kernel_rfl

def qbxv:IC:=zr [zzn 1 0,zzj 2 0]
def qcbq:IC:=zr [zi 3 (.alo [(.int .i64 0)]),zn (.st 1 .id (.t 3) (zc 0))]
def qbqv:IC:=zr [zzq 5 5 1,zi 6 (zk 140 [zA 5,((zc 1),.id)])]
def qcbr:IC:=zr [zzr 9 1 3,zm 10 4,zv 11 (.mm true (.t 9) (.t 10)),zn (.st 1 .id (.t 3) (.t 11))]
def q60:IC:=(.block 1 qcbr)
def q99:IC:=zr [zm 4 7]
def qb8s:IC:=zr [zzr 12 1 3,zm 2 12]
def k0ep:IC:=(.seq qbxv (.seq qcbq (.seq (.seq qbqv (.block 0 (.rng (.t 6) [7,8] q99 q60))) (.seq qb8s .ret))))
@[go_sem] def s0ep:zzR:=[(.t 2,.id)]
theorem c0ep:cFun Tryz.prog 93=some (13,k0ep,s0ep):=by kernel_rfl

def qbqr:IC:=zr [zzn 1 0,zzj 2 0,zv 3 zf]
def qbmn:IC:=zr [zv 4 (.mov (.c .nils))]
def qbzh:IC:=zr [zzj 5 0,zzk 6]
def qb4c:IC:=zr [zzq 9 5 1,zi 10 (zk 141 [((.c .nils),(.sl 5)),zA 9]),zzo 11 10,zzj 12 0]
def qcb3:IC:=zr [zzm 13 12 11]
def qbub:IC:=zr [zzs 14 5 10 12,zzq 15 5 14,zi 8 zaN,zn (.st 5 zN (.t 8) (.t 15))]
def qcb9:IC:=zr [zm 16 4,zzp 17 8 3,zzr 18 1 17,zi 19 (zk 142 [((.t 16),(.sl 1)),zI 18])]
def qbqw:IC:=zr [zzp 20 8 1,zzr 21 1 20,zm 5 21,zv 6 zf]
def qbrh:IC:=zr [zm 22 4,zzp 23 8 3,zzr 24 1 23,zv 25 (.bsl 1 [zI 24]),zi 26 (.app 1 (.str []) 16 (.sl 1) (.t 22) (.t 25)),zm 4 26]
def qbgp:IC:=zr [zzl 27 12 1,zm 12 27]
def qb82:IC:=(.seq qcb3 (.seq (.cond (.t 13) .skip (.exit 0)) (.seq (.block 1 (.seq qbub (.seq (.seq qcb9 (.cond (.t 19) (.seq qbqw (.exit 0)) .skip)) qbrh))) qbgp)))
def qbj4:IC:=zr [zm 28 5,zm 29 6,zm 2 28,zm 3 29]
def k0fl:IC:=(.seq qbqr (.scope (.seq qbmn (.seq qbzh (.seq (.label 0) (.seq (.seq qb4c (.block 0 (.loop qb82))) (.seq qbj4 .ret)))))))
@[go_sem] def s0fl:zzR:=[(.t 2,.id),(.t 3,.id)]
theorem c0fl:cFun Tryz.prog 94=some (30,k0fl,s0fl):=by kernel_rfl

def qcas:IC:=zr [zv 2 (.mov (.c .nils))]
def qb0d:IC:=zr [zv 3 (.mov (.c .nils))]
def qb57:IC:=zr [zm 8 0,zzo 9 8,zzj 10 0]
def qbnm:IC:=zr [zzm 11 10 9]
def qb5m:IC:=zr [zzs 12 4 8 10,zzq 13 4 12,zi 5 (.alo [(.str []),(.str []),(.int .i64 0),.nils]),zn (.st 4 zzd (.t 5) (.t 13))]
def qcba:IC:=zr [zzp 14 5 1,zzq 15 3 14,zi 16 (zk 143 [zze 15]),zzo 17 16,zzj 18 0]
def qcbw:IC:=zr [zzm 19 18 17]
def qb7x:IC:=zr [zzs 20 1 16 18,zzr 21 1 20,zm 7 21]
def qbeh:IC:=zr [zm 22 3,zm 23 7,zi 24 (zk 144 [((.t 22),(.sl 1)),zI 23]),zv 25 (.un .not (.t 24))]
def qbdt:IC:=zr [zm 26 3,zm 27 7,zv 28 (.bsl 1 [zI 27]),zi 29 (.app 1 (.int .i64 0) 8 (.sl 1) (.t 26) (.t 28)),zm 3 29]
def qbhk:IC:=zr [zzl 30 18 1,zm 18 30]
def q6j:IC:=(.seq qcbw (.seq (.cond (.t 19) .skip (.exit 2)) (.seq (.block 3 (.seq qb7x (.seq qbeh (.cond (.t 25) qbdt .skip)))) qbhk)))
def qbcn:IC:=zr [zzl 31 10 1,zm 10 31]
def qb6i:IC:=(.seq qbnm (.seq (.cond (.t 11) .skip (.exit 0)) (.seq (.block 1 (.seq qb5m (.seq qcba (.block 2 (.loop q6j))))) qbcn)))
def qbhw:IC:=zr [zm 32 3,zm 2 32]
def k0cp:IC:=(.seq qcas (.seq qb0d (.seq (.seq qb57 (.block 0 (.loop qb6i))) (.seq qbhw .ret))))
@[go_sem] def s0cp:zzR:=[(.t 2,(.sl 1))]
theorem c0cp:cFun Tryz.prog 95=some (33,k0cp,s0cp):=by kernel_rfl

def qb1p:IC:=zr [zzn 1 0,zi 2 (.alo [(.bool false)])]
def qb76:IC:=zr [zzq 4 5 1,zi 5 (zk 140 [zA 4,((zc 1),.id)])]
def qbw6:IC:=zr [zm 8 3,zv 9 (.bin .gtr .no (.t 8) (zc 100))]
def qb8x:IC:=zr [zn (.st 1 .id (.t 2) (.c (.bool false)))]
def q72:IC:=(.block 1 (.seq qbw6 (.cond (.t 9) (.seq qb8x .ret) .skip)))
def qbav:IC:=zr [zm 3 6]
def qb4p:IC:=zr [zn (.st 1 .id (.t 2) (.c (.bool true)))]
def k0el:IC:=(.seq qb1p (.seq (.seq qb76 (.block 0 (.rng (.t 5) [6,7] qbav q72))) (.seq qb4p .ret)))
@[go_sem] def s0el:zzR:=[(.c false 1 2,.id)]
theorem c0el:cFun Tryz.prog 96=some (10,k0el,s0el):=by kernel_rfl

def qbwz:IC:=zr [zzn 1 0,zv 2 zf]
def qbvm:IC:=zr [zzp 3 1 0,zzr 4 1 3]
def qb8r:IC:=zr [zv 6 (zq (.t 4) (zc 11)),zm 5 6]
def qbq2:IC:=zr [zzq 7 5 1,zi 8 (zk 145 [zA 7,((.c (.fn 146 [] [])),.id)]),zm 9 8,zw 9 true 10 (zd 1 4),zw 9 true 11 (zg 1 10),zw 9 true 12 (.len false (.t 11)),zw 9 true 13 (zq (.t 12) (zc 0)),zzh 14 9 13,zm 2 14]
def qbtd:IC:=zr [zv 16 (zq (.t 4) (zc 12)),zm 15 16]
def qbtx:IC:=zr [zzq 17 5 1,zi 18 (zk 147 [zA 17]),zm 19 18,zw 19 true 20 (zd 1 4),zw 19 true 21 (zg 1 20),zw 19 true 22 (.len false (.t 21)),zw 19 true 23 (zq (.t 22) (zc 0)),zzh 24 19 23,zm 2 24]
def qb4u:IC:=zr [zv 26 (zq (.t 4) (zc 13)),zm 25 26]
def qbn4:IC:=zr [zzp 27 1 3,zzr 28 1 27,zv 29 (zq (.t 28) (.c (.str []))),zm 30 29,zw 30 true 31 (zd 1 2),zw 30 true 32 (zg 1 31),zw 30 true 33 (.bin .geq .no (.t 32) (zc 0)),zzh 34 30 33,zm 35 34,zw 35 true 36 (zd 1 4),zw 35 true 37 (zg 1 36),zw 35 true 38 (.len false (.t 37)),zw 35 true 39 (zq (.t 38) (zc 0)),zzh 40 35 39,zm 2 40]
def qbnb:IC:=zr [zv 42 (zq (.t 4) (zc 14)),zm 41 42]
def qb3y:IC:=zr [zzq 43 5 1,zi 44 (zk 145 [zA 43,((.c (.fn 148 [] [])),.id)]),zm 45 44,zw 45 true 46 (zd 1 4),zw 45 true 47 (zg 1 46),zj 45 true 48 (zk 149 [((.t 47),(.sl 5)),((.c (.fn 97 [] [])),.id)]),zzh 49 45 48,zm 2 49]
def qbgl:IC:=zr [zv 2 zf]
def k0eh:IC:=(.seq qbwz (.seq (.seq qbvm (.block 0 (.seq qb8r (.cond (.t 5) (.seq qbq2 .ret) (.seq qbtd (.cond (.t 15) (.seq qbtx .ret) (.seq qb4u (.cond (.t 25) (.seq qbn4 .ret) (.seq qbnb (.cond (.t 41) (.seq qb3y .ret) .skip)))))))))) (.seq qbgl .ret)))
@[go_sem] def s0eh:zzR:=[(.t 2,.id)]
theorem c0eh:cFun Tryz.prog 97=some (50,k0eh,s0eh):=by kernel_rfl

def qb27:IC:=zr [zzn 3 0,zzn 5 2,zi 6 (.alo [(.str []),(.int .i64 0),.nils,.nils,(.int .i64 0),(.int .i64 0),(.str []),.nils,.nils,.nils]),zv 7 zf]
def qbre:IC:=zr [zzq 23 3 3,zzp 24 5 3,zzr 25 1 24,zi 26 (zk 150 [((.t 23),(.agg [(.sl 3),(.sl 3),(.sl 4)])),zI 25]),zm 22 26,zzt 27 22 0,zzt 28 22 1,zi 8 (.alo [.nils,(.str []),(.int .i64 0),.nils]),zn (.st 4 (.agg [(.sl 1),.id,.id,(.sl 3)]) (.t 8) (.t 27)),zm 9 28]
def qboy:IC:=zr [zm 29 9,zv 30 (.un .not (.t 29))]
def qb11:IC:=zr [zv 31 (.bld [(.str []),(.int .i64 0),.nils,.nils,(.int .i64 0),(.int .i64 0),(.str []),.nils,.nils,.nils] []),zm 32 1,zzp 33 5 1,zzr 34 1 33,zi 35 (zk 17 [zI 32,((zc 7),.id),zI 34]),zn (.st 10 (.agg [.id,.id,(.sl 3),(.sl 5),.id,.id,.id,(.sl 1),(.sl 3),(.sl 6)]) (.t 6) (.t 31)),zm 7 35]
def qb5u:IC:=zr [zzp 37 8 1,zzq 38 3 37,zi 39 (zk 151 [zze 38]),zm 36 39,zzt 40 36 0,zzt 41 36 1,zi 11 zzv,zm 10 40,zn (.st 3 zza (.t 11) (.t 41))]
def qca8:IC:=zr [zm 42 10,zzo 43 42,zzp 44 5 4,zzr 45 1 44,zzo 46 45,zv 47 (.bin .neq .no (.t 43) (.t 46))]
def qb6x:IC:=zr [zv 48 (.bld [(.str []),(.int .i64 0),.nils,.nils,(.int .i64 0),(.int .i64 0),(.str []),.nils,.nils,.nils] []),zm 49 1,zzp 50 5 1,zzr 51 1 50,zi 52 (zk 17 [zI 49,((zc 8),.id),zI 51]),zn (.st 10 (.agg [.id,.id,(.sl 3),(.sl 5),.id,.id,.id,(.sl 1),(.sl 3),(.sl 6)]) (.t 6) (.t 48)),zm 7 52]
def qccq:IC:=zr [zzp 53 8 0,zzr 54 1 53,zzo 55 54,zi 56 (.mks 3 (.agg [(.str []),(.int .i64 0),.nils]) 48 (.t 55) (.t 55)),zm 12 56]
def qw6:IC:=zr [zm 57 12,zzo 58 57,zzj 59 0]
def qbes:IC:=zr [zzm 60 59 58]
def qbg8:IC:=zr [zm 61 59,zm 13 61]
def qbc4:IC:=zr [zm 62 12,zm 63 13,zm 64 1,zi 65 (zk 21 [zI 64]),zzs 66 3 62 63,zn (.st 3 zza (.t 66) (.t 65))]
def qbh4:IC:=zr [zzl 67 59 1,zm 59 67]
def qb8u:IC:=(.seq qbes (.seq (.cond (.t 60) .skip (.exit 0)) (.seq (.block 1 (.seq qbg8 qbc4)) qbh4)))
def qqv:IC:=zr [zzp 69 8 1,zzq 70 3 69,zzp 71 8 0,zzr 72 1 71,zm 73 12,zi 74 (zk 83 [zze 70,((.t 72),(.sl 1)),((.t 73),(.sl 3))]),zi 75 (zk 151 [zze 74]),zm 68 75,zzt 76 68 0,zzt 77 68 1,zi 15 zzv,zm 14 76,zn (.st 3 zza (.t 15) (.t 77))]
def qbjj:IC:=zr [zzq 78 3 15,zzp 79 5 3,zzr 80 1 79,zv 81 (.bld [(.int .i64 0),(.int .i64 0),(.str []),.nils,.nils,.nils] [(0,1,(zc 24)),(2,1,(.t 80))]),zv 82 (.bld [(.str []),(.int .i64 0),.nils,.nils,(.int .i64 0),(.int .i64 0),(.str []),.nils,.nils,.nils] [(0,3,(.t 78)),(4,6,(.t 81))]),zi 16 (.alo [(.str []),(.int .i64 0),.nils,.nils,(.int .i64 0),(.int .i64 0),(.str []),.nils,.nils,.nils]),zn (.st 10 (.agg [.id,.id,(.sl 3),(.sl 5),.id,.id,.id,(.sl 1),(.sl 3),(.sl 6)]) (.t 16) (.t 82))]
def qbj5:IC:=zr [zzk 17]
def qsd:IC:=zr [zzp 83 5 4,zzr 84 1 83,zzo 85 84,zzj 86 0]
def qbgm:IC:=zr [zzm 87 86 85]
def qbg5:IC:=zr [zm 88 86,zzs 89 5 84 86,zzq 90 5 89,zi 19 zaN,zm 18 88,zn (.st 5 zN (.t 19) (.t 90))]
def qbel:IC:=zr [zzq 92 3 3,zm 93 1,zzq 94 5 19,zi 95 (zk 65 [((.t 92),(.agg [(.sl 3),(.sl 3),(.sl 4)])),zI 93,zA 94]),zm 91 95,zzt 96 91 0,zzt 97 91 1,zi 20 (.alo [(.str []),(.int .i64 0),.nils,.nils,(.int .i64 0),(.int .i64 0),(.str []),.nils,.nils,.nils]),zn (.st 10 (.agg [.id,.id,(.sl 3),(.sl 5),.id,.id,.id,(.sl 1),(.sl 3),(.sl 6)]) (.t 20) (.t 96)),zm 21 97]
def qbg1:IC:=.drw [zzu 98 21,zp (zv 99 (.un .not (.t 98))),zzu 100 99,zp (zw 100 false 101 (zo 1)),zp (zw 100 false 102 (zo 14)),zp (zw 100 false 103 (zo 18)),zp (zw 100 false 104 (.iad 3 (.t 102) (.t 103))),zp (zw 100 false 105 (zl 3 104)),zp (zw 100 false 106 (zd 20 0)),zp (zw 100 false 107 (zl 3 106)),zp (zw 100 false 108 (zd 19 1)),zp (zw 100 false 109 (zg 1 108)),(zj 100 false 110 (zk 12 [zI 101,zze 105,zze 107,zI 109]),[]),zp (zw 100 false 111 (.un .not (.t 110))),zp (zzi 112 100 111)]
def qbg7:IC:=zr [zv 17 zf]
def qbhm:IC:=zr [zzp 113 16 3,zzr 114 1 113,zzp 115 20 3,zzr 116 1 115,zi 117 (.app 5 (.agg [(.str []),.nils,(.str []),(.int .i64 0),.nils]) 88 (.sl 5) (.t 114) (.t 116)),zzp 118 16 3,zn (.st 1 (.sl 5) (.t 118) (.t 117))]
def qbdn:IC:=zr [zzp 119 16 4,zzp 120 119 5,zzr 121 1 120,zzp 122 20 4,zzq 123 6 122,zv 124 (.bsl 6 [zzf 123]),zi 125 (.app 6 (.agg [(.int .i64 0),(.int .i64 0),(.str []),.nils,.nils,.nils]) 104 (.sl 6) (.t 121) (.t 124)),zzp 126 16 4,zzp 127 126 5,zn (.st 1 (.sl 6) (.t 127) (.t 125))]
def qsp:IC:=zr [zzl 128 86 1,zm 86 128]
def qqw:IC:=(.seq qbgm (.seq (.cond (.t 87) .skip (.exit 2)) (.seq (.block 3 (.seq qbg5 (.seq qbel (.seq (.seq qbg1 (.cond (.t 112) (.seq qbg7 (.exit 2)) .skip)) (.seq qbhm qbdn))))) qsp)))
def qq9:IC:=zr [zzq 129 10 16,zm 130 17,zn (.st 10 (.agg [.id,.id,(.sl 3),(.sl 5),.id,.id,.id,(.sl 1),(.sl 3),(.sl 6)]) (.t 6) (.t 129)),zm 7 130]
def k0dh:IC:=(.seq qb27 (.scope (.seq qbre (.seq (.seq qboy (.cond (.t 30) (.seq qb11 .ret) .skip)) (.seq (.seq qb5u (.seq qca8 (.cond (.t 47) (.seq qb6x .ret) .skip))) (.seq qccq (.seq (.seq qw6 (.block 0 (.loop qb8u))) (.seq qqv (.seq qbjj (.seq qbj5 (.seq (.label 0) (.seq (.seq qsd (.block 2 (.loop qqw))) (.seq qq9 .ret)))))))))))))
@[go_sem] def s0dh:zzR:=[(.c true 10 6,(.agg [.id,.id,(.sl 3),(.sl 5),.id,.id,.id,(.sl 1),(.sl 3),(.sl 6)])),(.t 7,.id)]
theorem c0dh:cFun Tryz.prog 98=some (131,k0dh,s0dh):=by kernel_rfl

def qb96:IC:=zr [zzn 3 0,zv 6 zf]
def qbvy:IC:=zr [zm 9 2,zzq 10 3 3,zm 11 1,zi 12 (.call (.t 9) [zze 10,zI 11]),zv 13 (.un .not (.t 12))]
def qb0r:IC:=zr [zv 6 zf]
def qbwk:IC:=zr [zzp 14 3 2,zzr 15 1 14,zzo 16 15,zzj 17 0]
def qboe:IC:=zr [zzm 18 17 16]
def qbnr:IC:=zr [zzs 19 3 15 17,zzq 20 3 19,zi 8 zzv,zn (.st 3 zza (.t 8) (.t 20))]
def qbtz:IC:=zr [zzq 21 3 8,zm 22 1,zzl 23 22 1,zm 24 2,zi 25 (zk 99 [zze 21,zI 23,zI 24]),zv 26 (.un .not (.t 25))]
def qb6s:IC:=zr [zv 6 zf]
def qbwt:IC:=zr [zzl 27 17 1,zm 17 27]
def qb6d:IC:=(.seq qboe (.seq (.cond (.t 18) .skip (.exit 0)) (.seq (.block 1 (.seq qbnr (.seq qbtz (.cond (.t 26) (.seq qb6s .ret) .skip)))) qbwt)))
def qbkl:IC:=zr [zzk 6]
def k0bf:IC:=(.seq qb96 (.seq (.seq qbvy (.cond (.t 13) (.seq qb0r .ret) .skip)) (.seq (.seq qbwk (.block 0 (.loop qb6d))) (.seq qbkl .ret))))
@[go_sem] def s0bf:zzR:=[(.t 6,.id)]
theorem c0bf:cFun Tryz.prog 99=some (28,k0bf,s0bf):=by kernel_rfl

def qci0:IC:=zr [zzn 3 0,zv 5 zf]
def qcin:IC:=zr [zzr 6 1 2,zzl 7 6 1,zn (.st 1 .id (.t 2) (.t 7))]
def qch9:IC:=zr [zzr 8 1 2,zv 9 (.bin .leq .no (.t 8) (zc 4096)),zm 10 9,zw 10 true 11 (zo 1),zw 10 true 12 (.bin .leq .no (.t 11) (zc 100)),zzh 13 10 12,zm 14 13,zw 14 true 15 (zl 3 3),zj 14 true 16 (zk 101 [zze 15]),zj 14 true 17 (zk 102 [zI 16]),zzh 18 14 17,zm 5 18]
def k0p:IC:=(.seq qci0 (.seq qcin (.seq qch9 .ret)))
@[go_sem] def s0p:zzR:=[(.t 5,.id)]
theorem c0p:cFun Tryz.prog 100=some (19,k0p,s0p):=by kernel_rfl

def qcb6:IC:=zr [zzn 1 0,zi 2 (.alo [(.str []),(.int .i64 0),(.int .i64 0)])]
def qbqg:IC:=zr [zzp 3 1 0,zzr 4 1 3,zzp 5 1 1,zzr 6 1 5,zzp 7 1 2,zzr 8 1 7,zzo 9 8,zv 10 (.bld [(.str []),(.int .i64 0),(.int .i64 0)] [(0,1,(.t 4)),(1,1,(.t 6)),(2,1,(.t 9))]),zn (.st 3 .id (.t 2) (.t 10))]
def k0bb:IC:=(.seq qcb6 (.seq qbqg .ret))
@[go_sem] def s0bb:zzR:=[(.c true 3 2,.id)]
theorem c0bb:cFun Tryz.prog 101=some (11,k0bb,s0bb):=by kernel_rfl

def qb08:IC:=zr [zzn 1 0,zv 2 zf]
def qbqp:IC:=zr [zzp 4 1 0,zzr 5 1 4,zv 6 (zq (.t 5) (.c (.str []))),zm 3 6]
def qbvn:IC:=zr [zzp 7 1 2,zzr 8 1 7,zv 9 (zq (.t 8) (zc 0)),zm 2 9]
def qb55:IC:=zr [zzp 11 1 0,zzr 12 1 11,zv 13 (zq (.t 12) (.c (.str [45,62]))),zm 10 13]
def qb4g:IC:=zr [zzq 14 3 1,zv 15 (.bld [(.str []),(.int .i64 0),(.int .i64 0)] [(0,1,(.c (.str [45,62]))),(1,1,(zc 0)),(2,1,(zc 2))]),zv 16 (.bin .eql (.cells [.str,(.int .i64),(.int .i64)]) (.t 14) (.t 15)),zm 2 16]
def qbqi:IC:=zr [zzp 18 1 0,zzr 19 1 18,zi 20 (zk 152 [zI 19]),zm 17 20]
def qbq3:IC:=zr [zzq 21 3 1,zzp 22 1 0,zzr 23 1 22,zv 24 (.bld [(.str []),(.int .i64 0),(.int .i64 0)] [(0,1,(.t 23))]),zv 25 (.bin .eql (.cells [.str,(.int .i64),(.int .i64)]) (.t 21) (.t 24)),zm 2 25]
def qbt7:IC:=zr [zzp 26 1 1,zzr 27 1 26,zv 28 (zq (.t 27) (zc 0)),zm 29 28,zw 29 true 30 (zd 1 0),zw 29 true 31 (zg 1 30),zj 29 true 32 (zk 148 [zI 31]),zzh 33 29 32,zm 2 33]
def k0be:IC:=(.seq qb08 (.seq (.block 0 (.seq qbqp (.cond (.t 3) (.seq qbvn .ret) (.seq qb55 (.cond (.t 10) (.seq qb4g .ret) (.seq qbqi (.cond (.t 17) (.seq qbq3 .ret) .skip))))))) (.seq qbt7 .ret)))
@[go_sem] def s0be:zzR:=[(.t 2,.id)]
theorem c0be:cFun Tryz.prog 102=some (34,k0be,s0be):=by kernel_rfl

def qcbc:IC:=zr [zzn 2 0,zv 4 (.mov (.c (.str [])))]
def qbq0:IC:=zr [zm 5 1]
def qca6:IC:=zr [zzq 6 3 2,zi 7 (zk 68 [zze 6]),zv 8 (.bin .add .no (.c (.str [40])) (.t 7)),zv 9 (.bin .add .no (.t 8) (.c (.str [41]))),zm 4 9]
def qb7q:IC:=zr [zzq 10 3 2,zi 11 (zk 68 [zze 10]),zm 4 11]
def k0cm:IC:=(.seq qcbc (.seq (.seq qbq0 (.cond (.t 5) (.seq qca6 .ret) .skip)) (.seq qb7q .ret)))
@[go_sem] def s0cm:zzR:=[(.t 4,.id)]
theorem c0cm:cFun Tryz.prog 103=some (12,k0cm,s0cm):=by kernel_rfl

def qcca:IC:=zr [zzn 1 0,zv 2 (.mov (.c (.str [])))]
def qby9:IC:=zr [zzp 4 1 0,zzr 5 1 4,zv 6 (.bin .neq .no (.t 5) (.c (.str []))),zm 3 6]
def qb8a:IC:=zr [zzp 7 1 0,zzr 8 1 7,zm 2 8]
def qb3r:IC:=zr [zzp 10 1 1,zzr 11 1 10,zv 12 (.bin .geq .no (.t 11) (zc 0)),zm 9 12]
def qccs:IC:=zr [zzp 13 1 1,zzr 14 1 13,zi 15 (zk 154 [zI 14]),zm 2 15]
def qbuo:IC:=zr [zzp 16 1 1,zzr 17 1 16,zv 18 (.bin .sub .no (zc (-1)) (.t 17)),zi 19 (zk 52 [zI 18]),zv 20 (.bin .add .no (.c (.str [63])) (.t 19)),zm 2 20]
def k0cl:IC:=(.seq qcca (.seq (.block 0 (.seq qby9 (.cond (.t 3) (.seq qb8a .ret) (.seq qb3r (.cond (.t 9) (.seq qccs .ret) .skip))))) (.seq qbuo .ret)))
@[go_sem] def s0cl:zzR:=[(.t 2,.id)]
theorem c0cl:cFun Tryz.prog 105=some (21,k0cl,s0cl):=by kernel_rfl

def qb9q:IC:=zr [zzj 4 0,zv 5 zf]
def qbth:IC:=zr [zm 6 0,zv 7 (.nck (.t 6)),zzp 8 7 0,zzr 9 1 8,zm 10 1,zi 11 (zk 155 [((.t 9),(.sl 4)),zI 10,((.c (.fn 156 [] [])),.id)]),zzt 12 11 0,zzt 13 11 1,zm 4 12,zm 5 13]
def k0cu:IC:=(.seq qb9q (.seq qbth .ret))
@[go_sem] def s0cu:zzR:=[(.t 4,.id),(.t 5,.id)]
theorem c0cu:cFun Tryz.prog 107=some (14,k0cu,s0cu):=by kernel_rfl

def qb2a:IC:=zr [zzn 1 0,zi 2 zzv]
def qbm3:IC:=zr [zzp 6 1 2,zzr 7 1 6,zzo 8 7,zi 9 (.mks 3 (.agg [(.str []),(.int .i64 0),.nils]) 48 (.t 8) (.t 8)),zm 3 9]
def qbnj:IC:=zr [zzp 10 1 2,zzr 11 1 10,zzo 12 11,zzj 13 0]
def qby5:IC:=zr [zzm 14 13 12]
def qbtg:IC:=zr [zm 15 13,zzs 16 3 11 13,zzq 17 3 16,zi 5 zzv,zm 4 15,zn (.st 3 zza (.t 5) (.t 17))]
def qb71:IC:=zr [zm 18 3,zm 19 4,zzq 20 3 5,zi 21 (zk 109 [zze 20]),zzs 22 3 18 19,zn (.st 3 zza (.t 22) (.t 21))]
def qb10:IC:=zr [zzl 23 13 1,zm 13 23]
def qbsq:IC:=(.seq qby5 (.seq (.cond (.t 14) .skip (.exit 0)) (.seq (.block 1 (.seq qbtg qb71)) qb10)))
def qbr1:IC:=zr [zm 24 3,zzp 25 1 2,zn (.st 1 (.sl 3) (.t 25) (.t 24))]
def qbkh:IC:=zr [zzq 26 3 1,zn (.st 3 zza (.t 2) (.t 26))]
def k0ck:IC:=(.seq qb2a (.seq qbm3 (.seq (.seq qbnj (.block 0 (.loop qbsq))) (.seq qbr1 (.seq qbkh .ret)))))
@[go_sem] def s0ck:zzR:=[(.c true 3 2,zza)]
theorem c0ck:cFun Tryz.prog 109=some (27,k0ck,s0ck):=by kernel_rfl

def qbst:IC:=zr [zv 2 zf]
def qbx0:IC:=zr [zm 5 0,zzo 6 5,zzj 7 0]
def qbpa:IC:=zr [zzm 8 7 6]
def qb9f:IC:=zr [zzs 9 3 5 7,zzq 10 3 9,zi 4 zzv,zn (.st 3 zza (.t 4) (.t 10))]
def qb3x:IC:=zr [zzq 11 3 4,zi 12 (zk 67 [zze 11]),zv 13 (.un .not (.t 12))]
def qb0e:IC:=zr [zv 2 zf]
def qbz1:IC:=zr [zzl 14 7 1,zm 7 14]
def qb17:IC:=(.seq qbpa (.seq (.cond (.t 8) .skip (.exit 0)) (.seq (.block 1 (.seq qb9f (.seq qb3x (.cond (.t 13) (.seq qb0e .ret) .skip)))) qbz1)))
def qb2y:IC:=zr [zzk 2]
def k0fg:IC:=(.seq qbst (.seq (.seq qbx0 (.block 0 (.loop qb17))) (.seq qb2y .ret)))
@[go_sem] def s0fg:zzR:=[(.t 2,.id)]
theorem c0fg:cFun Tryz.prog 110=some (15,k0fg,s0fg):=by kernel_rfl

def qbs6:IC:=zr [zv 2 (.mov (.c .nilp)),zzj 3 0]
def qb2z:IC:=zr [zi 9 (zk 39 [((.c .nils),(.sl 4))]),zm 4 9,zzj 5 0]
def qb4k:IC:=zr [zv 10 (.bld [.nils] []),zzn 11 10,zm 6 11]
def qb39:IC:=zr [zm 12 6,zm 13 0,zi 14 (zk 159 [zI 12,((.t 13),(.sl 6))])]
def qb2r:IC:=zr [zm 16 6,zi 17 (zk 160 [zI 16]),zm 15 17,zzt 18 15 0,zzt 19 15 1,zi 7 (.alo [(.str []),(.int .i64 0),.nils,(.str []),(.int .i64 0),.nils]),zn (.st 6 (.agg [.id,.id,(.sl 3),.id,.id,(.sl 3)]) (.t 7) (.t 18)),zm 8 19]
def qbwm:IC:=zr [zm 20 8,zv 21 (.un .not (.t 20))]
def qb8v:IC:=zr [zm 22 4,zm 2 22,zzj 3 0]
def qbx2:IC:=zr [zm 24 4,zzq 25 6 7,zm 26 6,zi 27 (zk 161 [zI 24,((.t 25),(.agg [.id,.id,(.sl 3),.id,.id,(.sl 3)])),zI 26]),zm 23 27,zzt 28 23 0,zzt 29 23 1,zm 4 28,zm 5 29]
def qbq7:IC:=zr [zm 30 5,zv 31 (.bin .neq .no (.t 30) (zc 0))]
def qbhc:IC:=zr [zm 32 5,zv 2 (.mov (.c .nilp)),zm 3 32]
def qb1x:IC:=(.block 1 (.seq qb2r (.seq (.seq qbwm (.cond (.t 21) (.seq qb8v .ret) .skip)) (.seq qbx2 (.seq qbq7 (.cond (.t 31) (.seq qbhc .ret) .skip))))))
def k0fe:IC:=(.seq qbs6 (.seq qb2z (.seq qb4k (.seq qb39 (.block 0 (.loop qb1x))))))
@[go_sem] def s0fe:zzR:=[(.t 2,.id),(.t 3,.id)]
theorem c0fe:cFun Tryz.prog 111=some (33,k0fe,s0fe):=by kernel_rfl

def qbmy:IC:=zr [zv 2 (.mov (.c (.int .u64 0)))]
def qbzq:IC:=zr [zm 3 0,zv 4 (.bin .lss .no (.t 3) (zc 0))]
def qbos:IC:=zr [zm 5 0,zv 6 (.cvi .u64 (.t 5)),zv 7 (.un .neg (.t 6)),zm 2 7]
def qb5j:IC:=zr [zm 8 0,zv 9 (.cvi .u64 (.t 8)),zm 2 9]
def k0bw:IC:=(.seq qbmy (.seq (.seq qbzq (.cond (.t 4) (.seq qbos .ret) .skip)) (.seq qb5j .ret)))
@[go_sem] def s0bw:zzR:=[(.t 2,.id)]
theorem c0bw:cFun Tryz.prog 117=some (10,k0bw,s0bw):=by kernel_rfl

def qb7n:IC:=zr [zzn 4 1,zv 6 zf]
def qb9l:IC:=zr [zm 13 0,zv 14 (.nck (.t 13)),zzp 15 14 0,zzr 16 1 15,zv 17 (.bin .sub .no (.t 16) (zc 1)),zv 18 (.nck (.t 13)),zzp 19 18 0,zn (.st 1 .id (.t 19) (.t 17))]
def qcaj:IC:=zr [zm 20 0,zv 21 (.nck (.t 20)),zzp 22 21 0,zzr 23 1 22,zv 24 (.bin .lss .no (.t 23) (zc 0)),zm 25 24,zw 25 false 26 (zo 2),zw 25 false 27 (.bin .lss .no (.t 26) (zc 1)),zzi 28 25 27]
def qb7d:IC:=zr [zv 6 zf]
def qbqe:IC:=zr [zzq 30 3 4,zi 31 (zk 174 [zze 30]),zm 29 31,zzt 32 29 0,zzt 33 29 1,zzt 34 29 2,zi 8 zzv,zm 7 32,zn (.st 3 zza (.t 8) (.t 33)),zm 9 34]
def qbu1:IC:=zr [zm 35 9,zv 36 (.un .not (.t 35))]
def qxe:IC:=.drw [zp (zzp 37 4 0),zp (zzr 38 1 37),zp (zzp 39 4 1),zp (zzr 40 1 39),zp (zzp 41 4 2),zp (zzr 42 1 41),zp (zzo 43 42),zp (zv 44 (.mm false (.t 43) (zc 4095))),(zi 45 (.mks 3 (.agg [(.str []),(.int .i64 0),.nils]) 48 (.t 44) (.t 44)),[1,3]),(zv 46 (.bld [(.str []),(.int .i64 0),.nils] [(0,1,(.t 38)),(1,1,(.t 40)),(2,1,(.t 45))]),[]),(zi 10 zzv,[1,3,5,8]),(zn (.st 3 zza (.t 10) (.t 46)),[])]
def qbqo:IC:=zr [zzq 47 3 10,zi 48 (zk 67 [zze 47]),zv 49 (.un .not (.t 48))]
def qb46:IC:=zr [zv 6 zf]
def qb2h:IC:=zr [zzp 50 4 2,zzr 51 1 50,zzo 52 51,zzj 53 0]
def qbke:IC:=zr [zzm 54 53 52]
def qbc8:IC:=zr [zzs 55 3 51 53,zzq 56 3 55,zi 12 zzv,zn (.st 3 zza (.t 12) (.t 56))]
def qbko:IC:=zr [zm 57 0,zzq 58 3 12,zm 59 2,zv 60 (.bin .sub .no (.t 59) (zc 1)),zi 61 (zk 121 [zI 57,zze 58,zI 60]),zv 62 (.un .not (.t 61))]
def qbjw:IC:=zr [zv 6 zf]
def qbfg:IC:=zr [zzl 63 53 1,zm 53 63]
def qbcx:IC:=(.seq qbke (.seq (.cond (.t 54) .skip (.exit 0)) (.seq (.block 1 (.seq qbc8 (.seq qbko (.cond (.t 62) (.seq qbjw .ret) .skip)))) qbfg)))
def qbi5:IC:=zr [zzk 6]
def k0cd:IC:=(.seq qb7n (.seq qb9l (.seq (.seq qcaj (.cond (.t 28) (.seq qb7d .ret) .skip)) (.seq (.seq qbqe (.seq qbu1 (.cond (.t 36) (.seq qxe (.seq qbqo (.cond (.t 49) (.seq qb46 .ret) .skip))) .skip))) (.seq (.seq qb2h (.block 0 (.loop qbcx))) (.seq qbi5 .ret))))))
@[go_sem] def s0cd:zzR:=[(.t 6,.id)]
theorem c0cd:cFun Tryz.prog 121=some (64,k0cd,s0cd):=by kernel_rfl

def qckd:IC:=zr [zzj 4 0]
def qcj5:IC:=zr [zm 6 0,zzo 7 6,zzj 8 0]
def qcj9:IC:=zr [zzm 9 8 7]
def qcfy:IC:=zr [zm 10 8,zm 5 10]
def qckr:IC:=zr [zm 11 1,zm 12 0,zm 13 5,zzs 14 1 12 13,zzr 15 1 14,zv 16 (zq (.t 11) (.t 15))]
def qcdz:IC:=zr [zm 17 5,zm 4 17]
def qcjf:IC:=zr [zzl 18 8 1,zm 8 18]
def qcgu:IC:=(.seq qcj9 (.seq (.cond (.t 9) .skip (.exit 0)) (.seq (.block 1 (.seq qcfy (.seq qckr (.cond (.t 16) (.seq qcdz .ret) .skip)))) qcjf)))
def qceu:IC:=zr [zv 4 (.mov (zc (-1)))]
def k0x:IC:=(.seq qckd (.seq (.seq qcj5 (.block 0 (.loop qcgu))) (.seq qceu .ret)))
@[go_sem] def s0x:zzR:=[(.t 4,.id)]
theorem c0x:cFun Tryz.prog 122=some (19,k0x,s0x):=by kernel_rfl

def qb4t:IC:=zr [zi 4 zzv,zv 5 zf]
def qbz9:IC:=zr [zm 8 0,zv 9 (.bin .eql .ptr (.t 8) (.c .nilp))]
def qb9s:IC:=zr [zv 10 (.bld [(.str []),(.int .i64 0),.nils] []),zn (.st 3 zza (.t 4) (.t 10)),zv 5 zf]
def qbqh:IC:=zr [zm 12 0,zm 13 1,zi 14 (zk 107 [zI 12,zI 13]),zm 11 14,zzt 15 11 0,zzt 16 11 1,zm 6 15,zm 7 16]
def qb2w:IC:=zr [zm 17 7,zv 18 (.un .not (.t 17))]
def qb8y:IC:=zr [zv 19 (.bld [(.str []),(.int .i64 0),.nils] []),zn (.st 3 zza (.t 4) (.t 19)),zv 5 zf]
def qcby:IC:=zr [zm 20 0,zv 21 (.nck (.t 20)),zzp 22 21 0,zzr 23 1 22,zm 24 6,zzs 25 4 23 24,zzp 26 25 1,zzq 27 3 26,zn (.st 3 zza (.t 4) (.t 27)),zzk 5]
def k0cs:IC:=(.seq qb4t (.seq (.seq qbz9 (.cond (.t 9) (.seq qb9s .ret) .skip)) (.seq qbqh (.seq (.seq qb2w (.cond (.t 18) (.seq qb8y .ret) .skip)) (.seq qcby .ret)))))
@[go_sem] def s0cs:zzR:=[(.c true 3 4,zza),(.t 5,.id)]
theorem c0cs:cFun Tryz.prog 123=some (28,k0cs,s0cs):=by kernel_rfl

def qch7:IC:=zr [zzn 1 0,zzj 2 0]
def qcg5:IC:=zr [zi 3 (.alo [(.int .i64 0)]),zn (.st 1 .id (.t 3) (zc 0))]
def qckz:IC:=zr [zzq 4 3 1,zv 5 (.mfn 175 [] [(.t 3)]),zi 6 (zk 99 [zze 4,((zc 1),.id),zI 5])]
def qce1:IC:=zr [zzr 7 1 3,zm 2 7]
def k0t:IC:=(.seq qch7 (.seq qcg5 (.seq qckz (.seq qce1 .ret))))
@[go_sem] def s0t:zzR:=[(.t 2,.id)]
theorem c0t:cFun Tryz.prog 124=some (8,k0t,s0t):=by kernel_rfl

def qcdd:IC:=zr [zzn 1 0,zzj 2 0]
def qcdo:IC:=zr [zi 3 (.alo [(.int .i64 0)]),zn (.st 1 .id (.t 3) (zc 0))]
def qcdp:IC:=zr [zzq 4 3 1,zv 5 (.mfn 176 [] [(.t 3)]),zi 6 (zk 99 [zze 4,((zc 1),.id),zI 5])]
def qcev:IC:=zr [zzr 7 1 3,zm 2 7]
def k0u:IC:=(.seq qcdd (.seq qcdo (.seq qcdp (.seq qcev .ret))))
@[go_sem] def s0u:zzR:=[(.t 2,.id)]
theorem c0u:cFun Tryz.prog 125=some (8,k0u,s0u):=by kernel_rfl

def qboj:IC:=zr [zzj 2 0]
def qbur:IC:=zr [zm 5 0,zzo 6 5,zv 7 (.bin .gtr .no (.t 6) (zc 30))]
def qb7g:IC:=zr [zzj 2 0]
def qbuf:IC:=zr [zv 3 (.mov (.c .nils))]
def qccj:IC:=zr [zzj 4 0]
def qbqq:IC:=zr [zm 8 4,zm 9 0,zzo 10 9,zzm 11 8 10]
def qb19:IC:=zr [zm 14 3,zm 15 0,zm 16 4,zzs 17 4 15 16,zzp 18 17 1,zzq 19 3 18,zv 20 (.bsl 3 [zze 19]),zi 21 (.app 3 (.agg [(.str []),(.int .i64 0),.nils]) 48 (.sl 3) (.t 14) (.t 20)),zm 3 21]
def qb3k:IC:=zr [zm 12 4,zzl 13 12 1,zm 4 13]
def qbnc:IC:=(.seq (.seq qbqq (.cond (.t 11) .skip (.exit 0))) (.seq (.block 1 qb19) qb3k))
def qbhu:IC:=zr [zm 22 3,zi 23 (zk 8 [((.t 22),(.sl 3))]),zm 2 23]
def k0cq:IC:=(.seq qboj (.seq (.seq qbur (.cond (.t 7) (.seq qb7g .ret) .skip)) (.seq qbuf (.seq (.seq qccj (.block 0 (.loop qbnc))) (.seq qbhu .ret)))))
@[go_sem] def s0cq:zzR:=[(.t 2,.id)]
theorem c0cq:cFun Tryz.prog 133=some (24,k0cq,s0cq):=by kernel_rfl

def qbuw:IC:=zr [zzn 1 0,zv 2 (.mov (.c .nilf))]
def qb3t:IC:=zr [zv 3 (.mfn 183 [] [(.t 1)]),zm 2 3]
def k0ea:IC:=(.seq qbuw (.seq qb3t .ret))
@[go_sem] def s0ea:zzR:=[(.t 2,.id)]
theorem c0ea:cFun Tryz.prog 134=some (4,k0ea,s0ea):=by kernel_rfl

def qb9d:IC:=zr [zv 2 zf]
def qb1n:IC:=zr [zm 3 0,zi 4 (zk 186 [zI 3]),zm 5 4,zw 5 false 6 (zo 0),zw 5 false 7 (.nck (.t 6)),zw 5 false 8 (zd 7 6),zw 5 false 9 (zg 1 8),zw 5 false 10 (.bin .geq .no (.t 9) (zc 200)),zzi 11 5 10]
def qb6m:IC:=zr [zm 12 0,zi 13 (zk 187 [zI 12,((zc 2),.id)]),zm 2 13]
def qb3p:IC:=zr [zm 14 0,zv 15 (.nck (.t 14)),zzp 16 15 6,zzr 17 1 16,zzl 18 17 1,zv 19 (.nck (.t 14)),zzp 20 19 6,zn (.st 1 .id (.t 20) (.t 18))]
def qb5b:IC:=zr [zzk 2]
def k0dx:IC:=(.seq qb9d (.seq (.seq qb1n (.cond (.t 11) (.seq qb6m .ret) .skip)) (.seq qb3p (.seq qb5b .ret))))
@[go_sem] def s0dx:zzR:=[(.t 2,.id)]
theorem c0dx:cFun Tryz.prog 135=some (21,k0dx,s0dx):=by kernel_rfl

def qbrx:IC:=zr [zi 2 zaT]
def qbom:IC:=zr [zm 4 0,zi 5 (zk 186 [zI 4]),zm 3 5]
def qbs3:IC:=zr [zv 6 (.bld [(.int .i64 0),(.int .i64 0),(.int .i64 0),(.str [])] []),zn (.st 4 .id (.t 2) (.t 6))]
def qb2u:IC:=.drw [zzu 8 0,zp (zv 9 (.nck (.t 8))),zp (zzp 10 9 5),zp (zzr 11 1 10),zzu 12 0,zp (zv 13 (.nck (.t 12))),zp (zzp 14 13 0),zp (zzr 15 1 14),zp (zzo 16 15),zp (zzm 17 11 16),zzu 7 17]
def qbys:IC:=.drw [zzu 18 0,zp (zv 19 (.nck (.t 18))),zp (zzp 20 19 0),zp (zzr 21 1 20),zzu 22 0,zp (zv 23 (.nck (.t 22))),zp (zzp 24 23 5),zp (zzr 25 1 24),zp (zzs 26 4 21 25),zp (zzq 27 4 26),(zn (.st 4 .id (.t 2) (.t 27)),[])]
def qbo6:IC:=zr [zm 28 0,zv 29 (.nck (.t 28)),zzp 30 29 1,zzq 31 4 30,zn (.st 4 .id (.t 2) (.t 31))]
def k0dq:IC:=(.seq qbrx (.seq (.block 0 (.seq qbom (.cond (.t 3) (.seq qbs3 .ret) (.seq qb2u (.cond (.t 7) (.seq qbys .ret) .skip))))) (.seq qbo6 .ret)))
@[go_sem] def s0dq:zzR:=[(.c true 4 2,.id)]
theorem c0dq:cFun Tryz.prog 136=some (32,k0dq,s0dq):=by kernel_rfl

def qcaw:IC:=zr [zi 2 zaN,zv 3 zf]
def qcbu:IC:=zr [zm 9 0,zi 10 (zk 188 [zI 9]),zm 8 10,zzt 11 8 0,zzt 12 8 1,zi 4 zaN,zn (.st 5 zN (.t 4) (.t 11)),zm 5 12]
def qb43:IC:=zr [zm 13 5]
def qbym:IC:=zr [zm 14 0,zi 15 (zk 189 [zI 14])]
def qb2n:IC:=zr [zzq 16 5 4,zn (.st 5 zN (.t 2) (.t 16)),zzk 3]
def qb4h:IC:=zr [zm 17 0,zi 18 (zk 190 [zI 17,((.c (.str [40])),.id)]),zv 19 (.un .not (.t 18))]
def qb7r:IC:=zr [zv 20 (.bld [(.int .i64 0),(.int .i64 0),(.int .i64 0),(.str []),.nils] []),zm 21 0,zi 22 (zk 187 [zI 21,((zc 5),.id)]),zn (.st 5 zN (.t 2) (.t 20)),zm 3 22]
def qb7a:IC:=zr [zm 23 0,zi 24 (zk 135 [zI 23]),zv 25 (.un .not (.t 24))]
def qb1u:IC:=zr [zv 26 (.bld [(.int .i64 0),(.int .i64 0),(.int .i64 0),(.str []),.nils] []),zn (.st 5 zN (.t 2) (.t 26)),zv 3 zf]
def qbzz:IC:=zr [zm 27 0,zi 28 (zk 189 [zI 27])]
def qbkz:IC:=zr [zm 30 0,zi 31 (zk 91 [zI 30]),zm 29 31,zzt 32 29 0,zzt 33 29 1,zi 6 zaN,zn (.st 5 zN (.t 6) (.t 32)),zm 7 33]
def qbkx:IC:=zr [zm 34 7,zv 35 (.un .not (.t 34)),zm 36 35,zw 36 false 37 (zo 0),zj 36 false 38 (zk 191 [zI 37,((.c (.str [41])),.id)]),zw 36 false 39 (.un .not (.t 38)),zzi 40 36 39]
def qbi7:IC:=zr [zv 41 (.bld [(.int .i64 0),(.int .i64 0),(.int .i64 0),(.str []),.nils] []),zn (.st 5 zN (.t 2) (.t 41)),zv 3 zf]
def qbcw:IC:=zr [zm 42 0,zi 43 (zk 139 [zI 42])]
def qbem:IC:=zr [zzq 44 5 6,zn (.st 5 zN (.t 2) (.t 44)),zzk 3]
def k0dm:IC:=(.seq qcaw (.seq (.seq qcbu (.seq qb43 (.cond (.t 13) (.seq qbym (.seq qb2n .ret)) .skip))) (.seq (.seq qb4h (.cond (.t 19) (.seq qb7r .ret) .skip)) (.seq (.seq qb7a (.cond (.t 25) (.seq qb1u .ret) .skip)) (.seq qbzz (.seq qbkz (.seq (.seq qbkx (.cond (.t 40) (.seq qbi7 .ret) .skip)) (.seq qbcw (.seq qbem .ret)))))))))
@[go_sem] def s0dm:zzR:=[(.c true 5 2,zN),(.t 3,.id)]
theorem c0dm:cFun Tryz.prog 137=some (45,k0dm,s0dm):=by kernel_rfl

def qbmb:IC:=zr [zv 2 zf]
def qbs9:IC:=zr [zm 6 0,zi 7 (zk 188 [zI 6]),zm 5 7,zzt 8 5 0,zzt 9 5 1,zi 3 zaN,zn (.st 5 zN (.t 3) (.t 8)),zm 4 9]
def qbvh:IC:=zr [zm 10 4,zm 11 10,zw 11 false 12 (zo 0),zj 11 false 13 (zk 190 [zI 12,((.c (.str [40])),.id)]),zzi 14 11 13,zm 2 14]
def k0dl:IC:=(.seq qbmb (.seq qbs9 (.seq qbvh .ret)))
@[go_sem] def s0dl:zzR:=[(.t 2,.id)]
theorem c0dl:cFun Tryz.prog 138=some (15,k0dl,s0dl):=by kernel_rfl

def qb8o:IC:=zr [zm 2 0,zi 3 (zk 186 [zI 2]),zv 4 (.un .not (.t 3)),zm 5 4,zw 5 true 6 (zo 0),zw 5 true 7 (.nck (.t 6)),zw 5 true 8 (zd 7 6),zw 5 true 9 (zg 1 8),zw 5 true 10 (.bin .gtr .no (.t 9) (zc 0)),zzh 11 5 10]
def qb9p:IC:=zr [zm 12 0,zv 13 (.nck (.t 12)),zzp 14 13 6,zzr 15 1 14,zv 16 (.bin .sub .no (.t 15) (zc 1)),zv 17 (.nck (.t 12)),zzp 18 17 6,zn (.st 1 .id (.t 18) (.t 16))]
def k0dy:IC:=(.seq qb8o (.cond (.t 11) qb9p .skip))
@[go_sem] def s0dy:zzR:=[]
theorem c0dy:cFun Tryz.prog 139=some (19,k0dy,s0dy):=by kernel_rfl

def qbsl:IC:=zr [zzn 2 0,zzn 3 1,zv 4 (.mov (.c .nilf))]
def qbt9:IC:=zr [zv 5 (.mfn 192 [] [(.t 2),(.t 3)]),zm 4 5]
def k0eo:IC:=(.seq qbsl (.seq qbt9 .ret))
@[go_sem] def s0eo:zzR:=[(.t 4,.id)]
theorem c0eo:cFun Tryz.prog 140=some (6,k0eo,s0eo):=by kernel_rfl

def qb8f:IC:=zr [zzn 3 1,zv 4 (.mov (.c .nils))]
def qb73:IC:=zr [zzp 7 3 0,zzr 8 1 7,zv 9 (zq (.t 8) (zc 11))]
def qbp1:IC:=zr [zm 10 0,zzq 11 5 3,zv 12 (.bsl 5 [zA 11]),zi 13 (.app 5 zZ 64 (.sl 5) (.t 10) (.t 12)),zm 4 13]
def qbv8:IC:=zr [zzp 14 3 4,zzr 15 1 14,zzo 16 15,zzj 17 0]
def qbw3:IC:=zr [zzm 18 17 16]
def qbt2:IC:=zr [zzs 19 5 15 17,zzq 20 5 19,zi 6 zaN,zn (.st 5 zN (.t 6) (.t 20))]
def qbz7:IC:=zr [zm 21 0,zzq 22 5 6,zi 23 (zk 141 [((.t 21),(.sl 5)),zA 22]),zm 0 23]
def qbzk:IC:=zr [zzl 24 17 1,zm 17 24]
def qcbg:IC:=(.seq qbw3 (.seq (.cond (.t 18) .skip (.exit 0)) (.seq (.block 1 (.seq qbt2 qbz7)) qbzk)))
def qbi8:IC:=zr [zm 25 0,zm 4 25]
def k0fm:IC:=(.seq qb8f (.seq (.seq qb73 (.cond (.t 9) (.seq qbp1 .ret) .skip)) (.seq (.seq qbv8 (.block 0 (.loop qcbg))) (.seq qbi8 .ret))))
@[go_sem] def s0fm:zzR:=[(.t 4,(.sl 5))]
theorem c0fm:cFun Tryz.prog 141=some (26,k0fm,s0fm):=by kernel_rfl

def qb3e:IC:=zr [zv 4 zf]
def qcaz:IC:=zr [zm 5 0,zm 6 1,zi 7 (zk 194 [((.t 5),(.sl 1)),zI 6]),zv 8 (.bin .geq .no (.t 7) (zc 0)),zm 4 8]
def k0fo:IC:=(.seq qb3e (.seq qcaz .ret))
@[go_sem] def s0fo:zzR:=[(.t 4,.id)]
theorem c0fo:cFun Tryz.prog 142=some (9,k0fo,s0fo):=by kernel_rfl

def qb7h:IC:=zr [zzn 1 0,zv 2 (.mov (.c .nils))]
def qbxa:IC:=zr [zi 3 (.alo [.nils])]
def qbqa:IC:=zr [zzq 4 3 1,zv 5 (.mfn 195 [] [(.t 3)]),zi 6 (zk 99 [zze 4,((zc 1),.id),zI 5])]
def qbvj:IC:=zr [zzr 7 1 3,zm 2 7]
def k0ba:IC:=(.seq qb7h (.seq qbxa (.seq qbqa (.seq qbvj .ret))))
@[go_sem] def s0ba:zzR:=[(.t 2,(.sl 1))]
theorem c0ba:cFun Tryz.prog 143=some (8,k0ba,s0ba):=by kernel_rfl

def qcey:IC:=zr [zv 4 zf]
def qcc3:IC:=zr [zm 5 0,zm 6 1,zi 7 (zk 122 [((.t 5),(.sl 1)),zI 6]),zv 8 (.bin .geq .no (.t 7) (zc 0)),zm 4 8]
def k0y:IC:=(.seq qcey (.seq qcc3 .ret))
@[go_sem] def s0y:zzR:=[(.t 4,.id)]
theorem c0y:cFun Tryz.prog 144=some (9,k0y,s0y):=by kernel_rfl

def qbr5:IC:=zr [zzn 2 0,zv 4 zf]
def qbr7:IC:=zr [zzp 5 2 2,zzr 6 1 5,zv 7 (zq (.t 6) (zc 0)),zm 8 7,zw 8 true 9 (zo 1),zw 8 true 10 (zd 2 3),zw 8 true 11 (zg 1 10),zj 8 true 12 (.call (.t 9) [zI 11]),zzh 13 8 12,zm 4 13]
def k0ej:IC:=(.seq qbr5 (.seq qbr7 .ret))
@[go_sem] def s0ej:zzR:=[(.t 4,.id)]
theorem c0ej:cFun Tryz.prog 145=some (14,k0ej,s0ej):=by kernel_rfl

def qbo1:IC:=zr [zv 2 zf]
def qb4a:IC:=zr [zm 3 0,zv 4 (.bin .neq .no (.t 3) (.c (.str []))),zm 5 4,zw 5 true 6 (zo 0),zw 5 true 7 (.bin .neq .no (.t 6) (.c (.str [95]))),zzh 8 5 7,zm 9 8,zw 9 true 10 (zo 0),zw 9 true 11 (.idx (.t 10) (zc 0)),zj 9 true 12 (zk 196 [zI 11]),zzh 13 9 12,zm 14 13,zw 14 true 15 (zo 0),zj 14 true 16 (zk 197 [zI 15]),zzh 17 14 16,zm 18 17,zw 18 true 19 (zo 0),zj 18 true 20 (zk 198 [zI 19]),zw 18 true 21 (.un .not (.t 20)),zzh 22 18 21,zm 2 22]
def k0bv:IC:=(.seq qbo1 (.seq qb4a .ret))
@[go_sem] def s0bv:zzR:=[(.t 2,.id)]
theorem c0bv:cFun Tryz.prog 146=some (23,k0bv,s0bv):=by kernel_rfl

def qbvk:IC:=zr [zzn 1 0,zv 2 zf]
def qbmc:IC:=zr [zzp 3 1 3,zzr 4 1 3,zv 5 (zq (.t 4) (.c (.str []))),zm 6 5,zw 6 true 7 (zd 1 2),zw 6 true 8 (zg 1 7),zw 6 true 9 (zq (.t 8) (zc 0)),zzh 10 6 9,zm 2 10]
def k0ei:IC:=(.seq qbvk (.seq qbmc .ret))
@[go_sem] def s0ei:zzR:=[(.t 2,.id)]
theorem c0ei:cFun Tryz.prog 147=some (11,k0ei,s0ei):=by kernel_rfl

def qb1q:IC:=zr [zv 2 zf]
def qbwg:IC:=zr [zm 3 0,zv 4 (.bin .neq .no (.t 3) (.c (.str []))),zm 5 4,zw 5 true 6 (zo 0),zw 5 true 7 (.idx (.t 6) (zc 0)),zj 5 true 8 (zk 199 [zI 7]),zzh 9 5 8,zm 10 9,zw 10 true 11 (zo 0),zj 10 true 12 (zk 197 [zI 11]),zzh 13 10 12,zm 2 13]
def k0bu:IC:=(.seq qb1q (.seq qbwg .ret))
@[go_sem] def s0bu:zzR:=[(.t 2,.id)]
theorem c0bu:cFun Tryz.prog 148=some (14,k0bu,s0bu):=by kernel_rfl

def qbxz:IC:=zr [zv 4 zf]
def qbn9:IC:=zr [zm 7 0,zzo 8 7,zzj 9 0]
def qb1l:IC:=zr [zzm 10 9 8]
def qcbe:IC:=zr [zzs 11 5 7 9,zzq 12 5 11,zi 6 zaN,zn (.st 5 zN (.t 6) (.t 12))]
def qcbn:IC:=zr [zm 13 1,zzq 14 5 6,zi 15 (.call (.t 13) [zA 14]),zv 16 (.un .not (.t 15))]
def qcb2:IC:=zr [zv 4 zf]
def qbp6:IC:=zr [zzl 17 9 1,zm 9 17]
def qb69:IC:=(.seq qb1l (.seq (.cond (.t 10) .skip (.exit 0)) (.seq (.block 1 (.seq qcbe (.seq qcbn (.cond (.t 16) (.seq qcb2 .ret) .skip)))) qbp6)))
def qbou:IC:=zr [zzk 4]
def k0ek:IC:=(.seq qbxz (.seq (.seq qbn9 (.block 0 (.loop qb69))) (.seq qbou .ret)))
@[go_sem] def s0ek:zzR:=[(.t 4,.id)]
theorem c0ek:cFun Tryz.prog 149=some (18,k0ek,s0ek):=by kernel_rfl

def qcjl:IC:=zr [zzn 2 0,zi 4 (.alo [.nils,(.str []),(.int .i64 0),.nils]),zv 5 zf]
def qcdm:IC:=zr [zzp 11 2 0,zzr 12 1 11,zm 13 1,zi 14 (zk 200 [((.t 12),(.sl 3)),zI 13]),zm 10 14,zzt 15 10 0,zzt 16 10 1,zzt 17 10 2,zi 6 zzv,zn (.st 3 (.agg [.id,.id,(.sl 2)]) (.t 6) (.t 15)),zm 7 16,zm 8 17]
def qcfq:IC:=zr [zm 18 8,zv 19 (.un .not (.t 18))]
def qcju:IC:=zr [zv 20 (.bld [.nils,(.str []),(.int .i64 0),.nils] []),zn (.st 4 (.agg [(.sl 1),.id,.id,(.sl 3)]) (.t 4) (.t 20)),zv 5 zf]
def qcfz:IC:=.drw [zp (zzp 21 6 2),zp (zzr 22 1 21),zzu 23 7,zp (zzs 24 2 22 23),zp (zzp 25 24 1),zp (zzr 26 1 25),zp (zzp 27 6 0),zp (zzr 28 1 27),zp (zzp 29 6 1),zp (zzr 30 1 29),(zi 31 (zk 202 [zI 28,zI 30]),[1,5]),(zi 32 (zk 201 [((.t 26),(.sl 3)),zze 31]),[]),(zi 9 zzv,[1,5,7,9,10,11]),(zn (.st 3 zza (.t 9) (.t 32)),[])]
def qcim:IC:=.drw [zp (zzp 33 6 1),zp (zzr 34 1 33),(zi 35 (zk 203 [((zc 0),.id),zI 34]),[]),(zzq 36 3 9,[2]),(zi 37 (zk 204 [zze 36]),[]),(zv 38 (.bld [.nils,(.str []),(.int .i64 0),.nils] [(0,1,(.t 35)),(1,3,(.t 37))]),[]),(zn (.st 4 (.agg [(.sl 1),.id,.id,(.sl 3)]) (.t 4) (.t 38)),[]),zp (zzk 5)]
def k0i:IC:=(.seq qcjl (.seq qcdm (.seq (.seq qcfq (.cond (.t 19) (.seq qcju .ret) .skip)) (.seq qcfz (.seq qcim .ret)))))
@[go_sem] def s0i:zzR:=[(.c true 4 4,(.agg [(.sl 1),.id,.id,(.sl 3)])),(.t 5,.id)]
theorem c0i:cFun Tryz.prog 150=some (39,k0i,s0i):=by kernel_rfl

def qcgi:IC:=zr [zzn 1 0,zv 2 (.mov (.c .nils)),zi 3 zzv]
def qcdt:IC:=zr [zv 4 (.mov (.c .nils))]
def qcii:IC:=zr [zzp 5 1 0,zzr 6 1 5,zv 7 (zq (.t 6) (.c (.str [45,62]))),zm 8 7,zw 8 true 9 (zd 1 2),zw 8 true 10 (zg 1 9),zw 8 true 11 (.len false (.t 10)),zw 8 true 12 (zq (.t 11) (zc 2)),zzh 13 8 12]
def qcgd:IC:=.drw [zzu 14 4,zp (zzp 15 1 2),zp (zzr 16 1 15),zp (zv 17 (.iad 3 (.t 16) (zc 0))),zp (zzq 18 3 17),(zv 19 (.bsl 3 [zze 18]),[]),(zi 20 (.app 3 (.agg [(.str []),(.int .i64 0),.nils]) 48 (.sl 3) (.t 14) (.t 19)),[]),zp (zzp 21 1 2),(zzr 22 1 21,[6]),zp (zv 23 (.iad 3 (.t 22) (zc 1))),(zzq 24 3 23,[6]),zzu 4 20,(zn (.st 3 zza (.t 1) (.t 24)),[])]
def qchq:IC:=(.seq (.seq qcii (.cond (.t 13) .skip (.exit 0))) (.block 1 qcgd))
def qch4:IC:=.drw [zzu 25 4,zp (zzq 26 3 1),zzu 2 25,(zn (.st 3 zza (.t 3) (.t 26)),[])]
def k0o:IC:=(.seq qcgi (.seq qcdt (.seq (.block 0 (.loop qchq)) (.seq qch4 .ret))))
@[go_sem] def s0o:zzR:=[(.t 2,(.sl 3)),(.c true 3 3,zza)]
theorem c0o:cFun Tryz.prog 151=some (27,k0o,s0o):=by kernel_rfl

def qcbp:IC:=zr [zv 2 zf]
def qbmm:IC:=zr [zm 5 0,zi 6 (zk 205 [zI 5,((.c (.str [33])),.id)]),zv 7 (.un .not (.t 6))]
def qb37:IC:=zr [zv 2 zf]
def qbng:IC:=zr [zm 9 0,zv 10 (.sls (.t 9) (some (zc 1)) none),zi 11 (zk 206 [zI 10]),zm 8 11,zzt 12 8 0,zzt 13 8 1,zm 3 12,zm 4 13]
def qb31:IC:=.drw [zzu 14 4,zp (zv 15 (zq (.t 14) (zc 0))),zzu 16 15,zp (zw 16 true 17 (zo 3)),(zj 16 true 18 (zk 52 [zI 17]),[]),zp (zw 16 true 19 (zo 0)),zp (zw 16 true 20 (.sls (.t 19) (some (zc 1)) none)),zp (zw 16 true 21 (zq (.t 18) (.t 20))),zp (zzh 22 16 21),zzu 2 22]
def k0bd:IC:=(.seq qcbp (.seq (.seq qbmm (.cond (.t 7) (.seq qb37 .ret) .skip)) (.seq qbng (.seq qb31 .ret))))
@[go_sem] def s0bd:zzR:=[(.t 2,.id)]
theorem c0bd:cFun Tryz.prog 152=some (23,k0bd,s0bd):=by kernel_rfl

def qbnp:IC:=zr [zv 2 (.mov (.c (.str [])))]
def qb59:IC:=zr [zm 4 0,zv 5 (.bin .lss .no (.t 4) (zc 0))]
def qb7j:IC:=zr [zv 2 (.mov (.c (.str [])))]
def qbm8:IC:=zr [zm 6 0,zv 7 (.bin .rem .no (.t 6) (zc 26)),zv 8 (.bin .add .no (zc 97) (.t 7)),zv 9 (.cvi .u8 (.t 8)),zv 10 (.bsl 1 [zI 9]),zv 11 (.cbs (.t 10)),zm 3 11]
def qbyd:IC:=zr [zm 12 0,zv 13 (.bin .lss .no (.t 12) (zc 26))]
def qb1t:IC:=zr [zm 14 3,zm 2 14]
def qbzd:IC:=zr [zm 15 3,zm 16 0,zv 17 (.bin .quo .no (.t 16) (zc 26)),zi 18 (zk 52 [zI 17]),zv 19 (.bin .add .no (.t 15) (.t 18)),zm 2 19]
def k0bz:IC:=(.seq qbnp (.seq (.seq qb59 (.cond (.t 5) (.seq qb7j .ret) .skip)) (.seq qbm8 (.seq (.seq qbyd (.cond (.t 13) (.seq qb1t .ret) .skip)) (.seq qbzd .ret)))))
@[go_sem] def s0bz:zzR:=[(.t 2,.id)]
theorem c0bz:cFun Tryz.prog 154=some (20,k0bz,s0bz):=by kernel_rfl

def qbqu:IC:=zr [zzj 6 0,zv 7 zf]
def qb9b:IC:=zr [zm 12 0,zzo 13 12,zm 8 13]
def qbzu:IC:=zr [zm 14 8,zzj 9 0,zm 10 14]
def qbro:IC:=zr [zm 15 9,zm 16 10,zzm 17 15 16]
def qbw5:IC:=zr [zm 18 9,zm 19 10,zv 20 (.bin .add .no (.t 18) (.t 19)),zv 21 (.cvi .u64 (.t 20)),zv 22 (.bin .shr .no (.t 21) (.c (.int .u64 1))),zv 23 (.cvi .i64 (.t 22)),zm 11 23]
def qbpj:IC:=zr [zm 24 2,zm 25 0,zm 26 11,zzs 27 4 25 26,zzq 28 4 27,zm 29 1,zi 30 (.call (.t 24) [((.t 28),zzd),zI 29]),zv 31 (.bin .lss .no (.t 30) (zc 0))]
def qbv0:IC:=zr [zm 32 11,zzl 33 32 1,zm 9 33]
def qb18:IC:=zr [zm 34 11,zm 10 34]
def qb77:IC:=(.seq (.seq qbro (.cond (.t 17) .skip (.exit 0))) (.block 1 (.seq qbw5 (.seq qbpj (.cond (.t 31) qbv0 qb18)))))
def qbkc:IC:=zr [zm 35 9,zm 36 9,zm 37 8,zzm 38 36 37,zm 39 38,zw 39 true 40 (zo 2),zw 39 true 41 (zo 0),zw 39 true 42 (zo 9),zw 39 true 43 (.iad 4 (.t 41) (.t 42)),zw 39 true 44 (zl 4 43),zw 39 true 45 (zo 1),zj 39 true 46 (.call (.t 40) [((.t 44),zzd),zI 45]),zw 39 true 47 (zq (.t 46) (zc 0)),zzh 48 39 47,zm 6 35,zm 7 48]
def k0ct:IC:=(.seq qbqu (.seq qb9b (.seq qbzu (.seq (.block 0 (.loop qb77)) (.seq qbkc .ret)))))
@[go_sem] def s0ct:zzR:=[(.t 6,.id),(.t 7,.id)]
theorem c0ct:cFun Tryz.prog 155=some (49,k0ct,s0ct):=by kernel_rfl

def qbvu:IC:=zr [zzn 2 0,zzj 4 0]
def qb0l:IC:=zr [zzp 6 2 0,zzr 7 1 6,zm 8 1,zzm 9 7 8,zm 5 9]
def qb2v:IC:=zr [zv 4 (.mov (zc (-1)))]
def qbv1:IC:=zr [zzp 11 2 0,zzr 12 1 11,zm 13 1,zv 14 (.bin .gtr .no (.t 12) (.t 13)),zm 10 14]
def qboz:IC:=zr [zzj 4 1]
def qbx3:IC:=zr [zzj 4 0]
def k0cv:IC:=(.seq qbvu (.seq (.block 0 (.seq qb0l (.cond (.t 5) (.seq qb2v .ret) (.seq qbv1 (.cond (.t 10) (.seq qboz .ret) .skip))))) (.seq qbx3 .ret)))
@[go_sem] def s0cv:zzR:=[(.t 4,.id)]
theorem c0cv:cFun Tryz.prog 156=some (15,k0cv,s0cv):=by kernel_rfl

def qb51:IC:=zr [zm 5 1,zzo 6 5,zv 7 (.bin .sub .no (.t 6) (zc 1)),zm 4 7]
def qb3q:IC:=zr [zm 8 4,zv 9 (.bin .geq .no (.t 8) (zc 0))]
def qbsf:IC:=.drw [zzu 12 0,zzu 13 0,zp (zv 14 (.nck (.t 13))),zp (zzp 15 14 0),zp (zzr 16 1 15),zzu 17 1,zzu 18 4,zp (zzs 19 6 17 18),zp (zzq 20 6 19),(zv 21 (.bsl 6 [((.t 20),(.agg [.id,.id,(.sl 3),.id,.id,(.sl 3)]))]),[]),(zi 22 (.app 6 (.agg [(.str []),(.int .i64 0),.nils,(.str []),(.int .i64 0),.nils]) 96 (.sl 6) (.t 16) (.t 21)),[]),zp (zv 23 (.nck (.t 12))),zp (zzp 24 23 0),(zn (.st 1 (.sl 6) (.t 24) (.t 22)),[])]
def qb6g:IC:=zr [zm 10 4,zv 11 (.bin .sub .no (.t 10) (zc 1)),zm 4 11]
def qbov:IC:=(.seq (.seq qb3q (.cond (.t 9) .skip (.exit 0))) (.seq (.block 1 qbsf) qb6g))
def k0fj:IC:=(.seq qb51 (.block 0 (.loop qbov)))
@[go_sem] def s0fj:zzR:=[]
theorem c0fj:cFun Tryz.prog 159=some (25,k0fj,s0fj):=by kernel_rfl

def qbzn:IC:=zr [zi 2 (.alo [(.str []),(.int .i64 0),.nils,(.str []),(.int .i64 0),.nils]),zv 3 zf]
def qbsy:IC:=zr [zi 4 (.alo [(.str []),(.int .i64 0),.nils,(.str []),(.int .i64 0),.nils])]
def qbqc:IC:=zr [zm 6 0,zv 7 (.nck (.t 6)),zzp 8 7 0,zzr 9 1 8,zzo 10 9,zv 11 (.bin .sub .no (.t 10) (zc 1)),zm 5 11]
def qbu7:IC:=zr [zm 12 5,zv 13 (.bin .lss .no (.t 12) (zc 0))]
def qb00:IC:=zr [zzq 14 6 4,zn (.st 6 (.agg [.id,.id,(.sl 3),.id,.id,(.sl 3)]) (.t 2) (.t 14)),zv 3 zf]
def qcb1:IC:=zr [zm 15 0,zv 16 (.nck (.t 15)),zzp 17 16 0,zzr 18 1 17,zm 19 5,zzs 20 6 18 19,zzq 21 6 20,zn (.st 6 (.agg [.id,.id,(.sl 3),.id,.id,(.sl 3)]) (.t 4) (.t 21))]
def qb49:IC:=zr [zm 22 0,zm 23 0,zv 24 (.nck (.t 23)),zzp 25 24 0,zzr 26 1 25,zm 27 5,zv 28 (.slv 6 (.t 26) none (some (.t 27)) none),zv 29 (.nck (.t 22)),zzp 30 29 0,zn (.st 1 (.sl 6) (.t 30) (.t 28))]
def qbzw:IC:=zr [zzq 31 6 4,zn (.st 6 (.agg [.id,.id,(.sl 3),.id,.id,(.sl 3)]) (.t 2) (.t 31)),zzk 3]
def k0fk:IC:=(.seq qbzn (.seq qbsy (.seq qbqc (.seq (.seq qbu7 (.cond (.t 13) (.seq qb00 .ret) .skip)) (.seq qcb1 (.seq qb49 (.seq qbzw .ret)))))))
@[go_sem] def s0fk:zzR:=[(.c true 6 2,(.agg [.id,.id,(.sl 3),.id,.id,(.sl 3)])),(.t 3,.id)]
theorem c0fk:cFun Tryz.prog 160=some (32,k0fk,s0fk):=by kernel_rfl

def qb42:IC:=zr [zzn 4 1,zv 6 (.mov (.c .nilp)),zzj 7 0]
def qboq:IC:=zr [zm 12 0,zzp 13 4 0,zzq 14 3 13,zi 15 (zk 53 [zI 12,zze 14]),zm 11 15,zzt 16 11 0,zzt 17 11 1,zi 8 zzv,zn (.st 3 zza (.t 8) (.t 16)),zm 9 17]
def qbtw:IC:=zr [zm 18 9,zv 19 (.bin .neq .no (.t 18) (zc 0))]
def qb74:IC:=zr [zm 20 9,zv 6 (.mov (.c .nilp)),zm 7 20]
def qbuz:IC:=zr [zm 22 0,zzp 23 4 3,zzq 24 3 23,zi 25 (zk 53 [zI 22,zze 24]),zm 21 25,zzt 26 21 0,zzt 27 21 1,zi 10 zzv,zn (.st 3 zza (.t 10) (.t 26)),zm 9 27]
def qccb:IC:=zr [zm 29 9,zv 30 (.bin .neq .no (.t 29) (zc 0)),zm 28 30]
def qbqx:IC:=zr [zm 31 9,zv 6 (.mov (.c .nilp)),zm 7 31]
def qbqb:IC:=zr [zzp 33 8 0,zzr 34 1 33,zv 35 (zq (.t 34) (.c (.str []))),zm 32 35]
def qb7l:IC:=zr [zm 36 0,zzp 37 8 1,zzr 38 1 37,zzq 39 3 10,zi 40 (zk 209 [zI 36,zI 38,zze 39]),zzt 41 40 0,zzt 42 40 1,zm 6 41,zm 7 42]
def qb8p:IC:=zr [zzp 44 10 0,zzr 45 1 44,zv 46 (zq (.t 45) (.c (.str []))),zm 43 46]
def qbfp:IC:=zr [zm 47 0,zzp 48 10 1,zzr 49 1 48,zzq 50 3 8,zi 51 (zk 209 [zI 47,zI 49,zze 50]),zzt 52 51 0,zzt 53 51 1,zm 6 52,zm 7 53]
def qben:IC:=zr [zzp 55 8 0,zzr 56 1 55,zzp 57 10 0,zzr 58 1 57,zv 59 (.bin .neq .no (.t 56) (.t 58)),zm 60 59,zw 60 false 61 (zd 8 2),zw 60 false 62 (zg 1 61),zw 60 false 63 (.len false (.t 62)),zw 60 false 64 (zd 10 2),zw 60 false 65 (zg 1 64),zw 60 false 66 (.len false (.t 65)),zw 60 false 67 (.bin .neq .no (.t 63) (.t 66)),zzi 68 60 67,zm 54 68]
def qbh1:IC:=zr [zv 6 (.mov (.c .nilp)),zzj 7 14]
def qbkt:IC:=zr [zm 69 2,zzp 70 8 2,zzr 71 1 70,zzp 72 10 2,zzr 73 1 72,zi 74 (zk 210 [((.t 71),(.sl 3)),((.t 73),(.sl 3))]),zi 75 (zk 159 [zI 69,((.t 74),(.sl 6))])]
def qbc0:IC:=zr [zm 76 0,zm 6 76,zzj 7 0]
def k0ff:IC:=(.seq qb42 (.seq qboq (.seq (.seq qbtw (.cond (.t 19) (.seq qb74 .ret) .skip)) (.seq qbuz (.seq (.block 0 (.seq qccb (.cond (.t 28) (.seq qbqx .ret) (.seq qbqb (.cond (.t 32) (.seq qb7l .ret) (.seq qb8p (.cond (.t 43) (.seq qbfp .ret) (.seq qben (.cond (.t 54) (.seq qbh1 .ret) .skip))))))))) (.seq qbkt (.seq qbc0 .ret)))))))
@[go_sem] def s0ff:zzR:=[(.t 6,.id),(.t 7,.id)]
theorem c0ff:cFun Tryz.prog 161=some (77,k0ff,s0ff):=by kernel_rfl

def qb92:IC:=zr [zzn 1 0,zv 2 (.mov (.c (.str []))),zi 3 zzv,zv 4 zf]
def qbyw:IC:=zr [zzp 9 1 0,zzr 10 1 9,zi 11 (zk 218 [zI 10,((.c (.str [123])),.id)]),zm 8 11,zzt 12 8 0,zzt 13 8 1,zm 5 12,zm 6 13]
def qb0h:IC:=zr [zm 15 5,zi 16 (zk 219 [zI 15,((.c (.str [125])),.id)]),zm 14 16,zzt 17 14 0,zzt 18 14 1,zm 5 17,zm 7 18]
def qbyt:IC:=zr [zm 19 6,zv 20 (.un .not (.t 19)),zm 21 20,zw 21 false 22 (zo 7),zw 21 false 23 (.un .not (.t 22)),zzi 24 21 23,zm 25 24,zw 25 false 26 (zo 5),zj 25 false 27 (zk 148 [zI 26]),zw 25 false 28 (.un .not (.t 27)),zzi 29 25 28,zm 30 29,zw 30 false 31 (zd 1 2),zw 30 false 32 (zg 1 31),zw 30 false 33 (.len false (.t 32)),zw 30 false 34 (.bin .neq .no (.t 33) (zc 1)),zzi 35 30 34,zm 36 35,zw 36 false 37 (zd 1 1),zw 36 false 38 (zg 1 37),zw 36 false 39 (.bin .neq .no (.t 38) (zc 0)),zzi 40 36 39]
def qccr:IC:=zr [zv 41 (.bld [(.str []),(.int .i64 0),.nils] []),zv 2 (.mov (.c (.str []))),zn (.st 3 zza (.t 3) (.t 41)),zv 4 zf]
def qbr6:IC:=.drw [zzu 42 5,zp (zzp 43 1 2),zp (zzr 44 1 43),zp (zv 45 (.iad 3 (.t 44) (zc 0))),zp (zzq 46 3 45),zzu 2 42,(zn (.st 3 zza (.t 3) (.t 46)),[]),zp (zzk 4)]
def k0cj:IC:=(.seq qb92 (.seq qbyw (.seq qb0h (.seq (.seq qbyt (.cond (.t 40) (.seq qccr .ret) .skip)) (.seq qbr6 .ret)))))
@[go_sem] def s0cj:zzR:=[(.t 2,.id),(.c true 3 3,zza),(.t 4,.id)]
theorem c0cj:cFun Tryz.prog 174=some (47,k0cj,s0cj):=by kernel_rfl

def qcg6:IC:=zr [zzn 3 0,zv 5 zf]
def qckm:IC:=zr [zzr 6 1 2,zzl 7 6 1,zn (.st 1 .id (.t 2) (.t 7))]
def qcjv:IC:=zr [zzk 5]
def k0q:IC:=(.seq qcg6 (.seq qckm (.seq qcjv .ret)))
@[go_sem] def s0q:zzR:=[(.t 5,.id)]
theorem c0q:cFun Tryz.prog 175=some (8,k0q,s0q):=by kernel_rfl

def qcft:IC:=zr [zzn 3 0,zv 5 zf]
def qcd6:IC:=zr [zzr 6 1 2,zm 7 1,zv 8 (.mm true (.t 6) (.t 7)),zn (.st 1 .id (.t 2) (.t 8))]
def qcgb:IC:=zr [zzk 5]
def k0r:IC:=(.seq qcft (.seq qcd6 (.seq qcgb .ret)))
@[go_sem] def s0r:zzR:=[(.t 5,.id)]
theorem c0r:cFun Tryz.prog 176=some (9,k0r,s0r):=by kernel_rfl

def qbsd:IC:=zr [zzr 6 1 1,zi 7 (zk 184 [zI 6]),zm 3 7]
def qbms:IC:=zr [zm 8 3,zzr 9 1 1,zv 10 (.len true (.t 9)),zzm 11 8 10]
def qbvs:IC:=zr [zzr 13 1 1,zm 14 3,zv 15 (.sls (.t 13) (some (.t 14)) none),zi 16 (zk 185 [zI 15]),zm 12 16,zzt 17 12 0,zzt 18 12 1,zi 4 zaT,zn (.st 4 .id (.t 4) (.t 17)),zm 5 18]
def qb8i:IC:=zr [zm 19 3,zzp 20 4 1,zn (.st 1 .id (.t 20) (.t 19))]
def qb84:IC:=zr [zm 21 0,zzq 22 4 4,zm 23 5,zi 24 (.call (.t 21) [zI 22,zI 23]),zv 25 (.un .not (.t 24))]
def qbrw:IC:=zr [zm 26 3,zzp 27 4 3,zzr 28 1 27,zv 29 (.len true (.t 28)),zv 30 (.bin .add .no (.t 26) (.t 29)),zm 3 30]
def qb8w:IC:=zr [zm 31 3,zzr 32 1 1,zm 33 3,zv 34 (.sls (.t 32) (some (.t 33)) none),zi 35 (zk 184 [zI 34]),zv 36 (.bin .add .no (.t 31) (.t 35)),zm 3 36]
def qbm9:IC:=(.seq (.seq qbms (.cond (.t 11) .skip (.exit 0))) (.block 1 (.seq qbvs (.seq qb8i (.seq (.seq qb84 (.cond (.t 25) .ret .skip)) (.seq qbrw qb8w))))))
def k0ec:IC:=(.seq qbsd (.block 0 (.loop qbm9)))
@[go_sem] def s0ec:zzR:=[]
theorem c0ec:cFun Tryz.prog 183=some (37,k0ec,s0ec):=by kernel_rfl

def qbpm:IC:=zr [zzj 2 0]
def qb7w:IC:=zr [zzj 3 0]
def qbw8:IC:=zr [zm 5 0,zm 6 3,zv 7 (.sls (.t 5) (some (.t 6)) none),zi 8 (zk 221 [zI 7,((.c (.fn 222 [] [])),.id)]),zm 4 8]
def qbrn:IC:=zr [zm 9 0,zm 10 3,zm 11 4,zv 12 (.bin .add .no (.t 10) (.t 11)),zv 13 (.sls (.t 9) (some (.t 12)) none),zi 14 (zk 205 [zI 13,((.c (.str [45,45])),.id)])]
def qccx:IC:=zr [zm 15 4,zm 16 0,zm 17 3,zm 18 4,zv 19 (.bin .add .no (.t 17) (.t 18)),zv 20 (.sls (.t 16) (some (.t 19)) none),zi 21 (zk 221 [zI 20,((.c (.fn 223 [] [])),.id)]),zv 22 (.bin .add .no (.t 15) (.t 21)),zm 4 22]
def qbtb:IC:=zr [zm 23 4,zv 24 (zq (.t 23) (zc 0))]
def qb07:IC:=zr [zm 25 3,zm 2 25]
def qb93:IC:=zr [zm 26 3,zm 27 4,zv 28 (.bin .add .no (.t 26) (.t 27)),zm 3 28]
def qbql:IC:=(.block 1 (.seq qbw8 (.seq (.seq qbrn (.cond (.t 14) qccx .skip)) (.seq (.seq qbtb (.cond (.t 24) (.seq qb07 .ret) .skip)) qb93))))
def k0bn:IC:=(.seq qbpm (.seq qb7w (.block 0 (.loop qbql))))
@[go_sem] def s0bn:zzR:=[(.t 2,.id)]
theorem c0bn:cFun Tryz.prog 184=some (29,k0bn,s0bn):=by kernel_rfl

def qb8b:IC:=zr [zi 2 zaT,zzj 3 0]
def qbt8:IC:=zr [zm 9 0,zv 10 (.idx (.t 9) (zc 0)),zm 4 10]
def qbwv:IC:=zr [zm 12 4,zi 13 (zk 224 [zI 12]),zm 11 13]
def qb28:IC:=zr [zm 14 0,zm 15 0,zi 16 (zk 221 [zI 15,((.c (.fn 224 [] [])),.id)]),zv 17 (.sls (.t 14) none (some (.t 16))),zm 5 17]
def qbpn:IC:=zr [zm 19 5,zi 20 (zk 206 [zI 19]),zm 18 20,zzt 21 18 0,zzt 22 18 1,zm 6 21,zm 7 22]
def qbmq:IC:=zr [zm 23 6,zm 24 5,zv 25 (.bld [(.int .i64 0),(.int .i64 0),(.int .i64 0),(.str [])] [(0,1,(zc 3)),(2,1,(.t 23)),(3,1,(.t 24))]),zm 26 7,zn (.st 4 .id (.t 2) (.t 25)),zm 3 26]
def qbxr:IC:=zr [zm 28 4,zi 29 (zk 225 [zI 28]),zm 30 29,zw 30 true 31 (zo 4),zw 30 true 32 (.bin .neq .no (.t 31) (.c (.int .u8 39))),zzh 33 30 32,zm 27 33]
def qbzv:IC:=zr [zm 34 0,zm 35 0,zi 36 (zk 221 [zI 35,((.c (.fn 225 [] [])),.id)]),zv 37 (.sls (.t 34) none (some (.t 36))),zi 38 (zk 226 [zI 37]),zn (.st 4 .id (.t 2) (.t 38)),zzj 3 0]
def qbu4:IC:=zr [zm 39 0,zi 40 (zk 227 [zI 39]),zm 8 40]
def qbvo:IC:=zr [zm 41 8,zv 42 (zq (.t 41) (zc 0))]
def qbdk:IC:=zr [zv 43 (.bld [(.int .i64 0),(.int .i64 0),(.int .i64 0),(.str [])] []),zn (.st 4 .id (.t 2) (.t 43)),zzj 3 3]
def qbkm:IC:=zr [zm 44 0,zm 45 8,zv 46 (.sls (.t 44) none (some (.t 45))),zv 47 (.bld [(.int .i64 0),(.int .i64 0),(.int .i64 0),(.str [])] [(0,1,(zc 5)),(3,1,(.t 46))]),zn (.st 4 .id (.t 2) (.t 47)),zzj 3 0]
def k0ef:IC:=(.seq qb8b (.seq (.seq qbt8 (.block 0 (.seq qbwv (.cond (.t 11) (.seq qb28 (.seq qbpn (.seq qbmq .ret))) (.seq qbxr (.cond (.t 27) (.seq qbzv .ret) .skip)))))) (.seq qbu4 (.seq (.seq qbvo (.cond (.t 42) (.seq qbdk .ret) .skip)) (.seq qbkm .ret)))))
@[go_sem] def s0ef:zzR:=[(.c true 4 2,.id),(.t 3,.id)]
theorem c0ef:cFun Tryz.prog 185=some (48,k0ef,s0ef):=by kernel_rfl

def qbnv:IC:=zr [zv 2 zf]
def qbq5:IC:=zr [zm 3 0,zv 4 (.bin .eql .ptr (.t 3) (.c .nilp)),zm 5 4,zw 5 false 6 (zo 0),zw 5 false 7 (.nck (.t 6)),zw 5 false 8 (zd 7 7),zw 5 false 9 (zg 1 8),zw 5 false 10 (.bin .neq .no (.t 9) (zc 0)),zzi 11 5 10,zm 2 11]
def k0dp:IC:=(.seq qbnv (.seq qbq5 .ret))
@[go_sem] def s0dp:zzR:=[(.t 2,.id)]
theorem c0dp:cFun Tryz.prog 186=some (12,k0dp,s0dp):=by kernel_rfl

def qbrc:IC:=zr [zv 4 zf]
def qbvz:IC:=zr [zm 5 0,zi 6 (zk 186 [zI 5]),zv 7 (.un .not (.t 6))]
def qbr2:IC:=zr [zm 8 1,zv 9 (zq (.t 8) (zc 0))]
def qbs2:IC:=zr [zzj 1 1]
def qb4i:IC:=zr [zm 10 0,zm 11 0,zi 12 (zk 136 [zI 11]),zv 13 (.fld false 1 1 (.t 12)),zv 14 (.nck (.t 10)),zzp 15 14 8,zn (.st 1 .id (.t 15) (.t 13))]
def qbux:IC:=zr [zm 16 0,zm 17 1,zv 18 (.nck (.t 16)),zzp 19 18 7,zn (.st 1 .id (.t 19) (.t 17))]
def qb24:IC:=zr [zv 4 zf]
def k0du:IC:=(.seq qbrc (.seq (.seq qbvz (.cond (.t 7) (.seq (.seq qbr2 (.cond (.t 9) qbs2 .skip)) (.seq qb4i qbux)) .skip)) (.seq qb24 .ret)))
@[go_sem] def s0du:zzR:=[(.t 4,.id)]
theorem c0du:cFun Tryz.prog 187=some (20,k0du,s0du):=by kernel_rfl

def qcbx:IC:=zr [zi 2 zaN,zv 3 zf]
def qb2d:IC:=zr [zm 6 0,zi 7 (zk 136 [zI 6]),zi 4 zaT,zn (.st 4 .id (.t 4) (.t 7))]
def qb6a:IC:=zr [zzp 8 4 1,zzr 9 1 8,zzp 10 4 3,zzr 11 1 10,zv 12 (.bld [(.int .i64 0),(.int .i64 0),(.int .i64 0),(.str []),.nils] [(1,1,(.t 9)),(3,1,(.t 11))]),zi 5 zaN,zn (.st 5 zN (.t 5) (.t 12))]
def qbxj:IC:=zr [zzp 15 4 0,zzr 16 1 15,zv 17 (zq (.t 16) (zc 1)),zm 14 17]
def qb6c:IC:=zr [zzp 18 5 0,zn (.st 1 .id (.t 18) (zc 11))]
def qb6v:IC:=zr [zzp 20 4 0,zzr 21 1 20,zv 22 (zq (.t 21) (zc 2)),zm 19 22]
def qb16:IC:=zr [zzp 23 5 0,zn (.st 1 .id (.t 23) (zc 14))]
def qbnk:IC:=zr [zzp 25 4 0,zzr 26 1 25,zv 27 (zq (.t 26) (zc 3)),zm 24 27]
def qcb8:IC:=.drw [zp (zzp 28 4 2),zp (zzr 29 1 28),zp (zzp 30 5 0),(zn (.st 1 .id (.t 30) (zc 13)),[1]),zp (zzp 31 5 2),(zn (.st 1 .id (.t 31) (.t 29)),[]),zp (zzp 32 5 3),(zn (.st 1 .id (.t 32) (.c (.str []))),[])]
def qcao:IC:=zr [zm 34 0,zi 35 (zk 190 [zI 34,((.c (.str [95])),.id)]),zm 33 35]
def qbgt:IC:=zr [zzp 36 5 0,zn (.st 1 .id (.t 36) (zc 12)),zzp 37 5 3,zn (.st 1 .id (.t 37) (.c (.str [])))]
def qbi6:IC:=zr [zv 13 (.bld [(.int .i64 0),(.int .i64 0),(.int .i64 0),(.str []),.nils] []),zn (.st 5 zN (.t 2) (.t 13)),zv 3 zf]
def qbk1:IC:=zr [zzq 38 5 5,zn (.st 5 zN (.t 2) (.t 38)),zzk 3]
def k0dk:IC:=(.seq qcbx (.seq qb2d (.seq qb6a (.seq (.block 0 (.seq qbxj (.cond (.t 14) qb6c (.seq qb6v (.cond (.t 19) qb16 (.seq qbnk (.cond (.t 24) qcb8 (.seq qcao (.cond (.t 33) qbgt (.seq qbi6 .ret)))))))))) (.seq qbk1 .ret)))))
@[go_sem] def s0dk:zzR:=[(.c true 5 2,zN),(.t 3,.id)]
theorem c0dk:cFun Tryz.prog 188=some (39,k0dk,s0dk):=by kernel_rfl

def qb0a:IC:=zr [zi 2 zaT]
def qb72:IC:=zr [zm 4 0,zi 5 (zk 136 [zI 4]),zi 3 zaT,zn (.st 4 .id (.t 3) (.t 5))]
def qbug:IC:=.drw [zzu 6 0,(zi 7 (zk 186 [zI 6]),[]),zp (zv 8 (.un .not (.t 7))),zzu 9 8,zp (zw 9 true 10 (zo 0)),zp (zw 9 true 11 (.nck (.t 10))),zp (zw 9 true 12 (zd 11 5)),zp (zw 9 true 13 (zg 1 12)),zp (zw 9 true 14 (zo 0)),zp (zw 9 true 15 (.nck (.t 14))),zp (zw 9 true 16 (zd 15 0)),zp (zw 9 true 17 (zg 1 16)),zp (zw 9 true 18 (.len false (.t 17))),zp (zw 9 true 19 (.bin .lss .no (.t 13) (.t 18))),zp (zzh 20 9 19)]
def qbxx:IC:=zr [zm 21 0,zv 22 (.nck (.t 21)),zzp 23 22 5,zzr 24 1 23,zzl 25 24 1,zv 26 (.nck (.t 21)),zzp 27 26 5,zn (.st 1 .id (.t 27) (.t 25))]
def qb8q:IC:=zr [zzq 28 4 3,zn (.st 4 .id (.t 2) (.t 28))]
def k0ds:IC:=(.seq qb0a (.seq qb72 (.seq (.seq qbug (.cond (.t 20) qbxx .skip)) (.seq qb8q .ret))))
@[go_sem] def s0ds:zzR:=[(.c true 4 2,.id)]
theorem c0ds:cFun Tryz.prog 189=some (29,k0ds,s0ds):=by kernel_rfl

def qbmu:IC:=zr [zv 4 zf]
def qbx1:IC:=zr [zm 5 0,zi 6 (zk 186 [zI 5]),zv 7 (.un .not (.t 6)),zm 8 7,zw 8 true 9 (zo 0),zj 8 true 10 (zk 136 [zI 9]),zw 8 true 11 (zo 1),zw 8 true 12 (.bsl 1 [zI 11]),zj 8 true 13 (zk 228 [zI 10,((.t 12),(.sl 1))]),zzh 14 8 13,zm 4 14]
def k0dt:IC:=(.seq qbmu (.seq qbx1 .ret))
@[go_sem] def s0dt:zzR:=[(.t 4,.id)]
theorem c0dt:cFun Tryz.prog 190=some (15,k0dt,s0dt):=by kernel_rfl

def qbqj:IC:=zr [zv 4 zf]
def qb6f:IC:=zr [zm 5 0,zm 6 1,zi 7 (zk 229 [zI 5,zI 6]),zm 8 7,zw 8 false 9 (zo 0),zj 8 false 10 (zk 187 [zI 9,((zc 5),.id)]),zzi 11 8 10,zm 4 11]
def k0dw:IC:=(.seq qbqj (.seq qb6f .ret))
@[go_sem] def s0dw:zzR:=[(.t 4,.id)]
theorem c0dw:cFun Tryz.prog 191=some (12,k0dw,s0dw):=by kernel_rfl

def qb1h:IC:=zr [zzq 4 5 1,zzr 5 1 2,zm 6 0,zi 7 (zk 193 [zA 4,zI 5,zI 6])]
def k0en:IC:=qb1h
@[go_sem] def s0en:zzR:=[]
theorem c0en:cFun Tryz.prog 192=some (8,k0en,s0en):=by kernel_rfl

def qbs4:IC:=zr [zzn 3 0,zv 6 zf]
def qb98:IC:=zr [zm 9 2,zm 10 1,zzq 11 5 3,zi 12 (.call (.t 9) [zI 10,zA 11]),zv 13 (.un .not (.t 12))]
def qb7s:IC:=zr [zv 6 zf]
def qb5d:IC:=zr [zzp 14 3 4,zzr 15 1 14,zzo 16 15,zzj 17 0]
def qb9y:IC:=zr [zzm 18 17 16]
def qbwp:IC:=zr [zzs 19 5 15 17,zzq 20 5 19,zi 8 zaN,zn (.st 5 zN (.t 8) (.t 20))]
def qbvq:IC:=zr [zzq 21 5 8,zm 22 1,zzl 23 22 1,zm 24 2,zi 25 (zk 193 [zA 21,zI 23,zI 24]),zv 26 (.un .not (.t 25))]
def qbvp:IC:=zr [zv 6 zf]
def qbva:IC:=zr [zzl 27 17 1,zm 17 27]
def qb1m:IC:=(.seq qb9y (.seq (.cond (.t 18) .skip (.exit 0)) (.seq (.block 1 (.seq qbwp (.seq qbvq (.cond (.t 26) (.seq qbvp .ret) .skip)))) qbva)))
def qbkn:IC:=zr [zzk 6]
def k0em:IC:=(.seq qbs4 (.seq (.seq qb98 (.cond (.t 13) (.seq qb7s .ret) .skip)) (.seq (.seq qb5d (.block 0 (.loop qb1m))) (.seq qbkn .ret))))
@[go_sem] def s0em:zzR:=[(.t 6,.id)]
theorem c0em:cFun Tryz.prog 193=some (28,k0em,s0em):=by kernel_rfl

def qb7o:IC:=zr [zzj 4 0]
def qb05:IC:=zr [zm 6 0,zzo 7 6,zzj 8 0]
def qb9r:IC:=zr [zzm 9 8 7]
def qbvb:IC:=zr [zm 10 8,zm 5 10]
def qb0q:IC:=zr [zm 11 1,zm 12 0,zm 13 5,zzs 14 1 12 13,zzr 15 1 14,zv 16 (zq (.t 11) (.t 15))]
def qbsw:IC:=zr [zm 17 5,zm 4 17]
def qbvw:IC:=zr [zzl 18 8 1,zm 8 18]
def qbp2:IC:=(.seq qb9r (.seq (.cond (.t 9) .skip (.exit 0)) (.seq (.block 1 (.seq qbvb (.seq qb0q (.cond (.t 16) (.seq qbsw .ret) .skip)))) qbvw)))
def qbpp:IC:=zr [zv 4 (.mov (zc (-1)))]
def k0fn:IC:=(.seq qb7o (.seq (.seq qb05 (.block 0 (.loop qbp2))) (.seq qbpp .ret)))
@[go_sem] def s0fn:zzR:=[(.t 4,.id)]
theorem c0fn:cFun Tryz.prog 194=some (19,k0fn,s0fn):=by kernel_rfl

def qchd:IC:=zr [zzn 3 0,zv 5 zf]
def qchc:IC:=zr [zzp 6 3 0,zzr 7 1 6,zv 8 (zq (.t 7) (.c (.str []))),zm 9 8,zw 9 true 10 (zg 1 2),zw 9 true 11 (zd 3 1),zw 9 true 12 (zg 1 11),zj 9 true 13 (zk 144 [((.t 10),(.sl 1)),zI 12]),zw 9 true 14 (.un .not (.t 13)),zzh 15 9 14]
def qcjc:IC:=zr [zzr 16 1 2,zzp 17 3 1,zzr 18 1 17,zv 19 (.bsl 1 [zI 18]),zi 20 (.app 1 (.int .i64 0) 8 (.sl 1) (.t 16) (.t 19)),zn (.st 1 (.sl 1) (.t 2) (.t 20))]
def qce5:IC:=zr [zzk 5]
def k0z:IC:=(.seq qchd (.seq (.seq qchc (.cond (.t 15) qcjc .skip)) (.seq qce5 .ret)))
@[go_sem] def s0z:zzR:=[(.t 5,.id)]
theorem c0z:cFun Tryz.prog 195=some (21,k0z,s0z):=by kernel_rfl

def qbum:IC:=zr [zv 2 zf]
def qbmz:IC:=zr [zm 3 0,zv 4 (.bin .geq .no (.t 3) (.c (.int .u8 97))),zm 5 4,zw 5 true 6 (zo 0),zw 5 true 7 (.bin .leq .no (.t 6) (.c (.int .u8 122))),zzh 8 5 7,zm 9 8,zw 9 false 10 (zo 0),zw 9 false 11 (zq (.t 10) (.c (.int .u8 95))),zzi 12 9 11,zm 2 12]
def k0bq:IC:=(.seq qbum (.seq qbmz .ret))
@[go_sem] def s0bq:zzR:=[(.t 2,.id)]
theorem c0bq:cFun Tryz.prog 196=some (13,k0bq,s0bq):=by kernel_rfl

def qbvc:IC:=zr [zv 2 zf]
def qbmr:IC:=zr [zm 5 0,zv 6 (.len true (.t 5)),zzj 7 0]
def qb0p:IC:=zr [zzm 8 7 6]
def qb0x:IC:=zr [zm 9 7,zm 3 9]
def qbn1:IC:=zr [zm 10 0,zm 11 3,zv 12 (.idx (.t 10) (.t 11)),zm 4 12]
def qbxo:IC:=zr [zm 13 4,zi 14 (zk 196 [zI 13]),zv 15 (.un .not (.t 14)),zm 16 15,zw 16 true 17 (zo 4),zj 16 true 18 (zk 199 [zI 17]),zw 16 true 19 (.un .not (.t 18)),zzh 20 16 19,zm 21 20,zw 21 true 22 (zo 4),zw 21 true 23 (.bin .lss .no (.t 22) (.c (.int .u8 48))),zw 21 true 24 (zo 23),zw 24 false 25 (zo 4),zw 24 false 26 (.bin .gtr .no (.t 25) (.c (.int .u8 57))),zw 21 true 27 (.pick (.t 24) (.c (.bool true)) (.t 26)),zzh 28 21 27,zm 29 28,zw 29 true 30 (zo 4),zw 29 true 31 (.bin .neq .no (.t 30) (.c (.int .u8 39))),zzh 32 29 31]
def qbqt:IC:=zr [zv 2 zf]
def qbv9:IC:=zr [zzl 33 7 1,zm 7 33]
def qcar:IC:=(.seq qb0p (.seq (.cond (.t 8) .skip (.exit 0)) (.seq (.block 1 (.seq qb0x (.seq qbn1 (.seq qbxo (.cond (.t 32) (.seq qbqt .ret) .skip))))) qbv9)))
def qbcl:IC:=zr [zzk 2]
def k0bs:IC:=(.seq qbvc (.seq (.seq qbmr (.block 0 (.loop qcar))) (.seq qbcl .ret)))
@[go_sem] def s0bs:zzR:=[(.t 2,.id)]
theorem c0bs:cFun Tryz.prog 197=some (34,k0bs,s0bs):=by kernel_rfl

def qca5:IC:=zr [zv 2 zf]
def qbo2:IC:=zr [zv 3 zf]
def qbn7:IC:=zr [zv 6 (.bld [(.str []),(.str []),(.str []),(.str []),(.str []),(.str []),(.str []),(.str []),(.str []),(.str []),(.str [])] [(0,1,(.c (.str [100,97,116,97]))),(1,1,(.c (.str [99,108,97,115,115]))),(2,1,(.c (.str [105,110,115,116,97,110,99,101]))),(3,1,(.c (.str [119,104,101,114,101]))),(4,1,(.c (.str [108,101,116]))),(5,1,(.c (.str [105,110]))),(6,1,(.c (.str [99,97,115,101]))),(7,1,(.c (.str [111,102]))),(8,1,(.c (.str [105,102]))),(9,1,(.c (.str [116,104,101,110]))),(10,1,(.c (.str [101,108,115,101])))]),zzj 7 0]
def qbnl:IC:=zr [zv 8 (.bin .lss .no (.t 7) (zc 11))]
def qbq1:IC:=zr [zv 9 (.ida false 1 11 (.t 6) (.t 7)),zm 5 9]
def qb1b:IC:=zr [zm 10 5,zm 11 0,zv 12 (.bin .neq .no (.t 10) (.t 11))]
def qbt6:IC:=zr [zzk 3]
def qb5k:IC:=zr [zzl 13 7 1,zm 7 13]
def qbuj:IC:=(.seq qbnl (.seq (.cond (.t 8) .skip (.exit 0)) (.seq (.block 1 (.seq qbq1 (.seq (.seq qb1b (.cond (.t 12) (.exit 1) .skip)) (.seq qbt6 (.exit 0))))) qb5k)))
def qbj7:IC:=zr [zm 14 3,zm 2 14]
def k0bt:IC:=(.seq qca5 (.scope (.seq qbo2 (.seq (.label 0) (.seq (.seq qbn7 (.block 0 (.loop qbuj))) (.seq qbj7 .ret))))))
@[go_sem] def s0bt:zzR:=[(.t 2,.id)]
theorem c0bt:cFun Tryz.prog 198=some (15,k0bt,s0bt):=by kernel_rfl

def qb9z:IC:=zr [zv 2 zf]
def qb54:IC:=zr [zm 3 0,zv 4 (.bin .geq .no (.t 3) (.c (.int .u8 65))),zm 5 4,zw 5 true 6 (zo 0),zw 5 true 7 (.bin .leq .no (.t 6) (.c (.int .u8 90))),zzh 8 5 7,zm 2 8]
def k0br:IC:=(.seq qb9z (.seq qb54 .ret))
@[go_sem] def s0br:zzR:=[(.t 2,.id)]
theorem c0br:cFun Tryz.prog 199=some (9,k0br,s0br):=by kernel_rfl

def qci7:IC:=zr [zi 4 zzv,zzj 5 0,zv 6 zf]
def qcdy:IC:=zr [zm 11 0,zzo 12 11,zzj 13 0]
def qcd9:IC:=zr [zzm 14 13 12]
def qceb:IC:=zr [zzs 15 3 11 13,zzq 16 3 15,zi 8 zzv,zn (.st 3 (.agg [.id,.id,(.sl 2)]) (.t 8) (.t 16))]
def qcfk:IC:=zr [zzp 17 8 2,zzr 18 1 17,zzo 19 18,zzj 20 0]
def qcjh:IC:=zr [zzm 21 20 19]
def qcf0:IC:=zr [zm 22 20,zzs 23 2 18 20,zzq 24 2 23,zi 10 (.alo [(.str []),.nils]),zm 9 22,zn (.st 2 (.agg [.id,(.sl 3)]) (.t 10) (.t 24))]
def qcgy:IC:=zr [zzp 25 10 0,zzr 26 1 25,zm 27 1,zv 28 (zq (.t 26) (.t 27))]
def qb6q:IC:=zr [zzq 29 3 8,zm 30 9,zn (.st 3 (.agg [.id,.id,(.sl 2)]) (.t 4) (.t 29)),zm 5 30,zzk 6]
def qb6o:IC:=zr [zzl 31 20 1,zm 20 31]
def qcji:IC:=(.seq qcjh (.seq (.cond (.t 21) .skip (.exit 2)) (.seq (.block 3 (.seq qcf0 (.seq qcgy (.cond (.t 28) (.seq qb6q .ret) .skip)))) qb6o)))
def qbyc:IC:=zr [zzl 32 13 1,zm 13 32]
def qci8:IC:=(.seq qcd9 (.seq (.cond (.t 14) .skip (.exit 0)) (.seq (.block 1 (.seq qceb (.seq qcfk (.block 2 (.loop qcji))))) qbyc)))
def qbz0:IC:=zr [zv 33 (.bld [(.str []),(.int .i64 0),.nils] []),zn (.st 3 (.agg [.id,.id,(.sl 2)]) (.t 4) (.t 33)),zzj 5 0,zv 6 zf]
def k0e:IC:=(.seq qci7 (.seq (.seq qcdy (.block 0 (.loop qci8))) (.seq qbz0 .ret)))
@[go_sem] def s0e:zzR:=[(.c true 3 4,(.agg [.id,.id,(.sl 2)])),(.t 5,.id),(.t 6,.id)]
theorem c0e:cFun Tryz.prog 200=some (34,k0e,s0e):=by kernel_rfl

def qcd4:IC:=zr [zzn 3 1,zi 4 zzv]
def qcgl:IC:=zr [zm 7 0,zi 8 (zk 230 [((.t 7),(.sl 3))])]
def qced:IC:=zr [zzq 11 3 6,zzq 12 3 3,zv 13 (.bsl 3 [zze 11,zze 12]),zv 14 (.bld [(.str []),(.int .i64 0),.nils] [(0,1,(.c (.str [45,62]))),(2,1,(.t 13))]),zn (.st 3 zza (.t 3) (.t 14))]
def qbl8:IC:=(.block 1 qced)
def qbli:IC:=zr [zi 6 zzv,zn (.st 3 zza (.t 6) (.t 10))]
def qciv:IC:=zr [zzq 15 3 3,zn (.st 3 zza (.t 4) (.t 15))]
def k0n:IC:=(.seq qcd4 (.seq (.seq qcgl (.block 0 (.rng (.t 8) [9,10] qbli qbl8))) (.seq qciv .ret)))
@[go_sem] def s0n:zzR:=[(.c true 3 4,zza)]
theorem c0n:cFun Tryz.prog 201=some (16,k0n,s0n):=by kernel_rfl

def qckq:IC:=zr [zi 4 zzv]
def qcfj:IC:=zr [zm 8 0,zv 9 (.bld [(.str []),(.int .i64 0),.nils] [(0,1,(.t 8))]),zi 5 zzv,zn (.st 3 zza (.t 5) (.t 9))]
def qciw:IC:=zr [zm 10 1,zi 11 (zk 203 [((zc 0),.id),zI 10]),zzo 12 11,zzj 13 0]
def qcfg:IC:=zr [zzm 14 13 12]
def qciy:IC:=zr [zzs 15 1 11 13,zzr 16 1 15,zm 7 16]
def qcg3:IC:=zr [zzp 17 5 2,zzr 18 1 17,zm 19 7,zv 20 (.bld [(.str []),(.int .i64 0),.nils] [(1,1,(.t 19))]),zv 21 (.bsl 3 [zze 20]),zi 22 (.app 3 (.agg [(.str []),(.int .i64 0),.nils]) 48 (.sl 3) (.t 18) (.t 21)),zzp 23 5 2,zn (.st 1 (.sl 3) (.t 23) (.t 22))]
def qcjq:IC:=zr [zzl 24 13 1,zm 13 24]
def qciu:IC:=(.seq qcfg (.seq (.cond (.t 14) .skip (.exit 0)) (.seq (.block 1 (.seq qciy qcg3)) qcjq)))
def qcf3:IC:=zr [zzq 25 3 5,zn (.st 3 zza (.t 4) (.t 25))]
def k0g:IC:=(.seq qckq (.seq qcfj (.seq (.seq qciw (.block 0 (.loop qciu))) (.seq qcf3 .ret))))
@[go_sem] def s0g:zzR:=[(.c true 3 4,zza)]
theorem c0g:cFun Tryz.prog 202=some (26,k0g,s0g):=by kernel_rfl

def qcfx:IC:=zr [zv 4 (.mov (.c .nils))]
def qcgp:IC:=zr [zv 5 (.mov (.c .nils))]
def qche:IC:=zr [zm 7 1,zv 8 (.mm true (.t 7) (zc 0)),zzj 9 0]
def qciz:IC:=zr [zzm 10 9 8]
def qcka:IC:=zr [zm 11 9,zm 6 11]
def qcg2:IC:=zr [zm 12 5,zm 13 0,zm 14 6,zv 15 (.bin .add .no (.t 13) (.t 14)),zv 16 (.bsl 1 [zI 15]),zi 17 (.app 1 (.int .i64 0) 8 (.sl 1) (.t 12) (.t 16)),zm 5 17]
def qckv:IC:=zr [zzl 18 9 1,zm 9 18]
def qcjd:IC:=(.seq qciz (.seq (.cond (.t 10) .skip (.exit 0)) (.seq (.block 1 (.seq qcka qcg2)) qckv)))
def qchl:IC:=zr [zm 19 5,zm 4 19]
def k0f:IC:=(.seq qcfx (.seq qcgp (.seq (.seq qche (.block 0 (.loop qcjd))) (.seq qchl .ret))))
@[go_sem] def s0f:zzR:=[(.t 4,(.sl 1))]
theorem c0f:cFun Tryz.prog 203=some (20,k0f,s0f):=by kernel_rfl

def qcfd:IC:=zr [zzn 1 0,zi 2 zzv]
def qcd5:IC:=zr [zzq 3 3 1,zi 4 (zk 83 [zze 3,((.c .nils),(.sl 1)),((.c .nils),(.sl 3))]),zn (.st 3 zza (.t 2) (.t 4))]
def k0h:IC:=(.seq qcfd (.seq qcd5 .ret))
@[go_sem] def s0h:zzR:=[(.c true 3 2,zza)]
theorem c0h:cFun Tryz.prog 204=some (5,k0h,s0h):=by kernel_rfl

def qbmh:IC:=zr [zv 4 zf]
def qbu6:IC:=zr [zm 5 0,zm 6 1,zi 7 (zk 231 [zI 5,zI 6]),zm 4 7]
def k0bm:IC:=(.seq qbmh (.seq qbu6 .ret))
@[go_sem] def s0bm:zzR:=[(.t 4,.id)]
theorem c0bm:cFun Tryz.prog 205=some (8,k0bm,s0bm):=by kernel_rfl

def qb99:IC:=zr [zzj 2 0,zzj 3 0]
def qbz8:IC:=zr [zm 8 0,zv 9 (.len true (.t 8)),zzj 10 0]
def qb0f:IC:=zr [zzm 11 10 9]
def qbna:IC:=zr [zm 12 10,zm 4 12]
def qbwf:IC:=zr [zm 13 0,zm 14 4,zv 15 (.idx (.t 13) (.t 14)),zv 16 (.bin .lss .no (.t 15) (.c (.int .u8 48))),zm 17 16,zw 17 false 18 (zo 0),zw 17 false 19 (zo 4),zw 17 false 20 (.idx (.t 18) (.t 19)),zw 17 false 21 (.bin .gtr .no (.t 20) (.c (.int .u8 57))),zzi 22 17 21]
def qbya:IC:=zr [zzj 2 0,zzj 3 5]
def qb2e:IC:=zr [zzl 23 10 1,zm 10 23]
def qb5t:IC:=(.seq qb0f (.seq (.cond (.t 11) .skip (.exit 0)) (.seq (.block 1 (.seq qbna (.seq qbwf (.cond (.t 22) (.seq qbya .ret) .skip)))) qb2e)))
def qb29:IC:=zr [zm 24 0,zv 25 (zq (.t 24) (.c (.str [])))]
def qbgr:IC:=zr [zzj 2 0,zzj 3 5]
def qbda:IC:=zr [zzj 5 0,zzj 6 0]
def qbfe:IC:=zr [zm 26 0,zm 27 6,zv 28 (.idx (.t 26) (.t 27)),zv 29 (.bin .sub .no (.t 28) (.c (.int .u8 48))),zv 30 (.cvi .i64 (.t 29)),zm 7 30]
def qbcv:IC:=zr [zm 31 5,zm 32 7,zv 33 (.bin .sub .no (zc 9223372036854775807) (.t 32)),zv 34 (.bin .quo .no (.t 33) (zc 10)),zv 35 (.bin .gtr .no (.t 31) (.t 34))]
def qbc6:IC:=zr [zzj 2 0,zzj 3 4]
def qbgc:IC:=zr [zm 36 5,zv 37 (.bin .mul .no (zc 10) (.t 36)),zm 38 7,zv 39 (.bin .add .no (.t 37) (.t 38)),zm 5 39]
def qbg4:IC:=zr [zm 40 6,zzl 41 40 1,zm 6 41]
def qbg2:IC:=zr [zm 42 6,zm 43 0,zv 44 (.len true (.t 43)),zzm 45 42 44]
def qbf1:IC:=zr [zm 46 5,zm 2 46,zzj 3 0]
def k0bp:IC:=(.seq qb99 (.scope (.seq (.seq qbz8 (.block 0 (.loop qb5t))) (.seq (.seq qb29 (.cond (.t 25) (.seq qbgr .ret) .skip)) (.seq qbda (.seq (.label 0) (.seq qbfe (.seq (.seq qbcv (.cond (.t 35) (.seq qbc6 .ret) .skip)) (.seq qbgc (.seq (.seq qbg4 (.seq qbg2 (.cond (.t 45) (.goto 0) .skip))) (.seq qbf1 .ret)))))))))))
@[go_sem] def s0bp:zzR:=[(.t 2,.id),(.t 3,.id)]
theorem c0bp:cFun Tryz.prog 206=some (47,k0bp,s0bp):=by kernel_rfl

def qb6n:IC:=zr [zzn 5 2,zv 6 (.mov (.c .nilp)),zzj 7 0]
def qb7k:IC:=zr [zzp 9 5 0,zzr 10 1 9,zv 11 (zq (.t 10) (.c (.str []))),zm 12 11,zw 12 true 13 (zd 5 1),zw 12 true 14 (zg 1 13),zw 12 true 15 (zo 1),zw 12 true 16 (zq (.t 14) (.t 15)),zzh 17 12 16,zm 8 17]
def qbzo:IC:=zr [zm 18 0,zm 6 18,zzj 7 0]
def qbtk:IC:=zr [zzq 20 3 5,zm 21 1,zi 22 (zk 233 [zze 20,zI 21]),zm 19 22]
def qca3:IC:=zr [zv 6 (.mov (.c .nilp)),zzj 7 15]
def qbo0:IC:=zr [zm 23 0,zm 24 1,zzq 25 3 5,zv 26 (.bld [(.int .i64 0),(.str []),(.int .i64 0),.nils] [(0,1,(.t 24)),(1,3,(.t 25))]),zv 27 (.bsl 4 [((.t 26),zzd)]),zi 28 (zk 39 [((.t 27),(.sl 4))]),zi 29 (zk 71 [zI 23,zI 28]),zzt 30 29 0,zzt 31 29 1,zm 6 30,zm 7 31]
def k0fi:IC:=(.seq qb6n (.seq (.block 0 (.seq qb7k (.cond (.t 8) (.seq qbzo .ret) (.seq qbtk (.cond (.t 19) (.seq qca3 .ret) .skip))))) (.seq qbo0 .ret)))
@[go_sem] def s0fi:zzR:=[(.t 6,.id),(.t 7,.id)]
theorem c0fi:cFun Tryz.prog 209=some (32,k0fi,s0fi):=by kernel_rfl

def qcax:IC:=zr [zv 4 (.mov (.c .nils))]
def qbp9:IC:=zr [zm 7 0,zzo 8 7,zi 9 (.mks 6 (.agg [(.str []),(.int .i64 0),.nils,(.str []),(.int .i64 0),.nils]) 96 (.t 8) (.t 8)),zm 5 9]
def qcbk:IC:=zr [zm 10 0,zzo 11 10,zzj 12 0]
def qbr8:IC:=zr [zzm 13 12 11]
def qcco:IC:=zr [zm 14 12,zm 6 14]
def qbwq:IC:=.drw [zzu 15 5,zzu 16 6,zzu 17 0,zzu 18 6,zp (zzs 19 3 17 18),zp (zzq 20 3 19),zzu 21 1,zzu 22 6,zp (zzs 23 3 21 22),zp (zzq 24 3 23),(zv 25 (.bld [(.str []),(.int .i64 0),.nils,(.str []),(.int .i64 0),.nils] [(0,3,(.t 20)),(3,3,(.t 24))]),[]),zp (zzs 26 6 15 16),(zn (.st 6 (.agg [.id,.id,(.sl 3),.id,.id,(.sl 3)]) (.t 26) (.t 25)),[])]
def qb8n:IC:=zr [zzl 27 12 1,zm 12 27]
def qb5c:IC:=(.seq qbr8 (.seq (.cond (.t 13) .skip (.exit 0)) (.seq (.block 1 (.seq qcco qbwq)) qb8n)))
def qbxt:IC:=zr [zm 28 5,zm 4 28]
def k0fh:IC:=(.seq qcax (.seq qbp9 (.seq (.seq qcbk (.block 0 (.loop qb5c))) (.seq qbxt .ret))))
@[go_sem] def s0fh:zzR:=[(.t 4,(.sl 6))]
theorem c0fh:cFun Tryz.prog 210=some (29,k0fh,s0fh):=by kernel_rfl

def qbn5:IC:=zr [zv 4 (.mov (.c (.str []))),zv 5 zf]
def qbm5:IC:=zr [zm 6 0,zm 7 1,zi 8 (zk 240 [zI 6,zI 7]),zzt 9 8 0,zzt 10 8 1,zm 4 9,zm 5 10]
def k0cf:IC:=(.seq qbn5 (.seq qbm5 .ret))
@[go_sem] def s0cf:zzR:=[(.t 4,.id),(.t 5,.id)]
theorem c0cf:cFun Tryz.prog 218=some (11,k0cf,s0cf):=by kernel_rfl

def qbwb:IC:=zr [zv 4 (.mov (.c (.str []))),zv 5 zf]
def qbt1:IC:=zr [zm 6 0,zm 7 1,zi 8 (zk 241 [zI 6,zI 7]),zzt 9 8 0,zzt 10 8 1,zm 4 9,zm 5 10]
def k0ci:IC:=(.seq qbwb (.seq qbt1 .ret))
@[go_sem] def s0ci:zzR:=[(.t 4,.id),(.t 5,.id)]
theorem c0ci:cFun Tryz.prog 219=some (11,k0ci,s0ci):=by kernel_rfl

def qb36:IC:=zr [zzj 4 0]
def qb0b:IC:=zr [zm 6 0,zv 7 (.len true (.t 6)),zzj 8 0]
def qbyr:IC:=zr [zzm 9 8 7]
def qb9w:IC:=zr [zm 10 8,zm 5 10]
def qb6b:IC:=zr [zm 11 1,zm 12 0,zm 13 5,zv 14 (.idx (.t 12) (.t 13)),zi 15 (.call (.t 11) [zI 14]),zv 16 (.un .not (.t 15))]
def qb6w:IC:=zr [zm 17 5,zm 4 17]
def qcac:IC:=zr [zzl 18 8 1,zm 8 18]
def qbwj:IC:=(.seq qbyr (.seq (.cond (.t 9) .skip (.exit 0)) (.seq (.block 1 (.seq qb9w (.seq qb6b (.cond (.t 16) (.seq qb6w .ret) .skip)))) qcac)))
def qbwe:IC:=zr [zm 19 0,zv 20 (.len true (.t 19)),zm 4 20]
def k0bk:IC:=(.seq qb36 (.seq (.seq qb0b (.block 0 (.loop qbwj))) (.seq qbwe .ret)))
@[go_sem] def s0bk:zzR:=[(.t 4,.id)]
theorem c0bk:cFun Tryz.prog 221=some (21,k0bk,s0bk):=by kernel_rfl

def qbxs:IC:=zr [zv 2 zf]
def qca7:IC:=zr [zm 3 0,zv 4 (zq (.t 3) (.c (.int .u8 9))),zm 5 4,zw 5 false 6 (zo 0),zw 5 false 7 (zq (.t 6) (.c (.int .u8 10))),zzi 8 5 7,zm 9 8,zw 9 false 10 (zo 0),zw 9 false 11 (zq (.t 10) (.c (.int .u8 13))),zzi 12 9 11,zm 13 12,zw 13 false 14 (zo 0),zw 13 false 15 (zq (.t 14) (.c (.int .u8 32))),zzi 16 13 15,zm 2 16]
def k0bi:IC:=(.seq qbxs (.seq qca7 .ret))
@[go_sem] def s0bi:zzR:=[(.t 2,.id)]
theorem c0bi:cFun Tryz.prog 222=some (17,k0bi,s0bi):=by kernel_rfl

def qb2q:IC:=zr [zv 2 zf]
def qb25:IC:=zr [zm 3 0,zv 4 (.bin .neq .no (.t 3) (.c (.int .u8 10))),zm 2 4]
def k0bj:IC:=(.seq qb2q (.seq qb25 .ret))
@[go_sem] def s0bj:zzR:=[(.t 2,.id)]
theorem c0bj:cFun Tryz.prog 223=some (5,k0bj,s0bj):=by kernel_rfl

def qboa:IC:=zr [zv 2 zf]
def qbpx:IC:=zr [zm 3 0,zv 4 (.bin .geq .no (.t 3) (.c (.int .u8 48))),zm 5 4,zw 5 true 6 (zo 0),zw 5 true 7 (.bin .leq .no (.t 6) (.c (.int .u8 57))),zzh 8 5 7,zm 2 8]
def k0bg:IC:=(.seq qboa (.seq qbpx .ret))
@[go_sem] def s0bg:zzR:=[(.t 2,.id)]
theorem c0bg:cFun Tryz.prog 224=some (9,k0bg,s0bg):=by kernel_rfl

def qbxp:IC:=zr [zv 2 zf]
def qb83:IC:=zr [zm 3 0,zv 4 (.bin .geq .no (.t 3) (.c (.int .u8 97))),zm 5 4,zw 5 true 6 (zo 0),zw 5 true 7 (.bin .leq .no (.t 6) (.c (.int .u8 122))),zzh 8 5 7,zm 9 8,zw 9 false 10 (zo 0),zw 9 false 11 (.bin .geq .no (.t 10) (.c (.int .u8 65))),zw 9 false 12 (zo 11),zw 12 true 13 (zo 0),zw 12 true 14 (.bin .leq .no (.t 13) (.c (.int .u8 90))),zw 9 false 15 (.pick (.t 12) (.t 14) (.c (.bool false))),zzi 16 9 15,zm 17 16,zw 17 false 18 (zo 0),zw 17 false 19 (zq (.t 18) (.c (.int .u8 95))),zzi 20 17 19,zm 21 20,zw 21 false 22 (zo 0),zw 21 false 23 (zq (.t 22) (.c (.int .u8 39))),zzi 24 21 23,zm 25 24,zw 25 false 26 (zo 0),zj 25 false 27 (zk 224 [zI 26]),zzi 28 25 27,zm 2 28]
def k0bh:IC:=(.seq qbxp (.seq qb83 .ret))
@[go_sem] def s0bh:zzR:=[(.t 2,.id)]
theorem c0bh:cFun Tryz.prog 225=some (29,k0bh,s0bh):=by kernel_rfl

def qb12:IC:=zr [zi 2 zaT]
def qbmf:IC:=zr [zm 4 0,zv 5 (.bld [(.int .i64 0),(.int .i64 0),(.int .i64 0),(.str [])] [(0,1,(zc 1)),(3,1,(.t 4))]),zi 3 zaT,zn (.st 4 .id (.t 3) (.t 5))]
def qbx7:IC:=zr [zm 7 0,zv 8 (zq (.t 7) (.c (.str [95]))),zm 6 8]
def qbq9:IC:=zr [zzp 9 3 0,zn (.st 1 .id (.t 9) (zc 5))]
def qcck:IC:=zr [zm 11 0,zi 12 (zk 198 [zI 11]),zm 10 12]
def qb87:IC:=zr [zzp 13 3 0,zn (.st 1 .id (.t 13) (zc 4))]
def qb7f:IC:=zr [zm 15 0,zi 16 (zk 148 [zI 15]),zm 14 16]
def qb30:IC:=zr [zzp 17 3 0,zn (.st 1 .id (.t 17) (zc 2))]
def qb9n:IC:=zr [zzq 18 4 3,zn (.st 4 .id (.t 2) (.t 18))]
def k0ed:IC:=(.seq qb12 (.seq qbmf (.seq (.block 0 (.seq qbx7 (.cond (.t 6) qbq9 (.seq qcck (.cond (.t 10) qb87 (.seq qb7f (.cond (.t 14) qb30 .skip))))))) (.seq qb9n .ret))))
@[go_sem] def s0ed:zzR:=[(.c true 4 2,.id)]
theorem c0ed:cFun Tryz.prog 226=some (19,k0ed,s0ed):=by kernel_rfl

def qbp8:IC:=zr [zzj 2 0]
def qb9u:IC:=zr [zv 5 (.bld [(.str []),(.str []),(.str []),(.str []),(.str []),(.str []),(.str []),(.str []),(.str []),(.str []),(.str []),(.str [])] [(0,1,(.c (.str [45,62]))),(1,1,(.c (.str [61,62]))),(2,1,(.c (.str [58,58]))),(3,1,(.c (.str [40]))),(4,1,(.c (.str [41]))),(5,1,(.c (.str [123]))),(6,1,(.c (.str [125]))),(7,1,(.c (.str [59]))),(8,1,(.c (.str [44]))),(9,1,(.c (.str [61]))),(10,1,(.c (.str [124]))),(11,1,(.c (.str [92])))]),zzj 6 0]
def qccf:IC:=zr [zv 7 (.bin .lss .no (.t 6) (zc 12))]
def qb1d:IC:=zr [zv 8 (.ida false 1 12 (.t 5) (.t 6)),zm 4 8]
def qb4o:IC:=zr [zm 9 0,zm 10 4,zi 11 (zk 205 [zI 9,zI 10])]
def qb02:IC:=zr [zm 12 4,zv 13 (.len true (.t 12)),zm 2 13]
def qbuy:IC:=zr [zzl 14 6 1,zm 6 14]
def qbvl:IC:=(.seq qccf (.seq (.cond (.t 7) .skip (.exit 0)) (.seq (.block 1 (.seq qb1d (.seq qb4o (.cond (.t 11) (.seq qb02 .ret) .skip)))) qbuy)))
def qb0y:IC:=zr [zzj 2 0]
def k0ee:IC:=(.seq qbp8 (.seq (.seq qb9u (.block 0 (.loop qbvl))) (.seq qb0y .ret)))
@[go_sem] def s0ee:zzR:=[(.t 2,.id)]
theorem c0ee:cFun Tryz.prog 227=some (15,k0ee,s0ee):=by kernel_rfl

def qbqy:IC:=zr [zzn 2 0,zv 4 zf]
def qbzg:IC:=zr [zzp 7 2 0,zzr 8 1 7,zv 9 (.bin .neq .no (.t 8) (zc 4)),zm 10 9,zw 10 true 11 (zd 2 0),zw 10 true 12 (zg 1 11),zw 10 true 13 (.bin .neq .no (.t 12) (zc 5)),zzh 14 10 13]
def qbq6:IC:=zr [zv 4 zf]
def qb9m:IC:=zr [zm 15 1,zzo 16 15,zzj 17 0]
def qb0n:IC:=zr [zzm 18 17 16]
def qbul:IC:=zr [zzs 19 1 15 17,zzr 20 1 19,zm 6 20]
def qccg:IC:=zr [zzp 21 2 3,zzr 22 1 21,zm 23 6,zv 24 (zq (.t 22) (.t 23))]
def qbrk:IC:=zr [zzk 4]
def qcbd:IC:=zr [zzl 25 17 1,zm 17 25]
def k0dr_l4:IC:=(.seq qb0n (.seq (.cond (.t 18) .skip (.exit 0)) (.seq (.block 1 (.seq qbul (.seq qccg (.cond (.t 24) (.seq qbrk .ret) .skip)))) qcbd)))
def k0dr_r11:IC:=zr [zv 4 zf]
def k0dr:IC:=(.seq qbqy (.seq (.seq qbzg (.cond (.t 14) (.seq qbq6 .ret) .skip)) (.seq (.seq qb9m (.block 0 (.loop k0dr_l4))) (.seq k0dr_r11 .ret))))
@[go_sem] def s0dr:zzR:=[(.t 4,.id)]
theorem c0dr:cFun Tryz.prog 228=some (26,k0dr,s0dr):=by kernel_rfl

def qbrv:IC:=zr [zv 4 zf]
def qb70:IC:=zr [zm 5 0,zm 6 1,zi 7 (zk 190 [zI 5,zI 6]),zv 8 (.un .not (.t 7))]
def qbsk:IC:=zr [zv 4 zf]
def qccu:IC:=zr [zm 9 0,zi 10 (zk 189 [zI 9])]
def qb26:IC:=zr [zzk 4]
def k0dv:IC:=(.seq qbrv (.seq (.seq qb70 (.cond (.t 8) (.seq qbsk .ret) .skip)) (.seq qccu (.seq qb26 .ret))))
@[go_sem] def s0dv:zzR:=[(.t 4,.id)]
theorem c0dv:cFun Tryz.prog 229=some (11,k0dv,s0dv):=by kernel_rfl

def qcfi:IC:=zr [zzn 1 0,zv 2 (.mov (.c .nilf))]
def qci1:IC:=zr [zv 3 (.mfn 242 [] [(.t 1)]),zm 2 3]
def k0l:IC:=(.seq qcfi (.seq qci1 .ret))
@[go_sem] def s0l:zzR:=[(.t 2,.id)]
theorem c0l:cFun Tryz.prog 230=some (4,k0l,s0l):=by kernel_rfl

def qb90:IC:=zr [zv 4 zf]
def qbnd:IC:=zr [zm 5 0,zv 6 (.len true (.t 5)),zm 7 1,zv 8 (.len true (.t 7)),zv 9 (.bin .geq .no (.t 6) (.t 8)),zm 10 9,zw 10 true 11 (zo 0),zw 10 true 12 (zo 1),zw 10 true 13 (.len true (.t 12)),zw 10 true 14 (.sls (.t 11) none (some (.t 13))),zw 10 true 15 (zo 1),zw 10 true 16 (zq (.t 14) (.t 15)),zzh 17 10 16,zm 4 17]
def k0bl:IC:=(.seq qb90 (.seq qbnd .ret))
@[go_sem] def s0bl:zzR:=[(.t 4,.id)]
theorem c0bl:cFun Tryz.prog 231=some (18,k0bl,s0bl):=by kernel_rfl

def qchb:IC:=zr [zzn 2 0,zzn 3 1,zv 4 zf]
def qcfn:IC:=zr [zzq 5 3 2,zv 6 (.mfn 243 [] [(.t 3)]),zi 7 (zk 99 [zze 5,((zc 1),.id),zI 6]),zv 8 (.un .not (.t 7)),zm 4 8]
def k0k:IC:=(.seq qchb (.seq qcfn .ret))
@[go_sem] def s0k:zzR:=[(.t 4,.id)]
theorem c0k:cFun Tryz.prog 233=some (9,k0k,s0k):=by kernel_rfl

def qbss:IC:=zr [zzj 2 0,zzj 3 0]
def qbyg:IC:=zr [zm 8 0,zv 9 (zq (.t 8) (.c (.str [])))]
def qcce:IC:=zr [zzj 2 0,zzj 3 5]
def qb61:IC:=zr [zzj 4 0]
def qbyx:IC:=zr [zm 10 4,zm 11 0,zv 12 (.len true (.t 11)),zzm 13 10 12]
def qbzm:IC:=zr [zm 16 0,zm 17 4,zv 18 (.idx (.t 16) (.t 17)),zv 19 (.bin .lss .no (.t 18) (.c (.int .u8 48))),zm 20 19,zw 20 false 21 (zo 0),zw 20 false 22 (zo 4),zw 20 false 23 (.idx (.t 21) (.t 22)),zw 20 false 24 (.bin .gtr .no (.t 23) (.c (.int .u8 57))),zzi 25 20 24]
def qbz6:IC:=zr [zzj 2 0,zzj 3 5]
def qbne:IC:=zr [zm 14 4,zzl 15 14 1,zm 4 15]
def qbpv:IC:=(.seq (.seq qbyx (.cond (.t 13) .skip (.exit 0))) (.seq (.block 1 (.seq qbzm (.cond (.t 25) (.seq qbz6 .ret) .skip))) qbne))
def qbjx:IC:=zr [zzj 5 0]
def qbhp:IC:=zr [zzj 6 0]
def qbhx:IC:=zr [zm 26 6,zm 27 0,zv 28 (.len true (.t 27)),zzm 29 26 28]
def qbk3:IC:=zr [zm 32 0,zm 33 6,zv 34 (.idx (.t 32) (.t 33)),zv 35 (.bin .sub .no (.t 34) (.c (.int .u8 48))),zv 36 (.cvi .i64 (.t 35)),zm 7 36]
def qbd2:IC:=zr [zm 37 5,zm 38 7,zv 39 (.bin .sub .no (zc 9223372036854775807) (.t 38)),zv 40 (.bin .quo .no (.t 39) (zc 10)),zv 41 (.bin .gtr .no (.t 37) (.t 40))]
def qbjs:IC:=zr [zzj 2 0,zzj 3 4]
def qbjn:IC:=zr [zm 42 5,zv 43 (.bin .mul .no (zc 10) (.t 42)),zm 44 7,zv 45 (.bin .add .no (.t 43) (.t 44)),zm 5 45]
def qbdr:IC:=zr [zm 30 6,zzl 31 30 1,zm 6 31]
def qbc3:IC:=(.seq (.seq qbhx (.cond (.t 29) .skip (.exit 2))) (.seq (.block 3 (.seq qbk3 (.seq (.seq qbd2 (.cond (.t 41) (.seq qbjs .ret) .skip)) qbjn))) qbdr))
def qbh8:IC:=zr [zm 46 5,zm 2 46,zzj 3 0]
def k0bo:IC:=(.seq qbss (.seq (.seq qbyg (.cond (.t 9) (.seq qcce .ret) .skip)) (.seq (.seq qb61 (.block 0 (.loop qbpv))) (.seq qbjx (.seq (.seq qbhp (.block 2 (.loop qbc3))) (.seq qbh8 .ret))))))
@[go_sem] def s0bo:zzR:=[(.t 2,.id),(.t 3,.id)]
theorem c0bo:cFun Tryz.prog 234=some (47,k0bo,s0bo):=by kernel_rfl

def qb2j:IC:=zr [zv 4 (.mov (.c (.str []))),zv 5 zf]
def qb5h:IC:=zr [zm 6 0,zm 7 1,zi 8 (zk 231 [zI 6,zI 7]),zv 9 (.un .not (.t 8))]
def qbnf:IC:=zr [zm 10 0,zm 4 10,zv 5 zf]
def qb4m:IC:=zr [zm 11 0,zm 12 1,zv 13 (.len true (.t 12)),zv 14 (.sls (.t 11) (some (.t 13)) none),zm 4 14,zzk 5]
def k0ce:IC:=(.seq qb2j (.seq (.seq qb5h (.cond (.t 9) (.seq qbnf .ret) .skip)) (.seq qb4m .ret)))
@[go_sem] def s0ce:zzR:=[(.t 4,.id),(.t 5,.id)]
theorem c0ce:cFun Tryz.prog 240=some (15,k0ce,s0ce):=by kernel_rfl

def qb8l:IC:=zr [zv 4 (.mov (.c (.str []))),zv 5 zf]
def qb3s:IC:=zr [zm 6 0,zm 7 1,zi 8 (zk 246 [zI 6,zI 7]),zv 9 (.un .not (.t 8))]
def qb1v:IC:=zr [zm 10 0,zm 4 10,zv 5 zf]
def qbp3:IC:=zr [zm 11 0,zm 12 0,zv 13 (.len true (.t 12)),zm 14 1,zv 15 (.len true (.t 14)),zv 16 (.bin .sub .no (.t 13) (.t 15)),zv 17 (.sls (.t 11) none (some (.t 16))),zm 4 17,zzk 5]
def k0ch:IC:=(.seq qb8l (.seq (.seq qb3s (.cond (.t 9) (.seq qb1v .ret) .skip)) (.seq qbp3 .ret)))
@[go_sem] def s0ch:zzR:=[(.t 4,.id),(.t 5,.id)]
theorem c0ch:cFun Tryz.prog 241=some (18,k0ch,s0ch):=by kernel_rfl

def qcdw:IC:=zr [zzr 4 1 1,zzo 5 4,zv 6 (.bin .sub .no (.t 5) (zc 1)),zm 3 6]
def qcgn:IC:=zr [zm 7 3,zv 8 (.bin .geq .no (.t 7) (zc 0))]
def qcj1:IC:=zr [zm 11 0,zm 12 3,zzr 13 1 1,zm 14 3,zzs 15 3 13 14,zzq 16 3 15,zi 17 (.call (.t 11) [zI 12,zze 16]),zv 18 (.un .not (.t 17))]
def qcer:IC:=zr [zm 9 3,zv 10 (.bin .sub .no (.t 9) (zc 1)),zm 3 10]
def qcj4:IC:=(.seq (.seq qcgn (.cond (.t 8) .skip (.exit 0))) (.seq (.block 1 (.seq qcj1 (.cond (.t 18) .ret .skip))) qcer))
def k0m:IC:=(.seq qcdw (.block 0 (.loop qcj4)))
@[go_sem] def s0m:zzR:=[]
theorem c0m:cFun Tryz.prog 242=some (19,k0m,s0m):=by kernel_rfl

def qcjj:IC:=zr [zzn 3 0,zv 5 zf]
def qcep:IC:=zr [zzp 6 3 0,zzr 7 1 6,zv 8 (.bin .neq .no (.t 7) (.c (.str []))),zm 9 8,zw 9 false 10 (zd 3 1),zw 9 false 11 (zg 1 10),zw 9 false 12 (zg 1 2),zw 9 false 13 (.bin .neq .no (.t 11) (.t 12)),zzi 14 9 13,zm 5 14]
def k0j:IC:=(.seq qcjj (.seq qcep .ret))
@[go_sem] def s0j:zzR:=[(.t 5,.id)]
theorem c0j:cFun Tryz.prog 243=some (15,k0j,s0j):=by kernel_rfl

def qb5p:IC:=zr [zv 4 zf]
def qb7z:IC:=zr [zm 5 0,zv 6 (.len true (.t 5)),zm 7 1,zv 8 (.len true (.t 7)),zv 9 (.bin .geq .no (.t 6) (.t 8)),zm 10 9,zw 10 true 11 (zo 0),zw 10 true 12 (zo 0),zw 10 true 13 (.len true (.t 12)),zw 10 true 14 (zo 1),zw 10 true 15 (.len true (.t 14)),zw 10 true 16 (.bin .sub .no (.t 13) (.t 15)),zw 10 true 17 (.sls (.t 11) (some (.t 16)) none),zw 10 true 18 (zo 1),zw 10 true 19 (zq (.t 17) (.t 18)),zzh 20 10 19,zm 4 20]
def k0cg:IC:=(.seq qb5p (.seq qb7z .ret))
@[go_sem] def s0cg:zzR:=[(.t 4,.id)]
theorem c0cg:cFun Tryz.prog 246=some (21,k0cg,s0cg):=by kernel_rfl

end Go.Proofs.YtkenggenkmfopaaGreat
