/- A text of this proof. -/
import Derived.Test.YtkenggenkmfopaaGreatFaf
import Derived.Test.YtkenggenkmfopaaGreatProg
set_option linter.unusedVariables false
set_option linter.unusedSimpArgs false
/- The compiled code of the functions. -/
namespace Go.Proofs.YtkenggenkmfopaaGreat
open Go Go.V
@[reducible] def zm(d s:Nat):GI:=⟨none,some d,.v (.mov (.t s))⟩
@[reducible] def zv(d:Nat)(x:IV):GI:=⟨none,some d,.v x⟩
@[reducible] def zi(d:Nat)(i:I):GI:=⟨none,some d,i⟩
@[reducible] def zn(i:I):GI:=⟨none,none,i⟩
@[reducible] def zw(j:Nat)(b:Bool)(d:Nat)(x:IV):GI:=⟨some (j,b),some d,.v x⟩
@[reducible] def zp(g:GI):GI×List Nat:=(g,[])
@[reducible] def zN:Co:=.agg [.id,.id,.id,.id,(.sl 5)]
@[reducible] def zC:Co:=.agg [(.sl 4),.id,.id,.id,.id,.id,.id,.id]
@[reducible] def zaN:I:=.alo [(.int .i64 0),(.int .i64 0),(.int .i64 0),(.str []),.nils]
@[reducible] def zaC:I:=.alo [.nils,(.int .i64 0),(.int .i64 0),(.int .i64 0),(.str []),(.int .i64 0),(.int .i64 0),(.int .i64 0)]
@[reducible] def zaT:I:=.alo [(.int .i64 0),(.int .i64 0),(.int .i64 0),(.str [])]
@[reducible] def zZ:AV:=.agg [(.int .i64 0),(.int .i64 0),(.int .i64 0),(.str []),.nils]
@[reducible] def zc(n:Int):Opd:=.c (.int .i64 n)
@[reducible] def zf:IV:=.mov (.c (.bool false))
@[reducible] def zr(l:List GI):IC:=.reg false l
@[reducible] def zk(f:FuncId)(l:List (Opd×Co)):I:=.call (.c (.fn f [] [])) l
@[reducible] def zA(n:Nat):Opd×Co:=(.t n,zN)
@[reducible] def zI(n:Nat):Opd×Co:=(.t n,.id)
@[reducible] def zx(n k:Nat):IV:=.ext (.t n) k
@[reducible] def zl(n k:Nat):IV:=.ld true n (.t k)
@[reducible] def zg(n k:Nat):IV:=.ld false n (.t k)
@[reducible] def zd(n k:Nat):IV:=.fad (.t n) k
@[reducible] def zq(a b:Opd):IV:=.bin .eql .no a b
@[reducible] def zo(n:Nat):IV:=.mov (.t n)
@[reducible] def zj(j:Nat)(b:Bool)(d:Nat)(i:I):GI:=⟨some (j,b),some d,i⟩
@[reducible] def zza:Co:=.agg [.id,.id,(.sl 3)]
@[reducible] def zzb:Co:=.agg [.id,.id,.id,(.sl 1),(.sl 3),(.sl 6)]
@[reducible] def zzc:Co:=.agg [.id,.id,.id,.id,(.sl 4),(.sl 6),(.sl 7),.id,.id]
@[reducible] def zzd:Co:=.agg [.id,.id,.id,(.sl 3)]
@[reducible] def zze(n:Nat):Opd×Co:=(.t n,zza)
@[reducible] def zzf(n:Nat):Opd×Co:=(.t n,zzb)
@[reducible] def zzg(n:Nat):Opd×Co:=(.t n,zzc)
@[reducible] def zzh(d a b:Nat):GI:=zv d (.pick (.t a) (.t b) (.c (.bool false)))
@[reducible] def zzi(d a b:Nat):GI:=zv d (.pick (.t a) (.c (.bool true)) (.t b))
@[reducible] def zzj(d:Nat)(n:Int):GI:=zv d (.mov (.c (.int .i64 n)))
@[reducible] def zzk(d:Nat):GI:=zv d (.mov (.c (.bool true)))
@[reducible] def zzl(d a:Nat)(n:Int):GI:=zv d (.bin .add .no (.t a) (.c (.int .i64 n)))
@[reducible] def zzm(d a b:Nat):GI:=zv d (.bin .lss .no (.t a) (.t b))
@[reducible] def zzn(d a:Nat):GI:=zi d (.box (.t a))
@[reducible] def zzo(d a:Nat):GI:=zv d (.len false (.t a))
@[reducible] def zzp(d a b:Nat):GI:=zv d (.fad (.t a) b)
@[reducible] def zzq(d a b:Nat):GI:=zv d (.ld true a (.t b))
@[reducible] def zzr(d a b:Nat):GI:=zv d (.ld false a (.t b))
@[reducible] def zzs(d k a b:Nat):GI:=zv d (.iad k (.t a) (.t b))
@[reducible] def zzt(d a b:Nat):GI:=zv d (.ext (.t a) b)
@[reducible] def zzu(d a:Nat):GI×List Nat:=(zm d a,[])
@[reducible] def zzv:I:=.alo [(.str []),(.int .i64 0),.nils]
@[reducible] def zzw:I:=.alo [(.int .i64 0),(.int .i64 0),(.int .i64 0),(.int .i64 0),.nils,.nils,.nils,(.int .i64 0),(.int .i64 0)]
@[reducible] def zzx:I:=.alo [(.int .i64 0),(.int .i64 0),(.str []),.nils,.nils,.nils]
abbrev zzR:Type:=List (RV×Co)
def qbob:IC:=zr [zzn 4 1,zzn 5 2,zv 6 zf]
def qbpy:IC:=.drw [zp (zv 23 (.aad 1 2 (.t 4) (zc 0))),zp (zzr 24 1 23),zp (zv 25 (.aad 1 2 (.t 4) (zc 1))),zp (zzr 26 1 25),zzu 7 24,zzu 8 26]
def qbuk:IC:=zr [zm 27 0,zi 28 (zk 7 [((.t 27),(.sl 16))]),zv 29 (.un .not (.t 28)),zm 30 29,zw 30 false 31 (zl 3 5),zw 30 false 32 (.bsl 3 [zze 31]),zj 30 false 33 (zk 8 [((.t 32),(.sl 3))]),zw 30 false 34 (zq (.t 33) (zc 0)),zzi 35 30 34,zm 36 35,zw 36 false 37 (zl 3 5),zj 36 false 38 (zk 9 [zze 37]),zw 36 false 39 (.bin .gtr .no (.t 38) (zc 200)),zzi 40 36 39]
def qb2h:IC:=zr [zi 41 (zk 10 []),zm 6 41]
def qbmn:IC:=zr [zi 42 (zk 11 []),zv 43 (.bld [(.int .i64 0),(.int .i64 0),(.int .i64 0),(.int .i64 0),.nils,.nils,.nils,(.int .i64 0),(.int .i64 0)] []),zi 10 zzw,zm 9 42,zn (.st 9 zzc (.t 10) (.t 43))]
def q6l:IC:=zr [zm 44 0,zzo 45 44,zv 46 (.bin .quo .no (.t 45) (zc 2)),zm 11 46]
def qbs3:IC:=zr [zzj 12 0]
def qb2y:IC:=zr [zm 47 12,zm 48 11,zzm 49 47 48]
def qbn6:IC:=.drw [zzu 53 9,zp (zzq 54 9 10),zzu 55 0,zzu 56 12,zp (zzs 57 16 55 56),zp (zzq 58 16 57),(zi 59 (zk 14 [zI 53,zzg 54,((.t 58),(.agg [.id,.id,.id,.id,.id,.id,(.sl 3),.id,.id,(.sl 3),.id,.id,.id,(.sl 1),(.sl 3),(.sl 6)]))]),[]),zzu 52 59,zp (zzt 60 52 0),zp (zzt 61 52 1),(zi 13 zzw,[1,5,6]),(zn (.st 9 zzc (.t 13) (.t 60)),[]),zzu 14 61]
def q9u:IC:=zr [zzq 62 9 13,zn (.st 9 zzc (.t 10) (.t 62))]
def qbax:IC:=zr [zm 50 12,zzl 51 50 1,zm 12 51]
def qbsc:IC:=(.seq (.seq qb2y (.cond (.t 49) .skip (.exit 0))) (.seq (.block 1 (.seq qbn6 q9u)) qbax))
def qxm:IC:=zr [zm 63 9,zm 64 7,zm 65 8,zi 66 (zk 17 [zI 63,zI 64,zI 65])]
def qbbr:IC:=zr [zzq 67 9 10,zm 68 7,zm 69 8,zi 70 (zk 18 [zzg 67,zI 68,zI 69]),zn (.st 9 zzc (.t 10) (.t 70))]
def qbjd:IC:=zr [zm 72 9,zi 73 (zk 19 [zI 72]),zm 71 73,zzt 74 71 0,zzt 75 71 1,zm 15 74,zm 16 75]
def qbcm:IC:=zr [zm 76 9,zzq 77 3 5,zi 78 (zk 15 [zI 76,zze 77]),zi 17 zzv,zn (.st 3 zza (.t 17) (.t 78))]
def qbg0:IC:=zr [zm 79 11,zm 18 79]
def q9v:IC:=zr [zm 80 18,zm 81 0,zzo 82 81,zzm 83 80 82]
def qbc2:IC:=.drw [zzu 87 9,zp (zzq 88 9 10),zzu 89 0,zzu 90 18,zp (zzs 91 16 89 90),zp (zzq 92 16 91),(zi 93 (zk 14 [zI 87,zzg 88,((.t 92),(.agg [.id,.id,.id,.id,.id,.id,(.sl 3),.id,.id,(.sl 3),.id,.id,.id,(.sl 1),(.sl 3),(.sl 6)]))]),[]),zzu 86 93,zp (zzt 94 86 0),zp (zzt 95 86 1),(zi 19 zzw,[1,5,6]),(zn (.st 9 zzc (.t 19) (.t 94)),[]),zzu 20 95]
def qbe6:IC:=zr [zzq 96 9 19,zn (.st 9 zzc (.t 10) (.t 96))]
def qbd2:IC:=zr [zm 98 9,zi 99 (zk 19 [zI 98]),zm 97 99,zzt 100 97 0,zzt 101 97 1,zm 21 100,zm 22 101]
def qbj2:IC:=.drw [zzu 102 21,zzu 103 15,zp (zv 104 (.bin .neq .no (.t 102) (.t 103))),zzu 105 104,zp (zw 105 false 106 (zo 22)),zp (zw 105 false 107 (zo 16)),zp (zw 105 false 108 (.bin .neq .no (.t 106) (.t 107))),zp (zzi 109 105 108),zzu 110 109,zp (zw 110 false 111 (zo 9)),zp (zw 110 false 112 (zl 3 5)),(zj 110 false 113 (zk 15 [zI 111,zze 112]),[]),(zw 110 false 114 (zl 3 17),[11]),(zj 110 false 115 (zk 16 [zze 113,zze 114]),[]),zp (zw 110 false 116 (.un .not (.t 115))),zp (zzi 117 110 116)]
def qbee:IC:=zr [zv 6 zf]
def qbg7:IC:=zr [zm 84 18,zzl 85 84 1,zm 18 85]
def q88:IC:=(.seq (.seq q9v (.cond (.t 83) .skip (.exit 2))) (.seq (.block 3 (.seq qbc2 (.seq qbe6 (.seq qbd2 (.seq qbj2 (.cond (.t 117) (.seq qbee .ret) .skip)))))) qbg7))
def qbbv:IC:=zr [zm 118 16,zv 119 (.bin .neq .no (.t 118) (zc 0)),zm 120 119,zj 120 true 121 (zk 10 []),zzh 122 120 121,zm 6 122]
def k0er:IC:=(.seq qbob (.seq qbpy (.seq (.seq qbuk (.cond (.t 40) (.seq qb2h .ret) .skip)) (.seq qbmn (.seq q6l (.seq (.seq qbs3 (.block 0 (.loop qbsc))) (.seq qxm (.seq qbbr (.seq qbjd (.seq qbcm (.seq (.seq qbg0 (.block 2 (.loop q88))) (.seq qbbv .ret))))))))))))
@[go_sem] def s0er:zzR:=[(.t 6,.id)]
theorem c0er:cFun Tryz.prog 4=some (123,k0er,s0er):=by kernel_rfl

def qbon:IC:=zr [zv 2 zf]
def qbul:IC:=zr [zm 5 0,zzo 6 5,zv 7 (.bin .gtr .no (.t 6) (zc 60))]
def qbpk:IC:=zr [zv 2 zf]
def qb3n:IC:=zr [zzj 3 0]
def qbqt:IC:=zr [zzj 4 0]
def qblx:IC:=zr [zm 8 4,zm 9 0,zzo 10 9,zzm 11 8 10]
def qcbt:IC:=.drw [zzu 14 0,zzu 15 4,zp (zzs 16 16 14 15),zp (zzp 17 16 4),zp (zzq 18 3 17),zzu 19 0,zzu 20 4,zp (zzs 21 16 19 20),zp (zzp 22 21 7),zp (zzq 23 3 22),(zv 24 (.bsl 3 [zze 18,zze 23]),[]),(zi 25 (zk 8 [((.t 24),(.sl 3))]),[]),zp (zv 26 (zq (.t 25) (zc 0))),zzu 27 26,zp (zw 27 false 28 (zo 0)),zp (zw 27 false 29 (zo 4)),zp (zw 27 false 30 (.iad 16 (.t 28) (.t 29))),zp (zw 27 false 31 (zd 30 4)),zp (zw 27 false 32 (zl 3 31)),(zj 27 false 33 (zk 9 [zze 32]),[]),zp (zw 27 false 34 (.bin .gtr .no (.t 33) (zc 200))),zp (zzi 35 27 34),zzu 36 35,zp (zw 36 false 37 (zo 0)),zp (zw 36 false 38 (zo 4)),zp (zw 36 false 39 (.iad 16 (.t 37) (.t 38))),zp (zw 36 false 40 (zd 39 7)),zp (zw 36 false 41 (zl 3 40)),(zj 36 false 42 (zk 9 [zze 41]),[]),zp (zw 36 false 43 (.bin .gtr .no (.t 42) (zc 200))),zp (zzi 44 36 43),zzu 45 44,zp (zw 45 false 46 (zo 0)),zp (zw 45 false 47 (zo 4)),zp (zw 45 false 48 (.iad 16 (.t 46) (.t 47))),zp (zw 45 false 49 (zd 48 10)),zp (zw 45 false 50 (zl 6 49)),(zw 45 false 51 (.bsl 6 [zzf 50]),[]),(zj 45 false 52 (zk 35 [((.t 51),(.sl 6))]),[]),zp (zw 45 false 53 (zq (.t 52) (zc 0))),zp (zzi 54 45 53),zzu 55 54,zp (zw 55 false 56 (zo 0)),zp (zw 55 false 57 (zo 4)),zp (zw 55 false 58 (.iad 16 (.t 56) (.t 57))),zp (zw 55 false 59 (zd 58 10)),zp (zw 55 false 60 (zl 6 59)),(zj 55 false 61 (zk 36 [zzf 60]),[]),zp (zw 55 false 62 (.bin .gtr .no (.t 61) (zc 60))),zp (zzi 63 55 62)]
def qbmg:IC:=zr [zv 2 zf]
def qb8n:IC:=zr [zm 64 0,zm 65 4,zzs 66 16 64 65,zzp 67 66 0,zzr 68 1 67,zv 69 (zq (.t 68) (zc 8))]
def q9c:IC:=zr [zm 70 3,zzl 71 70 1,zm 3 71]
def qbie:IC:=zr [zm 12 4,zzl 13 12 1,zm 4 13]
def qb3l:IC:=(.seq (.seq qblx (.cond (.t 11) .skip (.exit 0))) (.seq (.block 1 (.seq (.seq qcbt (.cond (.t 63) (.seq qbmg .ret) .skip)) (.seq qb8n (.cond (.t 69) q9c .skip)))) qbie))
def qbcv:IC:=zr [zm 72 3,zv 73 (.bin .leq .no (.t 72) (zc 5)),zm 2 73]
def k0en:IC:=(.seq qbon (.seq (.seq qbul (.cond (.t 7) (.seq qbpk .ret) .skip)) (.seq qb3n (.seq (.seq qbqt (.block 0 (.loop qb3l))) (.seq qbcv .ret)))))
@[go_sem] def s0en:zzR:=[(.t 2,.id)]
theorem c0en:cFun Tryz.prog 7=some (74,k0en,s0en):=by kernel_rfl

def qb1s:IC:=zr [zzj 2 0]
def qb9j:IC:=zr [zzj 3 20000]
def qbtm:IC:=zr [zzj 4 0]
def qbna:IC:=zr [zm 5 4,zm 6 0,zzo 7 6,zzm 8 5 7]
def qbtk:IC:=zr [zm 11 0,zm 12 4,zzs 13 3 11 12,zzq 14 3 13,zm 15 3,zi 16 (zk 37 [zze 14,zI 15,((zc 300),.id)]),zm 3 16]
def qccl:IC:=zr [zm 9 4,zzl 10 9 1,zm 4 10]
def qccn:IC:=(.seq (.seq qbna (.cond (.t 8) .skip (.exit 0))) (.seq (.block 1 qbtk) qccl))
def qbno:IC:=zr [zm 17 3,zv 18 (.bin .lss .no (.t 17) (zc 0))]
def qcdn:IC:=zr [zzj 2 0]
def qbe4:IC:=zr [zzj 2 1]
def k0dn:IC:=(.seq qb1s (.seq qb9j (.seq (.seq qbtm (.block 0 (.loop qccn))) (.seq (.seq qbno (.cond (.t 18) (.seq qcdn .ret) .skip)) (.seq qbe4 .ret)))))
@[go_sem] def s0dn:zzR:=[(.t 2,.id)]
theorem c0dn:cFun Tryz.prog 8=some (19,k0dn,s0dn):=by kernel_rfl

def qbn4:IC:=zr [zzn 1 0,zzj 2 0]
def qb21:IC:=zr [zzj 3 1]
def qbo8:IC:=zr [zzj 4 0]
def qbsv:IC:=zr [zm 5 4,zzp 6 1 2,zzr 7 1 6,zzo 8 7,zzm 9 5 8]
def qbqu:IC:=zr [zm 12 3,zzp 13 1 2,zzr 14 1 13,zm 15 4,zzs 16 3 14 15,zzq 17 3 16,zi 18 (zk 9 [zze 17]),zv 19 (.bin .add .no (.t 12) (.t 18)),zm 3 19]
def qbsg:IC:=zr [zm 10 4,zzl 11 10 1,zm 4 11]
def qb6i:IC:=(.seq (.seq qbsv (.cond (.t 9) .skip (.exit 0))) (.seq (.block 1 qbqu) qbsg))
def qbq1:IC:=zr [zm 20 3,zm 2 20]
def k0dj:IC:=(.seq qbn4 (.seq qb21 (.seq (.seq qbo8 (.block 0 (.loop qb6i))) (.seq qbq1 .ret))))
@[go_sem] def s0dj:zzR:=[(.t 2,.id)]
theorem c0dj:cFun Tryz.prog 9=some (21,k0dj,s0dj):=by kernel_rfl

def qbym:IC:=zr [zv 0 zf]
def qb2w:IC:=zr [zi 18 (zk 11 []),zm 1 18]
def qbrr:IC:=zr [zm 19 1,zv 20 (.bin .eql .ptr (.t 19) (.c .nilp))]
def qbsj:IC:=zr [zv 0 zf]
def qby6:IC:=zr [zm 21 1,zi 22 (zk 21 [zI 21]),zm 23 1,zi 24 (zk 21 [zI 23]),zm 25 1,zi 26 (zk 22 [zI 25]),zi 2 zzv,zi 3 zzv,zi 4 zzv,zn (.st 3 zza (.t 2) (.t 22)),zn (.st 3 zza (.t 3) (.t 24)),zn (.st 3 zza (.t 4) (.t 26))]
def qb94:IC:=zr [zv 27 (.bld [(.str []),(.int .i64 0),.nils] [(0,1,(.c (.str [73,110,116])))]),zi 5 zzv,zn (.st 3 zza (.t 5) (.t 27))]
def qbtj:IC:=zr [zm 28 1,zzq 29 3 2,zzq 30 3 5,zi 31 (zk 12 [zI 28,zze 29,zze 30,((zc 3),.id)]),zm 6 31]
def qb3s:IC:=zr [zm 32 1,zzq 33 3 2,zv 34 (.bsl 3 [zze 33]),zv 35 (.bld [(.str []),(.int .i64 0),.nils] [(0,1,(.c (.str [84]))),(2,1,(.t 34))]),zi 36 (zk 15 [zI 32,zze 35]),zi 7 zzv,zn (.st 3 zza (.t 7) (.t 36))]
def qcco:IC:=zr [zm 37 1,zzq 38 3 2,zv 39 (.bld [(.str []),(.str []),(.int .i64 0),.nils] [(0,1,(.c (.str [67]))),(1,3,(.t 38))]),zi 40 (zk 25 [zI 37,((.t 39),zzd),((zc 5),.id)]),zm 41 1,zi 42 (zk 26 [zI 41]),zm 8 40,zm 9 42]
def qb9h:IC:=zr [zm 43 1,zi 44 (zk 27 [zI 43,((zc 0),.id)]),zm 10 44]
def qbdh:IC:=zr [zm 45 1,zm 46 8,zm 47 9,zv 48 (.bld [(.int .i64 0),(.int .i64 0),(.str []),.nils,.nils,.nils] [(0,1,(zc 14)),(1,1,(.t 47))]),zi 49 (zk 28 [zI 45,zI 46,zzf 48]),zm 11 49]
def q9i:IC:=zr [zm 50 1,zm 51 9,zv 52 (.bld [(.int .i64 0),(.int .i64 0),(.str []),.nils,.nils,.nils] [(0,1,(zc 2)),(1,1,(zc 9))]),zi 53 (zk 28 [zI 50,zI 51,zzf 52]),zm 12 53]
def qbds:IC:=zr [zm 54 1,zm 55 8,zv 56 (.bld [(.int .i64 0),(.int .i64 0),(.str []),.nils,.nils,.nils] [(0,1,(zc 14)),(1,1,(.t 55))]),zi 57 (zk 30 [zI 54,zzf 56]),zi 13 zzx,zn (.st 6 zzb (.t 13) (.t 57))]
def qbeu:IC:=zr [zm 58 1,zzq 59 3 4,zzq 60 3 3,zi 61 (zk 12 [zI 58,zze 59,zze 60,((zc 4),.id)]),zm 14 61]
def q92:IC:=zr [zm 62 1,zzq 63 3 4,zzq 64 3 5,zi 65 (zk 12 [zI 62,zze 63,zze 64,((zc 7),.id)]),zm 15 65]
def qbhl:IC:=zr [zm 67 1,zi 68 (zk 19 [zI 67]),zm 66 68,zzt 69 66 0,zzt 70 66 1,zm 16 69,zm 17 70]
def qyy:IC:=zr [zzp 71 2 1,zzr 72 1 71,zv 73 (zq (.t 72) (zc (-1))),zm 74 73,zw 74 true 75 (zd 3 1),zw 74 true 76 (zg 1 75),zw 74 true 77 (zq (.t 76) (zc (-2))),zzh 78 74 77,zm 79 78,zw 79 true 80 (zd 4 0),zw 79 true 81 (zg 1 80),zw 79 true 82 (zq (.t 81) (.c (.str [33,48]))),zzh 83 79 82,zm 84 83,zw 84 true 85 (zo 6),zzh 86 84 85,zm 87 86,zw 87 true 88 (zl 3 7),zj 87 true 89 (zk 38 [zze 88]),zw 87 true 90 (zq (.t 89) (.c (.str [84,32,73,110,116]))),zzh 91 87 90,zm 92 91,zw 92 true 93 (zo 8),zw 92 true 94 (zq (.t 93) (zc 0)),zzh 95 92 94,zm 96 95,zw 96 true 97 (zo 9),zw 96 true 98 (zq (.t 97) (zc 1)),zzh 99 96 98,zm 100 99,zw 100 true 101 (zo 10),zw 100 true 102 (.len false (.t 101)),zw 100 true 103 (zq (.t 102) (zc 1)),zzh 104 100 103,zm 105 104,zw 105 true 106 (zo 10),zw 105 true 107 (.iad 6 (.t 106) (zc 0)),zw 105 true 108 (zd 107 0),zw 105 true 109 (zd 108 1),zw 105 true 110 (zd 109 0),zw 105 true 111 (zg 1 110),zw 105 true 112 (zq (.t 111) (.c (.str [73,110,116]))),zzh 113 105 112,zm 114 113,zw 114 true 115 (zo 11),zw 114 true 116 (zq (.t 115) (zc 0)),zzh 117 114 116,zm 118 117,zw 118 true 119 (zo 12),zw 118 true 120 (zq (.t 119) (zc 0)),zzh 121 118 120,zm 122 121,zw 122 true 123 (zo 1),zw 122 true 124 (zo 9),zw 122 true 125 (.bld [(.int .i64 0),(.int .i64 0),(.str []),.nils,.nils,.nils] [(0,1,(zc 2))]),zj 122 true 126 (zk 28 [zI 123,zI 124,zzf 125]),zw 122 true 127 (zq (.t 126) (zc 6)),zzh 128 122 127,zm 129 128,zw 129 true 130 (zd 13 1),zw 129 true 131 (zg 1 130),zw 129 true 132 (zq (.t 131) (zc 9)),zzh 133 129 132,zm 134 133,zw 134 true 135 (zd 13 0),zw 134 true 136 (zg 1 135),zw 134 true 137 (zq (.t 136) (zc 2)),zzh 138 134 137,zm 139 138,zw 139 true 140 (zo 14),zzh 141 139 140,zm 142 141,zw 142 true 143 (zo 15),zw 142 true 144 (.un .not (.t 143)),zzh 145 142 144,zm 146 145,zw 146 true 147 (zo 16),zw 146 true 148 (zq (.t 147) (zc 7)),zzh 149 146 148,zm 150 149,zw 150 true 151 (zo 17),zw 150 true 152 (zq (.t 151) (zc 14)),zzh 153 150 152,zm 154 153,zw 154 true 155 (zo 1),zj 154 true 156 (zk 23 [zI 155]),zw 154 true 157 (zq (.t 156) (.c (.str [35,48]))),zzh 158 154 157,zm 159 158,zw 159 true 160 (zo 1),zj 159 true 161 (zk 23 [zI 160]),zw 159 true 162 (zq (.t 161) (.c (.str [35,49]))),zzh 163 159 162,zm 0 163]
def k0gf:IC:=(.seq qbym (.seq qb2w (.seq (.seq qbrr (.cond (.t 20) (.seq qbsj .ret) .skip)) (.seq qby6 (.seq qb94 (.seq qbtj (.seq qb3s (.seq qcco (.seq qb9h (.seq qbdh (.seq q9i (.seq qbds (.seq qbeu (.seq q92 (.seq qbhl (.seq qyy .ret))))))))))))))))
@[go_sem] def s0gf:zzR:=[(.t 0,.id)]
theorem c0gf:cFun Tryz.prog 10=some (164,k0gf,s0gf):=by kernel_rfl

def qcmn:IC:=zr [zv 0 (.mov (.c .nilp))]
def qckc:IC:=zr [zi 1 (zk 39 [((.c .nils),(.sl 4))]),zi 2 (.call (.c (.eptr 94 [] 0 0)) []),zi 3 (.call (.c (.eptr 95 [] 0 0)) []),zv 4 (.bld [(.int .i64 0),(.int .i64 0),(.int .i64 0),(.int .i64 0),.nilp,.nils,.nilm,.nilm,(.int .i64 0),(.int .i64 0)] [(4,1,(.t 1)),(6,1,(.t 2)),(7,1,(.t 3))]),zzn 5 4,zm 0 5]
def k0e:IC:=(.seq qcmn (.seq qckc .ret))
@[go_sem] def s0e:zzR:=[(.t 0,.id)]
theorem c0e:cFun Tryz.prog 11=some (6,k0e,s0e):=by kernel_rfl

def qcmu:IC:=zr [zzn 5 1,zzn 6 2,zv 8 zf]
def qblo:IC:=zr [zm 11 0,zv 12 (.bin .eql .ptr (.t 11) (.c .nilp)),zm 13 12,zw 13 false 14 (zo 0),zw 13 false 15 (.nck (.t 14)),zw 13 false 16 (zd 15 9),zw 13 false 17 (zg 1 16),zw 13 false 18 (.bin .neq .no (.t 17) (zc 0)),zzi 19 13 18]
def qcj2:IC:=zr [zv 8 zf]
def qcev:IC:=.drw [zzu 21 0,zp (zv 22 (.nck (.t 21))),zp (zzp 23 22 4),zp (zzr 24 1 23),zp (zzq 25 3 5),zp (zzq 26 3 6),(zi 27 (zk 40 [zI 24,zze 25,zze 26]),[]),zzu 20 27,zp (zzt 28 20 0),zp (zzt 29 20 1),zzu 9 28,zzu 10 29]
def qbkv:IC:=zr [zm 30 10,zv 31 (zq (.t 30) (zc 1))]
def qcfw:IC:=zr [zzj 10 2]
def qck5:IC:=zr [zm 32 10,zv 33 (.bin .neq .no (.t 32) (zc 0))]
def qcjk:IC:=zr [zm 34 0,zm 35 10,zm 36 3,zi 37 (zk 17 [zI 34,zI 35,zI 36]),zm 8 37]
def qcie:IC:=zr [zm 38 0,zm 39 9,zv 40 (.nck (.t 38)),zzp 41 40 4,zn (.st 1 .id (.t 41) (.t 39))]
def qcgy:IC:=zr [zzk 8]
def k0c:IC:=(.seq qcmu (.seq (.seq qblo (.cond (.t 19) (.seq qcj2 .ret) .skip)) (.seq qcev (.seq (.seq qbkv (.cond (.t 31) qcfw .skip)) (.seq (.seq qck5 (.cond (.t 33) (.seq qcjk .ret) .skip)) (.seq qcie (.seq qcgy .ret)))))))
@[go_sem] def s0c:zzR:=[(.t 8,.id)]
theorem c0c:cFun Tryz.prog 12=some (42,k0c,s0c):=by kernel_rfl

def qbnh:IC:=zr [zzn 4 0,zzn 5 1,zzn 6 2,zi 8 zzw,zv 9 zf]
def qbvp:IC:=zr [zzp 12 4 7,zzr 13 1 12,zv 14 (.bin .neq .no (.t 13) (zc 0))]
def qb0b:IC:=zr [zzq 15 9 4,zn (.st 9 zzc (.t 8) (.t 15)),zv 9 zf]
def qbo6:IC:=zr [zzp 17 4 4,zzr 18 1 17,zzq 19 3 5,zzq 20 3 6,zi 21 (zk 41 [((.t 18),(.sl 4)),zze 19,zze 20]),zm 16 21,zzt 22 16 0,zzt 23 16 1,zm 10 22,zm 11 23]
def qb70:IC:=zr [zm 24 11,zv 25 (zq (.t 24) (zc 1))]
def qbub:IC:=zr [zzj 11 2]
def qbrd:IC:=zr [zm 26 11,zv 27 (.bin .neq .no (.t 26) (zc 0))]
def qcbv:IC:=zr [zzq 28 9 4,zm 29 11,zm 30 3,zi 31 (zk 18 [zzg 28,zI 29,zI 30]),zn (.st 9 zzc (.t 8) (.t 31)),zv 9 zf]
def qbyn:IC:=zr [zm 32 10,zzp 33 4 4,zn (.st 1 (.sl 4) (.t 33) (.t 32))]
def qb07:IC:=zr [zzq 34 9 4,zn (.st 9 zzc (.t 8) (.t 34)),zzk 9]
def k0ew:IC:=(.seq qbnh (.seq (.seq qbvp (.cond (.t 14) (.seq qb0b .ret) .skip)) (.seq qbo6 (.seq (.seq qb70 (.cond (.t 25) qbub .skip)) (.seq (.seq qbrd (.cond (.t 27) (.seq qcbv .ret) .skip)) (.seq qbyn (.seq qb07 .ret)))))))
@[go_sem] def s0ew:zzR:=[(.c true 9 8,zzc),(.t 9,.id)]
theorem c0ew:cFun Tryz.prog 13=some (35,k0ew,s0ew):=by kernel_rfl

def qbqe:IC:=zr [zzn 4 1,zzn 5 2,zi 6 zzw,zv 7 zf]
def qb1m:IC:=zr [zzp 22 5 0,zzr 23 1 22]
def qb1h:IC:=zr [zv 25 (zq (.t 23) (zc 0)),zm 24 25]
def qbm2:IC:=zr [zzq 27 9 4,zi 28 (zk 42 [zzg 27]),zm 26 28,zzt 29 26 0,zzt 30 26 1,zi 8 zzw,zi 9 zzv,zn (.st 9 zzc (.t 8) (.t 29)),zn (.st 3 zza (.t 9) (.t 30))]
def qbva:IC:=.drw [zp (zzq 31 9 8),zzu 32 0,(zi 33 (zk 21 [zI 32]),[0]),(zzq 34 3 9,[2]),(zi 35 (zk 16 [zze 33,zze 34]),[0]),(zn (.st 9 zzc (.t 6) (.t 31)),[]),zzu 7 35]
def qbqm:IC:=zr [zv 37 (zq (.t 23) (zc 1)),zm 36 37]
def qbqn:IC:=zr [zzq 39 9 4,zi 40 (zk 43 [zzg 39]),zm 38 40,zzt 41 38 0,zzt 42 38 1,zi 10 zzw,zi 11 zzv,zn (.st 9 zzc (.t 10) (.t 41)),zn (.st 3 zza (.t 11) (.t 42))]
def qbor:IC:=.drw [zp (zzq 43 9 10),zzu 44 0,(zi 45 (zk 22 [zI 44]),[0]),(zzq 46 3 11,[2]),(zi 47 (zk 16 [zze 45,zze 46]),[0]),(zn (.st 9 zzc (.t 6) (.t 43)),[]),zzu 7 47]
def qcbn:IC:=zr [zv 49 (zq (.t 23) (zc 2)),zm 48 49]
def qbp7:IC:=zr [zzq 51 9 4,zi 52 (zk 44 [zzg 51]),zm 50 52,zzt 53 50 0,zzt 54 50 1,zi 12 zzw,zn (.st 9 zzc (.t 12) (.t 53)),zm 13 54]
def qbab:IC:=.drw [zp (zzq 55 9 12),zzu 56 0,(zi 57 (zk 23 [zI 56]),[0]),zzu 58 13,zp (zv 59 (zq (.t 57) (.t 58))),(zn (.st 9 zzc (.t 6) (.t 55)),[]),zzu 7 59]
def qbde:IC:=zr [zv 61 (zq (.t 23) (zc 3)),zm 60 61]
def qbj9:IC:=zr [zzq 63 9 4,zzp 64 5 4,zzq 65 3 64,zzp 66 5 7,zzq 67 3 66,zzp 68 5 2,zzr 69 1 68,zi 70 (zk 13 [zzg 63,zze 65,zze 67,zI 69]),zm 62 70,zzt 71 62 0,zzt 72 62 1,zi 14 zzw,zn (.st 9 zzc (.t 14) (.t 71)),zm 15 72]
def qbf9:IC:=.drw [zp (zzq 73 9 14),zzu 74 0,zp (zzp 75 5 4),zp (zzq 76 3 75),zp (zzp 77 5 7),zp (zzq 78 3 77),zp (zzp 79 5 2),zp (zzr 80 1 79),(zi 81 (zk 12 [zI 74,zze 76,zze 78,zI 80]),[0]),zzu 82 15,zp (zv 83 (.bin .eql .bool (.t 81) (.t 82))),(zn (.st 9 zzc (.t 6) (.t 73)),[]),zzu 7 83]
def qbfu:IC:=zr [zv 85 (zq (.t 23) (zc 4)),zm 84 85]
def qben:IC:=.drw [zp (zzq 86 9 4),zp (zzp 87 5 1),zp (zzr 88 1 87),zp (zzp 89 5 2),zp (zzr 90 1 89),(zi 91 (zk 18 [zzg 86,zI 88,zI 90]),[]),zzu 92 0,zp (zzp 93 5 1),(zzr 94 1 93,[5]),zp (zzp 95 5 2),(zzr 96 1 95,[5]),(zi 97 (zk 17 [zI 92,zI 94,zI 96]),[]),zp (zv 98 (.un .not (.t 97))),(zn (.st 9 zzc (.t 6) (.t 91)),[]),zzu 7 98]
def qbgl:IC:=zr [zv 100 (zq (.t 23) (zc 5)),zm 99 100]
def qbgm:IC:=zr [zzq 102 9 4,zzp 103 5 3,zzr 104 1 103,zzp 105 5 4,zzq 106 3 105,zv 107 (.bld [(.str []),(.str []),(.int .i64 0),.nils] [(0,1,(.t 104)),(1,3,(.t 106))]),zzp 108 5 2,zzr 109 1 108,zi 110 (zk 45 [zzg 102,((.t 107),zzd),zI 109]),zm 101 110,zzt 111 101 0,zzt 112 101 1,zi 16 zzw,zn (.st 9 zzc (.t 16) (.t 111)),zm 17 112]
def qba4:IC:=.drw [zp (zzq 113 9 16),zzu 114 0,zp (zzp 115 5 3),zp (zzr 116 1 115),zp (zzp 117 5 4),zp (zzq 118 3 117),(zv 119 (.bld [(.str []),(.str []),(.int .i64 0),.nils] [(0,1,(.t 116)),(1,3,(.t 118))]),[]),zp (zzp 120 5 2),zp (zzr 121 1 120),(zi 122 (zk 25 [zI 114,((.t 119),zzd),zI 121]),[0]),zzu 123 17,zp (zv 124 (zq (.t 122) (.t 123))),(zn (.st 9 zzc (.t 6) (.t 113)),[]),zzu 7 124]
def qbaa:IC:=zr [zv 126 (zq (.t 23) (zc 6)),zm 125 126]
def qbhi:IC:=zr [zzq 128 9 4,zi 129 (zk 46 [zzg 128]),zm 127 129,zzt 130 127 0,zzt 131 127 1,zi 18 zzw,zn (.st 9 zzc (.t 18) (.t 130)),zm 19 131]
def qbel:IC:=.drw [zp (zzq 132 9 18),zzu 133 0,(zi 134 (zk 26 [zI 133]),[0]),zzu 135 19,zp (zv 136 (zq (.t 134) (.t 135))),(zn (.st 9 zzc (.t 6) (.t 132)),[]),zzu 7 136]
def q9s:IC:=zr [zv 138 (zq (.t 23) (zc 7)),zm 137 138]
def q95:IC:=zr [zm 139 0,zzp 140 5 1,zzr 141 1 140,zi 142 (zk 20 [zI 139,zI 141])]
def qbf6:IC:=zr [zzq 143 9 4,zzp 144 5 1,zzr 145 1 144,zi 146 (zk 47 [zzg 143,zI 145]),zn (.st 9 zzc (.t 6) (.t 146)),zzk 7]
def q9t:IC:=zr [zv 148 (zq (.t 23) (zc 8)),zm 147 148]
def qbe8:IC:=zr [zzq 150 9 4,zzp 151 5 1,zzr 152 1 151,zzp 153 5 10,zzq 154 6 153,zi 155 (zk 48 [zzg 150,zI 152,zzf 154]),zm 149 155,zzt 156 149 0,zzt 157 149 1,zi 20 zzw,zn (.st 9 zzc (.t 20) (.t 156)),zm 21 157]
def qbca:IC:=.drw [zp (zzq 158 9 20),zzu 159 0,zp (zzp 160 5 1),zp (zzr 161 1 160),zp (zzp 162 5 10),zp (zzq 163 6 162),(zi 164 (zk 28 [zI 159,zI 161,zzf 163]),[0]),zzu 165 21,zp (zv 166 (zq (.t 164) (.t 165))),(zn (.st 9 zzc (.t 6) (.t 158)),[]),zzu 7 166]
def qbd9:IC:=zr [zv 168 (zq (.t 23) (zc 9)),zm 167 168]
def qbgh:IC:=.drw [zp (zzq 169 9 4),zzu 170 0,zp (zzp 171 5 10),zp (zzq 172 6 171),(zi 173 (zk 30 [zI 170,zzf 172]),[0]),(zzq 174 9 4,[4]),zp (zzp 175 5 10),(zzq 176 6 175,[4]),(zi 177 (zk 49 [zzg 174,zzf 176]),[0]),(zi 178 (zk 29 [zzf 173,zzf 177]),[0]),(zn (.st 9 zzc (.t 6) (.t 169)),[]),zzu 7 178]
def qbay:IC:=zr [zzq 179 9 4,zn (.st 9 zzc (.t 6) (.t 179)),zzk 7]
def k0es:IC:=(.seq qbqe (.seq (.seq qb1m (.block 0 (.seq qb1h (.cond (.t 24) (.seq qbm2 (.seq qbva .ret)) (.seq qbqm (.cond (.t 36) (.seq qbqn (.seq qbor .ret)) (.seq qcbn (.cond (.t 48) (.seq qbp7 (.seq qbab .ret)) (.seq qbde (.cond (.t 60) (.seq qbj9 (.seq qbf9 .ret)) (.seq qbfu (.cond (.t 84) (.seq qben .ret) (.seq qbgl (.cond (.t 99) (.seq qbgm (.seq qba4 .ret)) (.seq qbaa (.cond (.t 125) (.seq qbhi (.seq qbel .ret)) (.seq q9s (.cond (.t 137) (.seq q95 (.seq qbf6 .ret)) (.seq q9t (.cond (.t 147) (.seq qbe8 (.seq qbca .ret)) (.seq qbd9 (.cond (.t 167) (.seq qbgh .ret) .skip)))))))))))))))))))))) (.seq qbay .ret)))
@[go_sem] def s0es:zzR:=[(.c true 9 6,zzc),(.t 7,.id)]
theorem c0es:cFun Tryz.prog 14=some (180,k0es,s0es):=by kernel_rfl

def qcm5:IC:=zr [zzn 3 1,zi 4 zzv]
def qck9:IC:=zr [zm 9 0,zv 10 (.bin .eql .ptr (.t 9) (.c .nilp))]
def qclx:IC:=zr [zv 11 (.bld [(.str []),(.int .i64 0),.nils] []),zn (.st 3 zza (.t 4) (.t 11))]
def qcih:IC:=zr [zm 13 0,zi 14 (zk 50 [zI 13]),zm 12 14,zzt 15 12 0,zzt 16 12 1,zm 5 15,zm 6 16]
def qcft:IC:=zr [zzq 18 3 3,zm 19 5,zm 20 6,zi 21 (zk 51 [zze 18,((.t 19),(.sl 1)),((.t 20),(.sl 3))]),zm 17 21,zzt 22 17 0,zzt 23 17 1,zi 7 zzv,zn (.st 3 zza (.t 7) (.t 22)),zm 8 23]
def qcet:IC:=zr [zm 24 8,zv 25 (.un .not (.t 24))]
def qcin:IC:=zr [zv 26 (.bld [(.str []),(.int .i64 0),.nils] []),zn (.st 3 zza (.t 4) (.t 26))]
def qcg8:IC:=zr [zzq 27 3 7,zn (.st 3 zza (.t 4) (.t 27))]
def k0i:IC:=(.seq qcm5 (.seq (.seq qck9 (.cond (.t 10) (.seq qclx .ret) .skip)) (.seq qcih (.seq qcft (.seq (.seq qcet (.cond (.t 25) (.seq qcin .ret) .skip)) (.seq qcg8 .ret))))))
@[go_sem] def s0i:zzR:=[(.c true 3 4,zza)]
theorem c0i:cFun Tryz.prog 15=some (28,k0i,s0i):=by kernel_rfl

def qb0i:IC:=zr [zzn 2 0,zzn 3 1,zv 4 zf]
def qb0d:IC:=zr [zzp 6 2 0,zzr 7 1 6,zzp 8 3 0,zzr 9 1 8,zv 10 (.bin .neq .no (.t 7) (.t 9)),zm 11 10,zw 11 false 12 (zd 2 1),zw 11 false 13 (zg 1 12),zw 11 false 14 (zd 3 1),zw 11 false 15 (zg 1 14),zw 11 false 16 (.bin .neq .no (.t 13) (.t 15)),zzi 17 11 16,zm 18 17,zw 18 false 19 (zd 2 2),zw 18 false 20 (zg 1 19),zw 18 false 21 (.len false (.t 20)),zw 18 false 22 (zd 3 2),zw 18 false 23 (zg 1 22),zw 18 false 24 (.len false (.t 23)),zw 18 false 25 (.bin .neq .no (.t 21) (.t 24)),zzi 26 18 25]
def qboh:IC:=zr [zv 4 zf]
def qb59:IC:=zr [zzj 5 0]
def qbvf:IC:=zr [zm 27 5,zzp 28 2 2,zzr 29 1 28,zzo 30 29,zzm 31 27 30]
def qcc4:IC:=.drw [zp (zzp 34 2 2),zp (zzr 35 1 34),zzu 36 5,zp (zzs 37 3 35 36),zp (zzq 38 3 37),zp (zzp 39 3 2),zp (zzr 40 1 39),zzu 41 5,zp (zzs 42 3 40 41),zp (zzq 43 3 42),(zi 44 (zk 16 [zze 38,zze 43]),[]),zp (zv 45 (.un .not (.t 44)))]
def qcbf:IC:=zr [zv 4 zf]
def qb7w:IC:=zr [zm 32 5,zzl 33 32 1,zm 5 33]
def qcc0:IC:=(.seq (.seq qbvf (.cond (.t 31) .skip (.exit 0))) (.seq (.block 1 (.seq qcc4 (.cond (.t 45) (.seq qcbf .ret) .skip))) qb7w))
def qbeh:IC:=zr [zzk 4]
def k0by:IC:=(.seq qb0i (.seq (.seq qb0d (.cond (.t 26) (.seq qboh .ret) .skip)) (.seq (.seq qb59 (.block 0 (.loop qcc0))) (.seq qbeh .ret))))
@[go_sem] def s0by:zzR:=[(.t 4,.id)]
theorem c0by:cFun Tryz.prog 16=some (46,k0by,s0by):=by kernel_rfl

def qcfr:IC:=zr [zv 6 zf]
def qck8:IC:=zr [zm 7 0,zv 8 (.bin .neq .ptr (.t 7) (.c .nilp)),zm 9 8,zw 9 true 10 (zo 0),zw 9 true 11 (.nck (.t 10)),zw 9 true 12 (zd 11 9),zw 9 true 13 (zg 1 12),zw 9 true 14 (zq (.t 13) (zc 0)),zzh 15 9 14]
def qcij:IC:=zr [zm 16 1,zv 17 (zq (.t 16) (zc 0))]
def qcfv:IC:=zr [zzj 1 1]
def qchm:IC:=zr [zm 18 0,zm 19 0,zm 20 1,zm 21 2,zv 22 (.nck (.t 18)),zzp 23 22 9,zn (.st 1 .id (.t 23) (.t 20)),zv 24 (.nck (.t 19)),zzp 25 24 8,zn (.st 1 .id (.t 25) (.t 21))]
def qchw:IC:=zr [zv 6 zf]
def k0n:IC:=(.seq qcfr (.seq (.seq qck8 (.cond (.t 15) (.seq (.seq qcij (.cond (.t 17) qcfv .skip)) qchm) .skip)) (.seq qchw .ret)))
@[go_sem] def s0n:zzR:=[(.t 6,.id)]
theorem c0n:cFun Tryz.prog 17=some (26,k0n,s0n):=by kernel_rfl

def qb7i:IC:=zr [zzn 3 0,zi 6 zzw]
def qb5e:IC:=zr [zzp 7 3 7,zzr 8 1 7,zv 9 (.bin .neq .no (.t 8) (zc 0))]
def qbur:IC:=zr [zzq 10 9 3,zn (.st 9 zzc (.t 6) (.t 10))]
def qbw1:IC:=zr [zm 11 1,zv 12 (zq (.t 11) (zc 0))]
def qb2b:IC:=zr [zzj 1 1]
def qb7d:IC:=zr [zm 13 1,zzp 14 3 7,zn (.st 1 .id (.t 14) (.t 13))]
def qbtf:IC:=zr [zm 15 2,zzp 16 3 8,zn (.st 1 .id (.t 16) (.t 15))]
def qbwk:IC:=zr [zzq 17 9 3,zn (.st 9 zzc (.t 6) (.t 17))]
def k0fv:IC:=(.seq qb7i (.seq (.seq qb5e (.cond (.t 9) (.seq qbur .ret) .skip)) (.seq (.seq qbw1 (.cond (.t 12) qb2b .skip)) (.seq qb7d (.seq qbtf (.seq qbwk .ret))))))
@[go_sem] def s0fv:zzR:=[(.c true 9 6,zzc)]
theorem c0fv:cFun Tryz.prog 18=some (18,k0fv,s0fv):=by kernel_rfl

def qcmt:IC:=zr [zzj 2 0,zzj 3 0]
def qcf4:IC:=zr [zm 4 0,zv 5 (.bin .eql .ptr (.t 4) (.c .nilp))]
def qcg6:IC:=zr [zzj 2 0,zzj 3 0]
def qcfi:IC:=.drw [zzu 6 0,zp (zv 7 (.nck (.t 6))),zp (zzp 8 7 8),zp (zzr 9 1 8),zzu 10 0,zp (zv 11 (.nck (.t 10))),zp (zzp 12 11 9),zp (zzr 13 1 12),zzu 2 9,zzu 3 13]
def k0o:IC:=(.seq qcmt (.seq (.seq qcf4 (.cond (.t 5) (.seq qcg6 .ret) .skip)) (.seq qcfi .ret)))
@[go_sem] def s0o:zzR:=[(.t 2,.id),(.t 3,.id)]
theorem c0o:cFun Tryz.prog 19=some (14,k0o,s0o):=by kernel_rfl

def qcla:IC:=zr [zm 4 0,zv 5 (.bin .neq .ptr (.t 4) (.c .nilp))]
def qcji:IC:=.drw [zzu 6 0,zzu 7 0,zp (zv 8 (.nck (.t 7))),zp (zzp 9 8 5),zp (zzr 10 1 9),zzu 11 1,zp (zv 12 (.mm true (.t 11) (zc 0))),zzu 13 0,zp (zv 14 (.nck (.t 13))),zp (zzp 15 14 5),zp (zzr 16 1 15),zp (zzo 17 16),zp (zv 18 (.mm false (.t 12) (.t 17))),zp (zv 19 (.slv 6 (.t 10) none (some (.t 18)) none)),zp (zv 20 (.nck (.t 6))),zp (zzp 21 20 5),(zn (.st 1 (.sl 6) (.t 21) (.t 19)),[])]
def k0q:IC:=(.seq qcla (.cond (.t 5) qcji .skip))
@[go_sem] def s0q:zzR:=[]
theorem c0q:cFun Tryz.prog 20=some (22,k0q,s0q):=by kernel_rfl

def qcez:IC:=zr [zi 2 zzv]
def qcey:IC:=zr [zm 3 0,zv 4 (.bin .eql .ptr (.t 3) (.c .nilp))]
def qcjt:IC:=zr [zv 5 (.bld [(.str []),(.int .i64 0),.nils] []),zn (.st 3 zza (.t 2) (.t 5))]
def qcgl:IC:=zr [zm 6 0,zv 7 (.nck (.t 6)),zzp 8 7 0,zzr 9 1 8,zzl 10 9 1,zv 11 (.nck (.t 6)),zzp 12 11 0,zn (.st 1 .id (.t 12) (.t 10))]
def qckb:IC:=zr [zm 13 0,zv 14 (.nck (.t 13)),zzp 15 14 0,zzr 16 1 15,zv 17 (.un .neg (.t 16)),zv 18 (.bld [(.str []),(.int .i64 0),.nils] [(1,1,(.t 17))]),zn (.st 3 zza (.t 2) (.t 18))]
def k0k:IC:=(.seq qcez (.seq (.seq qcey (.cond (.t 4) (.seq qcjt .ret) .skip)) (.seq qcgl (.seq qckb .ret))))
@[go_sem] def s0k:zzR:=[(.c true 3 2,zza)]
theorem c0k:cFun Tryz.prog 21=some (19,k0k,s0k):=by kernel_rfl

def qcmb:IC:=zr [zi 2 zzv]
def qce3:IC:=zr [zm 3 0,zv 4 (.bin .eql .ptr (.t 3) (.c .nilp))]
def qcf8:IC:=zr [zv 5 (.bld [(.str []),(.int .i64 0),.nils] []),zn (.st 3 zza (.t 2) (.t 5))]
def qcl0:IC:=zr [zm 6 0,zv 7 (.nck (.t 6)),zzp 8 7 1,zzr 9 1 8,zzl 10 9 1,zv 11 (.nck (.t 6)),zzp 12 11 1,zn (.st 1 .id (.t 12) (.t 10))]
def qcir:IC:=zr [zm 13 0,zv 14 (.nck (.t 13)),zzp 15 14 1,zzr 16 1 15,zv 17 (.bin .sub .no (.t 16) (zc 1)),zi 18 (zk 52 [zI 17]),zv 19 (.bin .add .no (.c (.str [33])) (.t 18)),zv 20 (.bld [(.str []),(.int .i64 0),.nils] [(0,1,(.t 19))]),zn (.st 3 zza (.t 2) (.t 20))]
def k0l:IC:=(.seq qcmb (.seq (.seq qce3 (.cond (.t 4) (.seq qcf8 .ret) .skip)) (.seq qcl0 (.seq qcir .ret))))
@[go_sem] def s0l:zzR:=[(.c true 3 2,zza)]
theorem c0l:cFun Tryz.prog 22=some (21,k0l,s0l):=by kernel_rfl

def qcgv:IC:=zr [zv 2 (.mov (.c (.str [])))]
def qcgn:IC:=zr [zm 3 0,zv 4 (.bin .eql .ptr (.t 3) (.c .nilp))]
def qclb:IC:=zr [zv 2 (.mov (.c (.str [])))]
def qcio:IC:=zr [zm 5 0,zv 6 (.nck (.t 5)),zzp 7 6 2,zzr 8 1 7,zzl 9 8 1,zv 10 (.nck (.t 5)),zzp 11 10 2,zn (.st 1 .id (.t 11) (.t 9))]
def qcle:IC:=zr [zm 12 0,zv 13 (.nck (.t 12)),zzp 14 13 2,zzr 15 1 14,zv 16 (.bin .sub .no (.t 15) (zc 1)),zi 17 (zk 52 [zI 16]),zv 18 (.bin .add .no (.c (.str [35])) (.t 17)),zm 2 18]
def k0m:IC:=(.seq qcgv (.seq (.seq qcgn (.cond (.t 4) (.seq qclb .ret) .skip)) (.seq qcio (.seq qcle .ret))))
@[go_sem] def s0m:zzR:=[(.t 2,.id)]
theorem c0m:cFun Tryz.prog 23=some (19,k0m,s0m):=by kernel_rfl

def qclu:IC:=zr [zzn 4 1,zzj 6 0]
def qckv:IC:=zr [zm 8 0,zv 9 (.bin .eql .ptr (.t 8) (.c .nilp))]
def qchi:IC:=zr [zzj 6 0]
def qcfu:IC:=zr [zm 10 0,zi 11 (zk 26 [zI 10]),zm 7 11]
def qbli:IC:=.drw [zzu 12 0,zzu 13 0,zp (zv 14 (.nck (.t 13))),zp (zzp 15 14 5),zp (zzr 16 1 15),zzu 17 0,zp (zv 18 (.nck (.t 17))),zp (zzp 19 18 5),zp (zzr 20 1 19),zp (zzo 21 20),zzu 22 0,zp (zv 23 (.nck (.t 22))),zp (zzp 24 23 5),zp (zzr 25 1 24),zp (zzo 26 25),zp (zv 27 (.slv 6 (.t 16) none (some (.t 21)) (some (.t 26)))),zp (zzq 28 4 4),zzu 29 2,zzu 30 7,(zv 31 (.bld [(.str []),(.str []),(.int .i64 0),.nils,(.int .i64 0),(.int .i64 0)] [(0,4,(.t 28)),(4,1,(.t 29)),(5,1,(.t 30))]),[]),(zv 32 (.bsl 6 [((.t 31),(.agg [.id,.id,.id,(.sl 3),.id,.id]))]),[]),(zi 33 (.app 6 (.agg [(.str []),(.str []),(.int .i64 0),.nils,(.int .i64 0),(.int .i64 0)]) 80 (.sl 6) (.t 27) (.t 32)),[]),zp (zv 34 (.nck (.t 12))),zp (zzp 35 34 5),(zn (.st 1 (.sl 6) (.t 35) (.t 33)),[])]
def qbk5:IC:=zr [zm 36 7,zm 6 36]
def k0j:IC:=(.seq qclu (.seq (.seq qckv (.cond (.t 9) (.seq qchi .ret) .skip)) (.seq qcfu (.seq qbli (.seq qbk5 .ret)))))
@[go_sem] def s0j:zzR:=[(.t 6,.id)]
theorem c0j:cFun Tryz.prog 25=some (37,k0j,s0j):=by kernel_rfl

def qcfa:IC:=zr [zzj 2 0]
def qcf2:IC:=zr [zm 3 0,zv 4 (.bin .eql .ptr (.t 3) (.c .nilp))]
def qciw:IC:=zr [zzj 2 0]
def qclr:IC:=zr [zm 5 0,zv 6 (.nck (.t 5)),zzp 7 6 3,zzr 8 1 7,zzl 9 8 1,zv 10 (.nck (.t 5)),zzp 11 10 3,zn (.st 1 .id (.t 11) (.t 9))]
def qcg2:IC:=.drw [zzu 12 0,zp (zv 13 (.nck (.t 12))),zp (zzp 14 13 7),zp (zzr 15 1 14),zzu 16 0,zp (zv 17 (.nck (.t 16))),zp (zzp 18 17 3),zp (zzr 19 1 18),zp (zv 20 (.bin .sub .no (.t 19) (zc 1))),(zn (.call (.c (.eptr 95 [] 3 0)) [zI 15,zI 20,((zc 1),.id)]),[])]
def qclw:IC:=zr [zm 21 0,zv 22 (.nck (.t 21)),zzp 23 22 3,zzr 24 1 23,zv 25 (.bin .sub .no (.t 24) (zc 1)),zm 2 25]
def k0p:IC:=(.seq qcfa (.seq (.seq qcf2 (.cond (.t 4) (.seq qciw .ret) .skip)) (.seq qclr (.seq qcg2 (.seq qclw .ret)))))
@[go_sem] def s0p:zzR:=[(.t 2,.id)]
theorem c0p:cFun Tryz.prog 26=some (26,k0p,s0p):=by kernel_rfl

def qclt:IC:=zr [zv 4 (.mov (.c .nils))]
def qcm4:IC:=zr [zm 10 0,zv 11 (.bin .eql .ptr (.t 10) (.c .nilp))]
def qch9:IC:=zr [zv 4 (.mov (.c .nils))]
def qclm:IC:=zr [zv 5 (.mov (.c .nils))]
def qcfz:IC:=.drw [zzu 12 0,zp (zv 13 (.nck (.t 12))),zp (zzp 14 13 5),zp (zzr 15 1 14),zzu 16 1,zp (zv 17 (.mm true (.t 16) (zc 0))),zzu 18 0,zp (zv 19 (.nck (.t 18))),zp (zzp 20 19 5),zp (zzr 21 1 20),zp (zzo 22 21),zp (zv 23 (.mm false (.t 17) (.t 22))),zp (zv 24 (.slv 6 (.t 15) (some (.t 23)) none none)),zp (zzo 25 24),zp (zzj 26 0)]
def qckw:IC:=zr [zzm 27 26 25]
def qcld:IC:=zr [zzs 28 6 24 26,zzq 29 6 28,zi 7 (.alo [(.str []),(.str []),(.int .i64 0),.nils,(.int .i64 0),(.int .i64 0)]),zn (.st 6 (.agg [.id,.id,.id,(.sl 3),.id,.id]) (.t 7) (.t 29))]
def qcg9:IC:=.drw [zzu 31 0,zp (zv 32 (.nck (.t 31))),zp (zzp 33 32 4),zp (zzr 34 1 33),zp (zzp 35 7 0),zp (zzp 36 35 1),zp (zzq 37 3 36),(zi 38 (zk 53 [zI 34,zze 37]),[]),zzu 30 38,zp (zzt 39 30 0),zp (zzt 40 30 1),(zi 8 zzv,[3,6,7]),(zn (.st 3 zza (.t 8) (.t 39)),[]),zzu 9 40]
def qcmk:IC:=zr [zm 41 9,zv 42 (zq (.t 41) (zc 0))]
def qb5g:IC:=zr [zzq 43 3 8,zzp 44 7 0,zzp 45 44 1,zn (.st 3 zza (.t 45) (.t 43))]
def qb5l:IC:=zr [zm 46 5,zzq 47 6 7,zv 48 (.bsl 6 [((.t 47),(.agg [.id,.id,.id,(.sl 3),.id,.id]))]),zi 49 (.app 6 (.agg [(.str []),(.str []),(.int .i64 0),.nils,(.int .i64 0),(.int .i64 0)]) 80 (.sl 6) (.t 46) (.t 48)),zm 5 49]
def qbrp:IC:=zr [zzl 50 26 1,zm 26 50]
def qcki:IC:=(.seq qckw (.seq (.cond (.t 27) .skip (.exit 0)) (.seq (.block 1 (.seq qcld (.seq (.seq qcg9 (.seq qcmk (.cond (.t 42) qb5g .skip))) qb5l))) qbrp)))
def qbpt:IC:=zr [zm 51 5,zm 4 51]
def k0f:IC:=(.seq qclt (.seq (.seq qcm4 (.cond (.t 11) (.seq qch9 .ret) .skip)) (.seq qclm (.seq (.seq qcfz (.block 0 (.loop qcki))) (.seq qbpt .ret)))))
@[go_sem] def s0f:zzR:=[(.t 4,(.sl 6))]
theorem c0f:cFun Tryz.prog 27=some (52,k0f,s0f):=by kernel_rfl

def qckk:IC:=zr [zzn 5 2,zzj 6 0]
def qcic:IC:=zr [zm 7 0,zv 8 (.bin .eql .ptr (.t 7) (.c .nilp)),zm 9 8,zw 9 false 10 (zo 1),zw 9 false 11 (.bin .lss .no (.t 10) (zc 0)),zzi 12 9 11,zm 13 12,zw 13 false 14 (zo 1),zw 13 false 15 (zo 0),zw 13 false 16 (.nck (.t 15)),zw 13 false 17 (zd 16 3),zw 13 false 18 (zg 1 17),zw 13 false 19 (.bin .geq .no (.t 14) (.t 18)),zzi 20 13 19,zm 21 20,zw 21 false 22 (zl 6 5),zj 21 false 23 (zk 54 [zzf 22]),zw 21 false 24 (.un .not (.t 23)),zzi 25 21 24,zm 26 25,zw 26 false 27 (zl 6 5),zw 26 false 28 (zo 1),zw 26 false 29 (.bin .add .no (.t 28) (zc 1)),zj 26 false 30 (zk 55 [zzf 27,zI 29]),zw 26 false 31 (zo 1),zw 26 false 32 (.bin .leq .no (.t 30) (.t 31)),zzi 33 26 32]
def qcfo:IC:=zr [zzj 6 1]
def qcjj:IC:=zr [zm 34 0,zv 35 (.nck (.t 34)),zzp 36 35 7,zzr 37 1 36,zm 38 1,zi 39 (.call (.c (.eptr 95 [] 1 0)) [zI 37,zI 38]),zv 40 (zq (.t 39) (zc 0))]
def qcig:IC:=zr [zzj 6 6]
def qcgk:IC:=zr [zm 41 0,zv 42 (.nck (.t 41)),zzp 43 42 7,zzr 44 1 43,zm 45 1,zn (.call (.c (.eptr 95 [] 4 0)) [zI 44,zI 45])]
def qcjc:IC:=.drw [zzu 46 0,zp (zv 47 (.nck (.t 46))),zp (zzp 48 47 6),zp (zzr 49 1 48),zzu 50 1,zp (zzq 51 6 5),(zn (.call (.c (.eptr 94 [] 3 0)) [zI 49,zI 50,zzf 51]),[])]
def qchf:IC:=zr [zzj 6 0]
def k0g:IC:=(.seq qckk (.seq (.seq qcic (.cond (.t 33) (.seq qcfo .ret) .skip)) (.seq (.seq qcjj (.cond (.t 40) (.seq qcig .ret) .skip)) (.seq qcgk (.seq qcjc (.seq qchf .ret))))))
@[go_sem] def s0g:zzR:=[(.t 6,.id)]
theorem c0g:cFun Tryz.prog 28=some (52,k0g,s0g):=by kernel_rfl

def qbol:IC:=zr [zzn 2 0,zzn 3 1,zv 4 zf]
def qbzx:IC:=zr [zzp 7 2 0,zzr 8 1 7,zzp 9 3 0,zzr 10 1 9,zv 11 (.bin .neq .no (.t 8) (.t 10)),zm 12 11,zw 12 false 13 (zd 2 1),zw 12 false 14 (zg 1 13),zw 12 false 15 (zd 3 1),zw 12 false 16 (zg 1 15),zw 12 false 17 (.bin .neq .no (.t 14) (.t 16)),zzi 18 12 17,zm 19 18,zw 19 false 20 (zd 2 2),zw 19 false 21 (zg 1 20),zw 19 false 22 (zd 3 2),zw 19 false 23 (zg 1 22),zw 19 false 24 (.bin .neq .no (.t 21) (.t 23)),zzi 25 19 24,zm 26 25,zw 26 false 27 (zd 2 3),zw 26 false 28 (zg 1 27),zw 26 false 29 (.len false (.t 28)),zw 26 false 30 (zd 3 3),zw 26 false 31 (zg 1 30),zw 26 false 32 (.len false (.t 31)),zw 26 false 33 (.bin .neq .no (.t 29) (.t 32)),zzi 34 26 33,zm 35 34,zw 35 false 36 (zd 2 5),zw 35 false 37 (zg 1 36),zw 35 false 38 (.len false (.t 37)),zw 35 false 39 (zd 3 5),zw 35 false 40 (zg 1 39),zw 35 false 41 (.len false (.t 40)),zw 35 false 42 (.bin .neq .no (.t 38) (.t 41)),zzi 43 35 42,zm 44 43,zw 44 false 45 (zd 2 4),zw 44 false 46 (zg 1 45),zw 44 false 47 (zd 3 4),zw 44 false 48 (zg 1 47),zj 44 false 49 (zk 56 [((.t 46),(.sl 3)),((.t 48),(.sl 3))]),zw 44 false 50 (.un .not (.t 49)),zzi 51 44 50]
def qbql:IC:=zr [zv 4 zf]
def qb89:IC:=zr [zzj 5 0]
def qbyt:IC:=zr [zm 52 5,zzp 53 2 3,zzr 54 1 53,zzo 55 54,zzm 56 52 55]
def qboo:IC:=.drw [zp (zzp 59 2 3),zp (zzr 60 1 59),zzu 61 5,zp (zzs 62 1 60 61),zp (zzr 63 1 62),zp (zzp 64 3 3),zp (zzr 65 1 64),zzu 66 5,zp (zzs 67 1 65 66),zp (zzr 68 1 67),zp (zv 69 (.bin .neq .no (.t 63) (.t 68)))]
def qcdy:IC:=zr [zv 4 zf]
def qbwx:IC:=zr [zm 57 5,zzl 58 57 1,zm 5 58]
def qbx8:IC:=(.seq (.seq qbyt (.cond (.t 56) .skip (.exit 0))) (.seq (.block 1 (.seq qboo (.cond (.t 69) (.seq qcdy .ret) .skip))) qbwx))
def qbbc:IC:=zr [zzj 6 0]
def qbix:IC:=zr [zm 70 6,zzp 71 2 5,zzr 72 1 71,zzo 73 72,zzm 74 70 73]
def qbas:IC:=.drw [zp (zzp 77 2 5),zp (zzr 78 1 77),zzu 79 6,zp (zzs 80 6 78 79),zp (zzq 81 6 80),zp (zzp 82 3 5),zp (zzr 83 1 82),zzu 84 6,zp (zzs 85 6 83 84),zp (zzq 86 6 85),(zi 87 (zk 29 [zzf 81,zzf 86]),[]),zp (zv 88 (.un .not (.t 87)))]
def qbhd:IC:=zr [zv 4 zf]
def qbfe:IC:=zr [zm 75 6,zzl 76 75 1,zm 6 76]
def qbje:IC:=(.seq (.seq qbix (.cond (.t 74) .skip (.exit 2))) (.seq (.block 3 (.seq qbas (.cond (.t 88) (.seq qbhd .ret) .skip))) qbfe))
def qbam:IC:=zr [zzk 4]
def k0eu:IC:=(.seq qbol (.seq (.seq qbzx (.cond (.t 51) (.seq qbql .ret) .skip)) (.seq (.seq qb89 (.block 0 (.loop qbx8))) (.seq (.seq qbbc (.block 2 (.loop qbje))) (.seq qbam .ret)))))
@[go_sem] def s0eu:zzR:=[(.t 4,.id)]
theorem c0eu:cFun Tryz.prog 29=some (89,k0eu,s0eu):=by kernel_rfl

def qcka:IC:=zr [zzn 3 1,zi 4 zzx]
def qcm0:IC:=zr [zm 9 0,zv 10 (.bin .eql .ptr (.t 9) (.c .nilp)),zm 11 10,zw 11 false 12 (zl 6 3),zj 11 false 13 (zk 54 [zzf 12]),zw 11 false 14 (.un .not (.t 13)),zzi 15 11 14]
def qcga:IC:=zr [zv 16 (.bld [(.int .i64 0),(.int .i64 0),(.str []),.nils,.nils,.nils] []),zn (.st 6 zzb (.t 4) (.t 16))]
def qckj:IC:=zr [zm 18 0,zi 19 (zk 50 [zI 18]),zm 17 19,zzt 20 17 0,zzt 21 17 1,zm 5 20,zm 6 21]
def qcgi:IC:=zr [zm 22 0,zm 23 5,zm 24 6,zv 25 (.bld [.nilp,.nils,.nils,(.int .i64 0)] [(0,1,(.t 22)),(1,1,(.t 23)),(2,1,(.t 24)),(3,1,(zc 4096))]),zzn 26 25,zm 7 26]
def qbk9:IC:=zr [zm 27 7,zzq 28 6 3,zi 29 (zk 57 [zI 27,zzf 28]),zi 8 zzx,zn (.st 6 zzb (.t 8) (.t 29))]
def qblk:IC:=zr [zm 30 7,zv 31 (.nck (.t 30)),zzp 32 31 3,zzr 33 1 32,zv 34 (.bin .lss .no (.t 33) (zc 0)),zm 35 34,zw 35 false 36 (zl 6 8),zj 35 false 37 (zk 54 [zzf 36]),zw 35 false 38 (.un .not (.t 37)),zzi 39 35 38]
def qce2:IC:=zr [zv 40 (.bld [(.int .i64 0),(.int .i64 0),(.str []),.nils,.nils,.nils] []),zn (.st 6 zzb (.t 4) (.t 40))]
def qcgx:IC:=zr [zzq 41 6 8,zn (.st 6 zzb (.t 4) (.t 41))]
def k0b:IC:=(.seq qcka (.seq (.seq qcm0 (.cond (.t 15) (.seq qcga .ret) .skip)) (.seq qckj (.seq qcgi (.seq qbk9 (.seq (.seq qblk (.cond (.t 39) (.seq qce2 .ret) .skip)) (.seq qcgx .ret)))))))
@[go_sem] def s0b:zzR:=[(.c true 6 4,zzb)]
theorem c0b:cFun Tryz.prog 30=some (42,k0b,s0b):=by kernel_rfl

def qb04:IC:=zr [zzj 2 0]
def qbx9:IC:=zr [zzj 3 3000]
def qbn5:IC:=zr [zzj 4 0]
def qby0:IC:=zr [zm 5 4,zm 6 0,zzo 7 6,zzm 8 5 7]
def qbok:IC:=zr [zm 11 0,zm 12 4,zzs 13 6 11 12,zzq 14 6 13,zm 15 3,zi 16 (zk 66 [zzf 14,zI 15,((zc 450),.id)]),zm 3 16]
def qbta:IC:=zr [zm 9 4,zzl 10 9 1,zm 4 10]
def qbpc:IC:=(.seq (.seq qby0 (.cond (.t 8) .skip (.exit 0))) (.seq (.block 1 qbok) qbta))
def qbyi:IC:=zr [zm 17 3,zv 18 (.bin .lss .no (.t 17) (zc 0))]
def qb3x:IC:=zr [zzj 2 0]
def q91:IC:=zr [zzj 2 1]
def k0eo:IC:=(.seq qb04 (.seq qbx9 (.seq (.seq qbn5 (.block 0 (.loop qbpc))) (.seq (.seq qbyi (.cond (.t 18) (.seq qb3x .ret) .skip)) (.seq q91 .ret)))))
@[go_sem] def s0eo:zzR:=[(.t 2,.id)]
theorem c0eo:cFun Tryz.prog 35=some (19,k0eo,s0eo):=by kernel_rfl

def qbtr:IC:=zr [zzn 1 0,zzj 2 0]
def qbmv:IC:=zr [zzj 3 1]
def qcbx:IC:=zr [zzj 4 0]
def qceh:IC:=zr [zm 5 4,zzp 6 1 5,zzr 7 1 6,zzo 8 7,zzm 9 5 8]
def qbrz:IC:=zr [zm 12 3,zzp 13 1 5,zzr 14 1 13,zm 15 4,zzs 16 6 14 15,zzq 17 6 16,zi 18 (zk 36 [zzf 17]),zv 19 (.bin .add .no (.t 12) (.t 18)),zm 3 19]
def qb3b:IC:=zr [zm 10 4,zzl 11 10 1,zm 4 11]
def qccs:IC:=(.seq (.seq qceh (.cond (.t 9) .skip (.exit 0))) (.seq (.block 1 qbrz) qb3b))
def qb76:IC:=zr [zm 20 3,zm 2 20]
def k0ep:IC:=(.seq qbtr (.seq qbmv (.seq (.seq qcbx (.block 0 (.loop qccs))) (.seq qb76 .ret))))
@[go_sem] def s0ep:zzR:=[(.t 2,.id)]
theorem c0ep:cFun Tryz.prog 36=some (21,k0ep,s0ep):=by kernel_rfl

def qb6a:IC:=zr [zzn 3 0,zzj 6 0]
def qcax:IC:=zr [zm 8 1,zv 9 (.bin .sub .no (.t 8) (zc 1)),zm 1 9]
def qbz7:IC:=zr [zm 10 2,zv 11 (.bin .lss .no (.t 10) (zc 1))]
def qbny:IC:=zr [zv 6 (.mov (zc (-1)))]
def qbxt:IC:=zr [zzj 7 0]
def qbw5:IC:=zr [zm 12 7,zzp 13 3 2,zzr 14 1 13,zzo 15 14,zzm 16 12 15,zm 17 16,zw 17 true 18 (zo 1),zw 17 true 19 (.bin .geq .no (.t 18) (zc 0)),zzh 20 17 19]
def qb1x:IC:=zr [zzp 23 3 2,zzr 24 1 23,zm 25 7,zzs 26 3 24 25,zzq 27 3 26,zm 28 1,zm 29 2,zv 30 (.bin .sub .no (.t 29) (zc 1)),zi 31 (zk 37 [zze 27,zI 28,zI 30]),zm 1 31]
def qbsl:IC:=zr [zm 21 7,zzl 22 21 1,zm 7 22]
def qb9u:IC:=(.seq (.seq qbw5 (.cond (.t 20) .skip (.exit 0))) (.seq (.block 1 qb1x) qbsl))
def qbfd:IC:=zr [zm 32 1,zm 6 32]
def k0dm:IC:=(.seq qb6a (.seq qcax (.seq (.seq qbz7 (.cond (.t 11) (.seq qbny .ret) .skip)) (.seq (.seq qbxt (.block 0 (.loop qb9u))) (.seq qbfd .ret)))))
@[go_sem] def s0dm:zzR:=[(.t 6,.id)]
theorem c0dm:cFun Tryz.prog 37=some (33,k0dm,s0dm):=by kernel_rfl

def qb9p:IC:=zr [zzn 1 0,zv 2 (.mov (.c (.str [])))]
def qb23:IC:=zr [zzq 3 3 1,zi 4 (zk 67 [zze 3]),zv 5 (.un .not (.t 4))]
def qb2t:IC:=zr [zv 2 (.mov (.c (.str [])))]
def qb5z:IC:=zr [zzq 6 3 1,zi 7 (zk 68 [zze 6]),zm 2 7]
def k0dc:IC:=(.seq qb9p (.seq (.seq qb23 (.cond (.t 5) (.seq qb2t .ret) .skip)) (.seq qb5z .ret)))
@[go_sem] def s0dc:zzR:=[(.t 2,.id)]
theorem c0dc:cFun Tryz.prog 38=some (8,k0dc,s0dc):=by kernel_rfl

def qbxd:IC:=zr [zv 2 (.mov (.c .nilp))]
def qb24:IC:=zr [zv 6 (.bld [.nils] []),zzn 7 6,zm 3 7]
def qb2q:IC:=zr [zm 8 0,zzo 9 8,zzj 10 0]
def qb8d:IC:=zr [zzm 11 10 9]
def qbm5:IC:=zr [zzs 12 4 8 10,zzq 13 4 12,zi 5 (.alo [(.int .i64 0),(.str []),(.int .i64 0),.nils]),zn (.st 4 zzd (.t 5) (.t 13))]
def qbmi:IC:=zr [zm 14 3,zzp 15 5 0,zzr 16 1 15,zzp 17 5 1,zzq 18 3 17,zi 19 (zk 69 [zI 14,zI 16,zze 18])]
def qbl1:IC:=zr [zzl 20 10 1,zm 10 20]
def qbns:IC:=(.seq qb8d (.seq (.cond (.t 11) .skip (.exit 0)) (.seq (.block 1 (.seq qbm5 qbmi)) qbl1)))
def qcbh:IC:=zr [zm 21 3,zm 2 21]
def k0dw:IC:=(.seq qbxd (.seq qb24 (.seq (.seq qb2q (.block 0 (.loop qbns))) (.seq qcbh .ret))))
@[go_sem] def s0dw:zzR:=[(.t 2,.id)]
theorem c0dw:cFun Tryz.prog 39=some (22,k0dw,s0dw):=by kernel_rfl

def qcmd:IC:=zr [zzn 4 1,zzn 5 2,zv 6 (.mov (.c .nilp)),zzj 7 0]
def qcmq:IC:=zr [zm 13 0,zzq 14 3 4,zi 15 (zk 53 [zI 13,zze 14]),zm 12 15,zzt 16 12 0,zzt 17 12 1,zi 8 zzv,zn (.st 3 zza (.t 8) (.t 16)),zm 9 17]
def qcmo:IC:=zr [zm 18 9,zv 19 (.bin .neq .no (.t 18) (zc 0))]
def qchg:IC:=zr [zm 20 9,zv 6 (.mov (.c .nilp)),zm 7 20]
def qcm8:IC:=zr [zm 22 0,zzq 23 3 5,zi 24 (zk 53 [zI 22,zze 23]),zm 21 24,zzt 25 21 0,zzt 26 21 1,zi 10 zzv,zn (.st 3 zza (.t 10) (.t 25)),zm 9 26]
def qckz:IC:=zr [zm 27 9,zv 28 (.bin .neq .no (.t 27) (zc 0))]
def qcms:IC:=zr [zm 29 9,zv 6 (.mov (.c .nilp)),zm 7 29]
def qcl1:IC:=zr [zzq 31 3 8,zzq 32 3 10,zi 33 (zk 70 [zze 31,zze 32]),zm 30 33,zzt 34 30 0,zzt 35 30 1,zm 11 34,zm 9 35]
def qcl4:IC:=zr [zm 36 9,zv 37 (.bin .neq .no (.t 36) (zc 0))]
def qcid:IC:=zr [zm 38 9,zv 6 (.mov (.c .nilp)),zm 7 38]
def qbt3:IC:=zr [zm 39 0,zm 40 11,zi 41 (zk 71 [zI 39,zI 40]),zzt 42 41 0,zzt 43 41 1,zm 6 42,zm 7 43]
def k0d:IC:=(.seq qcmd (.seq qcmq (.seq (.seq qcmo (.cond (.t 19) (.seq qchg .ret) .skip)) (.seq qcm8 (.seq (.seq qckz (.cond (.t 28) (.seq qcms .ret) .skip)) (.seq qcl1 (.seq (.seq qcl4 (.cond (.t 37) (.seq qcid .ret) .skip)) (.seq qbt3 .ret))))))))
@[go_sem] def s0d:zzR:=[(.t 6,.id),(.t 7,.id)]
theorem c0d:cFun Tryz.prog 40=some (44,k0d,s0d):=by kernel_rfl

def qbm6:IC:=zr [zzn 4 1,zzn 5 2,zv 6 (.mov (.c .nils)),zzj 7 0]
def qbqx:IC:=zr [zm 11 0,zzq 12 3 4,zi 13 (zk 72 [((.t 11),(.sl 4)),zze 12]),zm 10 13,zzt 14 10 0,zzt 15 10 1,zn (.st 3 zza (.t 4) (.t 14)),zm 8 15]
def qbps:IC:=zr [zm 16 8,zv 17 (.bin .neq .no (.t 16) (zc 0))]
def qbum:IC:=zr [zm 18 8,zv 6 (.mov (.c .nils)),zm 7 18]
def qbu5:IC:=zr [zm 20 0,zzq 21 3 5,zi 22 (zk 72 [((.t 20),(.sl 4)),zze 21]),zm 19 22,zzt 23 19 0,zzt 24 19 1,zn (.st 3 zza (.t 5) (.t 23)),zm 8 24]
def qb7s:IC:=zr [zm 25 8,zv 26 (.bin .neq .no (.t 25) (zc 0))]
def qbq7:IC:=zr [zm 27 8,zv 6 (.mov (.c .nils)),zm 7 27]
def qb8w:IC:=zr [zzq 29 3 4,zzq 30 3 5,zi 31 (zk 73 [zze 29,zze 30]),zm 28 31,zzt 32 28 0,zzt 33 28 1,zm 9 32,zm 8 33]
def qb5i:IC:=zr [zm 34 8,zv 35 (.bin .neq .no (.t 34) (zc 0))]
def qcas:IC:=zr [zm 36 8,zv 6 (.mov (.c .nils)),zm 7 36]
def qbdj:IC:=zr [zm 37 0,zm 38 9,zi 39 (zk 74 [((.t 37),(.sl 4)),((.t 38),(.sl 4))]),zzt 40 39 0,zzt 41 39 1,zm 6 40,zm 7 41]
def k0ev:IC:=(.seq qbm6 (.seq qbqx (.seq (.seq qbps (.cond (.t 17) (.seq qbum .ret) .skip)) (.seq qbu5 (.seq (.seq qb7s (.cond (.t 26) (.seq qbq7 .ret) .skip)) (.seq qb8w (.seq (.seq qb5i (.cond (.t 35) (.seq qcas .ret) .skip)) (.seq qbdj .ret))))))))
@[go_sem] def s0ev:zzR:=[(.t 6,(.sl 4)),(.t 7,.id)]
theorem c0ev:cFun Tryz.prog 41=some (42,k0ev,s0ev):=by kernel_rfl

def qbox:IC:=zr [zzn 1 0,zi 2 zzw,zi 3 zzv]
def qbp2:IC:=zr [zzp 4 1 0,zzr 5 1 4,zzl 6 5 1,zzp 7 1 0,zn (.st 1 .id (.t 7) (.t 6))]
def qb87:IC:=.drw [zp (zzq 8 9 1),zp (zzp 9 1 0),zp (zzr 10 1 9),zp (zv 11 (.un .neg (.t 10))),(zi 12 (zk 75 [zI 11]),[0]),(zn (.st 9 zzc (.t 2) (.t 8)),[]),(zn (.st 3 zza (.t 3) (.t 12)),[])]
def k0fs:IC:=(.seq qbox (.seq qbp2 (.seq qb87 .ret)))
@[go_sem] def s0fs:zzR:=[(.c true 9 2,zzc),(.c true 3 3,zza)]
theorem c0fs:cFun Tryz.prog 42=some (13,k0fs,s0fs):=by kernel_rfl

def qb6j:IC:=zr [zzn 1 0,zi 2 zzw,zi 3 zzv]
def qb8z:IC:=zr [zzp 5 1 1,zzr 6 1 5,zi 7 (zk 76 [zI 6]),zv 8 (.bin .add .no (.c (.str [33])) (.t 7)),zv 9 (.bld [(.str []),(.int .i64 0),.nils] [(0,1,(.t 8))]),zi 4 zzv,zn (.st 3 zza (.t 4) (.t 9))]
def qcbb:IC:=zr [zzp 10 1 1,zzr 11 1 10,zzl 12 11 1,zzp 13 1 1,zn (.st 1 .id (.t 13) (.t 12))]
def qcei:IC:=.drw [zp (zzq 14 9 1),zp (zzq 15 3 4),(zn (.st 9 zzc (.t 2) (.t 14)),[1]),(zn (.st 3 zza (.t 3) (.t 15)),[])]
def k0ft:IC:=(.seq qb6j (.seq qb8z (.seq qcbb (.seq qcei .ret))))
@[go_sem] def s0ft:zzR:=[(.c true 9 2,zzc),(.c true 3 3,zza)]
theorem c0ft:cFun Tryz.prog 43=some (16,k0ft,s0ft):=by kernel_rfl

def qbwm:IC:=zr [zzn 1 0,zi 2 zzw,zv 3 (.mov (.c (.str [])))]
def qb3f:IC:=zr [zzp 5 1 2,zzr 6 1 5,zi 7 (zk 76 [zI 6]),zv 8 (.bin .add .no (.c (.str [35])) (.t 7)),zm 4 8]
def qcbs:IC:=zr [zzp 9 1 2,zzr 10 1 9,zzl 11 10 1,zzp 12 1 2,zn (.st 1 .id (.t 12) (.t 11))]
def qbo5:IC:=zr [zzq 13 9 1,zm 14 4,zn (.st 9 zzc (.t 2) (.t 13)),zm 3 14]
def k0fu:IC:=(.seq qbwm (.seq qb3f (.seq qcbs (.seq qbo5 .ret))))
@[go_sem] def s0fu:zzR:=[(.c true 9 2,zzc),(.t 3,.id)]
theorem c0fu:cFun Tryz.prog 44=some (15,k0fu,s0fu):=by kernel_rfl

def qcej:IC:=zr [zzn 3 0,zzn 4 1,zi 6 zzw,zzj 7 0]
def qbrl:IC:=zr [zzq 10 9 3,zi 11 (zk 46 [zzg 10]),zm 9 11,zzt 12 9 0,zzt 13 9 1,zn (.st 9 zzc (.t 3) (.t 12)),zm 8 13]
def qbvm:IC:=.drw [zp (zzp 14 3 5),zp (zzr 15 1 14),(zi 16 (.app 6 (.agg [(.str []),(.str []),(.int .i64 0),.nils,(.int .i64 0),(.int .i64 0)]) 80 (.sl 6) (.c .nils) (.t 15)),[]),(zzq 17 4 4,[2]),zzu 18 2,zzu 19 8,(zv 20 (.bld [(.str []),(.str []),(.int .i64 0),.nils,(.int .i64 0),(.int .i64 0)] [(0,4,(.t 17)),(4,1,(.t 18)),(5,1,(.t 19))]),[]),(zv 21 (.bsl 6 [((.t 20),(.agg [.id,.id,.id,(.sl 3),.id,.id]))]),[2]),(zi 22 (.app 6 (.agg [(.str []),(.str []),(.int .i64 0),.nils,(.int .i64 0),(.int .i64 0)]) 80 (.sl 6) (.t 16) (.t 21)),[]),zp (zzp 23 3 5),(zn (.st 1 (.sl 6) (.t 23) (.t 22)),[])]
def q5r:IC:=zr [zzq 24 9 3,zm 25 8,zn (.st 9 zzc (.t 6) (.t 24)),zm 7 25]
def k0ex:IC:=(.seq qcej (.seq qbrl (.seq qbvm (.seq q5r .ret))))
@[go_sem] def s0ex:zzR:=[(.c true 9 6,zzc),(.t 7,.id)]
theorem c0ex:cFun Tryz.prog 45=some (26,k0ex,s0ex):=by kernel_rfl

def qcav:IC:=zr [zzn 1 0,zi 2 zzw,zzj 3 0]
def qbo9:IC:=zr [zzp 4 1 3,zzr 5 1 4,zzl 6 5 1,zzp 7 1 3,zn (.st 1 .id (.t 7) (.t 6))]
def qcbi:IC:=.drw [zp (zzq 8 9 1),zp (zzp 9 1 3),zp (zzr 10 1 9),zp (zv 11 (.bin .sub .no (.t 10) (zc 1))),(zn (.st 9 zzc (.t 2) (.t 8)),[2]),zzu 3 11]
def k0fw:IC:=(.seq qcav (.seq qbo9 (.seq qcbi .ret)))
@[go_sem] def s0fw:zzR:=[(.c true 9 2,zzc),(.t 3,.id)]
theorem c0fw:cFun Tryz.prog 46=some (12,k0fw,s0fw):=by kernel_rfl

def qbpz:IC:=zr [zzn 2 0,zi 4 zzw]
def qcd0:IC:=zr [zzp 5 2 5,zzr 6 1 5,zm 7 1,zv 8 (.mm true (.t 7) (zc 0)),zzp 9 2 5,zzr 10 1 9,zzo 11 10,zv 12 (.mm false (.t 8) (.t 11)),zv 13 (.slv 6 (.t 6) none (some (.t 12)) none),zzp 14 2 5,zn (.st 1 (.sl 6) (.t 14) (.t 13))]
def qb37:IC:=zr [zzq 15 9 2,zn (.st 9 zzc (.t 4) (.t 15))]
def k0fx:IC:=(.seq qbpz (.seq qcd0 (.seq qb37 .ret)))
@[go_sem] def s0fx:zzR:=[(.c true 9 4,zzc)]
theorem c0fx:cFun Tryz.prog 47=some (16,k0fx,s0fx):=by kernel_rfl

def qb1f:IC:=zr [zzn 3 0,zzn 5 2,zi 6 zzw,zzj 7 0]
def qb2u:IC:=zr [zm 12 1,zv 13 (.bin .lss .no (.t 12) (zc 0)),zm 14 13,zw 14 false 15 (zo 1),zw 14 false 16 (zd 3 3),zw 14 false 17 (zg 1 16),zw 14 false 18 (.bin .geq .no (.t 15) (.t 17)),zzi 19 14 18,zm 20 19,zw 20 false 21 (zl 6 5),zj 20 false 22 (zk 77 [zzf 21]),zw 20 false 23 (.un .not (.t 22)),zzi 24 20 23]
def qbmp:IC:=zr [zzq 25 9 3,zn (.st 9 zzc (.t 6) (.t 25)),zzj 7 1]
def qbq9:IC:=zr [zzq 26 6 5,zi 27 (zk 78 [zzf 26]),zm 8 27]
def qcaq:IC:=zr [zzj 9 0]
def qbwd:IC:=zr [zm 28 9,zm 29 8,zzo 30 29,zzm 31 28 30]
def qbw8:IC:=zr [zm 34 8,zm 35 9,zzs 36 1 34 35,zzr 37 1 36,zm 38 1,zv 39 (.bin .leq .no (.t 37) (.t 38))]
def qcct:IC:=zr [zzq 40 9 3,zn (.st 9 zzc (.t 6) (.t 40)),zzj 7 1]
def qb0e:IC:=zr [zm 32 9,zzl 33 32 1,zm 9 33]
def qb10:IC:=(.seq (.seq qbwd (.cond (.t 31) .skip (.exit 0))) (.seq (.block 1 (.seq qbw8 (.cond (.t 39) (.seq qcct .ret) .skip))) qb0e))
def qbcc:IC:=zr [zzq 42 9 3,zm 43 1,zi 44 (zk 79 [zzg 42,zI 43]),zm 41 44,zzt 45 41 0,zzt 46 41 1,zi 10 zzx,zn (.st 6 zzb (.t 10) (.t 45)),zm 11 46]
def qbim:IC:=zr [zm 47 11]
def qbh1:IC:=zr [zzq 48 9 3,zn (.st 9 zzc (.t 6) (.t 48)),zzj 7 6]
def qbbb:IC:=.drw [zp (zzp 49 3 6),zp (zzr 50 1 49),(zi 51 (.app 7 (.agg [(.int .i64 0),(.int .i64 0),(.int .i64 0),(.str []),.nils,.nils,.nils]) 112 (.sl 7) (.c .nils) (.t 50)),[]),zzu 52 1,(zzq 53 6 5,[2]),(zv 54 (.bld [(.int .i64 0),(.int .i64 0),(.int .i64 0),(.str []),.nils,.nils,.nils] [(0,1,(.t 52)),(1,6,(.t 53))]),[]),(zv 55 (.bsl 7 [((.t 54),(.agg [.id,.id,.id,.id,(.sl 1),(.sl 3),(.sl 6)]))]),[2]),(zi 56 (.app 7 (.agg [(.int .i64 0),(.int .i64 0),(.int .i64 0),(.str []),.nils,.nils,.nils]) 112 (.sl 7) (.t 51) (.t 55)),[]),zp (zzp 57 3 6),(zn (.st 1 (.sl 7) (.t 57) (.t 56)),[])]
def qzj:IC:=zr [zzq 58 9 3,zn (.st 9 zzc (.t 6) (.t 58)),zzj 7 0]
def k0gb:IC:=(.seq qb1f (.seq (.seq qb2u (.cond (.t 24) (.seq qbmp .ret) .skip)) (.seq qbq9 (.seq (.seq qcaq (.block 0 (.loop qb10))) (.seq (.seq qbcc (.seq qbim (.cond (.t 47) (.seq qbh1 .ret) .skip))) (.seq qbbb (.seq qzj .ret)))))))
@[go_sem] def s0gb:zzR:=[(.c true 9 6,zzc),(.t 7,.id)]
theorem c0gb:cFun Tryz.prog 48=some (59,k0gb,s0gb):=by kernel_rfl

def qccu:IC:=zr [zzn 2 0,zzn 3 1,zi 4 zzx]
def qb9c:IC:=zr [zzq 6 6 3,zi 7 (zk 77 [zzf 6]),zv 8 (.un .not (.t 7))]
def qb7q:IC:=zr [zv 9 (.bld [(.int .i64 0),(.int .i64 0),(.str []),.nils,.nils,.nils] []),zn (.st 6 zzb (.t 4) (.t 9))]
def qbuf:IC:=zr [zzq 10 9 2,zzq 11 6 3,zi 12 (zk 80 [zzg 10,zzf 11]),zi 5 zzx,zn (.st 6 zzb (.t 5) (.t 12))]
def qbus:IC:=zr [zzq 13 6 5,zi 14 (zk 77 [zzf 13]),zv 15 (.un .not (.t 14))]
def qboj:IC:=zr [zv 16 (.bld [(.int .i64 0),(.int .i64 0),(.str []),.nils,.nils,.nils] []),zn (.st 6 zzb (.t 4) (.t 16))]
def qbtw:IC:=zr [zzq 17 6 5,zn (.st 6 zzb (.t 4) (.t 17))]
def k0gd:IC:=(.seq qccu (.seq (.seq qb9c (.cond (.t 8) (.seq qb7q .ret) .skip)) (.seq qbuf (.seq (.seq qbus (.cond (.t 15) (.seq qboj .ret) .skip)) (.seq qbtw .ret)))))
@[go_sem] def s0gd:zzR:=[(.c true 6 4,zzb)]
theorem c0gd:cFun Tryz.prog 49=some (18,k0gd,s0gd):=by kernel_rfl

def qce9:IC:=zr [zv 2 (.mov (.c .nils)),zv 3 (.mov (.c .nils))]
def qcln:IC:=zr [zv 4 (.mov (.c .nils))]
def qcfp:IC:=zr [zv 5 (.mov (.c .nils))]
def qcif:IC:=zr [zm 8 0,zv 9 (.nck (.t 8)),zzp 10 9 4,zzr 11 1 10,zi 12 (zk 81 [zI 11]),zzo 13 12,zzj 14 0]
def qcfb:IC:=zr [zzm 15 14 13]
def qch6:IC:=zr [zzs 16 4 12 14,zzq 17 4 16,zi 7 (.alo [(.int .i64 0),(.str []),(.int .i64 0),.nils]),zn (.st 4 zzd (.t 7) (.t 17))]
def qcjr:IC:=.drw [zzu 18 4,zp (zzp 19 7 0),zp (zzr 20 1 19),(zv 21 (.bsl 1 [zI 20]),[]),zp (zi 22 (.app 1 (.int .i64 0) 8 (.sl 1) (.t 18) (.t 21))),zzu 23 5,zp (zzp 24 7 1),(zzq 25 3 24,[4]),(zv 26 (.bsl 3 [zze 25]),[4]),(zi 27 (.app 3 (.agg [(.str []),(.int .i64 0),.nils]) 48 (.sl 3) (.t 23) (.t 26)),[]),zzu 4 22,zzu 5 27]
def qcme:IC:=zr [zzl 28 14 1,zm 14 28]
def qce6:IC:=(.seq qcfb (.seq (.cond (.t 15) .skip (.exit 0)) (.seq (.block 1 (.seq qch6 qcjr)) qcme)))
def qb3u:IC:=zr [zm 29 4,zm 30 5,zm 2 29,zm 3 30]
def k0h:IC:=(.seq qce9 (.seq qcln (.seq qcfp (.seq (.seq qcif (.block 0 (.loop qce6))) (.seq qb3u .ret)))))
@[go_sem] def s0h:zzR:=[(.t 2,(.sl 1)),(.t 3,(.sl 3))]
theorem c0h:cFun Tryz.prog 50=some (31,k0h,s0h):=by kernel_rfl

def qb99:IC:=zr [zzn 3 0,zi 6 zzv,zv 7 zf]
def qb4l:IC:=zr [zzq 9 3 3,zi 10 (zk 82 [zze 9]),zv 11 (.un .not (.t 10))]
def qceo:IC:=zr [zv 12 (.bld [(.str []),(.int .i64 0),.nils] []),zn (.st 3 zza (.t 6) (.t 12)),zv 7 zf]
def qb0j:IC:=zr [zzq 13 3 3,zm 14 1,zm 15 2,zi 16 (zk 83 [zze 13,((.t 14),(.sl 1)),((.t 15),(.sl 3))]),zi 8 zzv,zn (.st 3 zza (.t 8) (.t 16))]
def qb57:IC:=.drw [zp (zzq 17 3 8),zp (zzq 18 3 8),(zi 19 (zk 82 [zze 18]),[0]),(zn (.st 3 zza (.t 6) (.t 17)),[]),zzu 7 19]
def k0bl:IC:=(.seq qb99 (.seq (.seq qb4l (.cond (.t 11) (.seq qceo .ret) .skip)) (.seq qb0j (.seq qb57 .ret))))
@[go_sem] def s0bl:zzR:=[(.c true 3 6,zza),(.t 7,.id)]
theorem c0bl:cFun Tryz.prog 51=some (20,k0bl,s0bl):=by kernel_rfl

def qb64:IC:=zr [zv 2 (.mov (.c (.str [])))]
def qb8s:IC:=zr [zm 6 0,zv 7 (.cvi .u64 (.t 6)),zm 3 7]
def qca9:IC:=zr [zm 8 0,zv 9 (.bin .lss .no (.t 8) (zc 0))]
def qb1y:IC:=zr [zm 10 3,zv 11 (.un .neg (.t 10)),zm 3 11]
def qbl4:IC:=zr [zi 4 (.alo [(.int .u8 0),(.int .u8 0),(.int .u8 0),(.int .u8 0),(.int .u8 0),(.int .u8 0),(.int .u8 0),(.int .u8 0),(.int .u8 0),(.int .u8 0),(.int .u8 0),(.int .u8 0),(.int .u8 0),(.int .u8 0),(.int .u8 0),(.int .u8 0),(.int .u8 0),(.int .u8 0),(.int .u8 0),(.int .u8 0)])]
def qb7a:IC:=zr [zzj 5 20]
def qbxn:IC:=zr [zm 12 5,zv 13 (.bin .sub .no (.t 12) (zc 1)),zm 5 13]
def qbwl:IC:=zr [zm 14 5,zm 15 3,zv 16 (.bin .rem .no (.t 15) (.c (.int .u64 10))),zv 17 (.bin .add .no (.c (.int .u64 48)) (.t 16)),zv 18 (.cvi .u8 (.t 17)),zv 19 (.aad 1 20 (.t 4) (.t 14)),zn (.st 1 .id (.t 19) (.t 18))]
def qb96:IC:=zr [zm 20 3,zv 21 (.bin .quo .no (.t 20) (.c (.int .u64 10))),zm 3 21]
def qbjy:IC:=zr [zm 22 3,zv 23 (zq (.t 22) (.c (.int .u64 0)))]
def qbnq:IC:=(.block 1 (.seq qbxn (.seq qbwl (.seq qb96 (.seq qbjy (.cond (.t 23) (.exit 0) .skip))))))
def qbg3:IC:=zr [zm 24 0,zv 25 (.bin .lss .no (.t 24) (zc 0))]
def qbgk:IC:=zr [zm 26 5,zv 27 (.sla 20 (.t 4) (.t 26)),zv 28 (.cbs (.t 27)),zv 29 (.bin .add .no (.c (.str [45])) (.t 28)),zm 2 29]
def qbeo:IC:=zr [zm 30 5,zv 31 (.sla 20 (.t 4) (.t 30)),zv 32 (.cbs (.t 31)),zm 2 32]
def k0cu:IC:=(.seq qb64 (.seq qb8s (.seq (.seq qca9 (.cond (.t 9) qb1y .skip)) (.seq qbl4 (.seq qb7a (.seq (.block 0 (.loop qbnq)) (.seq (.seq qbg3 (.cond (.t 25) (.seq qbgk .ret) .skip)) (.seq qbeo .ret))))))))
@[go_sem] def s0cu:zzR:=[(.t 2,.id)]
theorem c0cu:cFun Tryz.prog 52=some (33,k0cu,s0cu):=by kernel_rfl

def qb0f:IC:=zr [zzn 3 1,zi 4 zzv,zzj 5 0]
def qb5v:IC:=zr [zzq 8 3 3,zi 9 (zk 67 [zze 8]),zv 10 (.un .not (.t 9))]
def qca4:IC:=zr [zv 11 (.bld [(.str []),(.int .i64 0),.nils] []),zn (.st 3 zza (.t 4) (.t 11)),zzj 5 1]
def qb88:IC:=zr [zm 12 0,zv 13 (.bld [.nilp,(.int .i64 0)] [(0,1,(.t 12)),(1,1,(zc 4096))]),zzn 14 13,zm 6 14]
def qbr3:IC:=zr [zm 15 6,zzq 16 3 3,zi 17 (zk 84 [zI 15,zze 16,((zc 1),.id)]),zi 7 zzv,zn (.st 3 zza (.t 7) (.t 17))]
def qbsd:IC:=zr [zm 18 6,zv 19 (.nck (.t 18)),zzp 20 19 1,zzr 21 1 20,zv 22 (.bin .lss .no (.t 21) (zc 0))]
def qb56:IC:=zr [zv 23 (.bld [(.str []),(.int .i64 0),.nils] []),zn (.st 3 zza (.t 4) (.t 23)),zzj 5 2]
def qbpn:IC:=zr [zzq 24 3 7,zn (.st 3 zza (.t 4) (.t 24)),zzj 5 0]
def k0dv:IC:=(.seq qb0f (.seq (.seq qb5v (.cond (.t 10) (.seq qca4 .ret) .skip)) (.seq qb88 (.seq qbr3 (.seq (.seq qbsd (.cond (.t 22) (.seq qb56 .ret) .skip)) (.seq qbpn .ret))))))
@[go_sem] def s0dv:zzR:=[(.c true 3 4,zza),(.t 5,.id)]
theorem c0dv:cFun Tryz.prog 53=some (25,k0dv,s0dv):=by kernel_rfl

def qch3:IC:=zr [zzn 1 0,zi 2 (.alo [(.bool false)])]
def qcfg:IC:=zr [zi 3 (.alo [(.int .i64 0)]),zn (.st 1 .id (.t 3) (zc 0))]
def qcnf:IC:=zr [zzq 5 6 1,zi 6 (zk 85 [zzf 5])]
def qcjb:IC:=zr [zzr 9 1 3,zzl 10 9 1,zn (.st 1 .id (.t 3) (.t 10))]
def qck3:IC:=zr [zzr 11 1 3,zv 12 (.bin .gtr .no (.t 11) (zc 4096)),zm 13 12,zw 13 false 14 (zo 4),zw 13 false 15 (.bin .gtr .no (.t 14) (zc 400)),zzi 16 13 15]
def qcg7:IC:=zr [zn (.st 1 .id (.t 2) (.c (.bool false)))]
def qblq:IC:=(.block 1 (.seq qcjb (.seq qck3 (.cond (.t 16) (.seq qcg7 .ret) .skip))))
def qbky:IC:=zr [zm 4 7]
def qcm7:IC:=zr [zzq 17 6 1,zi 18 (zk 86 [zzf 17]),zn (.st 1 .id (.t 2) (.t 18))]
def k0t:IC:=(.seq qch3 (.seq qcfg (.seq (.seq qcnf (.block 0 (.rng (.t 6) [7,8] qbky qblq))) (.seq qcm7 .ret))))
@[go_sem] def s0t:zzR:=[(.c false 1 2,.id)]
theorem c0t:cFun Tryz.prog 54=some (19,k0t,s0t):=by kernel_rfl

def qceu:IC:=zr [zzn 2 0,zzj 4 0]
def qcjl:IC:=zr [zzp 7 2 0,zzr 8 1 7,zv 9 (zq (.t 8) (zc 14))]
def qclp:IC:=zr [zzp 10 2 1,zzr 11 1 10,zm 12 1,zv 13 (.mm false (.t 11) (.t 12)),zm 4 13]
def qch5:IC:=zr [zzp 14 2 5,zzr 15 1 14,zzo 16 15,zzj 17 0]
def qcg3:IC:=zr [zzm 18 17 16]
def qce8:IC:=zr [zzs 19 6 15 17,zzq 20 6 19,zi 6 zzx,zn (.st 6 zzb (.t 6) (.t 20))]
def qcgb:IC:=zr [zzq 21 6 6,zm 22 1,zi 23 (zk 55 [zzf 21,zI 22]),zm 1 23]
def qcik:IC:=zr [zzl 24 17 1,zm 17 24]
def qcex:IC:=(.seq qcg3 (.seq (.cond (.t 18) .skip (.exit 0)) (.seq (.block 1 (.seq qce8 qcgb)) qcik)))
def qbqy:IC:=zr [zm 25 1,zm 4 25]
def k0u:IC:=(.seq qceu (.seq (.seq qcjl (.cond (.t 9) (.seq qclp .ret) .skip)) (.seq (.seq qch5 (.block 0 (.loop qcex))) (.seq qbqy .ret))))
@[go_sem] def s0u:zzR:=[(.t 4,.id)]
theorem c0u:cFun Tryz.prog 55=some (26,k0u,s0u):=by kernel_rfl

def qcc7:IC:=zr [zv 4 zf]
def qb0q:IC:=zr [zm 6 0,zzo 7 6,zm 8 1,zzo 9 8,zv 10 (.bin .neq .no (.t 7) (.t 9))]
def qb4o:IC:=zr [zv 4 zf]
def qca1:IC:=zr [zzj 5 0]
def qbmj:IC:=zr [zm 11 5,zm 12 0,zzo 13 12,zzm 14 11 13]
def qb3d:IC:=.drw [zzu 17 0,zzu 18 5,zp (zzs 19 3 17 18),zp (zzq 20 3 19),zzu 21 1,zzu 22 5,zp (zzs 23 3 21 22),zp (zzq 24 3 23),(zi 25 (zk 16 [zze 20,zze 24]),[]),zp (zv 26 (.un .not (.t 25)))]
def qbu3:IC:=zr [zv 4 zf]
def qccg:IC:=zr [zm 15 5,zzl 16 15 1,zm 5 16]
def qcep:IC:=(.seq (.seq qbmj (.cond (.t 14) .skip (.exit 0))) (.seq (.block 1 (.seq qb3d (.cond (.t 26) (.seq qbu3 .ret) .skip))) qccg))
def qbgf:IC:=zr [zzk 4]
def k0et:IC:=(.seq qcc7 (.seq (.seq qb0q (.cond (.t 10) (.seq qb4o .ret) .skip)) (.seq (.seq qca1 (.block 0 (.loop qcep))) (.seq qbgf .ret))))
@[go_sem] def s0et:zzR:=[(.t 4,.id)]
theorem c0et:cFun Tryz.prog 56=some (27,k0et,s0et):=by kernel_rfl

def qcew:IC:=zr [zzn 3 1,zi 4 zzx]
def qbk8:IC:=zr [zzp 15 3 0,zzr 16 1 15,zv 17 (zq (.t 16) (zc 14))]
def qckr:IC:=.drw [zzu 19 0,zp (zv 20 (.nck (.t 19))),zp (zzp 21 20 0),zp (zzr 22 1 21),zp (zv 23 (.nck (.t 22))),zp (zzp 24 23 6),zp (zzr 25 1 24),zp (zzp 26 3 1),zp (zzr 27 1 26),(zi 28 (.call (.c (.eptr 94 [] 2 0)) [zI 25,zI 27]),[]),zzu 18 28,zp (zzt 29 18 0),zp (zzt 30 18 1),(zi 5 zzx,[3,6,8,9]),(zn (.st 6 zzb (.t 5) (.t 29)),[]),zzu 6 30]
def qcgu:IC:=zr [zm 31 6]
def qce1:IC:=zr [zm 32 0,zzq 33 6 5,zi 34 (zk 57 [zI 32,zzf 33]),zn (.st 6 zzb (.t 4) (.t 34))]
def qbk6:IC:=zr [zm 35 0,zv 36 (.nck (.t 35)),zzp 37 36 3,zzr 38 1 37,zv 39 (.bin .sub .no (.t 38) (zc 1)),zv 40 (.nck (.t 35)),zzp 41 40 3,zn (.st 1 .id (.t 41) (.t 39))]
def qcgc:IC:=zr [zm 42 0,zv 43 (.nck (.t 42)),zzp 44 43 3,zzr 45 1 44,zv 46 (.bin .lss .no (.t 45) (zc 0))]
def qclf:IC:=zr [zzq 47 6 3,zn (.st 6 zzb (.t 4) (.t 47))]
def qcg4:IC:=zr [zzp 48 3 4,zzr 49 1 48,zzo 50 49,zi 51 (.mks 3 (.agg [(.str []),(.int .i64 0),.nils]) 48 (.t 50) (.t 50)),zm 7 51]
def qcis:IC:=zr [zzp 52 3 4,zzr 53 1 52,zzo 54 53,zzj 55 0]
def qb6w:IC:=zr [zzm 56 55 54]
def qbou:IC:=zr [zm 57 55,zzs 58 3 53 55,zzq 59 3 58,zi 9 zzv,zm 8 57,zn (.st 3 zza (.t 9) (.t 59))]
def qb9m:IC:=.drw [zp (zzq 61 3 9),zzu 62 0,zp (zv 63 (.nck (.t 62))),zp (zzp 64 63 1),zp (zzr 65 1 64),zzu 66 0,zp (zv 67 (.nck (.t 66))),zp (zzp 68 67 2),zp (zzr 69 1 68),(zi 70 (zk 51 [zze 61,((.t 65),(.sl 1)),((.t 69),(.sl 3))]),[]),zzu 60 70,zp (zzt 71 60 0),zp (zzt 72 60 1),(zi 10 zzv,[0,4,8,9]),(zn (.st 3 zza (.t 10) (.t 71)),[]),zzu 11 72]
def qbwv:IC:=zr [zm 73 11,zv 74 (.un .not (.t 73))]
def qbot:IC:=zr [zzq 75 3 9,zn (.st 3 zza (.t 10) (.t 75))]
def qcd8:IC:=zr [zm 76 7,zm 77 8,zzq 78 3 10,zzs 79 3 76 77,zn (.st 3 zza (.t 79) (.t 78))]
def qb1z:IC:=zr [zzl 80 55 1,zm 55 80]
def qbut:IC:=(.seq qb6w (.seq (.cond (.t 56) .skip (.exit 0)) (.seq (.block 1 (.seq qbou (.seq qb9m (.seq (.seq qbwv (.cond (.t 74) qbot .skip)) qcd8)))) qb1z)))
def qbmx:IC:=zr [zzp 81 3 5,zzr 82 1 81,zzo 83 82,zi 84 (.mks 6 (.agg [(.int .i64 0),(.int .i64 0),(.str []),.nils,.nils,.nils]) 104 (.t 83) (.t 83)),zm 12 84]
def qb6x:IC:=zr [zzp 85 3 5,zzr 86 1 85,zzo 87 86,zzj 88 0]
def qb16:IC:=zr [zzm 89 88 87]
def qb5j:IC:=zr [zm 90 88,zzs 91 6 86 88,zzq 92 6 91,zi 14 zzx,zm 13 90,zn (.st 6 zzb (.t 14) (.t 92))]
def qbty:IC:=zr [zm 93 12,zm 94 13,zm 95 0,zzq 96 6 14,zi 97 (zk 57 [zI 95,zzf 96]),zzs 98 6 93 94,zn (.st 6 zzb (.t 98) (.t 97))]
def qb2z:IC:=zr [zzl 99 88 1,zm 88 99]
def qb3m:IC:=(.seq qb16 (.seq (.cond (.t 89) .skip (.exit 2)) (.seq (.block 3 (.seq qb5j qbty)) qb2z)))
def qb49:IC:=zr [zm 100 7,zm 101 12,zzp 102 3 4,zn (.st 1 (.sl 3) (.t 102) (.t 100)),zzp 103 3 5,zn (.st 1 (.sl 6) (.t 103) (.t 101))]
def qbqw:IC:=zr [zzq 104 6 3,zn (.st 6 zzb (.t 4) (.t 104))]
def k0a:IC:=(.seq qcew (.seq (.seq qbk8 (.cond (.t 17) (.seq qckr (.seq qcgu (.cond (.t 31) (.seq qce1 .ret) .skip))) .skip)) (.seq (.seq qbk6 (.seq qcgc (.cond (.t 46) (.seq qclf .ret) .skip))) (.seq qcg4 (.seq (.seq qcis (.block 0 (.loop qbut))) (.seq qbmx (.seq (.seq qb6x (.block 2 (.loop qb3m))) (.seq qb49 (.seq qbqw .ret)))))))))
@[go_sem] def s0a:zzR:=[(.c true 6 4,zzb)]
theorem c0a:cFun Tryz.prog 57=some (105,k0a,s0a):=by kernel_rfl

def qb5p:IC:=zr [zzn 3 0,zzj 6 0]
def qb7z:IC:=zr [zm 8 1,zv 9 (.bin .sub .no (.t 8) (zc 1)),zm 1 9]
def qbu8:IC:=zr [zm 10 2,zv 11 (.bin .lss .no (.t 10) (zc 1)),zm 12 11,zw 12 false 13 (zd 3 3),zw 12 false 14 (zg 1 13),zw 12 false 15 (.len false (.t 14)),zw 12 false 16 (.bin .gtr .no (.t 15) (zc 100)),zzi 17 12 16,zm 18 17,zw 18 false 19 (zd 3 4),zw 18 false 20 (zg 1 19),zw 18 false 21 (.len false (.t 20)),zw 18 false 22 (.bin .gtr .no (.t 21) (zc 30)),zzi 23 18 22,zm 24 23,zw 24 false 25 (zd 3 4),zw 24 false 26 (zg 1 25),zj 24 false 27 (zk 8 [((.t 26),(.sl 3))]),zw 24 false 28 (zq (.t 27) (zc 0)),zzi 29 24 28]
def qcao:IC:=zr [zv 6 (.mov (zc (-1)))]
def q6z:IC:=zr [zzj 7 0]
def qcbg:IC:=zr [zm 30 7,zzp 31 3 5,zzr 32 1 31,zzo 33 32,zzm 34 30 33,zm 35 34,zw 35 true 36 (zo 1),zw 35 true 37 (.bin .geq .no (.t 36) (zc 0)),zzh 38 35 37]
def qcag:IC:=zr [zzp 41 3 5,zzr 42 1 41,zm 43 7,zzs 44 6 42 43,zzq 45 6 44,zm 46 1,zm 47 2,zv 48 (.bin .sub .no (.t 47) (zc 1)),zi 49 (zk 66 [zzf 45,zI 46,zI 48]),zm 1 49]
def qbnj:IC:=zr [zm 39 7,zzl 40 39 1,zm 7 40]
def qbm7:IC:=(.seq (.seq qcbg (.cond (.t 38) .skip (.exit 0))) (.seq (.block 1 qcag) qbnj))
def qbka:IC:=zr [zm 50 1,zm 6 50]
def k0eq:IC:=(.seq qb5p (.seq qb7z (.seq (.seq qbu8 (.cond (.t 29) (.seq qcao .ret) .skip)) (.seq (.seq q6z (.block 0 (.loop qbm7))) (.seq qbka .ret)))))
@[go_sem] def s0eq:zzR:=[(.t 6,.id)]
theorem c0eq:cFun Tryz.prog 66=some (51,k0eq,s0eq):=by kernel_rfl

def qbnt:IC:=zr [zzn 1 0,zv 2 zf]
def qb43:IC:=zr [zi 3 (.alo [(.int .i64 0)]),zn (.st 1 .id (.t 3) (zc 0))]
def qb2n:IC:=zr [zzq 4 3 1,zv 5 (.mfn 100 [] [(.t 3)]),zi 6 (zk 99 [zze 4,((zc 1),.id),zI 5]),zm 2 6]
def k0dg:IC:=(.seq qbnt (.seq qb43 (.seq qb2n .ret)))
@[go_sem] def s0dg:zzR:=[(.t 2,.id)]
theorem c0dg:cFun Tryz.prog 67=some (7,k0dg,s0dg):=by kernel_rfl

def qbro:IC:=zr [zzn 1 0,zv 2 (.mov (.c (.str [])))]
def qbqo:IC:=zr [zzp 6 1 0,zzr 7 1 6,zv 8 (zq (.t 7) (.c (.str [45,62])))]
def qbpq:IC:=.drw [zp (zzp 9 1 2),zp (zzr 10 1 9),zp (zv 11 (.iad 3 (.t 10) (zc 0))),zp (zzq 12 3 11),zp (zzp 13 1 2),zp (zzr 14 1 13),zp (zv 15 (.iad 3 (.t 14) (zc 0))),zp (zzp 16 15 0),zp (zzr 17 1 16),(zv 18 (zq (.t 17) (.c (.str [45,62]))),[]),(zi 19 (zk 103 [zze 12,zI 18]),[]),(zv 20 (.bin .add .no (.t 19) (.c (.str [32,45,62,32]))),[]),zp (zzp 21 1 2),(zzr 22 1 21,[10]),zp (zv 23 (.iad 3 (.t 22) (zc 1))),(zzq 24 3 23,[10]),(zi 25 (zk 68 [zze 24]),[]),zp (zv 26 (.bin .add .no (.t 20) (.t 25))),zzu 2 26]
def qb58:IC:=zr [zi 3 (.bld 202 5)]
def qb5r:IC:=zr [zzq 27 3 1,zi 28 (zk 101 [zze 27]),zi 29 (zk 105 [zI 28]),zi 30 (zk 104 [((.t 3),(.agg [.id,(.sl 1)])),zI 29])]
def qbup:IC:=zr [zzp 31 1 2,zzr 32 1 31,zzo 33 32,zzj 34 0]
def qcdh:IC:=zr [zzm 35 34 33]
def qb36:IC:=zr [zzs 36 3 32 34,zzq 37 3 36,zi 5 zzv,zn (.st 3 zza (.t 5) (.t 37))]
def qbyv:IC:=zr [zzq 38 3 5,zzp 39 5 2,zzr 40 1 39,zzo 41 40,zv 42 (.bin .gtr .no (.t 41) (zc 0)),zi 43 (zk 103 [zze 38,zI 42]),zv 44 (.bin .add .no (.c (.str [32])) (.t 43)),zi 45 (zk 104 [((.t 3),(.agg [.id,(.sl 1)])),zI 44])]
def qbac:IC:=zr [zzl 46 34 1,zm 34 46]
def qb39:IC:=(.seq qcdh (.seq (.cond (.t 35) .skip (.exit 0)) (.seq (.block 1 (.seq qb36 qbyv)) qbac)))
def qbiz:IC:=zr [zi 47 (zk 106 [((.t 3),(.agg [.id,(.sl 1)]))]),zm 2 47]
def k0db:IC:=(.seq qbro (.seq (.seq qbqo (.cond (.t 8) (.seq qbpq .ret) .skip)) (.seq qb58 (.seq qb5r (.seq (.seq qbup (.block 0 (.loop qb39))) (.seq qbiz .ret))))))
@[go_sem] def s0db:zzR:=[(.t 2,.id)]
theorem c0db:cFun Tryz.prog 68=some (48,k0db,s0db):=by kernel_rfl

def qbo3:IC:=zr [zzn 5 2,zzj 6 0]
def qb3q:IC:=zr [zm 9 0,zv 10 (.bin .eql .ptr (.t 9) (.c .nilp)),zm 11 10,zw 11 false 12 (zl 3 5),zj 11 false 13 (zk 67 [zze 12]),zw 11 false 14 (.un .not (.t 13)),zzi 15 11 14]
def qbxc:IC:=zr [zzj 6 1]
def qbvb:IC:=zr [zm 17 0,zm 18 1,zi 19 (zk 107 [zI 17,zI 18]),zm 16 19,zzt 20 16 0,zzt 21 16 1,zm 7 20,zm 8 21]
def qbqi:IC:=zr [zm 22 8]
def qbqc:IC:=zr [zzj 6 6]
def qbnz:IC:=.drw [zzu 23 0,zzu 24 0,zp (zv 25 (.nck (.t 24))),zp (zzp 26 25 0),zp (zzr 27 1 26),zzu 28 7,zzu 29 1,zp (zzq 30 3 5),(zi 31 (zk 109 [zze 30]),[4]),(zv 32 (.bld [(.int .i64 0),(.str []),(.int .i64 0),.nils] [(0,1,(.t 29)),(1,3,(.t 31))]),[]),(zv 33 (.bsl 4 [((.t 32),zzd)]),[]),(zi 34 (zk 108 [((.t 27),(.sl 4)),zI 28,((.t 33),(.sl 4))]),[]),zp (zv 35 (.nck (.t 23))),zp (zzp 36 35 0),(zn (.st 1 (.sl 4) (.t 36) (.t 34)),[])]
def qb5n:IC:=zr [zzj 6 0]
def k0dp:IC:=(.seq qbo3 (.seq (.seq qb3q (.cond (.t 15) (.seq qbxc .ret) .skip)) (.seq qbvb (.seq (.seq qbqi (.cond (.t 22) (.seq qbqc .ret) .skip)) (.seq qbnz (.seq qb5n .ret))))))
@[go_sem] def s0dp:zzR:=[(.t 6,.id)]
theorem c0dp:cFun Tryz.prog 69=some (37,k0dp,s0dp):=by kernel_rfl

def qcdp:IC:=zr [zzn 2 0,zzn 3 1,zv 4 (.mov (.c .nilp)),zzj 5 0]
def qb15:IC:=zr [zzq 6 3 2,zzq 7 3 3,zv 8 (.bsl 3 [zze 6,zze 7]),zi 9 (zk 110 [((.t 8),(.sl 3))]),zv 10 (.un .not (.t 9))]
def qb1q:IC:=zr [zv 4 (.mov (.c .nilp)),zzj 5 1]
def qbnm:IC:=zr [zzq 11 3 2,zzq 12 3 3,zv 13 (.bld [(.str []),(.int .i64 0),.nils,(.str []),(.int .i64 0),.nils] [(0,3,(.t 11)),(3,3,(.t 12))]),zv 14 (.bsl 6 [((.t 13),(.agg [.id,.id,(.sl 3),.id,.id,(.sl 3)]))]),zi 15 (zk 111 [((.t 14),(.sl 6))]),zzt 16 15 0,zzt 17 15 1,zm 4 16,zm 5 17]
def k0ed:IC:=(.seq qcdp (.seq (.seq qb15 (.cond (.t 10) (.seq qb1q .ret) .skip)) (.seq qbnm .ret)))
@[go_sem] def s0ed:zzR:=[(.t 4,.id),(.t 5,.id)]
theorem c0ed:cFun Tryz.prog 70=some (18,k0ed,s0ed):=by kernel_rfl

def qb30:IC:=zr [zv 4 (.mov (.c .nilp)),zzj 5 0]
def qbyy:IC:=zr [zi 13 (zk 39 [((.c .nils),(.sl 4))]),zm 6 13]
def qbry:IC:=zr [zm 14 0,zi 15 (zk 81 [zI 14]),zzo 16 15,zzj 17 0]
def qbm4:IC:=zr [zzm 18 17 16]
def qbzc:IC:=zr [zzs 19 4 15 17,zzq 20 4 19,zi 8 (.alo [(.int .i64 0),(.str []),(.int .i64 0),.nils]),zn (.st 4 zzd (.t 8) (.t 20))]
def qbze:IC:=zr [zm 22 1,zzp 23 8 1,zzq 24 3 23,zi 25 (zk 53 [zI 22,zze 24]),zm 21 25,zzt 26 21 0,zzt 27 21 1,zi 9 zzv,zn (.st 3 zza (.t 9) (.t 26)),zm 10 27]
def qbsx:IC:=zr [zm 28 10,zv 29 (.bin .neq .no (.t 28) (zc 0))]
def qbt2:IC:=zr [zm 30 10,zv 4 (.mov (.c .nilp)),zm 5 30]
def qbpo:IC:=zr [zm 31 6,zzp 32 8 0,zzr 33 1 32,zzq 34 3 9,zi 35 (zk 69 [zI 31,zI 33,zze 34])]
def qbhc:IC:=zr [zzl 36 17 1,zm 17 36]
def qbzy:IC:=(.seq qbm4 (.seq (.cond (.t 18) .skip (.exit 0)) (.seq (.block 1 (.seq qbzc (.seq qbze (.seq (.seq qbsx (.cond (.t 29) (.seq qbt2 .ret) .skip)) qbpo)))) qbhc)))
def qbki:IC:=zr [zm 37 1,zi 38 (zk 81 [zI 37]),zzo 39 38,zzj 40 0]
def qbe5:IC:=zr [zzm 41 40 39]
def qbei:IC:=zr [zzs 42 4 38 40,zzq 43 4 42,zi 12 (.alo [(.int .i64 0),(.str []),(.int .i64 0),.nils]),zn (.st 4 zzd (.t 12) (.t 43))]
def qbdl:IC:=zr [zm 44 6,zzp 45 12 0,zzr 46 1 45,zzp 47 12 1,zzq 48 3 47,zi 49 (zk 69 [zI 44,zI 46,zze 48])]
def qbhz:IC:=zr [zzl 50 40 1,zm 40 50]
def qbaq:IC:=(.seq qbe5 (.seq (.cond (.t 41) .skip (.exit 2)) (.seq (.block 3 (.seq qbei qbdl)) qbhz)))
def qbf5:IC:=zr [zm 51 6,zm 4 51,zzj 5 0]
def k0ec:IC:=(.seq qb30 (.seq qbyy (.seq (.seq qbry (.block 0 (.loop qbzy))) (.seq (.seq qbki (.block 2 (.loop qbaq))) (.seq qbf5 .ret)))))
@[go_sem] def s0ec:zzR:=[(.t 4,.id),(.t 5,.id)]
theorem c0ec:cFun Tryz.prog 71=some (52,k0ec,s0ec):=by kernel_rfl

def qbv0:IC:=zr [zzn 3 1,zi 4 zzv,zzj 5 0]
def qbxi:IC:=zr [zzq 7 3 3,zi 8 (zk 112 [zze 7]),zv 9 (.un .not (.t 8))]
def qbyh:IC:=zr [zv 10 (.bld [(.str []),(.int .i64 0),.nils] []),zn (.st 3 zza (.t 4) (.t 10)),zzj 5 1]
def qb2r:IC:=zr [zm 11 0,zzq 12 3 3,zi 13 (zk 113 [((.t 11),(.sl 4)),zze 12]),zv 14 (.bin .gtr .no (.t 13) (zc 4096))]
def qbzt:IC:=zr [zv 15 (.bld [(.str []),(.int .i64 0),.nils] []),zn (.st 3 zza (.t 4) (.t 15)),zzj 5 2]
def qbyl:IC:=zr [zm 16 0,zzq 17 3 3,zi 18 (zk 114 [((.t 16),(.sl 4)),zze 17]),zi 6 zzv,zn (.st 3 zza (.t 6) (.t 18))]
def qbpx:IC:=zr [zzq 19 3 6,zi 20 (zk 112 [zze 19]),zv 21 (.un .not (.t 20))]
def qbpm:IC:=zr [zv 22 (.bld [(.str []),(.int .i64 0),.nils] []),zn (.st 3 zza (.t 4) (.t 22)),zzj 5 2]
def qb4a:IC:=zr [zzq 23 3 6,zn (.st 3 zza (.t 4) (.t 23)),zzj 5 0]
def k0dz:IC:=(.seq qbv0 (.seq (.seq qbxi (.cond (.t 9) (.seq qbyh .ret) .skip)) (.seq (.seq qb2r (.cond (.t 14) (.seq qbzt .ret) .skip)) (.seq qbyl (.seq (.seq qbpx (.cond (.t 21) (.seq qbpm .ret) .skip)) (.seq qb4a .ret))))))
@[go_sem] def s0dz:zzR:=[(.c true 3 4,zza),(.t 5,.id)]
theorem c0dz:cFun Tryz.prog 72=some (24,k0dz,s0dz):=by kernel_rfl

def qb5w:IC:=zr [zzn 2 0,zzn 3 1,zv 4 (.mov (.c .nils)),zzj 5 0]
def qbqq:IC:=zr [zzq 6 3 2,zi 7 (zk 112 [zze 6]),zv 8 (.un .not (.t 7)),zm 9 8,zw 9 false 10 (zl 3 3),zj 9 false 11 (zk 112 [zze 10]),zw 9 false 12 (.un .not (.t 11)),zzi 13 9 12]
def qbs1:IC:=zr [zv 4 (.mov (.c .nils)),zzj 5 1]
def qbuv:IC:=zr [zzq 14 3 2,zzq 15 3 3,zi 16 (zk 115 [((.c .nils),(.sl 4)),zze 14,zze 15]),zzt 17 16 0,zzt 18 16 1,zm 4 17,zm 5 18]
def k0ga:IC:=(.seq qb5w (.seq (.seq qbqq (.cond (.t 13) (.seq qbs1 .ret) .skip)) (.seq qbuv .ret)))
@[go_sem] def s0ga:zzR:=[(.t 4,(.sl 4)),(.t 5,.id)]
theorem c0ga:cFun Tryz.prog 73=some (19,k0ga,s0ga):=by kernel_rfl

def qb9v:IC:=zr [zv 4 (.mov (.c .nils)),zzj 5 0]
def qbsb:IC:=zr [zv 6 (.mov (.c .nils))]
def qbri:IC:=zr [zzj 7 0]
def qb8h:IC:=zr [zm 13 7,zm 14 0,zzo 15 14,zzm 16 13 15]
def qb46:IC:=zr [zm 20 1,zm 21 0,zm 22 7,zzs 23 4 21 22,zzp 24 23 1,zzq 25 3 24,zi 26 (zk 72 [((.t 20),(.sl 4)),zze 25]),zm 19 26,zzt 27 19 0,zzt 28 19 1,zi 8 zzv,zn (.st 3 zza (.t 8) (.t 27)),zm 9 28]
def qcdg:IC:=zr [zm 29 9,zv 30 (.bin .neq .no (.t 29) (zc 0))]
def qca7:IC:=zr [zm 31 9,zv 4 (.mov (.c .nils)),zm 5 31]
def qcah:IC:=.drw [zzu 32 6,zzu 33 0,zzu 34 7,zp (zzs 35 4 33 34),zp (zzp 36 35 0),zp (zzr 37 1 36),zp (zzq 38 3 8),(zv 39 (.bld [(.int .i64 0),(.str []),(.int .i64 0),.nils] [(0,1,(.t 37)),(1,3,(.t 38))]),[]),(zv 40 (.bsl 4 [((.t 39),zzd)]),[]),(zi 41 (.app 4 (.agg [(.int .i64 0),(.str []),(.int .i64 0),.nils]) 56 (.sl 4) (.t 32) (.t 40)),[]),zzu 6 41]
def qb72:IC:=zr [zm 17 7,zzl 18 17 1,zm 7 18]
def qbyg:IC:=(.seq (.seq qb8h (.cond (.t 16) .skip (.exit 0))) (.seq (.block 1 (.seq qb46 (.seq (.seq qcdg (.cond (.t 30) (.seq qca7 .ret) .skip)) qcah))) qb72))
def qba5:IC:=zr [zzj 10 0]
def qbjv:IC:=zr [zm 42 10,zm 43 1,zzo 44 43,zzm 45 42 44]
def qbfo:IC:=.drw [zzu 49 6,zzu 50 1,zzu 51 10,zp (zzs 52 4 50 51),zp (zzp 53 52 0),zp (zzr 54 1 53),zzu 55 1,zzu 56 10,zp (zzs 57 4 55 56),zp (zzp 58 57 1),zp (zzq 59 3 58),(zi 60 (zk 116 [((.t 49),(.sl 4)),zI 54,zze 59]),[]),zzu 48 60,zp (zzt 61 48 0),zp (zzt 62 48 1),zzu 11 61,zzu 12 62]
def qbbn:IC:=zr [zm 63 11,zm 6 63]
def qbd8:IC:=zr [zm 46 10,zzl 47 46 1,zm 10 47]
def qyt:IC:=(.seq (.seq qbjv (.cond (.t 45) .skip (.exit 2))) (.seq (.block 3 (.seq qbfo qbbn)) qbd8))
def k0dy_r18:IC:=zr [zm 64 6,zm 4 64,zzj 5 0]
def k0dy:IC:=(.seq qb9v (.seq qbsb (.seq (.seq qbri (.block 0 (.loop qbyg))) (.seq (.seq qba5 (.block 2 (.loop qyt))) (.seq k0dy_r18 .ret)))))
@[go_sem] def s0dy:zzR:=[(.t 4,(.sl 4)),(.t 5,.id)]
theorem c0dy:cFun Tryz.prog 74=some (65,k0dy,s0dy):=by kernel_rfl

def qb9r:IC:=zr [zi 2 zzv]
def qbp8:IC:=zr [zm 3 0,zv 4 (.bld [(.str []),(.int .i64 0),.nils] [(1,1,(.t 3))]),zn (.st 3 zza (.t 2) (.t 4))]
def k0fr:IC:=(.seq qb9r (.seq qbp8 .ret))
@[go_sem] def s0fr:zzR:=[(.c true 3 2,zza)]
theorem c0fr:cFun Tryz.prog 75=some (5,k0fr,s0fr):=by kernel_rfl

def qbn0:IC:=zr [zv 2 (.mov (.c (.str [])))]
def qb06:IC:=zr [zm 5 0,zi 6 (zk 117 [zI 5]),zm 3 6]
def qb41:IC:=zr [zv 4 (.mov (.c (.str [])))]
def qb4m:IC:=zr [zm 7 3,zv 8 (.bin .gtr .no (.t 7) (.c (.int .u64 9)))]
def qcan:IC:=zr [zm 9 3,zv 10 (.bin .rem .no (.t 9) (.c (.int .u64 10))),zv 11 (.bin .add .no (.c (.int .u64 48)) (.t 10)),zv 12 (.cvi .u8 (.t 11)),zv 13 (.bsl 1 [zI 12]),zv 14 (.cbs (.t 13)),zm 15 4,zv 16 (.bin .add .no (.t 14) (.t 15)),zm 4 16]
def qb0s:IC:=zr [zm 17 3,zv 18 (.bin .quo .no (.t 17) (.c (.int .u64 10))),zm 3 18]
def qbyp:IC:=(.seq (.seq qb4m (.cond (.t 8) .skip (.exit 0))) (.block 1 (.seq qcan qb0s)))
def qcd6:IC:=zr [zm 19 3,zv 20 (.bin .add .no (.c (.int .u64 48)) (.t 19)),zv 21 (.cvi .u8 (.t 20)),zv 22 (.bsl 1 [zI 21]),zv 23 (.cbs (.t 22)),zm 24 4,zv 25 (.bin .add .no (.t 23) (.t 24)),zm 4 25]
def qbx6:IC:=zr [zm 26 0,zv 27 (.bin .lss .no (.t 26) (zc 0))]
def qbcp:IC:=zr [zm 28 4,zv 29 (.bin .add .no (.c (.str [45])) (.t 28)),zm 2 29]
def qbg2:IC:=zr [zm 30 4,zm 2 30]
def k0ct:IC:=(.seq qbn0 (.seq qb06 (.seq qb41 (.seq (.block 0 (.loop qbyp)) (.seq qcd6 (.seq (.seq qbx6 (.cond (.t 27) (.seq qbcp .ret) .skip)) (.seq qbg2 .ret)))))))
@[go_sem] def s0ct:zzR:=[(.t 2,.id)]
theorem c0ct:cFun Tryz.prog 76=some (31,k0ct,s0ct):=by kernel_rfl

def qb6v:IC:=zr [zzn 1 0,zv 2 zf]
def qbwb:IC:=zr [zzq 3 6 1,zi 4 (zk 36 [zzf 3]),zv 5 (.bin .leq .no (.t 4) (zc 4096)),zm 6 5,zw 6 true 7 (zl 6 1),zj 6 true 8 (zk 118 [zzf 7]),zw 6 true 9 (.bin .leq .no (.t 8) (zc 400)),zzh 10 6 9,zm 11 10,zw 11 true 12 (zl 6 1),zj 11 true 13 (zk 119 [zzf 12]),zzh 14 11 13,zm 2 14]
def k0fb:IC:=(.seq qb6v (.seq qbwb .ret))
@[go_sem] def s0fb:zzR:=[(.t 2,.id)]
theorem c0fb:cFun Tryz.prog 77=some (15,k0fb,s0fb):=by kernel_rfl

def qbtx:IC:=zr [zzn 1 0,zv 2 (.mov (.c .nils))]
def qb3a:IC:=zr [zzp 5 1 0,zzr 6 1 5,zv 7 (zq (.t 6) (zc 14))]
def qbpi:IC:=zr [zzp 8 1 1,zzr 9 1 8,zv 10 (.bsl 1 [zI 9]),zm 2 10]
def qbtd:IC:=zr [zv 3 (.mov (.c .nils))]
def qb1d:IC:=zr [zzj 4 0]
def qbw3:IC:=zr [zm 11 4,zzp 12 1 5,zzr 13 1 12,zzo 14 13,zzm 15 11 14]
def qb2k:IC:=zr [zm 18 3,zzp 19 1 5,zzr 20 1 19,zm 21 4,zzs 22 6 20 21,zzq 23 6 22,zi 24 (zk 78 [zzf 23]),zi 25 (.app 1 (.int .i64 0) 8 (.sl 1) (.t 18) (.t 24)),zm 3 25]
def qbx4:IC:=zr [zm 16 4,zzl 17 16 1,zm 4 17]
def qbwn:IC:=(.seq (.seq qbw3 (.cond (.t 15) .skip (.exit 0))) (.seq (.block 1 qb2k) qbx4))
def qbal:IC:=zr [zm 26 3,zm 2 26]
def k0ge:IC:=(.seq qbtx (.seq (.seq qb3a (.cond (.t 7) (.seq qbpi .ret) .skip)) (.seq qbtd (.seq (.seq qb1d (.block 0 (.loop qbwn))) (.seq qbal .ret)))))
@[go_sem] def s0ge:zzR:=[(.t 2,(.sl 1))]
theorem c0ge:cFun Tryz.prog 78=some (27,k0ge,s0ge):=by kernel_rfl

def qbo2:IC:=zr [zzn 2 0,zi 4 zzx,zv 5 zf]
def qb7r:IC:=zr [zzj 6 0]
def qb7v:IC:=zr [zm 7 6,zzp 8 2 6,zzr 9 1 8,zzo 10 9,zzm 11 7 10]
def qbp1:IC:=zr [zzp 14 2 6,zzr 15 1 14,zm 16 6,zzs 17 7 15 16,zzp 18 17 0,zzr 19 1 18,zm 20 1,zv 21 (zq (.t 19) (.t 20))]
def qbq5:IC:=zr [zzp 22 2 6,zzr 23 1 22,zm 24 6,zzs 25 7 23 24,zzp 26 25 1,zzq 27 6 26,zn (.st 6 zzb (.t 4) (.t 27)),zzk 5]
def qcbo:IC:=zr [zm 12 6,zzl 13 12 1,zm 6 13]
def qbp3:IC:=(.seq (.seq qb7v (.cond (.t 11) .skip (.exit 0))) (.seq (.block 1 (.seq qbp1 (.cond (.t 21) (.seq qbq5 .ret) .skip))) qcbo))
def qbx0:IC:=zr [zv 28 (.bld [(.int .i64 0),(.int .i64 0),(.str []),.nils,.nils,.nils] []),zn (.st 6 zzb (.t 4) (.t 28)),zv 5 zf]
def k0fa:IC:=(.seq qbo2 (.seq (.seq qb7r (.block 0 (.loop qbp3))) (.seq qbx0 .ret)))
@[go_sem] def s0fa:zzR:=[(.c true 6 4,zzb),(.t 5,.id)]
theorem c0fa:cFun Tryz.prog 79=some (29,k0fa,s0fa):=by kernel_rfl

def qbq3:IC:=zr [zzn 2 0,zzn 3 1,zi 4 zzx]
def qbqb:IC:=zr [zzp 13 3 0,zzr 14 1 13,zv 15 (zq (.t 14) (zc 14))]
def qb0a:IC:=zr [zzq 17 9 2,zzp 18 3 1,zzr 19 1 18,zi 20 (zk 79 [zzg 17,zI 19]),zm 16 20,zzt 21 16 0,zzt 22 16 1,zi 5 zzx,zn (.st 6 zzb (.t 5) (.t 21)),zm 6 22]
def qbyr:IC:=zr [zm 23 6]
def qbp4:IC:=zr [zzq 24 9 2,zzq 25 6 5,zi 26 (zk 80 [zzg 24,zzf 25]),zn (.st 6 zzb (.t 4) (.t 26))]
def qb4b:IC:=zr [zzq 27 6 3,zn (.st 6 zzb (.t 4) (.t 27))]
def qbya:IC:=zr [zv 7 (.mov (.c .nils))]
def qccq:IC:=zr [zzj 8 0]
def qbxx:IC:=zr [zm 28 8,zzp 29 3 4,zzr 30 1 29,zzo 31 30,zzm 32 28 31]
def qbgj:IC:=.drw [zp (zzq 36 9 2),zp (zzp 37 3 4),zp (zzr 38 1 37),zzu 39 8,zp (zzs 40 3 38 39),zp (zzq 41 3 40),(zi 42 (zk 120 [zzg 36,zze 41]),[]),zzu 35 42,zp (zzt 43 35 0),zp (zzt 44 35 1),(zi 9 zzv,[0,2,5,6]),(zn (.st 3 zza (.t 9) (.t 43)),[]),zzu 10 44]
def qbdk:IC:=zr [zm 45 10,zv 46 (.un .not (.t 45))]
def qbgw:IC:=zr [zzp 47 3 4,zzr 48 1 47,zm 49 8,zzs 50 3 48 49,zzq 51 3 50,zn (.st 3 zza (.t 9) (.t 51))]
def qbgy:IC:=zr [zm 52 7,zzq 53 3 9,zv 54 (.bsl 3 [zze 53]),zi 55 (.app 3 (.agg [(.str []),(.int .i64 0),.nils]) 48 (.sl 3) (.t 52) (.t 54)),zm 7 55]
def qbdg:IC:=zr [zm 33 8,zzl 34 33 1,zm 8 34]
def qbtz:IC:=(.seq (.seq qbxx (.cond (.t 32) .skip (.exit 0))) (.seq (.block 1 (.seq qbgj (.seq (.seq qbdk (.cond (.t 46) qbgw .skip)) qbgy))) qbdg))
def qzx:IC:=zr [zm 56 7,zzp 57 3 4,zn (.st 1 (.sl 3) (.t 57) (.t 56))]
def qbin:IC:=zr [zv 11 (.mov (.c .nils))]
def qyx:IC:=zr [zzj 12 0]
def qbai:IC:=zr [zm 58 12,zzp 59 3 5,zzr 60 1 59,zzo 61 60,zzm 62 58 61]
def qbkm:IC:=.drw [zzu 65 11,zp (zzq 66 9 2),zp (zzp 67 3 5),zp (zzr 68 1 67),zzu 69 12,zp (zzs 70 6 68 69),zp (zzq 71 6 70),(zi 72 (zk 80 [zzg 66,zzf 71]),[]),(zv 73 (.bsl 6 [zzf 72]),[]),(zi 74 (.app 6 (.agg [(.int .i64 0),(.int .i64 0),(.str []),.nils,.nils,.nils]) 104 (.sl 6) (.t 65) (.t 73)),[]),zzu 11 74]
def qbfs:IC:=zr [zm 63 12,zzl 64 63 1,zm 12 64]
def q96:IC:=(.seq (.seq qbai (.cond (.t 62) .skip (.exit 2))) (.seq (.block 3 qbkm) qbfs))
def qbgp:IC:=zr [zm 75 11,zzp 76 3 5,zn (.st 1 (.sl 6) (.t 76) (.t 75))]
def qbjp:IC:=zr [zzq 77 6 3,zn (.st 6 zzb (.t 4) (.t 77))]
def k0gc:IC:=(.seq qbq3 (.seq (.seq qbqb (.cond (.t 15) (.seq qb0a (.seq (.seq qbyr (.cond (.t 23) (.seq qbp4 .ret) .skip)) (.seq qb4b .ret))) .skip)) (.seq qbya (.seq (.seq qccq (.block 0 (.loop qbtz))) (.seq qzx (.seq qbin (.seq (.seq qyx (.block 2 (.loop q96))) (.seq qbgp (.seq qbjp .ret)))))))))
@[go_sem] def s0gc:zzR:=[(.c true 6 4,zzb)]
theorem c0gc:cFun Tryz.prog 80=some (78,k0gc,s0gc):=by kernel_rfl

def qbqh:IC:=zr [zv 2 (.mov (.c .nils))]
def qbqk:IC:=zr [zm 6 0,zv 7 (.bin .eql .ptr (.t 6) (.c .nilp))]
def qbqp:IC:=zr [zv 2 (.mov (.c .nils))]
def qb2p:IC:=zr [zm 8 0,zv 9 (.nck (.t 8)),zzp 10 9 0,zzr 11 1 10,zzo 12 11,zi 13 (.mks 4 (.agg [(.int .i64 0),(.str []),(.int .i64 0),.nils]) 56 (.t 12) (.t 12)),zm 3 13]
def qb60:IC:=zr [zm 14 0,zv 15 (.nck (.t 14)),zzp 16 15 0,zzr 17 1 16,zzo 18 17,zzj 19 0]
def qbxp:IC:=zr [zzm 20 19 18]
def qb6k:IC:=zr [zm 21 19,zzs 22 4 17 19,zzq 23 4 22,zi 5 (.alo [(.int .i64 0),(.str []),(.int .i64 0),.nils]),zm 4 21,zn (.st 4 zzd (.t 5) (.t 23))]
def qbmf:IC:=.drw [zzu 24 3,zzu 25 4,zp (zzp 26 5 0),zp (zzr 27 1 26),zp (zzp 28 5 1),zp (zzq 29 3 28),(zi 30 (zk 109 [zze 29]),[3]),(zv 31 (.bld [(.int .i64 0),(.str []),(.int .i64 0),.nils] [(0,1,(.t 27)),(1,3,(.t 30))]),[]),zp (zzs 32 4 24 25),(zn (.st 4 zzd (.t 32) (.t 31)),[])]
def qbyj:IC:=zr [zzl 33 19 1,zm 19 33]
def qbts:IC:=(.seq qbxp (.seq (.cond (.t 20) .skip (.exit 0)) (.seq (.block 1 (.seq qb6k qbmf)) qbyj)))
def qbci:IC:=zr [zm 34 3,zm 2 34]
def k0du:IC:=(.seq qbqh (.seq (.seq qbqk (.cond (.t 7) (.seq qbqp .ret) .skip)) (.seq qb2p (.seq (.seq qb60 (.block 0 (.loop qbts))) (.seq qbci .ret)))))
@[go_sem] def s0du:zzR:=[(.t 2,(.sl 4))]
theorem c0du:cFun Tryz.prog 81=some (35,k0du,s0du):=by kernel_rfl

def qb7g:IC:=zr [zzn 1 0,zv 2 zf]
def qbz2:IC:=zr [zv 4 (.bld [(.int .i64 0)] [(0,1,(zc 4096))]),zzn 5 4,zm 3 5]
def qbr9:IC:=zr [zm 6 3,zzq 7 3 1,zi 8 (zk 121 [zI 6,zze 7,((zc 100),.id)]),zm 2 8]
def k0bj:IC:=(.seq qb7g (.seq qbz2 (.seq qbr9 .ret)))
@[go_sem] def s0bj:zzR:=[(.t 2,.id)]
theorem c0bj:cFun Tryz.prog 82=some (9,k0bj,s0bj):=by kernel_rfl

def qb2o:IC:=zr [zzn 3 0,zi 6 zzv]
def qbnu:IC:=zr [zzp 11 3 0,zzr 12 1 11,zv 13 (zq (.t 12) (.c (.str [])))]
def qb6g:IC:=zr [zm 14 1,zzp 15 3 1,zzr 16 1 15,zi 17 (zk 122 [((.t 14),(.sl 1)),zI 16]),zm 7 17]
def qccm:IC:=zr [zm 18 7,zv 19 (.bin .geq .no (.t 18) (zc 0)),zm 20 19,zw 20 true 21 (zo 7),zw 20 true 22 (zo 2),zw 20 true 23 (.len false (.t 22)),zw 20 true 24 (.bin .lss .no (.t 21) (.t 23)),zzh 25 20 24]
def qbxh:IC:=zr [zm 26 2,zm 27 7,zzs 28 3 26 27,zzq 29 3 28,zn (.st 3 zza (.t 6) (.t 29))]
def qboc:IC:=zr [zzq 30 3 3,zn (.st 3 zza (.t 6) (.t 30))]
def qb7k:IC:=zr [zzp 31 3 2,zzr 32 1 31,zzo 33 32,zi 34 (.mks 3 (.agg [(.str []),(.int .i64 0),.nils]) 48 (.t 33) (.t 33)),zm 8 34]
def qbnl:IC:=zr [zzp 35 3 2,zzr 36 1 35,zzo 37 36,zzj 38 0]
def qb9n:IC:=zr [zzm 39 38 37]
def qbi9:IC:=zr [zm 40 38,zzs 41 3 36 38,zzq 42 3 41,zi 10 zzv,zm 9 40,zn (.st 3 zza (.t 10) (.t 42))]
def qba1:IC:=zr [zm 43 8,zm 44 9,zzq 45 3 10,zm 46 1,zm 47 2,zi 48 (zk 83 [zze 45,((.t 46),(.sl 1)),((.t 47),(.sl 3))]),zzs 49 3 43 44,zn (.st 3 zza (.t 49) (.t 48))]
def qbcq:IC:=zr [zzl 50 38 1,zm 38 50]
def qbpu:IC:=(.seq qb9n (.seq (.cond (.t 39) .skip (.exit 0)) (.seq (.block 1 (.seq qbi9 qba1)) qbcq)))
def qbjj:IC:=zr [zm 51 8,zzp 52 3 2,zn (.st 1 (.sl 3) (.t 52) (.t 51))]
def qbbz:IC:=zr [zzq 53 3 3,zn (.st 3 zza (.t 6) (.t 53))]
def k0bk:IC:=(.seq qb2o (.seq (.seq qbnu (.cond (.t 13) (.seq (.seq qb6g (.seq qccm (.cond (.t 25) (.seq qbxh .ret) .skip))) (.seq qboc .ret)) .skip)) (.seq qb7k (.seq (.seq qbnl (.block 0 (.loop qbpu))) (.seq qbjj (.seq qbbz .ret))))))
@[go_sem] def s0bk:zzR:=[(.c true 3 6,zza)]
theorem c0bk:cFun Tryz.prog 83=some (54,k0bk,s0bk):=by kernel_rfl

def qbvo:IC:=zr [zzn 4 1,zi 6 zzv]
def qb1e:IC:=zr [zzp 11 4 0,zzr 12 1 11,zv 13 (zq (.t 12) (.c (.str [])))]
def qb3v:IC:=.drw [zzu 15 0,zp (zv 16 (.nck (.t 15))),zp (zzp 17 16 0),zp (zzr 18 1 17),zp (zzp 19 4 1),zp (zzr 20 1 19),(zi 21 (zk 123 [zI 18,zI 20]),[]),zzu 14 21,zp (zzt 22 14 0),zp (zzt 23 14 1),(zi 7 zzv,[3,5,6]),(zn (.st 3 zza (.t 7) (.t 22)),[]),zzu 8 23]
def qbxj:IC:=zr [zm 24 8]
def qbv9:IC:=.drw [zzu 25 0,zp (zv 26 (.nck (.t 25))),zp (zzp 27 26 1),zp (zzr 28 1 27),zp (zzq 29 3 7),(zi 30 (zk 124 [zze 29]),[3]),zp (zv 31 (.bin .sub .no (.t 28) (.t 30))),zp (zv 32 (.nck (.t 25))),zp (zzp 33 32 1),(zn (.st 1 .id (.t 33) (.t 31)),[])]
def qbxl:IC:=zr [zm 34 2,zzq 35 3 7,zi 36 (zk 125 [zze 35]),zv 37 (.bin .add .no (.t 34) (.t 36)),zv 38 (.bin .gtr .no (.t 37) (zc 101))]
def qb2e:IC:=zr [zm 39 0,zv 40 (.nck (.t 39)),zzp 41 40 1,zn (.st 1 .id (.t 41) (zc (-1)))]
def qb26:IC:=zr [zzq 42 3 7,zi 43 (zk 109 [zze 42]),zn (.st 3 zza (.t 6) (.t 43))]
def qbs7:IC:=zr [zm 44 0,zv 45 (.nck (.t 44)),zzp 46 45 1,zzr 47 1 46,zv 48 (.bin .sub .no (.t 47) (zc 1)),zv 49 (.nck (.t 44)),zzp 50 49 1,zn (.st 1 .id (.t 50) (.t 48))]
def qbqr:IC:=zr [zzp 51 4 2,zzr 52 1 51,zzo 53 52,zi 54 (.mks 3 (.agg [(.str []),(.int .i64 0),.nils]) 48 (.t 53) (.t 53)),zm 9 54]
def qbd4:IC:=zr [zzp 55 4 2,zzr 56 1 55,zzo 57 56,zzj 58 0]
def qbby:IC:=zr [zzm 59 58 57]
def qbjh:IC:=zr [zm 60 58,zm 10 60]
def qbbx:IC:=zr [zm 61 0,zv 62 (.nck (.t 61)),zzp 63 62 1,zzr 64 1 63,zv 65 (.bin .lss .no (.t 64) (zc 0))]
def qbjq:IC:=zr [zzq 66 3 4,zn (.st 3 zza (.t 6) (.t 66))]
def qbi0:IC:=zr [zm 67 9,zm 68 10,zm 69 0,zzp 70 4 2,zzr 71 1 70,zm 72 10,zzs 73 3 71 72,zzq 74 3 73,zm 75 2,zzl 76 75 1,zi 77 (zk 84 [zI 69,zze 74,zI 76]),zzs 78 3 67 68,zn (.st 3 zza (.t 78) (.t 77))]
def qbcb:IC:=zr [zzl 79 58 1,zm 58 79]
def qbjg:IC:=(.seq qbby (.seq (.cond (.t 59) .skip (.exit 0)) (.seq (.block 1 (.seq qbjh (.seq (.seq qbbx (.cond (.t 65) (.seq qbjq .ret) .skip)) qbi0))) qbcb)))
def qbcz:IC:=zr [zm 80 9,zzp 81 4 2,zn (.st 1 (.sl 3) (.t 81) (.t 80))]
def qba9:IC:=zr [zzq 82 3 4,zn (.st 3 zza (.t 6) (.t 82))]
def k0dx:IC:=(.seq qbvo (.seq (.seq qb1e (.cond (.t 13) (.seq qb3v (.seq qbxj (.cond (.t 24) (.seq qbv9 (.seq (.seq qbxl (.cond (.t 38) qb2e .skip)) (.seq qb26 .ret))) .skip))) .skip)) (.seq qbs7 (.seq qbqr (.seq (.seq qbd4 (.block 0 (.loop qbjg))) (.seq qbcz (.seq qba9 .ret)))))))
@[go_sem] def s0dx:zzR:=[(.c true 3 6,zza)]
theorem c0dx:cFun Tryz.prog 84=some (83,k0dx,s0dx):=by kernel_rfl

def qciq:IC:=zr [zzn 1 0,zv 2 (.mov (.c .nilf))]
def qcjd:IC:=zr [zzq 4 6 1,zv 5 (.bld [(.int .i64 0),(.int .i64 0),(.str []),.nils,.nils,.nils] [(0,6,(.t 4))]),zv 6 (.mfn 126 [(.t 5)] []),zm 3 6]
def qcmh:IC:=zr [zm 7 3,zm 2 7]
def k0s:IC:=(.seq qciq (.seq qcjd (.seq qcmh .ret)))
@[go_sem] def s0s:zzR:=[(.t 2,.id)]
theorem c0s:cFun Tryz.prog 85=some (8,k0s,s0s):=by kernel_rfl

def qckn:IC:=zr [zzn 1 0,zv 2 zf]
def qbk7:IC:=zr [zzp 4 1 0,zzr 5 1 4,zv 6 (.bin .geq .no (.t 5) (zc 21)),zm 7 6,zw 7 false 8 (zd 1 0),zw 7 false 9 (zg 1 8),zw 7 false 10 (zq (.t 9) (zc 9)),zzi 11 7 10,zm 12 11,zw 12 false 13 (zd 1 0),zw 12 false 14 (zg 1 13),zw 12 false 15 (zq (.t 14) (zc 11)),zzi 16 12 15,zm 17 16,zw 17 false 18 (zl 6 1),zj 17 false 19 (zk 127 [zzf 18]),zw 17 false 20 (.un .not (.t 19)),zzi 21 17 20]
def qck7:IC:=zr [zv 2 zf]
def q21:IC:=zr [zzp 22 1 5,zzr 23 1 22,zzo 24 23,zm 3 24]
def qcky:IC:=zr [zzp 25 1 0,zzr 26 1 25]
def qcge:IC:=zr [zv 28 (zq (.t 26) (zc 8)),zm 27 28]
def qckx:IC:=zr [zm 29 3,zv 30 (.bin .geq .no (.t 29) (zc 2)),zm 31 30,zw 31 true 32 (zd 1 5),zw 31 true 33 (zg 1 32),zw 31 true 34 (.iad 6 (.t 33) (zc 0)),zw 31 true 35 (zl 6 34),zj 31 true 36 (zk 86 [zzf 35]),zzh 37 31 36,zm 38 37,zw 38 true 39 (zd 1 5),zw 38 true 40 (zg 1 39),zw 38 true 41 (.slv 6 (.t 40) (some (zc 1)) none none),zj 38 true 42 (zk 128 [((.t 41),(.sl 6)),((.c (.fn 129 [] [])),.id)]),zw 38 true 43 (.un .not (.t 42)),zzh 44 38 43,zm 2 44]
def qcmx:IC:=zr [zv 46 (zq (.t 26) (zc 10)),zm 45 46]
def qckm:IC:=zr [zm 47 3,zv 48 (.bin .geq .no (.t 47) (zc 1)),zm 49 48,zw 49 true 50 (zd 1 5),zw 49 true 51 (zg 1 50),zw 49 true 52 (zo 3),zw 49 true 53 (.bin .sub .no (.t 52) (zc 1)),zw 49 true 54 (.iad 6 (.t 51) (.t 53)),zw 49 true 55 (zl 6 54),zj 49 true 56 (zk 86 [zzf 55]),zzh 57 49 56,zm 58 57,zw 58 true 59 (zd 1 5),zw 58 true 60 (zg 1 59),zw 58 true 61 (zo 3),zw 58 true 62 (.bin .sub .no (.t 61) (zc 1)),zw 58 true 63 (.slv 6 (.t 60) none (some (.t 62)) none),zj 58 true 64 (zk 128 [((.t 63),(.sl 6)),((.c (.fn 131 [] [])),.id)]),zw 58 true 65 (.un .not (.t 64)),zzh 66 58 65,zm 2 66]
def qcj1:IC:=zr [zzp 67 1 5,zzr 68 1 67,zi 69 (zk 128 [((.t 68),(.sl 6)),((.c (.fn 132 [] [])),.id)]),zv 70 (.un .not (.t 69)),zm 2 70]
def k0w:IC:=(.seq qckn (.seq (.seq qbk7 (.cond (.t 21) (.seq qck7 .ret) .skip)) (.seq q21 (.seq (.seq qcky (.block 0 (.seq qcge (.cond (.t 27) (.seq qckx .ret) (.seq qcmx (.cond (.t 45) (.seq qckm .ret) .skip)))))) (.seq qcj1 .ret)))))
@[go_sem] def s0w:zzR:=[(.t 2,.id)]
theorem c0w:cFun Tryz.prog 86=some (71,k0w,s0w):=by kernel_rfl

def qcbc:IC:=zr [zzn 3 0,zv 6 zf]
def qbnp:IC:=zr [zm 9 2,zzq 10 3 3,zm 11 1,zi 12 (.call (.t 9) [zze 10,zI 11]),zv 13 (.un .not (.t 12))]
def qbxg:IC:=zr [zv 6 zf]
def qbm3:IC:=zr [zzp 14 3 2,zzr 15 1 14,zzo 16 15,zzj 17 0]
def qbsm:IC:=zr [zzm 18 17 16]
def qbni:IC:=zr [zzs 19 3 15 17,zzq 20 3 19,zi 8 zzv,zn (.st 3 zza (.t 8) (.t 20))]
def qbv4:IC:=zr [zzq 21 3 8,zm 22 1,zzl 23 22 1,zm 24 2,zi 25 (zk 99 [zze 21,zI 23,zI 24]),zv 26 (.un .not (.t 25))]
def qb9w:IC:=zr [zv 6 zf]
def qb4s:IC:=zr [zzl 27 17 1,zm 17 27]
def qcdb:IC:=(.seq qbsm (.seq (.cond (.t 18) .skip (.exit 0)) (.seq (.block 1 (.seq qbni (.seq qbv4 (.cond (.t 26) (.seq qb9w .ret) .skip)))) qb4s)))
def qbes:IC:=zr [zzk 6]
def k0cc:IC:=(.seq qcbc (.seq (.seq qbnp (.cond (.t 13) (.seq qbxg .ret) .skip)) (.seq (.seq qbm3 (.block 0 (.loop qcdb))) (.seq qbes .ret))))
@[go_sem] def s0cc:zzR:=[(.t 6,.id)]
theorem c0cc:cFun Tryz.prog 99=some (28,k0cc,s0cc):=by kernel_rfl

def qbt5:IC:=zr [zzn 3 0,zv 5 zf]
def qcek:IC:=zr [zzr 6 1 2,zzl 7 6 1,zn (.st 1 .id (.t 2) (.t 7))]
def qcac:IC:=zr [zzr 8 1 2,zv 9 (.bin .leq .no (.t 8) (zc 4096)),zm 10 9,zw 10 true 11 (zo 1),zw 10 true 12 (.bin .leq .no (.t 11) (zc 100)),zzh 13 10 12,zm 14 13,zw 14 true 15 (zl 3 3),zj 14 true 16 (zk 101 [zze 15]),zj 14 true 17 (zk 102 [zI 16]),zzh 18 14 17,zm 5 18]
def k0dd:IC:=(.seq qbt5 (.seq qcek (.seq qcac .ret)))
@[go_sem] def s0dd:zzR:=[(.t 5,.id)]
theorem c0dd:cFun Tryz.prog 100=some (19,k0dd,s0dd):=by kernel_rfl

def qbmz:IC:=zr [zzn 1 0,zi 2 (.alo [(.str []),(.int .i64 0),(.int .i64 0)])]
def qbs4:IC:=zr [zzp 3 1 0,zzr 4 1 3,zzp 5 1 1,zzr 6 1 5,zzp 7 1 2,zzr 8 1 7,zzo 9 8,zv 10 (.bld [(.str []),(.int .i64 0),(.int .i64 0)] [(0,1,(.t 4)),(1,1,(.t 6)),(2,1,(.t 9))]),zn (.st 3 .id (.t 2) (.t 10))]
def k0bx:IC:=(.seq qbmz (.seq qbs4 .ret))
@[go_sem] def s0bx:zzR:=[(.c true 3 2,.id)]
theorem c0bx:cFun Tryz.prog 101=some (11,k0bx,s0bx):=by kernel_rfl

def qbvx:IC:=zr [zzn 1 0,zv 2 zf]
def qbzk:IC:=zr [zzp 4 1 0,zzr 5 1 4,zv 6 (zq (.t 5) (.c (.str []))),zm 3 6]
def qbvv:IC:=zr [zzp 7 1 2,zzr 8 1 7,zv 9 (zq (.t 8) (zc 0)),zm 2 9]
def qbzq:IC:=zr [zzp 11 1 0,zzr 12 1 11,zv 13 (zq (.t 12) (.c (.str [45,62]))),zm 10 13]
def qca5:IC:=zr [zzq 14 3 1,zv 15 (.bld [(.str []),(.int .i64 0),(.int .i64 0)] [(0,1,(.c (.str [45,62]))),(1,1,(zc 0)),(2,1,(zc 2))]),zv 16 (.bin .eql (.cells [.str,(.int .i64),(.int .i64)]) (.t 14) (.t 15)),zm 2 16]
def qb14:IC:=zr [zzp 18 1 0,zzr 19 1 18,zi 20 (zk 152 [zI 19]),zm 17 20]
def qbzm:IC:=zr [zzq 21 3 1,zzp 22 1 0,zzr 23 1 22,zv 24 (.bld [(.str []),(.int .i64 0),(.int .i64 0)] [(0,1,(.t 23))]),zv 25 (.bin .eql (.cells [.str,(.int .i64),(.int .i64)]) (.t 21) (.t 24)),zm 2 25]
def qb77:IC:=zr [zzp 26 1 1,zzr 27 1 26,zv 28 (zq (.t 27) (zc 0)),zm 29 28,zw 29 true 30 (zd 1 0),zw 29 true 31 (zg 1 30),zj 29 true 32 (zk 148 [zI 31]),zzh 33 29 32,zm 2 33]
def k0cb:IC:=(.seq qbvx (.seq (.block 0 (.seq qbzk (.cond (.t 3) (.seq qbvv .ret) (.seq qbzq (.cond (.t 10) (.seq qca5 .ret) (.seq qb14 (.cond (.t 17) (.seq qbzm .ret) .skip))))))) (.seq qb77 .ret)))
@[go_sem] def s0cb:zzR:=[(.t 2,.id)]
theorem c0cb:cFun Tryz.prog 102=some (34,k0cb,s0cb):=by kernel_rfl

def qb1a:IC:=zr [zzn 2 0,zv 4 (.mov (.c (.str [])))]
def qbwc:IC:=zr [zm 5 1]
def qbwr:IC:=zr [zzq 6 3 2,zi 7 (zk 68 [zze 6]),zv 8 (.bin .add .no (.c (.str [40])) (.t 7)),zv 9 (.bin .add .no (.t 8) (.c (.str [41]))),zm 4 9]
def qbt1:IC:=zr [zzq 10 3 2,zi 11 (zk 68 [zze 10]),zm 4 11]
def k0da:IC:=(.seq qb1a (.seq (.seq qbwc (.cond (.t 5) (.seq qbwr .ret) .skip)) (.seq qbt1 .ret)))
@[go_sem] def s0da:zzR:=[(.t 4,.id)]
theorem c0da:cFun Tryz.prog 103=some (12,k0da,s0da):=by kernel_rfl

def qb8a:IC:=zr [zzn 1 0,zv 2 (.mov (.c (.str [])))]
def qby8:IC:=zr [zzp 4 1 0,zzr 5 1 4,zv 6 (.bin .neq .no (.t 5) (.c (.str []))),zm 3 6]
def qbnr:IC:=zr [zzp 7 1 0,zzr 8 1 7,zm 2 8]
def qb1v:IC:=zr [zzp 10 1 1,zzr 11 1 10,zv 12 (.bin .geq .no (.t 11) (zc 0)),zm 9 12]
def qbw2:IC:=zr [zzp 13 1 1,zzr 14 1 13,zi 15 (zk 154 [zI 14]),zm 2 15]
def qb4t:IC:=zr [zzp 16 1 1,zzr 17 1 16,zv 18 (.bin .sub .no (zc (-1)) (.t 17)),zi 19 (zk 52 [zI 18]),zv 20 (.bin .add .no (.c (.str [63])) (.t 19)),zm 2 20]
def k0cz:IC:=(.seq qb8a (.seq (.block 0 (.seq qby8 (.cond (.t 3) (.seq qbnr .ret) (.seq qb1v (.cond (.t 9) (.seq qbw2 .ret) .skip))))) (.seq qb4t .ret)))
@[go_sem] def s0cz:zzR:=[(.t 2,.id)]
theorem c0cz:cFun Tryz.prog 105=some (21,k0cz,s0cz):=by kernel_rfl

def qccw:IC:=zr [zzj 4 0,zv 5 zf]
def qbwh:IC:=zr [zm 6 0,zv 7 (.nck (.t 6)),zzp 8 7 0,zzr 9 1 8,zm 10 1,zi 11 (zk 155 [((.t 9),(.sl 4)),zI 10,((.c (.fn 156 [] [])),.id)]),zzt 12 11 0,zzt 13 11 1,zm 4 12,zm 5 13]
def k0ds:IC:=(.seq qccw (.seq qbwh .ret))
@[go_sem] def s0ds:zzR:=[(.t 4,.id),(.t 5,.id)]
theorem c0ds:cFun Tryz.prog 107=some (14,k0ds,s0ds):=by kernel_rfl

def qbsa:IC:=zr [zzn 1 0,zi 2 zzv]
def qcdj:IC:=zr [zzp 6 1 2,zzr 7 1 6,zzo 8 7,zi 9 (.mks 3 (.agg [(.str []),(.int .i64 0),.nils]) 48 (.t 8) (.t 8)),zm 3 9]
def qb79:IC:=zr [zzp 10 1 2,zzr 11 1 10,zzo 12 11,zzj 13 0]
def qcdq:IC:=zr [zzm 14 13 12]
def qbng:IC:=zr [zm 15 13,zzs 16 3 11 13,zzq 17 3 16,zi 5 zzv,zm 4 15,zn (.st 3 zza (.t 5) (.t 17))]
def qbof:IC:=zr [zm 18 3,zm 19 4,zzq 20 3 5,zi 21 (zk 109 [zze 20]),zzs 22 3 18 19,zn (.st 3 zza (.t 22) (.t 21))]
def qcb5:IC:=zr [zzl 23 13 1,zm 13 23]
def qb55:IC:=(.seq qcdq (.seq (.cond (.t 14) .skip (.exit 0)) (.seq (.block 1 (.seq qbng qbof)) qcb5)))
def qbo4:IC:=zr [zm 24 3,zzp 25 1 2,zn (.st 1 (.sl 3) (.t 25) (.t 24))]
def qbbt:IC:=zr [zzq 26 3 1,zn (.st 3 zza (.t 2) (.t 26))]
def k0cw:IC:=(.seq qbsa (.seq qcdj (.seq (.seq qb79 (.block 0 (.loop qb55))) (.seq qbo4 (.seq qbbt .ret)))))
@[go_sem] def s0cw:zzR:=[(.c true 3 2,zza)]
theorem c0cw:cFun Tryz.prog 109=some (27,k0cw,s0cw):=by kernel_rfl

def qblz:IC:=zr [zv 2 zf]
def qbwz:IC:=zr [zm 5 0,zzo 6 5,zzj 7 0]
def qbrj:IC:=zr [zzm 8 7 6]
def qbmb:IC:=zr [zzs 9 3 5 7,zzq 10 3 9,zi 4 zzv,zn (.st 3 zza (.t 4) (.t 10))]
def qccr:IC:=zr [zzq 11 3 4,zi 12 (zk 67 [zze 11]),zv 13 (.un .not (.t 12))]
def qcd4:IC:=zr [zv 2 zf]
def qb84:IC:=zr [zzl 14 7 1,zm 7 14]
def qbt8:IC:=(.seq qbrj (.seq (.cond (.t 8) .skip (.exit 0)) (.seq (.block 1 (.seq qbmb (.seq qccr (.cond (.t 13) (.seq qcd4 .ret) .skip)))) qb84)))
def qb66:IC:=zr [zzk 2]
def k0eg:IC:=(.seq qblz (.seq (.seq qbwz (.block 0 (.loop qbt8))) (.seq qb66 .ret)))
@[go_sem] def s0eg:zzR:=[(.t 2,.id)]
theorem c0eg:cFun Tryz.prog 110=some (15,k0eg,s0eg):=by kernel_rfl

def qb75:IC:=zr [zv 2 (.mov (.c .nilp)),zzj 3 0]
def qb2i:IC:=zr [zi 9 (zk 39 [((.c .nils),(.sl 4))]),zm 4 9,zzj 5 0]
def qb6s:IC:=zr [zv 10 (.bld [.nils] []),zzn 11 10,zm 6 11]
def qb9f:IC:=zr [zm 12 6,zm 13 0,zi 14 (zk 159 [zI 12,((.t 13),(.sl 6))])]
def qbtv:IC:=zr [zm 16 6,zi 17 (zk 160 [zI 16]),zm 15 17,zzt 18 15 0,zzt 19 15 1,zi 7 (.alo [(.str []),(.int .i64 0),.nils,(.str []),(.int .i64 0),.nils]),zn (.st 6 (.agg [.id,.id,(.sl 3),.id,.id,(.sl 3)]) (.t 7) (.t 18)),zm 8 19]
def qbqa:IC:=zr [zm 20 8,zv 21 (.un .not (.t 20))]
def qbo0:IC:=zr [zm 22 4,zm 2 22,zzj 3 0]
def qbwo:IC:=zr [zm 24 4,zzq 25 6 7,zm 26 6,zi 27 (zk 161 [zI 24,((.t 25),(.agg [.id,.id,(.sl 3),.id,.id,(.sl 3)])),zI 26]),zm 23 27,zzt 28 23 0,zzt 29 23 1,zm 4 28,zm 5 29]
def qb5k:IC:=zr [zm 30 5,zv 31 (.bin .neq .no (.t 30) (zc 0))]
def qbej:IC:=zr [zm 32 5,zv 2 (.mov (.c .nilp)),zm 3 32]
def qbzi:IC:=(.block 1 (.seq qbtv (.seq (.seq qbqa (.cond (.t 21) (.seq qbo0 .ret) .skip)) (.seq qbwo (.seq qb5k (.cond (.t 31) (.seq qbej .ret) .skip))))))
def k0ee:IC:=(.seq qb75 (.seq qb2i (.seq qb6s (.seq qb9f (.block 0 (.loop qbzi))))))
@[go_sem] def s0ee:zzR:=[(.t 2,.id),(.t 3,.id)]
theorem c0ee:cFun Tryz.prog 111=some (33,k0ee,s0ee):=by kernel_rfl

def qbp5:IC:=zr [zzn 1 0,zv 2 zf]
def qb1p:IC:=zr [zzq 3 3 1,zi 4 (zk 9 [zze 3]),zv 5 (.bin .leq .no (.t 4) (zc 4096)),zm 6 5,zw 6 true 7 (zl 3 1),zj 6 true 8 (zk 162 [zze 7]),zw 6 true 9 (.bin .leq .no (.t 8) (zc 100)),zzh 10 6 9,zm 11 10,zw 11 true 12 (zl 3 1),zj 11 true 13 (zk 163 [zze 12]),zzh 14 11 13,zm 2 14]
def k0do:IC:=(.seq qbp5 (.seq qb1p .ret))
@[go_sem] def s0do:zzR:=[(.t 2,.id)]
theorem c0do:cFun Tryz.prog 112=some (15,k0do,s0do):=by kernel_rfl

def qbos:IC:=zr [zzn 3 1,zzj 4 0]
def qccp:IC:=zr [zzp 9 3 0,zzr 10 1 9,zv 11 (zq (.t 10) (.c (.str [])))]
def qcd3:IC:=zr [zm 13 0,zzp 14 3 1,zzr 15 1 14,zi 16 (zk 164 [((.t 13),(.sl 4)),zI 15]),zm 12 16,zzt 17 12 0,zzt 18 12 1,zi 5 zzv,zn (.st 3 zza (.t 5) (.t 17)),zm 6 18]
def qbra:IC:=zr [zm 19 6]
def qcaf:IC:=zr [zzq 20 3 5,zi 21 (zk 9 [zze 20]),zm 4 21]
def qbog:IC:=zr [zzj 4 1]
def qbvt:IC:=zr [zzj 7 1]
def qbv2:IC:=zr [zzj 8 0]
def qbvs:IC:=zr [zm 22 8,zzp 23 3 2,zzr 24 1 23,zzo 25 24,zzm 26 22 25]
def q9q:IC:=zr [zm 29 7,zm 30 0,zzp 31 3 2,zzr 32 1 31,zm 33 8,zzs 34 3 32 33,zzq 35 3 34,zi 36 (zk 113 [((.t 30),(.sl 4)),zze 35]),zv 37 (.bin .add .no (.t 29) (.t 36)),zm 7 37]
def qbb7:IC:=zr [zm 27 8,zzl 28 27 1,zm 8 28]
def qcbl:IC:=(.seq (.seq qbvs (.cond (.t 26) .skip (.exit 0))) (.seq (.block 1 q9q) qbb7))
def qbkj:IC:=zr [zm 38 7,zm 4 38]
def k0ea:IC:=(.seq qbos (.seq (.seq qccp (.cond (.t 11) (.seq qcd3 (.seq (.seq qbra (.cond (.t 19) (.seq qcaf .ret) .skip)) (.seq qbog .ret))) .skip)) (.seq qbvt (.seq (.seq qbv2 (.block 0 (.loop qcbl))) (.seq qbkj .ret)))))
@[go_sem] def s0ea:zzR:=[(.t 4,.id)]
theorem c0ea:cFun Tryz.prog 113=some (39,k0ea,s0ea):=by kernel_rfl

def qb9a:IC:=zr [zzn 3 1,zi 4 zzv]
def qbn3:IC:=zr [zzp 9 3 0,zzr 10 1 9,zv 11 (zq (.t 10) (.c (.str [])))]
def qb81:IC:=zr [zm 13 0,zzp 14 3 1,zzr 15 1 14,zi 16 (zk 164 [((.t 13),(.sl 4)),zI 15]),zm 12 16,zzt 17 12 0,zzt 18 12 1,zi 5 zzv,zn (.st 3 zza (.t 5) (.t 17)),zm 6 18]
def qb3k:IC:=zr [zm 19 6]
def qb97:IC:=zr [zzq 20 3 5,zn (.st 3 zza (.t 4) (.t 20))]
def qbsp:IC:=zr [zzq 21 3 3,zn (.st 3 zza (.t 4) (.t 21))]
def qb5a:IC:=zr [zv 7 (.mov (.c .nils))]
def qbxf:IC:=zr [zzj 8 0]
def qboz:IC:=zr [zm 22 8,zzp 23 3 2,zzr 24 1 23,zzo 25 24,zzm 26 22 25]
def q97:IC:=zr [zm 29 7,zm 30 0,zzp 31 3 2,zzr 32 1 31,zm 33 8,zzs 34 3 32 33,zzq 35 3 34,zi 36 (zk 114 [((.t 30),(.sl 4)),zze 35]),zv 37 (.bsl 3 [zze 36]),zi 38 (.app 3 (.agg [(.str []),(.int .i64 0),.nils]) 48 (.sl 3) (.t 29) (.t 37)),zm 7 38]
def qbe1:IC:=zr [zm 27 8,zzl 28 27 1,zm 8 28]
def qb8q:IC:=(.seq (.seq qboz (.cond (.t 26) .skip (.exit 0))) (.seq (.block 1 q97) qbe1))
def qbc7:IC:=zr [zm 39 7,zzp 40 3 2,zn (.st 1 (.sl 3) (.t 40) (.t 39))]
def qbkg:IC:=zr [zzq 41 3 3,zn (.st 3 zza (.t 4) (.t 41))]
def k0eb:IC:=(.seq qb9a (.seq (.seq qbn3 (.cond (.t 11) (.seq qb81 (.seq (.seq qb3k (.cond (.t 19) (.seq qb97 .ret) .skip)) (.seq qbsp .ret))) .skip)) (.seq qb5a (.seq (.seq qbxf (.block 0 (.loop qb8q))) (.seq qbc7 (.seq qbkg .ret))))))
@[go_sem] def s0eb:zzR:=[(.c true 3 4,zza)]
theorem c0eb:cFun Tryz.prog 114=some (42,k0eb,s0eb):=by kernel_rfl

def qbti:IC:=zr [zzn 4 1,zzn 5 2,zv 6 (.mov (.c .nils)),zzj 7 0]
def qbuq:IC:=zr [zm 13 0,zzq 14 3 4,zi 15 (zk 72 [((.t 13),(.sl 4)),zze 14]),zm 12 15,zzt 16 12 0,zzt 17 12 1,zn (.st 3 zza (.t 4) (.t 16)),zm 8 17]
def qcc5:IC:=zr [zm 18 8,zv 19 (.bin .neq .no (.t 18) (zc 0))]
def qb85:IC:=zr [zm 20 8,zv 6 (.mov (.c .nils)),zm 7 20]
def qbl3:IC:=zr [zm 22 0,zzq 23 3 5,zi 24 (zk 72 [((.t 22),(.sl 4)),zze 23]),zm 21 24,zzt 25 21 0,zzt 26 21 1,zn (.st 3 zza (.t 5) (.t 25)),zm 8 26]
def qb7n:IC:=zr [zm 28 8,zv 29 (.bin .neq .no (.t 28) (zc 0)),zm 27 29]
def qb0l:IC:=zr [zm 30 8,zv 6 (.mov (.c .nils)),zm 7 30]
def qbx5:IC:=zr [zzp 32 4 0,zzr 33 1 32,zv 34 (zq (.t 33) (.c (.str []))),zm 31 34]
def qcb9:IC:=zr [zm 35 0,zzp 36 4 1,zzr 37 1 36,zzq 38 3 5,zi 39 (zk 165 [((.t 35),(.sl 4)),zI 37,zze 38]),zzt 40 39 0,zzt 41 39 1,zm 6 40,zm 7 41]
def qbmk:IC:=zr [zzp 43 5 0,zzr 44 1 43,zv 45 (zq (.t 44) (.c (.str []))),zm 42 45]
def qbjb:IC:=zr [zm 46 0,zzp 47 5 1,zzr 48 1 47,zzq 49 3 4,zi 50 (zk 165 [((.t 46),(.sl 4)),zI 48,zze 49]),zzt 51 50 0,zzt 52 50 1,zm 6 51,zm 7 52]
def qbc5:IC:=zr [zzp 54 4 0,zzr 55 1 54,zzp 56 5 0,zzr 57 1 56,zv 58 (.bin .neq .no (.t 55) (.t 57)),zm 59 58,zw 59 false 60 (zd 4 2),zw 59 false 61 (zg 1 60),zw 59 false 62 (.len false (.t 61)),zw 59 false 63 (zd 5 2),zw 59 false 64 (zg 1 63),zw 59 false 65 (.len false (.t 64)),zw 59 false 66 (.bin .neq .no (.t 62) (.t 65)),zzi 67 59 66,zm 53 67]
def qbfl:IC:=zr [zv 6 (.mov (.c .nils)),zzj 7 14]
def qbco:IC:=zr [zzj 9 0]
def qbkf:IC:=zr [zm 68 9,zzp 69 4 2,zzr 70 1 69,zzo 71 70,zzm 72 68 71]
def qbjo:IC:=.drw [zzu 76 0,zp (zzp 77 4 2),zp (zzr 78 1 77),zzu 79 9,zp (zzs 80 3 78 79),zp (zzq 81 3 80),zp (zzp 82 5 2),zp (zzr 83 1 82),zzu 84 9,zp (zzs 85 3 83 84),zp (zzq 86 3 85),(zi 87 (zk 115 [((.t 76),(.sl 4)),zze 81,zze 86]),[]),zzu 75 87,zp (zzt 88 75 0),zp (zzt 89 75 1),zzu 10 88,zzu 11 89]
def qbaf:IC:=zr [zm 90 11,zv 91 (.bin .neq .no (.t 90) (zc 0))]
def qbff:IC:=zr [zm 92 11,zv 6 (.mov (.c .nils)),zm 7 92]
def qbfg:IC:=zr [zm 93 10,zm 0 93]
def qbkp:IC:=zr [zm 73 9,zzl 74 73 1,zm 9 74]
def qbc0:IC:=(.seq (.seq qbkf (.cond (.t 72) .skip (.exit 1))) (.seq (.block 2 (.seq qbjo (.seq (.seq qbaf (.cond (.t 91) (.seq qbff .ret) .skip)) qbfg))) qbkp))
def qbeg:IC:=zr [zm 94 0,zm 6 94,zzj 7 0]
def k0fz:IC:=(.seq qbti (.seq qbuq (.seq (.seq qcc5 (.cond (.t 19) (.seq qb85 .ret) .skip)) (.seq qbl3 (.seq (.block 0 (.seq qb7n (.cond (.t 27) (.seq qb0l .ret) (.seq qbx5 (.cond (.t 31) (.seq qcb9 .ret) (.seq qbmk (.cond (.t 42) (.seq qbjb .ret) (.seq qbc5 (.cond (.t 53) (.seq qbfl .ret) .skip))))))))) (.seq (.seq qbco (.block 1 (.loop qbc0))) (.seq qbeg .ret)))))))
@[go_sem] def s0fz:zzR:=[(.t 6,(.sl 4)),(.t 7,.id)]
theorem c0fz:cFun Tryz.prog 115=some (95,k0fz,s0fz):=by kernel_rfl

def qb7e:IC:=zr [zzn 5 2,zv 6 (.mov (.c .nils)),zzj 7 0]
def qb4n:IC:=zr [zzq 11 3 5,zi 12 (zk 112 [zze 11]),zv 13 (.un .not (.t 12))]
def qb4e:IC:=zr [zm 14 0,zm 6 14,zzj 7 1]
def qbnb:IC:=zr [zm 16 0,zm 17 1,zi 18 (zk 164 [((.t 16),(.sl 4)),zI 17]),zm 15 18,zzt 19 15 0,zzt 20 15 1,zi 8 zzv,zn (.st 3 zza (.t 8) (.t 19)),zm 9 20]
def qbx2:IC:=zr [zm 21 9]
def qcbp:IC:=zr [zm 22 0,zm 6 22,zzj 7 6]
def qbnv:IC:=zr [zzj 10 0]
def qb0h:IC:=zr [zm 23 10,zm 24 0,zzo 25 24,zzm 26 23 25,zm 27 26,zw 27 true 28 (zo 0),zw 27 true 29 (zo 10),zw 27 true 30 (.iad 4 (.t 28) (.t 29)),zw 27 true 31 (zd 30 0),zw 27 true 32 (zg 1 31),zw 27 true 33 (zo 1),zw 27 true 34 (.bin .lss .no (.t 32) (.t 33)),zzh 35 27 34]
def qceq:IC:=zr [zm 36 10,zzl 37 36 1,zm 10 37]
def qb62:IC:=(.seq (.seq qb0h (.cond (.t 35) .skip (.exit 0))) (.block 1 qceq))
def qbko:IC:=.drw [zzu 38 0,zzu 39 10,zp (zv 40 (.slv 4 (.t 38) none (some (.t 39)) none)),(zi 41 (.app 4 (.agg [(.int .i64 0),(.str []),(.int .i64 0),.nils]) 56 (.sl 4) (.c .nils) (.t 40)),[]),zzu 42 1,(zzq 43 3 5,[3]),(zv 44 (.bld [(.int .i64 0),(.str []),(.int .i64 0),.nils] [(0,1,(.t 42)),(1,3,(.t 43))]),[]),(zv 45 (.bsl 4 [((.t 44),zzd)]),[3]),(zi 46 (.app 4 (.agg [(.int .i64 0),(.str []),(.int .i64 0),.nils]) 56 (.sl 4) (.t 41) (.t 45)),[]),zzu 47 0,zzu 48 10,(zv 49 (.slv 4 (.t 47) (some (.t 48)) none none),[3,8]),(zi 50 (.app 4 (.agg [(.int .i64 0),(.str []),(.int .i64 0),.nils]) 56 (.sl 4) (.t 46) (.t 49)),[]),zzu 6 50,zp (zzj 7 0)]
def k0cy:IC:=(.seq qb7e (.seq (.seq qb4n (.cond (.t 13) (.seq qb4e .ret) .skip)) (.seq (.seq qbnb (.seq qbx2 (.cond (.t 21) (.seq qcbp .ret) .skip))) (.seq qbnv (.seq (.block 0 (.loop qb62)) (.seq qbko .ret))))))
@[go_sem] def s0cy:zzR:=[(.t 6,(.sl 4)),(.t 7,.id)]
theorem c0cy:cFun Tryz.prog 116=some (51,k0cy,s0cy):=by kernel_rfl

def qbtu:IC:=zr [zv 2 (.mov (.c (.int .u64 0)))]
def qbst:IC:=zr [zm 3 0,zv 4 (.bin .lss .no (.t 3) (zc 0))]
def qcby:IC:=zr [zm 5 0,zv 6 (.cvi .u64 (.t 5)),zv 7 (.un .neg (.t 6)),zm 2 7]
def qbpp:IC:=zr [zm 8 0,zv 9 (.cvi .u64 (.t 8)),zm 2 9]
def k0cs:IC:=(.seq qbtu (.seq (.seq qbst (.cond (.t 4) (.seq qcby .ret) .skip)) (.seq qbpp .ret)))
@[go_sem] def s0cs:zzR:=[(.t 2,.id)]
theorem c0cs:cFun Tryz.prog 117=some (10,k0cs,s0cs):=by kernel_rfl

def qbs0:IC:=zr [zzn 1 0,zzj 2 0]
def qbmd:IC:=zr [zzj 3 0]
def qb8o:IC:=zr [zzj 4 0]
def qccf:IC:=zr [zm 5 4,zzp 6 1 5,zzr 7 1 6,zzo 8 7,zzm 9 5 8]
def qbyw:IC:=zr [zm 12 3,zzp 13 1 5,zzr 14 1 13,zm 15 4,zzs 16 6 14 15,zzq 17 6 16,zi 18 (zk 118 [zzf 17]),zv 19 (.mm true (.t 12) (.t 18)),zm 3 19]
def qcec:IC:=zr [zm 10 4,zzl 11 10 1,zm 4 11]
def qb5s:IC:=(.seq (.seq qccf (.cond (.t 9) .skip (.exit 0))) (.seq (.block 1 qbyw) qcec))
def qb4f:IC:=zr [zm 20 3,zzl 21 20 1,zm 2 21]
def k0fl:IC:=(.seq qbs0 (.seq qbmd (.seq (.seq qb8o (.block 0 (.loop qb5s))) (.seq qb4f .ret))))
@[go_sem] def s0fl:zzR:=[(.t 2,.id)]
theorem c0fl:cFun Tryz.prog 118=some (22,k0fl,s0fl):=by kernel_rfl

def qca2:IC:=zr [zzn 1 0,zv 2 zf]
def qb44:IC:=zr [zzp 3 1 0,zzr 4 1 3]
def qcd7:IC:=zr [zv 6 (zq (.t 4) (zc 1)),zm 5 6]
def qbma:IC:=zr [zzq 7 6 1,zi 8 (zk 166 [zzf 7,((.c (.bool true)),.id),((zc 0),.id),((zc 0),.id)]),zm 2 8]
def qbqd:IC:=zr [zv 10 (zq (.t 4) (zc 2)),zm 9 10]
def qcam:IC:=zr [zv 11 (zq (.t 4) (zc 14)),zm 9 11]
def qbxy:IC:=zr [zzq 12 6 1,zi 13 (zk 167 [zzf 12,((zc 0),.id)]),zm 2 13]
def qb2x:IC:=zr [zv 15 (zq (.t 4) (zc 3)),zm 14 15]
def qb71:IC:=zr [zzq 16 6 1,zi 17 (zk 166 [zzf 16,((.c (.bool true)),.id),((zc 1),.id),((zc 1),.id)]),zm 18 17,zw 18 true 19 (zd 1 4),zw 18 true 20 (zg 1 19),zj 18 true 21 (zk 168 [((.t 20),(.sl 3))]),zzh 22 18 21,zm 23 22,zw 23 true 24 (zl 6 1),zj 23 true 25 (zk 169 [zzf 24,((zc 0),.id)]),zzh 26 23 25,zm 2 26]
def qceg:IC:=zr [zv 28 (zq (.t 4) (zc 4)),zm 27 28]
def q9k:IC:=zr [zzq 29 6 1,zi 30 (zk 166 [zzf 29,((.c (.bool false)),.id),((zc 0),.id),((zc 2),.id)]),zm 31 30,zw 31 true 32 (zl 6 1),zj 31 true 33 (zk 169 [zzf 32,((zc 0),.id)]),zzh 34 31 33,zm 2 34]
def qbh9:IC:=zr [zv 36 (zq (.t 4) (zc 5)),zm 35 36]
def qbgb:IC:=zr [zzp 37 1 2,zzr 38 1 37,zv 39 (zq (.t 38) (.c (.str []))),zm 40 39,zw 40 true 41 (zd 1 1),zw 40 true 42 (zg 1 41),zw 40 true 43 (zq (.t 42) (zc 0)),zzh 44 40 43,zm 45 44,zw 45 true 46 (zd 1 4),zw 45 true 47 (zg 1 46),zw 45 true 48 (.len false (.t 47)),zw 45 true 49 (zq (.t 48) (zc 0)),zzh 50 45 49,zm 51 50,zw 51 true 52 (zd 1 5),zw 51 true 53 (zg 1 52),zw 51 true 54 (.len false (.t 53)),zw 51 true 55 (zq (.t 54) (zc 1)),zzh 56 51 55,zm 57 56,zw 57 true 58 (zl 6 1),zj 57 true 59 (zk 169 [zzf 58,((zc 0),.id)]),zzh 60 57 59,zm 2 60]
def qbgd:IC:=zr [zv 62 (zq (.t 4) (zc 6)),zm 61 62]
def qbbu:IC:=zr [zzq 63 6 1,zzp 64 1 4,zzr 65 1 64,zzo 66 65,zi 67 (zk 166 [zzf 63,((.c (.bool false)),.id),zI 66,((zc 1),.id)]),zm 68 67,zw 68 true 69 (zd 1 4),zw 68 true 70 (zg 1 69),zj 68 true 71 (zk 168 [((.t 70),(.sl 3))]),zzh 72 68 71,zm 73 72,zw 73 true 74 (zl 6 1),zj 73 true 75 (zk 169 [zzf 74,((zc 0),.id)]),zzh 76 73 75,zm 2 76]
def qbdx:IC:=zr [zv 78 (zq (.t 4) (zc 7)),zm 77 78]
def qbj0:IC:=zr [zzq 79 6 1,zzp 80 1 4,zzr 81 1 80,zzo 82 81,zi 83 (zk 166 [zzf 79,((.c (.bool true)),.id),zI 82,((zc 0),.id)]),zm 84 83,zw 84 true 85 (zd 1 4),zw 84 true 86 (zg 1 85),zj 84 true 87 (zk 168 [((.t 86),(.sl 3))]),zzh 88 84 87,zm 2 88]
def qbc8:IC:=zr [zv 90 (zq (.t 4) (zc 8)),zm 89 90]
def qbcy:IC:=zr [zzq 91 6 1,zi 92 (zk 170 [zzf 91]),zm 2 92]
def qbbm:IC:=zr [zv 94 (zq (.t 4) (zc 10)),zm 93 94]
def qbd7:IC:=zr [zzq 95 6 1,zi 96 (zk 171 [zzf 95]),zm 2 96]
def qbc3:IC:=zr [zv 98 (zq (.t 4) (zc 12)),zm 97 98]
def qbf3:IC:=zr [zzq 99 6 1,zzp 100 1 5,zzr 101 1 100,zzo 102 101,zi 103 (zk 166 [zzf 99,((.c (.bool true)),.id),((zc 1),.id),zI 102]),zm 104 103,zw 104 true 105 (zd 1 4),zw 104 true 106 (zg 1 105),zj 104 true 107 (zk 168 [((.t 106),(.sl 3))]),zzh 108 104 107,zm 109 108,zw 109 true 110 (zl 6 1),zj 109 true 111 (zk 169 [zzf 110,((zc 0),.id)]),zzh 112 109 111,zm 2 112]
def qbgq:IC:=zr [zv 114 (zq (.t 4) (zc 13)),zm 113 114]
def qbfk:IC:=zr [zzp 115 1 2,zzr 116 1 115,zv 117 (.bin .neq .no (.t 116) (.c (.str []))),zm 118 117,zw 118 true 119 (zd 1 1),zw 118 true 120 (zg 1 119),zw 118 true 121 (.bin .geq .no (.t 120) (zc 0)),zzh 122 118 121,zm 123 122,zw 123 true 124 (zd 1 3),zw 123 true 125 (zg 1 124),zw 123 true 126 (.len false (.t 125)),zw 123 true 127 (zq (.t 126) (zc 0)),zzh 128 123 127,zm 129 128,zw 129 true 130 (zd 1 4),zw 129 true 131 (zg 1 130),zw 129 true 132 (.len false (.t 131)),zw 129 true 133 (zq (.t 132) (zc 0)),zzh 134 129 133,zm 135 134,zw 135 true 136 (zd 1 5),zw 135 true 137 (zg 1 136),zw 135 true 138 (.len false (.t 137)),zw 135 true 139 (zq (.t 138) (zc 1)),zzh 140 135 139,zm 141 140,zw 141 true 142 (zl 6 1),zj 141 true 143 (zk 169 [zzf 142,((zc 0),.id)]),zzh 144 141 143,zm 2 144]
def qbbe:IC:=zr [zv 2 zf]
def k0fc:IC:=(.seq qca2 (.seq (.seq qb44 (.block 0 (.seq qcd7 (.cond (.t 5) (.seq qbma .ret) (.seq (.seq qbqd (.cond (.t 9) .skip qcam)) (.cond (.t 9) (.seq qbxy .ret) (.seq qb2x (.cond (.t 14) (.seq qb71 .ret) (.seq qceg (.cond (.t 27) (.seq q9k .ret) (.seq qbh9 (.cond (.t 35) (.seq qbgb .ret) (.seq qbgd (.cond (.t 61) (.seq qbbu .ret) (.seq qbdx (.cond (.t 77) (.seq qbj0 .ret) (.seq qbc8 (.cond (.t 89) (.seq qbcy .ret) (.seq qbbm (.cond (.t 93) (.seq qbd7 .ret) (.seq qbc3 (.cond (.t 97) (.seq qbf3 .ret) (.seq qbgq (.cond (.t 113) (.seq qbfk .ret) .skip)))))))))))))))))))))))) (.seq qbbe .ret)))
@[go_sem] def s0fc:zzR:=[(.t 2,.id)]
theorem c0fc:cFun Tryz.prog 119=some (145,k0fc,s0fc):=by kernel_rfl

def qb3j:IC:=zr [zzn 2 0,zzn 3 1,zi 4 zzv,zv 5 zf]
def qb8l:IC:=zr [zzq 7 3 3,zi 8 (zk 172 [zze 7]),zv 9 (.un .not (.t 8))]
def qb9z:IC:=zr [zv 10 (.bld [(.str []),(.int .i64 0),.nils] []),zn (.st 3 zza (.t 4) (.t 10)),zv 5 zf]
def qbl5:IC:=zr [zzq 11 9 2,zzq 12 3 3,zi 13 (zk 173 [zzg 11,zze 12]),zi 6 zzv,zn (.st 3 zza (.t 6) (.t 13))]
def qb4y:IC:=zr [zzq 14 3 6,zi 15 (zk 172 [zze 14]),zv 16 (.un .not (.t 15))]
def qb9q:IC:=zr [zv 17 (.bld [(.str []),(.int .i64 0),.nils] []),zn (.st 3 zza (.t 4) (.t 17)),zv 5 zf]
def qbxs:IC:=zr [zzq 18 3 6,zn (.st 3 zza (.t 4) (.t 18)),zzk 5]
def k0ey:IC:=(.seq qb3j (.seq (.seq qb8l (.cond (.t 9) (.seq qb9z .ret) .skip)) (.seq qbl5 (.seq (.seq qb4y (.cond (.t 16) (.seq qb9q .ret) .skip)) (.seq qbxs .ret)))))
@[go_sem] def s0ey:zzR:=[(.c true 3 4,zza),(.t 5,.id)]
theorem c0ey:cFun Tryz.prog 120=some (19,k0ey,s0ey):=by kernel_rfl

def qbr4:IC:=zr [zzn 4 1,zv 6 zf]
def qbmu:IC:=zr [zm 13 0,zv 14 (.nck (.t 13)),zzp 15 14 0,zzr 16 1 15,zv 17 (.bin .sub .no (.t 16) (zc 1)),zv 18 (.nck (.t 13)),zzp 19 18 0,zn (.st 1 .id (.t 19) (.t 17))]
def qbsr:IC:=zr [zm 20 0,zv 21 (.nck (.t 20)),zzp 22 21 0,zzr 23 1 22,zv 24 (.bin .lss .no (.t 23) (zc 0)),zm 25 24,zw 25 false 26 (zo 2),zw 25 false 27 (.bin .lss .no (.t 26) (zc 1)),zzi 28 25 27]
def qb25:IC:=zr [zv 6 zf]
def qb0x:IC:=zr [zzq 30 3 4,zi 31 (zk 174 [zze 30]),zm 29 31,zzt 32 29 0,zzt 33 29 1,zzt 34 29 2,zi 8 zzv,zm 7 32,zn (.st 3 zza (.t 8) (.t 33)),zm 9 34]
def qb6r:IC:=zr [zm 35 9,zv 36 (.un .not (.t 35))]
def qw0:IC:=.drw [zp (zzp 37 4 0),zp (zzr 38 1 37),zp (zzp 39 4 1),zp (zzr 40 1 39),zp (zzp 41 4 2),zp (zzr 42 1 41),zp (zzo 43 42),zp (zv 44 (.mm false (.t 43) (zc 4095))),(zi 45 (.mks 3 (.agg [(.str []),(.int .i64 0),.nils]) 48 (.t 44) (.t 44)),[1,3]),(zv 46 (.bld [(.str []),(.int .i64 0),.nils] [(0,1,(.t 38)),(1,1,(.t 40)),(2,1,(.t 45))]),[]),(zi 10 zzv,[1,3,5,8]),(zn (.st 3 zza (.t 10) (.t 46)),[])]
def qb4k:IC:=zr [zzq 47 3 10,zi 48 (zk 67 [zze 47]),zv 49 (.un .not (.t 48))]
def qb4j:IC:=zr [zv 6 zf]
def qbow:IC:=zr [zzp 50 4 2,zzr 51 1 50,zzo 52 51,zzj 53 0]
def qbft:IC:=zr [zzm 54 53 52]
def qbhm:IC:=zr [zzs 55 3 51 53,zzq 56 3 55,zi 12 zzv,zn (.st 3 zza (.t 12) (.t 56))]
def qbdf:IC:=zr [zm 57 0,zzq 58 3 12,zm 59 2,zv 60 (.bin .sub .no (.t 59) (zc 1)),zi 61 (zk 121 [zI 57,zze 58,zI 60]),zv 62 (.un .not (.t 61))]
def qbat:IC:=zr [zv 6 zf]
def qbbs:IC:=zr [zzl 63 53 1,zm 53 63]
def q9y:IC:=(.seq qbft (.seq (.cond (.t 54) .skip (.exit 0)) (.seq (.block 1 (.seq qbhm (.seq qbdf (.cond (.t 62) (.seq qbat .ret) .skip)))) qbbs)))
def qbj8:IC:=zr [zzk 6]
def k0bm:IC:=(.seq qbr4 (.seq qbmu (.seq (.seq qbsr (.cond (.t 28) (.seq qb25 .ret) .skip)) (.seq (.seq qb0x (.seq qb6r (.cond (.t 36) (.seq qw0 (.seq qb4k (.cond (.t 49) (.seq qb4j .ret) .skip))) .skip))) (.seq (.seq qbow (.block 0 (.loop q9y))) (.seq qbj8 .ret))))))
@[go_sem] def s0bm:zzR:=[(.t 6,.id)]
theorem c0bm:cFun Tryz.prog 121=some (64,k0bm,s0bm):=by kernel_rfl

def qcea:IC:=zr [zzj 4 0]
def qb5q:IC:=zr [zm 6 0,zzo 7 6,zzj 8 0]
def qbz1:IC:=zr [zzm 9 8 7]
def qccy:IC:=zr [zm 10 8,zm 5 10]
def qbsf:IC:=zr [zm 11 1,zm 12 0,zm 13 5,zzs 14 1 12 13,zzr 15 1 14,zv 16 (zq (.t 11) (.t 15))]
def qbpj:IC:=zr [zm 17 5,zm 4 17]
def qcc1:IC:=zr [zzl 18 8 1,zm 8 18]
def qcbz:IC:=(.seq qbz1 (.seq (.cond (.t 9) .skip (.exit 0)) (.seq (.block 1 (.seq qccy (.seq qbsf (.cond (.t 16) (.seq qbpj .ret) .skip)))) qcc1)))
def qccc:IC:=zr [zv 4 (.mov (zc (-1)))]
def k0bt:IC:=(.seq qcea (.seq (.seq qb5q (.block 0 (.loop qcbz))) (.seq qccc .ret)))
@[go_sem] def s0bt:zzR:=[(.t 4,.id)]
theorem c0bt:cFun Tryz.prog 122=some (19,k0bt,s0bt):=by kernel_rfl

def qcaj:IC:=zr [zi 4 zzv,zv 5 zf]
def qbv7:IC:=zr [zm 8 0,zv 9 (.bin .eql .ptr (.t 8) (.c .nilp))]
def qb6l:IC:=zr [zv 10 (.bld [(.str []),(.int .i64 0),.nils] []),zn (.st 3 zza (.t 4) (.t 10)),zv 5 zf]
def qced:IC:=zr [zm 12 0,zm 13 1,zi 14 (zk 107 [zI 12,zI 13]),zm 11 14,zzt 15 11 0,zzt 16 11 1,zm 6 15,zm 7 16]
def qb00:IC:=zr [zm 17 7,zv 18 (.un .not (.t 17))]
def qbpr:IC:=zr [zv 19 (.bld [(.str []),(.int .i64 0),.nils] []),zn (.st 3 zza (.t 4) (.t 19)),zv 5 zf]
def qbzf:IC:=zr [zm 20 0,zv 21 (.nck (.t 20)),zzp 22 21 0,zzr 23 1 22,zm 24 6,zzs 25 4 23 24,zzp 26 25 1,zzq 27 3 26,zn (.st 3 zza (.t 4) (.t 27)),zzk 5]
def k0dq:IC:=(.seq qcaj (.seq (.seq qbv7 (.cond (.t 9) (.seq qb6l .ret) .skip)) (.seq qced (.seq (.seq qb00 (.cond (.t 18) (.seq qbpr .ret) .skip)) (.seq qbzf .ret)))))
@[go_sem] def s0dq:zzR:=[(.c true 3 4,zza),(.t 5,.id)]
theorem c0dq:cFun Tryz.prog 123=some (28,k0dq,s0dq):=by kernel_rfl

def qbx7:IC:=zr [zzn 1 0,zzj 2 0]
def qbmy:IC:=zr [zi 3 (.alo [(.int .i64 0)]),zn (.st 1 .id (.t 3) (zc 0))]
def qb7x:IC:=zr [zzq 4 3 1,zv 5 (.mfn 175 [] [(.t 3)]),zi 6 (zk 99 [zze 4,((zc 1),.id),zI 5])]
def qb8t:IC:=zr [zzr 7 1 3,zm 2 7]
def k0dh:IC:=(.seq qbx7 (.seq qbmy (.seq qb7x (.seq qb8t .ret))))
@[go_sem] def s0dh:zzR:=[(.t 2,.id)]
theorem c0dh:cFun Tryz.prog 124=some (8,k0dh,s0dh):=by kernel_rfl

def qb28:IC:=zr [zzn 1 0,zzj 2 0]
def qbrk:IC:=zr [zi 3 (.alo [(.int .i64 0)]),zn (.st 1 .id (.t 3) (zc 0))]
def qb8k:IC:=zr [zzq 4 3 1,zv 5 (.mfn 176 [] [(.t 3)]),zi 6 (zk 99 [zze 4,((zc 1),.id),zI 5])]
def qbsu:IC:=zr [zzr 7 1 3,zm 2 7]
def k0di:IC:=(.seq qb28 (.seq qbrk (.seq qb8k (.seq qbsu .ret))))
@[go_sem] def s0di:zzR:=[(.t 2,.id)]
theorem c0di:cFun Tryz.prog 125=some (8,k0di,s0di):=by kernel_rfl

def qcgp:IC:=zr [zzn 2 0]
def qcmy:IC:=zr [zzp 4 2 0,zzq 5 6 4,zm 6 1,zi 7 (zk 177 [zzf 5,((zc 1),.id),zI 6])]
def k0r:IC:=(.seq qcgp qcmy)
@[go_sem] def s0r:zzR:=[]
theorem c0r:cFun Tryz.prog 126=some (8,k0r,s0r):=by kernel_rfl

def qb9l:IC:=zr [zzn 1 0,zv 2 zf]
def qbl2:IC:=zr [zzp 6 1 0,zzr 7 1 6,zi 8 (zk 178 [zI 7]),zm 5 8,zzt 9 5 0,zzt 10 5 1,zi 3 (.alo [(.bool false),(.bool false),(.bool false),(.int .i64 0),(.int .i64 0)]),zn (.st 5 .id (.t 3) (.t 9)),zm 4 10]
def q5i:IC:=zr [zm 11 4,zv 12 (.un .not (.t 11)),zm 13 12,zw 13 false 14 (zd 1 2),zw 13 false 15 (zg 1 14),zw 13 false 16 (.bin .neq .no (.t 15) (.c (.str []))),zw 13 false 17 (zd 3 0),zw 13 false 18 (zg 1 17),zw 13 false 19 (.bin .neq .bool (.t 16) (.t 18)),zzi 20 13 19,zm 21 20,zw 21 false 22 (zd 1 1),zw 21 false 23 (zg 1 22),zw 21 false 24 (.bin .neq .no (.t 23) (zc 0)),zw 21 false 25 (zo 24),zw 25 true 26 (zd 3 1),zw 25 true 27 (zg 1 26),zw 25 true 28 (.un .not (.t 27)),zw 21 false 29 (.pick (.t 25) (.t 28) (.c (.bool false))),zzi 30 21 29,zm 31 30,zw 31 false 32 (zd 1 1),zw 31 false 33 (zg 1 32),zw 31 false 34 (.bin .lss .no (.t 33) (zc 0)),zw 31 false 35 (zo 34),zw 35 true 36 (zd 3 2),zw 35 true 37 (zg 1 36),zw 31 false 38 (.pick (.t 35) (.t 37) (.c (.bool false))),zzi 39 31 38]
def qcbq:IC:=zr [zv 2 zf]
def qcci:IC:=zr [zzp 40 1 3,zzr 41 1 40,zzo 42 41,zv 43 (.bin .gtr .no (.t 42) (zc 0)),zm 44 43,zw 44 true 45 (zd 1 0),zw 44 true 46 (zg 1 45),zw 44 true 47 (.bin .neq .no (.t 46) (zc 5)),zzh 48 44 47,zm 49 48,zw 49 true 50 (zd 1 0),zw 49 true 51 (zg 1 50),zw 49 true 52 (.bin .neq .no (.t 51) (zc 11)),zzh 53 49 52]
def qbz3:IC:=zr [zv 2 zf]
def qbt4:IC:=zr [zzp 54 3 3,zzr 55 1 54,zv 56 (.bin .geq .no (.t 55) (zc 0)),zm 57 56,zw 57 true 58 (zd 1 4),zw 57 true 59 (zg 1 58),zw 57 true 60 (.len false (.t 59)),zw 57 true 61 (zd 3 3),zw 57 true 62 (zg 1 61),zw 57 true 63 (.bin .neq .no (.t 60) (.t 62)),zzh 64 57 63,zm 65 64,zw 65 false 66 (zd 3 4),zw 65 false 67 (zg 1 66),zw 65 false 68 (.bin .geq .no (.t 67) (zc 0)),zw 65 false 69 (zo 68),zw 69 true 70 (zd 1 5),zw 69 true 71 (zg 1 70),zw 69 true 72 (.len false (.t 71)),zw 69 true 73 (zd 3 4),zw 69 true 74 (zg 1 73),zw 69 true 75 (.bin .neq .no (.t 72) (.t 74)),zw 65 false 76 (.pick (.t 69) (.t 75) (.c (.bool false))),zzi 77 65 76]
def qbl6:IC:=zr [zv 2 zf]
def qbwu:IC:=zr [zzp 78 1 4,zzr 79 1 78,zi 80 (zk 179 [((.t 79),(.sl 3)),((.c (.fn 180 [] [])),.id)]),zv 81 (.un .not (.t 80)),zm 2 81]
def k0bd:IC:=(.seq qb9l (.seq qbl2 (.seq (.seq q5i (.cond (.t 39) (.seq qcbq .ret) .skip)) (.seq (.seq qcci (.cond (.t 53) (.seq qbz3 .ret) .skip)) (.seq (.seq qbt4 (.cond (.t 77) (.seq qbl6 .ret) .skip)) (.seq qbwu .ret))))))
@[go_sem] def s0bd:zzR:=[(.t 2,.id)]
theorem c0bd:cFun Tryz.prog 127=some (82,k0bd,s0bd):=by kernel_rfl

def qbz6:IC:=zr [zv 4 zf]
def qbme:IC:=zr [zm 5 0,zm 6 1,zi 7 (zk 181 [((.t 5),(.sl 6)),zI 6]),zv 8 (.bin .geq .no (.t 7) (zc 0)),zm 4 8]
def k0bh:IC:=(.seq qbz6 (.seq qbme .ret))
@[go_sem] def s0bh:zzR:=[(.t 4,.id)]
theorem c0bh:cFun Tryz.prog 128=some (9,k0bh,s0bh):=by kernel_rfl

def qbrq:IC:=zr [zzn 1 0,zv 2 zf]
def qbtn:IC:=zr [zzp 3 1 0,zzr 4 1 3,zv 5 (.bin .neq .no (.t 4) (zc 9)),zm 6 5,zw 6 false 7 (zl 6 1),zj 6 false 8 (zk 127 [zzf 7]),zw 6 false 9 (.un .not (.t 8)),zzi 10 6 9,zm 11 10,zw 11 false 12 (zd 1 5),zw 11 false 13 (zg 1 12),zw 11 false 14 (.iad 6 (.t 13) (zc 0)),zw 11 false 15 (zl 6 14),zj 11 false 16 (zk 130 [zzf 15]),zw 11 false 17 (.un .not (.t 16)),zzi 18 11 17,zm 19 18,zw 19 false 20 (zd 1 5),zw 19 false 21 (zg 1 20),zw 19 false 22 (.iad 6 (.t 21) (zc 1)),zw 19 false 23 (zl 6 22),zj 19 false 24 (zk 86 [zzf 23]),zw 19 false 25 (.un .not (.t 24)),zzi 26 19 25,zm 2 26]
def k0bb:IC:=(.seq qbrq (.seq qbtn .ret))
@[go_sem] def s0bb:zzR:=[(.t 2,.id)]
theorem c0bb:cFun Tryz.prog 129=some (27,k0bb,s0bb):=by kernel_rfl

def qckg:IC:=zr [zzn 1 0,zv 2 zf]
def qcgz:IC:=zr [zzp 3 1 0,zzr 4 1 3,zv 5 (.bin .geq .no (.t 4) (zc 21)),zm 6 5,zw 6 true 7 (zl 6 1),zj 6 true 8 (zk 127 [zzf 7]),zzh 9 6 8,zm 10 9,zw 10 true 11 (zd 1 5),zw 10 true 12 (zg 1 11),zj 10 true 13 (zk 128 [((.t 12),(.sl 6)),((.c (.fn 182 [] [])),.id)]),zw 10 true 14 (.un .not (.t 13)),zzh 15 10 14,zm 2 15]
def k0y:IC:=(.seq qckg (.seq qcgz .ret))
@[go_sem] def s0y:zzR:=[(.t 2,.id)]
theorem c0y:cFun Tryz.prog 130=some (16,k0y,s0y):=by kernel_rfl

def qbv3:IC:=zr [zzn 1 0,zv 2 zf]
def qbp9:IC:=zr [zzp 3 1 0,zzr 4 1 3,zv 5 (.bin .neq .no (.t 4) (zc 11)),zm 6 5,zw 6 false 7 (zl 6 1),zj 6 false 8 (zk 127 [zzf 7]),zw 6 false 9 (.un .not (.t 8)),zzi 10 6 9,zm 11 10,zw 11 false 12 (zd 1 5),zw 11 false 13 (zg 1 12),zw 11 false 14 (.iad 6 (.t 13) (zc 0)),zw 11 false 15 (zl 6 14),zj 11 false 16 (zk 86 [zzf 15]),zw 11 false 17 (.un .not (.t 16)),zzi 18 11 17,zm 2 18]
def k0ba:IC:=(.seq qbv3 (.seq qbp9 .ret))
@[go_sem] def s0ba:zzR:=[(.t 2,.id)]
theorem c0ba:cFun Tryz.prog 131=some (19,k0ba,s0ba):=by kernel_rfl

def qcjv:IC:=zr [zzn 1 0,zv 2 zf]
def qcj9:IC:=zr [zzq 3 6 1,zi 4 (zk 86 [zzf 3]),zv 5 (.un .not (.t 4)),zm 2 5]
def k0z:IC:=(.seq qcjv (.seq qcj9 .ret))
@[go_sem] def s0z:zzR:=[(.t 2,.id)]
theorem c0z:cFun Tryz.prog 132=some (6,k0z,s0z):=by kernel_rfl

def qbsn:IC:=zr [zv 2 zf]
def qb5y:IC:=zr [zm 3 0,zv 4 (.bin .neq .no (.t 3) (.c (.str []))),zm 5 4,zw 5 true 6 (zo 0),zw 5 true 7 (.idx (.t 6) (zc 0)),zj 5 true 8 (zk 199 [zI 7]),zzh 9 5 8,zm 10 9,zw 10 true 11 (zo 0),zj 10 true 12 (zk 197 [zI 11]),zzh 13 10 12,zm 2 13]
def k0cq:IC:=(.seq qbsn (.seq qb5y .ret))
@[go_sem] def s0cq:zzR:=[(.t 2,.id)]
theorem c0cq:cFun Tryz.prog 148=some (14,k0cq,s0cq):=by kernel_rfl

def qbua:IC:=zr [zv 2 zf]
def qbqj:IC:=zr [zm 5 0,zi 6 (zk 205 [zI 5,((.c (.str [33])),.id)]),zv 7 (.un .not (.t 6))]
def qb8b:IC:=zr [zv 2 zf]
def qbrb:IC:=zr [zm 9 0,zv 10 (.sls (.t 9) (some (zc 1)) none),zi 11 (zk 206 [zI 10]),zm 8 11,zzt 12 8 0,zzt 13 8 1,zm 3 12,zm 4 13]
def qbp6:IC:=.drw [zzu 14 4,zp (zv 15 (zq (.t 14) (zc 0))),zzu 16 15,zp (zw 16 true 17 (zo 3)),(zj 16 true 18 (zk 52 [zI 17]),[]),zp (zw 16 true 19 (zo 0)),zp (zw 16 true 20 (.sls (.t 19) (some (zc 1)) none)),zp (zw 16 true 21 (zq (.t 18) (.t 20))),zp (zzh 22 16 21),zzu 2 22]
def k0bz:IC:=(.seq qbua (.seq (.seq qbqj (.cond (.t 7) (.seq qb8b .ret) .skip)) (.seq qbrb (.seq qbp6 .ret))))
@[go_sem] def s0bz:zzR:=[(.t 2,.id)]
theorem c0bz:cFun Tryz.prog 152=some (23,k0bz,s0bz):=by kernel_rfl

def qbvi:IC:=zr [zv 2 (.mov (.c (.str [])))]
def qb8u:IC:=zr [zm 4 0,zv 5 (.bin .lss .no (.t 4) (zc 0))]
def qcdx:IC:=zr [zv 2 (.mov (.c (.str [])))]
def qb6y:IC:=zr [zm 6 0,zv 7 (.bin .rem .no (.t 6) (zc 26)),zv 8 (.bin .add .no (zc 97) (.t 7)),zv 9 (.cvi .u8 (.t 8)),zv 10 (.bsl 1 [zI 9]),zv 11 (.cbs (.t 10)),zm 3 11]
def qbxk:IC:=zr [zm 12 0,zv 13 (.bin .lss .no (.t 12) (zc 26))]
def qbzr:IC:=zr [zm 14 3,zm 2 14]
def qcc9:IC:=zr [zm 15 3,zm 16 0,zv 17 (.bin .quo .no (.t 16) (zc 26)),zi 18 (zk 52 [zI 17]),zv 19 (.bin .add .no (.t 15) (.t 18)),zm 2 19]
def k0cv:IC:=(.seq qbvi (.seq (.seq qb8u (.cond (.t 5) (.seq qcdx .ret) .skip)) (.seq qb6y (.seq (.seq qbxk (.cond (.t 13) (.seq qbzr .ret) .skip)) (.seq qcc9 .ret)))))
@[go_sem] def s0cv:zzR:=[(.t 2,.id)]
theorem c0cv:cFun Tryz.prog 154=some (20,k0cv,s0cv):=by kernel_rfl

def qbzb:IC:=zr [zzj 6 0,zv 7 zf]
def qb6e:IC:=zr [zm 12 0,zzo 13 12,zm 8 13]
def qb1j:IC:=zr [zm 14 8,zzj 9 0,zm 10 14]
def qb7u:IC:=zr [zm 15 9,zm 16 10,zzm 17 15 16]
def qbza:IC:=zr [zm 18 9,zm 19 10,zv 20 (.bin .add .no (.t 18) (.t 19)),zv 21 (.cvi .u64 (.t 20)),zv 22 (.bin .shr .no (.t 21) (.c (.int .u64 1))),zv 23 (.cvi .i64 (.t 22)),zm 11 23]
def qbtc:IC:=zr [zm 24 2,zm 25 0,zm 26 11,zzs 27 4 25 26,zzq 28 4 27,zm 29 1,zi 30 (.call (.t 24) [((.t 28),zzd),zI 29]),zv 31 (.bin .lss .no (.t 30) (zc 0))]
def qbxe:IC:=zr [zm 32 11,zzl 33 32 1,zm 9 33]
def qb5o:IC:=zr [zm 34 11,zm 10 34]
def qb4u:IC:=(.seq (.seq qb7u (.cond (.t 17) .skip (.exit 0))) (.block 1 (.seq qbza (.seq qbtc (.cond (.t 31) qbxe qb5o)))))
def qbcr:IC:=zr [zm 35 9,zm 36 9,zm 37 8,zzm 38 36 37,zm 39 38,zw 39 true 40 (zo 2),zw 39 true 41 (zo 0),zw 39 true 42 (zo 9),zw 39 true 43 (.iad 4 (.t 41) (.t 42)),zw 39 true 44 (zl 4 43),zw 39 true 45 (zo 1),zj 39 true 46 (.call (.t 40) [((.t 44),zzd),zI 45]),zw 39 true 47 (zq (.t 46) (zc 0)),zzh 48 39 47,zm 6 35,zm 7 48]
def k0dr:IC:=(.seq qbzb (.seq qb6e (.seq qb1j (.seq (.block 0 (.loop qb4u)) (.seq qbcr .ret)))))
@[go_sem] def s0dr:zzR:=[(.t 6,.id),(.t 7,.id)]
theorem c0dr:cFun Tryz.prog 155=some (49,k0dr,s0dr):=by kernel_rfl

def qb03:IC:=zr [zzn 2 0,zzj 4 0]
def qcba:IC:=zr [zzp 6 2 0,zzr 7 1 6,zm 8 1,zzm 9 7 8,zm 5 9]
def qcbu:IC:=zr [zv 4 (.mov (zc (-1)))]
def qb78:IC:=zr [zzp 11 2 0,zzr 12 1 11,zm 13 1,zv 14 (.bin .gtr .no (.t 12) (.t 13)),zm 10 14]
def qbzl:IC:=zr [zzj 4 1]
def qby1:IC:=zr [zzj 4 0]
def k0dt:IC:=(.seq qb03 (.seq (.block 0 (.seq qcba (.cond (.t 5) (.seq qcbu .ret) (.seq qb78 (.cond (.t 10) (.seq qbzl .ret) .skip))))) (.seq qby1 .ret)))
@[go_sem] def s0dt:zzR:=[(.t 4,.id)]
theorem c0dt:cFun Tryz.prog 156=some (15,k0dt,s0dt):=by kernel_rfl

def qcdt:IC:=zr [zm 5 1,zzo 6 5,zv 7 (.bin .sub .no (.t 6) (zc 1)),zm 4 7]
def qb0v:IC:=zr [zm 8 4,zv 9 (.bin .geq .no (.t 8) (zc 0))]
def qbq6:IC:=.drw [zzu 12 0,zzu 13 0,zp (zv 14 (.nck (.t 13))),zp (zzp 15 14 0),zp (zzr 16 1 15),zzu 17 1,zzu 18 4,zp (zzs 19 6 17 18),zp (zzq 20 6 19),(zv 21 (.bsl 6 [((.t 20),(.agg [.id,.id,(.sl 3),.id,.id,(.sl 3)]))]),[]),(zi 22 (.app 6 (.agg [(.str []),(.int .i64 0),.nils,(.str []),(.int .i64 0),.nils]) 96 (.sl 6) (.t 16) (.t 21)),[]),zp (zv 23 (.nck (.t 12))),zp (zzp 24 23 0),(zn (.st 1 (.sl 6) (.t 24) (.t 22)),[])]
def qb9d:IC:=zr [zm 10 4,zv 11 (.bin .sub .no (.t 10) (zc 1)),zm 4 11]
def qceb:IC:=(.seq (.seq qb0v (.cond (.t 9) .skip (.exit 0))) (.seq (.block 1 qbq6) qb9d))
def k0ej:IC:=(.seq qcdt (.block 0 (.loop qceb)))
@[go_sem] def s0ej:zzR:=[]
theorem c0ej:cFun Tryz.prog 159=some (25,k0ej,s0ej):=by kernel_rfl

def qb5c:IC:=zr [zi 2 (.alo [(.str []),(.int .i64 0),.nils,(.str []),(.int .i64 0),.nils]),zv 3 zf]
def qb6z:IC:=zr [zi 4 (.alo [(.str []),(.int .i64 0),.nils,(.str []),(.int .i64 0),.nils])]
def qbrs:IC:=zr [zm 6 0,zv 7 (.nck (.t 6)),zzp 8 7 0,zzr 9 1 8,zzo 10 9,zv 11 (.bin .sub .no (.t 10) (zc 1)),zm 5 11]
def qbnc:IC:=zr [zm 12 5,zv 13 (.bin .lss .no (.t 12) (zc 0))]
def qccz:IC:=zr [zzq 14 6 4,zn (.st 6 (.agg [.id,.id,(.sl 3),.id,.id,(.sl 3)]) (.t 2) (.t 14)),zv 3 zf]
def qbl7:IC:=zr [zm 15 0,zv 16 (.nck (.t 15)),zzp 17 16 0,zzr 18 1 17,zm 19 5,zzs 20 6 18 19,zzq 21 6 20,zn (.st 6 (.agg [.id,.id,(.sl 3),.id,.id,(.sl 3)]) (.t 4) (.t 21))]
def qbrn:IC:=zr [zm 22 0,zm 23 0,zv 24 (.nck (.t 23)),zzp 25 24 0,zzr 26 1 25,zm 27 5,zv 28 (.slv 6 (.t 26) none (some (.t 27)) none),zv 29 (.nck (.t 22)),zzp 30 29 0,zn (.st 1 (.sl 6) (.t 30) (.t 28))]
def qcc8:IC:=zr [zzq 31 6 4,zn (.st 6 (.agg [.id,.id,(.sl 3),.id,.id,(.sl 3)]) (.t 2) (.t 31)),zzk 3]
def k0ek:IC:=(.seq qb5c (.seq qb6z (.seq qbrs (.seq (.seq qbnc (.cond (.t 13) (.seq qccz .ret) .skip)) (.seq qbl7 (.seq qbrn (.seq qcc8 .ret)))))))
@[go_sem] def s0ek:zzR:=[(.c true 6 2,(.agg [.id,.id,(.sl 3),.id,.id,(.sl 3)])),(.t 3,.id)]
theorem c0ek:cFun Tryz.prog 160=some (32,k0ek,s0ek):=by kernel_rfl

def qbxo:IC:=zr [zzn 4 1,zv 6 (.mov (.c .nilp)),zzj 7 0]
def qbs9:IC:=zr [zm 12 0,zzp 13 4 0,zzq 14 3 13,zi 15 (zk 53 [zI 12,zze 14]),zm 11 15,zzt 16 11 0,zzt 17 11 1,zi 8 zzv,zn (.st 3 zza (.t 8) (.t 16)),zm 9 17]
def qbuj:IC:=zr [zm 18 9,zv 19 (.bin .neq .no (.t 18) (zc 0))]
def qbpa:IC:=zr [zm 20 9,zv 6 (.mov (.c .nilp)),zm 7 20]
def qb7l:IC:=zr [zm 22 0,zzp 23 4 3,zzq 24 3 23,zi 25 (zk 53 [zI 22,zze 24]),zm 21 25,zzt 26 21 0,zzt 27 21 1,zi 10 zzv,zn (.st 3 zza (.t 10) (.t 26)),zm 9 27]
def qb86:IC:=zr [zm 29 9,zv 30 (.bin .neq .no (.t 29) (zc 0)),zm 28 30]
def qbtg:IC:=zr [zm 31 9,zv 6 (.mov (.c .nilp)),zm 7 31]
def qbsy:IC:=zr [zzp 33 8 0,zzr 34 1 33,zv 35 (zq (.t 34) (.c (.str []))),zm 32 35]
def qbu7:IC:=zr [zm 36 0,zzp 37 8 1,zzr 38 1 37,zzq 39 3 10,zi 40 (zk 209 [zI 36,zI 38,zze 39]),zzt 41 40 0,zzt 42 40 1,zm 6 41,zm 7 42]
def qbzu:IC:=zr [zzp 44 10 0,zzr 45 1 44,zv 46 (zq (.t 45) (.c (.str []))),zm 43 46]
def qbfr:IC:=zr [zm 47 0,zzp 48 10 1,zzr 49 1 48,zzq 50 3 8,zi 51 (zk 209 [zI 47,zI 49,zze 50]),zzt 52 51 0,zzt 53 51 1,zm 6 52,zm 7 53]
def qbht:IC:=zr [zzp 55 8 0,zzr 56 1 55,zzp 57 10 0,zzr 58 1 57,zv 59 (.bin .neq .no (.t 56) (.t 58)),zm 60 59,zw 60 false 61 (zd 8 2),zw 60 false 62 (zg 1 61),zw 60 false 63 (.len false (.t 62)),zw 60 false 64 (zd 10 2),zw 60 false 65 (zg 1 64),zw 60 false 66 (.len false (.t 65)),zw 60 false 67 (.bin .neq .no (.t 63) (.t 66)),zzi 68 60 67,zm 54 68]
def qbhv:IC:=zr [zv 6 (.mov (.c .nilp)),zzj 7 14]
def qbkd:IC:=zr [zm 69 2,zzp 70 8 2,zzr 71 1 70,zzp 72 10 2,zzr 73 1 72,zi 74 (zk 210 [((.t 71),(.sl 3)),((.t 73),(.sl 3))]),zi 75 (zk 159 [zI 69,((.t 74),(.sl 6))])]
def q9f:IC:=zr [zm 76 0,zm 6 76,zzj 7 0]
def k0ef:IC:=(.seq qbxo (.seq qbs9 (.seq (.seq qbuj (.cond (.t 19) (.seq qbpa .ret) .skip)) (.seq qb7l (.seq (.block 0 (.seq qb86 (.cond (.t 28) (.seq qbtg .ret) (.seq qbsy (.cond (.t 32) (.seq qbu7 .ret) (.seq qbzu (.cond (.t 43) (.seq qbfr .ret) (.seq qbht (.cond (.t 54) (.seq qbhv .ret) .skip))))))))) (.seq qbkd (.seq q9f .ret)))))))
@[go_sem] def s0ef:zzR:=[(.t 6,.id),(.t 7,.id)]
theorem c0ef:cFun Tryz.prog 161=some (77,k0ef,s0ef):=by kernel_rfl

def qbn1:IC:=zr [zzn 1 0,zzj 2 0]
def qbvr:IC:=zr [zzj 3 0]
def qb4z:IC:=zr [zzj 4 0]
def qb3e:IC:=zr [zm 5 4,zzp 6 1 2,zzr 7 1 6,zzo 8 7,zzm 9 5 8]
def qbzh:IC:=zr [zm 12 3,zzp 13 1 2,zzr 14 1 13,zm 15 4,zzs 16 3 14 15,zzq 17 3 16,zi 18 (zk 162 [zze 17]),zv 19 (.mm true (.t 12) (.t 18)),zm 3 19]
def qcds:IC:=zr [zm 10 4,zzl 11 10 1,zm 4 11]
def qb09:IC:=(.seq (.seq qb3e (.cond (.t 9) .skip (.exit 0))) (.seq (.block 1 qbzh) qcds))
def qbux:IC:=zr [zm 20 3,zzl 21 20 1,zm 2 21]
def k0dk:IC:=(.seq qbn1 (.seq qbvr (.seq (.seq qb4z (.block 0 (.loop qb09))) (.seq qbux .ret))))
@[go_sem] def s0dk:zzR:=[(.t 2,.id)]
theorem c0dk:cFun Tryz.prog 162=some (22,k0dk,s0dk):=by kernel_rfl

def qbmo:IC:=zr [zzn 1 0,zv 2 zf]
def qb4p:IC:=zr [zzj 3 0]
def qb6m:IC:=zr [zm 5 3,zzp 6 1 2,zzr 7 1 6,zzo 8 7,zzm 9 5 8]
def qcb7:IC:=zr [zzp 12 1 2,zzr 13 1 12,zm 14 3,zzs 15 3 13 14,zzq 16 3 15,zi 17 (zk 163 [zze 16]),zv 18 (.un .not (.t 17))]
def qb5x:IC:=zr [zv 2 zf]
def qb11:IC:=zr [zm 10 3,zzl 11 10 1,zm 3 11]
def qbsq:IC:=(.seq (.seq qb6m (.cond (.t 9) .skip (.exit 0))) (.seq (.block 1 (.seq qcb7 (.cond (.t 18) (.seq qb5x .ret) .skip))) qb11))
def qbt6:IC:=zr [zzp 19 1 2,zzr 20 1 19,zzo 21 20,zm 4 21]
def qb45:IC:=zr [zzp 23 1 0,zzr 24 1 23,zv 25 (zq (.t 24) (.c (.str []))),zm 22 25]
def qbdq:IC:=zr [zm 26 4,zv 27 (zq (.t 26) (zc 0)),zm 2 27]
def qbjw:IC:=zr [zzp 29 1 0,zzr 30 1 29,zv 31 (zq (.t 30) (.c (.str [45,62]))),zm 28 31]
def qbet:IC:=zr [zm 32 4,zv 33 (zq (.t 32) (zc 2)),zm 34 33,zw 34 true 35 (zd 1 1),zw 34 true 36 (zg 1 35),zw 34 true 37 (zq (.t 36) (zc 0)),zzh 38 34 37,zm 2 38]
def qbiw:IC:=zr [zzp 40 1 0,zzr 41 1 40,zi 42 (zk 211 [zI 41]),zm 39 42]
def q9n:IC:=zr [zm 43 4,zv 44 (zq (.t 43) (zc 0)),zm 45 44,zw 45 true 46 (zd 1 1),zw 45 true 47 (zg 1 46),zw 45 true 48 (zq (.t 47) (zc 0)),zzh 49 45 48,zm 2 49]
def qbb0:IC:=zr [zzp 50 1 0,zzr 51 1 50,zi 52 (zk 212 [zI 51]),zm 53 52,zw 53 true 54 (zd 1 1),zw 53 true 55 (zg 1 54),zw 53 true 56 (zq (.t 55) (zc 0)),zzh 57 53 56,zm 2 57]
def k0dl:IC:=(.seq qbmo (.seq (.seq qb4p (.block 0 (.loop qbsq))) (.seq qbt6 (.seq (.block 2 (.seq qb45 (.cond (.t 22) (.seq qbdq .ret) (.seq qbjw (.cond (.t 28) (.seq qbet .ret) (.seq qbiw (.cond (.t 39) (.seq q9n .ret) .skip))))))) (.seq qbb0 .ret)))))
@[go_sem] def s0dl:zzR:=[(.t 2,.id)]
theorem c0dl:cFun Tryz.prog 163=some (58,k0dl,s0dl):=by kernel_rfl

def qb7h:IC:=zr [zi 4 zzv,zv 5 zf]
def qbs2:IC:=zr [zzj 6 0]
def qb68:IC:=zr [zm 7 6,zm 8 0,zzo 9 8,zzm 10 7 9]
def qbsk:IC:=zr [zm 13 0,zm 14 6,zzs 15 4 13 14,zzp 16 15 0,zzr 17 1 16,zm 18 1,zv 19 (zq (.t 17) (.t 18))]
def qbrf:IC:=zr [zm 20 0,zm 21 6,zzs 22 4 20 21,zzp 23 22 1,zzq 24 3 23,zn (.st 3 zza (.t 4) (.t 24)),zzk 5]
def qbyk:IC:=zr [zm 11 6,zzl 12 11 1,zm 6 12]
def qcdu:IC:=(.seq (.seq qb68 (.cond (.t 10) .skip (.exit 0))) (.seq (.block 1 (.seq qbsk (.cond (.t 19) (.seq qbrf .ret) .skip))) qbyk))
def qb2a:IC:=zr [zv 25 (.bld [(.str []),(.int .i64 0),.nils] []),zn (.st 3 zza (.t 4) (.t 25)),zv 5 zf]
def k0cx:IC:=(.seq qb7h (.seq (.seq qbs2 (.block 0 (.loop qcdu))) (.seq qb2a .ret)))
@[go_sem] def s0cx:zzR:=[(.c true 3 4,zza),(.t 5,.id)]
theorem c0cx:cFun Tryz.prog 164=some (26,k0cx,s0cx):=by kernel_rfl

def qb31:IC:=zr [zzn 5 2,zv 6 (.mov (.c .nils)),zzj 7 0]
def qbr7:IC:=zr [zzp 8 5 0,zzr 9 1 8,zv 10 (zq (.t 9) (.c (.str []))),zm 11 10,zw 11 true 12 (zd 5 1),zw 11 true 13 (zg 1 12),zw 11 true 14 (zo 1),zw 11 true 15 (zq (.t 13) (.t 14)),zzh 16 11 15]
def qb35:IC:=zr [zm 17 0,zm 6 17,zzj 7 0]
def qbov:IC:=zr [zzq 18 3 5,zm 19 1,zi 20 (zk 213 [zze 18,zI 19])]
def qb1i:IC:=zr [zv 6 (.mov (.c .nils)),zzj 7 15]
def qbww:IC:=zr [zm 21 0,zm 22 1,zzq 23 3 5,zv 24 (.bld [(.int .i64 0),(.str []),(.int .i64 0),.nils] [(0,1,(.t 22)),(1,3,(.t 23))]),zv 25 (.bsl 4 [((.t 24),zzd)]),zi 26 (zk 74 [((.t 21),(.sl 4)),((.t 25),(.sl 4))]),zzt 27 26 0,zzt 28 26 1,zm 6 27,zm 7 28]
def k0fy:IC:=(.seq qb31 (.seq (.seq qbr7 (.cond (.t 16) (.seq qb35 .ret) .skip)) (.seq (.seq qbov (.cond (.t 20) (.seq qb1i .ret) .skip)) (.seq qbww .ret))))
@[go_sem] def s0fy:zzR:=[(.t 6,(.sl 4)),(.t 7,.id)]
theorem c0fy:cFun Tryz.prog 165=some (29,k0fy,s0fy):=by kernel_rfl

def qb8r:IC:=zr [zzn 4 0,zv 8 zf]
def qbrv:IC:=zr [zzp 9 4 2,zzr 10 1 9,zv 11 (.bin .neq .no (.t 10) (.c (.str []))),zm 12 1,zv 13 (.bin .eql .bool (.t 11) (.t 12)),zm 14 13,zw 14 true 15 (zd 4 1),zw 14 true 16 (zg 1 15),zw 14 true 17 (zq (.t 16) (zc 0)),zzh 18 14 17,zm 19 18,zw 19 true 20 (zd 4 3),zw 19 true 21 (zg 1 20),zw 19 true 22 (.len false (.t 21)),zw 19 true 23 (zq (.t 22) (zc 0)),zzh 24 19 23,zm 25 24,zw 25 true 26 (zd 4 4),zw 25 true 27 (zg 1 26),zw 25 true 28 (.len false (.t 27)),zw 25 true 29 (zo 2),zw 25 true 30 (zq (.t 28) (.t 29)),zzh 31 25 30,zm 32 31,zw 32 true 33 (zd 4 5),zw 32 true 34 (zg 1 33),zw 32 true 35 (.len false (.t 34)),zw 32 true 36 (zo 3),zw 32 true 37 (zq (.t 35) (.t 36)),zzh 38 32 37,zm 8 38]
def k0fi:IC:=(.seq qb8r (.seq qbrv .ret))
@[go_sem] def s0fi:zzR:=[(.t 8,.id)]
theorem c0fi:cFun Tryz.prog 166=some (39,k0fi,s0fi):=by kernel_rfl

def qb1n:IC:=zr [zzn 2 0,zv 4 zf]
def qb02:IC:=zr [zzp 5 2 2,zzr 6 1 5,zv 7 (zq (.t 6) (.c (.str []))),zm 8 7,zw 8 true 9 (zd 2 3),zw 8 true 10 (zg 1 9),zw 8 true 11 (.len false (.t 10)),zw 8 true 12 (zq (.t 11) (zc 0)),zzh 13 8 12,zm 14 13,zw 14 true 15 (zd 2 4),zw 14 true 16 (zg 1 15),zw 14 true 17 (.len false (.t 16)),zw 14 true 18 (zq (.t 17) (zc 0)),zzh 19 14 18,zm 20 19,zw 20 true 21 (zd 2 5),zw 20 true 22 (zg 1 21),zw 20 true 23 (.len false (.t 22)),zw 20 true 24 (zo 1),zw 20 true 25 (zq (.t 23) (.t 24)),zzh 26 20 25,zm 4 26]
def k0fj:IC:=(.seq qb1n (.seq qb02 .ret))
@[go_sem] def s0fj:zzR:=[(.t 4,.id)]
theorem c0fj:cFun Tryz.prog 167=some (27,k0fj,s0fj):=by kernel_rfl

def qboq:IC:=zr [zv 2 zf]
def qca6:IC:=zr [zzj 3 0]
def qbso:IC:=zr [zm 4 3,zm 5 0,zzo 6 5,zzm 7 4 6]
def qb3i:IC:=zr [zm 10 0,zm 11 3,zzs 12 3 10 11,zzq 13 3 12,zi 14 (zk 172 [zze 13]),zv 15 (.un .not (.t 14))]
def qccx:IC:=zr [zv 2 zf]
def qb9i:IC:=zr [zm 8 3,zzl 9 8 1,zm 3 9]
def qb6u:IC:=(.seq (.seq qbso (.cond (.t 7) .skip (.exit 0))) (.seq (.block 1 (.seq qb3i (.cond (.t 15) (.seq qccx .ret) .skip))) qb9i))
def qbz0:IC:=zr [zzk 2]
def k0fk:IC:=(.seq qboq (.seq (.seq qca6 (.block 0 (.loop qb6u))) (.seq qbz0 .ret)))
@[go_sem] def s0fk:zzR:=[(.t 2,.id)]
theorem c0fk:cFun Tryz.prog 168=some (16,k0fk,s0fk):=by kernel_rfl

def qb29:IC:=zr [zzn 2 0,zv 4 zf]
def qcb8:IC:=zr [zm 6 1,zm 5 6]
def qcdw:IC:=zr [zm 7 5,zzp 8 2 5,zzr 9 1 8,zzo 10 9,zzm 11 7 10]
def qbn7:IC:=zr [zzp 14 2 5,zzr 15 1 14,zm 16 5,zzs 17 6 15 16,zzq 18 6 17,zi 19 (zk 119 [zzf 18]),zv 20 (.un .not (.t 19))]
def qbpw:IC:=zr [zv 4 zf]
def qcer:IC:=zr [zm 12 5,zzl 13 12 1,zm 5 13]
def qcd1:IC:=(.seq (.seq qcdw (.cond (.t 11) .skip (.exit 0))) (.seq (.block 1 (.seq qbn7 (.cond (.t 20) (.seq qbpw .ret) .skip))) qcer))
def qby4:IC:=zr [zzk 4]
def k0ff:IC:=(.seq qb29 (.seq (.seq qcb8 (.block 0 (.loop qcd1))) (.seq qby4 .ret)))
@[go_sem] def s0ff:zzR:=[(.t 4,.id)]
theorem c0ff:cFun Tryz.prog 169=some (21,k0ff,s0ff):=by kernel_rfl

def qbqv:IC:=zr [zzn 1 0,zv 2 zf]
def qb6p:IC:=zr [zzp 5 1 5,zzr 6 1 5,zzo 7 6,zv 8 (.bin .lss .no (.t 7) (zc 2)),zm 9 8,zw 9 false 10 (zl 6 1),zw 9 false 11 (zd 1 5),zw 9 false 12 (zg 1 11),zw 9 false 13 (.len false (.t 12)),zj 9 false 14 (zk 166 [zzf 10,((.c (.bool false)),.id),((zc 0),.id),zI 13]),zw 9 false 15 (.un .not (.t 14)),zzi 16 9 15,zm 17 16,zw 17 false 18 (zd 1 5),zw 17 false 19 (zg 1 18),zw 17 false 20 (.iad 6 (.t 19) (zc 0)),zw 17 false 21 (zl 6 20),zj 17 false 22 (zk 119 [zzf 21]),zw 17 false 23 (.un .not (.t 22)),zzi 24 17 23]
def qblw:IC:=zr [zv 2 zf]
def qb6f:IC:=zr [zzj 3 1]
def qbun:IC:=zr [zm 25 3,zzp 26 1 5,zzr 27 1 26,zzo 28 27,zzm 29 25 28]
def qbyc:IC:=zr [zzp 32 1 5,zzr 33 1 32,zm 34 3,zzs 35 6 33 34,zzq 36 6 35,zi 4 zzx,zn (.st 6 zzb (.t 4) (.t 36))]
def qcat:IC:=zr [zzp 37 4 0,zzr 38 1 37,zv 39 (.bin .neq .no (.t 38) (zc 9)),zm 40 39,zw 40 false 41 (zl 6 4),zj 40 false 42 (zk 166 [zzf 41,((.c (.bool false)),.id),((zc 0),.id),((zc 2),.id)]),zw 40 false 43 (.un .not (.t 42)),zzi 44 40 43,zm 45 44,zw 45 false 46 (zd 4 5),zw 45 false 47 (zg 1 46),zw 45 false 48 (.iad 6 (.t 47) (zc 0)),zw 45 false 49 (zl 6 48),zj 45 false 50 (zk 214 [zzf 49]),zw 45 false 51 (.un .not (.t 50)),zzi 52 45 51,zm 53 52,zw 53 false 54 (zd 4 5),zw 53 false 55 (zg 1 54),zw 53 false 56 (.iad 6 (.t 55) (zc 1)),zw 53 false 57 (zl 6 56),zj 53 false 58 (zk 119 [zzf 57]),zw 53 false 59 (.un .not (.t 58)),zzi 60 53 59]
def qcdf:IC:=zr [zv 2 zf]
def qb48:IC:=zr [zm 30 3,zzl 31 30 1,zm 3 31]
def qb9t:IC:=(.seq (.seq qbun (.cond (.t 29) .skip (.exit 0))) (.seq (.block 1 (.seq qbyc (.seq qcat (.cond (.t 60) (.seq qcdf .ret) .skip)))) qb48))
def qbcl:IC:=zr [zzk 2]
def k0fe:IC:=(.seq qbqv (.seq (.seq qb6p (.cond (.t 24) (.seq qblw .ret) .skip)) (.seq (.seq qb6f (.block 0 (.loop qb9t))) (.seq qbcl .ret))))
@[go_sem] def s0fe:zzR:=[(.t 2,.id)]
theorem c0fe:cFun Tryz.prog 170=some (61,k0fe,s0fe):=by kernel_rfl

def qb6q:IC:=zr [zzn 1 0,zv 2 zf]
def qbnk:IC:=zr [zzp 5 1 5,zzr 6 1 5,zzo 7 6,zv 8 (.bin .sub .no (.t 7) (zc 1)),zm 3 8]
def qb1c:IC:=zr [zm 9 3,zv 10 (.bin .lss .no (.t 9) (zc 0)),zm 11 10,zw 11 false 12 (zl 6 1),zw 11 false 13 (zo 3),zw 11 false 14 (.bin .add .no (.t 13) (zc 1)),zj 11 false 15 (zk 166 [zzf 12,((.c (.bool false)),.id),((zc 0),.id),zI 14]),zw 11 false 16 (.un .not (.t 15)),zzi 17 11 16]
def qb7t:IC:=zr [zv 2 zf]
def qbx1:IC:=zr [zzj 4 0]
def qcdi:IC:=zr [zm 18 4,zm 19 3,zzm 20 18 19]
def qbzd:IC:=zr [zzp 23 1 5,zzr 24 1 23,zm 25 4,zzs 26 6 24 25,zzq 27 6 26,zi 28 (zk 215 [zzf 27]),zv 29 (.un .not (.t 28))]
def qbmw:IC:=zr [zv 2 zf]
def qb2c:IC:=zr [zm 21 4,zzl 22 21 1,zm 4 22]
def qb7c:IC:=(.seq (.seq qcdi (.cond (.t 20) .skip (.exit 0))) (.seq (.block 1 (.seq qbzd (.cond (.t 29) (.seq qbmw .ret) .skip))) qb2c))
def qbcd:IC:=zr [zzp 30 1 5,zzr 31 1 30,zm 32 3,zzs 33 6 31 32,zzq 34 6 33,zi 35 (zk 119 [zzf 34]),zm 2 35]
def k0fd:IC:=(.seq qb6q (.seq qbnk (.seq (.seq qb1c (.cond (.t 17) (.seq qb7t .ret) .skip)) (.seq (.seq qbx1 (.block 0 (.loop qb7c))) (.seq qbcd .ret)))))
@[go_sem] def s0fd:zzR:=[(.t 2,.id)]
theorem c0fd:cFun Tryz.prog 171=some (36,k0fd,s0fd):=by kernel_rfl

def qcb4:IC:=zr [zzn 1 0,zv 2 zf]
def qb83:IC:=zr [zzq 3 3 1,zi 4 (zk 9 [zze 3]),zv 5 (.bin .leq .no (.t 4) (zc 4096)),zm 6 5,zw 6 true 7 (zl 3 1),zj 6 true 8 (zk 162 [zze 7]),zw 6 true 9 (.bin .leq .no (.t 8) (zc 100)),zzh 10 6 9,zm 11 10,zw 11 true 12 (zl 3 1),zj 11 true 13 (zk 216 [zze 12]),zzh 14 11 13,zm 2 14]
def k0fn:IC:=(.seq qcb4 (.seq qb83 .ret))
@[go_sem] def s0fn:zzR:=[(.t 2,.id)]
theorem c0fn:cFun Tryz.prog 172=some (15,k0fn,s0fn):=by kernel_rfl

def qb3w:IC:=zr [zzn 2 0,zzn 3 1,zi 4 zzv]
def qb5d:IC:=zr [zv 5 (.mov (.c .nils))]
def qbz5:IC:=zr [zv 6 (.mov (.c .nils))]
def qcaa:IC:=zr [zzj 7 0]
def qbxv:IC:=zr [zm 8 7,zzp 9 2 4,zzr 10 1 9,zzo 11 10,zzm 12 8 11]
def qbly:IC:=zr [zm 15 5,zzp 16 2 4,zzr 17 1 16,zm 18 7,zzs 19 4 17 18,zzp 20 19 0,zzr 21 1 20,zv 22 (.bsl 1 [zI 21]),zi 23 (.app 1 (.int .i64 0) 8 (.sl 1) (.t 15) (.t 22)),zm 5 23]
def qcel:IC:=zr [zm 24 6,zzp 25 2 4,zzr 26 1 25,zm 27 7,zzs 28 4 26 27,zzp 29 28 1,zzq 30 3 29,zv 31 (.bsl 3 [zze 30]),zi 32 (.app 3 (.agg [(.str []),(.int .i64 0),.nils]) 48 (.sl 3) (.t 24) (.t 31)),zm 6 32]
def qb5f:IC:=zr [zm 13 7,zzl 14 13 1,zm 7 14]
def qbod:IC:=(.seq (.seq qbxv (.cond (.t 12) .skip (.exit 0))) (.seq (.block 1 (.seq qbly qcel)) qb5f))
def qbex:IC:=zr [zzq 33 3 3,zm 34 5,zm 35 6,zi 36 (zk 217 [zze 33,((.t 34),(.sl 1)),((.t 35),(.sl 3))]),zn (.st 3 zza (.t 4) (.t 36))]
def k0ez:IC:=(.seq qb3w (.seq qb5d (.seq qbz5 (.seq (.seq qcaa (.block 0 (.loop qbod))) (.seq qbex .ret)))))
@[go_sem] def s0ez:zzR:=[(.c true 3 4,zza)]
theorem c0ez:cFun Tryz.prog 173=some (37,k0ez,s0ez):=by kernel_rfl

def qb08:IC:=zr [zzn 1 0,zv 2 (.mov (.c (.str []))),zi 3 zzv,zv 4 zf]
def qbqs:IC:=zr [zzp 9 1 0,zzr 10 1 9,zi 11 (zk 218 [zI 10,((.c (.str [123])),.id)]),zm 8 11,zzt 12 8 0,zzt 13 8 1,zm 5 12,zm 6 13]
def qbm0:IC:=zr [zm 15 5,zi 16 (zk 219 [zI 15,((.c (.str [125])),.id)]),zm 14 16,zzt 17 14 0,zzt 18 14 1,zm 5 17,zm 7 18]
def qbr2:IC:=zr [zm 19 6,zv 20 (.un .not (.t 19)),zm 21 20,zw 21 false 22 (zo 7),zw 21 false 23 (.un .not (.t 22)),zzi 24 21 23,zm 25 24,zw 25 false 26 (zo 5),zj 25 false 27 (zk 148 [zI 26]),zw 25 false 28 (.un .not (.t 27)),zzi 29 25 28,zm 30 29,zw 30 false 31 (zd 1 2),zw 30 false 32 (zg 1 31),zw 30 false 33 (.len false (.t 32)),zw 30 false 34 (.bin .neq .no (.t 33) (zc 1)),zzi 35 30 34,zm 36 35,zw 36 false 37 (zd 1 1),zw 36 false 38 (zg 1 37),zw 36 false 39 (.bin .neq .no (.t 38) (zc 0)),zzi 40 36 39]
def qb9y:IC:=zr [zv 41 (.bld [(.str []),(.int .i64 0),.nils] []),zv 2 (.mov (.c (.str []))),zn (.st 3 zza (.t 3) (.t 41)),zv 4 zf]
def qcen:IC:=.drw [zzu 42 5,zp (zzp 43 1 2),zp (zzr 44 1 43),zp (zv 45 (.iad 3 (.t 44) (zc 0))),zp (zzq 46 3 45),zzu 2 42,(zn (.st 3 zza (.t 3) (.t 46)),[]),zp (zzk 4)]
def k0bs:IC:=(.seq qb08 (.seq qbqs (.seq qbm0 (.seq (.seq qbr2 (.cond (.t 40) (.seq qb9y .ret) .skip)) (.seq qcen .ret)))))
@[go_sem] def s0bs:zzR:=[(.t 2,.id),(.c true 3 3,zza),(.t 4,.id)]
theorem c0bs:cFun Tryz.prog 174=some (47,k0bs,s0bs):=by kernel_rfl

def qcb3:IC:=zr [zzn 3 0,zv 5 zf]
def qbwy:IC:=zr [zzr 6 1 2,zzl 7 6 1,zn (.st 1 .id (.t 2) (.t 7))]
def qb7b:IC:=zr [zzk 5]
def k0de:IC:=(.seq qcb3 (.seq qbwy (.seq qb7b .ret)))
@[go_sem] def s0de:zzR:=[(.t 5,.id)]
theorem c0de:cFun Tryz.prog 175=some (8,k0de,s0de):=by kernel_rfl

def qbuu:IC:=zr [zzn 3 0,zv 5 zf]
def qb05:IC:=zr [zzr 6 1 2,zm 7 1,zv 8 (.mm true (.t 6) (.t 7)),zn (.st 1 .id (.t 2) (.t 8))]
def qb8c:IC:=zr [zzk 5]
def k0df:IC:=(.seq qbuu (.seq qb05 (.seq qb8c .ret)))
@[go_sem] def s0df:zzR:=[(.t 5,.id)]
theorem c0df:cFun Tryz.prog 176=some (9,k0df,s0df):=by kernel_rfl

def qcni:IC:=zr [zzn 3 0,zv 6 zf]
def qci2:IC:=zr [zm 9 2,zm 10 1,zzq 11 6 3,zi 12 (.call (.t 9) [zI 10,zzf 11]),zv 13 (.un .not (.t 12))]
def qcfc:IC:=zr [zv 6 zf]
def qck0:IC:=zr [zzp 14 3 5,zzr 15 1 14,zzo 16 15,zzj 17 0]
def qcl7:IC:=zr [zzm 18 17 16]
def qcib:IC:=zr [zzs 19 6 15 17,zzq 20 6 19,zi 8 zzx,zn (.st 6 zzb (.t 8) (.t 20))]
def qckp:IC:=zr [zzq 21 6 8,zm 22 1,zzl 23 22 1,zm 24 2,zi 25 (zk 177 [zzf 21,zI 23,zI 24]),zv 26 (.un .not (.t 25))]
def qcju:IC:=zr [zv 6 zf]
def qcjx:IC:=zr [zzl 27 17 1,zm 17 27]
def qcix:IC:=(.seq qcl7 (.seq (.cond (.t 18) .skip (.exit 0)) (.seq (.block 1 (.seq qcib (.seq qckp (.cond (.t 26) (.seq qcju .ret) .skip)))) qcjx)))
def qb9b:IC:=zr [zzk 6]
def k0v:IC:=(.seq qcni (.seq (.seq qci2 (.cond (.t 13) (.seq qcfc .ret) .skip)) (.seq (.seq qck0 (.block 0 (.loop qcix))) (.seq qb9b .ret))))
@[go_sem] def s0v:zzR:=[(.t 6,.id)]
theorem c0v:cFun Tryz.prog 177=some (28,k0v,s0v):=by kernel_rfl

def qby2:IC:=zr [zi 2 (.alo [(.bool false),(.bool false),(.bool false),(.int .i64 0),(.int .i64 0)]),zv 3 zf]
def qbvg:IC:=zr [zm 4 0]
def qb2s:IC:=zr [zv 6 (zq (.t 4) (zc 1)),zm 5 6]
def qb17:IC:=zr [zv 7 (zq (.t 4) (zc 21)),zm 5 7]
def qb95:IC:=zr [zv 8 (.bld [(.bool false),(.bool false),(.bool false),(.int .i64 0),(.int .i64 0)] [(0,1,(.c (.bool true)))]),zn (.st 5 .id (.t 2) (.t 8)),zzk 3]
def qboe:IC:=zr [zv 10 (zq (.t 4) (zc 2)),zm 9 10]
def qccd:IC:=zr [zv 11 (zq (.t 4) (zc 14)),zm 9 11]
def qbq2:IC:=zr [zv 12 (zq (.t 4) (zc 23)),zm 9 12]
def qbxa:IC:=zr [zv 13 (.bld [(.bool false),(.bool false),(.bool false),(.int .i64 0),(.int .i64 0)] [(1,1,(.c (.bool true)))]),zn (.st 5 .id (.t 2) (.t 13)),zzk 3]
def qbxw:IC:=zr [zv 15 (zq (.t 4) (zc 22)),zm 14 15]
def qbgo:IC:=zr [zv 16 (.bld [(.bool false),(.bool false),(.bool false),(.int .i64 0),(.int .i64 0)] []),zn (.st 5 .id (.t 2) (.t 16)),zzk 3]
def qbi8:IC:=zr [zv 18 (zq (.t 4) (zc 3)),zm 17 18]
def qbag:IC:=zr [zv 19 (zq (.t 4) (zc 11)),zm 17 19]
def qbef:IC:=zr [zv 20 (.bld [(.bool false),(.bool false),(.bool false),(.int .i64 0),(.int .i64 0)] [(0,1,(.c (.bool true))),(3,1,(zc 1)),(4,1,(zc 1))]),zn (.st 5 .id (.t 2) (.t 20)),zzk 3]
def qbcs:IC:=zr [zv 22 (zq (.t 4) (zc 4)),zm 21 22]
def qbj6:IC:=zr [zv 23 (zq (.t 4) (zc 9)),zm 21 23]
def qbhx:IC:=zr [zv 24 (.bld [(.bool false),(.bool false),(.bool false),(.int .i64 0),(.int .i64 0)] [(4,1,(zc 2))]),zn (.st 5 .id (.t 2) (.t 24)),zzk 3]
def qbdi:IC:=zr [zv 26 (zq (.t 4) (zc 5)),zm 25 26]
def qbfq:IC:=zr [zv 27 (.bld [(.bool false),(.bool false),(.bool false),(.int .i64 0),(.int .i64 0)] [(4,1,(zc 1))]),zn (.st 5 .id (.t 2) (.t 27)),zzk 3]
def q99:IC:=zr [zv 29 (zq (.t 4) (zc 6)),zm 28 29]
def qbak:IC:=zr [zv 30 (.bld [(.bool false),(.bool false),(.bool false),(.int .i64 0),(.int .i64 0)] [(3,1,(zc (-1))),(4,1,(zc 1))]),zn (.st 5 .id (.t 2) (.t 30)),zzk 3]
def qbew:IC:=zr [zv 32 (zq (.t 4) (zc 7)),zm 31 32]
def qbkl:IC:=zr [zv 33 (.bld [(.bool false),(.bool false),(.bool false),(.int .i64 0),(.int .i64 0)] [(0,1,(.c (.bool true))),(3,1,(zc (-1)))]),zn (.st 5 .id (.t 2) (.t 33)),zzk 3]
def qbdt:IC:=zr [zv 35 (zq (.t 4) (zc 8)),zm 34 35]
def qbkh:IC:=zr [zv 36 (zq (.t 4) (zc 10)),zm 34 36]
def qbfv:IC:=zr [zv 37 (.bld [(.bool false),(.bool false),(.bool false),(.int .i64 0),(.int .i64 0)] [(4,1,(zc (-1)))]),zn (.st 5 .id (.t 2) (.t 37)),zzk 3]
def q9l:IC:=zr [zv 39 (zq (.t 4) (zc 12)),zm 38 39]
def qbgt:IC:=zr [zv 40 (.bld [(.bool false),(.bool false),(.bool false),(.int .i64 0),(.int .i64 0)] [(0,1,(.c (.bool true))),(3,1,(zc 1)),(4,1,(zc (-1)))]),zn (.st 5 .id (.t 2) (.t 40)),zzk 3]
def qba0:IC:=zr [zv 42 (zq (.t 4) (zc 13)),zm 41 42]
def qbbd:IC:=zr [zv 43 (.bld [(.bool false),(.bool false),(.bool false),(.int .i64 0),(.int .i64 0)] [(0,1,(.c (.bool true))),(1,1,(.c (.bool true))),(2,1,(.c (.bool true))),(4,1,(zc 1))]),zn (.st 5 .id (.t 2) (.t 43)),zzk 3]
def q87:IC:=zr [zv 45 (zq (.t 4) (zc 24)),zm 44 45]
def qbjf:IC:=zr [zv 46 (.bld [(.bool false),(.bool false),(.bool false),(.int .i64 0),(.int .i64 0)] [(0,1,(.c (.bool true))),(4,1,(zc (-1)))]),zn (.st 5 .id (.t 2) (.t 46)),zzk 3]
def q9p:IC:=zr [zv 47 (.bld [(.bool false),(.bool false),(.bool false),(.int .i64 0),(.int .i64 0)] []),zn (.st 5 .id (.t 2) (.t 47)),zv 3 zf]
def k0bi:IC:=(.seq qby2 (.seq (.seq qbvg (.block 0 (.seq (.seq qb2s (.cond (.t 5) .skip qb17)) (.cond (.t 5) (.seq qb95 .ret) (.seq (.seq qboe (.cond (.t 9) .skip (.seq qccd (.cond (.t 9) .skip qbq2)))) (.cond (.t 9) (.seq qbxa .ret) (.seq qbxw (.cond (.t 14) (.seq qbgo .ret) (.seq (.seq qbi8 (.cond (.t 17) .skip qbag)) (.cond (.t 17) (.seq qbef .ret) (.seq (.seq qbcs (.cond (.t 21) .skip qbj6)) (.cond (.t 21) (.seq qbhx .ret) (.seq qbdi (.cond (.t 25) (.seq qbfq .ret) (.seq q99 (.cond (.t 28) (.seq qbak .ret) (.seq qbew (.cond (.t 31) (.seq qbkl .ret) (.seq (.seq qbdt (.cond (.t 34) .skip qbkh)) (.cond (.t 34) (.seq qbfv .ret) (.seq q9l (.cond (.t 38) (.seq qbgt .ret) (.seq qba0 (.cond (.t 41) (.seq qbbd .ret) (.seq q87 (.cond (.t 44) (.seq qbjf .ret) .skip)))))))))))))))))))))))))) (.seq q9p .ret)))
@[go_sem] def s0bi:zzR:=[(.c true 5 2,.id),(.t 3,.id)]
theorem c0bi:cFun Tryz.prog 178=some (48,k0bi,s0bi):=by kernel_rfl

def qcdm:IC:=zr [zv 4 zf]
def qcd9:IC:=zr [zm 5 0,zm 6 1,zi 7 (zk 220 [((.t 5),(.sl 3)),zI 6]),zv 8 (.bin .geq .no (.t 7) (zc 0)),zm 4 8]
def k0bf:IC:=(.seq qcdm (.seq qcd9 .ret))
@[go_sem] def s0bf:zzR:=[(.t 4,.id)]
theorem c0bf:cFun Tryz.prog 179=some (9,k0bf,s0bf):=by kernel_rfl

def qbnf:IC:=zr [zzn 1 0,zv 2 zf]
def qbmr:IC:=zr [zzq 3 3 1,zi 4 (zk 82 [zze 3]),zv 5 (.un .not (.t 4)),zm 2 5]
def k0bc:IC:=(.seq qbnf (.seq qbmr .ret))
@[go_sem] def s0bc:zzR:=[(.t 2,.id)]
theorem c0bc:cFun Tryz.prog 180=some (6,k0bc,s0bc):=by kernel_rfl

def qbu1:IC:=zr [zzj 4 0]
def qb3c:IC:=zr [zm 6 0,zzo 7 6,zzj 8 0]
def qb0m:IC:=zr [zzm 9 8 7]
def qbs6:IC:=zr [zm 10 8,zm 5 10]
def qcdk:IC:=zr [zm 11 1,zm 12 0,zm 13 5,zzs 14 6 12 13,zzq 15 6 14,zi 16 (.call (.t 11) [zzf 15])]
def qb0t:IC:=zr [zm 17 5,zm 4 17]
def qca3:IC:=zr [zzl 18 8 1,zm 8 18]
def qbu4:IC:=(.seq qb0m (.seq (.cond (.t 9) .skip (.exit 0)) (.seq (.block 1 (.seq qbs6 (.seq qcdk (.cond (.t 16) (.seq qb0t .ret) .skip)))) qca3)))
def qbwp:IC:=zr [zv 4 (.mov (zc (-1)))]
def k0bg:IC:=(.seq qbu1 (.seq (.seq qb3c (.block 0 (.loop qbu4))) (.seq qbwp .ret)))
@[go_sem] def s0bg:zzR:=[(.t 4,.id)]
theorem c0bg:cFun Tryz.prog 181=some (19,k0bg,s0bg):=by kernel_rfl

def qcmm:IC:=zr [zzn 1 0,zv 2 zf]
def qce4:IC:=zr [zzq 3 6 1,zi 4 (zk 130 [zzf 3]),zv 5 (.un .not (.t 4)),zm 2 5]
def k0x:IC:=(.seq qcmm (.seq qce4 .ret))
@[go_sem] def s0x:zzR:=[(.t 2,.id)]
theorem c0x:cFun Tryz.prog 182=some (6,k0x,s0x):=by kernel_rfl

def qbnw:IC:=zr [zv 2 zf]
def qbq4:IC:=zr [zm 3 0,zv 4 (.bin .geq .no (.t 3) (.c (.int .u8 97))),zm 5 4,zw 5 true 6 (zo 0),zw 5 true 7 (.bin .leq .no (.t 6) (.c (.int .u8 122))),zzh 8 5 7,zm 9 8,zw 9 false 10 (zo 0),zw 9 false 11 (zq (.t 10) (.c (.int .u8 95))),zzi 12 9 11,zm 2 12]
def k0ci:IC:=(.seq qbnw (.seq qbq4 .ret))
@[go_sem] def s0ci:zzR:=[(.t 2,.id)]
theorem c0ci:cFun Tryz.prog 196=some (13,k0ci,s0ci):=by kernel_rfl

def qca8:IC:=zr [zv 2 zf]
def qbyd:IC:=zr [zm 5 0,zv 6 (.len true (.t 5)),zzj 7 0]
def qb4d:IC:=zr [zzm 8 7 6]
def qb1t:IC:=zr [zm 9 7,zm 3 9]
def qb67:IC:=zr [zm 10 0,zm 11 3,zv 12 (.idx (.t 10) (.t 11)),zm 4 12]
def qbv8:IC:=zr [zm 13 4,zi 14 (zk 196 [zI 13]),zv 15 (.un .not (.t 14)),zm 16 15,zw 16 true 17 (zo 4),zj 16 true 18 (zk 199 [zI 17]),zw 16 true 19 (.un .not (.t 18)),zzh 20 16 19,zm 21 20,zw 21 true 22 (zo 4),zw 21 true 23 (.bin .lss .no (.t 22) (.c (.int .u8 48))),zw 21 true 24 (zo 23),zw 24 false 25 (zo 4),zw 24 false 26 (.bin .gtr .no (.t 25) (.c (.int .u8 57))),zw 21 true 27 (.pick (.t 24) (.c (.bool true)) (.t 26)),zzh 28 21 27,zm 29 28,zw 29 true 30 (zo 4),zw 29 true 31 (.bin .neq .no (.t 30) (.c (.int .u8 39))),zzh 32 29 31]
def qbzp:IC:=zr [zv 2 zf]
def qcal:IC:=zr [zzl 33 7 1,zm 7 33]
def qb6c:IC:=(.seq qb4d (.seq (.cond (.t 8) .skip (.exit 0)) (.seq (.block 1 (.seq qb1t (.seq qb67 (.seq qbv8 (.cond (.t 32) (.seq qbzp .ret) .skip))))) qcal)))
def qbha:IC:=zr [zzk 2]
def k0co:IC:=(.seq qca8 (.seq (.seq qbyd (.block 0 (.loop qb6c))) (.seq qbha .ret)))
@[go_sem] def s0co:zzR:=[(.t 2,.id)]
theorem c0co:cFun Tryz.prog 197=some (34,k0co,s0co):=by kernel_rfl

def qb93:IC:=zr [zv 2 zf]
def qbsi:IC:=zr [zm 3 0,zv 4 (.bin .geq .no (.t 3) (.c (.int .u8 65))),zm 5 4,zw 5 true 6 (zo 0),zw 5 true 7 (.bin .leq .no (.t 6) (.c (.int .u8 90))),zzh 8 5 7,zm 2 8]
def k0ck:IC:=(.seq qb93 (.seq qbsi .ret))
@[go_sem] def s0ck:zzR:=[(.t 2,.id)]
theorem c0ck:cFun Tryz.prog 199=some (9,k0ck,s0ck):=by kernel_rfl

def qb4x:IC:=zr [zv 4 zf]
def qbxu:IC:=zr [zm 5 0,zm 6 1,zi 7 (zk 231 [zI 5,zI 6]),zm 4 7]
def k0cf:IC:=(.seq qb4x (.seq qbxu .ret))
@[go_sem] def s0cf:zzR:=[(.t 4,.id)]
theorem c0cf:cFun Tryz.prog 205=some (8,k0cf,s0cf):=by kernel_rfl

def qbvz:IC:=zr [zzj 2 0,zzj 3 0]
def qb54:IC:=zr [zm 8 0,zv 9 (.len true (.t 8)),zzj 10 0]
def qb4q:IC:=zr [zzm 11 10 9]
def qbsw:IC:=zr [zm 12 10,zm 4 12]
def qcca:IC:=zr [zm 13 0,zm 14 4,zv 15 (.idx (.t 13) (.t 14)),zv 16 (.bin .lss .no (.t 15) (.c (.int .u8 48))),zm 17 16,zw 17 false 18 (zo 0),zw 17 false 19 (zo 4),zw 17 false 20 (.idx (.t 18) (.t 19)),zw 17 false 21 (.bin .gtr .no (.t 20) (.c (.int .u8 57))),zzi 22 17 21]
def qb8g:IC:=zr [zzj 2 0,zzj 3 5]
def qcaz:IC:=zr [zzl 23 10 1,zm 10 23]
def qb50:IC:=(.seq qb4q (.seq (.cond (.t 11) .skip (.exit 0)) (.seq (.block 1 (.seq qbsw (.seq qcca (.cond (.t 22) (.seq qb8g .ret) .skip)))) qcaz)))
def qb2l:IC:=zr [zm 24 0,zv 25 (zq (.t 24) (.c (.str [])))]
def qbid:IC:=zr [zzj 2 0,zzj 3 5]
def qbe0:IC:=zr [zzj 5 0,zzj 6 0]
def qbce:IC:=zr [zm 26 0,zm 27 6,zv 28 (.idx (.t 26) (.t 27)),zv 29 (.bin .sub .no (.t 28) (.c (.int .u8 48))),zv 30 (.cvi .i64 (.t 29)),zm 7 30]
def qbc4:IC:=zr [zm 31 5,zm 32 7,zv 33 (.bin .sub .no (zc 9223372036854775807) (.t 32)),zv 34 (.bin .quo .no (.t 33) (zc 10)),zv 35 (.bin .gtr .no (.t 31) (.t 34))]
def qbep:IC:=zr [zzj 2 0,zzj 3 4]
def qbhy:IC:=zr [zm 36 5,zv 37 (.bin .mul .no (zc 10) (.t 36)),zm 38 7,zv 39 (.bin .add .no (.t 37) (.t 38)),zm 5 39]
def qbb9:IC:=zr [zm 40 6,zzl 41 40 1,zm 6 41]
def qbj5:IC:=zr [zm 42 6,zm 43 0,zv 44 (.len true (.t 43)),zzm 45 42 44]
def qbcn:IC:=zr [zm 46 5,zm 2 46,zzj 3 0]
def k0ch:IC:=(.seq qbvz (.scope (.seq (.seq qb54 (.block 0 (.loop qb50))) (.seq (.seq qb2l (.cond (.t 25) (.seq qbid .ret) .skip)) (.seq qbe0 (.seq (.label 0) (.seq qbce (.seq (.seq qbc4 (.cond (.t 35) (.seq qbep .ret) .skip)) (.seq qbhy (.seq (.seq qbb9 (.seq qbj5 (.cond (.t 45) (.goto 0) .skip))) (.seq qbcn .ret)))))))))))
@[go_sem] def s0ch:zzR:=[(.t 2,.id),(.t 3,.id)]
theorem c0ch:cFun Tryz.prog 206=some (47,k0ch,s0ch):=by kernel_rfl

def qbpb:IC:=zr [zzn 5 2,zv 6 (.mov (.c .nilp)),zzj 7 0]
def qcem:IC:=zr [zzp 9 5 0,zzr 10 1 9,zv 11 (zq (.t 10) (.c (.str []))),zm 12 11,zw 12 true 13 (zd 5 1),zw 12 true 14 (zg 1 13),zw 12 true 15 (zo 1),zw 12 true 16 (zq (.t 14) (.t 15)),zzh 17 12 16,zm 8 17]
def qb0g:IC:=zr [zm 18 0,zm 6 18,zzj 7 0]
def qbuh:IC:=zr [zzq 20 3 5,zm 21 1,zi 22 (zk 233 [zze 20,zI 21]),zm 19 22]
def qcdd:IC:=zr [zv 6 (.mov (.c .nilp)),zzj 7 15]
def qbpf:IC:=zr [zm 23 0,zm 24 1,zzq 25 3 5,zv 26 (.bld [(.int .i64 0),(.str []),(.int .i64 0),.nils] [(0,1,(.t 24)),(1,3,(.t 25))]),zv 27 (.bsl 4 [((.t 26),zzd)]),zi 28 (zk 39 [((.t 27),(.sl 4))]),zi 29 (zk 71 [zI 23,zI 28]),zzt 30 29 0,zzt 31 29 1,zm 6 30,zm 7 31]
def k0ei:IC:=(.seq qbpb (.seq (.block 0 (.seq qcem (.cond (.t 8) (.seq qb0g .ret) (.seq qbuh (.cond (.t 19) (.seq qcdd .ret) .skip))))) (.seq qbpf .ret)))
@[go_sem] def s0ei:zzR:=[(.t 6,.id),(.t 7,.id)]
theorem c0ei:cFun Tryz.prog 209=some (32,k0ei,s0ei):=by kernel_rfl

def qbr0:IC:=zr [zv 4 (.mov (.c .nils))]
def qbte:IC:=zr [zm 7 0,zzo 8 7,zi 9 (.mks 6 (.agg [(.str []),(.int .i64 0),.nils,(.str []),(.int .i64 0),.nils]) 96 (.t 8) (.t 8)),zm 5 9]
def qb2f:IC:=zr [zm 10 0,zzo 11 10,zzj 12 0]
def qb1l:IC:=zr [zzm 13 12 11]
def qcbe:IC:=zr [zm 14 12,zm 6 14]
def qcdl:IC:=.drw [zzu 15 5,zzu 16 6,zzu 17 0,zzu 18 6,zp (zzs 19 3 17 18),zp (zzq 20 3 19),zzu 21 1,zzu 22 6,zp (zzs 23 3 21 22),zp (zzq 24 3 23),(zv 25 (.bld [(.str []),(.int .i64 0),.nils,(.str []),(.int .i64 0),.nils] [(0,3,(.t 20)),(3,3,(.t 24))]),[]),zp (zzs 26 6 15 16),(zn (.st 6 (.agg [.id,.id,(.sl 3),.id,.id,(.sl 3)]) (.t 26) (.t 25)),[])]
def qbre:IC:=zr [zzl 27 12 1,zm 12 27]
def qbnd:IC:=(.seq qb1l (.seq (.cond (.t 13) .skip (.exit 0)) (.seq (.block 1 (.seq qcbe qcdl)) qbre)))
def qbop:IC:=zr [zm 28 5,zm 4 28]
def k0eh:IC:=(.seq qbr0 (.seq qbte (.seq (.seq qb2f (.block 0 (.loop qbnd))) (.seq qbop .ret))))
@[go_sem] def s0eh:zzR:=[(.t 4,(.sl 6))]
theorem c0eh:cFun Tryz.prog 210=some (29,k0eh,s0eh):=by kernel_rfl

def qbxz:IC:=zr [zv 2 zf]
def qbss:IC:=zr [zm 5 0,zv 6 (zq (.t 5) (.c (.str []))),zm 7 6,zw 7 false 8 (zo 0),zw 7 false 9 (.idx (.t 8) (zc 0)),zw 7 false 10 (.bin .neq .no (.t 9) (.c (.int .u8 33))),zzi 11 7 10]
def qbm1:IC:=zr [zv 2 zf]
def qbpl:IC:=zr [zm 13 0,zv 14 (.sls (.t 13) (some (zc 1)) none),zi 15 (zk 234 [zI 14]),zm 12 15,zzt 16 12 0,zzt 17 12 1,zm 3 16,zm 4 17]
def qb0u:IC:=.drw [zzu 18 4,zp (zv 19 (zq (.t 18) (zc 0))),zzu 20 19,zp (zw 20 true 21 (zo 3)),(zj 20 true 22 (zk 76 [zI 21]),[]),zp (zw 20 true 23 (zo 0)),zp (zw 20 true 24 (.sls (.t 23) (some (zc 1)) none)),zp (zw 20 true 25 (zq (.t 22) (.t 24))),zp (zzh 26 20 25),zzu 2 26]
def k0ca:IC:=(.seq qbxz (.seq (.seq qbss (.cond (.t 11) (.seq qbm1 .ret) .skip)) (.seq qbpl (.seq qb0u .ret))))
@[go_sem] def s0ca:zzR:=[(.t 2,.id)]
theorem c0ca:cFun Tryz.prog 211=some (27,k0ca,s0ca):=by kernel_rfl

def qb0z:IC:=zr [zv 2 zf]
def qbs8:IC:=zr [zm 3 0,zv 4 (.bin .neq .no (.t 3) (.c (.str []))),zm 5 4,zw 5 true 6 (zo 0),zw 5 true 7 (.idx (.t 6) (zc 0)),zj 5 true 8 (zk 235 [zI 7]),zzh 9 5 8,zm 10 9,zw 10 true 11 (zo 0),zj 10 true 12 (zk 236 [zI 11]),zzh 13 10 12,zm 2 13]
def k0cr:IC:=(.seq qb0z (.seq qbs8 .ret))
@[go_sem] def s0cr:zzR:=[(.t 2,.id)]
theorem c0cr:cFun Tryz.prog 212=some (14,k0cr,s0cr):=by kernel_rfl

def qbwg:IC:=zr [zzn 2 0,zv 4 zf]
def qb0o:IC:=zr [zzq 5 3 2,zi 6 (zk 238 [zze 5]),zm 7 1,zi 8 (zk 237 [((.t 6),(.sl 1)),zI 7]),zm 4 8]
def k0bw:IC:=(.seq qbwg (.seq qb0o .ret))
@[go_sem] def s0bw:zzR:=[(.t 4,.id)]
theorem c0bw:cFun Tryz.prog 213=some (9,k0bw,s0bw):=by kernel_rfl

def qbvy:IC:=zr [zzn 1 0,zv 2 zf]
def qb90:IC:=zr [zzp 4 1 0,zzr 5 1 4]
def qbl8:IC:=zr [zv 7 (zq (.t 5) (zc 21)),zm 6 7]
def qb8m:IC:=zr [zzq 8 6 1,zi 9 (zk 166 [zzf 8,((.c (.bool true)),.id),((zc 0),.id),((zc 0),.id)]),zm 2 9]
def qb3z:IC:=zr [zv 11 (zq (.t 5) (zc 22)),zm 10 11]
def qb4c:IC:=zr [zzq 12 6 1,zi 13 (zk 166 [zzf 12,((.c (.bool false)),.id),((zc 0),.id),((zc 0),.id)]),zm 2 13]
def qb9g:IC:=zr [zv 15 (zq (.t 5) (zc 23)),zm 14 15]
def qby5:IC:=zr [zzq 16 6 1,zi 17 (zk 167 [zzf 16,((zc 0),.id)]),zm 2 17]
def qbvq:IC:=zr [zv 19 (zq (.t 5) (zc 24)),zm 18 19]
def qbud:IC:=zr [zzj 3 0]
def qbhp:IC:=zr [zm 20 3,zzp 21 1 5,zzr 22 1 21,zzo 23 22,zzm 24 20 23]
def qbju:IC:=zr [zzp 27 1 5,zzr 28 1 27,zm 29 3,zzs 30 6 28 29,zzq 31 6 30,zi 32 (zk 214 [zzf 31]),zv 33 (.un .not (.t 32))]
def qbbi:IC:=zr [zv 2 zf]
def qbhq:IC:=zr [zm 25 3,zzl 26 25 1,zm 3 26]
def qbg6:IC:=(.seq (.seq qbhp (.cond (.t 24) .skip (.exit 1))) (.seq (.block 2 (.seq qbju (.cond (.t 33) (.seq qbbi .ret) .skip))) qbhq))
def q98:IC:=zr [zzq 34 6 1,zzp 35 1 5,zzr 36 1 35,zzo 37 36,zi 38 (zk 166 [zzf 34,((.c (.bool true)),.id),((zc 0),.id),zI 37]),zm 2 38]
def qbhu:IC:=zr [zv 2 zf]
def k0fh:IC:=(.seq qbvy (.seq (.seq qb90 (.block 0 (.seq qbl8 (.cond (.t 6) (.seq qb8m .ret) (.seq qb3z (.cond (.t 10) (.seq qb4c .ret) (.seq qb9g (.cond (.t 14) (.seq qby5 .ret) (.seq qbvq (.cond (.t 18) (.seq (.seq qbud (.block 1 (.loop qbg6))) (.seq q98 .ret)) .skip)))))))))) (.seq qbhu .ret)))
@[go_sem] def s0fh:zzR:=[(.t 2,.id)]
theorem c0fh:cFun Tryz.prog 214=some (39,k0fh,s0fh):=by kernel_rfl

def qbuy:IC:=zr [zzn 1 0,zv 2 zf]
def qbw7:IC:=zr [zzp 3 1 0,zzr 4 1 3,zv 5 (zq (.t 4) (zc 11)),zm 6 5,zw 6 true 7 (zd 1 2),zw 6 true 8 (zg 1 7),zw 6 true 9 (.bin .neq .no (.t 8) (.c (.str []))),zzh 10 6 9,zm 11 10,zw 11 true 12 (zd 1 1),zw 11 true 13 (zg 1 12),zw 11 true 14 (zq (.t 13) (zc 0)),zzh 15 11 14,zm 16 15,zw 16 true 17 (zd 1 4),zw 16 true 18 (zg 1 17),zw 16 true 19 (.len false (.t 18)),zw 16 true 20 (zq (.t 19) (zc 1)),zzh 21 16 20,zm 22 21,zw 22 true 23 (zd 1 4),zw 22 true 24 (zg 1 23),zj 22 true 25 (zk 168 [((.t 24),(.sl 3))]),zzh 26 22 25,zm 27 26,zw 27 true 28 (zd 1 5),zw 27 true 29 (zg 1 28),zw 27 true 30 (.len false (.t 29)),zw 27 true 31 (zq (.t 30) (zc 1)),zzh 32 27 31,zm 33 32,zw 33 true 34 (zd 1 5),zw 33 true 35 (zg 1 34),zw 33 true 36 (.iad 6 (.t 35) (zc 0)),zw 33 true 37 (zl 6 36),zj 33 true 38 (zk 119 [zzf 37]),zzh 39 33 38,zm 2 39]
def k0fg:IC:=(.seq qbuy (.seq qbw7 .ret))
@[go_sem] def s0fg:zzR:=[(.t 2,.id)]
theorem c0fg:cFun Tryz.prog 215=some (40,k0fg,s0fg):=by kernel_rfl

def qbth:IC:=zr [zzn 1 0,zv 2 zf]
def qbne:IC:=zr [zzj 3 0]
def qbto:IC:=zr [zm 9 3,zzp 10 1 2,zzr 11 1 10,zzo 12 11,zzm 13 9 12]
def qb6n:IC:=zr [zzp 16 1 2,zzr 17 1 16,zm 18 3,zzs 19 3 17 18,zzq 20 3 19,zi 21 (zk 216 [zze 20]),zv 22 (.un .not (.t 21))]
def qcap:IC:=zr [zv 2 zf]
def qbmq:IC:=zr [zm 14 3,zzl 15 14 1,zm 3 15]
def qb82:IC:=(.seq (.seq qbto (.cond (.t 13) .skip (.exit 0))) (.seq (.block 1 (.seq qb6n (.cond (.t 22) (.seq qcap .ret) .skip))) qbmq))
def qb5m:IC:=zr [zzq 24 3 1,zi 25 (zk 239 [zze 24]),zm 23 25,zzt 26 23 0,zzt 27 23 1,zzt 28 23 2,zi 5 zzv,zm 4 26,zn (.st 3 zza (.t 5) (.t 27)),zm 6 28]
def qbyu:IC:=zr [zm 29 6]
def q9h:IC:=zr [zzk 2]
def qbi6:IC:=zr [zzp 30 1 0,zzr 31 1 30,zzp 32 1 1,zzr 33 1 32,zv 34 (.bld [(.str []),(.int .i64 0),.nils] [(0,1,(.t 31)),(1,1,(.t 33))]),zi 7 zzv,zn (.st 3 zza (.t 7) (.t 34))]
def qbkc:IC:=zr [zzj 8 0]
def qbey:IC:=zr [zm 35 8,zzp 36 1 2,zzr 37 1 36,zzo 38 37,zzm 39 35 38]
def qbe3:IC:=.drw [zp (zzp 42 7 2),zp (zzr 43 1 42),(zi 44 (zk 75 [((zc 0),.id)]),[1]),(zv 45 (.bsl 3 [zze 44]),[]),(zi 46 (.app 3 (.agg [(.str []),(.int .i64 0),.nils]) 48 (.sl 3) (.t 43) (.t 45)),[]),zp (zzp 47 7 2),(zn (.st 1 (.sl 3) (.t 47) (.t 46)),[])]
def qbdu:IC:=zr [zm 40 8,zzl 41 40 1,zm 8 41]
def qba8:IC:=(.seq (.seq qbey (.cond (.t 39) .skip (.exit 2))) (.seq (.block 3 qbe3) qbdu))
def qbhk:IC:=zr [zzp 48 7 2,zzr 49 1 48,zzo 50 49,zv 51 (.bin .geq .no (.t 50) (zc 4096)),zm 52 51,zw 52 false 53 (zl 3 7),zj 52 false 54 (zk 112 [zze 53]),zzi 55 52 54,zm 2 55]
def k0fm:IC:=(.seq qbth (.seq (.seq qbne (.block 0 (.loop qb82))) (.seq (.seq qb5m (.seq qbyu (.cond (.t 29) (.seq q9h .ret) .skip))) (.seq qbi6 (.seq (.seq qbkc (.block 2 (.loop qba8))) (.seq qbhk .ret))))))
@[go_sem] def s0fm:zzR:=[(.t 2,.id)]
theorem c0fm:cFun Tryz.prog 216=some (56,k0fm,s0fm):=by kernel_rfl

def qbl0:IC:=zr [zzn 3 0,zi 6 zzv]
def qcdz:IC:=zr [zzp 10 3 0,zzr 11 1 10,zv 12 (zq (.t 11) (.c (.str [])))]
def qb19:IC:=zr [zzj 7 0]
def qb42:IC:=zr [zm 13 7,zm 14 1,zzo 15 14,zzm 16 13 15]
def qbm9:IC:=.drw [zzu 19 1,zzu 20 7,zp (zzs 21 1 19 20),zp (zzr 22 1 21),zp (zzp 23 3 1),zp (zzr 24 1 23),zp (zv 25 (zq (.t 22) (.t 24)))]
def qb80:IC:=zr [zm 26 7,zm 27 2,zzo 28 27,zzm 29 26 28]
def qbs5:IC:=zr [zm 30 2,zm 31 7,zzs 32 3 30 31,zzq 33 3 32,zn (.st 3 zza (.t 6) (.t 33))]
def qbr5:IC:=zr [zzq 34 3 3,zn (.st 3 zza (.t 6) (.t 34))]
def qbru:IC:=zr [zm 17 7,zzl 18 17 1,zm 7 18]
def qbr6:IC:=(.seq (.seq qb42 (.cond (.t 16) .skip (.exit 0))) (.seq (.block 1 (.seq qbm9 (.cond (.t 25) (.seq (.seq qb80 (.cond (.t 29) (.seq qbs5 .ret) .skip)) (.seq qbr5 .ret)) .skip))) qbru))
def qbdp:IC:=zr [zzq 35 3 3,zn (.st 3 zza (.t 6) (.t 35))]
def qbez:IC:=zr [zv 8 (.mov (.c .nils))]
def qbi3:IC:=zr [zzj 9 0]
def qbda:IC:=zr [zm 36 9,zzp 37 3 2,zzr 38 1 37,zzo 39 38,zzm 40 36 39]
def qbd6:IC:=zr [zm 43 8,zzp 44 3 2,zzr 45 1 44,zm 46 9,zzs 47 3 45 46,zzq 48 3 47,zm 49 1,zm 50 2,zi 51 (zk 217 [zze 48,((.t 49),(.sl 1)),((.t 50),(.sl 3))]),zv 52 (.bsl 3 [zze 51]),zi 53 (.app 3 (.agg [(.str []),(.int .i64 0),.nils]) 48 (.sl 3) (.t 43) (.t 52)),zm 8 53]
def qbbw:IC:=zr [zm 41 9,zzl 42 41 1,zm 9 42]
def qbjs:IC:=(.seq (.seq qbda (.cond (.t 40) .skip (.exit 2))) (.seq (.block 3 qbd6) qbbw))
def qbgv:IC:=zr [zm 54 8,zzp 55 3 2,zn (.st 1 (.sl 3) (.t 55) (.t 54))]
def qbap:IC:=zr [zzq 56 3 3,zn (.st 3 zza (.t 6) (.t 56))]
def k0fq:IC:=(.seq qbl0 (.seq (.seq qcdz (.cond (.t 12) (.seq (.seq qb19 (.block 0 (.loop qbr6))) (.seq qbdp .ret)) .skip)) (.seq qbez (.seq (.seq qbi3 (.block 2 (.loop qbjs))) (.seq qbgv (.seq qbap .ret))))))
@[go_sem] def s0fq:zzR:=[(.c true 3 6,zza)]
theorem c0fq:cFun Tryz.prog 217=some (57,k0fq,s0fq):=by kernel_rfl

def qcb6:IC:=zr [zv 4 (.mov (.c (.str []))),zv 5 zf]
def qbtb:IC:=zr [zm 6 0,zm 7 1,zi 8 (zk 240 [zI 6,zI 7]),zzt 9 8 0,zzt 10 8 1,zm 4 9,zm 5 10]
def k0bo:IC:=(.seq qcb6 (.seq qbtb .ret))
@[go_sem] def s0bo:zzR:=[(.t 4,.id),(.t 5,.id)]
theorem c0bo:cFun Tryz.prog 218=some (11,k0bo,s0bo):=by kernel_rfl

def qbtl:IC:=zr [zv 4 (.mov (.c (.str []))),zv 5 zf]
def qb4i:IC:=zr [zm 6 0,zm 7 1,zi 8 (zk 241 [zI 6,zI 7]),zzt 9 8 0,zzt 10 8 1,zm 4 9,zm 5 10]
def k0br:IC:=(.seq qbtl (.seq qb4i .ret))
@[go_sem] def s0br:zzR:=[(.t 4,.id),(.t 5,.id)]
theorem c0br:cFun Tryz.prog 219=some (11,k0br,s0br):=by kernel_rfl

def qb8f:IC:=zr [zzj 4 0]
def qb2v:IC:=zr [zm 6 0,zzo 7 6,zzj 8 0]
def qbvu:IC:=zr [zzm 9 8 7]
def qbw4:IC:=zr [zm 10 8,zm 5 10]
def qbuc:IC:=zr [zm 11 1,zm 12 0,zm 13 5,zzs 14 3 12 13,zzq 15 3 14,zi 16 (.call (.t 11) [zze 15])]
def qb7o:IC:=zr [zm 17 5,zm 4 17]
def qbug:IC:=zr [zzl 18 8 1,zm 8 18]
def qbxm:IC:=(.seq qbvu (.seq (.cond (.t 9) .skip (.exit 0)) (.seq (.block 1 (.seq qbw4 (.seq qbuc (.cond (.t 16) (.seq qb7o .ret) .skip)))) qbug)))
def qb73:IC:=zr [zv 4 (.mov (zc (-1)))]
def k0be:IC:=(.seq qb8f (.seq (.seq qb2v (.block 0 (.loop qbxm))) (.seq qb73 .ret)))
@[go_sem] def s0be:zzR:=[(.t 4,.id)]
theorem c0be:cFun Tryz.prog 220=some (19,k0be,s0be):=by kernel_rfl

def qcau:IC:=zr [zv 2 zf]
def qbvd:IC:=zr [zm 3 0,zv 4 (.bin .geq .no (.t 3) (.c (.int .u8 48))),zm 5 4,zw 5 true 6 (zo 0),zw 5 true 7 (.bin .leq .no (.t 6) (.c (.int .u8 57))),zzh 8 5 7,zm 2 8]
def k0cd:IC:=(.seq qcau (.seq qbvd .ret))
@[go_sem] def s0cd:zzR:=[(.t 2,.id)]
theorem c0cd:cFun Tryz.prog 224=some (9,k0cd,s0cd):=by kernel_rfl

def qboa:IC:=zr [zv 4 zf]
def qcdv:IC:=zr [zm 5 0,zv 6 (.len true (.t 5)),zm 7 1,zv 8 (.len true (.t 7)),zv 9 (.bin .geq .no (.t 6) (.t 8)),zm 10 9,zw 10 true 11 (zo 0),zw 10 true 12 (zo 1),zw 10 true 13 (.len true (.t 12)),zw 10 true 14 (.sls (.t 11) none (some (.t 13))),zw 10 true 15 (zo 1),zw 10 true 16 (zq (.t 14) (.t 15)),zzh 17 10 16,zm 4 17]
def k0ce:IC:=(.seq qboa (.seq qcdv .ret))
@[go_sem] def s0ce:zzR:=[(.t 4,.id)]
theorem c0ce:cFun Tryz.prog 231=some (18,k0ce,s0ce):=by kernel_rfl

def qb38:IC:=zr [zzn 2 0,zzn 3 1,zv 4 zf]
def qb6h:IC:=zr [zzq 5 3 2,zv 6 (.mfn 243 [] [(.t 3)]),zi 7 (zk 99 [zze 5,((zc 1),.id),zI 6]),zv 8 (.un .not (.t 7)),zm 4 8]
def k0em:IC:=(.seq qb38 (.seq qb6h .ret))
@[go_sem] def s0em:zzR:=[(.t 4,.id)]
theorem c0em:cFun Tryz.prog 233=some (9,k0em,s0em):=by kernel_rfl

def qbo1:IC:=zr [zzj 2 0,zzj 3 0]
def qb3p:IC:=zr [zm 8 0,zv 9 (zq (.t 8) (.c (.str [])))]
def qbnn:IC:=zr [zzj 2 0,zzj 3 5]
def qb6t:IC:=zr [zzj 4 0]
def qbtp:IC:=zr [zm 10 4,zm 11 0,zv 12 (.len true (.t 11)),zzm 13 10 12]
def qb0w:IC:=zr [zm 16 0,zm 17 4,zv 18 (.idx (.t 16) (.t 17)),zv 19 (.bin .lss .no (.t 18) (.c (.int .u8 48))),zm 20 19,zw 20 false 21 (zo 0),zw 20 false 22 (zo 4),zw 20 false 23 (.idx (.t 21) (.t 22)),zw 20 false 24 (.bin .gtr .no (.t 23) (.c (.int .u8 57))),zzi 25 20 24]
def qcbm:IC:=zr [zzj 2 0,zzj 3 5]
def qb20:IC:=zr [zm 14 4,zzl 15 14 1,zm 4 15]
def qbui:IC:=(.seq (.seq qbtp (.cond (.t 13) .skip (.exit 0))) (.seq (.block 1 (.seq qb0w (.cond (.t 25) (.seq qcbm .ret) .skip))) qb20))
def qbjx:IC:=zr [zzj 5 0]
def qbdr:IC:=zr [zzj 6 0]
def qbeq:IC:=zr [zm 26 6,zm 27 0,zv 28 (.len true (.t 27)),zzm 29 26 28]
def qbji:IC:=zr [zm 32 0,zm 33 6,zv 34 (.idx (.t 32) (.t 33)),zv 35 (.bin .sub .no (.t 34) (.c (.int .u8 48))),zv 36 (.cvi .i64 (.t 35)),zm 7 36]
def qbh6:IC:=zr [zm 37 5,zm 38 7,zv 39 (.bin .sub .no (zc 9223372036854775807) (.t 38)),zv 40 (.bin .quo .no (.t 39) (zc 10)),zv 41 (.bin .gtr .no (.t 37) (.t 40))]
def qbhs:IC:=zr [zzj 2 0,zzj 3 4]
def qbgx:IC:=zr [zm 42 5,zv 43 (.bin .mul .no (zc 10) (.t 42)),zm 44 7,zv 45 (.bin .add .no (.t 43) (.t 44)),zm 5 45]
def qbbh:IC:=zr [zm 30 6,zzl 31 30 1,zm 6 31]
def qbge:IC:=(.seq (.seq qbeq (.cond (.t 29) .skip (.exit 2))) (.seq (.block 3 (.seq qbji (.seq (.seq qbh6 (.cond (.t 41) (.seq qbhs .ret) .skip)) qbgx))) qbbh))
def q9o:IC:=zr [zm 46 5,zm 2 46,zzj 3 0]
def k0cg:IC:=(.seq qbo1 (.seq (.seq qb3p (.cond (.t 9) (.seq qbnn .ret) .skip)) (.seq (.seq qb6t (.block 0 (.loop qbui))) (.seq qbjx (.seq (.seq qbdr (.block 2 (.loop qbge))) (.seq q9o .ret))))))
@[go_sem] def s0cg:zzR:=[(.t 2,.id),(.t 3,.id)]
theorem c0cg:cFun Tryz.prog 234=some (47,k0cg,s0cg):=by kernel_rfl

def qbxq:IC:=zr [zv 2 zf]
def qbzz:IC:=zr [zm 3 0,zv 4 (.bin .geq .no (.t 3) (.c (.int .u8 65))),zm 5 4,zw 5 true 6 (zo 0),zw 5 true 7 (.bin .leq .no (.t 6) (.c (.int .u8 90))),zzh 8 5 7,zm 2 8]
def k0cl:IC:=(.seq qbxq (.seq qbzz .ret))
@[go_sem] def s0cl:zzR:=[(.t 2,.id)]
theorem c0cl:cFun Tryz.prog 235=some (9,k0cl,s0cl):=by kernel_rfl

def qb9k:IC:=zr [zv 2 zf]
def qb61:IC:=zr [zzj 3 1]
def qbqg:IC:=zr [zm 4 3,zm 5 0,zv 6 (.len true (.t 5)),zzm 7 4 6]
def qcbd:IC:=zr [zm 10 0,zm 11 3,zv 12 (.idx (.t 10) (.t 11)),zi 13 (zk 244 [zI 12]),zv 14 (.un .not (.t 13))]
def qb0c:IC:=zr [zv 2 zf]
def qbue:IC:=zr [zm 8 3,zzl 9 8 1,zm 3 9]
def qbuz:IC:=(.seq (.seq qbqg (.cond (.t 7) .skip (.exit 0))) (.seq (.block 1 (.seq qcbd (.cond (.t 14) (.seq qb0c .ret) .skip))) qbue))
def qbwq:IC:=zr [zzk 2]
def k0cp:IC:=(.seq qb9k (.seq (.seq qb61 (.block 0 (.loop qbuz))) (.seq qbwq .ret)))
@[go_sem] def s0cp:zzR:=[(.t 2,.id)]
theorem c0cp:cFun Tryz.prog 236=some (15,k0cp,s0cp):=by kernel_rfl

def qbws:IC:=zr [zv 4 zf]
def qbwa:IC:=zr [zzj 5 0]
def qbph:IC:=zr [zm 6 5,zm 7 0,zzo 8 7,zzm 9 6 8]
def qbrh:IC:=zr [zm 12 0,zm 13 5,zzs 14 1 12 13,zzr 15 1 14,zm 16 1,zv 17 (zq (.t 15) (.t 16))]
def qb9x:IC:=zr [zzk 4]
def qbzs:IC:=zr [zm 10 5,zzl 11 10 1,zm 5 11]
def qbv6:IC:=(.seq (.seq qbph (.cond (.t 9) .skip (.exit 0))) (.seq (.block 1 (.seq qbrh (.cond (.t 17) (.seq qb9x .ret) .skip))) qbzs))
def qb98:IC:=zr [zv 4 zf]
def k0bu:IC:=(.seq qbws (.seq (.seq qbwa (.block 0 (.loop qbv6))) (.seq qb98 .ret)))
@[go_sem] def s0bu:zzR:=[(.t 4,.id)]
theorem c0bu:cFun Tryz.prog 237=some (18,k0bu,s0bu):=by kernel_rfl

def qby7:IC:=zr [zzn 1 0,zv 2 (.mov (.c .nils))]
def qbyq:IC:=zr [zv 3 (.mov (.c .nils))]
def qbwj:IC:=zr [zzp 5 1 0,zzr 6 1 5,zv 7 (zq (.t 6) (.c (.str [])))]
def qb47:IC:=zr [zzp 8 1 1,zzr 9 1 8,zv 10 (.bsl 1 [zI 9]),zm 3 10]
def qbvj:IC:=zr [zzj 4 0]
def qbyz:IC:=zr [zm 11 4,zzp 12 1 2,zzr 13 1 12,zzo 14 13,zzm 15 11 14]
def qbve:IC:=zr [zm 18 3,zzp 19 1 2,zzr 20 1 19,zm 21 4,zzs 22 3 20 21,zzq 23 3 22,zi 24 (zk 238 [zze 23]),zi 25 (.app 1 (.int .i64 0) 8 (.sl 1) (.t 18) (.t 24)),zm 3 25]
def qbwe:IC:=zr [zm 16 4,zzl 17 16 1,zm 4 17]
def qbnx:IC:=(.seq (.seq qbyz (.cond (.t 15) .skip (.exit 0))) (.seq (.block 1 qbve) qbwe))
def qbdv:IC:=zr [zm 26 3,zm 2 26]
def k0bv:IC:=(.seq qby7 (.seq qbyq (.seq (.seq qbwj (.cond (.t 7) qb47 .skip)) (.seq (.seq qbvj (.block 0 (.loop qbnx))) (.seq qbdv .ret)))))
@[go_sem] def s0bv:zzR:=[(.t 2,(.sl 1))]
theorem c0bv:cFun Tryz.prog 238=some (27,k0bv,s0bv):=by kernel_rfl

def qbvl:IC:=zr [zzn 1 0,zv 2 (.mov (.c (.str []))),zi 3 zzv,zv 4 zf]
def qbuw:IC:=zr [zzp 6 1 0,zzr 7 1 6,zi 8 (zk 245 [zI 7]),zm 5 8]
def qbz8:IC:=zr [zm 9 5,zv 10 (zq (.t 9) (.c (.str []))),zm 11 10,zw 11 false 12 (zd 1 2),zw 11 false 13 (zg 1 12),zw 11 false 14 (.len false (.t 13)),zw 11 false 15 (.bin .neq .no (.t 14) (zc 1)),zzi 16 11 15,zm 17 16,zw 17 false 18 (zd 1 1),zw 17 false 19 (zg 1 18),zw 17 false 20 (.bin .neq .no (.t 19) (zc 0)),zzi 21 17 20]
def qb5u:IC:=zr [zv 22 (.bld [(.str []),(.int .i64 0),.nils] []),zv 2 (.mov (.c (.str []))),zn (.st 3 zza (.t 3) (.t 22)),zv 4 zf]
def qbn8:IC:=.drw [zzu 23 5,zp (zzp 24 1 2),zp (zzr 25 1 24),zp (zv 26 (.iad 3 (.t 25) (zc 0))),zp (zzq 27 3 26),zzu 2 23,(zn (.st 3 zza (.t 3) (.t 27)),[]),zp (zzk 4)]
def k0fp:IC:=(.seq qbvl (.seq qbuw (.seq (.seq qbz8 (.cond (.t 21) (.seq qb5u .ret) .skip)) (.seq qbn8 .ret))))
@[go_sem] def s0fp:zzR:=[(.t 2,.id),(.c true 3 3,zza),(.t 4,.id)]
theorem c0fp:cFun Tryz.prog 239=some (28,k0fp,s0fp):=by kernel_rfl

def qbsz:IC:=zr [zv 4 (.mov (.c (.str []))),zv 5 zf]
def qboi:IC:=zr [zm 6 0,zm 7 1,zi 8 (zk 231 [zI 6,zI 7]),zv 9 (.un .not (.t 8))]
def qbm8:IC:=zr [zm 10 0,zm 4 10,zv 5 zf]
def qcck:IC:=zr [zm 11 0,zm 12 1,zv 13 (.len true (.t 12)),zv 14 (.sls (.t 11) (some (.t 13)) none),zm 4 14,zzk 5]
def k0bn:IC:=(.seq qbsz (.seq (.seq qboi (.cond (.t 9) (.seq qbm8 .ret) .skip)) (.seq qcck .ret)))
@[go_sem] def s0bn:zzR:=[(.t 4,.id),(.t 5,.id)]
theorem c0bn:cFun Tryz.prog 240=some (15,k0bn,s0bn):=by kernel_rfl

def qbml:IC:=zr [zv 4 (.mov (.c (.str []))),zv 5 zf]
def qb91:IC:=zr [zm 6 0,zm 7 1,zi 8 (zk 246 [zI 6,zI 7]),zv 9 (.un .not (.t 8))]
def qcde:IC:=zr [zm 10 0,zm 4 10,zv 5 zf]
def qb1g:IC:=zr [zm 11 0,zm 12 0,zv 13 (.len true (.t 12)),zm 14 1,zv 15 (.len true (.t 14)),zv 16 (.bin .sub .no (.t 13) (.t 15)),zv 17 (.sls (.t 11) none (some (.t 16))),zm 4 17,zzk 5]
def k0bq:IC:=(.seq qbml (.seq (.seq qb91 (.cond (.t 9) (.seq qcde .ret) .skip)) (.seq qb1g .ret)))
@[go_sem] def s0bq:zzR:=[(.t 4,.id),(.t 5,.id)]
theorem c0bq:cFun Tryz.prog 241=some (18,k0bq,s0bq):=by kernel_rfl

def qbrm:IC:=zr [zzn 3 0,zv 5 zf]
def qb4r:IC:=zr [zzp 6 3 0,zzr 7 1 6,zv 8 (.bin .neq .no (.t 7) (.c (.str []))),zm 9 8,zw 9 false 10 (zd 3 1),zw 9 false 11 (zg 1 10),zw 9 false 12 (zg 1 2),zw 9 false 13 (.bin .neq .no (.t 11) (.t 12)),zzi 14 9 13,zm 5 14]
def k0el:IC:=(.seq qbrm (.seq qb4r .ret))
@[go_sem] def s0el:zzR:=[(.t 5,.id)]
theorem c0el:cFun Tryz.prog 243=some (15,k0el,s0el):=by kernel_rfl

def qbzw:IC:=zr [zv 2 zf]
def qb0k:IC:=zr [zm 3 0,zi 4 (zk 247 [zI 3]),zm 5 4,zw 5 false 6 (zo 0),zj 5 false 7 (zk 235 [zI 6]),zzi 8 5 7,zm 9 8,zw 9 false 10 (zo 0),zj 9 false 11 (zk 248 [zI 10]),zzi 12 9 11,zm 13 12,zw 13 false 14 (zo 0),zw 13 false 15 (zq (.t 14) (.c (.int .u8 39))),zzi 16 13 15,zm 2 16]
def k0cn:IC:=(.seq qbzw (.seq qb0k .ret))
@[go_sem] def s0cn:zzR:=[(.t 2,.id)]
theorem c0cn:cFun Tryz.prog 244=some (17,k0cn,s0cn):=by kernel_rfl

def qb8y:IC:=zr [zv 2 (.mov (.c (.str [])))]
def qcbk:IC:=zr [zm 4 0,zv 5 (.len true (.t 4)),zm 3 5]
def qcc2:IC:=zr [zm 6 3,zv 7 (.bin .lss .no (.t 6) (zc 3)),zm 8 7,zw 8 false 9 (zo 0),zw 8 false 10 (.idx (.t 9) (zc 0)),zw 8 false 11 (.bin .neq .no (.t 10) (.c (.int .u8 123))),zzi 12 8 11,zm 13 12,zw 13 false 14 (zo 0),zw 13 false 15 (zo 3),zw 13 false 16 (.bin .sub .no (.t 15) (zc 1)),zw 13 false 17 (.idx (.t 14) (.t 16)),zw 13 false 18 (.bin .neq .no (.t 17) (.c (.int .u8 125))),zzi 19 13 18,zm 20 19,zw 20 false 21 (zo 0),zw 20 false 22 (zo 3),zw 20 false 23 (.bin .sub .no (.t 22) (zc 1)),zw 20 false 24 (.sls (.t 21) (some (zc 1)) (some (.t 23))),zj 20 false 25 (zk 212 [zI 24]),zw 20 false 26 (.un .not (.t 25)),zzi 27 20 26]
def qb32:IC:=zr [zv 2 (.mov (.c (.str [])))]
def qcae:IC:=zr [zm 28 0,zm 29 3,zv 30 (.bin .sub .no (.t 29) (zc 1)),zv 31 (.sls (.t 28) (some (zc 1)) (some (.t 30))),zm 2 31]
def k0fo:IC:=(.seq qb8y (.seq qcbk (.seq (.seq qcc2 (.cond (.t 27) (.seq qb32 .ret) .skip)) (.seq qcae .ret))))
@[go_sem] def s0fo:zzR:=[(.t 2,.id)]
theorem c0fo:cFun Tryz.prog 245=some (32,k0fo,s0fo):=by kernel_rfl

def qby9:IC:=zr [zv 4 zf]
def qbp0:IC:=zr [zm 5 0,zv 6 (.len true (.t 5)),zm 7 1,zv 8 (.len true (.t 7)),zv 9 (.bin .geq .no (.t 6) (.t 8)),zm 10 9,zw 10 true 11 (zo 0),zw 10 true 12 (zo 0),zw 10 true 13 (.len true (.t 12)),zw 10 true 14 (zo 1),zw 10 true 15 (.len true (.t 14)),zw 10 true 16 (.bin .sub .no (.t 13) (.t 15)),zw 10 true 17 (.sls (.t 11) (some (.t 16)) none),zw 10 true 18 (zo 1),zw 10 true 19 (zq (.t 17) (.t 18)),zzh 20 10 19,zm 4 20]
def k0bp:IC:=(.seq qby9 (.seq qbp0 .ret))
@[go_sem] def s0bp:zzR:=[(.t 4,.id)]
theorem c0bp:cFun Tryz.prog 246=some (21,k0bp,s0bp):=by kernel_rfl

def qb6d:IC:=zr [zv 2 zf]
def qb0r:IC:=zr [zm 3 0,zv 4 (.bin .geq .no (.t 3) (.c (.int .u8 97))),zm 5 4,zw 5 true 6 (zo 0),zw 5 true 7 (.bin .leq .no (.t 6) (.c (.int .u8 122))),zzh 8 5 7,zm 9 8,zw 9 false 10 (zo 0),zw 9 false 11 (zq (.t 10) (.c (.int .u8 95))),zzi 12 9 11,zm 2 12]
def k0cj:IC:=(.seq qb6d (.seq qb0r .ret))
@[go_sem] def s0cj:zzR:=[(.t 2,.id)]
theorem c0cj:cFun Tryz.prog 247=some (13,k0cj,s0cj):=by kernel_rfl

def qbrg:IC:=zr [zv 2 zf]
def qbxr:IC:=zr [zm 3 0,zv 4 (.bin .geq .no (.t 3) (.c (.int .u8 48))),zm 5 4,zw 5 true 6 (zo 0),zw 5 true 7 (.bin .leq .no (.t 6) (.c (.int .u8 57))),zzh 8 5 7,zm 2 8]
def k0cm:IC:=(.seq qbrg (.seq qbxr .ret))
@[go_sem] def s0cm:zzR:=[(.t 2,.id)]
theorem c0cm:cFun Tryz.prog 248=some (9,k0cm,s0cm):=by kernel_rfl

end Go.Proofs.YtkenggenkmfopaaGreat
