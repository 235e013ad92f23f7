/- Several texts, one behind the other. -/
import Derived.Test.YtmdmimkbpikmoaaGreatZAm9
import Derived.Test.YtmdmimkbpikmoaaGreatProg
import Derived.KernelRfl
import Derived.Deep.Slices
import Derived.ProofKit
import Derived.OpenShut
import GoSem.ClaimJoined
import Derived.DeepKeys
import Derived.WideKeyRuns
import Derived.MapKept
set_option linter.unusedSimpArgs false
set_option linter.unusedVariables false
set_option maxHeartbeats 8000000
namespace Go.Proofs.YtmdmimkbpikmoaaGreat
theorem om {P:Prop} (h:P:=by omega):P:=h
theorem kr {P:Prop} (h:P:=by kernel_rfl):P:=h
end Go.Proofs.YtmdmimkbpikmoaaGreat
namespace Go.Proofs.YtmdmimkbpikmoaaGreat.Ty
open Go.RowKit Go.Proofs.YtmdmimkbpikmoaaGreat.Am
theorem T3:ar Tryz.prog 1=some ⟨false,1,8,some (.nilFunc)⟩:=kr
theorem TY:ar Tryz.prog 2=some ⟨false,1,8,some (.int .i64 0)⟩:=kr
theorem Mo:ar Tryz.prog 3=some ⟨false,1,8,some (.int .i64 0)⟩:=kr
theorem TW:ar Tryz.prog 4=some ⟨false,1,1,some (.bool false)⟩:=kr
theorem Mq:ar Tryz.prog 5=some ⟨false,1,1,some (.int .u8 0)⟩:=kr
theorem Fu:ar Tryz.prog 9=some ⟨false,1,16,some (.string ⟨#[]⟩)⟩:=kr
theorem Rq:ar Tryz.prog 12=some ⟨false,1,8,some (.int .u64 0)⟩:=kr
theorem Tl:ar Tryz.prog 20=some ⟨false,1,16,some (.nilIface)⟩:=kr
theorem R9:ar Tryz.prog 21=some ⟨false,1,4,some (.int .i32 0)⟩:=kr
theorem RG:ar Tryz.prog 22=some ⟨false,1,24,some (.slice none 0 0)⟩:=kr
theorem SN:ar Tryz.prog 23=some ⟨false,1,24,some (.slice none 0 0)⟩:=kr
theorem Tg:ar Tryz.prog 24=some ⟨false,1,24,some (.slice none 0 0)⟩:=kr
theorem Sz:ar Tryz.prog 25=some ⟨false,1,24,some (.slice none 0 0)⟩:=kr
theorem Rp:ar Tryz.prog 26=some ⟨false,1,24,some (.slice none 0 0)⟩:=kr
theorem Tk:ar Tryz.prog 27=some ⟨true,7,152,some (.agg #[.string ⟨#[]⟩,.string ⟨#[]⟩,.slice none 0 0,.slice none 0 0,.slice none 0 0,.slice none 0 0,.slice none 0 0])⟩:=kr
theorem JK:aq Tryz.prog 27 0=some (0,9):=kr
theorem Lw:aq Tryz.prog 27 1=some (1,9):=kr
theorem Ls:aq Tryz.prog 27 2=some (2,22):=kr
theorem J2:aq Tryz.prog 27 3=some (3,23):=kr
theorem JX:aq Tryz.prog 27 4=some (4,24):=kr
theorem L8:aq Tryz.prog 27 5=some (5,25):=kr
theorem J0:aq Tryz.prog 27 6=some (6,26):=kr
theorem RA:placesOf Tryz.prog 27=some [(0,1),(1,1),(2,1),(3,1),(4,1),(5,1),(6,1)]:=kr
theorem R7:ar Tryz.prog 28=some ⟨true,7,152,some (.agg #[.string ⟨#[]⟩,.string ⟨#[]⟩,.slice none 0 0,.slice none 0 0,.slice none 0 0,.slice none 0 0,.slice none 0 0])⟩:=kr
theorem Kh:aq Tryz.prog 28 0=some (0,9):=kr
theorem LU:aq Tryz.prog 28 1=some (1,9):=kr
theorem Jv:aq Tryz.prog 28 2=some (2,22):=kr
theorem JM:aq Tryz.prog 28 3=some (3,23):=kr
theorem Mf:aq Tryz.prog 28 4=some (4,24):=kr
theorem LS:aq Tryz.prog 28 5=some (5,25):=kr
theorem JT:aq Tryz.prog 28 6=some (6,26):=kr
theorem SH:placesOf Tryz.prog 28=some [(0,1),(1,1),(2,1),(3,1),(4,1),(5,1),(6,1)]:=kr
theorem Tm:ar Tryz.prog 29=some ⟨false,1,8,some (.nilFunc)⟩:=kr
theorem SY:ar Tryz.prog 30=some ⟨false,1,8,some (.nilFunc)⟩:=kr
theorem Sb:ar Tryz.prog 31=some ⟨false,1,8,some (.nilFunc)⟩:=kr
theorem SE:ar Tryz.prog 32=some ⟨false,1,24,some (.slice none 0 0)⟩:=kr
theorem Ss:ar Tryz.prog 33=some ⟨true,3,40,some (.agg #[.int .i64 0,.int .i64 0,.slice none 0 0])⟩:=kr
theorem JW:aq Tryz.prog 33 0=some (0,3):=kr
theorem LG:aq Tryz.prog 33 1=some (1,3):=kr
theorem JS:aq Tryz.prog 33 2=some (2,32):=kr
theorem Sw:placesOf Tryz.prog 33=some [(0,1),(1,1),(2,1)]:=kr
theorem RP:ar Tryz.prog 34=some ⟨true,3,40,some (.agg #[.int .i64 0,.int .i64 0,.slice none 0 0])⟩:=kr
theorem JY:aq Tryz.prog 34 0=some (0,3):=kr
theorem L9:aq Tryz.prog 34 1=some (1,3):=kr
theorem JR:aq Tryz.prog 34 2=some (2,32):=kr
theorem Tq:placesOf Tryz.prog 34=some [(0,1),(1,1),(2,1)]:=kr
theorem Tr:ar Tryz.prog 35=some ⟨false,1,24,some (.slice none 0 0)⟩:=kr
theorem Rw:ar Tryz.prog 36=some ⟨false,1,24,some (.slice none 0 0)⟩:=kr
theorem Tn:ar Tryz.prog 37=some ⟨false,1,24,some (.slice none 0 0)⟩:=kr
theorem Sp:ar Tryz.prog 38=some ⟨false,1,24,some (.slice none 0 0)⟩:=kr
theorem Ta:ar Tryz.prog 39=some ⟨false,1,24,some (.slice none 0 0)⟩:=kr
theorem Sl:ar Tryz.prog 40=some ⟨true,3,72,some (.agg #[.slice none 0 0,.slice none 0 0,.slice none 0 0])⟩:=kr
theorem KL:aq Tryz.prog 40 0=some (0,37):=kr
theorem Kl:aq Tryz.prog 40 1=some (1,38):=kr
theorem KQ:aq Tryz.prog 40 2=some (2,39):=kr
theorem SG:placesOf Tryz.prog 40=some [(0,1),(1,1),(2,1)]:=kr
theorem SV:ar Tryz.prog 41=some ⟨true,3,72,some (.agg #[.slice none 0 0,.slice none 0 0,.slice none 0 0])⟩:=kr
theorem JH:aq Tryz.prog 41 0=some (0,37):=kr
theorem LD:aq Tryz.prog 41 1=some (1,38):=kr
theorem Lu:aq Tryz.prog 41 2=some (2,39):=kr
theorem Sx:placesOf Tryz.prog 41=some [(0,1),(1,1),(2,1)]:=kr
theorem RO:ar Tryz.prog 42=some ⟨true,15,312,some (.agg #[.string ⟨#[]⟩,.string ⟨#[]⟩,.slice none 0 0,.slice none 0 0,.slice none 0 0,.slice none 0 0,.slice none 0 0,.int .i64 0,.int .i64 0,.slice none 0 0,.slice none 0 0,.slice none 0 0,.slice none 0 0,.slice none 0 0,.slice none 0 0])⟩:=kr
theorem Km:aq Tryz.prog 42 0=some (0,28):=kr
theorem J5:aq Tryz.prog 42 1=some (7,34):=kr
theorem LN:aq Tryz.prog 42 2=some (10,35):=kr
theorem Ln:aq Tryz.prog 42 3=some (11,36):=kr
theorem Kr:aq Tryz.prog 42 4=some (12,41):=kr
theorem Th:placesOf Tryz.prog 42=some [(0,7),(7,3),(10,1),(11,1),(12,3)]:=kr
theorem R6:ar Tryz.prog 43=some ⟨true,15,312,some (.agg #[.string ⟨#[]⟩,.string ⟨#[]⟩,.slice none 0 0,.slice none 0 0,.slice none 0 0,.slice none 0 0,.slice none 0 0,.int .i64 0,.int .i64 0,.slice none 0 0,.slice none 0 0,.slice none 0 0,.slice none 0 0,.slice none 0 0,.slice none 0 0])⟩:=kr
theorem K9:aq Tryz.prog 43 0=some (0,28):=kr
theorem JB:aq Tryz.prog 43 1=some (7,34):=kr
theorem Lr:aq Tryz.prog 43 2=some (10,35):=kr
theorem Jz:aq Tryz.prog 43 3=some (11,36):=kr
theorem KM:aq Tryz.prog 43 4=some (12,41):=kr
theorem RL:placesOf Tryz.prog 43=some [(0,7),(7,3),(10,1),(11,1),(12,3)]:=kr
theorem RD:ar Tryz.prog 44=some ⟨false,1,8,some (.int .i64 0)⟩:=kr
theorem Rx:ar Tryz.prog 46=some ⟨false,1,8,some (.nilFunc)⟩:=kr
theorem R8:ar Tryz.prog 47=some ⟨false,1,8,some (.nilFunc)⟩:=kr
theorem Sd:ar Tryz.prog 48=some ⟨false,1,8,some (.nilFunc)⟩:=kr
theorem Ro:ar Tryz.prog 49=some ⟨false,1,24,some (.slice none 0 0)⟩:=kr
theorem Rg:ar Tryz.prog 50=some ⟨true,5,72,some (.agg #[.bool false,.string ⟨#[]⟩,.string ⟨#[]⟩,.bool false,.slice none 0 0])⟩:=kr
theorem KG:aq Tryz.prog 50 0=some (0,4):=kr
theorem KI:aq Tryz.prog 50 1=some (1,9):=kr
theorem JI:aq Tryz.prog 50 2=some (2,9):=kr
theorem JC:aq Tryz.prog 50 3=some (3,4):=kr
theorem JO:aq Tryz.prog 50 4=some (4,49):=kr
theorem S8:placesOf Tryz.prog 50=some [(0,1),(1,1),(2,1),(3,1),(4,1)]:=kr
theorem NU:ar Tryz.prog 51=some ⟨true,5,72,some (.agg #[.bool false,.string ⟨#[]⟩,.string ⟨#[]⟩,.bool false,.slice none 0 0])⟩:=kr
theorem LZ:aq Tryz.prog 51 0=some (0,4):=kr
theorem J9:aq Tryz.prog 51 1=some (1,9):=kr
theorem LJ:aq Tryz.prog 51 2=some (2,9):=kr
theorem KF:aq Tryz.prog 51 3=some (3,4):=kr
theorem JP:aq Tryz.prog 51 4=some (4,49):=kr
theorem SC:placesOf Tryz.prog 51=some [(0,1),(1,1),(2,1),(3,1),(4,1)]:=kr
theorem RV:ar Tryz.prog 52=some ⟨false,1,8,some (.int .u64 0)⟩:=kr
theorem Se:ar Tryz.prog 53=some ⟨true,4,32,some (.agg #[.int .u64 0,.int .u64 0,.int .u64 0,.int .u64 0])⟩:=kr
theorem NH:ar Tryz.prog 54=some ⟨true,4,32,some (.agg #[.int .u64 0,.int .u64 0,.int .u64 0,.int .u64 0])⟩:=kr
theorem S7:ar Tryz.prog 55=some ⟨true,8,88,some (.agg #[.int .i64 0,.string ⟨#[]⟩,.int .u64 0,.int .u64 0,.int .u64 0,.int .u64 0,.string ⟨#[]⟩,.string ⟨#[]⟩])⟩:=kr
theorem Jg:aq Tryz.prog 55 0=some (0,3):=kr
theorem Kn:aq Tryz.prog 55 1=some (1,9):=kr
theorem Lq:aq Tryz.prog 55 2=some (2,54):=kr
theorem Kd:aq Tryz.prog 55 3=some (6,9):=kr
theorem Jl:aq Tryz.prog 55 4=some (7,9):=kr
theorem SI:placesOf Tryz.prog 55=some [(0,1),(1,1),(2,4),(6,1),(7,1)]:=kr
theorem Cw:ar Tryz.prog 56=some ⟨true,8,88,some (.agg #[.int .i64 0,.string ⟨#[]⟩,.int .u64 0,.int .u64 0,.int .u64 0,.int .u64 0,.string ⟨#[]⟩,.string ⟨#[]⟩])⟩:=kr
theorem K7:aq Tryz.prog 56 0=some (0,3):=kr
theorem Lv:aq Tryz.prog 56 1=some (1,9):=kr
theorem Ki:aq Tryz.prog 56 2=some (2,54):=kr
theorem La:aq Tryz.prog 56 3=some (6,9):=kr
theorem Kx:aq Tryz.prog 56 4=some (7,9):=kr
theorem RX:placesOf Tryz.prog 56=some [(0,1),(1,1),(2,4),(6,1),(7,1)]:=kr
theorem Sa:ar Tryz.prog 57=some ⟨false,1,8,some (.nilFunc)⟩:=kr
theorem RF:ar Tryz.prog 58=some ⟨false,1,8,some (.nilFunc)⟩:=kr
theorem R5:ar Tryz.prog 59=some ⟨false,1,8,some (.nilFunc)⟩:=kr
theorem Rm:ar Tryz.prog 60=some ⟨false,1,8,some (.nilFunc)⟩:=kr
theorem SL:ar Tryz.prog 61=some ⟨false,1,24,some (.slice none 0 0)⟩:=kr
theorem Sr:ar Tryz.prog 62=some ⟨true,2,32,some (.agg #[.int .i64 0,.slice none 0 0])⟩:=kr
theorem KJ:aq Tryz.prog 62 0=some (0,3):=kr
theorem L7:aq Tryz.prog 62 1=some (1,61):=kr
theorem S5:placesOf Tryz.prog 62=some [(0,1),(1,1)]:=kr
theorem MW:ar Tryz.prog 63=some ⟨true,2,32,some (.agg #[.int .i64 0,.slice none 0 0])⟩:=kr
theorem Kf:aq Tryz.prog 63 0=some (0,3):=kr
theorem LB:aq Tryz.prog 63 1=some (1,61):=kr
theorem Sk:placesOf Tryz.prog 63=some [(0,1),(1,1)]:=kr
theorem Rj:ar Tryz.prog 64=some ⟨true,5,40,some (.agg #[.int .i64 0,.int .u64 0,.int .u64 0,.int .u64 0,.int .u64 0])⟩:=kr
theorem LY:aq Tryz.prog 64 0=some (0,3):=kr
theorem Kv:aq Tryz.prog 64 1=some (1,54):=kr
theorem Rn:placesOf Tryz.prog 64=some [(0,1),(1,4)]:=kr
theorem vW:ar Tryz.prog 65=some ⟨true,5,40,some (.agg #[.int .i64 0,.int .u64 0,.int .u64 0,.int .u64 0,.int .u64 0])⟩:=kr
theorem Kz:aq Tryz.prog 65 0=some (0,3):=kr
theorem Kq:aq Tryz.prog 65 1=some (1,54):=kr
theorem Ri:placesOf Tryz.prog 65=some [(0,1),(1,4)]:=kr
theorem Rf:ar Tryz.prog 66=some ⟨true,4,48,some (.agg #[.int .i64 0,.int .i64 0,.int .i64 0,.slice none 0 0])⟩:=kr
theorem Ll:aq Tryz.prog 66 0=some (0,3):=kr
theorem Lf:aq Tryz.prog 66 1=some (1,3):=kr
theorem J1:aq Tryz.prog 66 2=some (2,3):=kr
theorem JZ:aq Tryz.prog 66 3=some (3,39):=kr
theorem RR:placesOf Tryz.prog 66=some [(0,1),(1,1),(2,1),(3,1)]:=kr
theorem QZ:ar Tryz.prog 67=some ⟨true,4,48,some (.agg #[.int .i64 0,.int .i64 0,.int .i64 0,.slice none 0 0])⟩:=kr
theorem Jk:aq Tryz.prog 67 0=some (0,3):=kr
theorem LK:aq Tryz.prog 67 1=some (1,3):=kr
theorem KE:aq Tryz.prog 67 2=some (2,3):=kr
theorem Kj:aq Tryz.prog 67 3=some (3,39):=kr
theorem Ti:placesOf Tryz.prog 67=some [(0,1),(1,1),(2,1),(3,1)]:=kr
theorem RW:ar Tryz.prog 68=some ⟨false,1,8,some (.nilFunc)⟩:=kr
theorem Rh:ar Tryz.prog 69=some ⟨true,3,24,some (.agg #[.int .i64 0,.int .i64 0,.int .i64 0])⟩:=kr
theorem Kw:aq Tryz.prog 69 0=some (0,3):=kr
theorem KS:aq Tryz.prog 69 1=some (1,3):=kr
theorem J6:aq Tryz.prog 69 2=some (2,3):=kr
theorem RU:placesOf Tryz.prog 69=some [(0,1),(1,1),(2,1)]:=kr
theorem J7:ar Tryz.prog 70=some ⟨true,3,24,some (.agg #[.int .i64 0,.int .i64 0,.int .i64 0])⟩:=kr
theorem IU:aq Tryz.prog 70 0=some (0,3):=kr
theorem JU:aq Tryz.prog 70 1=some (1,3):=kr
theorem Jp:aq Tryz.prog 70 2=some (2,3):=kr
theorem To:placesOf Tryz.prog 70=some [(0,1),(1,1),(2,1)]:=kr
theorem Sj:ar Tryz.prog 71=some ⟨false,1,8,some (.nilFunc)⟩:=kr
theorem Ru:ar Tryz.prog 72=some ⟨false,1,8,some (.nilFunc)⟩:=kr
theorem RJ:ar Tryz.prog 73=some ⟨false,1,8,some (.nilFunc)⟩:=kr
theorem SD:ar Tryz.prog 74=some ⟨false,1,24,some (.slice none 0 0)⟩:=kr
theorem Rv:ar Tryz.prog 76=some ⟨false,1,8,some (.nilFunc)⟩:=kr
theorem Sv:ar Tryz.prog 78=some ⟨false,1,8,some (.nilFunc)⟩:=kr
theorem Sf:ar Tryz.prog 79=some ⟨false,1,8,some (.nilFunc)⟩:=kr
theorem Pc:ar Tryz.prog 80=some ⟨false,1,24,some (.slice none 0 0)⟩:=kr
theorem RK:ar Tryz.prog 81=some ⟨true,2,32,some (.agg #[.int .i64 0,.slice none 0 0])⟩:=kr
theorem L5:aq Tryz.prog 81 0=some (0,3):=kr
theorem LW:aq Tryz.prog 81 1=some (1,36):=kr
theorem Si:placesOf Tryz.prog 81=some [(0,1),(1,1)]:=kr
theorem P1:ar Tryz.prog 82=some ⟨true,2,32,some (.agg #[.int .i64 0,.slice none 0 0])⟩:=kr
theorem Ks:aq Tryz.prog 82 0=some (0,3):=kr
theorem JJ:aq Tryz.prog 82 1=some (1,36):=kr
theorem SX:placesOf Tryz.prog 82=some [(0,1),(1,1)]:=kr
theorem Td:ar Tryz.prog 83=some ⟨false,1,24,some (.slice none 0 0)⟩:=kr
theorem RE:ar Tryz.prog 84=some ⟨true,2,40,some (.agg #[.string ⟨#[]⟩,.slice none 0 0])⟩:=kr
theorem IV:aq Tryz.prog 84 0=some (0,9):=kr
theorem Lk:aq Tryz.prog 84 1=some (1,83):=kr
theorem Sy:placesOf Tryz.prog 84=some [(0,1),(1,1)]:=kr
theorem MA:ar Tryz.prog 85=some ⟨true,2,40,some (.agg #[.string ⟨#[]⟩,.slice none 0 0])⟩:=kr
theorem KV:aq Tryz.prog 85 0=some (0,9):=kr
theorem Jf:aq Tryz.prog 85 1=some (1,83):=kr
theorem Rz:placesOf Tryz.prog 85=some [(0,1),(1,1)]:=kr
theorem Tp:ar Tryz.prog 86=some ⟨false,1,8,some (.nilFunc)⟩:=kr
theorem Sq:ar Tryz.prog 88=some ⟨false,1,8,some (.nilFunc)⟩:=kr
theorem Rr:ar Tryz.prog 89=some ⟨false,1,8,some (.pointer none)⟩:=kr
theorem Rs:ar Tryz.prog 90=some ⟨false,1,8,some (.map none)⟩:=kr
theorem Tc:ar Tryz.prog 91=some ⟨false,1,8,some (.map none)⟩:=kr
theorem SO:ar Tryz.prog 92=some ⟨false,1,24,some (.slice none 0 0)⟩:=kr
theorem Tf:ar Tryz.prog 93=some ⟨true,19,360,some (.agg #[.string ⟨#[]⟩,.string ⟨#[]⟩,.slice none 0 0,.slice none 0 0,.slice none 0 0,.slice none 0 0,.slice none 0 0,.int .i64 0,.int .i64 0,.slice none 0 0,.slice none 0 0,.slice none 0 0,.slice none 0 0,.slice none 0 0,.slice none 0 0,.map none,.map none,.slice none 0 0,.int .i64 0])⟩:=kr
theorem Jq:aq Tryz.prog 93 0=some (0,43):=kr
theorem Lj:aq Tryz.prog 93 1=some (15,90):=kr
theorem LA:aq Tryz.prog 93 2=some (16,91):=kr
theorem Kc:aq Tryz.prog 93 3=some (17,92):=kr
theorem I5:aq Tryz.prog 93 4=some (18,3):=kr
theorem SA:placesOf Tryz.prog 93=some [(0,15),(15,1),(16,1),(17,1),(18,1)]:=kr
theorem Sm:ar Tryz.prog 94=some ⟨true,19,360,some (.agg #[.string ⟨#[]⟩,.string ⟨#[]⟩,.slice none 0 0,.slice none 0 0,.slice none 0 0,.slice none 0 0,.slice none 0 0,.int .i64 0,.int .i64 0,.slice none 0 0,.slice none 0 0,.slice none 0 0,.slice none 0 0,.slice none 0 0,.slice none 0 0,.map none,.map none,.slice none 0 0,.int .i64 0])⟩:=kr
theorem Lg:aq Tryz.prog 94 0=some (0,43):=kr
theorem Lp:aq Tryz.prog 94 1=some (15,90):=kr
theorem Jj:aq Tryz.prog 94 2=some (16,91):=kr
theorem Jb:aq Tryz.prog 94 3=some (17,92):=kr
theorem KT:aq Tryz.prog 94 4=some (18,3):=kr
theorem RB:placesOf Tryz.prog 94=some [(0,15),(15,1),(16,1),(17,1),(18,1)]:=kr
theorem RC:ar Tryz.prog 95=some ⟨false,1,8,some (.pointer none)⟩:=kr
theorem SQ:ar Tryz.prog 96=some ⟨false,1,8,some (.nilFunc)⟩:=kr
theorem Tj:ar Tryz.prog 97=some ⟨false,1,24,some (.slice none 0 0)⟩:=kr
theorem RZ:ar Tryz.prog 98=some ⟨false,1,8,some (.nilFunc)⟩:=kr
theorem SU:ar Tryz.prog 99=some ⟨true,10,208,some (.agg #[.string ⟨#[]⟩,.string ⟨#[]⟩,.slice none 0 0,.slice none 0 0,.slice none 0 0,.slice none 0 0,.slice none 0 0,.slice none 0 0,.slice none 0 0,.int .i64 0])⟩:=kr
theorem IY:aq Tryz.prog 99 0=some (0,28):=kr
theorem Jt:aq Tryz.prog 99 1=some (7,36):=kr
theorem J8:aq Tryz.prog 99 2=some (8,97):=kr
theorem Ma:aq Tryz.prog 99 3=some (9,3):=kr
theorem Su:placesOf Tryz.prog 99=some [(0,7),(7,1),(8,1),(9,1)]:=kr
theorem MC:ar Tryz.prog 100=some ⟨true,10,208,some (.agg #[.string ⟨#[]⟩,.string ⟨#[]⟩,.slice none 0 0,.slice none 0 0,.slice none 0 0,.slice none 0 0,.slice none 0 0,.slice none 0 0,.slice none 0 0,.int .i64 0])⟩:=kr
theorem Ie:aq Tryz.prog 100 0=some (0,28):=kr
theorem HO:aq Tryz.prog 100 1=some (7,36):=kr
theorem H5:aq Tryz.prog 100 2=some (8,97):=kr
theorem GG:aq Tryz.prog 100 3=some (9,3):=kr
theorem NQ:placesOf Tryz.prog 100=some [(0,7),(7,1),(8,1),(9,1)]:=kr
theorem OJ:ar Tryz.prog 101=some ⟨false,1,8,some (.nilFunc)⟩:=kr
theorem N9:ar Tryz.prog 102=some ⟨true,7,72,some (.agg #[.bool false,.string ⟨#[]⟩,.int .u64 0,.int .u64 0,.int .u64 0,.int .u64 0,.string ⟨#[]⟩])⟩:=kr
theorem GH:aq Tryz.prog 102 0=some (0,4):=kr
theorem GM:aq Tryz.prog 102 1=some (1,9):=kr
theorem Hh:aq Tryz.prog 102 2=some (2,54):=kr
theorem H6:aq Tryz.prog 102 3=some (6,9):=kr
theorem O6:placesOf Tryz.prog 102=some [(0,1),(1,1),(2,4),(6,1)]:=kr
theorem O9:ar Tryz.prog 103=some ⟨true,7,72,some (.agg #[.bool false,.string ⟨#[]⟩,.int .u64 0,.int .u64 0,.int .u64 0,.int .u64 0,.string ⟨#[]⟩])⟩:=kr
theorem Gk:aq Tryz.prog 103 0=some (0,4):=kr
theorem Ge:aq Tryz.prog 103 1=some (1,9):=kr
theorem HJ:aq Tryz.prog 103 2=some (2,54):=kr
theorem FF:aq Tryz.prog 103 3=some (6,9):=kr
theorem P7:placesOf Tryz.prog 103=some [(0,1),(1,1),(2,4),(6,1)]:=kr
theorem Nu:ar Tryz.prog 104=some ⟨false,1,8,some (.nilFunc)⟩:=kr
theorem QH:ar Tryz.prog 105=some ⟨false,1,8,some (.pointer none)⟩:=kr
theorem Q3:ar Tryz.prog 106=some ⟨false,1,8,some (.nilFunc)⟩:=kr
theorem Oc:ar Tryz.prog 107=some ⟨false,1,8,some (.nilFunc)⟩:=kr
theorem PR:ar Tryz.prog 108=some ⟨false,1,8,some (.nilFunc)⟩:=kr
theorem Nh:ar Tryz.prog 109=some ⟨false,1,8,some (.nilFunc)⟩:=kr
theorem OO:ar Tryz.prog 110=some ⟨false,1,8,some (.nilFunc)⟩:=kr
theorem Oe:ar Tryz.prog 111=some ⟨true,5,48,some (.agg #[.string ⟨#[]⟩,.int .u64 0,.int .u64 0,.int .u64 0,.int .u64 0])⟩:=kr
theorem GO:aq Tryz.prog 111 0=some (0,9):=kr
theorem Gb:aq Tryz.prog 111 1=some (1,54):=kr
theorem Of:placesOf Tryz.prog 111=some [(0,1),(1,4)]:=kr
theorem IJ:ar Tryz.prog 112=some ⟨true,5,48,some (.agg #[.string ⟨#[]⟩,.int .u64 0,.int .u64 0,.int .u64 0,.int .u64 0])⟩:=kr
theorem G0:aq Tryz.prog 112 0=some (0,9):=kr
theorem HG:aq Tryz.prog 112 1=some (1,54):=kr
theorem PL:placesOf Tryz.prog 112=some [(0,1),(1,4)]:=kr
theorem Qd:ar Tryz.prog 113=some ⟨true,2,32,some (.agg #[.string ⟨#[]⟩,.string ⟨#[]⟩])⟩:=kr
theorem GD:aq Tryz.prog 113 0=some (0,9):=kr
theorem Ig:aq Tryz.prog 113 1=some (1,9):=kr
theorem MY:placesOf Tryz.prog 113=some [(0,1),(1,1)]:=kr
theorem IG:ar Tryz.prog 114=some ⟨true,2,32,some (.agg #[.string ⟨#[]⟩,.string ⟨#[]⟩])⟩:=kr
theorem F5:aq Tryz.prog 114 0=some (0,9):=kr
theorem HS:aq Tryz.prog 114 1=some (1,9):=kr
theorem Nr:placesOf Tryz.prog 114=some [(0,1),(1,1)]:=kr
theorem Ol:ar Tryz.prog 115=some ⟨false,1,8,some (.nilFunc)⟩:=kr
theorem NK:ar Tryz.prog 116=some ⟨false,1,8,some (.nilFunc)⟩:=kr
theorem OC:ar Tryz.prog 117=some ⟨false,1,8,some (.nilFunc)⟩:=kr
theorem ME:ar Tryz.prog 118=some ⟨false,1,8,some (.nilFunc)⟩:=kr
theorem Qt:ar Tryz.prog 119=some ⟨false,1,8,some (.nilFunc)⟩:=kr
theorem Qk:ar Tryz.prog 120=some ⟨false,1,8,some (.nilFunc)⟩:=kr
theorem ML:ar Tryz.prog 121=some ⟨false,1,8,some (.nilFunc)⟩:=kr
theorem OT:ar Tryz.prog 122=some ⟨false,1,8,some (.nilFunc)⟩:=kr
theorem Ns:ar Tryz.prog 124=some ⟨false,1,8,some (.nilFunc)⟩:=kr
theorem OL:ar Tryz.prog 125=some ⟨false,1,8,some (.nilFunc)⟩:=kr
theorem P8:ar Tryz.prog 127=some ⟨false,1,8,some (.nilFunc)⟩:=kr
theorem O3:ar Tryz.prog 128=some ⟨false,1,8,some (.nilFunc)⟩:=kr
theorem Q1:ar Tryz.prog 129=some ⟨false,1,8,some (.nilFunc)⟩:=kr
theorem O2:ar Tryz.prog 130=some ⟨false,1,8,some (.nilFunc)⟩:=kr
theorem Mw:ar Tryz.prog 131=some ⟨false,1,8,some (.nilFunc)⟩:=kr
theorem Ni:ar Tryz.prog 132=some ⟨false,1,24,some (.slice none 0 0)⟩:=kr
theorem QY:ar Tryz.prog 133=some ⟨false,1,8,some (.nilFunc)⟩:=kr
theorem QV:ar Tryz.prog 134=some ⟨false,1,8,some (.nilFunc)⟩:=kr
theorem Ot:ar Tryz.prog 135=some ⟨true,4,56,some (.agg #[.int .i64 0,.string ⟨#[]⟩,.int .i64 0,.slice none 0 0])⟩:=kr
theorem G7:aq Tryz.prog 135 0=some (0,3):=kr
theorem HL:aq Tryz.prog 135 1=some (1,9):=kr
theorem FE:aq Tryz.prog 135 2=some (2,3):=kr
theorem GN:aq Tryz.prog 135 3=some (3,83):=kr
theorem P9:placesOf Tryz.prog 135=some [(0,1),(1,1),(2,1),(3,1)]:=kr
theorem Ix:ar Tryz.prog 136=some ⟨true,4,56,some (.agg #[.int .i64 0,.string ⟨#[]⟩,.int .i64 0,.slice none 0 0])⟩:=kr
theorem Gv:aq Tryz.prog 136 0=some (0,3):=kr
theorem H9:aq Tryz.prog 136 1=some (1,9):=kr
theorem Hq:aq Tryz.prog 136 2=some (2,3):=kr
theorem Hg:aq Tryz.prog 136 3=some (3,83):=kr
theorem Oa:placesOf Tryz.prog 136=some [(0,1),(1,1),(2,1),(3,1)]:=kr
theorem Qf:ar Tryz.prog 137=some ⟨false,1,8,some (.pointer none)⟩:=kr
theorem MM:ar Tryz.prog 138=some ⟨false,1,8,some (.nilFunc)⟩:=kr
theorem PP:ar Tryz.prog 139=some ⟨false,1,8,some (.nilFunc)⟩:=kr
theorem NW:ar Tryz.prog 140=some ⟨false,1,8,some (.nilFunc)⟩:=kr
theorem Qs:ar Tryz.prog 141=some ⟨false,1,8,some (.nilFunc)⟩:=kr
theorem MV:ar Tryz.prog 142=some ⟨false,1,8,some (.nilFunc)⟩:=kr
theorem QX:ar Tryz.prog 143=some ⟨false,1,24,some (.slice none 0 0)⟩:=kr
theorem Mx:ar Tryz.prog 144=some ⟨false,1,8,some (.nilFunc)⟩:=kr
theorem OM:ar Tryz.prog 145=some ⟨false,1,8,some (.nilFunc)⟩:=kr
theorem Qx:ar Tryz.prog 146=some ⟨false,1,8,some (.nilFunc)⟩:=kr
theorem M4:ar Tryz.prog 147=some ⟨false,1,8,some (.nilFunc)⟩:=kr
theorem PQ:ar Tryz.prog 148=some ⟨false,1,8,some (.nilFunc)⟩:=kr
theorem Ql:ar Tryz.prog 149=some ⟨false,1,8,some (.nilFunc)⟩:=kr
theorem Np:ar Tryz.prog 150=some ⟨false,1,8,some (.nilFunc)⟩:=kr
theorem Pm:ar Tryz.prog 151=some ⟨false,1,8,some (.nilFunc)⟩:=kr
theorem Qp:ar Tryz.prog 152=some ⟨false,1,8,some (.nilFunc)⟩:=kr
theorem Oh:ar Tryz.prog 153=some ⟨true,7,72,some (.agg #[.bool false,.string ⟨#[]⟩,.int .u64 0,.int .u64 0,.int .u64 0,.int .u64 0,.string ⟨#[]⟩])⟩:=kr
theorem Gi:aq Tryz.prog 153 0=some (0,4):=kr
theorem Hc:aq Tryz.prog 153 1=some (1,9):=kr
theorem GF:aq Tryz.prog 153 2=some (2,54):=kr
theorem HE:aq Tryz.prog 153 3=some (6,9):=kr
theorem PT:placesOf Tryz.prog 153=some [(0,1),(1,1),(2,4),(6,1)]:=kr
theorem IK:ar Tryz.prog 154=some ⟨true,7,72,some (.agg #[.bool false,.string ⟨#[]⟩,.int .u64 0,.int .u64 0,.int .u64 0,.int .u64 0,.string ⟨#[]⟩])⟩:=kr
theorem Iq:aq Tryz.prog 154 0=some (0,4):=kr
theorem Gq:aq Tryz.prog 154 1=some (1,9):=kr
theorem Gn:aq Tryz.prog 154 2=some (2,54):=kr
theorem H8:aq Tryz.prog 154 3=some (6,9):=kr
theorem Qa:placesOf Tryz.prog 154=some [(0,1),(1,1),(2,4),(6,1)]:=kr
theorem NX:ar Tryz.prog 155=some ⟨false,1,8,some (.nilFunc)⟩:=kr
theorem Ox:ar Tryz.prog 157=some ⟨false,1,8,some (.nilFunc)⟩:=kr
theorem Qy:ar Tryz.prog 158=some ⟨false,1,8,some (.nilFunc)⟩:=kr
theorem PZ:ar Tryz.prog 159=some ⟨false,1,8,some (.nilFunc)⟩:=kr
theorem Ng:ar Tryz.prog 160=some ⟨false,1,8,some (.nilFunc)⟩:=kr
theorem PM:ar Tryz.prog 161=some ⟨false,1,8,some (.nilFunc)⟩:=kr
theorem QB:ar Tryz.prog 162=some ⟨false,1,8,some (.nilFunc)⟩:=kr
theorem Nt:ar Tryz.prog 163=some ⟨false,1,8,some (.nilFunc)⟩:=kr
theorem QE:ar Tryz.prog 164=some ⟨false,1,8,some (.pointer none)⟩:=kr
theorem QM:ar Tryz.prog 165=some ⟨false,1,8,some (.map none)⟩:=kr
theorem Oj:ar Tryz.prog 166=some ⟨false,1,8,some (.nilFunc)⟩:=kr
theorem MG:ar Tryz.prog 167=some ⟨false,1,8,some (.nilFunc)⟩:=kr
theorem OG:ar Tryz.prog 168=some ⟨false,1,8,some (.nilFunc)⟩:=kr
theorem Ph:ar Tryz.prog 169=some ⟨false,1,8,some (.nilFunc)⟩:=kr
theorem NJ:ar Tryz.prog 170=some ⟨false,1,24,some (.slice none 0 0)⟩:=kr
theorem Nk:ar Tryz.prog 172=some ⟨false,1,8,some (.nilFunc)⟩:=kr
theorem Pu:ar Tryz.prog 173=some ⟨false,1,8,some (.nilFunc)⟩:=kr
theorem N0:ar Tryz.prog 174=some ⟨false,1,8,some (.nilFunc)⟩:=kr
theorem QR:ar Tryz.prog 175=some ⟨false,1,8,some (.nilFunc)⟩:=kr
theorem PS:ar Tryz.prog 176=some ⟨false,1,8,some (.nilFunc)⟩:=kr
theorem QD:ar Tryz.prog 177=some ⟨false,1,8,some (.nilFunc)⟩:=kr
theorem MD:ar Tryz.prog 178=some ⟨false,1,24,some (.slice none 0 0)⟩:=kr
theorem QK:ar Tryz.prog 180=some ⟨false,1,8,some (.nilFunc)⟩:=kr
theorem Qu:ar Tryz.prog 181=some ⟨false,1,8,some (.nilFunc)⟩:=kr
theorem PF:ar Tryz.prog 182=some ⟨false,1,8,some (.nilFunc)⟩:=kr
theorem Pe:ar Tryz.prog 183=some ⟨false,1,8,some (.nilFunc)⟩:=kr
theorem Qq:ar Tryz.prog 184=some ⟨false,1,8,some (.nilFunc)⟩:=kr
theorem Pw:ar Tryz.prog 185=some ⟨false,1,8,some (.nilFunc)⟩:=kr
theorem MX:ar Tryz.prog 186=some ⟨false,1,8,some (.nilFunc)⟩:=kr
theorem PN:ar Tryz.prog 187=some ⟨false,1,8,some (.nilFunc)⟩:=kr
theorem Na:ar Tryz.prog 188=some ⟨false,1,8,some (.nilFunc)⟩:=kr
theorem O0:ar Tryz.prog 189=some ⟨true,9,184,some (.agg #[.string ⟨#[]⟩,.string ⟨#[]⟩,.slice none 0 0,.slice none 0 0,.slice none 0 0,.slice none 0 0,.slice none 0 0,.slice none 0 0,.map none])⟩:=kr
theorem HD:aq Tryz.prog 189 0=some (0,28):=kr
theorem FU:aq Tryz.prog 189 1=some (7,36):=kr
theorem FQ:aq Tryz.prog 189 2=some (8,90):=kr
theorem Q2:placesOf Tryz.prog 189=some [(0,7),(7,1),(8,1)]:=kr
theorem PH:ar Tryz.prog 190=some ⟨true,9,184,some (.agg #[.string ⟨#[]⟩,.string ⟨#[]⟩,.slice none 0 0,.slice none 0 0,.slice none 0 0,.slice none 0 0,.slice none 0 0,.slice none 0 0,.map none])⟩:=kr
theorem Ik:aq Tryz.prog 190 0=some (0,28):=kr
theorem GU:aq Tryz.prog 190 1=some (7,36):=kr
theorem FB:aq Tryz.prog 190 2=some (8,90):=kr
theorem PX:placesOf Tryz.prog 190=some [(0,7),(7,1),(8,1)]:=kr
theorem OQ:ar Tryz.prog 191=some ⟨false,1,8,some (.nilFunc)⟩:=kr
theorem NR:ar Tryz.prog 192=some ⟨false,1,8,some (.nilFunc)⟩:=kr
theorem Od:ar Tryz.prog 193=some ⟨false,1,8,some (.nilFunc)⟩:=kr
theorem OP:ar Tryz.prog 194=some ⟨false,1,8,some (.nilFunc)⟩:=kr
theorem Nx:ar Tryz.prog 195=some ⟨false,1,8,some (.nilFunc)⟩:=kr
theorem Nl:ar Tryz.prog 196=some ⟨false,1,8,some (.pointer none)⟩:=kr
theorem Pj:ar Tryz.prog 197=some ⟨false,1,8,some (.pointer none)⟩:=kr
theorem N8:ar Tryz.prog 198=some ⟨false,1,8,some (.int .u64 0)⟩:=kr
theorem QN:ar Tryz.prog 199=some ⟨false,1,8,some (.nilFunc)⟩:=kr
theorem OF:ar Tryz.prog 200=some ⟨false,1,8,some (.nilFunc)⟩:=kr
theorem P4:ar Tryz.prog 201=some ⟨false,1,8,some (.map none)⟩:=kr
theorem P5:ar Tryz.prog 202=some ⟨true,2,16,some (.agg #[.int .i64 0,.int .i64 0])⟩:=kr
theorem HH:aq Tryz.prog 202 0=some (0,3):=kr
theorem Gz:aq Tryz.prog 202 1=some (1,3):=kr
theorem Nn:placesOf Tryz.prog 202=some [(0,1),(1,1)]:=kr
theorem MH:ar Tryz.prog 203=some ⟨true,2,16,some (.agg #[.int .i64 0,.int .i64 0])⟩:=kr
theorem HA:aq Tryz.prog 203 0=some (0,3):=kr
theorem G9:aq Tryz.prog 203 1=some (1,3):=kr
theorem O5:placesOf Tryz.prog 203=some [(0,1),(1,1)]:=kr
theorem OU:ar Tryz.prog 204=some ⟨false,1,8,some (.nilFunc)⟩:=kr
theorem OZ:ar Tryz.prog 205=some ⟨false,1,8,some (.nilFunc)⟩:=kr
theorem Oz:ar Tryz.prog 206=some ⟨false,1,8,some (.nilFunc)⟩:=kr
theorem OY:ar Tryz.prog 207=some ⟨false,1,8,some (.nilFunc)⟩:=kr
theorem MQ:ar Tryz.prog 208=some ⟨false,1,8,some (.nilFunc)⟩:=kr
theorem O8:ar Tryz.prog 209=some ⟨false,1,8,some (.nilFunc)⟩:=kr
theorem PO:ar Tryz.prog 210=some ⟨false,1,24,some (.slice none 0 0)⟩:=kr
theorem Nv:ar Tryz.prog 211=some ⟨false,1,8,some (.nilFunc)⟩:=kr
theorem Ov:ar Tryz.prog 212=some ⟨false,1,8,some (.nilFunc)⟩:=kr
theorem Pb:ar Tryz.prog 213=some ⟨true,2,16,some (.agg #[.int .i64 0,.int .i64 0])⟩:=kr
theorem G6:aq Tryz.prog 213 0=some (0,3):=kr
theorem Hp:aq Tryz.prog 213 1=some (1,3):=kr
theorem PV:placesOf Tryz.prog 213=some [(0,1),(1,1)]:=kr
theorem QS:ar Tryz.prog 214=some ⟨true,2,16,some (.agg #[.int .i64 0,.int .i64 0])⟩:=kr
theorem GB:aq Tryz.prog 214 0=some (0,3):=kr
theorem Fx:aq Tryz.prog 214 1=some (1,3):=kr
theorem Qm:placesOf Tryz.prog 214=some [(0,1),(1,1)]:=kr
theorem QI:ar Tryz.prog 215=some ⟨false,1,8,some (.nilFunc)⟩:=kr
theorem Nq:ar Tryz.prog 216=some ⟨false,1,8,some (.nilFunc)⟩:=kr
theorem QU:ar Tryz.prog 217=some ⟨false,1,8,some (.nilFunc)⟩:=kr
theorem P6:ar Tryz.prog 218=some ⟨false,1,8,some (.nilFunc)⟩:=kr
theorem PG:ar Tryz.prog 219=some ⟨false,1,8,some (.nilFunc)⟩:=kr
theorem Oy:ar Tryz.prog 220=some ⟨false,1,8,some (.nilFunc)⟩:=kr
theorem OE:ar Tryz.prog 221=some ⟨false,1,8,some (.nilFunc)⟩:=kr
theorem P0:ar Tryz.prog 222=some ⟨false,1,8,some (.nilFunc)⟩:=kr
theorem Pt:ar Tryz.prog 223=some ⟨false,1,8,some (.nilFunc)⟩:=kr
theorem NA:ar Tryz.prog 224=some ⟨false,1,8,some (.nilFunc)⟩:=kr
theorem Oq:ar Tryz.prog 225=some ⟨false,1,8,some (.nilFunc)⟩:=kr
theorem Pd:ar Tryz.prog 226=some ⟨false,1,8,some (.pointer none)⟩:=kr
theorem Og:ar Tryz.prog 227=some ⟨true,2,32,some (.agg #[.pointer none,.slice none 0 0])⟩:=kr
theorem FM:aq Tryz.prog 227 0=some (0,226):=kr
theorem If:aq Tryz.prog 227 1=some (1,178):=kr
theorem Oo:placesOf Tryz.prog 227=some [(0,1),(1,1)]:=kr
theorem OV:ar Tryz.prog 228=some ⟨true,2,32,some (.agg #[.pointer none,.slice none 0 0])⟩:=kr
theorem Ht:aq Tryz.prog 228 0=some (0,226):=kr
theorem Gx:aq Tryz.prog 228 1=some (1,178):=kr
theorem Pp:placesOf Tryz.prog 228=some [(0,1),(1,1)]:=kr
theorem PB:ar Tryz.prog 229=some ⟨false,1,16,some (.nilIface)⟩:=kr
theorem Qz:ar Tryz.prog 230=some ⟨false,1,16,some (.nilIface)⟩:=kr
theorem Qo:ar Tryz.prog 231=some ⟨false,1,8,some (.nilFunc)⟩:=kr
theorem Qj:ar Tryz.prog 233=some ⟨false,1,8,some (.nilFunc)⟩:=kr
theorem NM:ar Tryz.prog 234=some ⟨false,1,8,some (.nilFunc)⟩:=kr
theorem QP:ar Tryz.prog 235=some ⟨false,1,8,some (.nilFunc)⟩:=kr
theorem NI:ar Tryz.prog 236=some ⟨false,1,8,some (.int .i64 0)⟩:=kr
theorem Nw:ar Tryz.prog 238=some ⟨false,1,8,some (.nilFunc)⟩:=kr
theorem OA:ar Tryz.prog 239=some ⟨false,1,8,some (.nilFunc)⟩:=kr
theorem M7:ar Tryz.prog 240=some ⟨false,1,8,some (.nilFunc)⟩:=kr
theorem MP:ar Tryz.prog 241=some ⟨false,1,8,some (.nilFunc)⟩:=kr
theorem Nf:ar Tryz.prog 242=some ⟨false,1,8,some (.nilFunc)⟩:=kr
theorem Pn:ar Tryz.prog 243=some ⟨false,1,4,some (.int .u32 0)⟩:=kr
theorem Mz:ar Tryz.prog 244=some ⟨false,1,8,some (.nilFunc)⟩:=kr
theorem Pv:ar Tryz.prog 245=some ⟨false,1,8,some (.nilFunc)⟩:=kr
theorem QG:ar Tryz.prog 246=some ⟨false,1,8,some (.nilFunc)⟩:=kr
theorem NE:ar Tryz.prog 247=some ⟨false,1,8,some (.nilFunc)⟩:=kr
theorem M0:ar Tryz.prog 248=some ⟨false,1,8,some (.nilFunc)⟩:=kr
theorem ON:ar Tryz.prog 249=some ⟨false,1,8,some (.nilFunc)⟩:=kr
theorem Nc:ar Tryz.prog 251=some ⟨false,1,8,some (.nilFunc)⟩:=kr
theorem Ps:ar Tryz.prog 252=some ⟨false,1,8,some (.nilFunc)⟩:=kr
theorem OK:ar Tryz.prog 253=some ⟨false,1,8,some (.nilFunc)⟩:=kr
theorem NC:ar Tryz.prog 254=some ⟨false,1,8,some (.nilFunc)⟩:=kr
theorem Nj:ar Tryz.prog 255=some ⟨false,1,8,some (.pointer none)⟩:=kr
theorem Ob:ar Tryz.prog 256=some ⟨false,1,8,some (.int .u64 0)⟩:=kr
theorem PU:ar Tryz.prog 257=some ⟨false,1,8,some (.nilFunc)⟩:=kr
theorem Qb:ar Tryz.prog 258=some ⟨false,1,8,some (.nilFunc)⟩:=kr
theorem Oi:ar Tryz.prog 259=some ⟨false,1,8,some (.nilFunc)⟩:=kr
theorem Po:ar Tryz.prog 260=some ⟨false,1,8,some (.nilFunc)⟩:=kr
theorem Qc:ar Tryz.prog 261=some ⟨false,1,8,some (.nilFunc)⟩:=kr
theorem NB:ar Tryz.prog 262=some ⟨false,1,8,some (.nilFunc)⟩:=kr
theorem Pa:ar Tryz.prog 265=some ⟨false,1,8,some (.pointer none)⟩:=kr
theorem OD:ar Tryz.prog 266=some ⟨false,1,8,some (.nilFunc)⟩:=kr
theorem NY:ar Tryz.prog 272=some ⟨false,1,8,some (.nilFunc)⟩:=kr
theorem mixed:Tryz.prog.follows .mixedOrders=true:=kr
attribute [push_cast] T3 TY Mo TW Mq Fu Rq Tl R9 RG SN Tg Sz Rp Tk R7 Tm SY Sb SE Ss RP Tr Rw Tn Sp Ta Sl SV RO R6 RD Rx R8 Sd Ro Rg NU RV Se NH S7 Cw Sa RF R5 Rm SL Sr MW Rj vW Rf QZ RW Rh J7 Sj Ru RJ SD Rv Sv Sf Pc RK P1 Td RE MA Tp Sq Rr Rs Tc SO Tf Sm RC SQ Tj RZ SU MC OJ N9 O9 Nu QH Q3 Oc PR Nh OO Oe IJ Qd IG Ol NK OC ME Qt Qk ML OT Ns OL P8 O3 Q1 O2 Mw Ni QY QV Ot Ix Qf MM PP NW Qs MV QX Mx OM Qx M4 PQ Ql Np Pm Qp Oh IK NX Ox Qy PZ Ng PM QB Nt QE QM Oj MG OG Ph NJ Nk Pu N0 QR PS QD MD QK Qu PF Pe Qq Pw MX PN Na O0 PH OQ NR Od OP Nx Nl Pj N8 QN OF P4 P5 MH OU OZ Oz OY MQ O8 PO Nv Ov Pb QS QI Nq QU P6 PG Oy OE P0 Pt NA Oq Pd Og OV PB Qz Qo Qj NM QP NI Nw OA M7 MP Nf Pn Mz Pv QG NE M0 ON Nc Ps OK NC Nj Ob PU Qb Oi Po Qc NB Pa OD NY JK Lw Ls J2 JX L8 J0 RA Kh LU Jv JM Mf LS JT SH JW LG JS Sw JY L9 JR Tq KL Kl KQ SG JH LD Lu Sx Km J5 LN Ln Kr Th K9 JB Lr Jz KM RL KG KI JI JC JO S8 LZ J9 LJ KF JP SC Jg Kn Lq Kd Jl SI K7 Lv Ki La Kx RX KJ L7 S5 Kf LB Sk LY Kv Rn Kz Kq Ri Ll Lf J1 JZ RR Jk LK KE Kj Ti Kw KS J6 RU IU JU Jp To L5 LW Si Ks JJ SX IV Lk Sy KV Jf Rz Jq Lj LA Kc I5 SA Lg Lp Jj Jb KT RB IY Jt J8 Ma Su Ie HO H5 GG NQ GH GM Hh H6 O6 Gk Ge HJ FF P7 GO Gb Of G0 HG PL GD Ig MY F5 HS Nr G7 HL FE GN P9 Gv H9 Hq Hg Oa Gi Hc GF HE PT Iq Gq Gn H8 Qa HD FU FQ Q2 Ik GU FB PX HH Gz Nn HA G9 O5 G6 Hp PV GB Fx Qm FM If Oo Ht Gx Pp Tryz.underlying1 Tryz.underlying2 Tryz.underlying3 Tryz.underlying4 Tryz.underlying5 Tryz.underlying9 Tryz.underlying12 Tryz.underlying20 Tryz.underlying21 Tryz.underlying22 Tryz.underlying23 Tryz.underlying24 Tryz.underlying25 Tryz.underlying26 Tryz.underlying27 Tryz.underlying28 Tryz.underlying29 Tryz.underlying30 Tryz.underlying31 Tryz.underlying32 Tryz.underlying33 Tryz.underlying34 Tryz.underlying35 Tryz.underlying36 Tryz.underlying37 Tryz.underlying38 Tryz.underlying39 Tryz.underlying40 Tryz.underlying41 Tryz.underlying42 Tryz.underlying43 Tryz.underlying44 Tryz.underlying46 Tryz.underlying47 Tryz.underlying48 Tryz.underlying49 Tryz.underlying50 Tryz.underlying51 Tryz.underlying52 Tryz.underlying53 Tryz.underlying54 Tryz.underlying55 Tryz.underlying56 Tryz.underlying57 Tryz.underlying58 Tryz.underlying59 Tryz.underlying60 Tryz.underlying61 Tryz.underlying62 Tryz.underlying63 Tryz.underlying64 Tryz.underlying65 Tryz.underlying66 Tryz.underlying67 Tryz.underlying68 Tryz.underlying69 Tryz.underlying70 Tryz.underlying71 Tryz.underlying72 Tryz.underlying73 Tryz.underlying74 Tryz.underlying76 Tryz.underlying78 Tryz.underlying79 Tryz.underlying80 Tryz.underlying81 Tryz.underlying82 Tryz.underlying83 Tryz.underlying84 Tryz.underlying85 Tryz.underlying86 Tryz.underlying88 Tryz.underlying89 Tryz.underlying90 Tryz.underlying91 Tryz.underlying92 Tryz.underlying93 Tryz.underlying94 Tryz.underlying95 Tryz.underlying96 Tryz.underlying97 Tryz.underlying98 Tryz.underlying99 Tryz.underlying100 Tryz.underlying101 Tryz.underlying102 Tryz.underlying103 Tryz.underlying104 Tryz.underlying105 Tryz.underlying106 Tryz.underlying107 Tryz.underlying108 Tryz.underlying109 Tryz.underlying110 Tryz.underlying111 Tryz.underlying112 Tryz.underlying113 Tryz.underlying114 Tryz.underlying115 Tryz.underlying116 Tryz.underlying117 Tryz.underlying118 Tryz.underlying119 Tryz.underlying120 Tryz.underlying121 Tryz.underlying122 Tryz.underlying124 Tryz.underlying125 Tryz.underlying127 Tryz.underlying128 Tryz.underlying129 Tryz.underlying130 Tryz.underlying131 Tryz.underlying132 Tryz.underlying133 Tryz.underlying134 Tryz.underlying135 Tryz.underlying136 Tryz.underlying137 Tryz.underlying138 Tryz.underlying139 Tryz.underlying140 Tryz.underlying141 Tryz.underlying142 Tryz.underlying143 Tryz.underlying144 Tryz.underlying145 Tryz.underlying146 Tryz.underlying147 Tryz.underlying148 Tryz.underlying149 Tryz.underlying150 Tryz.underlying151 Tryz.underlying152 Tryz.underlying153 Tryz.underlying154 Tryz.underlying155 Tryz.underlying157 Tryz.underlying158 Tryz.underlying159 Tryz.underlying160 Tryz.underlying161 Tryz.underlying162 Tryz.underlying163 Tryz.underlying164 Tryz.underlying165 Tryz.underlying166 Tryz.underlying167 Tryz.underlying168 Tryz.underlying169 Tryz.underlying170 Tryz.underlying172 Tryz.underlying173 Tryz.underlying174 Tryz.underlying175 Tryz.underlying176 Tryz.underlying177 Tryz.underlying178 Tryz.underlying180 Tryz.underlying181 Tryz.underlying182 Tryz.underlying183 Tryz.underlying184 Tryz.underlying185 Tryz.underlying186 Tryz.underlying187 Tryz.underlying188 Tryz.underlying189 Tryz.underlying190 Tryz.underlying191 Tryz.underlying192 Tryz.underlying193 Tryz.underlying194 Tryz.underlying195 Tryz.underlying196 Tryz.underlying197 Tryz.underlying198 Tryz.underlying199 Tryz.underlying200 Tryz.underlying201 Tryz.underlying202 Tryz.underlying203 Tryz.underlying204 Tryz.underlying205 Tryz.underlying206 Tryz.underlying207 Tryz.underlying208 Tryz.underlying209 Tryz.underlying210 Tryz.underlying211 Tryz.underlying212 Tryz.underlying213 Tryz.underlying214 Tryz.underlying215 Tryz.underlying216 Tryz.underlying217 Tryz.underlying218 Tryz.underlying219 Tryz.underlying220 Tryz.underlying221 Tryz.underlying222 Tryz.underlying223 Tryz.underlying224 Tryz.underlying225 Tryz.underlying226 Tryz.underlying227 Tryz.underlying228 Tryz.underlying229 Tryz.underlying230 Tryz.underlying231 Tryz.underlying233 Tryz.underlying234 Tryz.underlying235 Tryz.underlying236 Tryz.underlying238 Tryz.underlying239 Tryz.underlying240 Tryz.underlying241 Tryz.underlying242 Tryz.underlying243 Tryz.underlying244 Tryz.underlying245 Tryz.underlying246 Tryz.underlying247 Tryz.underlying248 Tryz.underlying249 Tryz.underlying251 Tryz.underlying252 Tryz.underlying253 Tryz.underlying254 Tryz.underlying255 Tryz.underlying256 Tryz.underlying257 Tryz.underlying258 Tryz.underlying259 Tryz.underlying260 Tryz.underlying261 Tryz.underlying262 Tryz.underlying265 Tryz.underlying266 Tryz.underlying272
end Go.Proofs.YtmdmimkbpikmoaaGreat.Ty
namespace Go.Proofs.YtmdmimkbpikmoaaGreat
open Go.RowKit Am Ty
theorem zu {R P:Prop} (k:R) (h:R→P:=by intro z0;(repeat (first|apply zs|apply zr|apply zn|apply zq|apply zb|apply zo|apply zk|apply zl));exact z0):P:=h k
theorem zh {P:Prop} (h:P:=by repeat (first|exact trivial|(refine⟨.inl ⟨by decide,rfl⟩,?_⟩) | (refine⟨.inr ⟨rfl,by simp⟩,?_⟩))):P:=h
theorem fe {N:Am.Env} {f:FuncId} {fn:Func} {c:Code} {args:List Value} {h:ah} {K:Value→ah→Prop} (hf:N.P.funcs[f]? = some fn) (k:CW N c ⟨tP args,[],h⟩ (QQ N fn K)) (hb:fn.body=some c:=by rfl) (hd:dS fn.ntmps c=true:=by kernel_rfl) (hl:decide (args.length≤fn.ntmps)=true:=by kernel_rfl):FW N f args h K:=Fc hf hb hd (of_decide_eq_true hl) k
theorem zj {N:Am.Env} {all:Array Oper} {o:Oper} {r:List Oper} {s:St} {K:St→Prop} {f:FuncId} {cap args:List Value} {fn:Func} (hf:N.P.funcs[f]? = some fn) (k:FW N f (args++cap) s.h fun v h'=>OW N all r ({ s with h:=h' }.aX o.dst (.val v)) K) (h:zQ all o s=some (f,cap,args):=by simp only[push_cast,env,Nat.reduceEqDiff,reduceIte]<;>exact rfl) (hnm:(fn.name == "runtime.NumGoroutine")=false:=by kernel_rfl) (hb:fn.body.isNone=false:=by kernel_rfl):OW N all (o :: r) s K:=zc h hf hnm hb k
theorem pR {P:Prop}  (h:P:=by simp only[push_cast,env,Nat.reduceEqDiff,reduceIte,Nat.reduceAdd,Nat.reduceMul,Nat.reduceLeDiff,reduceCtorEq,Nat.reduceSub,Int.reduceToNat]<;>first|exact rfl|exact .inl rfl|exact .inr rfl):P:=h
theorem OS {A P:Prop} (z1:A) (h:A→P:=by intro z1;simp only[push_cast,env,Nat.reduceEqDiff,reduceIte,Nat.reduceAdd,Nat.reduceMul,Nat.reduceLeDiff,reduceCtorEq,Nat.reduceSub,Int.reduceToNat,z1]<;>first|exact rfl|exact .inl rfl|exact .inr rfl):P:=h z1
theorem T1 {A B P:Prop} (z1:A) (z2:B) (h:A→B→P:=by intro z1 z2;simp only[push_cast,env,Nat.reduceEqDiff,reduceIte,Nat.reduceAdd,Nat.reduceMul,Nat.reduceLeDiff,reduceCtorEq,Nat.reduceSub,Int.reduceToNat,z1,z2]<;>first|exact rfl|exact .inl rfl|exact .inr rfl):P:=h z1 z2
theorem MU {A B C P:Prop} (z1:A) (z2:B) (z3:C) (h:A→B→C→P:=by intro z1 z2 z3;simp only[push_cast,env,Nat.reduceEqDiff,reduceIte,Nat.reduceAdd,Nat.reduceMul,Nat.reduceLeDiff,reduceCtorEq,Nat.reduceSub,Int.reduceToNat,z1,z2,z3]<;>first|exact rfl|exact .inl rfl|exact .inr rfl):P:=h z1 z2 z3
theorem TF {A B C D P:Prop} (z1:A) (z2:B) (z3:C) (z4:D) (h:A→B→C→D→P:=by intro z1 z2 z3 z4;simp only[push_cast,env,Nat.reduceEqDiff,reduceIte,Nat.reduceAdd,Nat.reduceMul,Nat.reduceLeDiff,reduceCtorEq,Nat.reduceSub,Int.reduceToNat,z1,z2,z3,z4]<;>first|exact rfl|exact .inl rfl|exact .inr rfl):P:=h z1 z2 z3 z4
theorem Um {A B C D E P:Prop} (z1:A) (z2:B) (z3:C) (z4:D) (z5:E) (h:A→B→C→D→E→P:=by intro z1 z2 z3 z4 z5;simp only[push_cast,env,Nat.reduceEqDiff,reduceIte,Nat.reduceAdd,Nat.reduceMul,Nat.reduceLeDiff,reduceCtorEq,Nat.reduceSub,Int.reduceToNat,z1,z2,z3,z4,z5]<;>first|exact rfl|exact .inl rfl|exact .inr rfl):P:=h z1 z2 z3 z4 z5
theorem Ub {A B C D E F P:Prop} (z1:A) (z2:B) (z3:C) (z4:D) (z5:E) (z6:F) (h:A→B→C→D→E→F→P:=by intro z1 z2 z3 z4 z5 z6;simp only[push_cast,env,Nat.reduceEqDiff,reduceIte,Nat.reduceAdd,Nat.reduceMul,Nat.reduceLeDiff,reduceCtorEq,Nat.reduceSub,Int.reduceToNat,z1,z2,z3,z4,z5,z6]<;>first|exact rfl|exact .inl rfl|exact .inr rfl):P:=h z1 z2 z3 z4 z5 z6
theorem Ud {A B C D E F G P:Prop} (z1:A) (z2:B) (z3:C) (z4:D) (z5:E) (z6:F) (z7:G) (h:A→B→C→D→E→F→G→P:=by intro z1 z2 z3 z4 z5 z6 z7;simp only[push_cast,env,Nat.reduceEqDiff,reduceIte,Nat.reduceAdd,Nat.reduceMul,Nat.reduceLeDiff,reduceCtorEq,Nat.reduceSub,Int.reduceToNat,z1,z2,z3,z4,z5,z6,z7]<;>first|exact rfl|exact .inl rfl|exact .inr rfl):P:=h z1 z2 z3 z4 z5 z6 z7
theorem Ua {A B C D E F G H P:Prop} (z1:A) (z2:B) (z3:C) (z4:D) (z5:E) (z6:F) (z7:G) (z8:H) (h:A→B→C→D→E→F→G→H→P:=by intro z1 z2 z3 z4 z5 z6 z7 z8;simp only[push_cast,env,Nat.reduceEqDiff,reduceIte,Nat.reduceAdd,Nat.reduceMul,Nat.reduceLeDiff,reduceCtorEq,Nat.reduceSub,Int.reduceToNat,z1,z2,z3,z4,z5,z6,z7,z8]<;>first|exact rfl|exact .inl rfl|exact .inr rfl):P:=h z1 z2 z3 z4 z5 z6 z7 z8
theorem Up {A B C D E F G H I P:Prop} (z1:A) (z2:B) (z3:C) (z4:D) (z5:E) (z6:F) (z7:G) (z8:H) (z9:I) (h:A→B→C→D→E→F→G→H→I→P:=by intro z1 z2 z3 z4 z5 z6 z7 z8 z9;simp only[push_cast,env,Nat.reduceEqDiff,reduceIte,Nat.reduceAdd,Nat.reduceMul,Nat.reduceLeDiff,reduceCtorEq,Nat.reduceSub,Int.reduceToNat,z1,z2,z3,z4,z5,z6,z7,z8,z9]<;>first|exact rfl|exact .inl rfl|exact .inr rfl):P:=h z1 z2 z3 z4 z5 z6 z7 z8 z9
theorem Uh {P:Prop}  (h:P:=by (repeat (first|exact aR.nil _|(apply aR.cons;(·apply zz;simp only[push_cast,env,Nat.reduceEqDiff,reduceIte,Nat.reduceAdd,Nat.reduceMul,Nat.reduceLeDiff,reduceCtorEq,Nat.reduceSub,Int.reduceToNat]<;>exact rfl);(·rfl))))):P:=h
theorem Uq {R P:Prop}  (k:R) (h:R→P:=by intro  z0;(repeat (first|exact aR.nil _|(apply aR.cons;(·apply zz;simp only[push_cast,env,Nat.reduceEqDiff,reduceIte,Nat.reduceAdd,Nat.reduceMul,Nat.reduceLeDiff,reduceCtorEq,Nat.reduceSub,Int.reduceToNat]<;>exact rfl);(·rfl))));exact z0):P:=h  k
theorem AQ {A P:Prop} (z1:A) (h:A→P:=by intro z1;(repeat (first|exact aR.nil _|(apply aR.cons;(·apply zz;simp only[push_cast,env,Nat.reduceEqDiff,reduceIte,Nat.reduceAdd,Nat.reduceMul,Nat.reduceLeDiff,reduceCtorEq,Nat.reduceSub,Int.reduceToNat,z1]<;>exact rfl);(·rfl))))):P:=h z1
theorem Uj {A R P:Prop} (z1:A) (k:R) (h:A→R→P:=by intro z1 z0;(repeat (first|exact aR.nil _|(apply aR.cons;(·apply zz;simp only[push_cast,env,Nat.reduceEqDiff,reduceIte,Nat.reduceAdd,Nat.reduceMul,Nat.reduceLeDiff,reduceCtorEq,Nat.reduceSub,Int.reduceToNat,z1]<;>exact rfl);(·rfl))));exact z0):P:=h z1 k
theorem rG {A B P:Prop} (z1:A) (z2:B) (h:A→B→P:=by intro z1 z2;(repeat (first|exact aR.nil _|(apply aR.cons;(·apply zz;simp only[push_cast,env,Nat.reduceEqDiff,reduceIte,Nat.reduceAdd,Nat.reduceMul,Nat.reduceLeDiff,reduceCtorEq,Nat.reduceSub,Int.reduceToNat,z1,z2]<;>exact rfl);(·rfl))))):P:=h z1 z2
theorem T9 {A B R P:Prop} (z1:A) (z2:B) (k:R) (h:A→B→R→P:=by intro z1 z2 z0;(repeat (first|exact aR.nil _|(apply aR.cons;(·apply zz;simp only[push_cast,env,Nat.reduceEqDiff,reduceIte,Nat.reduceAdd,Nat.reduceMul,Nat.reduceLeDiff,reduceCtorEq,Nat.reduceSub,Int.reduceToNat,z1,z2]<;>exact rfl);(·rfl))));exact z0):P:=h z1 z2 k
theorem Tz {A B C P:Prop} (z1:A) (z2:B) (z3:C) (h:A→B→C→P:=by intro z1 z2 z3;(repeat (first|exact aR.nil _|(apply aR.cons;(·apply zz;simp only[push_cast,env,Nat.reduceEqDiff,reduceIte,Nat.reduceAdd,Nat.reduceMul,Nat.reduceLeDiff,reduceCtorEq,Nat.reduceSub,Int.reduceToNat,z1,z2,z3]<;>exact rfl);(·rfl))))):P:=h z1 z2 z3
theorem Ug {A B C R P:Prop} (z1:A) (z2:B) (z3:C) (k:R) (h:A→B→C→R→P:=by intro z1 z2 z3 z0;(repeat (first|exact aR.nil _|(apply aR.cons;(·apply zz;simp only[push_cast,env,Nat.reduceEqDiff,reduceIte,Nat.reduceAdd,Nat.reduceMul,Nat.reduceLeDiff,reduceCtorEq,Nat.reduceSub,Int.reduceToNat,z1,z2,z3]<;>exact rfl);(·rfl))));exact z0):P:=h z1 z2 z3 k
theorem Uo {A B C D P:Prop} (z1:A) (z2:B) (z3:C) (z4:D) (h:A→B→C→D→P:=by intro z1 z2 z3 z4;(repeat (first|exact aR.nil _|(apply aR.cons;(·apply zz;simp only[push_cast,env,Nat.reduceEqDiff,reduceIte,Nat.reduceAdd,Nat.reduceMul,Nat.reduceLeDiff,reduceCtorEq,Nat.reduceSub,Int.reduceToNat,z1,z2,z3,z4]<;>exact rfl);(·rfl))))):P:=h z1 z2 z3 z4
theorem Ue {A B C D R P:Prop} (z1:A) (z2:B) (z3:C) (z4:D) (k:R) (h:A→B→C→D→R→P:=by intro z1 z2 z3 z4 z0;(repeat (first|exact aR.nil _|(apply aR.cons;(·apply zz;simp only[push_cast,env,Nat.reduceEqDiff,reduceIte,Nat.reduceAdd,Nat.reduceMul,Nat.reduceLeDiff,reduceCtorEq,Nat.reduceSub,Int.reduceToNat,z1,z2,z3,z4]<;>exact rfl);(·rfl))));exact z0):P:=h z1 z2 z3 z4 k
theorem Ur {A B C D E P:Prop} (z1:A) (z2:B) (z3:C) (z4:D) (z5:E) (h:A→B→C→D→E→P:=by intro z1 z2 z3 z4 z5;(repeat (first|exact aR.nil _|(apply aR.cons;(·apply zz;simp only[push_cast,env,Nat.reduceEqDiff,reduceIte,Nat.reduceAdd,Nat.reduceMul,Nat.reduceLeDiff,reduceCtorEq,Nat.reduceSub,Int.reduceToNat,z1,z2,z3,z4,z5]<;>exact rfl);(·rfl))))):P:=h z1 z2 z3 z4 z5
theorem Uc {A B C D E R P:Prop} (z1:A) (z2:B) (z3:C) (z4:D) (z5:E) (k:R) (h:A→B→C→D→E→R→P:=by intro z1 z2 z3 z4 z5 z0;(repeat (first|exact aR.nil _|(apply aR.cons;(·apply zz;simp only[push_cast,env,Nat.reduceEqDiff,reduceIte,Nat.reduceAdd,Nat.reduceMul,Nat.reduceLeDiff,reduceCtorEq,Nat.reduceSub,Int.reduceToNat,z1,z2,z3,z4,z5]<;>exact rfl);(·rfl))));exact z0):P:=h z1 z2 z3 z4 z5 k
theorem Uk {A B C D E F P:Prop} (z1:A) (z2:B) (z3:C) (z4:D) (z5:E) (z6:F) (h:A→B→C→D→E→F→P:=by intro z1 z2 z3 z4 z5 z6;(repeat (first|exact aR.nil _|(apply aR.cons;(·apply zz;simp only[push_cast,env,Nat.reduceEqDiff,reduceIte,Nat.reduceAdd,Nat.reduceMul,Nat.reduceLeDiff,reduceCtorEq,Nat.reduceSub,Int.reduceToNat,z1,z2,z3,z4,z5,z6]<;>exact rfl);(·rfl))))):P:=h z1 z2 z3 z4 z5 z6
theorem Tt {A B C D E F R P:Prop} (z1:A) (z2:B) (z3:C) (z4:D) (z5:E) (z6:F) (k:R) (h:A→B→C→D→E→F→R→P:=by intro z1 z2 z3 z4 z5 z6 z0;(repeat (first|exact aR.nil _|(apply aR.cons;(·apply zz;simp only[push_cast,env,Nat.reduceEqDiff,reduceIte,Nat.reduceAdd,Nat.reduceMul,Nat.reduceLeDiff,reduceCtorEq,Nat.reduceSub,Int.reduceToNat,z1,z2,z3,z4,z5,z6]<;>exact rfl);(·rfl))));exact z0):P:=h z1 z2 z3 z4 z5 z6 k
theorem Uf {A B C D E F G P:Prop} (z1:A) (z2:B) (z3:C) (z4:D) (z5:E) (z6:F) (z7:G) (h:A→B→C→D→E→F→G→P:=by intro z1 z2 z3 z4 z5 z6 z7;(repeat (first|exact aR.nil _|(apply aR.cons;(·apply zz;simp only[push_cast,env,Nat.reduceEqDiff,reduceIte,Nat.reduceAdd,Nat.reduceMul,Nat.reduceLeDiff,reduceCtorEq,Nat.reduceSub,Int.reduceToNat,z1,z2,z3,z4,z5,z6,z7]<;>exact rfl);(·rfl))))):P:=h z1 z2 z3 z4 z5 z6 z7
theorem yc {A B C D E F G R P:Prop} (z1:A) (z2:B) (z3:C) (z4:D) (z5:E) (z6:F) (z7:G) (k:R) (h:A→B→C→D→E→F→G→R→P:=by intro z1 z2 z3 z4 z5 z6 z7 z0;(repeat (first|exact aR.nil _|(apply aR.cons;(·apply zz;simp only[push_cast,env,Nat.reduceEqDiff,reduceIte,Nat.reduceAdd,Nat.reduceMul,Nat.reduceLeDiff,reduceCtorEq,Nat.reduceSub,Int.reduceToNat,z1,z2,z3,z4,z5,z6,z7]<;>exact rfl);(·rfl))));exact z0):P:=h z1 z2 z3 z4 z5 z6 z7 k
theorem Ul {A B C D E F G H P:Prop} (z1:A) (z2:B) (z3:C) (z4:D) (z5:E) (z6:F) (z7:G) (z8:H) (h:A→B→C→D→E→F→G→H→P:=by intro z1 z2 z3 z4 z5 z6 z7 z8;(repeat (first|exact aR.nil _|(apply aR.cons;(·apply zz;simp only[push_cast,env,Nat.reduceEqDiff,reduceIte,Nat.reduceAdd,Nat.reduceMul,Nat.reduceLeDiff,reduceCtorEq,Nat.reduceSub,Int.reduceToNat,z1,z2,z3,z4,z5,z6,z7,z8]<;>exact rfl);(·rfl))))):P:=h z1 z2 z3 z4 z5 z6 z7 z8
theorem IE {A B C D E F G H R P:Prop} (z1:A) (z2:B) (z3:C) (z4:D) (z5:E) (z6:F) (z7:G) (z8:H) (k:R) (h:A→B→C→D→E→F→G→H→R→P:=by intro z1 z2 z3 z4 z5 z6 z7 z8 z0;(repeat (first|exact aR.nil _|(apply aR.cons;(·apply zz;simp only[push_cast,env,Nat.reduceEqDiff,reduceIte,Nat.reduceAdd,Nat.reduceMul,Nat.reduceLeDiff,reduceCtorEq,Nat.reduceSub,Int.reduceToNat,z1,z2,z3,z4,z5,z6,z7,z8]<;>exact rfl);(·rfl))));exact z0):P:=h z1 z2 z3 z4 z5 z6 z7 z8 k
theorem Ui {A B C D E F G H I P:Prop} (z1:A) (z2:B) (z3:C) (z4:D) (z5:E) (z6:F) (z7:G) (z8:H) (z9:I) (h:A→B→C→D→E→F→G→H→I→P:=by intro z1 z2 z3 z4 z5 z6 z7 z8 z9;(repeat (first|exact aR.nil _|(apply aR.cons;(·apply zz;simp only[push_cast,env,Nat.reduceEqDiff,reduceIte,Nat.reduceAdd,Nat.reduceMul,Nat.reduceLeDiff,reduceCtorEq,Nat.reduceSub,Int.reduceToNat,z1,z2,z3,z4,z5,z6,z7,z8,z9]<;>exact rfl);(·rfl))))):P:=h z1 z2 z3 z4 z5 z6 z7 z8 z9
theorem Un {A B C D E F G H I R P:Prop} (z1:A) (z2:B) (z3:C) (z4:D) (z5:E) (z6:F) (z7:G) (z8:H) (z9:I) (k:R) (h:A→B→C→D→E→F→G→H→I→R→P:=by intro z1 z2 z3 z4 z5 z6 z7 z8 z9 z0;(repeat (first|exact aR.nil _|(apply aR.cons;(·apply zz;simp only[push_cast,env,Nat.reduceEqDiff,reduceIte,Nat.reduceAdd,Nat.reduceMul,Nat.reduceLeDiff,reduceCtorEq,Nat.reduceSub,Int.reduceToNat,z1,z2,z3,z4,z5,z6,z7,z8,z9]<;>exact rfl);(·rfl))));exact z0):P:=h z1 z2 z3 z4 z5 z6 z7 z8 z9 k
abbrev zU:Value:=.int .u64 0
abbrev zE:Value:=.string ⟨#[]⟩
abbrev zN:Value:=.slice none 0 0
end Go.Proofs.YtmdmimkbpikmoaaGreat
namespace Go.Proofs.YtmdmimkbpikmoaaGreat.Am
open Go.RowKit
section
variable (N:Env) (call:FuncId→List Value→ah→Option (Value×ah)) (nm:FuncId→Bool) (dr:Array Oper→St→Option St)
def newObj (s:St) (d:Option Nat) (t:TypeId) (cs:List Value) (v:Addr→Value):St:={ s with h:=s.h++[av.aj cs 0 true t] }.aX d (.val (v ⟨s.h.length,0,some 0⟩))
def Ju (s:St) (d:Option Nat) (x y:Operand) (t t2:TypeId):Option St:=
 match N.P.underlying t with
 | some (.slice e)=>match ar N.P e with
   | some ti=>if t2=t∧0<ti.size∧(ti.zero.map fun z=>z.cells.size)=some ti.size then (match ct s s.h ti.size y with
     | some (cs,m)=>match ev s x with
       | some (.slice none 0 0)=>if 0<m∧m*ti.bytes≤140737488355328∧m≤140737488355328 then some ({ s with h:=s.h++[av.aj cs 0 true e] }.aX d (.val (.slice (some ⟨s.h.length,0,some 0⟩) m m))) else none
       | some (.slice (some ⟨id,0,some au⟩) n _)=>match s.h[id]? with
         | some (.aj cells ver' true et)=>if ver'=au∧et=e∧n*ti.size≤cells.length∧(n+m)*ti.bytes≤140737488355328∧n+m≤140737488355328 then
          some ({ s with h:=s.h.set id (av.aj (cells.take (n*ti.size)++cs) (au+1) true e) }.aX d (.val (.slice (some ⟨id,0,some (au+1)⟩) (n+m) (n+m)))) else none
         | _=>none
       | _=>none
     | none=>none) else none
   | none=>none
 | _=>none
def JF (s:St) (d:Option Nat) (x y:Operand) (t t2:TypeId):Option St:=
 match N.P.underlying t,ev s x,ev s y with
 | some (.slice e),some (.slice p n c),some (.slice q 0 c')=>match ar N.P e with
   | some _=>if t2=t then some (s.aX d (.val (.slice p n c))) else none
   | none=>none
 | _,_,_=>none
def QA (s:St) (t:TypeId) (a x:Operand):Option St:=
 match ar N.P t,ev s a,ev s x with
 | some ti,some (.pointer (some ⟨id,off,some au⟩)),some v=>match s.h[id]?,dQ ti.size v with
   | some (.aj cells ver' true et),some vs=>if ver'=au then (lj cells off vs).map fun cells'=>{ s with h:=s.h.set id (av.aj cells' au true et) } else none
   | _,_=>none
 | _,_,_=>none
def Br (s:St) (t:TypeId) (x:Operand):Option (Nat×List (Value×Value)×(Value→Bool)×TypeId):=
 match N.P.underlying t,ev s x with
 | some (.map kt et),some (.map (some id))=>match N.keys kt,s.h[id]? with
   | some kd,some (.map es)=>if ei kd es then some (id,es,kd,et) else none
   | _,_=>none
 | _,_=>none
def Qw (s:St) (t:TypeId) (x i y:Operand):Option St:=
 match Br N s t x,ev s i,ev s y with
 | some (id,es,kd,_),some k,some v=>if kd k then some { s with h:=s.h.set id (av.map (iE es k v)) } else none
 | _,_,_=>none
def QF (s:St) (d:Option Nat) (t:TypeId) (x i:Operand):Option St:=
 match Br N s t x,ev s i with
 | some (id,es,kd,et),some k=>match zeroOf N.P et with
   | some z=>if kd k then some ({ s with h:=s.h.set id (av.map (ot es k z).2.2) }.aX d (.val (.tuple #[(ot es k z).1,.int .i64 (ot es k z).2.1]))) else none
   | none=>none
 | _,_=>none
def PA (s:St) (x i y:Operand):Option St:=
 match ev s x,ev s i,ev s y with
 | some (.map (some id)),some (.int .i64 (.ofNat j)),some v=>match s.h[id]? with
   | some (.map es)=>match es[j]? with
     | some (k,_)=>some { s with h:=s.h.set id (av.map (es.set j (k,v))) }
     | none=>none
   | _=>none
 | _,_,_=>none
def Dz (all:Array Oper) (o:Oper) (s:St):Option St:=
 match aE all o s with
 | none=>none
 | some false=>some (s.aX o.dst (.val (.tuple #[])))
 | some true=>match o.op with
   | .box t x=>(gY N s (.box t x)).map fun p=>newObj s o.dst p.1 p.2 fun a=>.pointer (some a)
   | .alloc t=>(gY N s (.alloc t)).map fun p=>newObj s o.dst p.1 p.2 fun a=>.pointer (some a)
   | .buildSlice t l ps=>(ja N s (.buildSlice t l ps)).map fun p=>newObj s o.dst p.1 p.2.1 fun a=>.slice (some a) p.2.2 p.2.2
   | .makeSlice t l c=>(x6 N s (.makeSlice t l c)).map fun p=>newObj s o.dst p.1 p.2.1 fun a=>.slice (some a) p.2.2 p.2.2
   | .store t a x=>if o.dst=none then QA N s t a x else none
   | .range t x=>match N.P.underlying t,ev s x,o.dst with
     | some (.map _ _),some (.map (some id)),some d=>match s.h[id]? with
       | some (.map es)=>some (s.put d (.mx id es.length []))
       | _=>none
     | some .string,some (.string b),some d=>some (s.put d (.uU b 0))
     | _,_,_=>none
   | .next (.tmp x) false=>match aS s.fr x with
     | .mx m n seen=>match s.h[m]? with
       | some (.map es)=>if es.length=n then (match (List.range n).filter fun j=>!seen.contains j with
         | []=>some (s.aX o.dst (.val (.tuple #[.bool false])))
         | [i]=>match es[i]? with
           | some (k,v)=>if fB k then some ({ s with fr:=fp s.fr x (.mx m n (seen++[i])) }.aX o.dst (.val (.tuple #[.bool true,k,v]))) else none
           | none=>none
         | _=>none) else none
       | _=>none
     | _=>none
   | .next (.tmp x) true=>match aS s.fr x with
     | .uU b p=>if p<b.size then some ({ s with fr:=fp s.fr x (.uU b (p+(Utf8.decode b p).2)) }.aX o.dst (.val (.tuple #[.bool true,.int .i64 p,.int .i32 (Utf8.decode b p).1])))
       else some (s.aX o.dst (.val (.tuple #[.bool false])))
     | _=>none
   | .makeMap t none=>match N.P.underlying t with
     | some (.map _ _)=>some ({ s with h:=s.h++[av.map []] }.aX o.dst (.val (.map (some s.h.length))))
     | _=>none
   | .mapUpdate t x i y=>if o.dst=none then Qw N s t x i y else none
   | .mapEntry t x i=>QF N s o.dst t x i
   | .entryStore _ x i y=>if o.dst=none then PA s x i y else none
   | .call c=>match c.callee with
     | .builtin .append=>match c.args.toList,c.argTypes.toList with
       | [x,y],[t,t2]=>match JF N s o.dst x y t t2 with
         | some s1=>some s1
         | none=>Ju N s o.dst x y t t2
       | _,_=>none
     | .builtin _=>(pE N s o.op).map fun v=>s.aX o.dst (.val v)
     | cal=>match fi s cal,sQ s c.args.toList with
       | some (f,cap),some args=>if nm f then (match call f (args++cap) s.h with
         | some (v,h')=>some ({ s with h:=h' }.aX o.dst (.val v))
         | none=>none) else none
       | _,_=>none
   | _=>(pE N s o.op).map fun v=>s.aX o.dst (.val v)
def Hk (all:Array Oper):List Oper→St→Option St
 | [],s=>some s
 | o :: r,s=>match Dz N call nm all o s with
   | some s1=>Hk all r s1
   | none=>none
def kq:Nat→Code→St→Option (AX×St)
 | 0,_,_=>none
 | n+1,c,s=>match c with
   | .skip=>some (.normal,s)
   | .label _=>some (.normal,s)
   | .exit id=>some (.exit id,s)
   | .ret=>some (.ret,s)
   | .seq a b=>match kq n a s with
     | some (.normal,s1)=>kq n b s1
     | r=>r
   | .cond c x y=>match ev s c with
     | some (.bool true)=>kq n x s
     | some (.bool false)=>kq n y s
     | _=>none
   | .block id c=>match kq n c s with
     | some (e,s1)=>some (e.inBlock id,s1)
     | none=>none
   | .scope c=>kq n c s
   | .loop c=>match kq n c s with
     | some (.normal,s1)=>kq n (.loop c) s1
     | r=>r
   | .region _ ops false=>match Hk N call nm ops ops.toList { s with ee:=[] } with
     | some s1=>some (.normal,s1)
     | none=>none
   | .region _ ops true=>match dr ops s with
     | some s1=>some (.normal,s1)
     | none=>none
   | _=>none
end
section
variable {N:Env} {call:FuncId→List Value→ah→Option (Value×ah)} {nm:FuncId→Bool}
def gn (N:Env) (call:FuncId→List Value→ah→Option (Value×ah)):Prop:=∀ f a h r h',call f a h=some (r,h')→(∃ fn,N.P.funcs[f]? = some fn∧fn.body.isNone=false)∧Ev N (.call f a h r h')
def rS (N:Env) (nm:FuncId→Bool):Prop:=∀ f fn,nm f=true→N.P.funcs[f]? = some fn→(fn.name == "runtime.NumGoroutine")=false
theorem yU {all:Array Oper} {o:Oper} {r:List Oper} {s s1 s2:St} {x y:Operand} {t t2:TypeId} {c:Call} (hw:aE all o s=some true) (ho:o.op = .call c) (hc:c.callee = .builtin .append) (hx:c.args.toList=[x,y]) (ht:c.argTypes.toList=[t,t2]) (h:Ju N s o.dst x y t t2=some s1) (k:Ev N (.ops all r s1 s2)):Ev N (.ops all (o :: r) s s2):=by{
have ho':o.op = .call { callee:=.builtin .append,args:=#[x,y],argTypes:=#[t,t2] }:=by
 rw[ho]
 cases c with
 | mk cal a ty=>
   simp only at hc hx ht
   subst hc
   rw[show a=#[x,y] from Array.toList_inj.1 hx,show ty=#[t,t2] from Array.toList_inj.1 ht]
unfold Ju at h
split at h
·rename_i e hu
 split at h
 ·rename_i ti hti
  split at h
  ·rename_i hq
   obtain⟨q1,q2,q3⟩:=hq
   split at h
   ·rename_i cs m hi
    split at h
    ·rename_i hv
     split at h
     ·rename_i hm
      cases h
      exact .nX hw ho' hu q1 hti q2 q3 hv hi hm.1 hm.2.1 hm.2.2 k
     ·cases h
    ·rename_i id au n cp hv
     split at h
     ·rename_i cells ver' et hid
      split at h
      ·rename_i hm
       obtain⟨rfl,rfl,m1,m2,m3⟩:=hm
       cases h
       exact .tG hw ho' hu q1 hti q2 q3 hv hid m1 hi m2 m3 k
      ·cases h
     ·cases h
    ·cases h
   ·cases h
  ·cases h
 ·cases h
·cases h}
theorem yj {all:Array Oper} {o:Oper} {r:List Oper} {s s1 s2:St} {x y:Operand} {t t2:TypeId} {c:Call} (hw:aE all o s=some true) (ho:o.op = .call c) (hc:c.callee = .builtin .append) (hx:c.args.toList=[x,y]) (ht:c.argTypes.toList=[t,t2]) (h:JF N s o.dst x y t t2=some s1) (k:Ev N (.ops all r s1 s2)):Ev N (.ops all (o :: r) s s2):=by{
have ho':o.op = .call { callee:=.builtin .append,args:=#[x,y],argTypes:=#[t,t2] }:=by
 rw[ho]
 cases c with
 | mk cal a ty=>
   simp only at hc hx ht
   subst hc
   rw[show a=#[x,y] from Array.toList_inj.1 hx,show ty=#[t,t2] from Array.toList_inj.1 ht]
unfold JF at h
split at h
·rename_i e p n c1 q c2 hu h1 h2
 split at h
 ·rename_i ti hti
  split at h
  ·rename_i he
   cases h
   exact .qQ hw ho' hu he hti h1 h2 k
  ·cases h
 ·cases h
·cases h}
theorem rm {all:Array Oper} {o:Oper} {r:List Oper} {s s1 s2:St} (hw:aE all o s=some true) (h:((gY N s o.op).map fun p=>newObj s o.dst p.1 p.2 fun a=>.pointer (some a))=some s1) (k:Ev N (.ops all r s1 s2)):Ev N (.ops all (o :: r) s s2):=by{
cases hb:gY N s o.op with
| none=>simp [hb] at h
| some p=>
  simp only[hb,Option.map_some,Option.some.injEq] at h
  subst h
  exact .nH hw hb k}
theorem lI {s:St} {t:TypeId} {x:Operand} {id:Nat} {es:List (Value×Value)} {kd:Value→Bool} {et:TypeId} (h:Br N s t x=some (id,es,kd,et)) : ∃ kt,N.P.underlying t=some (.map kt et)∧N.keys kt=some kd∧ev s x=some (.map (some id))∧s.h[id]? = some (.map es)∧ei kd es=true:=by{
unfold Br at h
split at h
·rename_i kt et' id' hu hx
 split at h
 ·rename_i kd' es' hk hid
  split at h
  ·rename_i hm
   cases h
   exact⟨kt,hu,hk,hx,hid,hm⟩
  ·cases h
 ·cases h
·cases h}
theorem wy (hC:gn N call) (hn:rS N nm) {all:Array Oper} {o:Oper} {r:List Oper} {s s1 s2:St} (h:Dz N call nm all o s=some s1) (k:Ev N (.ops all r s1 s2)):Ev N (.ops all (o :: r) s s2):=by{
unfold Dz at h
split at h
·cases h
·rename_i hw
 cases h
 exact .nW hw k
·rename_i hw
 split at h
 ·rename_i t x ho
  exact rm hw (by rw[ho];exact h) k
 ·rename_i t ho
  exact rm hw (by rw[ho];exact h) k
 ·rename_i t l ps ho
  cases hb:ja N s (.buildSlice t l ps) with
  | none=>simp [hb] at h
  | some p=>
    simp only[hb,Option.map_some,Option.some.injEq] at h
    subst h
    exact .nN hw (by rw[ho];exact hb) k
 ·rename_i t l c ho
  cases hb:x6 N s (.makeSlice t l c) with
  | none=>simp [hb] at h
  | some p=>
    simp only[hb,Option.map_some,Option.some.injEq] at h
    subst h
    exact .A7 hw (by rw[ho];exact hb) k
 ·rename_i t a x ho
  split at h
  ·rename_i hd
   unfold QA at h
   split at h
   ·rename_i ti id off au v ht ha hx
    split at h
    ·rename_i cells ver' et vs hid hv
     split at h
     ·rename_i hver
      subst hver
      cases hq:Am.lj cells off vs with
      | none=>simp [hq] at h
      | some cells'=>
        simp only[hq,Option.map_some,Option.some.injEq] at h
        subst h
        exact .ov hw ho ht ha hid hx hv hq hd k
     ·cases h
    ·cases h
   ·cases h
  ·cases h
 ·rename_i t x ho
  split at h
  ·rename_i kt et id d hu hx hd
   split at h
   ·rename_i es hid
    cases h
    exact .lB hw hd ho hu hx hid k
   ·cases h
  ·rename_i b d hu hx hd
   cases h
   exact .jL hw hd ho hu hx k
  ·cases h
 ·rename_i x ho
  split at h
  ·rename_i m n seen hx
   split at h
   ·rename_i es hid
    split at h
    ·rename_i hl
     split at h
     ·rename_i hf
      cases h
      exact .pG hw ho hx hid hl hf k
     ·rename_i i hf
      split at h
      ·rename_i kk vv hkv
       split at h
       ·rename_i hp
        cases h
        exact .pO hw ho hx hid hl hf hkv hp k
       ·cases h
      ·cases h
     ·cases h
    ·cases h
   ·cases h
  ·cases h
 ·rename_i x ho
  split at h
  ·rename_i b p hx
   split at h
   ·rename_i hp
    cases h
    exact .mM hw ho hx hp rfl k
   ·rename_i hp
    cases h
    exact .mH hw ho hx (by omega) k
  ·cases h
 ·rename_i t ho
  split at h
  ·rename_i kt et hu
   cases h
   exact .ud hw ho hu k
  ·cases h
 ·rename_i t x i y ho
  split at h
  ·rename_i hd
   unfold Qw at h
   split at h
   ·rename_i id es kd et kk v hm hk hv
    split at h
    ·rename_i hkk
     cases h
     obtain⟨kt,hu,hkd,hx,hid,hmk⟩:=lI hm
     exact .uh hw ho hu hkd hx hid hk hv hkk hmk hd k
    ·cases h
   ·cases h
  ·cases h
 ·rename_i t x i ho
  unfold QF at h
  split at h
  ·rename_i id es kd et kk hm hk
   split at h
   ·rename_i z hz
    split at h
    ·rename_i hkk
     cases h
     obtain⟨kt,hu,hkd,hx,hid,hmk⟩:=lI hm
     exact .xy hw ho hu hkd hz hx hid hk hkk hmk rfl k
    ·cases h
   ·cases h
  ·cases h
 ·rename_i t x i y ho
  split at h
  ·rename_i hd
   unfold PA at h
   split at h
   ·rename_i id j v hx hi hv
    split at h
    ·rename_i es hid
     split at h
     ·rename_i kk u hj
      cases h
      exact .xf hw ho hx hid hi hv hj hd k
     ·cases h
    ·cases h
   ·cases h
  ·cases h
 ·rename_i c ho
  split at h
  ·rename_i hc
   split at h
   ·rename_i x y t t2 hx ht
    split at h
    ·rename_i s3 h3
     cases h
     exact yj hw ho hc hx ht h3 k
    ·exact yU hw ho hc hx ht h k
   ·cases h
  ·rename_i b hb
   cases hv:pE N s o.op with
   | none=>simp [hv] at h
   | some v=>
     simp only[hv,Option.map_some,Option.some.injEq] at h
     subst h
     exact .rU hw hv k
  ·split at h
   ·rename_i f cap args hcal hargs
    split at h
    ·rename_i hnm
     split at h
     ·rename_i v h' hcall
      cases h
      obtain⟨⟨fn,h1,h2⟩,h3⟩:=hC _ _ _ _ _ hcall
      exact .ou hw ho hcal hargs h1 (hn _ _ hnm h1) h2 h3 k
     ·cases h
    ·cases h
   ·cases h
 ·cases hv:pE N s o.op with
  | none=>simp [hv] at h
  | some v=>
    simp only[hv,Option.map_some,Option.some.injEq] at h
    subst h
    exact .rU hw hv k}
theorem qM (hC:gn N call) (hn:rS N nm) {all:Array Oper}:∀ {l:List Oper} {s s1:St},Hk N call nm all l s=some s1→Ev N (.ops all l s s1)
 | [],s,s1,h=>by
   cases h
   exact .nil all s
 | o :: r,s,s1,h=>by
   simp only[Hk] at h
   split at h
   ·rename_i s2 h2
    exact wy hC hn h2 (qM hC hn h)
   ·cases h
def KR (N:Env) (dr:Array Oper→St→Option St):Prop:=∀ id ops s s1,dr ops s=some s1→Ev N (.code (.region id ops true) s .normal s1)
theorem cK {dr:Array Oper→St→Option St} (hm:KR N dr) (hC:gn N call) (hn:rS N nm):∀ {n:Nat} {c:Code} {s s1:St} {e:AX},kq N call nm dr n c s=some (e,s1)→Ev N (.code c s e s1)∧∀ b,c = .loop b→Ev N (.iter b s e s1)
 | 0,_,_,_,_,h=>by cases h
 | n+1,c,s,s1,e,h=>by
   unfold kq at h
   split at h
   ·cases h;exact⟨.skip _,fun b hb=>by cases hb⟩
   ·cases h;exact⟨.label _ _,fun b hb=>by cases hb⟩
   ·cases h;exact⟨.exit _ _,fun b hb=>by cases hb⟩
   ·cases h;exact⟨.ret _,fun b hb=>by cases hb⟩
   ·refine⟨?_,fun b hb=>by cases hb⟩
    split at h
    ·rename_i s2 h2
     exact .LI (cK hm hC hn h2).1 (cK hm hC hn h).1
    ·rename_i h2
     exact .GW (cK hm hC hn h).1 (by rintro rfl;exact h2 _ h)
   ·refine⟨?_,fun b hb=>by cases hb⟩
    split at h
    ·rename_i hc
     exact .cond hc (cK hm hC hn h).1
    ·rename_i hc
     exact .cond hc (cK hm hC hn h).1
    ·cases h
   ·refine⟨?_,fun b hb=>by cases hb⟩
    split at h
    ·rename_i e s2 h2
     cases h
     exact .block (cK hm hC hn h2).1
    ·cases h
   ·exact⟨.scope (cK hm hC hn h).1,fun b hb=>by cases hb⟩
   ·rename_i c
    have key:Ev N (.iter c s e s1):=by
     split at h
     ·rename_i s2 h2
      exact .D6 (cK hm hC hn h2).1 ((cK hm hC hn h).2 _ rfl)
     ·rename_i h2
      exact .zG (cK hm hC hn h).1 (by rintro rfl;exact h2 _ h)
    exact⟨.loop key,fun b hb=>by cases hb;exact key⟩
   ·refine⟨?_,fun b hb=>by cases hb⟩
    split at h
    ·rename_i s2 h2
     cases h
     exact .region (qM hC hn h2)
    ·cases h
   ·refine⟨?_,fun b hb=>by cases hb⟩
    split at h
    ·rename_i s2 h2
     cases h
     exact hm _ _ _ _ h2
    ·cases h
   ·cases h
theorem xR {dr:Array Oper→St→Option St} (hm:KR N dr) (hC:gn N call) (hn:rS N nm) {n:Nat} {c:Code} {s s1:St} {e:AX} (h:kq N call nm dr n c s=some (e,s1)):Ev N (.code c s e s1):=(cK hm hC hn h).1
end
structure fl (s0 s:St):Prop where
 h:s0.h=s.h
 f:∀ t,aS s0.fr t = .dy∨aS s.fr t=aS s0.fr t
 e:∀ t p,fI s0.ee t=some p→fI s.ee t=some p
 n:∀ t,aS s0.fr t≠.dy→fI s.ee t=fI s0.ee t
section
variable {N:Env} {s0 s:St}
theorem fl.fg (H:fl s0 s) {t:Nat} {sl:fK} (h:aS s0.fr t=sl) (hn:sl≠.dy):aS s.fr t=sl:=by{
rcases H.f t with h1|h1
·exact (hn (h.symm.trans h1)).elim
·exact h1.trans h}
theorem aU (H:fl s0 s) {x:Operand} {v:Value} (h:ev s0 x=some v):ev s x=some v:=by{
cases x with
| tmp t=>
  simp only[ev] at h ⊢
  split at h
  ·rename_i u hu
   rw[H.fg hu (by simp)]
   exact h
  ·cases h
| const k=>exact h
| func f=>exact h
| global g=>exact h}
theorem jG (H:fl s0 s) {x:Operand} {p:Nat×Nat} (h:oE s0 x=some p):oE s x=some p:=by{
cases x with
| tmp t=>
  simp only[oE] at h ⊢
  split at h
  ·rename_i q hq
   rw[H.e _ _ hq]
   exact h
  ·cases h
  ·rename_i hq
   split at h
   ·rename_i cs hb
    rw[H.n t (by rw[hb];simp),hq,H.fg hb (by simp)]
    exact h
   ·cases h
| const k=>exact h
| func f=>exact h
| global g=>exact h}
theorem Ew (H:fl s0 s) {x:Operand} {v:Value} (h:ev s0 x=some v):oE s x=oE s0 x:=by{
cases x with
| tmp t=>
  simp only[ev] at h
  split at h
  ·rename_i u hu
   simp only[oE,H.n t (by rw[hu];simp),H.fg hu (by simp),hu]
  ·cases h
| const k=>rfl
| func f=>rfl
| global g=>rfl}
theorem mS (H:fl s0 s):∀ {l:List Operand} {v:List Value},sQ s0 l=some v→sQ s l=some v
 | [],_,h=>h
 | x :: r,v,h=>by
   simp only[sQ] at h ⊢
   split at h
   ·rename_i a b h1 h2
    rw[aU H h1,mS H h2]
    exact h
   ·cases h
theorem jY (H:fl s0 s):∀ {l:List (Nat×Operand)} {v:List (Nat×Value)},g9 s0 l=some v→g9 s l=some v
 | [],_,h=>h
 | (i,x) :: r,v,h=>by
   simp only[g9] at h ⊢
   split at h
   ·rename_i a b h1 h2
    rw[aU H h1,jY H h2]
    exact h
   ·cases h
theorem nv (H:fl s0 s) {d:Int} {x:Option Operand} {v:Int} (h:DO s0 d x=some v):DO s d x=some v:=by{
cases x with
| none=>exact h
| some x=>
  simp only[DO] at h ⊢
  split at h
  ·rename_i k n h1
   rw[aU H h1]
   exact h
  ·cases h}
theorem xL (H:fl s0 s) {t:Nat} {cs:List Value} (h:aS s0.fr t = .box cs):aS s.fr t = .box cs:=H.fg h (by simp)
theorem y6 (H:fl s0 s) {t:TypeId} {a:Operand} {v:Value} (h:oW N s0 t a=some v):oW N s t a=some v:=by{
unfold oW at h ⊢
split at h
·cases h
·rename_i ti hti
 split at h
 ·rename_i sl off hp
  rw[jG H hp]
  simp only
  split at h
  ·rename_i cs hb
   rw[xL H hb]
   exact h
  ·cases h
 ·rename_i hp
  split at h
  ·rename_i ad he
   rw[Ew H he,hp,aU H he,← H.h]
   exact h
  ·cases h}
theorem pj (H:fl s0 s) {t:TypeId} {x:Operand} {f:Nat} {v:Value} (h:fG N s0 t x f=some v):fG N s t x f=some v:=by{
unfold fG at h ⊢
split at h
·rename_i h1 h2
 rw[h1,aU H h2]
 exact h
·cases h}
theorem pg (H:fl s0 s) {t:TypeId} {x i:Operand} {v:Value} (h:fJ N s0 t x i=some v):fJ N s t x i=some v:=by{
unfold fJ at h ⊢
split at h
·rename_i h1 h2 h3
 rw[h1,aU H h2,aU H h3]
 exact h
·rename_i h1 h2 h3
 rw[h1,aU H h2,aU H h3]
 exact h
·cases h}
theorem vT (H:fl s0 s) {t:TypeId} {x:Operand} {f:Nat} {v:Value} (h:mc N s0 t x f=some v):mc N s t x f=some v:=by{
unfold mc at h ⊢
split at h
·rename_i h1 h2
 rw[h1,aU H h2]
 exact h
·cases h}
theorem xi (H:fl s0 s) {t:TypeId} {x i:Operand} {v:Value} (h:kG N s0 t x i=some v):kG N s t x i=some v:=by{
unfold kG at h ⊢
split at h
·rename_i h1 h2 h3
 rw[h1,aU H h2,aU H h3]
 exact h
·rename_i h1 h2 h3
 rw[h1,aU H h2,aU H h3]
 exact h
·cases h}
theorem x4 (H:fl s0 s) {t:TypeId} {x:Operand} {lo hi:Option Operand} {v:Value} (h:mf N s0 t x lo hi=some v):mf N s t x lo hi=some v:=by{
unfold mf at h ⊢
split at h
·rename_i h1 h2
 rw[h1,aU H h2]
 simp only
 split at h
 ·rename_i h3 h4 h5
  rw[h3,nv H h4,nv H h5,← H.h]
  exact h
 ·cases h
·rename_i h1 h2
 rw[h1,aU H h2]
 simp only
 split at h
 ·rename_i h3 h4
  rw[nv H h3,nv H h4]
  exact h
 ·cases h
·cases h}
theorem xI (H:fl s0 s) {t:TypeId} {ps:Array (Nat×Operand)} {v:Value} (h:mn N s0 t ps=some v):mn N s t ps=some v:=by{
unfold mn at h ⊢
split at h
·rename_i h1 h2
 rw[h1,jY H h2]
 exact h
·cases h}
theorem sH (H:fl s0 s) {b:Builtin} {args:Array Operand} {tys:Array TypeId} {v:Value} (h:iZ N s0 b args tys=some v):iZ N s b args tys=some v:=by{
unfold iZ at h ⊢
cases he:sQ s0 args.toList with
| none=>rw[he] at h;split at h<;>simp_all
| some l=>rw[he] at h;rw[mS H he];exact h}
theorem qU (H:fl s0 s) {c z:Operand} {t want:Bool} {u:Value} (h:jv s0 c t want z=some u):jv s c t want z=some u:=by{
cases z with
| tmp r=>
  simp only[jv] at h ⊢
  split at h
  ·rename_i v hv
   rw[H.fg hv (by simp)]
   exact h
  ·rename_i d w q v hv
   rw[H.fg hv (by simp)]
   exact h
  ·cases h
| const k=>exact h
| func f=>exact h
| global g=>exact h}
theorem wQ {c z:Operand} {t want:Bool} {u:Value} (h:ev s z=some u):jv s c t want z=some u:=by{
cases z with
| tmp r=>
  simp only[ev] at h
  split at h
  ·rename_i v hv
   simp only[jv,hv]
   exact h
  ·cases h
| const k=>exact h
| func f=>exact h
| global g=>exact h}
theorem zv (H:fl s0 s) {c x y:Operand} {t:Bool} {v:Value} (h:rV s0 c t x y=some v):rV s c t x y=some v:=by{
unfold rV at h ⊢
split at h
·rename_i a b h1 h2
 rw[qU H h1,qU H h2]
 exact h
·cases t with
 | true=>
   simp only at h
   have h1:=aU H h
   rw[wQ (c:=c) (t:=true) (want:=true) h1]
   split
   ·rename_i a b h2 h3
    cases h2
    rfl
   ·exact h1
 | false=>
   simp only at h
   have h1:=aU H h
   rw[wQ (c:=c) (t:=false) (want:=false) h1]
   split
   ·rename_i a b h2 h3
    cases h3
    rfl
   ·exact h1}
theorem yq (H:fl s0 s) {m:Value}:mapOf s m=mapOf s0 m:=by
 unfold mapOf
 rw[H.h]
theorem zm (H:fl s0 s) {t:TypeId} {x i:Operand} {ok:Bool} {v:Value} (h:qD N s0 t x i ok=some v):qD N s t x i ok=some v:=by{
unfold qD at h ⊢
split at h
·rename_i h1 h2 h3
 rw[h1,aU H h2,aU H h3]
 simp only[yq H]
 exact h
·cases h}
theorem Cq (H:fl s0 s) {x:Operand} {v:Value} (h:yZ s0 x=some v):yZ s x=some v:=by{
unfold yZ at h ⊢
split at h
·split at h
 ·rename_i h1
  simp only[H.fg h1 (by simp),← H.h]
  exact h
 ·cases h
·cases h}
theorem C8 (H:fl s0 s) {o:Op} {v:Value} (h:pE N s0 o=some v):pE N s o=some v:=by{
unfold pE at h ⊢
split at h
·exact aU H h
·exact aU H h
·split at h
 ·rename_i t hc
  simp only[aU H hc]
  exact zv H h
 ·cases h
·exact xI H h
·exact y6 H h
·split at h
 ·rename_i h1 h2
  simp only[aU H h1,aU H h2]
  exact h
 ·cases h
·split at h
 ·rename_i h1
  simp only[aU H h1]
  exact h
 ·cases h
·split at h
 ·rename_i h1
  simp only[aU H h1,← H.h]
  exact h
 ·cases h
·exact pj H h
·exact pg H h
·exact vT H h
·exact xi H h
·exact x4 H h
·exact zm H h
·split at h
 ·rename_i h1
  simp only[aU H h1]
  exact h
 ·cases h
·split at h
 ·rename_i h1
  cases he:sQ s0 _ with
  | none=>rw[he] at h;cases h
  | some l=>
    rw[he] at h
    simp only[h1,if_true,mS H he]
    exact h
 ·cases h
·split at h
 ·rename_i b hb
  try simp only[hb]
  exact sH H h
 ·cases h
·split at h
 ·rename_i h1
  simp only[aU H h1]
  exact h
 ·rename_i h1
  simp only[aU H h1]
  exact h
 ·cases h
·exact Cq H h
·cases h}
theorem DG (H:fl s0 s) {o:Op} {p:Nat×Nat} (h:vM N s0 o=some p):vM N s o=some p:=by{
unfold vM at h ⊢
split at h
·split at h
 ·rename_i h1 h2
  simp only[h1,jG H h2]
  exact h
 ·cases h
·split at h
 ·rename_i h1 h2 h3
  simp only[h1,jG H h2,aU H h3]
  exact h
 ·cases h
·exact jG H h
·exact jG H h
·cases h}
theorem a8 (H:fl s0 s) {all:Array Oper} {o:Oper} {b:Bool} (h:aE all o s0=some b):aE all o s=some b:=by{
unfold aE at h ⊢
split at h
·rename_i hg
 try simp only[hg]
 exact h
·rename_i j want hg
 try simp only[hg]
 split at h
 ·rename_i hj
  try simp only[hj]
  exact h
 ·rename_i q hj
  try simp only[hj]
  split at h
  ·rename_i hd
   try simp only[hd]
   exact h
  ·rename_i d hd
   try simp only[hd]
   split at h
   ·rename_i c hc
    rw[H.fg hc (by simp)]
    exact h
   ·rename_i c hc
    rw[H.fg hc (by simp)]
    exact h
   ·cases h}
theorem td (H:fl s0 s) {o:Op} {p:TypeId×List Value} (h:gY N s0 o=some p):gY N s o=some p:=by{
unfold gY at h ⊢
split at h
·exact h
·split at h
 ·rename_i h1 h2
  simp only[h1,aU H h2]
  exact h
 ·cases h
·cases h}
theorem tU (H:fl s0 s) {o:Op} {p:TypeId×List Value×Nat} (h:ja N s0 o=some p):ja N s o=some p:=by{
unfold ja at h ⊢
split at h
·split at h
 ·rename_i h0
  try simp only[h0]
  split at h
  ·rename_i h1 h2
   simp only[h1,jY H h2]
   exact h
  ·cases h
 ·cases h
·cases h}
theorem xQ (H:fl s0 s) {o:Op} {p:TypeId×List Value×Nat} (h:x6 N s0 o=some p):x6 N s o=some p:=by{
unfold x6 at h ⊢
split at h
·split at h
 ·rename_i h0 h1 h2
  simp only[h0,aU H h1,aU H h2]
  exact h
 ·cases h
·cases h}
theorem oQ (H:fl s0 s) {h0:ah} {sz:Nat} {y:Operand} {p:List Value×Nat} (h:ct s0 h0 sz y=some p):ct s h0 sz y=some p:=by{
unfold ct at h ⊢
split at h
·split at h
 ·rename_i hb
  simp only[H.fg hb (by simp)]
  exact h
 ·rename_i hb
  simp only[H.fg hb (by simp)]
  exact h
 ·cases h
·cases h}
theorem uF (H:fl s0 s) {c:Callee} {p:FuncId×List Value} (h:fi s0 c=some p):fi s c=some p:=by{
unfold fi at h ⊢
split at h
·split at h
 ·rename_i h1
  simp only[aU H h1]
  exact h
 ·cases h
·cases h}
inductive fW where
 | sl (v:fK)
 | ep (sl off:Nat)
def vL (s:St) (d:Option Nat) (r:fW) (h:ah):St:=
 match d,r with
 | some d,.sl v=>⟨fp s.fr d v,eE s.ee d,h⟩
 | some d,.ep sl off=>⟨fp s.fr d .dy,(d,([],(sl,off))) :: eE s.ee d,h⟩
 | none,_=>⟨s.fr,s.ee,h⟩
inductive One (N:Env) (all:Array Oper) (o:Oper) (s:St):fW→ah→Prop
 | skip:aE all o s=some false→One N all o s (.sl (.val (.tuple #[]))) s.h
 | val {v:Value}:aE all o s=some true→pE N s o.op=some v→One N all o s (.sl (.val v)) s.h
 | ee {d sl off:Nat}:aE all o s=some true→o.dst=some d→vM N s o.op=some (sl,off)→sl≠d→One N all o s (.ep sl off) s.h
 | nj {d n:Nat} {t:TypeId} {cs:List Value}:aE all o s=some true→o.dst=some d→ja N s o.op=some (t,cs,n)→One N all o s (.sl (.nj cs n)) s.h
 | box {d:Nat} {t:TypeId} {cs:List Value}:aE all o s=some true→o.dst=some d→gY N s o.op=some (t,cs)→One N all o s (.sl (.box cs)) s.h
 | Rk {d n:Nat} {t:TypeId} {cs:List Value}:aE all o s=some true→o.dst=some d→x6 N s o.op=some (t,cs,n)→One N all o s (.sl (.Cs (.aj cs 0 true t) n)) s.h
 | Li {d:Nat} {t kt et:TypeId}:aE all o s=some true→o.dst=some d→o.op = .makeMap t none→N.P.underlying t=some (.map kt et)→One N all o s (.sl (.Cs (.map []) 0)) s.h
 | cH {d id:Nat} {t kt et:TypeId} {x:Operand} {es:List (Value×Value)}:aE all o s=some true→o.dst=some d→o.op = .range t x→N.P.underlying t=some (.map kt et)→ev s x=some (.map (some id))→s.h[id]? = some (.map es)→One N all o s (.sl (.mx id es.length [])) s.h
 | Lm {d:Nat} {t:TypeId} {x:Operand} {b:ByteArray}:aE all o s=some true→o.dst=some d→o.op = .range t x→N.P.underlying t=some .string→ev s x=some (.string b)→One N all o s (.sl (.uU b 0)) s.h
 | DE {t:TypeId} {cs:List Value}:aE all o s=some true→gY N s o.op=some (t,cs)→One N all o s (.sl (.val (.pointer (some ⟨s.h.length,0,some 0⟩)))) (s.h++[av.aj cs 0 true t])
 | CZ {n:Nat} {t:TypeId} {cs:List Value}:aE all o s=some true→ja N s o.op=some (t,cs,n)→One N all o s (.sl (.val (.slice (some ⟨s.h.length,0,some 0⟩) n n))) (s.h++[av.aj cs 0 true t])
 | mk {n:Nat} {t:TypeId} {cs:List Value}:aE all o s=some true→x6 N s o.op=some (t,cs,n)→One N all o s (.sl (.val (.slice (some ⟨s.h.length,0,some 0⟩) n n))) (s.h++[av.aj cs 0 true t])
 | jn {t et:TypeId} {a x:Operand} {ti:TI} {id off au:Nat} {cells vs cells':List Value} {v:Value} {r:fW}:aE all o s=some true →
  o.op = .store t a x→ar N.P t=some ti→ev s a=some (.pointer (some ⟨id,off,some au⟩))→s.h[id]? = some (.aj cells au true et)→ev s x=some v→dQ ti.size v=some vs →
  lj cells off vs=some cells'→o.dst=none→One N all o s r (s.h.set id (av.aj cells' au true et))
 | map {t kt et:TypeId}:aE all o s=some true→o.op = .makeMap t none→N.P.underlying t=some (.map kt et)→One N all o s (.sl (.val (.map (some s.h.length)))) (s.h++[av.map []])
 | zR {t kt et:TypeId} {x i y:Operand} {id:Nat} {es:List (Value×Value)} {kd:Value→Bool} {k v:Value} {r:fW}:aE all o s=some true →
  o.op = .mapUpdate t x i y→N.P.underlying t=some (.map kt et)→N.keys kt=some kd→ev s x=some (.map (some id))→s.h[id]? = some (.map es)→ev s i=some k→ev s y=some v→kd k=true→ei kd es=true→o.dst=none →
  One N all o s r (s.h.set id (av.map (iE es k v)))
 | xH {t kt et:TypeId} {x i:Operand} {id j:Nat} {es es':List (Value×Value)} {kd:Value→Bool} {k z v:Value}:aE all o s=some true →
  o.op = .mapEntry t x i→N.P.underlying t=some (.map kt et)→N.keys kt=some kd→zeroOf N.P et=some z→ev s x=some (.map (some id))→s.h[id]? = some (.map es)→ev s i=some k→kd k=true→ei kd es=true→ot es k z=(v,j,es') →
  One N all o s (.sl (.val (.tuple #[v,.int .i64 j]))) (s.h.set id (av.map es'))
 | Mv {t:TypeId} {x y i:Operand} {id j:Nat} {es:List (Value×Value)} {k u v:Value} {r:fW}:aE all o s=some true →
  o.op = .entryStore t x i y→ev s x=some (.map (some id))→s.h[id]? = some (.map es)→ev s i=some (.int .i64 j)→ev s y=some v→es[j]? = some (k,u)→o.dst=none →
  One N all o s r (s.h.set id (av.map (es.set j (k,v))))
 | yJ {x y:Operand} {t t2 e:TypeId} {ti:TI} {cs:List Value} {m:Nat}:aE all o s=some true →
  o.op = .call { callee:=.builtin .append,args:=#[x,y],argTypes:=#[t,t2] }→N.P.underlying t=some (.slice e)→t2=t→ar N.P e=some ti→0<ti.size →
  (ti.zero.map fun z=>z.cells.size)=some ti.size→ev s x=some (.slice none 0 0)→ct s s.h ti.size y=some (cs,m)→0<m→m*ti.bytes≤140737488355328→m≤140737488355328 →
  One N all o s (.sl (.val (.slice (some ⟨s.h.length,0,some 0⟩) m m))) (s.h++[av.aj cs 0 true e])
 | Ko {x y:Operand} {t t2 e:TypeId} {ti:TI} {cs cells:List Value} {m n c id au:Nat}:aE all o s=some true →
  o.op = .call { callee:=.builtin .append,args:=#[x,y],argTypes:=#[t,t2] }→N.P.underlying t=some (.slice e)→t2=t→ar N.P e=some ti→0<ti.size →
  (ti.zero.map fun z=>z.cells.size)=some ti.size→ev s x=some (.slice (some ⟨id,0,some au⟩) n c)→s.h[id]? = some (.aj cells au true e)→n*ti.size≤cells.length →
  ct s s.h ti.size y=some (cs,m)→(n+m)*ti.bytes≤140737488355328→n+m≤140737488355328 →
  One N all o s (.sl (.val (.slice (some ⟨id,0,some (au+1)⟩) (n+m) (n+m)))) (s.h.set id (av.aj (cells.take (n*ti.size)++cs) (au+1) true e))
 | EH {x y:Operand} {t t2 e:TypeId} {ti:TI} {b:ByteArray}:aE all o s=some true →
  o.op = .call { callee:=.builtin .append,args:=#[x,y],argTypes:=#[t,t2] }→N.P.underlying t=some (.slice e)→N.P.underlying t2=some .string→ar N.P e=some ti→ti.size=1→ti.bytes=1→ti.zero=some (.int .u8 0) →
  ev s x=some (.slice none 0 0)→ev s y=some (.string b)→0<b.size→b.size≤140737488355328 →
  One N all o s (.sl (.val (.slice (some ⟨s.h.length,0,some 0⟩) b.size b.size))) (s.h++[av.aj (bH b) 0 true e])
 | Ky {x y:Operand} {t t2 e:TypeId} {ti:TI} {cells:List Value} {n c id au:Nat} {b:ByteArray}:aE all o s=some true →
  o.op = .call { callee:=.builtin .append,args:=#[x,y],argTypes:=#[t,t2] }→N.P.underlying t=some (.slice e)→N.P.underlying t2=some .string→ar N.P e=some ti→ti.size=1→ti.bytes=1→ti.zero=some (.int .u8 0) →
  ev s x=some (.slice (some ⟨id,0,some au⟩) n c)→s.h[id]? = some (.aj cells au true e)→n≤cells.length→ev s y=some (.string b)→n+b.size≤140737488355328 →
  One N all o s (.sl (.val (.slice (some ⟨id,0,some (au+1)⟩) (n+b.size) (n+b.size)))) (s.h.set id (av.aj (cells.take n++bH b) (au+1) true e))
 | S4 {t t2 e:TypeId} {ti:TI} {x:Operand} {b:ByteArray}:aE all o s=some true→o.op = .convert t t2 x→N.P.underlying t=some .string→N.P.underlying t2=some (.slice e)→N.P.underlying e=some (.int .u8) →
  ar N.P e=some ti→ti.size=1→ev s x=some (.string b)→b.size≤140737488355328 →
  One N all o s (.sl (.val (.slice (some ⟨s.h.length,0,some 0⟩) b.size b.size))) (s.h++[av.aj (bH b) 0 false e])
 | Im {t t2 e:TypeId} {ti:TI} {x y:Operand} {b:ByteArray} {id au:Nat} {cells:List Value}:aE all o s=some true→o.op = .call { callee:=.builtin .unsafeString,args:=#[x,y],argTypes:=#[t,t2] } →
  N.P.underlying t=some (.pointer e)→ar N.P e=some ti→ti.size=1→ev s x=some (.pointer (some ⟨id,0,some au⟩))→s.h[id]? = some (.aj cells au true e)→ev s y=some (.int .i64 b.size)→0<b.size→b.size≤140737488355328→cells.take b.size=bH b →
  One N all o s (.sl (.val (.string b))) (s.h.set id (av.aj cells au false e))
 | call {c:Call} {f:FuncId} {cap args:List Value} {fn:Func} {v:Value} {h':ah}:aE all o s=some true →
  o.op = .call c→fi s c.callee=some (f,cap)→sQ s c.args.toList=some args→N.P.funcs[f]? = some fn→(fn.name == "runtime.NumGoroutine")=false→fn.body.isNone=false →
  Ev N (.call f (args++cap) s.h v h')→One N all o s (.sl (.val v)) h'
theorem dL {d:Option Nat} {v:Value} {h:ah}:({ s with h:=h }).aX d (.val v)=vL s d (.sl (.val v)) h:=by
 cases d<;>rfl
theorem One.ev {all:Array Oper} {o:Oper} {r:fW} {h':ah} (k:One N all o s r h'):Ev N (.ops all [o] s (vL s o.dst r h')):=by{
cases k with
| skip hw=>exact .nW hw (by rw[← dL];exact .nil _ _)
| val hw hv=>exact .rU hw hv (by rw[← dL];exact .nil _ _)
| ee hw hd he hne=>exact .xd hw hd he hne (by rw[hd];exact .nil _ _)
| nj hw hd hb=>exact .xV hw hd hb (by rw[hd];exact .nil _ _)
| box hw hd hb=>exact .sV hw hd hb (by rw[hd];exact .nil _ _)
| Rk hw hd hb=>exact .At hw hd hb (by rw[hd];exact .nil _ _)
| Li hw hd ho hu=>exact .uP hw hd ho hu (by rw[hd];exact .nil _ _)
| cH hw hd ho hu hx hid=>exact .lB hw hd ho hu hx hid (by rw[hd];exact .nil _ _)
| Lm hw hd ho hu hx=>exact .jL hw hd ho hu hx (by rw[hd];exact .nil _ _)
| DE hw hb=>exact .nH hw hb (by rw[← dL];exact .nil _ _)
| CZ hw hb=>exact .nN hw hb (by rw[← dL];exact .nil _ _)
| mk hw hb=>exact .A7 hw hb (by rw[← dL];exact .nil _ _)
| jn hw ho ht ha hid hx hv hq hd=>exact .ov hw ho ht ha hid hx hv hq hd (by rw[hd];exact .nil _ _)
| map hw ho hu=>exact .ud hw ho hu (by rw[← dL];exact .nil _ _)
| zR hw ho hu hkd hx hid hk hv hkk hmk hd=>exact .uh hw ho hu hkd hx hid hk hv hkk hmk hd (by rw[hd];exact .nil _ _)
| xH hw ho hu hkd hz hx hid hk hkk hmk hm=>exact .xy hw ho hu hkd hz hx hid hk hkk hmk hm (by rw[← dL];exact .nil _ _)
| Mv hw ho hx hid hi hv hj hd=>exact .xf hw ho hx hid hi hv hj hd (by rw[hd];exact .nil _ _)
| yJ hw ho hu h2 ht h3 h4 hx hi h5 h6 h7=>exact .nX hw ho hu h2 ht h3 h4 hx hi h5 h6 h7 (by rw[← dL];exact .nil _ _)
| Ko hw ho hu h2 ht h3 h4 hx hid h8 hi h5 h6=>exact .tG hw ho hu h2 ht h3 h4 hx hid h8 hi h5 h6 (by rw[← dL];exact .nil _ _)
| EH hw ho hu h2 ht h3 h4 h5 hx hy h6 h7=>exact .pK hw ho hu h2 ht h3 h4 h5 hx hy h6 h7 (by rw[← dL];exact .nil _ _)
| Ky hw ho hu h2 ht h3 h4 h5 hx hid h8 hy h6=>exact .sB hw ho hu h2 ht h3 h4 h5 hx hid h8 hy h6 (by rw[← dL];exact .nil _ _)
| S4 hw ho hu h2 h3 ht h4 hx h5=>exact .xT hw ho hu h2 h3 ht h4 hx h5 (by rw[← dL];exact .nil _ _)
| Im hw ho hu ht h1 hx hid hy h2 h3 h4=>exact .ul hw ho hu ht h1 hx hid hy h2 h3 h4 (by rw[← dL];exact .nil _ _)
| call hw ho hc ha hf hn hb he=>exact .ou hw ho hc ha hf hn hb he (by rw[← dL];exact .nil _ _)}
theorem One.mono (H:fl s0 s) {all:Array Oper} {o:Oper} {r:fW} {h':ah} (k:One N all o s0 r h'):One N all o s r h':=by{
have e:=H.h
cases k with
| skip hw=>rw[e];exact .skip (a8 H hw)
| val hw hv=>rw[e];exact .val (a8 H hw) (C8 H hv)
| ee hw hd he hne=>rw[e];exact .ee (a8 H hw) hd (DG H he) hne
| nj hw hd hb=>rw[e];exact .nj (a8 H hw) hd (tU H hb)
| box hw hd hb=>rw[e];exact .box (a8 H hw) hd (td H hb)
| Rk hw hd hb=>rw[e];exact .Rk (a8 H hw) hd (xQ H hb)
| Li hw hd ho hu=>rw[e];exact .Li (a8 H hw) hd ho hu
| cH hw hd ho hu hx hid=>rw[e] at hid ⊢;exact .cH (a8 H hw) hd ho hu (aU H hx) hid
| Lm hw hd ho hu hx=>rw[e];exact .Lm (a8 H hw) hd ho hu (aU H hx)
| DE hw hb=>rw[e];exact .DE (a8 H hw) (td H hb)
| CZ hw hb=>rw[e];exact .CZ (a8 H hw) (tU H hb)
| mk hw hb=>rw[e];exact .mk (a8 H hw) (xQ H hb)
| jn hw ho ht ha hid hx hv hq hd=>rw[e] at hid ⊢;exact .jn (a8 H hw) ho ht (aU H ha) hid (aU H hx) hv hq hd
| map hw ho hu=>rw[e];exact .map (a8 H hw) ho hu
| zR hw ho hu hkd hx hid hk hv hkk hmk hd=>rw[e] at hid ⊢;exact .zR (a8 H hw) ho hu hkd (aU H hx) hid (aU H hk) (aU H hv) hkk hmk hd
| xH hw ho hu hkd hz hx hid hk hkk hmk hm=>rw[e] at hid ⊢;exact .xH (a8 H hw) ho hu hkd hz (aU H hx) hid (aU H hk) hkk hmk hm
| Mv hw ho hx hid hi hv hj hd=>rw[e] at hid ⊢;exact .Mv (a8 H hw) ho (aU H hx) hid (aU H hi) (aU H hv) hj hd
| yJ hw ho hu h2 ht h3 h4 hx hi h5 h6 h7=>rw[e] at hi ⊢;exact .yJ (a8 H hw) ho hu h2 ht h3 h4 (aU H hx) (oQ H hi) h5 h6 h7
| Ko hw ho hu h2 ht h3 h4 hx hid h8 hi h5 h6=>rw[e] at hi hid ⊢;exact .Ko (a8 H hw) ho hu h2 ht h3 h4 (aU H hx) hid h8 (oQ H hi) h5 h6
| EH hw ho hu h2 ht h3 h4 h5 hx hy h6 h7=>rw[e];exact .EH (a8 H hw) ho hu h2 ht h3 h4 h5 (aU H hx) (aU H hy) h6 h7
| Ky hw ho hu h2 ht h3 h4 h5 hx hid h8 hy h6=>rw[e] at hid ⊢;exact .Ky (a8 H hw) ho hu h2 ht h3 h4 h5 (aU H hx) hid h8 (aU H hy) h6
| S4 hw ho hu h2 h3 ht h4 hx h5=>rw[e];exact .S4 (a8 H hw) ho hu h2 h3 ht h4 (aU H hx) h5
| Im hw ho hu ht h1 hx hid hy h2 h3 h4=>rw[e] at hid ⊢;exact .Im (a8 H hw) ho hu ht h1 (aU H hx) hid (aU H hy) h2 h3 h4
| call hw ho hc ha hf hn hb he=>exact .call (a8 H hw) ho (uF H hc) (mS H ha) hf hn hb (e▸he)}
end
def bA (ops:Array Oper) (j:Nat):Option Nat:=match ops[j]? with|some o=>o.dst|none=>none
def fw (L:List (List Nat)) (i:Nat):List Nat:=(L[i]?).getD []
def zT (ops:Array Oper):List (List Nat):=
 ops.toList.foldl (fun L o=>L++[(o.after.toList.foldl (fun acc e=>if Region.binds .any e then (e.on :: fw L e.on).foldl (fun acc j=>if acc.contains j then acc else j :: acc) acc else acc) [])]) []
def uG (ops:Array Oper) (L:List (List Nat)) (act:List Nat):Bool:=
 ((List.range ops.size).all fun i=>match ops[i]? with
   | some o=>(o.after.toList.all fun e=>!Region.binds .any e||decide (e.on<i))&&((fw L i).all fun j=>o.after.toList.any fun e=>Region.binds .any e&&(decide (e.on=j)||(fw L e.on).contains j))
   | none=>true) &&
 ((List.range ops.size).all fun i=>(List.range i).all fun j=>match bA ops i,bA ops j with
   | some d,some d'=>!decide (d=d')
   | _,_=>true) &&
 ((List.range act.length).all fun j=>(List.range j).all fun i=>(fw L (act.getD j 0)).contains (act.getD i 0))
def fP (L:List (List Nat)) (act:List Nat) (i k:Nat):Bool:=
 (List.range act.length).all fun j=>(!(fw L i).contains (act.getD j 0)||decide (j<k))&&(!(fw L (act.getD j 0)).contains i||decide (k≤j))&&(!decide (act.getD j 0=i)||decide (k=j))
section
variable {N:Env} {ops:Array Oper} {L:List (List Nat)} {act:List Nat} {s0:St} {res:Nat→fW} {Hs:Nat→ah}
structure qw (ops:Array Oper) (L:List (List Nat)) (act:List Nat):Prop where
 low:∀ i o,ops[i]? = some o→∀ e∈o.after,Region.binds .any e=true→e.on<i
 I8:∀ i j,j∈fw L i→i<ops.size→∃ o,ops[i]? = some o∧∃ e∈o.after,Region.binds .any e=true∧(e.on=j∨j∈fw L e.on)
 dst:∀ i j d,bA ops i=some d→bA ops j=some d→i=j
 act:∀ i j,i<j→j<act.length→act.getD i 0∈fw L (act.getD j 0)
theorem re {j d:Nat} (h:bA ops j=some d):j<ops.size:=by{
unfold bA at h
split at h
·rename_i o ho
 exact (Array.getElem?_eq_some_iff.1 ho).1
·cases h}
theorem tc (h:uG ops L act=true):qw ops L act:=by{
unfold uG at h
simp only[Bool.and_eq_true,List.all_eq_true,List.mem_range] at h
obtain⟨⟨h1,h2⟩,h3⟩:=h
have hd:∀ i j d,j<i→bA ops i=some d→bA ops j=some d→False:=fun i j d hij hi hj=>by
 have:=h2 i (re hi) j hij
 rw[hi,hj] at this
 simp at this
refine⟨fun i o ho e he hb=>?_,fun i j hj hi=>?_,fun i j d hi hj=>?_,fun i j hij hj=>?_⟩
·have:=h1 i (Array.getElem?_eq_some_iff.1 ho).1
 rw[ho] at this
 simp only[Bool.and_eq_true,List.all_eq_true] at this
 have:=this.1 e (by simpa using he)
 simpa [hb] using this
·have:=h1 i hi
 rw[Array.getElem?_eq_getElem hi] at this ⊢
 simp only[Bool.and_eq_true,List.all_eq_true,List.any_eq_true,Bool.or_eq_true,decide_eq_true_eq,List.contains_iff_mem] at this
 obtain⟨e,he,hb,hc⟩:=this.2 j hj
 exact⟨_,rfl,e,by simpa using he,hb,hc⟩
·rcases Nat.lt_trichotomy i j with h|h|h
 ·exact (hd j i d h hj hi).elim
 ·exact h
 ·exact (hd i j d h hi hj).elim
·exact List.contains_iff_mem.1 (h3 j hj i hij)}
structure uk (N:Env) (ops:Array Oper) (act:List Nat) (s0:St) (res:Nat→fW) (Hs:Nat→ah) (S:Array Bool) (t:St):Prop where
 size:S.size=ops.size
 closed:∀ j o,ops[j]? = some o→S.getD j false=true→∀ e∈o.after,Region.binds .any e=true→S.getD e.on false=true
 pre:∃ k,k≤act.length∧t.h=Hs k∧∀ j,j<act.length→(S.getD (act.getD j 0) false=true↔j<k)
 out:∀ x,(∀ j,bA ops j≠some x)→aS t.fr x=aS s0.fr x∧fI t.ee x=none
 pe:∀ j d v,bA ops j=some d→S.getD j false=true→res j = .sl v→aS t.fr d=v∧fI t.ee d=none
 Bc:∀ j d sl off,bA ops j=some d→S.getD j false=true→res j = .ep sl off→fI t.ee d=some ([],(sl,off))
 Mh:∀ q∈t.ee,∀ j,bA ops j≠some q.2.2.1
theorem jl (C:qw ops L act) {S:Array Bool} (hsz:S.size=ops.size) (hcl:∀ j o,ops[j]? = some o→S.getD j false=true→∀ e∈o.after,Region.binds .any e=true→S.getD e.on false=true) : ∀ (i j:Nat),i<ops.size→(∀ o,ops[i]? = some o→∀ e∈o.after,Region.binds .any e=true→S.getD e.on false=true)→j∈fw L i→S.getD j false=true:=by{
intro i
induction i using Nat.strongRecOn with
| _ i ih=>
  intro j hi hr hj
  obtain⟨o,ho,e,he,hb,h⟩:=C.I8 i j hj hi
  have h1:=hr o ho e he hb
  rcases h with rfl|h
  ·exact h1
  ·have hlt:=C.low i o ho e he hb
   exact ih e.on hlt j (by omega) (fun o' ho' e' he' hb'=>hcl e.on o' ho' h1 e' he' hb') h}
theorem fC:∀ (e:BF) (d:Nat),fI (eE e d) d=none
 | [],d=>rfl
 | (k,(g,(s,o))) :: r,d=>by
   simp only[eE]
   split
   ·exact fC r d
   ·split
    ·exact fC r d
    ·rename_i h _
     simp only[fI,if_neg h]
     exact fC r d
theorem fO:∀ {e:BF} {d x:Nat},(∀ q∈e,q.2.2.1≠d)→x≠d→fI (eE e d) x=fI e x
 | [],d,x,_,_=>rfl
 | (k,(g,(s,o))) :: r,d,x,h,hx=>by
   have hr:=fO (e:=r) (d:=d) (x:=x) (fun q hq=>h q (List.mem_cons_of_mem _ hq)) hx
   have hs:s≠d:=h (k,(g,(s,o))) List.mem_cons_self
   simp only[eE]
   split
   ·rename_i hk
    simp only[fI]
    rw[if_neg (by omega)]
    exact hr
   ·try rw[if_neg hs]
    simp only[fI]
    split
    ·rfl
    ·exact hr
theorem jJ {q:Nat×(List Key×(Nat×Nat))} {d:Nat}:∀ {e:BF},q∈eE e d→q∈e
 | [],h=>h
 | (k,(g,(s,o))) :: r,h=>by
   simp only[eE] at h
   split at h
   ·exact List.mem_cons_of_mem _ (jJ h)
   ·split at h
    ·exact List.mem_cons_of_mem _ (jJ h)
    ·rcases List.mem_cons.1 h with h|h
     ·exact h▸List.mem_cons_self
     ·exact List.mem_cons_of_mem _ (jJ h)
structure View (ops:Array Oper) (L:List (List Nat)) (s0:St) (res:Nat→fW) (i:Nat) (V:St):Prop where
 f:∀ x,aS V.fr x = .dy∨((∀ j,bA ops j≠some x)∧aS s0.fr x=aS V.fr x)∨∃ j,bA ops j=some x∧j∈fw L i∧res j = .sl (aS V.fr x)
 e:∀ x p,fI V.ee x=some p→∃ j sl off,bA ops j=some x∧j∈fw L i∧res j = .ep sl off∧p=([],(sl,off))
 n:∀ x,aS V.fr x≠.dy→fI V.ee x=none
theorem View.sub (C:qw ops L act) {S:Array Bool} {t V:St} {i:Nat} (I:uk N ops act s0 res Hs S t) (hi:i<ops.size) (hr:∀ o,ops[i]? = some o→∀ e∈o.after,Region.binds .any e=true→S.getD e.on false=true) (hV:View ops L s0 res i V) (hh:V.h=t.h):fl V t:=by{
have hin:∀ j,j∈fw L i→S.getD j false=true:=fun j hj=>jl C I.size I.closed i j hi hr hj
refine⟨hh,fun x=>?_,fun x p hp=>?_,fun x hx=>?_⟩
·rcases hV.f x with h|⟨h,h2⟩ | ⟨j,h,h2,h3⟩
 ·exact .inl h
 ·exact .inr ((I.out x h).1.trans h2)
 ·exact .inr (I.pe j x _ h (hin j h2) h3).1
·obtain⟨j,sl,off,h,h2,h3,rfl⟩:=hV.e x p hp
 exact I.Bc j x sl off h (hin j h2) h3
·rw[hV.n x hx]
 rcases hV.f x with h|⟨h,h2⟩ | ⟨j,h,h2,h3⟩
 ·exact (hx h).elim
 ·exact (I.out x h).2
 ·exact (I.pe j x _ h (hin j h2) h3).2}
theorem ew {S:Array Bool} {i j:Nat} (hi:i<S.size):((S.setIfInBounds i true).getD j false=true)↔(j=i∨S.getD j false=true):=by{
by_cases h:i=j
·subst h
 simp [hi]
·rw[getD_set_ne false h]
 exact⟨.inr,fun h'=>h'.resolve_left fun e=>h e.symm⟩}
theorem uk.step (C:qw ops L act) (hT:∀ j sl off,res j = .ep sl off→∀ i,bA ops i≠some sl) {S:Array Bool} {t:St} {i:Nat} {o:Oper} (hstep:∀ o k,ops[i]? = some o→k≤act.length→fP L act i k=true→∃ V,View ops L s0 res i V∧V.h=Hs k∧One N ops o V (res i) (Hs (if i∈act then k+1 else k))) (I:uk N ops act s0 res Hs S t) (hi:i∈Region.ready .any ops S) (ho:ops[i]? = some o) : ∃ s',Ev N (.ops ops [o] t s')∧uk N ops act s0 res Hs (S.setIfInBounds i true) s':=by{
obtain⟨hun,oi,hoi,hall⟩:=mem_ready.1 hi
obtain rfl:oi=o:=Option.some.inj (hoi.symm.trans ho)
have hlt:i<ops.size:=(Array.getElem?_eq_some_iff.1 ho).1
have hltS:i<S.size:=by rw[I.size];exact hlt
have hnot:¬ S.getD i false=true:=by
 have h1:=getD_both hun
 rw[h1]
 simp
have hr:∀ o,ops[i]? = some o→∀ e∈o.after,Region.binds .any e=true→S.getD e.on false=true:=fun o' ho' e he hb=>by
 obtain rfl:oi=o':=Option.some.inj (ho.symm.trans ho')
 exact hall e he hb
have hin:∀ j,j∈fw L i→S.getD j false=true:=fun j hj=>jl C I.size I.closed i j hlt hr hj
obtain⟨k,hk,hh,hpre⟩:=I.pre
have hst:fP L act i k=true:=by
 unfold fP
 rw[List.all_eq_true]
 intro j hj
 rw[List.mem_range] at hj
 simp only[Bool.and_eq_true,Bool.or_eq_true,Bool.not_eq_true',decide_eq_true_eq,decide_eq_false_iff_not]
 refine⟨⟨?_,?_⟩,?_⟩
 ·by_cases h:act.getD j 0∈fw L i
  ·exact .inr ((hpre j hj).1 (hin _ h))
  ·exact .inl (by simpa using h)
 ·by_cases h:i∈fw L (act.getD j 0)
  ·refine .inr (Nat.le_of_not_lt fun hjk=>?_)
   have h1:=(hpre j hj).2 hjk
   have hal:act.getD j 0<ops.size:=by
    rcases Nat.lt_or_ge (act.getD j 0) ops.size with h2|h2
    ·exact h2
    ·have:S.size≤act.getD j 0:=by rw[I.size];exact h2
     rw[Array.getD_eq_getD_getElem?,Array.getElem?_eq_none this] at h1
     cases h1
   exact hnot (jl C I.size I.closed _ i hal (fun o' ho' e he hb=>I.closed _ o' ho' h1 e he hb) h)
  ·exact .inl (by simpa using h)
 ·by_cases h:act.getD j 0=i
  ·refine .inr (Nat.le_antisymm (Nat.le_of_not_lt fun hjk=>?_) (Nat.le_of_not_lt fun hkj=>?_))
   ·exact hnot (h▸(hpre j hj).2 hjk)
   ·have h1:=C.act k j hkj hj
    rw[h] at h1
    have:=(hpre k (by omega)).1 (hin _ h1)
    omega
  ·exact .inl h
obtain⟨V,hV,hVh,hone⟩:=hstep oi k ho hk hst
have hsub:=hV.sub C I hlt hr (hVh.trans hh.symm)
refine⟨_,(hone.mono hsub).ev,?_⟩
have hset:∀ j,((S.setIfInBounds i true).getD j false=true)↔(j=i∨S.getD j false=true):=fun j=>ew hltS
have hpre':∃ k',k'≤act.length∧Hs (if i∈act then k+1 else k)=Hs k'∧∀ j,j<act.length→((S.setIfInBounds i true).getD (act.getD j 0) false=true↔j<k'):=by
 have hst':∀ j,j<act.length→act.getD j 0=i→k=j:=fun j hj h=>by
  unfold fP at hst
  rw[List.all_eq_true] at hst
  have:=hst j (List.mem_range.2 hj)
  simp only[Bool.and_eq_true,Bool.or_eq_true,Bool.not_eq_true',decide_eq_true_eq,decide_eq_false_iff_not] at this
  exact this.2.resolve_left fun hn=>hn h
 by_cases hia:i∈act
 ·rw[if_pos hia]
  obtain⟨j0,hj0,hji⟩:=List.mem_iff_getElem.1 hia
  have hg:act.getD j0 0=i:=by simp [hj0,hji]
  have hk0:=hst' j0 hj0 hg
  refine⟨k+1,by omega,rfl,fun j hj=>?_⟩
  rw[hset]
  constructor
  ·rintro (h|h)
   ·have:=hst' j hj h
    omega
   ·have:=(hpre j hj).1 h
    omega
  ·intro h
   rcases Nat.lt_or_ge j k with h1|h1
   ·exact .inr ((hpre j hj).2 h1)
   ·obtain rfl:j=j0:=by omega
    exact .inl hg
 ·rw[if_neg hia]
  refine⟨k,hk,rfl,fun j hj=>?_⟩
  rw[hset]
  constructor
  ·rintro (h|h)
   ·exact (hia (by rw[← h];simp [hj])).elim
   ·exact (hpre j hj).1 h
  ·exact fun h=>.inr ((hpre j hj).2 h)
have hcl':∀ j o,ops[j]? = some o→(S.setIfInBounds i true).getD j false=true→∀ e∈o.after,Region.binds .any e=true→(S.setIfInBounds i true).getD e.on false=true:=fun j o hj hl e he hb=>by
 rw[hset]
 rcases (hset j).1 hl with rfl|h
 ·exact .inr (hr o hj e he hb)
 ·exact .inr (I.closed j o hj h e he hb)
cases hd:oi.dst with
| none=>
  have hda:bA ops i=none:=by simp [bA,ho,hd]
  have hne:∀ j d,bA ops j=some d→j≠i:=fun j d h e=>by rw[e,hda] at h;cases h
  exact⟨by simp [I.size],hcl',hpre',I.out,fun j d v hj hl=>I.pe j d v hj (((hset j).1 hl).resolve_left (hne j d hj)),fun j d sl off hj hl=>I.Bc j d sl off hj (((hset j).1 hl).resolve_left (hne j d hj)),I.Mh⟩
| some d=>
  have hda:bA ops i=some d:=by simp [bA,ho,hd]
  have hdn:∀ q∈t.ee,q.2.2.1≠d:=fun q hq e=>I.Mh q hq i (by rw[e];exact hda)
  have hdne:∀ j d',j≠i→bA ops j=some d'→d'≠d:=fun j d' hj h e=>hj (C.dst j i d (e▸h) hda)
  cases hres:res i with
  | sl v=>
    refine⟨by simp [I.size],hcl',hpre',fun x hx=>?_,fun j d' v' hj hl hv=>?_,fun j d' sl off hj hl hv=>?_,fun q hq=>I.Mh q (jJ hq)⟩
    ·have hxd:x≠d:=fun e=>hx i (e▸hda)
     simp only[vL,bt]
     rw[if_neg (fun e=>hxd e.symm),fO hdn hxd]
     exact I.out x hx
    ·simp only[vL,bt]
     by_cases hji:j=i
     ·subst hji
      obtain rfl:d=d':=Option.some.inj (hda.symm.trans hj)
      rw[if_pos rfl,fC]
      rw[hres] at hv
      cases hv
      exact⟨rfl,rfl⟩
     ·have:=hdne j d' hji hj
      rw[if_neg (fun e=>this e.symm),fO hdn this]
      exact I.pe j d' v' hj (((hset j).1 hl).resolve_left hji) hv
    ·by_cases hji:j=i
     ·subst hji
      rw[hres] at hv
      cases hv
     ·have:=hdne j d' hji hj
      simp only[vL]
      rw[fO hdn this]
      exact I.Bc j d' sl off hj (((hset j).1 hl).resolve_left hji) hv
  | ep sl0 off0=>
    refine⟨by simp [I.size],hcl',hpre',fun x hx=>?_,fun j d' v' hj hl hv=>?_,fun j d' sl off hj hl hv=>?_,fun q hq=>?_⟩
    ·have hxd:x≠d:=fun e=>hx i (e▸hda)
     simp only[vL,bt,fI]
     rw[if_neg (fun e=>hxd e.symm),if_neg (fun e=>hxd e.symm),fO hdn hxd]
     exact I.out x hx
    ·by_cases hji:j=i
     ·subst hji
      rw[hres] at hv
      cases hv
     ·have:=hdne j d' hji hj
      simp only[vL,bt,fI]
      rw[if_neg (fun e=>this e.symm),if_neg (fun e=>this e.symm),fO hdn this]
      exact I.pe j d' v' hj (((hset j).1 hl).resolve_left hji) hv
    ·by_cases hji:j=i
     ·subst hji
      obtain rfl:d=d':=Option.some.inj (hda.symm.trans hj)
      simp only[vL,fI,if_true]
      rw[hres] at hv
      cases hv
      rfl
     ·have:=hdne j d' hji hj
      simp only[vL,fI]
      rw[if_neg (fun e=>this e.symm),fO hdn this]
      exact I.Bc j d' sl off hj (((hset j).1 hl).resolve_left hji) hv
    ·rcases List.mem_cons.1 hq with rfl|hq
     ·exact fun j=>hT i sl0 off0 hres j
     ·exact I.Mh q (jJ hq)}
theorem Ff {id:Nat} {s:St} {frF:Fr} (hm:N.P.follows .mixedOrders=true) (C:qw ops L act) (hT:∀ j sl off,res j = .ep sl off→∀ i,bA ops i≠some sl) (hstep:∀ i o k,ops[i]? = some o→k≤act.length→fP L act i k=true→∃ V,View ops L s res i V∧V.h=Hs k∧One N ops o V (res i) (Hs (if i∈act then k+1 else k))) (hact:∀ a∈act,a<ops.size) (h0:s.h=Hs 0) (hF:∀ p∈frF,((∀ j,bA ops j≠some p.1)∧aS s.fr p.1=p.2)∨∃ j,bA ops j=some p.1∧res j = .sl p.2) : Ev N (.code (.region id ops true) s .normal ⟨frF,[],Hs act.length⟩):=by{
classical
refine .vz (uk N ops act s res Hs) (fun S t i=>match ops[i]? with
 | some o=>if h:∃ s',Ev N (.ops ops [o] t s')∧uk N ops act s res Hs (S.setIfInBounds i true) s' then h.choose else t
 | none=>t) hm ?_ ?_ ?_ ?_ rfl
·refine⟨by simp,fun j o _ hl=>?_,⟨0,Nat.zero_le _,h0,fun j _=>?_⟩,fun x _=>⟨rfl,rfl⟩,fun j d v _ hl=>?_,fun j d sl off _ hl=>?_,fun q hq=>by cases hq⟩
 ·rw[getD_replicate_false] at hl
  cases hl
 ·rw[getD_replicate_false]
  simp
 ·rw[getD_replicate_false] at hl
  cases hl
 ·rw[getD_replicate_false] at hl
  cases hl
·intro S t i o I hi ho
 simp only[ho]
 have h:=I.step C hT (hstep i) hi ho
 rw[dif_pos h]
 exact h.choose_spec.1
·intro S t i o I hi ho
 simp only[ho]
 have h:=I.step C hT (hstep i) hi ho
 rw[dif_pos h]
 exact h.choose_spec.2
·intro S t I hr
 have hall:∀ i,i<ops.size→S.getD i false=true:=by
  intro i
  induction i using Nat.strongRecOn with
  | _ i ih=>
    intro hi
    cases hb:S.getD i false with
    | true=>rfl
    | false=>
      have:i∈Region.ready .any ops S:=mem_ready.2 ⟨getD_in (by rw[I.size];exact hi) hb,ops[i],Array.getElem?_eq_getElem hi,fun e he hbi=>by
       have hlow:=C.low i _ (Array.getElem?_eq_getElem hi) e he hbi
       exact ih e.on hlow (by omega)⟩
      rw[hr] at this
      cases this
 refine⟨fun p hp=>?_,?_⟩
 ·rcases hF p hp with ⟨h1,h2⟩ | ⟨j,h1,h2⟩
  ·exact (I.out p.1 h1).1.trans h2
  ·exact (I.pe j p.1 p.2 h1 (hall j (re h1)) h2).1
 ·obtain⟨k,hk,hh,hpre⟩:=I.pre
  have:k=act.length:=by
   rcases Nat.lt_or_ge k act.length with h|h
   ·have:=(hpre k h).1 (hall _ (hact _ (by simp [h])))
    omega
   ·omega
  rw[hh,this]}
end
def dstsOf (ops:Array Oper):List Nat:=ops.toList.filterMap (·.dst)
def i4 (resL:List fW) (j:Nat):fW:=(resL[j]?).getD (.sl .dy)
def qH (hs:List ah) (k:Nat):ah:=(hs[k]?).getD []
def iC (ops:Array Oper) (resL:List fW):List Nat→Fr
 | []=>[]
 | j :: l=>match bA ops j,resL[j]? with
   | some d,some (.sl v)=>(d,v) :: iC ops resL l
   | _,_=>iC ops resL l
def wW (ops:Array Oper) (resL:List fW):List Nat→BF
 | []=>[]
 | j :: l=>match bA ops j,resL[j]? with
   | some d,some (.ep sl off)=>(d,([],(sl,off))) :: wW ops resL l
   | _,_=>wW ops resL l
def gL (ds:List Nat):Fr→Fr
 | []=>[]
 | (k,v) :: r=>if ds.contains k then gL ds r else (k,v) :: gL ds r
def fa (ops:Array Oper) (L:List (List Nat)) (resL:List fW) (fr:Fr) (h:ah) (i:Nat):St:=⟨gL (dstsOf ops) fr++iC ops resL (fw L i),wW ops resL (fw L i),h⟩
section
variable {N:Env} {ops:Array Oper} {L:List (List Nat)} {act:List Nat} {resL:List fW}
theorem gK {j d:Nat} (h:bA ops j=some d):d∈dstsOf ops:=by{
unfold bA at h
split at h
·rename_i o ho
 unfold dstsOf
 rw[List.mem_filterMap]
 exact⟨o,Array.mem_toList_iff.2 (Array.mem_of_getElem? ho),h⟩
·cases h}
theorem iV {x:Nat}:∀ {l:List Nat},aS (iC ops resL l) x = .dy∨∃ j,bA ops j=some x∧j∈l∧resL[j]? = some (.sl (aS (iC ops resL l) x))
 | []=>.inl rfl
 | j :: l=>by
   have ih:=iV (x:=x) (l:=l)
   have ih':aS (iC ops resL l) x = .dy∨∃ j',bA ops j'=some x∧j'∈j :: l∧resL[j']? = some (.sl (aS (iC ops resL l) x)):=by
    rcases ih with h|⟨j',h1,h2,h3⟩
    ·exact .inl h
    ·exact .inr ⟨j',h1,List.mem_cons_of_mem _ h2,h3⟩
   simp only[iC]
   split
   ·rename_i d v hd hr
    simp only[aS]
    split
    ·rename_i hx
     subst hx
     exact .inr ⟨j,hd,List.mem_cons_self,hr⟩
    ·exact ih'
   ·exact ih'
theorem oD {x:Nat} {p:List Key×(Nat×Nat)}:∀ {l:List Nat},fI (wW ops resL l) x=some p→∃ j sl off,bA ops j=some x∧j∈l∧resL[j]? = some (.ep sl off)∧p=([],(sl,off))
 | [],h=>by cases h
 | j :: l,h=>by
   have ih:fI (wW ops resL l) x=some p→∃ j' sl off,bA ops j'=some x∧j'∈j :: l∧resL[j']? = some (.ep sl off)∧p=([],(sl,off)):=fun h=>by
    obtain⟨j',sl,off,h1,h2,h3⟩:=oD h
    exact⟨j',sl,off,h1,List.mem_cons_of_mem _ h2,h3⟩
   simp only[wW] at h
   split at h
   ·rename_i d sl off hd hr
    simp only[fI] at h
    split at h
    ·rename_i hx
     subst hx
     cases h
     exact⟨j,sl,off,hd,List.mem_cons_self,hr,rfl⟩
    ·exact ih h
   ·exact ih h
theorem oe {ds:List Nat} {B:Fr} {x:Nat} (hx:x∈ds):∀ {fr:Fr},aS (gL ds fr++B) x=aS B x
 | []=>rfl
 | (k,v) :: r=>by
   simp only[gL]
   split
   ·exact oe hx
   ·rename_i hk
    have:k≠x:=fun e=>hk (by rw[e];simpa using hx)
    simp only[List.cons_append,aS,if_neg this]
    exact oe hx
theorem mj {ds:List Nat} {B:Fr} {x:Nat} (hx:x∉ds) (hB:aS B x = .dy):∀ {fr:Fr},aS (gL ds fr++B) x=aS fr x
 | []=>hB
 | (k,v) :: r=>by
   simp only[gL]
   split
   ·rename_i hk
    have:k≠x:=fun e=>hx (by rw[← e];simpa using hk)
    simp only[aS,if_neg this]
    exact mj hx hB
   ·simp only[List.cons_append,aS]
    split
    ·rfl
    ·exact mj hx hB
theorem jF {j:Nat} {r:fW} (h:resL[j]? = some r):i4 resL j=r:=by simp [i4,h]
theorem u9 (C:qw ops L act) {s0:St} {h:ah} {i:Nat}:View ops L s0 (i4 resL) i (fa ops L resL s0.fr h i):=by{
have hf:∀ x,aS (fa ops L resL s0.fr h i).fr x = .dy∨((∀ j,bA ops j≠some x)∧aS s0.fr x=aS (fa ops L resL s0.fr h i).fr x)∨∃ j,bA ops j=some x∧j∈fw L i∧i4 resL j = .sl (aS (fa ops L resL s0.fr h i).fr x):=by
 intro x
 by_cases hx:x∈dstsOf ops
 ·simp only[fa,oe hx]
  rcases iV (ops:=ops) (resL:=resL) (x:=x) (l:=fw L i) with h|⟨j,h1,h2,h3⟩
  ·exact .inl h
  ·exact .inr (.inr ⟨j,h1,h2,jF h3⟩)
 ·have hB:aS (iC ops resL (fw L i)) x = .dy:=by
   rcases iV (ops:=ops) (resL:=resL) (x:=x) (l:=fw L i) with h|⟨j,h1,_⟩
   ·exact h
   ·exact (hx (gK h1)).elim
  refine .inr (.inl ⟨fun j hj=>hx (gK hj),?_⟩)
  simp only[fa,mj hx hB]
refine⟨hf,fun x p hp=>?_,fun x hx=>?_⟩
·obtain⟨j,sl,off,h1,h2,h3,h4⟩:=oD hp
 exact⟨j,sl,off,h1,h2,jF h3,h4⟩
·cases he:fI (fa ops L resL s0.fr h i).ee x with
 | none=>rfl
 | some p=>
   obtain⟨j,sl,off,h1,h2,h3,_⟩:=oD he
   rcases hf x with h|⟨h,_⟩ | ⟨j',k1,k2,k3⟩
   ·exact (hx h).elim
   ·exact (h j h1).elim
   ·obtain rfl:=C.dst j j' x h1 k1
    rw[jF h3] at k3
    cases k3}
def Jh (all:Array Oper) (d:Nat):Bool:=all.any fun o=>match o.op with
 | .call c=>match c.callee with
   | .builtin .append=>match c.args.toList with
     | [_,.tmp y]=>y == d
     | _=>false
   | _=>false
 | _=>false
def sa (N:Env) (call:FuncId→List Value→ah→Option (Value×ah)) (nm:FuncId→Bool) (all:Array Oper) (o:Oper) (s:St):Option (fW×ah):=
 match aE all o s with
 | none=>none
 | some false=>some (.sl (.val (.tuple #[])),s.h)
 | some true=>match o.op with
   | .box t x=>(gY N s (.box t x)).map fun p=>(.sl (.val (.pointer (some ⟨s.h.length,0,some 0⟩))),s.h++[av.aj p.2 0 true p.1])
   | .alloc t=>(gY N s (.alloc t)).map fun p=>(.sl (.val (.pointer (some ⟨s.h.length,0,some 0⟩))),s.h++[av.aj p.2 0 true p.1])
   | .buildSlice t l ps=>match o.dst with
     | some d=>if Jh all d then (ja N s (.buildSlice t l ps)).map fun p=>(.sl (.nj p.2.1 p.2.2),s.h)
       else (ja N s (.buildSlice t l ps)).map fun p=>(.sl (.val (.slice (some ⟨s.h.length,0,some 0⟩) p.2.2 p.2.2)),s.h++[av.aj p.2.1 0 true p.1])
     | none=>none
   | .makeSlice t l c=>(x6 N s (.makeSlice t l c)).map fun p=>(.sl (.val (.slice (some ⟨s.h.length,0,some 0⟩) p.2.2 p.2.2)),s.h++[av.aj p.2.1 0 true p.1])
   | .store t a x=>match o.dst with
     | none=>match ar N.P t,ev s a,ev s x with
       | some ti,some (.pointer (some ⟨id,off,some au⟩)),some v=>match s.h[id]?,dQ ti.size v with
         | some (.aj cells ver' true et),some vs=>if ver'=au then (lj cells off vs).map fun cells'=>(.sl .dy,s.h.set id (av.aj cells' au true et)) else none
         | _,_=>none
       | _,_,_=>none
     | some _=>none
   | .makeMap t none=>match N.P.underlying t with
     | some (.map _ _)=>some (.sl (.val (.map (some s.h.length))),s.h++[av.map []])
     | _=>none
   | .mapUpdate t x i y=>match o.dst with
     | none=>match Br N s t x,ev s i,ev s y with
       | some (id,es,kd,_),some k,some v=>if kd k then some (.sl .dy,s.h.set id (av.map (iE es k v))) else none
       | _,_,_=>none
     | some _=>none
   | .mapEntry t x i=>match Br N s t x,ev s i with
     | some (id,es,kd,et),some k=>match zeroOf N.P et with
       | some z=>if kd k then some (.sl (.val (.tuple #[(ot es k z).1,.int .i64 (ot es k z).2.1])),s.h.set id (av.map (ot es k z).2.2)) else none
       | none=>none
     | _,_=>none
   | .entryStore _ x i y=>match o.dst with
     | none=>match ev s x,ev s i,ev s y with
       | some (.map (some id)),some (.int .i64 (.ofNat j)),some v=>match s.h[id]? with
         | some (.map es)=>match es[j]? with
           | some (k,_)=>some (.sl .dy,s.h.set id (av.map (es.set j (k,v))))
           | none=>none
         | _=>none
       | _,_,_=>none
     | some _=>none
   | .call c=>match c.callee with
     | .builtin .append=>match c.args.toList,c.argTypes.toList with
       | [x,y],[t,t2]=>match N.P.underlying t with
         | some (.slice e)=>match ar N.P e with
           | some ti=>if t2=t∧0<ti.size∧(ti.zero.map fun z=>z.cells.size)=some ti.size then (match ct s s.h ti.size y with
             | some (cs,m)=>match ev s x with
               | some (.slice none 0 0)=>if 0<m∧m*ti.bytes≤140737488355328∧m≤140737488355328 then some (.sl (.val (.slice (some ⟨s.h.length,0,some 0⟩) m m)),s.h++[av.aj cs 0 true e]) else none
               | some (.slice (some ⟨id,0,some au⟩) n _)=>match s.h[id]? with
                 | some (.aj cells ver' true et)=>if ver'=au∧et=e∧n*ti.size≤cells.length∧(n+m)*ti.bytes≤140737488355328∧n+m≤140737488355328 then
                  some (.sl (.val (.slice (some ⟨id,0,some (au+1)⟩) (n+m) (n+m))),s.h.set id (av.aj (cells.take (n*ti.size)++cs) (au+1) true e)) else none
                 | _=>none
               | _=>none
             | none=>none) else none
           | none=>none
         | _=>none
       | _,_=>none
     | .builtin _=>(pE N s o.op).map fun v=>(.sl (.val v),s.h)
     | cal=>match fi s cal,sQ s c.args.toList with
       | some (f,cap),some args=>if nm f then (match call f (args++cap) s.h with
         | some (v,h')=>some (.sl (.val v),h')
         | none=>none) else none
       | _,_=>none
   | _=>match pE N s o.op with
     | some v=>some (.sl (.val v),s.h)
     | none=>match vM N s o.op,o.dst with
       | some (sl,off),some d=>if sl=d then none else some (.ep sl off,s.h)
       | _,_=>none
variable {call:FuncId→List Value→ah→Option (Value×ah)} {nm:FuncId→Bool}
theorem C3 (hC:gn N call) (hn:rS N nm) {all:Array Oper} {o:Oper} {s:St} {r:fW} {h':ah} (h:sa N call nm all o s=some (r,h')):One N all o s r h':=by{
unfold sa at h
split at h
·cases h
·rename_i hw
 cases h
 exact .skip hw
·rename_i hw
 split at h
 ·rename_i t x ho
  cases hb:gY N s (.box t x) with
  | none=>simp [hb] at h
  | some p=>
    simp only[hb,Option.map_some,Option.some.injEq,Prod.mk.injEq] at h
    obtain⟨rfl,rfl⟩:=h
    exact .DE hw (by rw[ho];exact hb)
 ·rename_i t ho
  cases hb:gY N s (.alloc t) with
  | none=>simp [hb] at h
  | some p=>
    simp only[hb,Option.map_some,Option.some.injEq,Prod.mk.injEq] at h
    obtain⟨rfl,rfl⟩:=h
    exact .DE hw (by rw[ho];exact hb)
 ·rename_i t l ps ho
  split at h
  ·rename_i d hd
   split at h
   ·cases hb:ja N s (.buildSlice t l ps) with
    | none=>simp [hb] at h
    | some p=>
      simp only[hb,Option.map_some,Option.some.injEq,Prod.mk.injEq] at h
      obtain⟨rfl,rfl⟩:=h
      exact .nj hw hd (by rw[ho];exact hb)
   ·cases hb:ja N s (.buildSlice t l ps) with
    | none=>simp [hb] at h
    | some p=>
      simp only[hb,Option.map_some,Option.some.injEq,Prod.mk.injEq] at h
      obtain⟨rfl,rfl⟩:=h
      exact .CZ hw (by rw[ho];exact hb)
  ·cases h
 ·rename_i t l c ho
  cases hb:x6 N s (.makeSlice t l c) with
  | none=>simp [hb] at h
  | some p=>
    simp only[hb,Option.map_some,Option.some.injEq,Prod.mk.injEq] at h
    obtain⟨rfl,rfl⟩:=h
    exact .mk hw (by rw[ho];exact hb)
 ·rename_i t a x ho
  split at h
  ·rename_i hd
   split at h
   ·rename_i ti id off au v ht ha hx
    split at h
    ·rename_i cells ver' et vs hid hv
     split at h
     ·rename_i hver
      subst hver
      cases hq:Am.lj cells off vs with
      | none=>simp [hq] at h
      | some cells'=>
        simp only[hq,Option.map_some,Option.some.injEq,Prod.mk.injEq] at h
        obtain⟨rfl,rfl⟩:=h
        exact .jn hw ho ht ha hid hx hv hq hd
     ·cases h
    ·cases h
   ·cases h
  ·cases h
 ·rename_i t ho
  split at h
  ·rename_i kt et hu
   cases h
   exact .map hw ho hu
  ·cases h
 ·rename_i t x i y ho
  split at h
  ·rename_i hd
   split at h
   ·rename_i id es kd et k v hm hk hv
    split at h
    ·rename_i hkk
     cases h
     obtain⟨kt,hu,hkd,hx,hid,hmk⟩:=lI hm
     exact .zR hw ho hu hkd hx hid hk hv hkk hmk hd
    ·cases h
   ·cases h
  ·cases h
 ·rename_i t x i ho
  split at h
  ·rename_i id es kd et k hm hk
   split at h
   ·rename_i z hz
    split at h
    ·rename_i hkk
     cases h
     obtain⟨kt,hu,hkd,hx,hid,hmk⟩:=lI hm
     exact .xH hw ho hu hkd hz hx hid hk hkk hmk rfl
    ·cases h
   ·cases h
  ·cases h
 ·rename_i t x i y ho
  split at h
  ·rename_i hd
   split at h
   ·rename_i id j v hx hi hv
    split at h
    ·rename_i es hid
     split at h
     ·rename_i k u hj
      cases h
      exact .Mv hw ho hx hid hi hv hj hd
     ·cases h
    ·cases h
   ·cases h
  ·cases h
 ·rename_i c ho
  split at h
  ·rename_i hc
   split at h
   ·rename_i x y t t2 hx ht
    have ho':o.op = .call { callee:=.builtin .append,args:=#[x,y],argTypes:=#[t,t2] }:=by
     rw[ho]
     cases c with
     | mk cal a ty=>
       simp only at hc hx ht
       subst hc
       rw[show a=#[x,y] from Array.toList_inj.1 hx,show ty=#[t,t2] from Array.toList_inj.1 ht]
    split at h
    ·rename_i e hu
     split at h
     ·rename_i ti hti
      split at h
      ·rename_i hq
       obtain⟨q1,q2,q3⟩:=hq
       split at h
       ·rename_i cs m hi
        split at h
        ·rename_i hv
         split at h
         ·rename_i hm
          cases h
          exact .yJ hw ho' hu q1 hti q2 q3 hv hi hm.1 hm.2.1 hm.2.2
         ·cases h
        ·rename_i id au n cp hv
         split at h
         ·rename_i cells ver' et hid
          split at h
          ·rename_i hm
           obtain⟨rfl,rfl,m1,m2,m3⟩:=hm
           cases h
           exact .Ko hw ho' hu q1 hti q2 q3 hv hid m1 hi m2 m3
          ·cases h
         ·cases h
        ·cases h
       ·cases h
      ·cases h
     ·cases h
    ·cases h
   ·cases h
  ·rename_i b hb
   cases hv:pE N s o.op with
   | none=>simp [hv] at h
   | some v=>
     simp only[hv,Option.map_some,Option.some.injEq,Prod.mk.injEq] at h
     obtain⟨rfl,rfl⟩:=h
     exact .val hw hv
  ·split at h
   ·rename_i f cap args hcal hargs
    split at h
    ·rename_i hnm
     split at h
     ·rename_i v h' hcall
      cases h
      obtain⟨⟨fn,h1,h2⟩,h3⟩:=hC _ _ _ _ _ hcall
      exact .call hw ho hcal hargs h1 (hn _ _ hnm h1) h2 h3
     ·cases h
    ·cases h
   ·cases h
 ·split at h
  ·rename_i v hv
   cases h
   exact .val hw hv
  ·split at h
   ·rename_i sl off d he hd
    split at h
    ·cases h
    ·rename_i hne
     cases h
     exact .ee hw hd he hne
   ·cases h}
def fE (N:Env) (ops:Array Oper) (L:List (List Nat)) (act:List Nat) (resL:List fW) (hs:List ah) (fr:Fr) (i:Nat) (o:Oper):List Nat→Prop
 | []=>True
 | k :: l=>(fP L act i k=true→One N ops o (fa ops L resL fr (qH hs k) i) (i4 resL i) (qH hs (if i∈act then k+1 else k)))∧fE N ops L act resL hs fr i o l
def eO (N:Env) (ops:Array Oper) (L:List (List Nat)) (act:List Nat) (resL:List fW) (hs:List ah) (fr:Fr):Nat→List Oper→Prop
 | _,[]=>True
 | i,o :: l=>fE N ops L act resL hs fr i o (List.range (act.length+1))∧eO N ops L act resL hs fr (i+1) l
theorem fE.at {hs:List ah} {fr:Fr} {i:Nat} {o:Oper}:∀ {l:List Nat} {k:Nat},fE N ops L act resL hs fr i o l→k∈l→fP L act i k=true →
 One N ops o (fa ops L resL fr (qH hs k) i) (i4 resL i) (qH hs (if i∈act then k+1 else k))
 | [],_,_,h=>by cases h
 | k' :: l,k,⟨h1,h2⟩,h=>by
   rcases List.mem_cons.1 h with rfl|h
   ·exact h1
   ·exact fE.at h2 h
theorem eO.at {hs:List ah} {fr:Fr}:∀ {l:List Oper} {i j:Nat} {o:Oper},eO N ops L act resL hs fr i l→l[j]? = some o→fE N ops L act resL hs fr (i+j) o (List.range (act.length+1))
 | [],_,_,_,_,h=>by simp at h
 | o' :: l,i,0,o,⟨h1,_⟩,h=>by
   simp only[List.getElem?_cons_zero,Option.some.injEq] at h
   exact h▸h1
 | o' :: l,i,j+1,o,⟨_,h2⟩,h=>by
   have:=eO.at h2 (by simpa using h)
   rwa [show i+1+j=i+(j+1) by omega] at this
def za (ops:Array Oper) (resL:List fW):Bool:=resL.all fun r=>match r with
 | .ep sl _=>!(dstsOf ops).contains sl
 | _=>true
def gI (ops:Array Oper) (resL:List fW) (fr:Fr):Fr→Prop
 | []=>True
 | (x,v) :: r=>((x∉dstsOf ops∧aS fr x=v)∨aS (iC ops resL (List.range ops.size)) x=v∧v≠.dy)∧gI ops resL fr r
theorem gI.at {fr:Fr}:∀ {frF:Fr} {p:Nat×fK},gI ops resL fr frF→p∈frF→((∀ j,bA ops j≠some p.1)∧aS fr p.1=p.2)∨∃ j,bA ops j=some p.1∧i4 resL j = .sl p.2
 | [],p,_,h=>by cases h
 | (x,v) :: r,p,⟨h1,h2⟩,h=>by
   rcases List.mem_cons.1 h with rfl|h
   ·rcases h1 with ⟨h3,h4⟩ | ⟨h3,h4⟩
    ·exact .inl ⟨fun j hj=>h3 (gK hj),h4⟩
    ·rcases iV (ops:=ops) (resL:=resL) (x:=x) (l:=List.range ops.size) with h|⟨j,k1,_,k3⟩
     ·exact (h4 (h3.symm.trans h)).elim
     ·exact .inr ⟨j,k1,by rw[jF k3,h3]⟩
   ·exact gI.at h2 h
theorem nG {id:Nat} {s:St} {hs:List ah} {frF:Fr} (hm:N.P.follows .mixedOrders=true) (hc:uG ops L act=true) (ha:act.all (fun a=>decide (a<ops.size))=true) (ht:za ops resL=true) (h0:s.h=qH hs 0) (hS:eO N ops L act resL hs s.fr 0 ops.toList) (hF:gI ops resL s.fr frF):Ev N (.code (.region id ops true) s .normal ⟨frF,[],qH hs act.length⟩):=by{
have C:=tc hc
refine Ff (res:=i4 resL) (Hs:=qH hs) hm C ?_ ?_ (fun a h=>by simpa using List.all_eq_true.1 ha a h) h0 fun p hp=>hF.at hp
·intro j sl off hr i hi
 unfold i4 at hr
 cases hj:resL[j]? with
 | none=>simp [hj] at hr
 | some r=>
   simp only[hj,Option.getD_some] at hr
   have:=List.all_eq_true.1 ht r (List.mem_of_getElem? hj)
   rw[hr] at this
   simp only[Bool.not_eq_true',List.contains_eq_mem,decide_eq_false_iff_not] at this
   exact this (gK hi)
·intro i o k ho hk hst
 have h1:=eO.at (j:=i) hS (by simpa using ho)
 rw[Nat.zero_add] at h1
 exact⟨_,u9 C,rfl,h1.at (List.mem_range.2 (by omega)) hst⟩}
end
def Ra:Value→Value→Bool
 | .int k a,.int k' b=>decide (k=k')&&decide (a=b)
 | .bool a,.bool b=>decide (a=b)
 | .string a,.string b=>decide (a=b)
 | .pointer p,.pointer q=>decide (p=q)
 | .slice p n c,.slice q m d=>decide (p=q)&&decide (n=m)&&decide (c=d)
 | .map p,.map q=>decide (p=q)
 | .nilFunc,.nilFunc=>true
 | .nilIface,.nilIface=>true
 | _,_=>false
def yr:List Value→List Value→Bool
 | [],[]=>true
 | a :: l,b :: r=>Ra a b&&yr l r
 | _,_=>false
def Q4 (a b:Value):Bool:=
 match a,b with
 | .func (.func f) xs cs,.func (.func g) ys ds=>decide (f=g)&&yr xs.toList ys.toList&&yr cs.toList ds.toList
 | x,y=>Ra x y
def va:List Value→List Value→Bool
 | [],[]=>true
 | a :: l,b :: r=>Q4 a b&&va l r
 | _,_=>false
def Lt (a b:Value):Bool:=
 match a,b with
 | .agg xs,.agg ys=>va xs.toList ys.toList
 | .tuple xs,.tuple ys=>va xs.toList ys.toList
 | x,y=>Q4 x y
def BW:List (Value×Value)→List (Value×Value)→Bool
 | [],[]=>true
 | (k,v) :: l,(k',v') :: r=>Lt k k'&&Lt v v'&&BW l r
 | _,_=>false
def zf:ah→ah→Bool
 | [],[]=>true
 | .map es :: l,.map es' :: r=>BW es es'&&zf l r
 | .aj cs v o t :: l,.aj cs' v' o' t' :: r=>va cs cs'&&decide (v=v')&&decide (o=o')&&decide (t=t')&&zf l r
 | _,_=>false
def RH:fK→fK→Bool
 | .val a,.val b=>Lt a b
 | .nj cs n,.nj cs' n'=>va cs cs'&&decide (n=n')
 | .dy,.dy=>true
 | _,_=>false
def Rl:fW→fW→Bool
 | .sl a,.sl b=>RH a b
 | .ep a b,.ep c d=>decide (a=c)&&decide (b=d)
 | _,_=>false
theorem tO {a b:Value} (h:Ra a b=true):a=b:=by
 unfold Ra at h
 split at h<;>simp_all
theorem l9:∀ {a b:List Value},yr a b=true→a=b
 | [],[],_=>rfl
 | a :: l,b :: r,h=>by
   simp only[yr,Bool.and_eq_true] at h
   rw[tO h.1,l9 h.2]
 | [],_ :: _,h=>by simp [yr] at h
 | _ :: _,[],h=>by simp [yr] at h
theorem sZ {a b:Value} (h:Q4 a b=true):a=b:=by{
unfold Q4 at h
split at h
·simp only[Bool.and_eq_true,decide_eq_true_eq] at h
 rw[h.1.1,Array.toList_inj.1 (l9 h.1.2),Array.toList_inj.1 (l9 h.2)]
·exact tO h}
theorem iT:∀ {a b:List Value},va a b=true→a=b
 | [],[],_=>rfl
 | a :: l,b :: r,h=>by
   simp only[va,Bool.and_eq_true] at h
   rw[sZ h.1,iT h.2]
 | [],_ :: _,h=>by simp [va] at h
 | _ :: _,[],h=>by simp [va] at h
theorem jA {a b:Value} (h:Lt a b=true):a=b:=by{
unfold Lt at h
split at h
·rw[Array.toList_inj.1 (iT h)]
·rw[Array.toList_inj.1 (iT h)]
·exact sZ h}
theorem rr:∀ {a b:List (Value×Value)},BW a b=true→a=b
 | [],[],_=>rfl
 | (k,v) :: l,(k',v') :: r,h=>by
   simp only[BW,Bool.and_eq_true] at h
   rw[jA h.1.1,jA h.1.2,rr h.2]
 | [],_ :: _,h=>by simp [BW] at h
 | _ :: _,[],h=>by simp [BW] at h
theorem gT:∀ {a b:ah},zf a b=true→a=b
 | [],[],_=>rfl
 | .map es :: l,.map es' :: r,h=>by
   simp only[zf,Bool.and_eq_true] at h
   rw[rr h.1,gT h.2]
 | .map _ :: _,.aj .. :: _,h=>by simp [zf] at h
 | .aj .. :: _,.map _ :: _,h=>by simp [zf] at h
 | .aj cs v o t :: l,.aj cs' v' o' t' :: r,h=>by
   simp only[zf,Bool.and_eq_true,decide_eq_true_eq] at h
   obtain⟨⟨⟨⟨h1,rfl⟩,rfl⟩,rfl⟩,h2⟩:=h
   rw[iT h1,gT h2]
 | [],_ :: _,h=>by simp [zf] at h
 | _ :: _,[],h=>by simp [zf] at h
theorem Ci {a b:fK} (h:RH a b=true):a=b:=by{
unfold RH at h
split at h
·rw[jA h]
·simp only[Bool.and_eq_true,decide_eq_true_eq] at h
 rw[iT h.1,h.2]
·rfl
·cases h}
theorem Bv {a b:fW} (h:Rl a b=true):a=b:=by{
unfold Rl at h
split at h
·rw[Ci h]
·simp only[Bool.and_eq_true,decide_eq_true_eq] at h
 rw[h.1,h.2]
·cases h}
def pI (o:Oper):Bool:=
 match o.op with
 | .box _ _=>true
 | .alloc _=>true
 | .makeSlice _ _ _=>true
 | .store _ _ _=>true
 | .makeMap _ _=>true
 | .buildSlice _ _ _=>true
 | .mapUpdate _ _ _ _=>true
 | .mapEntry _ _ _=>true
 | .entryStore _ _ _ _=>true
 | .call c=>match c.callee with
   | .builtin .append=>true
   | .builtin _=>false
   | _=>true
 | _=>false
theorem EA {N:Env} {call:FuncId→List Value→ah→Option (Value×ah)} {nm:FuncId→Bool} {all:Array Oper} {o:Oper} {s:St} {r:fW} {h':ah} (hm:pI o=false) (h:sa N call nm all o s=some (r,h')):h'=s.h:=by{
unfold sa at h
unfold pI at hm
split at h
·cases h
·cases h;rfl
·split at h
 all_goals first
  | (rename_i ho;rw[ho] at hm;cases hm;done)
  | skip
 ·rename_i c ho
  rw[ho] at hm
  simp only at hm
  split at h
  ·rename_i hc
   rw[hc] at hm
   cases hm
  ·cases hv:pE N s o.op with
   | none=>simp [hv] at h
   | some v=>
     simp only[hv,Option.map_some,Option.some.injEq,Prod.mk.injEq] at h
     exact h.2.symm
  ·rename_i cal c1 c2
   exfalso
   generalize c.callee=q at *
   cases q with
   | builtin b=>exact c2 b rfl
   | value f=>cases hm
   | invoke a b=>cases hm
 ·split at h
  ·cases h;rfl
  ·split at h
   ·split at h
    ·cases h
    ·cases h;rfl
   ·cases h}
section
variable (N:Env) (call:FuncId→List Value→ah→Option (Value×ah)) (nm:FuncId→Bool) (ops:Array Oper) (L:List (List Nat)) (act:List Nat) (fr:Fr)
def Ow:Nat→List Oper→List fW→List ah→ah→Option (List fW×List ah)
 | _,[],resL,hs,_=>some (resL,hs)
 | i,o :: r,resL,hs,h=>match sa N call nm ops o (fa ops L resL fr h i) with
   | some (rs,h')=>Ow (i+1) r (resL++[rs]) (if act.contains i then hs++[h'] else hs) h'
   | none=>none
def u6 (resL:List fW) (hs:List ah) (i:Nat) (o:Oper):List Nat→Bool
 | []=>true
 | k :: l=>(!fP L act i k||(match sa N call nm ops o (fa ops L resL fr (qH hs k) i) with
   | some (r,h')=>Rl r (i4 resL i)&&(if pI o then zf h' (qH hs (if i∈act then k+1 else k)) else !act.contains i)
   | none=>false))&&u6 resL hs i o l
def uK (resL:List fW) (hs:List ah):Nat→List Oper→Bool
 | _,[]=>true
 | i,o :: l=>u6 N call nm ops L act fr resL hs i o (List.range (act.length+1))&&uK resL hs (i+1) l
end
def nn (P:Nat→Bool) (g:Fr):Fr→Fr
 | []=>[]
 | (x,_) :: r=>if P x then (match aS g x with
   | .dy=>nn P g r
   | v=>(x,v) :: nn P g r) else nn P g r
def Qh (ops:Array Oper) (resL:List fW) (fr:Fr):Fr:=
 nn (fun _=>true) (iC ops resL (List.range ops.size)) (iC ops resL (List.range ops.size))++nn (fun x=>!(dstsOf ops).contains x) fr fr
def IQ (N:Env) (call:FuncId→List Value→ah→Option (Value×ah)) (nm:FuncId→Bool) (ops:Array Oper) (L:List (List Nat)) (fr:Fr):Nat→List Oper→List fW→ah→Option (List Nat)
 | _,[],_,_=>some []
 | i,o :: r,resL,h=>match sa N call nm ops o (fa ops L resL fr h i) with
   | some (rs,h')=>match IQ N call nm ops L fr (i+1) r (resL++[rs]) h' with
     | some l=>some (if pI o then (if zf h h' then l else i :: l) else l)
     | none=>none
   | none=>none
def RN (N:Env) (call:FuncId→List Value→ah→Option (Value×ah)) (nm:FuncId→Bool) (ops:Array Oper) (s:St):Option St:=
 match IQ N call nm ops (zT ops) s.fr 0 ops.toList [] s.h with
 | none=>none
 | some act=>match Ow N call nm ops (zT ops) act s.fr 0 ops.toList [] [s.h] s.h with
   | some (resL,hs)=>
     if uG ops (zT ops) act&&(act.all fun a=>decide (a<ops.size))&&za ops resL&&zf s.h (qH hs 0)&&uK N call nm ops (zT ops) act s.fr resL hs 0 ops.toList then
      some ⟨Qh ops resL s.fr,[],qH hs act.length⟩ else none
   | none=>none
section
variable {N:Env} {call:FuncId→List Value→ah→Option (Value×ah)} {nm:FuncId→Bool} {ops:Array Oper} {L:List (List Nat)} {act:List Nat} {fr:Fr} {resL:List fW} {hs:List ah}
theorem tX (hC:gn N call) (hn:rS N nm) {i:Nat} {o:Oper}:∀ {l:List Nat},u6 N call nm ops L act fr resL hs i o l=true→fE N ops L act resL hs fr i o l
 | [],_=>trivial
 | k :: l,h=>by
   simp only[u6,Bool.and_eq_true,Bool.or_eq_true,Bool.not_eq_true'] at h
   refine⟨fun hst=>?_,tX hC hn h.2⟩
   rcases h.1 with h1|h1
   ·rw[hst] at h1
    cases h1
   ·split at h1
    ·rename_i r h' hr
     simp only[Bool.and_eq_true] at h1
     rw[← Bv h1.1]
     have h2:=h1.2
     split at h2
     ·rw[← gT h2]
      exact C3 hC hn hr
     ·rename_i hmt
      have e:=EA (by simpa using hmt) hr
      have hni:¬ i∈act:=by simpa using h2
      rw[if_neg hni]
      have e':h'=qH hs k:=e
      rw[e'] at hr
      exact C3 hC hn hr
    ·cases h1
theorem tk (hC:gn N call) (hn:rS N nm):∀ {l:List Oper} {i:Nat},uK N call nm ops L act fr resL hs i l=true→eO N ops L act resL hs fr i l
 | [],_,_=>trivial
 | o :: l,i,h=>by
   simp only[uK,Bool.and_eq_true] at h
   exact⟨tX hC hn h.1,tk hC hn h.2⟩
theorem gI.append {fr:Fr}:∀ {a b:Fr},gI ops resL fr a→gI ops resL fr b→gI ops resL fr (a++b)
 | [],_,_,h=>h
 | (_,_) :: _,_,⟨h1,h2⟩,h=>⟨h1,gI.append h2 h⟩
theorem L0:∀ {l:Fr},gI ops resL fr (nn (fun _=>true) (iC ops resL (List.range ops.size)) l)
 | []=>trivial
 | (x,_) :: r=>by
   simp only[nn,if_true]
   split
   ·exact L0
   ·rename_i h
    exact⟨.inr ⟨rfl,h⟩,L0⟩
theorem F0:∀ {l:Fr},gI ops resL fr (nn (fun x=>!(dstsOf ops).contains x) fr l)
 | []=>trivial
 | (x,_) :: r=>by
   simp only[nn]
   split
   ·rename_i hx
    split
    ·exact F0
    ·exact⟨.inl ⟨by simpa using hx,rfl⟩,F0⟩
   ·exact F0
theorem Ld (hm:N.P.follows .mixedOrders=true) (hC:gn N call) (hn:rS N nm):KR N (RN N call nm):=by{
intro id ops s s1 h
unfold RN at h
split at h
·cases h
·rename_i act hact
 split at h
 ·rename_i resL hs hrun
  split at h
  ·rename_i hc
   simp only[Bool.and_eq_true] at hc
   obtain⟨⟨⟨⟨h1,h0⟩,h2⟩,h3⟩,h4⟩:=hc
   cases h
   exact nG hm h1 h0 h2 (gT h3) (tk hC hn h4) (gI.append L0 F0)
  ·cases h
 ·cases h}
end
def CA (n:Nat):Value→Bool
 | .pointer (some ⟨id,_,some _⟩)=>decide (id<n)
 | .slice (some ⟨id,_,some _⟩) _ _=>decide (id<n)
 | .map (some id)=>decide (id<n)
 | v=>be v
def NG (n:Nat):Value→Bool
 | .tuple cs=>cs.toList.all (CA n)
 | .agg cs=>cs.toList.all (CA n)
 | v=>CA n v
theorem ms {n:Nat} {v:Value} (h:CA n v=true):cV n v:=by{
unfold CA at h
split at h
·exact .ptr (decide_eq_true_eq.mp h)
·exact .slice (decide_eq_true_eq.mp h)
·exact .map (decide_eq_true_eq.mp h)
·exact .be h}
theorem nO {n:Nat} {v:Value} (h:NG n v=true):cV n v:=by{
unfold NG at h
split at h
·exact .Ct fun i u hu=>ms (List.all_eq_true.1 h u (Array.mem_toList_iff.2 (Array.mem_of_getElem? hu)))
·exact .agg fun i u hu=>ms (List.all_eq_true.1 h u (Array.mem_toList_iff.2 (Array.mem_of_getElem? hu)))
·exact ms h}
def Py (n:Nat):av→Bool
 | .aj cells _ _ _=>cells.all (NG n)
 | .map es=>es.all fun p=>NG n p.2
theorem yn {n:Nat} {o:av} (h:Py n o=true):ND n o:=by{
cases o with
| aj cells v o t=>exact fun v hv=>nO (List.all_eq_true.1 h v hv)
| map es=>exact fun p hp=>nO (List.all_eq_true.1 h p hp)}
def wZ (n:Nat):ah→ah→Bool
 | [],_=>true
 | _ :: _,[]=>false
 | o :: h,o' :: r=>(zf [o] [o']||Py n o')&&wZ n h r
theorem oN {n:Nat}:∀ {h h':ah},wZ n h h'=true→h.length≤h'.length∧∀ (i:Nat) (o:av),(h'.take h.length)[i]? = some o→h[i]? = some o∨ND n o
 | [],h',_=>⟨Nat.zero_le _,fun i o hi=>by simp at hi⟩
 | _ :: _,[],h=>by simp [wZ] at h
 | o :: h,o' :: r,hk=>by
   simp only[wZ,Bool.and_eq_true,Bool.or_eq_true] at hk
   obtain⟨h1,h2⟩:=oN hk.2
   refine⟨by simp only[List.length_cons];omega,fun i q hi=>?_⟩
   cases i with
   | zero=>
     simp only[List.length_cons,List.take_succ_cons,List.getElem?_cons_zero,Option.some.injEq] at hi
     subst hi
     rcases hk.1 with h3|h3
     ·have:=gT h3
      simp only[List.cons.injEq,and_true] at this
      exact .inl (by rw[this];rfl)
     ·exact .inr (yn h3)
   | succ i=>
     simp only[List.length_cons,List.take_succ_cons,List.getElem?_cons_succ] at hi ⊢
     exact h2 i q hi
def Sn (h:ah) (r:Value) (h':ah):ah:=if NG h.length r&&wZ h.length h h' then h'.take h.length else h'
theorem BY {N:Env} {f:FuncId} {args:List Value} {h h':ah} {r:Value} (e:Ev N (.call f args h r h')):Ev N (.call f args h r (Sn h r h')):=by{
unfold Sn
split
·rename_i hc
 rw[Bool.and_eq_true] at hc
 obtain⟨h1,h2⟩:=oN hc.2
 have hl:(h'.take h.length).length=h.length:=by rw[List.length_take];omega
 refine .Mn (g:=h'.drop h.length) (by rw[List.take_append_drop];exact e) (by rw[hl];exact nO hc.1) (by rw[hl];exact Nat.le_refl _) (by rw[hl];exact h2)
·exact e}
def CN (N:Env) (nm:FuncId→Bool) (fuel:Nat) (call:FuncId→List Value→ah→Option (Value×ah)) (f:FuncId) (args:List Value) (h:ah):Option (Value×ah):=
 match N.P.funcs[f]? with
 | some fn=>match fn.body with
   | some c=>match N.lS f args h with
    | some p=>some p
    | none=>if dS fn.ntmps c=true∧args.length≤fn.ntmps then (match kq N call nm (RN N call nm) fuel c ⟨jq args fn.ntmps,[],h⟩ with
     | some (.exit _,_)=>none
     | some (_,s1)=>match oI N s1 fn.results.toList with
       | some rs=>some (cD rs,Sn h (cD rs) s1.h)
       | none=>none
     | none=>none) else none
   | none=>none
 | none=>none
theorem lW {N:Env} {nm:FuncId→Bool} (hm:N.P.follows .mixedOrders=true) (hn:rS N nm) {fuel:Nat} {call:FuncId→List Value→ah→Option (Value×ah)} (hC:gn N call):gn N (CN N nm fuel call):=fun f a h r h' e=>by
 unfold CN at e
 split at e
 ·rename_i fn hf
  split at e
  ·rename_i c hb
   split at e
   ·rename_i p hp
    cases e
    exact⟨⟨fn,hf,by rw[hb];rfl⟩,.KU hp⟩
   split at e
   ·rename_i hd
    split at e
    ·cases e
    ·rename_i ex s1 h3 h2
     split at e
     ·rename_i rs hr
      cases e
      refine⟨⟨fn,hf,by rw[hb];rfl⟩,BY (.call hf hb hd.1 hd.2 (xR (Ld hm hC hn) hC hn h2) ?_ hr)⟩
      cases ex with
      | normal=>exact .inl rfl
      | ret=>exact .inr rfl
      | exit id=>exact (h3 _ rfl).elim
     ·cases e
    ·cases e
   ·cases e
  ·cases e
 ·cases e
def nu (N:Env) (nm:FuncId→Bool) (fuel:Nat):Nat→FuncId→List Value→ah→Option (Value×ah)
 | 0,_,_,_=>none
 | d+1,f,args,h=>CN N nm fuel (nu N nm fuel d) f args h
theorem kK {N:Env} {nm:FuncId→Bool} (hm:N.P.follows .mixedOrders=true) (hn:rS N nm) {fuel:Nat}:∀ d,gn N (nu N nm fuel d)
 | 0=>fun f a h r h' e=>by cases e
 | d+1=>lW hm hn (kK hm hn d)
structure Ea where
 f:FuncId
 args:List Value
 h:ah
 r:Value
 h':ah
def Bm:List Value→List Value→Bool
 | [],[]=>true
 | a :: l,b :: r=>Lt a b&&Bm l r
 | _,_=>false
theorem sc:∀ {a b:List Value},Bm a b=true→a=b
 | [],[],_=>rfl
 | a :: l,b :: r,h=>by
   simp only[Bm,Bool.and_eq_true] at h
   rw[jA h.1,sc h.2]
 | [],_ :: _,h=>by simp [Bm] at h
 | _ :: _,[],h=>by simp [Bm] at h
def xx (call:FuncId→List Value→ah→Option (Value×ah)):List Ea→FuncId→List Value→ah→Option (Value×ah)
 | [],f,args,h=>call f args h
 | m :: l,f,args,h=>if f=m.f then (if Bm args m.args&&zf h m.h then some (m.r,m.h') else xx call l f args h) else xx call l f args h
def EU (N:Env) (m:Ea):Prop:=(∃ fn,N.P.funcs[m.f]? = some fn∧fn.body.isNone=false)∧Ev N (.call m.f m.args m.h m.r m.h')
theorem xO {N:Env} {call:FuncId→List Value→ah→Option (Value×ah)} (hC:gn N call):∀ {l:List Ea},(∀ m∈l,EU N m)→gn N (xx call l)
 | [],_=>hC
 | m :: l,hl=>fun f args h r h' e=>by
   have ih:=xO hC fun x hx=>hl x (List.mem_cons_of_mem _ hx)
   simp only[xx] at e
   split at e
   ·rename_i hf
    split at e
    ·rename_i hq
     rw[Bool.and_eq_true] at hq
     cases e
     subst hf
     rw[sc hq.1,gT hq.2]
     exact hl m List.mem_cons_self
    ·exact ih _ _ _ _ _ e
   ·exact ih _ _ _ _ _ e
def yT (m:Ea) (o:Option (Value×ah)):Bool:=match o with
 | some (r,h')=>Lt r m.r&&zf h' m.h'
 | none=>false
theorem rL {N:Env} {call:FuncId→List Value→ah→Option (Value×ah)} (hC:gn N call) {m:Ea} (h:yT m (call m.f m.args m.h)=true):EU N m:=by{
unfold yT at h
split at h
·rename_i r h' e
 rw[Bool.and_eq_true] at h
 rw[jA h.1,gT h.2] at e
 exact hC _ _ _ _ _ e
·cases h}
def vw (ops:Array Oper) (L:List (List Nat)) (resL:List fW) (fr0:Fr) (h:ah) (i:Nat):St:=⟨fr0++iC ops resL (fw L i),wW ops resL (fw L i),h⟩
inductive aR (N:Env) (ops:Array Oper) (L:List (List Nat)) (resL:List fW) (fr0:Fr) (h:ah):Nat→List Oper→Prop
 | nil (i:Nat):aR N ops L resL fr0 h i []
 | cons {i:Nat} {o:Oper} {l:List Oper} {r:fW}:One N ops o (vw ops L resL fr0 h i) r h→i4 resL i=r→aR N ops L resL fr0 h (i+1) l→aR N ops L resL fr0 h i (o :: l)
section
variable {N:Env} {ops:Array Oper} {L:List (List Nat)} {resL:List fW}
theorem aR.ok {fr:Fr} {h:ah}:∀ {l:List Oper} {i:Nat},aR N ops L resL (gL (dstsOf ops) fr) h i l→eO N ops L [] resL [h] fr i l
 | [],_,_=>trivial
 | o :: l,i,.cons h1 h2 h3=>by
   refine⟨?_,h3.ok⟩
   subst h2
   exact⟨fun _=>h1,trivial⟩
theorem Bz {id:Nat} {s:St} {Q:AX→St→Prop} {h:ah} (L:List (List Nat)) (resL:List fW) (fr0:Fr) (frF:Fr) (hm:N.P.follows .mixedOrders=true) (hc:uG ops L []=true) (ht:za ops resL=true) (h0:s.h=h) (hb:gL (dstsOf ops) s.fr=fr0) (hS:aR N ops L resL fr0 h 0 ops.toList) (hF:gI ops resL s.fr frF) (k:Q .normal ⟨frF,[],h⟩):CW N (.region id ops true) s Q:=by{
subst hb
unfold CW
exact⟨_,_,nG (hs:=[h]) hm hc rfl ht h0 hS.ok hF,k⟩}
theorem bg {all:Array Oper} {o:Oper} {s:St} {h:ah} {c:Call} {f:FuncId} {cap args:List Value} {fn:Func} {v:Value} (hh:s.h=h) (hw:aE all o s=some true) (ho:o.op = .call c) (hc:fi s c.callee=some (f,cap)) (ha:sQ s c.args.toList=some args) (hf:N.P.funcs[f]? = some fn) (hnm:(fn.name == "runtime.NumGoroutine")=false) (hb:fn.body.isNone=false) (k:FW N f (args++cap) h fun r h'=>r=v∧h'=h):One N all o s (.sl (.val v)) h:=by{
unfold FW at k
obtain⟨r,h',k1,rfl,rfl⟩:=k
exact .call hw ho hc ha hf hnm hb (hh▸k1)}
def KW (N:Env) (all:Array Oper) (o:Oper) (s:St):Option (fW×ah):=
 match aE all o s with
 | none=>none
 | some false=>some (.sl (.val (.tuple #[])),s.h)
 | some true=>match o.op,o.dst with
   | .box t x,some _=>(gY N s (.box t x)).map fun p=>(.sl (.box p.2),s.h)
   | .alloc t,some _=>(gY N s (.alloc t)).map fun p=>(.sl (.box p.2),s.h)
   | .buildSlice t l ps,some _=>(ja N s (.buildSlice t l ps)).map fun p=>(.sl (.nj p.2.1 p.2.2),s.h)
   | op,d=>match pE N s op with
     | some v=>some (.sl (.val v),s.h)
     | none=>match vM N s op,d with
       | some (sl,off),some d=>if sl=d then none else some (.ep sl off,s.h)
       | _,_=>none
theorem zz {all:Array Oper} {o:Oper} {s:St} {r:fW} {h:ah} (hs:KW N all o s=some (r,h)):One N all o s r h:=by{
unfold KW at hs
split at hs
·cases hs
·rename_i hw
 cases hs
 exact .skip hw
·rename_i hw
 split at hs
 ·rename_i t x d ho hd
  cases hb:gY N s (.box t x) with
  | none=>simp [hb] at hs
  | some p=>
    simp only[hb,Option.map_some,Option.some.injEq,Prod.mk.injEq] at hs
    obtain⟨rfl,rfl⟩:=hs
    exact .box hw hd (by rw[ho];exact hb)
 ·rename_i t d ho hd
  cases hb:gY N s (.alloc t) with
  | none=>simp [hb] at hs
  | some p=>
    simp only[hb,Option.map_some,Option.some.injEq,Prod.mk.injEq] at hs
    obtain⟨rfl,rfl⟩:=hs
    exact .box hw hd (by rw[ho];exact hb)
 ·rename_i t l ps d ho hd
  cases hb:ja N s (.buildSlice t l ps) with
  | none=>simp [hb] at hs
  | some p=>
    simp only[hb,Option.map_some,Option.some.injEq,Prod.mk.injEq] at hs
    obtain⟨rfl,rfl⟩:=hs
    exact .nj hw hd (by rw[ho];exact hb)
 ·split at hs
  ·rename_i v hv
   cases hs
   exact .val hw hv
  ·split at hs
   ·rename_i sl off d he hd
    split at hs
    ·cases hs
    ·rename_i hne
     cases hs
     exact .ee hw hd he hne
   ·cases hs}
end
attribute [push_cast] KW vw fw iC wW bA i4 Option.getD_some Option.getD_none
def xU (P:Program):Nat→List Field→Option Nat
 | o,[]=>some o
 | o,f :: r=>if f.offset=o then xU P (o+P.cellsOf f.type) r else none
def o9 (P:Program) (ts:List TypeId) (t:TypeId):Bool:=
 match P.underlying t with
 | some .bool=>true
 | some (.int _)=>true
 | some .string=>true
 | some (.struct fs)=>decide (xU P 0 fs.toList=some (P.cellsOf t))&&fs.toList.all fun f=>ts.contains f.type
 | some (.array n e)=>decide (P.cellsOf t=n*P.cellsOf e)&&ts.contains e
 | some (.slice e)=>decide (0<P.cellsOf e)&&ts.contains e
 | _=>false
def sR (c:Nat) (R:List Value→Prop):Nat→List Value→Prop
 | 0,vs=>vs=[]
 | m+1,vs=>∃ a b,vs=a++b∧a.length=c∧R a∧sR c R m b
def xA (P:Program) (R:TypeId→List Value→Prop):List Field→List Value→Prop
 | [],vs=>vs=[]
 | f :: r,vs=>∃ a b,vs=a++b∧a.length=P.cellsOf f.type∧R f.type a∧xA P R r b
def nE (P:Program) (h:ah):Nat→TypeId→List Value→Prop
 | 0,_,_=>False
 | n+1,t,vs=>match P.underlying t with
   | some .bool=>∃ b,vs=[.bool b]
   | some (.int k)=>∃ i,vs=[.int k i]∧(Lit.int k i).wf=true
   | some .string=>∃ s:ByteArray,vs=[.string s]∧s.size≤reachBytes
   | some (.struct fs)=>xA P (nE P h n) fs.toList vs
   | some (.array m e)=>sR (P.cellsOf e) (nE P h n e) m vs
   | some (.slice e)=>vs=[.slice none 0 0]∨vs=[.slice (some ⟨0,0,none⟩) 0 0] ∨
    ∃ id len c cells,vs=[.slice (some ⟨id,0,some 0⟩) len c]∧len*P.bytesOf e≤reachBytes∧h[id]? = some (.aj cells 0 false e)∧sR (P.cellsOf e) (nE P h n e) len cells
   | _=>False
theorem sR.mono {c:Nat} {R R':List Value→Prop} (k:∀ vs,R vs→R' vs):∀ {m:Nat} {vs:List Value},sR c R m vs→sR c R' m vs
 | 0,_,h=>h
 | _+1,_,⟨a,b,h1,h2,h3,h4⟩=>⟨a,b,h1,h2,k _ h3,sR.mono k h4⟩
theorem xA.mono {P:Program} {R R':TypeId→List Value→Prop} (k:∀ t vs,R t vs→R' t vs):∀ {l:List Field} {vs:List Value},xA P R l vs→xA P R' l vs
 | [],_,h=>h
 | _ :: _,_,⟨a,b,h1,h2,h3,h4⟩=>⟨a,b,h1,h2,k _ _ h3,xA.mono k h4⟩
theorem Il {h h':ah} (hp:h <+: h') {i:Nat} {x:av} (hx:h[i]? = some x):h'[i]? = some x:=by{
obtain⟨t,rfl⟩:=hp
rw[List.getElem?_append_left (List.getElem?_eq_some_iff.1 hx).1]
exact hx}
theorem nE.mono {P:Program} {h h':ah} (hp:h <+: h'):∀ {n:Nat} {t:TypeId} {vs:List Value},nE P h n t vs→nE P h' n t vs
 | 0,_,_,k=>k
 | n+1,t,vs,k=>by
   unfold nE at k ⊢
   split at k
   ·exact k
   ·exact k
   ·exact k
   ·exact k.mono fun t vs h=>nE.mono hp h
   ·exact k.mono fun vs h=>nE.mono hp h
   ·rcases k with k|k|⟨id,len,c,cells,k1,k2,k3,k4⟩
    ·exact .inl k
    ·exact .inr (.inl k)
    ·exact .inr (.inr ⟨id,len,c,cells,k1,k2,Il hp k3,k4.mono fun vs h=>nE.mono hp h⟩)
   ·exact k
section
variable {P:Program} {W:World} {μ μ':Mu} {h h':ah}
def lV (h:ah):Prop:=∀ (id:Nat) (o:av),h[id]? = some o→o.own=false
theorem di.Iz (hx:eA μ μ'):∀ {a a':List Value},di P μ a a'→di P μ' a a'
 | [],[],_=>trivial
 | _ :: _,_ :: _,⟨h1,h2⟩=>⟨h1.mono hx,di.Iz hx h2⟩
 | [],_ :: _,k=>k.elim
 | _ :: _,[],k=>k.elim
theorem bZ.Qr (H:bZ P μ h W) (hn:lV h) {cells:List Value} {m:M} (hc:∀ (j:Nat) (v:Value),cells[j]? = some v→∃ v',W.cell? ⟨m.block,m.base+j,none⟩=some v'∧VR P μ v v') (h1:cells.all one=true) (hb:m.block<W.heap.size) : bZ P (μ++[[m]]) (h++[.aj cells 0 false m.et]) W∧lV (h++[.aj cells 0 false m.et])∧eA μ (μ++[[m]])∧fx (μ++[[m]]) h.length 0=some m:=by{
have hx:eA μ (μ++[[m]]):=fun id l hl=>⟨[],by rw[List.getElem?_append_left (List.getElem?_eq_some_iff.1 hl).1,List.append_nil];exact hl⟩
have hnew:lV (h++[.aj cells 0 false m.et]):=by
 intro id o ho
 rcases fH ho with ⟨_,ho'⟩ | ⟨rfl,rfl⟩
 ·exact hn _ _ ho'
 ·rfl
refine⟨⟨by simp [H.len],?_,?_⟩,hnew,hx,?_⟩
·intro id o ho
 rcases fH ho with ⟨hi,ho'⟩ | ⟨rfl,rfl⟩
 ·obtain⟨q,hq⟩:=H.ob _ _ ho'
  exact⟨q,hq.mono hx (List.getElem?_append_left (by rw[H.len];exact hi)) (Nat.le_refl _) rfl⟩
 ·refine⟨m,⟨[m],by rw[← H.len];simp,rfl,rfl⟩,rfl,fun j v hj=>?_,h1,hb,fun e=>by cases e⟩
  obtain⟨v',k1,k2⟩:=hc j v hj
  exact⟨v',k1,k2.mono hx⟩
·intro id1 id2 o1 o2 m1 m2 _ g1 _ ho
 have:=hnew _ _ g1
 rw[ho] at this
 cases this
·unfold fx
 rw[← H.len]
 simp}
def dM (P:Program) (W:World) (R:ah→List Value→Prop) (cs:List Value):Prop:=
 ∀ μ h,bZ P μ h W→lV h→∃ μ' h' vs,h <+: h'∧eA μ μ'∧bZ P μ' h' W∧lV h'∧di P μ' vs cs∧vs.all one=true∧R h' vs
def zK (R:ah→List Value→Prop):Prop:=∀ (h h':ah) (vs:List Value),h <+: h'→R h vs→R h' vs
theorem dM.nil {R:ah→List Value→Prop} (hR:∀ h,R h []):dM P W R []:=fun μ h H hn=>⟨μ,h,[],List.prefix_refl _,eA.refl _,H,hn,trivial,rfl,hR h⟩
theorem dM.pure {R:ah→List Value→Prop} {v v':Value} (hv:∀ μ,VR P μ v v') (h1:one v=true) (hR:∀ h,R h [v]):dM P W R [v']:=
 fun μ h H hn=>⟨μ,h,[v],List.prefix_refl _,eA.refl _,H,hn,⟨hv μ,trivial⟩,by simp [h1],hR h⟩
theorem dM.append {R1 R2 R:ah→List Value→Prop} (g1:zK R1) {c1 c2:List Value} (k1:dM P W R1 c1) (k2:dM P W R2 c2) (hR:∀ h a b,a.length=c1.length→R1 h a→R2 h b→R h (a++b)):dM P W R (c1++c2):=by{
intro μ h H hn
obtain⟨μ1,h1,a,p1,x1,H1,n1,v1,o1,r1⟩:=k1 μ h H hn
obtain⟨μ2,h2,b,p2,x2,H2,n2,v2,o2,r2⟩:=k2 μ1 h1 H1 n1
refine⟨μ2,h2,a++b,p1.trans p2,x1.trans x2,H2,n2,(v1.Iz x2).append v2,by rw[List.all_append,o1,o2];rfl,hR h2 a b v1.length (g1 _ _ _ p2 r1) r2⟩}
theorem dM.es {R:ah→List Value→Prop} (g:zK R) {c:Nat}:∀ {l:List (List Value)},(∀ cs∈l,cs.length=c∧dM P W R cs)→dM P W (fun h vs=>sR c (R h) l.length vs) l.flatten
 | [],_=>dM.nil fun _=>rfl
 | cs :: l,k=>by
   rw[List.flatten_cons]
   have hk:=k cs List.mem_cons_self
   exact dM.append (R1:=R) (R2:=fun h vs=>sR c (R h) l.length vs) g hk.2 (dM.es g fun cs h=>k cs (List.mem_cons_of_mem _ h)) fun h a b ha h1 h2=>⟨a,b,rfl,ha.trans hk.1,h1,h2⟩
theorem EQ {P:Program}:∀ {l:List Field} {o n:Nat},xU P o l=some n→o≤n
 | [],o,n,h=>by
   simp only[xU,Option.some.injEq] at h
   omega
 | f :: l,o,n,h=>by
   simp only[xU] at h
   split at h
   ·have:=EQ h
    omega
   ·cases h
theorem dM.fs {R:ah→TypeId→List Value→Prop} (g:∀ t,zK fun h vs=>R h t vs) {cs:List Value}:∀ {l:List Field} {o:Nat},xU P o l=some cs.length →
 (∀ f∈l,dM P W (fun h vs=>R h f.type vs) ((cs.drop f.offset).take (P.cellsOf f.type)))→dM P W (fun h vs=>xA P (R h) l vs) (cs.drop o)
 | [],o,hc,_=>by
   simp only[xU,Option.some.injEq] at hc
   rw[List.drop_of_length_le (by omega)]
   exact dM.nil fun _=>rfl
 | f :: l,o,hc,k=>by
   simp only[xU] at hc
   split at hc
   ·rename_i ho
    have h1:=k f List.mem_cons_self
    rw[ho] at h1
    have h2:=dM.fs g hc fun f' hf=>k f' (List.mem_cons_of_mem _ hf)
    have hle:o+P.cellsOf f.type≤cs.length:=EQ hc
    have e:cs.drop o=(cs.drop o).take (P.cellsOf f.type)++cs.drop (o+P.cellsOf f.type):=by
     rw[← List.drop_drop,List.take_append_drop]
    rw[e]
    refine dM.append (R1:=fun h vs=>R h f.type vs) (R2:=fun h vs=>xA P (R h) l vs) (g f.type) h1 h2 fun h a b ha k1 k2=>⟨a,b,rfl,?_,k1,k2⟩
    rw[ha,List.length_take,List.length_drop]
    omega
   ·cases hc
theorem jQ {H:Type}:∀ {ts:List TypeId} {ds:List (DataW H)},(DataW.weightsEach P ts ds).all (fun b=>decide (b≤reachBytes))=true→∀ (i:Nat) (t:TypeId) (d:DataW H),ts[i]? = some t→ds[i]? = some d→(d.weights P t).all (fun b=>decide (b≤reachBytes))=true
 | [],_,_,i,t,d,h,_=>by simp at h
 | _ :: _,[],_,i,t,d,_,h=>by simp at h
 | t :: ts,d :: ds,k,i,t',d',h1,h2=>by
   unfold DataW.weightsEach at k
   rw[List.all_append,Bool.and_eq_true] at k
   cases i with
   | zero=>
     simp only[List.getElem?_cons_zero,Option.some.injEq] at h1 h2
     subst h1
     subst h2
     exact k.1
   | succ i=>exact jQ k.2 i t' d' (by simpa using h1) (by simpa using h2)
theorem kY {H:Type} {e:TypeId}:∀ {ds:List (DataW H)},(DataW.weightsAll P e ds).all (fun b=>decide (b≤reachBytes))=true→∀ d∈ds,(d.weights P e).all (fun b=>decide (b≤reachBytes))=true
 | [],_,d,h=>by cases h
 | d :: ds,k,d',h=>by
   unfold DataW.weightsAll at k
   rw[List.all_append,Bool.and_eq_true] at k
   rcases List.mem_cons.1 h with rfl|h
   ·exact k.1
   ·exact kY k.2 d' h
theorem chunks_flatten {c:Nat}:∀ {m:Nat} {cs:List Value},cs.length=m*c→((List.range m).map fun i=>(cs.drop (i*c)).take c).flatten=cs
 | 0,cs,h=>by
   rw[Nat.zero_mul] at h
   simp [List.eq_nil_of_length_eq_zero h]
 | m+1,cs,h=>by
   rw[Nat.succ_mul] at h
   have ih:=chunks_flatten (c:=c) (m:=m) (cs:=cs.drop c) (by rw[List.length_drop];omega)
   rw[List.range_succ_eq_map,List.map_cons,List.map_map,List.flatten_cons,Nat.zero_mul,List.drop_zero]
   have e:((fun i=>(cs.drop (i*c)).take c) ∘ Nat.succ)=fun i=>((cs.drop c).drop (i*c)).take c:=by
    funext i
    simp only[Function.comp,List.drop_drop,Nat.succ_mul]
    rw[Nat.add_comm]
   rw[e,ih,List.take_append_drop]
theorem lQ {b c:Nat}:∀ {l:List (List Value)} {o:Nat},(∀ (i:Nat) (cs:List Value),l[i]? = some cs→cs.length=c∧∀ r,r<c→W.cell? ⟨b,o+i*c+r,none⟩=cs[r]?) →
 ∀ (j:Nat) (v:Value),l.flatten[j]? = some v→W.cell? ⟨b,o+j,none⟩=some v
 | [],o,_,j,v,h=>by simp at h
 | cs :: l,o,k,j,v,h=>by
   obtain⟨h1,h2⟩:=k 0 cs rfl
   rw[List.flatten_cons] at h
   rcases Nat.lt_or_ge j cs.length with hj|hj
   ·rw[List.getElem?_append_left hj] at h
    have:=h2 j (by omega)
    rw[Nat.zero_mul,Nat.add_zero] at this
    rw[this,h]
   ·rw[List.getElem?_append_right hj] at h
    have ih:=lQ (b:=b) (c:=c) (l:=l) (o:=o+c) (fun i cs' hi=>by
     obtain⟨q1,q2⟩:=k (i+1) cs' (by simpa using hi)
     refine⟨q1,fun r hr=>?_⟩
     rw[← q2 r hr,Nat.succ_mul]
     congr 2
     omega) (j-cs.length) v h
    rw[← ih]
    congr 2
    omega
theorem uj {n:Nat} {t:TypeId}:zK fun h vs=>nE P h n t vs:=fun _ _ _ hp k=>k.mono hp
theorem j4 {H:Type} {enc:TypeId×Value→H} {held:Bool} {ts:List TypeId} (hcl:ts.all (o9 P ts)=true):∀ (n:Nat) (t:TypeId) (cs:List Value) (x:DataW H×List MemPlace),t∈ts →
 DataW.trod enc P W 0 (fun _=>true) held n t cs=some x→(x.1.weights P t).all (fun b=>decide (b≤reachBytes))=true→dM P W (fun h vs=>nE P h n t vs) cs
 | 0,t,cs,x,_,h,_=>by simp [DataW.trod] at h
 | n+1,t,cs,x,ht,h,hw=>by
   have hk:=List.all_eq_true.1 hcl t ht
   unfold o9 at hk
   split at hk
   ·rename_i hu
    obtain⟨b,rfl,_⟩:=DataW.trod_bool hu h
    exact dM.pure (v:=.bool b) (fun _=>.pure rfl) rfl fun h=>by unfold nE;rw[hu];exact⟨b,rfl⟩
   ·rename_i k hu
    obtain⟨i,rfl,_,hwf⟩:=DataW.trod_int hu h
    exact dM.pure (v:=.int k i) (fun _=>.pure rfl) rfl fun h=>by unfold nE;rw[hu];exact⟨i,rfl,hwf⟩
   ·rename_i hu
    obtain⟨s,rfl,rfl,_⟩:=DataW.trod_string hu h
    refine dM.pure (v:=.string s) (fun _=>.pure rfl) rfl fun h=>?_
    unfold nE
    rw[hu]
    refine⟨s,rfl,?_⟩
    unfold DataW.weights at hw
    simpa using hw
   ·rename_i fs hu
    rw[Bool.and_eq_true,decide_eq_true_eq,List.all_eq_true] at hk
    obtain⟨xs,n',hn',rfl,hlen,hxl,hf⟩:=DataW.trod_struct hu h
    obtain rfl:n'=n:=by omega
    unfold DataW.weights at hw
    rw[hu] at hw
    simp only at hw
    have key:=dM.fs (P:=P) (W:=W) (R:=fun h t vs=>nE P h n' t vs) (fun t=>uj) (cs:=cs) (l:=fs.toList) (o:=0) (by rw[hlen];exact hk.1) (fun f hfm=>by
     obtain⟨i,hi,rfl⟩:=List.mem_iff_getElem.1 hfm
     have hfi:fs[i]? = some fs.toList[i]:=by simp
     have h1:=hf i _ hfi
     have hix:i<xs.length:=by rw[hxl];simpa using hi
     rw[List.getElem?_eq_getElem hix] at h1
     refine j4 hcl n' _ _ _ (by simpa using hk.2 _ (List.getElem_mem hi)) h1 ?_
     exact jQ hw i _ _ (by rw[List.getElem?_map,List.getElem?_eq_getElem hi];rfl) (by simp [hix]))
    rw[List.drop_zero] at key
    intro μ h H hn
    obtain⟨μ',h',vs,a1,a2,a3,a4,a5,a6,a7⟩:=key μ h H hn
    exact⟨μ',h',vs,a1,a2,a3,a4,a5,a6,by unfold nE;rw[hu];exact a7⟩
   ·rename_i m e hu
    rw[Bool.and_eq_true,decide_eq_true_eq] at hk
    obtain⟨xs,n',hn',rfl,hlen,hxl,hf⟩:=DataW.trod_array hu h
    obtain rfl:n'=n:=by omega
    unfold DataW.weights at hw
    rw[hu] at hw
    simp only at hw
    have hcs:cs.length=m*P.cellsOf e:=hlen.trans hk.1
    have key:=dM.es (P:=P) (W:=W) (R:=fun h vs=>nE P h n' e vs) uj (c:=P.cellsOf e) (l:=(List.range m).map fun i=>(cs.drop (i*P.cellsOf e)).take (P.cellsOf e)) (fun cs' hm=>by
     rw[List.mem_map] at hm
     obtain⟨i,hi,rfl⟩:=hm
     rw[List.mem_range] at hi
     have h1:=hf i hi
     have hix:i<xs.length:=by rw[hxl];exact hi
     rw[List.getElem?_eq_getElem hix] at h1
     refine⟨?_,j4 hcl n' _ _ _ (by simpa using hk.2) h1 (kY hw _ (List.mem_map.2 ⟨_,List.getElem_mem hix,rfl⟩))⟩
     rw[List.length_take,List.length_drop,hcs]
     have:(i+1)*P.cellsOf e≤m*P.cellsOf e:=Nat.mul_le_mul_right _ hi
     rw[Nat.succ_mul] at this
     omega)
    rw[chunks_flatten hcs,List.length_map,List.length_range] at key
    intro μ h H hn
    obtain⟨μ',h',vs,a1,a2,a3,a4,a5,a6,a7⟩:=key μ h H hn
    exact⟨μ',h',vs,a1,a2,a3,a4,a5,a6,by unfold nE;rw[hu];exact a7⟩
   ·rename_i e hu
    rw[Bool.and_eq_true,decide_eq_true_eq] at hk
    rcases DataW.trod_slice hu h with ⟨rfl,_⟩ | ⟨a,len,cap,elems,rest,n',hn',rfl,rfl,_,hlc,hcm,hel,hf,hsp,_⟩
    ·exact dM.pure (v:=.slice none 0 0) (fun _=>.pure rfl) rfl fun h=>by unfold nE;rw[hu];exact .inl rfl
    obtain rfl:n'=n:=by omega
    obtain⟨hrl,hr⟩:=hsp rfl
    unfold DataW.weights at hw
    rw[hu] at hw
    simp only[List.all_cons,List.all_append,Bool.and_eq_true,decide_eq_true_eq,List.length_map] at hw
    obtain⟨hw1,hw2,_⟩:=hw
    by_cases hcap:cap=0
    ·subst hcap
     obtain rfl:len=0:=by omega
     exact dM.pure (v:=.slice (some ⟨0,0,none⟩) 0 0) (fun _=>.eX) rfl fun h=>by unfold nE;rw[hu];exact .inr (.inl rfl)
    have hcell:∃ cs',W.cells? 0 (a.add 0) (P.cellsOf e)=some cs':=by
     by_cases hl0:0<len
     ·have:=hf 0 hl0
      rw[List.getElem?_eq_getElem (by omega),Nat.zero_mul,Option.bind_eq_some_iff] at this
      obtain⟨cs',h1,_⟩:=this
      exact⟨cs',h1⟩
     ·have:=hr 0 (by omega)
      obtain rfl:len=0:=by omega
      rw[List.getElem?_eq_getElem (by omega),Nat.zero_add,Nat.zero_mul,Option.bind_eq_some_iff] at this
      obtain⟨cs',h1,_⟩:=this
      exact⟨cs',h1⟩
    obtain⟨hspot,hblk⟩:a.spot=none∧a.block<W.heap.size:=by
     obtain⟨cs',h1⟩:=hcell
     obtain⟨_,h2,h3⟩:=World.cells?_some h1
     have h4:=h3 0 hk.1
     rw[List.getElem?_eq_getElem (by omega)] at h4
     obtain⟨ab,ao,asp⟩:=a
     cases asp with
     | none=>
       refine⟨rfl,?_⟩
       rcases Nat.lt_or_ge ab W.heap.size with h5|h5
       ·exact h5
       ·simp [World.cell?,Addr.add,Array.getElem?_eq_none h5] at h4
     | some sp=>
       exfalso
       unfold World.cell? at h4
       split at h4
       ·simp [Addr.add] at h4
       ·cases h4
    obtain⟨ab,ao,asp⟩:=a
    simp only at hspot hblk
    subst hspot
    have hget:∀ i,i<len→∃ cs',W.cells? 0 ⟨ab,ao+i*P.cellsOf e,none⟩ (P.cellsOf e)=some cs'∧∃ y∈elems,DataW.trod enc P W 0 (fun _=>true) held n' e cs'=some y:=fun i hi=>by
     have:=hf i hi
     rw[List.getElem?_eq_getElem (by omega),Option.bind_eq_some_iff] at this
     obtain⟨cs',h1,h2⟩:=this
     rw[Addr.add_lit] at h1
     exact⟨cs',h1,_,List.getElem_mem _,h2⟩
    have key:=dM.es (P:=P) (W:=W) (R:=fun h vs=>nE P h n' e vs) uj (c:=P.cellsOf e) (l:=(List.range len).map fun i=>(W.cells? 0 ⟨ab,ao+i*P.cellsOf e,none⟩ (P.cellsOf e)).getD []) (fun cs' hm=>by
     rw[List.mem_map] at hm
     obtain⟨i,hi,rfl⟩:=hm
     rw[List.mem_range] at hi
     obtain⟨cs',h1,y,hy,h2⟩:=hget i hi
     rw[h1]
     exact⟨(World.cells?_some h1).2.1,j4 hcl n' _ _ _ (by simpa using hk.2) h2 (kY hw2 _ (List.mem_map.2 ⟨_,hy,rfl⟩))⟩)
    rw[List.length_map,List.length_range] at key
    intro μ h H hn
    obtain⟨μ',h',vs,a1,a2,a3,a4,a5,a6,a7⟩:=key μ h H hn
    have hfl:=lQ (W:=W) (b:=ab) (c:=P.cellsOf e) (l:=(List.range len).map fun i=>(W.cells? 0 ⟨ab,ao+i*P.cellsOf e,none⟩ (P.cellsOf e)).getD []) (o:=ao) (fun i cs' hi=>by
     rw[List.getElem?_map] at hi
     have hil:i<len:=by
      rcases Nat.lt_or_ge i len with h5|h5
      ·exact h5
      ·simp [List.getElem?_eq_none (l:=List.range len) (by simpa using h5)] at hi
     rw[List.getElem?_eq_getElem (by simpa using hil),Option.map_some,List.getElem_range,Option.some.injEq] at hi
     subst hi
     obtain⟨cs',h1,_⟩:=hget i hil
     rw[h1]
     obtain⟨_,q1,q2⟩:=World.cells?_some h1
     refine⟨q1,fun r hr=>?_⟩
     have:=q2 r hr
     rwa [Addr.add_lit] at this)
    obtain⟨b1,b2,b3,b4⟩:=a3.Qr a4 (cells:=vs) (m:=⟨ab,ao,cap*P.cellsOf e,e⟩) (fun j v hj=>by
     obtain⟨v',k1,k2⟩:=a5.get hj
     exact⟨v',hfl j v' k1,k2⟩) a6 hblk
    refine⟨_,_,[.slice (some ⟨h'.length,0,some 0⟩) len len],a1.trans ⟨_,rfl⟩,a2.trans b3,b1,b2,⟨?_,trivial⟩,rfl,?_⟩
    ·have hv:=VR.slice (P:=P) (c:=len) (len:=len) (cap:=cap) (off:=0) b4 hlc hcm (by simp)
     simpa using hv
    ·unfold nE
     rw[hu]
     refine .inr (.inr ⟨h'.length,len,len,vs,rfl,?_,by simp,a7.mono fun vs k=>k.mono ⟨_,rfl⟩⟩)
     have:len*P.bytesOf e≤(elems.length+rest.length)*P.bytesOf e:=Nat.mul_le_mul_right _ (by omega)
     omega
   ·cases hk
end
def Cx (P:Nat→Prop):List Nat→Prop
 | []=>True
 | a :: l=>P a∧Cx P l
theorem Cx.mem {P:Nat→Prop}:∀ {l:List Nat},Cx P l→∀ k∈l,P k
 | [],_,k,h=>by cases h
 | a :: l,⟨h1,h2⟩,k,h=>by
   rcases List.mem_cons.1 h with rfl|h
   ·exact h1
   ·exact Cx.mem h2 k h
def TU (L:List (List Nat)) (act:List Nat) (i:Nat):List Nat:=(List.range (act.length+1)).filter (fP L act i)
def Mb (act:List Nat) (i k:Nat):Nat:=if act.contains i then k+1 else k
inductive az (N:Env) (ops:Array Oper) (L:List (List Nat)) (act:List Nat) (resL:List fW) (hs:List ah) (fr0:Fr):Nat→List Oper→Prop
 | nil (i:Nat):az N ops L act resL hs fr0 i []
 | cons {i:Nat} {o:Oper} {l:List Oper} {r:fW} (ks:List Nat):TU L act i=ks→Cx (fun k=>One N ops o (vw ops L resL fr0 (qH hs k) i) r (qH hs (Mb act i k))) ks→i4 resL i=r→az N ops L act resL hs fr0 (i+1) l→az N ops L act resL hs fr0 i (o :: l)
section
variable {N:Env} {ops:Array Oper} {L:List (List Nat)} {act:List Nat} {resL:List fW} {hs:List ah}
theorem fE.of {fr:Fr} {i:Nat} {o:Oper}:∀ {l:List Nat},(∀ k∈l,fP L act i k=true→One N ops o (fa ops L resL fr (qH hs k) i) (i4 resL i) (qH hs (if i∈act then k+1 else k)))→fE N ops L act resL hs fr i o l
 | [],_=>trivial
 | k :: l,h=>⟨h k List.mem_cons_self,fE.of fun k' hk=>h k' (List.mem_cons_of_mem _ hk)⟩
theorem az.ok {fr:Fr}:∀ {l:List Oper} {i:Nat},az N ops L act resL hs (gL (dstsOf ops) fr) i l→eO N ops L act resL hs fr i l
 | [],_,_=>trivial
 | o :: l,i,.cons ks h0 h1 h2 h3=>by
   refine⟨fE.of fun k hk hb=>?_,h3.ok⟩
   have:=h1.mem k (by rw[← h0];exact List.mem_filter.2 ⟨hk,hb⟩)
   subst h2
   unfold Mb at this
   simp only[List.contains_iff_mem] at this
   exact this
theorem Ca {id:Nat} {s:St} {Q:AX→St→Prop} (L:List (List Nat)) (act:List Nat) (hs:List ah) (resL:List fW) (fr0:Fr) (frF:Fr) (hE:ah) (hm:N.P.follows .mixedOrders=true) (hc:uG ops L act=true) (ha:act.all (fun a=>decide (a<ops.size))=true) (ht:za ops resL=true) (h0:s.h=qH hs 0) (hl:qH hs act.length=hE) (hb:gL (dstsOf ops) s.fr=fr0) (hS:az N ops L act resL hs fr0 0 ops.toList) (hF:gI ops resL s.fr frF) (k:Q .normal ⟨frF,[],hE⟩):CW N (.region id ops true) s Q:=by{
subst hb
subst hl
unfold CW
exact⟨_,_,nG (hs:=hs) hm hc ha ht h0 hS.ok hF,k⟩}
end
attribute [push_cast] qH Mb
end Go.Proofs.YtmdmimkbpikmoaaGreat.Am
namespace Go.Proofs.YtmdmimkbpikmoaaGreat.Am
open Go.RowKit Go.MapKept
inductive Sh where
 | rM (k:IntKind)
 | wv
 | l6
 | ng
 deriving DecidableEq
def Sh.sz:Sh→Nat
 | .ng=>4
 | _=>1
def Sh.ok:Sh→List Value→Bool
 | .rM k,[.int k' _]=>decide (k=k')
 | .wv,[.bool _]=>true
 | .l6,[.string _]=>true
 | .ng,[.int .u64 _,.int .u64 _,.int .u64 _,.int .u64 _]=>true
 | _,_=>false
def mg:List Sh→List Value→Bool
 | [],l=>l.isEmpty
 | s :: r,l=>s.ok (l.take s.sz)&&mg r (l.drop s.sz)
def Sh.val:Sh→List Value→Value
 | .ng,l=>.agg l.toArray
 | _,l=>l.headD .nilFunc
def Be (P:Program) (t:TypeId):Option Sh:=
 match P.underlying t with
 | some (.int k)=>some (.rM k)
 | some .bool=>some .wv
 | some .string=>some .l6
 | some (.array 4 e)=>match P.underlying e,P.info? t,P.info? e with
   | some (.int .u64),some i,some j=>if i.size=4∧j.size=1 then some .ng else none
   | _,_,_=>none
 | _=>none
def lP (P:Program):List Field→Nat→List Sh→Bool
 | [],_,[]=>true
 | f :: fs,off,s :: r=>decide (Be P f.type=some s)&&decide (f.offset=off)&&(f.name != "_")&&lP P fs (off+s.sz) r
 | _,_,_=>false
def fF (P:Program) (t:TypeId) (l:List Sh):Bool:=
 match P.underlying t with
 | some (.struct fs)=>lP P fs.toList 0 l && !P.stoodInHeld t && !P.eqGuardType P.depth t
 | _=>false
theorem uJ (n m:ByteArray):(n == m)=decide (n=m):=by{
cases n with
| mk a=>
cases m with
| mk b=>
have h:((⟨a⟩:ByteArray) == ⟨b⟩)=(a == b):=rfl
rw[h]
by_cases e:a=b
·subst e
 simp
·rw[decide_eq_false (fun k=>e (by injection k)),beq_eq_false_iff_ne]
 exact e}
section
variable {P:Program} {w:World}
theorem ma {t:TypeId} {s:Sh} (h:Be P t=some s):(∃ k,s = .rM k∧P.underlying t=some (.int k))∨(s = .wv∧P.underlying t=some .bool)∨(s = .l6∧P.underlying t=some .string) ∨ (s = .ng∧∃ e i j,P.underlying t=some (.array 4 e)∧P.underlying e=some (.int .u64)∧P.info? t=some i∧P.info? e=some j∧i.size=4∧j.size=1):=by{
unfold Be at h
split at h
·rename_i k hu
 cases h
 exact .inl ⟨k,rfl,hu⟩
·rename_i hu
 cases h
 exact .inr (.inl ⟨rfl,hu⟩)
·rename_i hu
 cases h
 exact .inr (.inr (.inl ⟨rfl,hu⟩))
·rename_i e hu
 split at h
 ·rename_i i j he hi hj
  split at h
  ·rename_i hq
   cases h
   exact .inr (.inr (.inr ⟨rfl,e,i,j,hu,he,hi,hj,hq.1,hq.2⟩))
  ·cases h
 ·cases h
·cases h}
theorem Sh.sh {s:Sh} {l:List Value} (h:s.ok l=true):l.length=s.sz:=by
 unfold Sh.ok at h
 split at h<;>first|rfl|cases h
theorem mq {l:List Value} (h:Sh.ng.ok l=true):∃ a b c d,l=[.int .u64 a,.int .u64 b,.int .u64 c,.int .u64 d]:=by{
unfold Sh.ok at h
split at h<;>first|cases h|skip
all_goals first|exact⟨_,_,_,_,rfl⟩ | (rename_i hq;cases hq;done) | (rename_i h1 h2;cases h1;done) | skip}
theorem xu {k:IntKind} {l:List Value} (h:(Sh.rM k).ok l=true):∃ a,l=[.int k a]:=by{
match l,h with
| [.int k' a],h=>
  have:k=k':=by simpa [Sh.ok] using h
  exact⟨a,by rw[this]⟩}
theorem wN {l:List Value} (h:Sh.wv.ok l=true):∃ a,l=[.bool a]:=by
 match l,h with
 | [.bool a],_=>exact⟨a,rfl⟩
theorem xM {l:List Value} (h:Sh.l6.ok l=true):∃ a,l=[.string a]:=by
 match l,h with
 | [.string a],_=>exact⟨a,rfl⟩
theorem jH {t:TypeId} {d:TypeDesc} (hu:P.underlying t=some d) (hd:d = .bool∨d = .string∨∃ k,d = .int k):P.plainKey t=true:=by{
unfold Program.plainKey
rw[hu]
rcases hd with rfl|rfl|⟨k,rfl⟩<;>rfl}
theorem vS {l:List Value} {xs:Array Value} {off:Nat} (h:(xs.toList.drop off).take l.length=l):∀ (j:Nat) (v:Value),l[j]? = some v→xs[off+j]? = some v:=fun j v hj=>by
 have hlt:=(List.getElem?_eq_some_iff.1 hj).1
 have:((xs.toList.drop off).take l.length)[j]? = some v:=by rw[h];exact hj
 rw[List.getElem?_take_of_lt hlt,List.getElem?_drop] at this
 simpa using this
theorem vt {t:TypeId} {s:Sh} (hs:Be P t=some s) {xs:Array Value} {off:Nat} (hok:s.ok ((xs.toList.drop off).take s.sz)=true):(part t xs off).run P w = .ok (s.val ((xs.toList.drop off).take s.sz)) w:=by{
have hlen:=Sh.sh hok
have hget:=vS (l:=(xs.toList.drop off).take s.sz) (xs:=xs) (off:=off) (by rw[hlen])
rcases ma hs with ⟨k,rfl,hu⟩ | ⟨rfl,hu⟩ | ⟨rfl,hu⟩ | ⟨rfl,e,i,j,hu,he,hi,hj,hsz,_⟩
·obtain⟨a,ha⟩:=xu hok
 rw[ha] at hget ⊢
 have:=hget 0 _ rfl
 exact run_part_plain w (jH hu (.inr (.inr ⟨k,rfl⟩))) this
·obtain⟨a,ha⟩:=wN hok
 rw[ha] at hget ⊢
 have:=hget 0 _ rfl
 exact run_part_plain w (jH hu (.inl rfl)) this
·obtain⟨a,ha⟩:=xM hok
 rw[ha] at hget ⊢
 have:=hget 0 _ rfl
 exact run_part_plain w (jH hu (.inr (.inl rfl))) this
·simp only[part,iP hu,oJ,Sem.run_bind,Result.andThen_ok,if_true,bT hi,hsz,Sem.run_pure,Sh.val]
 congr 2
 apply Array.toList_inj.1
 simp [Array.toList_extract,Sh.sz,List.extract_eq_take_drop]}
theorem Pg (a b c d a' b' c' d':Int):jk [.int .u64 a,.int .u64 b,.int .u64 c,.int .u64 d] [.int .u64 a',.int .u64 b',.int .u64 c',.int .u64 d']=(decide (a=a')&&(decide (b=b')&&(decide (c=c')&&decide (d=d')))):=by
 simp only[jk,mw,Bool.and_true]
theorem Ak (d:Nat) {e:TypeId} (hu:P.underlying e=some (.int .u64)) (xs ys:Array Value) (f g:Nat→Int):∀ (is:List Nat),(∀ i∈is,xs[i]? = some (.int .u64 (f i))∧ys[i]? = some (.int .u64 (g i))) →
 (Op.eqItems (d+1) e 1 xs ys is).run P w = .ok (is.all fun i=>decide (f i=g i)) w
 | [],_=>by simp [Op.eqItems]
 | i :: is,h=>by
   obtain⟨h1,h2⟩:=h i List.mem_cons_self
   have ih:=Ak d hu xs ys f g is fun j hj=>h j (List.mem_cons_of_mem _ hj)
   have p1:(part e xs (i*1)).run P w = .ok (.int .u64 (f i)) w:=run_part_plain w (jH hu (.inr (.inr ⟨_,rfl⟩))) (by rw[Nat.mul_one];exact h1)
   have p2:(part e ys (i*1)).run P w = .ok (.int .u64 (g i)) w:=run_part_plain w (jH hu (.inr (.inr ⟨_,rfl⟩))) (by rw[Nat.mul_one];exact h2)
   simp only[Op.eqItems,Sem.run_bind,p1,p2,Result.andThen_ok,run_equalIn_int w d _ _ _ _ _ hu,List.all_cons]
   by_cases he:f i=g i
   ·simp only[he,beq_self_eq_true,Bool.not_true,Bool.false_eq_true,if_false,decide_true,Bool.true_and]
    exact ih
   ·simp [he]
theorem C9 (d:Nat) {t e:TypeId} {j:TypeInfo} (hu:P.underlying t=some (.array 4 e)) (he:P.underlying e=some (.int .u64)) (hj:P.info? e=some j) (hs:j.size=1) (a b c q a' b' c' q':Int) : (Op.equalIn (d+2) t (.agg #[.int .u64 a,.int .u64 b,.int .u64 c,.int .u64 q]) (.agg #[.int .u64 a',.int .u64 b',.int .u64 c',.int .u64 q'])).run P w = .ok (jk [.int .u64 a,.int .u64 b,.int .u64 c,.int .u64 q] [.int .u64 a',.int .u64 b',.int .u64 c',.int .u64 q']) w:=by{
have hc:P.cellsOf e=1:=by simp [Program.cellsOf,hj,hs]
rw[run_equalIn_array w (d+1) _ _ hu hj,hc,Pg]
rw[Ak d he _ _ (fun i=>[a,b,c,q].getD i 0) (fun i=>[a',b',c',q'].getD i 0)]
·simp only[show List.range 4=[0,1,2,3] from rfl,List.all_cons,List.all_nil,Bool.and_true,List.getD_cons_zero,List.getD_cons_succ]
·intro i hi
 have:i=0∨i=1∨i=2∨i=3:=by simp at hi;omega
 rcases this with rfl|rfl|rfl|rfl<;>exact⟨rfl,rfl⟩}
theorem JD (d:Nat) {t:TypeId} {s:Sh} (hs:Be P t=some s) {l m:List Value} (hl:s.ok l=true) (hm:s.ok m=true):(Op.equalIn (d+2) t (s.val l) (s.val m)).run P w = .ok (jk l m) w:=by{
rcases ma hs with ⟨k,rfl,hu⟩ | ⟨rfl,hu⟩ | ⟨rfl,hu⟩ | ⟨rfl,e,i,j,hu,he,hi,hj,hsz,hjs⟩
·obtain⟨a,rfl⟩:=xu hl
 obtain⟨b,rfl⟩:=xu hm
 show (Op.equalIn (d+1+1) t (.int k a) (.int k b)).run P w=_
 rw[run_equalIn_int w (d+1) _ _ _ _ _ hu]
 simp only[jk,mw,Bool.and_true,Bool.beq_eq_decide_eq]
·obtain⟨a,rfl⟩:=wN hl
 obtain⟨b,rfl⟩:=wN hm
 show (Op.equalIn (d+1+1) t (.bool a) (.bool b)).run P w=_
 rw[run_equalIn_bool' w (d+1) _ _ _ hu]
 simp only[jk,mw,Bool.and_true]
 cases a<;>cases b<;>rfl
·obtain⟨a,rfl⟩:=xM hl
 obtain⟨b,rfl⟩:=xM hm
 have:(Op.equalIn (d+1+1) t (.string a) (.string b)).run P w = .ok (a == b) w:=by simp [Op.equalIn,run_underlying hu]
 show (Op.equalIn (d+1+1) t (.string a) (.string b)).run P w=_
 rw[this,uJ]
 simp only[jk,mw,Bool.and_true]
·obtain⟨a,b,c,q,rfl⟩:=mq hl
 obtain⟨a',b',c',q',rfl⟩:=mq hm
 exact C9 d hu he hj hjs a b c q a' b' c' q'}
theorem mu {l1 l2 m1 m2:List Value} (h:l1.length=m1.length):jk (l1++l2) (m1++m2)=(jk l1 m1&&jk l2 m2):=by{
induction l1 generalizing m1 with
| nil=>cases m1 with
  | nil=>simp [jk]
  | cons=>simp at h
| cons x l ih=>cases m1 with
  | nil=>simp at h
  | cons y m=>simp only[List.cons_append,jk,ih (by simpa using h),Bool.and_assoc]}
theorem ue (d:Nat) (xs ys:Array Value):∀ (fs:List Field) (off:Nat) (l:List Sh),lP P fs off l=true→mg l (xs.toList.drop off)=true→mg l (ys.toList.drop off)=true →
 (Op.eqFields (d+2) xs ys fs).run P w = .ok (jk (xs.toList.drop off) (ys.toList.drop off)) w
 | [],off,[],_,hx,hy=>by
   simp only[mg,List.isEmpty_iff] at hx hy
   rw[hx,hy]
   simp [Op.eqFields,jk]
 | [],_,_ :: _,h,_,_=>by simp [lP] at h
 | _ :: _,_,[],h,_,_=>by simp [lP] at h
 | f :: fs,off,s :: r,h,hx,hy=>by
   simp only[lP,Bool.and_eq_true,decide_eq_true_eq] at h
   obtain⟨⟨⟨h1,h2⟩,h3⟩,h4⟩:=h
   simp only[mg,Bool.and_eq_true,List.drop_drop] at hx hy
   have ih:=ue d xs ys fs (off+s.sz) r h4 hx.2 hy.2
   have hn:f.name ≠ "_":=by simpa using h3
   have hlx:=Sh.sh hx.1
   have hly:=Sh.sh hy.1
   simp only[Op.eqFields,ne_eq,hn,not_false_eq_true,if_true,Sem.run_bind,h2,vt h1 hx.1,vt h1 hy.1,Result.andThen_ok,JD d h1 hx.1 hy.1]
   have e1:xs.toList.drop off=(xs.toList.drop off).take s.sz++xs.toList.drop (off+s.sz):=by rw[← List.drop_drop,List.take_append_drop]
   have e2:ys.toList.drop off=(ys.toList.drop off).take s.sz++ys.toList.drop (off+s.sz):=by rw[← List.drop_drop,List.take_append_drop]
   have e3:jk (xs.toList.drop off) (ys.toList.drop off)=(jk ((xs.toList.drop off).take s.sz) ((ys.toList.drop off).take s.sz)&&jk (xs.toList.drop (off+s.sz)) (ys.toList.drop (off+s.sz))):=by
    conv=>lhs;rw[e1,e2]
    exact mu (by rw[hlx,hly])
   rw[e3]
   generalize jk ((xs.toList.drop off).take s.sz) ((ys.toList.drop off).take s.sz)=q
   cases q with
   | false=>simp
   | true=>
     simp only[Bool.not_true,Bool.false_eq_true,if_false,Bool.true_and]
     exact ih
theorem iM {t:TypeId} {l:List Sh} (h:fF P t l=true):P.underlying t=some (.struct (P.fieldsOf t))∧lP P (P.fieldsOf t).toList 0 l=true∧P.stoodInHeld t=false∧P.eqGuardType P.depth t=false:=by{
unfold fF at h
split at h
·rename_i fs hu
 simp only[Bool.and_eq_true,Bool.not_eq_true'] at h
 have e:P.fieldsOf t=fs:=by simp [Program.fieldsOf,hu]
 rw[e]
 exact⟨hu,h.1.1,h.1.2,h.2⟩
·cases h}
theorem sC {t:TypeId} {l:List Sh} (h:fF P t l=true) (d:Nat) {xs ys:Array Value} (hx:mg l xs.toList=true) (hy:mg l ys.toList=true):(Op.equalIn (d+3) t (.agg xs) (.agg ys)).run P w = .ok (jk xs.toList ys.toList) w:=by{
obtain⟨hu,hf,hs,_⟩:=iM h
rw[run_equalIn_struct w (d+2) t xs ys hu hs]
have:=ue (w:=w) d xs ys _ 0 l hf (by simpa using hx) (by simpa using hy)
simpa using this}
theorem xm {t:TypeId} {l:List Sh} (h:fF P t l=true):CV P t (mg l):=fun xs ys hx hy=>⟨(iM h).2.2.2,fun w=>sC h 9997 hx hy⟩
def MT:Value→Bool
 | .int _ _=>true
 | .bool _=>true
 | .string _=>true
 | _=>false
theorem DS {v:Value} (h:MT v=true):be v=true:=by
 cases v<;>first|rfl|simp [MT] at h
theorem Ke {s:Sh} {l:List Value} (h:s.ok l=true):l.all MT=true:=by{
cases s with
| rM k=>obtain⟨a,rfl⟩:=xu h;rfl
| wv=>obtain⟨a,rfl⟩:=wN h;rfl
| l6=>obtain⟨a,rfl⟩:=xM h;rfl
| ng=>obtain⟨a,b,c,d,rfl⟩:=mq h;rfl}
theorem vA:∀ {l:List Sh} {xs:List Value},mg l xs=true→xs.all MT=true
 | [],xs,h=>by
   simp only[mg,List.isEmpty_iff] at h
   rw[h]
   rfl
 | s :: r,xs,h=>by
   simp only[mg,Bool.and_eq_true] at h
   have:=vA h.2
   rw[← List.take_append_drop s.sz xs,List.all_append,this,Bool.and_true]
   exact Ke h.1
theorem wI {l:List Sh} {xs:List Value} (h:mg l xs=true):xs.all be=true:=by{
have:=vA h
rw[List.all_eq_true] at this ⊢
exact fun v hv=>DS (this v hv)}
theorem wg {μ:Mu}:∀ {l l':List Value},l.all be=true→di P μ l l'→l'=l
 | [],[],_,_=>rfl
 | v :: l,v' :: l',h,⟨h1,h2⟩=>by
   simp only[List.all_cons,Bool.and_eq_true] at h
   rw[h1.dD h.1,wg h.2 h2]
 | [],_ :: _,_,h=>h.elim
 | _ :: _,[],_,h=>h.elim
theorem iS {t:TypeId} {l:List Sh} (h:fF P t l=true):CV P t (mg l)∧∀ xs ys:List Value,∀ μ:Mu,di P μ xs ys→mg l xs=true→ys=xs:=⟨xm h,fun xs ys μ hv hc=>wg (wI hc) hv⟩
def xX (l:List Sh):Value→Bool
 | .agg xs=>mg l xs.toList
 | _=>false
theorem kF {l:List Sh} {v:Value} (h:xX l v=true):∃ xs,v = .agg xs∧mg l xs.toList=true:=by{
unfold xX at h
split at h
·exact⟨_,rfl,h⟩
·cases h}
theorem Pf {s:Sh} {l m:List Value} (hl:s.ok l=true) (hm:s.ok m=true) (h:jk l m=true):l=m:=by{
cases s with
| rM k=>
  obtain⟨a,rfl⟩:=xu hl
  obtain⟨b,rfl⟩:=xu hm
  simp only[jk,mw,Bool.and_true,decide_eq_true_eq] at h
  rw[h]
| wv=>
  obtain⟨a,rfl⟩:=wN hl
  obtain⟨b,rfl⟩:=wN hm
  simp only[jk,mw,Bool.and_true,decide_eq_true_eq] at h
  rw[h]
| l6=>
  obtain⟨a,rfl⟩:=xM hl
  obtain⟨b,rfl⟩:=xM hm
  simp only[jk,mw,Bool.and_true,decide_eq_true_eq] at h
  rw[h]
| ng=>
  obtain⟨a,b,c,d,rfl⟩:=mq hl
  obtain⟨a',b',c',d',rfl⟩:=mq hm
  simp only[Pg,Bool.and_eq_true,decide_eq_true_eq] at h
  obtain⟨rfl,rfl,rfl,rfl⟩:=h
  rfl}
theorem Ho {s:Sh} {l:List Value} (hl:s.ok l=true):jk l l=true:=by{
cases s with
| rM k=>obtain⟨a,rfl⟩:=xu hl;simp [jk,mw]
| wv=>obtain⟨a,rfl⟩:=wN hl;simp [jk,mw]
| l6=>obtain⟨a,rfl⟩:=xM hl;simp [jk,mw]
| ng=>obtain⟨a,b,c,d,rfl⟩:=mq hl;simp [jk,mw]}
theorem Ds:∀ {l:List Sh} {xs ys:List Value},mg l xs=true→mg l ys=true→jk xs ys=true→xs=ys
 | [],xs,ys,h1,h2,_=>by
   simp only[mg,List.isEmpty_iff] at h1 h2
   rw[h1,h2]
 | s :: r,xs,ys,h1,h2,h=>by
   simp only[mg,Bool.and_eq_true] at h1 h2
   rw[← List.take_append_drop s.sz xs,← List.take_append_drop s.sz ys,mu (by rw[Sh.sh h1.1,Sh.sh h2.1]),Bool.and_eq_true] at h
   rw[← List.take_append_drop s.sz xs,← List.take_append_drop s.sz ys,Pf h1.1 h2.1 h.1,Ds h1.2 h2.2 h.2]
theorem xC:∀ {l:List Sh} {xs:List Value},mg l xs=true→jk xs xs=true
 | [],xs,h1=>by
   simp only[mg,List.isEmpty_iff] at h1
   rw[h1]
   rfl
 | s :: r,xs,h1=>by
   simp only[mg,Bool.and_eq_true] at h1
   have:=mu (l1:=xs.take s.sz) (l2:=xs.drop s.sz) (m1:=xs.take s.sz) (m2:=xs.drop s.sz) rfl
   rw[List.take_append_drop] at this
   rw[this,Ho h1.1,xC h1.2]
   rfl
theorem AW (em:Bool) (d:Nat) {t:TypeId} {s:Sh} (hs:Be P t=some s) {l:List Value} (hl:s.ok l=true):(Instr.checkKey em (d+2) t (s.val l)).run P w = .ok () w:=by{
rcases ma hs with ⟨k,rfl,hu⟩ | ⟨rfl,hu⟩ | ⟨rfl,hu⟩ | ⟨rfl,e,i,j,hu,he,hi,hj,hsz,hjs⟩
·obtain⟨a,rfl⟩:=xu hl
 exact run_checkKey (d:=.int k) hu (by simp [IsKey,Sh.val]) em (d+1)
·obtain⟨a,rfl⟩:=wN hl
 exact run_checkKey (d:=.bool) hu (by simp [IsKey,Sh.val]) em (d+1)
·obtain⟨a,rfl⟩:=xM hl
 exact run_checkKey (d:=.string) hu (by simp [IsKey,Sh.val]) em (d+1)
·obtain⟨a,b,c,q,rfl⟩:=mq hl
 show (Instr.checkKey em (d+1+1) t (.agg #[.int .u64 a,.int .u64 b,.int .u64 c,.int .u64 q])).run P w=_
 have ck:∀ n:Int,(Instr.checkKey em (d+1) e (.int .u64 n)).run P w = .ok () w:=fun n=>run_checkKey (d:=.int .u64) he (by simp [IsKey]) em d
 have pt:∀ (i:Nat) (v:Value),(#[Value.int .u64 a,.int .u64 b,.int .u64 c,.int .u64 q]:Array Value)[i]? = some v→(part e #[.int .u64 a,.int .u64 b,.int .u64 c,.int .u64 q] i).run P w = .ok v w:=fun i v h=>run_part_plain w (jH he (.inr (.inr ⟨_,rfl⟩))) h
 have p0:=pt 0 _ rfl
 have p1:=pt 1 _ rfl
 have p2:=pt 2 _ rfl
 have p3:=pt 3 _ rfl
 unfold Instr.checkKey
 simp only[Sem.run_bind,run_underlying hu,Result.andThen_ok]
 simp only[Std.Legacy.Range.forIn_eq_forIn_range',Std.Legacy.Range.size,Nat.sub_zero,Nat.add_one_sub_one,Nat.div_one]
 simp [List.range',bT hj,hjs,p0,p1,p2,p3,ck,Result.andThen]}
theorem qZ (em:Bool) (d:Nat) (xs:Array Value):∀ (fs:List Field) (off:Nat) (l:List Sh),lP P fs off l=true→mg l (xs.toList.drop off)=true →
 (forIn fs PUnit.unit fun f _=>(do
  if f.name ≠ "_" then Instr.checkKey em (d+2) f.type (← part f.type xs f.offset)
  pure (ForInStep.yield PUnit.unit):Sem (ForInStep PUnit))).run P w = .ok PUnit.unit w
 | [],off,l,_,_=>by simp
 | f :: fs,off,[],h,_=>by simp [lP] at h
 | f :: fs,off,s :: r,h,hx=>by
   simp only[lP,Bool.and_eq_true,decide_eq_true_eq] at h
   obtain⟨⟨⟨h1,h2⟩,h3⟩,h4⟩:=h
   simp only[mg,Bool.and_eq_true,List.drop_drop] at hx
   have ih:=qZ em d xs fs (off+s.sz) r h4 hx.2
   have hn:f.name ≠ "_":=by simpa using h3
   rw[List.forIn_cons]
   simp only[ne_eq,hn,not_false_eq_true,if_true,Sem.run_bind,h2,vt h1 hx.1,Result.andThen_ok,AW em d h1 hx.1,Sem.run_pure]
   exact ih
theorem rW {t:TypeId} {l:List Sh} (h:fF P t l=true):qY P t (xX l) where
 pure:=fun v hv=>by
  obtain⟨xs,rfl,hx⟩:=kF hv
  exact wI hx
 eq:=fun a b ha hb he=>by
  obtain⟨xs,rfl,hx⟩:=kF ha
  obtain⟨ys,rfl,hy⟩:=kF hb
  rw[Array.toList_inj.1 (Ds hx hy he)]
 refl:=fun a ha=>by
  obtain⟨xs,rfl,hx⟩:=kF ha
  exact xC hx
 check:=fun em v w hv=>by
  obtain⟨xs,rfl,hx⟩:=kF hv
  obtain⟨hu,hf,_,_⟩:=iM h
  rw[show (10000:Nat)=9997+2+1 from rfl]
  unfold Instr.checkKey
  simp only[Sem.run_bind,run_underlying hu,Result.andThen_ok]
  rw[← Array.forIn_toList]
  have:=qZ (w:=w) em 9997 xs _ 0 l hf (by simpa using hx)
  simp only[Sem.run_bind] at this ⊢
  rw[this]
  rfl
 find:=fun v es w hv hes=>by
  obtain⟨xs,rfl,hx⟩:=kF hv
  rw[run_findKey_eq w (by rw[(iM h).1])]
  have key:∀ (m:List MapEntry) (i:Nat),(∀ e∈m,xX l e.key=true)→(Instr.findAsking t (.agg xs) m i).run P w = .ok (gm (.agg xs) m i) w:=by
   intro m
   induction m with
   | nil=>intro i _;simp [Instr.findAsking,gm]
   | cons e m ih=>
     intro i hl
     obtain⟨ys,hm,hy⟩:=kF (hl e List.mem_cons_self)
     have ih':=ih (i+1) fun x hx=>hl x (List.mem_cons_of_mem _ hx)
     have hq:(Op.equal t (.agg xs) (.agg ys)).run P w = .ok (jk xs.toList ys.toList) w:=sC h 9997 hx hy
     simp only[Instr.findAsking,gm,Sem.run_bind,hm,hq,Result.andThen_ok,oU]
     split
     ·simp
     ·exact ih'
  exact key es 0 hes
 stays:=fun v w hv=>by
  obtain⟨xs,rfl,hx⟩:=kF hv
  have hp:=vA hx
  have:Instr.sameBits 10000 (.agg xs) (.agg xs)=true:=by
   rw[show (10000:Nat)=9999+1 from rfl]
   simp only[Instr.sameBits,beq_self_eq_true,Bool.true_and,List.all_eq_true]
   intro p hq
   obtain⟨i,hi⟩:=List.getElem?_of_mem hq
   rw[List.getElem?_zip_eq_some] at hi
   have e:p.1=p.2:=Option.some.inj (hi.1.symm.trans hi.2)
   have hpp:=List.all_eq_true.1 hp p.1 (List.mem_of_getElem? hi.1)
   obtain⟨x,y⟩:=p
   simp only at e hpp
   subst e
   cases x<;>first|(simp [MT] at hpp;done) | (simp [Instr.sameBits];done) | (simp only[Instr.sameBits];rw[uJ];simp)
  simp [Instr.keyThatStays,this]
end
def nq:Value→Bool
 | .int .i64 _=>true
 | _=>false
def eB:Value→Bool
 | .string _=>true
 | _=>false
theorem iu {v:Value} (h:nq v=true):∃ n,v = .int .i64 n:=by{
unfold nq at h
split at h
·exact⟨_,rfl⟩
·cases h}
theorem ic {v:Value} (h:eB v=true):∃ b,v = .string b:=by{
unfold eB at h
split at h
·exact⟨_,rfl⟩
·cases h}
theorem F8 {P:Program} {t:TypeId} (hu:P.underlying t=some .string):qY P t eB where
 pure:=fun v h=>by obtain⟨n,rfl⟩:=ic h;rfl
 eq:=fun a b ha hb h=>by
  obtain⟨n,rfl⟩:=ic ha
  obtain⟨m,rfl⟩:=ic hb
  simp only[oU,mw,decide_eq_true_eq] at h
  rw[h]
 refl:=fun a ha=>by obtain⟨n,rfl⟩:=ic ha;simp [oU,mw]
 check:=fun em v w h=>by
  obtain⟨n,rfl⟩:=ic h
  exact run_checkKey (d:=.string) hu (by simp [IsKey]) em 9999
 find:=fun v es w h hes=>by
  obtain⟨n,rfl⟩:=ic h
  refine run_findKey (d:=.string) hu ?_
  have key:∀ (l:List MapEntry) (i:Nat),(∀ e∈l,eB e.key=true)→Instr.findNow .string (.string n) l i=some (gm (.string n) l i):=by
   intro l
   induction l with
   | nil=>intro i _;rfl
   | cons e l ih=>
     intro i hl
     obtain⟨m,hm⟩:=ic (hl e List.mem_cons_self)
     have ih':=ih (i+1) fun x hx=>hl x (List.mem_cons_of_mem _ hx)
     simp only[Instr.findNow,gm,hm,Instr.sameNow,oU,mw,if_true]
     rw[uJ]
     by_cases hnm:n=m
     ·rw[decide_eq_true hnm]
      simp
     ·rw[decide_eq_false hnm]
      exact ih'
  exact key es 0 hes
 stays:=fun v w h=>by
  obtain⟨n,rfl⟩:=ic h
  exact run_keyThatStays (d:=.string) (by simp [IsKey])
theorem Hr {P:Program} {t:TypeId} (hu:P.underlying t=some (.int .i64)):qY P t nq where
 pure:=fun v h=>by obtain⟨n,rfl⟩:=iu h;rfl
 eq:=fun a b ha hb h=>by
  obtain⟨n,rfl⟩:=iu ha
  obtain⟨m,rfl⟩:=iu hb
  simp only[oU,mw,decide_eq_true_eq] at h
  rw[h]
 refl:=fun a ha=>by obtain⟨n,rfl⟩:=iu ha;simp [oU,mw]
 check:=fun em v w h=>by
  obtain⟨n,rfl⟩:=iu h
  exact run_checkKey (d:=.int .i64) hu (by simp [IsKey]) em 9999
 find:=fun v es w h hes=>by
  obtain⟨n,rfl⟩:=iu h
  refine run_findKey (d:=.int .i64) hu ?_
  have key:∀ (l:List MapEntry) (i:Nat),(∀ e∈l,nq e.key=true)→Instr.findNow (.int .i64) (.int .i64 n) l i=some (gm (.int .i64 n) l i):=by
   intro l
   induction l with
   | nil=>intro i _;rfl
   | cons e l ih=>
     intro i hl
     obtain⟨m,hm⟩:=iu (hl e List.mem_cons_self)
     have ih':=ih (i+1) fun x hx=>hl x (List.mem_cons_of_mem _ hx)
     simp only[Instr.findNow,gm,hm,Instr.sameNow,oU,mw,if_true]
     by_cases hnm:n=m
     ·simp [hnm]
     ·have hb:(n == m)=false:=by simpa using hnm
      rw[hb,decide_eq_false hnm]
      exact ih'
  exact key es 0 hes
 stays:=fun v w h=>by
  obtain⟨n,rfl⟩:=iu h
  exact run_keyThatStays (d:=.int .i64) (by simp [IsKey])
attribute [push_cast] mg Sh.ok Sh.sz xX nq eB
end Go.Proofs.YtmdmimkbpikmoaaGreat.Am
namespace Go.Proofs.YtmdmimkbpikmoaaGreat
set_option maxRecDepth 20000
open Go.RowKit Am Ty
def kQ:List Sh:=[.rM .i64,.rM .i64,.rM .i64]
def ku:List Sh:=[.wv,.l6,.ng,.l6]
def DK:List Sh:=[.rM .i64,.l6,.ng,.l6,.l6]
def qX:List Sh:=[.l6,.ng]
def rE:List Sh:=[.l6,.l6]
theorem Cy:fF Tryz.prog 70 kQ=true:=by kernel_rfl
theorem Jr:fF Tryz.prog 154 ku=true:=by kernel_rfl
theorem Hd:fF Tryz.prog 103 ku=true:=by kernel_rfl
theorem Ku:fF Tryz.prog 56 DK=true:=by kernel_rfl
theorem A3:fF Tryz.prog 112 qX=true:=by kernel_rfl
theorem BG:fF Tryz.prog 114 rE=true:=by kernel_rfl
def jg:TypeId→Option (Value→Bool):=fun t=>if t=3 then some nq else if t=9 then some eB else if t=70 then some (xX kQ) else if t=154 then some (xX ku) else none
theorem rP:∀ kt kd,jg kt=some kd→qY Tryz.prog kt kd:=fun kt kd h=>by
 unfold jg at h
 split at h
 ·rename_i e;subst e;cases h;exact Hr kr
 split at h
 ·rename_i e;subst e;cases h;exact F8 kr
 split at h
 ·rename_i e;subst e;cases h;exact rW Cy
 split at h
 ·rename_i e;subst e;cases h;exact rW Jr
 ·cases h
def vE:TypeId→Option (List Value→Bool):=fun t=>if t=70 then some (mg kQ) else if t=56 then some (mg DK) else if t=103 then some (mg ku) else if t=112 then some (mg qX) else if t=114 then some (mg rE) else none
theorem yd:∀ t chk,vE t=some chk→CV Tryz.prog t chk∧∀ l l':List Value,∀ μ:Mu,di Tryz.prog μ l l'→chk l=true→l'=l:=fun t chk h=>by
 unfold vE at h
 split at h
 ·rename_i e;subst e;cases h;exact iS Cy
 split at h
 ·rename_i e;subst e;cases h;exact iS Ku
 split at h
 ·rename_i e;subst e;cases h;exact iS Hd
 split at h
 ·rename_i e;subst e;cases h;exact iS A3
 split at h
 ·rename_i e;subst e;cases h;exact iS BG
 ·cases h
attribute [push_cast] kQ ku DK qX rE
def mo (a b c d:Int) (n:Nat):Bool:=(if n / 64=0 then a else if n / 64=1 then b else if n / 64=2 then c else d).toNat.testBit (n % 64)
def bM (has:Nat→Bool):Nat→List (Fin 256)
 | 0=>[]
 | k+1=>if h:k<256 then (if has k then bM has k++[⟨k,h⟩] else bM has k) else bM has k
def iF (l:List (Nat×Nat)) (b:Nat):List (Nat×Nat):=
 match l.getLast? with
 | some (lo,hi)=>if hi+1=b then l.dropLast++[(lo,b)] else l++[(b,b)]
 | none=>[(b,b)]
def bY (bs:List (Fin 256)):List (Nat×Nat):=bs.foldl (fun l b=>iF l b.1) []
def cO (l:List (Nat×Nat)):List Value:=l.flatMap fun r=>[.int .i64 r.1,.int .i64 r.2]
def tH (w:Int):Bool:=decide (0≤w)&&decide (w<18446744073709551616)
def iJ (h:ah):List Value→Option (Value×ah)
 | [.agg cs]=>match cs.toList with
   | [.int .u64 a,.int .u64 b,.int .u64 c,.int .u64 d]=>if tH a&&tH b&&tH c&&tH d then
    (if (bY (bM (mo a b c d) 256)).isEmpty then some (.slice none 0 0,h)
    else some (.slice (some ⟨h.length,0,some 0⟩) (bY (bM (mo a b c d) 256)).length (bY (bM (mo a b c d) 256)).length,h++[av.aj (cO (bY (bM (mo a b c d) 256))) 0 true 214])) else none
   | _=>none
 | _=>none
def o8 (h:ah):List Value→Option (Value×ah)
 | [.pointer (some ⟨id,0,some au⟩)]=>match h[id]? with
   | some (.aj [.pointer p,x] v true et)=>if v=au then (if et=228 then (match p with
     | none=>some (.tuple #[],h.set id (av.aj [.pointer (some ⟨id,0,some au⟩),x] au true et))
     | some a=>if a=⟨id,0,some au⟩ then some (.tuple #[],h) else none) else none) else none
   | _=>none
 | _=>none
def j8:FuncId→List Value→ah→Option (Value×ah):=fun f args h=>if f=205 then o8 h args else if f=175 then iJ h args else none
structure aZ where
 a:Int
 b:Int
 c:Int
 d:Int
 deriving DecidableEq
structure bd where
 nt:Int
 set:aZ
 deriving DecidableEq
structure dt where
 lhs:Int
 rhs:List bd
 deriving DecidableEq
structure fc where
 fk:Int
 start:Int
 rules:List dt
 deriving DecidableEq
def qz:List Value→Bool
 | [.int .u64 _,.int .u64 _,.int .u64 _,.int .u64 _]=>true
 | _=>false
def su:List Value→Bool
 | [.int .i64 _,.int .u64 _,.int .u64 _,.int .u64 _,.int .u64 _]=>true
 | _=>false
noncomputable def env:Env:=⟨Tryz.prog,fun t=>if t=54 then some qz else if t=65 then some su else vE t,jg,j8⟩
@[push_cast] theorem On:env.P=Tryz.prog:=rfl
@[push_cast] theorem Q5:env.IF 54=some qz:=rfl
@[push_cast] theorem Nb:env.IF 65=some su:=rfl
abbrev i64 (n:Int):Value:=.int .i64 n
abbrev u64 (n:Int):Value:=.int .u64 n
def aZ.cells (s:aZ):List Value:=[.int .u64 s.a,.int .u64 s.b,.int .u64 s.c,.int .u64 s.d]
def bd.cells (s:bd):List Value:=[.int .i64 s.nt,.int .u64 s.set.a,.int .u64 s.set.b,.int .u64 s.set.c,.int .u64 s.set.d]
def bW (h:ah) (v:Value) (n:Nat) (cells:List Value) (et:TypeId) (b:Nat):Prop:=
 n*b≤140737488355328∧(((v = .slice none 0 0∨v = .slice (some ⟨0,0,none⟩) 0 0)∧n=0∧cells=[])∨∃ id au own c,v = .slice (some ⟨id,0,some au⟩) n c∧h[id]? = some (.aj cells au own et))
section
variable {h h':ah} {v:Value} {n b:Nat} {cells:List Value} {et:TypeId}
theorem bW.at (hs:bW h v n cells et b) (hn:0<n):∃ id au own c,v = .slice (some ⟨id,0,some au⟩) n c∧h[id]? = some (.aj cells au own et):=by{
rcases hs.2 with ⟨_,h0,_⟩ | hs
·omega
·exact hs}
theorem bW.form (hs:bW h v n cells et b):∃ p c,v = .slice p n c:=by{
rcases hs.2 with ⟨rfl|rfl,rfl,_⟩ | ⟨_,_,_,c,rfl,_⟩
·exact⟨_,_,rfl⟩
·exact⟨_,_,rfl⟩
·exact⟨_,c,rfl⟩}
theorem ag {α:Type} {l l':List α} (hp:l <+: l') {i:Nat} {x:α} (hx:l[i]? = some x):l'[i]? = some x:=by{
obtain⟨t,rfl⟩:=hp
have:i<l.length:=(List.getElem?_eq_some_iff.1 hx).1
rw[List.getElem?_append_left this]
exact hx}
theorem bW.mono (hs:bW h v n cells et b) (hp:h <+: h'):bW h' v n cells et b:=by{
refine⟨hs.1,?_⟩
rcases hs.2 with hs|⟨id,au,own,c,h1,h2⟩
·exact .inl hs
·exact .inr ⟨id,au,own,c,h1,ag hp h2⟩}
end
def si (h:ah) (v:Value) (l:List Int):Prop:=bW h v l.length (l.map i64) 3 8
def pX (h:ah) (v:Value) (l:List Bool):Prop:=bW h v l.length (l.map .bool) 4 1
def E5 (h:ah) (v:Value) (l:List aZ):Prop:=bW h v l.length (l.flatMap aZ.cells) 54 32
def kH (h:ah) (v:Value) (l:List bd):Prop:=bW h v l.length (l.flatMap bd.cells) 65 40
def gd (h:ah) (v:Value) (l:List dt):Prop:=
 ∃ us:List Value,us.length=l.length∧bW h v l.length ((l.zip us).flatMap fun p=>[i64 p.1.lhs,p.2]) 63 32∧∀ (i:Nat) (r:dt) (u:Value),l[i]? = some r→us[i]? = some u→kH h u r.rhs
def yy (h:ah) (v:Value) (g:fc):Prop:=∃ u,v = .agg #[i64 g.fk,i64 g.start,u]∧gd h u g.rules
theorem bG {α:Type} {f:α→List Value} {k:Nat} (hf:∀ x,(f x).length=k):∀ (l:List α) (i:Nat) (x:α),l[i]? = some x→je (l.flatMap f) (i*k) k=some (f x)
 | [],i,x,h=>by simp at h
 | y :: l,0,x,h=>by
   simp only[List.getElem?_cons_zero,Option.some.injEq] at h
   subst h
   simp only[je,s7,List.flatMap_cons,Nat.zero_mul,Nat.zero_add,List.drop_zero,List.length_append,hf]
   rw[if_pos om,List.take_left' (hf y)]
 | y :: l,i+1,x,h=>by
   have ih:=bG hf l i x (by simpa using h)
   simp only[je,s7,List.flatMap_cons,List.length_append,hf] at ih ⊢
   rw[Nat.succ_mul]
   split at ih
   ·rename_i hle
    rw[if_pos om]
    rw[show i*k+k=(f y).length+i*k from by rw[hf];omega,List.drop_length_add_append]
    exact ih
   ·cases ih
theorem si.get {h:ah} {v:Value} {l:List Int} {i:Nat} (hi:i<l.length):(l.map i64)[i]? = some (i64 l[i]):=by simp [hi]
theorem pX.get {l:List Bool} {i:Nat} (hi:i<l.length):(l.map Value.bool)[i]? = some (.bool l[i]):=by simp [hi]
theorem Fl {l:List bd} {i:Nat} (hi:i<l.length):je (l.flatMap bd.cells) (i*5) 5=some l[i].cells:=bG (f:=bd.cells) (fun _=>rfl) l i l[i] (by simp [hi])
theorem DQ {l:List aZ} {i:Nat} (hi:i<l.length):je (l.flatMap aZ.cells) (i*4) 4=some l[i].cells:=bG (f:=aZ.cells) (fun _=>rfl) l i l[i] (by simp [hi])
theorem Cc {l:List dt} {us:List Value} (hl:us.length=l.length) {i:Nat} (hi:i<l.length) :
 je ((l.zip us).flatMap fun p=>[i64 p.1.lhs,p.2]) (i*2) 2=some [i64 l[i].lhs,us[i]'(hl▸hi)]:=by
 refine bG (f:=fun p:dt×Value=>[i64 p.1.lhs,p.2]) (fun _=>rfl) (l.zip us) i (l[i],us[i]'(hl▸hi)) ?_
 simp [List.getElem?_zip_eq_some,hi,hl▸hi]
theorem gd.at {h:ah} {v:Value} {l:List dt} (hr:gd h v l) {i:Nat} (hi:i<l.length) : ∃ id au own c cells p n c',v = .slice (some ⟨id,0,some au⟩) l.length c∧h[id]? = some (.aj cells au own 63)∧n=l[i].rhs.length ∧ je cells (i*2) 2=some [i64 l[i].lhs,.slice p n c']∧kH h (.slice p n c') l[i].rhs:=by{
obtain⟨us,hl,hs,hu⟩:=hr
obtain⟨id,au,own,c,rfl,hid⟩:=hs.at om
have hi':i<us.length:=hl▸hi
have hS:=hu i l[i] us[i] (by simp [hi]) (by simp [hi'])
obtain⟨p,c',hp⟩:=hS.form
refine⟨id,au,own,c,_,p,l[i].rhs.length,c',rfl,hid,rfl,?_,?_⟩
·rw[← hp]
 exact Cc hl hi
·rw[← hp]
 exact hS}
theorem gd.form {h:ah} {v:Value} {l:List dt} (hr:gd h v l):∃ p c,v = .slice p l.length c:=by
 obtain⟨_,_,hs,_⟩:=hr
 exact hs.form
theorem gd.le {h:ah} {v:Value} {l:List dt} (hr:gd h v l):l.length≤140737488355328:=by{
obtain⟨_,_,hs,_⟩:=hr
have:=hs.1
omega}
theorem kH.le {h:ah} {v:Value} {l:List bd} (hr:kH h v l):l.length≤140737488355328:=by
 have:=hr.1
 omega
theorem gd.mono {h h':ah} {v:Value} {l:List dt} (hr:gd h v l) (hp:h <+: h'):gd h' v l:=by
 obtain⟨us,hl,hs,hu⟩:=hr
 exact⟨us,hl,hs.mono hp,fun i r u h1 h2=>(hu i r u h1 h2).mono hp⟩
theorem yy.mono {h h':ah} {v:Value} {g:fc} (hr:yy h v g) (hp:h <+: h'):yy h' v g:=by
 obtain⟨u,rfl,hu⟩:=hr
 exact⟨u,rfl,hu.mono hp⟩
theorem kH.at {h:ah} {v:Value} {l:List bd} (hr:kH h v l) {i:Nat} (hi:i<l.length) :
 ∃ id au own c cells,v = .slice (some ⟨id,0,some au⟩) l.length c∧h[id]? = some (.aj cells au own 65)∧je cells (i*5) 5=some [i64 l[i].nt,u64 l[i].set.a,u64 l[i].set.b,u64 l[i].set.c,u64 l[i].set.d]:=by
 obtain⟨id,au,own,c,rfl,hid⟩:=bW.at hr om
 exact⟨id,au,own,c,_,rfl,hid,Fl hi⟩
theorem si.at {h:ah} {v:Value} {l:List Int} (hr:si h v l) {i:Nat} (hi:i<l.length) :
 ∃ id au own c cells,v = .slice (some ⟨id,0,some au⟩) l.length c∧h[id]? = some (.aj cells au own 3)∧cells[i]? = some (i64 l[i]):=by
 obtain⟨id,au,own,c,rfl,hid⟩:=bW.at hr om
 exact⟨id,au,own,c,_,rfl,hid,by simp [hi]⟩
theorem pX.at {h:ah} {v:Value} {l:List Bool} (hr:pX h v l) {i:Nat} (hi:i<l.length) :
 ∃ id au own c cells,v = .slice (some ⟨id,0,some au⟩) l.length c∧h[id]? = some (.aj cells au own 4)∧cells[i]? = some (.bool l[i]):=by
 obtain⟨id,au,own,c,rfl,hid⟩:=bW.at hr om
 exact⟨id,au,own,c,_,rfl,hid,by simp [hi]⟩
theorem E5.at {h:ah} {v:Value} {l:List aZ} (hr:E5 h v l) {i:Nat} (hi:i<l.length) :
 ∃ id au own c cells,v = .slice (some ⟨id,0,some au⟩) l.length c∧h[id]? = some (.aj cells au own 54)∧je cells (i*4) 4=some [u64 l[i].a,u64 l[i].b,u64 l[i].c,u64 l[i].d]:=by
 obtain⟨id,au,own,c,rfl,hid⟩:=bW.at hr om
 exact⟨id,au,own,c,_,rfl,hid,DQ hi⟩
def S9 (n k:Nat) (F:Nat→Fr) (H:Nat→ah) (I:Nat→Prop) (Q:AX→St→Prop):AX→St→Prop
 | .normal,s=>k<n∧bB (F (k+1)) s.fr∧s.h=H (k+1)∧I (k+1)
 | e,s=>Q e s
theorem df {N:Env} {c:Code} {s:St} {Q:AX→St→Prop} (n:Nat) (F:Nat→Fr) (H:Nat→ah) (I:Nat→Prop) (h0:bB (F 0) s.fr) (hh:s.h=H 0) (hI:I 0) (hs:∀ k,k≤n→I k→CW N c ⟨F k,[],H k⟩ (S9 n k F H I Q)):CW N (.loop c) s Q:=by{
refine pH (fun m s=>∃ k,m=n-k∧k≤n∧bB (F k) s.fr∧s.h=H k∧I k) n ⟨0,rfl,Nat.zero_le _,h0,hh,hI⟩ ?_
rintro m s ⟨k,rfl,hk,hf,hh,hI⟩
refine aA _ hf ?_
rw[hh]
refine (hs k hk hI).mono fun e s' hq=>?_
cases e with
| normal=>
  obtain⟨h1,h2,h3,h4⟩:=hq
  exact⟨n-(k+1),by omega,k+1,rfl,by omega,h2,h3,h4⟩
| exit id=>exact hq
| ret=>exact hq}
theorem aV {k n:Nat} (h:k<n):decide ((k:Int)<(n:Int))=true:=by simp [h]
theorem aT {k n:Nat} (h:¬ k<n):decide ((k:Int)<(n:Int))=false:=by simp;omega
theorem cH {k n:Nat} (h:k<n):(0≤(k:Int)∧(k:Int)<(n:Int))=True:=by simp;omega
theorem inc {k:Nat} {n:Nat} (h:k<n) (hn:n≤140737488355328):IntKind.i64.wrap ((k:Int)+1)=(k:Int)+1:=ay om om
end Go.Proofs.YtmdmimkbpikmoaaGreat
