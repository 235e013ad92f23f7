/- Several texts, one behind the other. -/
import Derived.Test.YtmdmimkbpikmoaaGreatZAm9
import Derived.Test.YtmdmimkbpikmoaaGreatProg
import Derived.KernelRfl
import Derived.Deep.Slices
import Derived.ProofKit
import Derived.OpenShut
import GoSem.ClaimJoined
import Derived.DeepKeys
import Derived.WideKeyRuns
import Derived.MapKept
set_option linter.unusedSimpArgs false
set_option linter.unusedVariables false
set_option maxHeartbeats 8000000
namespace Go.Proofs.YtmdmimkbpikmoaaGreat
theorem om {P:Prop} (h:P:=by omega):P:=h
theorem kr {P:Prop} (h:P:=by kernel_rfl):P:=h
end Go.Proofs.YtmdmimkbpikmoaaGreat
namespace Go.Proofs.YtmdmimkbpikmoaaGreat.Ty
open Go.RowKit Go.Proofs.YtmdmimkbpikmoaaGreat.Am
theorem RJ:au Tryz.prog 1=some ⟨false,1,8,some (.nilFunc)⟩:=kr
theorem RZ:au Tryz.prog 2=some ⟨false,1,8,some (.int .i64 0)⟩:=kr
theorem Nn:au Tryz.prog 3=some ⟨false,1,8,some (.int .i64 0)⟩:=kr
theorem UR:au Tryz.prog 4=some ⟨false,1,1,some (.bool false)⟩:=kr
theorem Nf:au Tryz.prog 5=some ⟨false,1,1,some (.int .u8 0)⟩:=kr
theorem F5:au Tryz.prog 9=some ⟨false,1,16,some (.string ⟨#[]⟩)⟩:=kr
theorem Sw:au Tryz.prog 12=some ⟨false,1,8,some (.int .u64 0)⟩:=kr
theorem SC:au Tryz.prog 20=some ⟨false,1,16,some (.nilIface)⟩:=kr
theorem Tq:au Tryz.prog 21=some ⟨false,1,4,some (.int .i32 0)⟩:=kr
theorem Sm:au Tryz.prog 22=some ⟨false,1,24,some (.slice none 0 0)⟩:=kr
theorem Tt:au Tryz.prog 23=some ⟨false,1,24,some (.slice none 0 0)⟩:=kr
theorem TP:au Tryz.prog 24=some ⟨false,1,24,some (.slice none 0 0)⟩:=kr
theorem Uh:au Tryz.prog 25=some ⟨false,1,24,some (.slice none 0 0)⟩:=kr
theorem T3:au Tryz.prog 26=some ⟨false,1,24,some (.slice none 0 0)⟩:=kr
theorem TO:au Tryz.prog 27=some ⟨true,7,152,some (.agg #[.string ⟨#[]⟩,.string ⟨#[]⟩,.slice none 0 0,.slice none 0 0,.slice none 0 0,.slice none 0 0,.slice none 0 0])⟩:=kr
theorem JR:ar Tryz.prog 27 0=some (0,9):=kr
theorem Kz:ar Tryz.prog 27 1=some (1,9):=kr
theorem LJ:ar Tryz.prog 27 2=some (2,22):=kr
theorem JW:ar Tryz.prog 27 3=some (3,23):=kr
theorem MU:ar Tryz.prog 27 4=some (4,24):=kr
theorem Lm:ar Tryz.prog 27 5=some (5,25):=kr
theorem LS:ar Tryz.prog 27 6=some (6,26):=kr
theorem Sn:placesOf Tryz.prog 27=some [(0,1),(1,1),(2,1),(3,1),(4,1),(5,1),(6,1)]:=kr
theorem TF:au Tryz.prog 28=some ⟨true,7,152,some (.agg #[.string ⟨#[]⟩,.string ⟨#[]⟩,.slice none 0 0,.slice none 0 0,.slice none 0 0,.slice none 0 0,.slice none 0 0])⟩:=kr
theorem LH:ar Tryz.prog 28 0=some (0,9):=kr
theorem Kf:ar Tryz.prog 28 1=some (1,9):=kr
theorem J9:ar Tryz.prog 28 2=some (2,22):=kr
theorem M2:ar Tryz.prog 28 3=some (3,23):=kr
theorem Nc:ar Tryz.prog 28 4=some (4,24):=kr
theorem KI:ar Tryz.prog 28 5=some (5,25):=kr
theorem KF:ar Tryz.prog 28 6=some (6,26):=kr
theorem T5:placesOf Tryz.prog 28=some [(0,1),(1,1),(2,1),(3,1),(4,1),(5,1),(6,1)]:=kr
theorem SH:au Tryz.prog 29=some ⟨false,1,8,some (.nilFunc)⟩:=kr
theorem SA:au Tryz.prog 30=some ⟨false,1,8,some (.nilFunc)⟩:=kr
theorem TQ:au Tryz.prog 31=some ⟨false,1,8,some (.nilFunc)⟩:=kr
theorem Sc:au Tryz.prog 32=some ⟨false,1,24,some (.slice none 0 0)⟩:=kr
theorem Uf:au Tryz.prog 33=some ⟨true,3,40,some (.agg #[.int .i64 0,.int .i64 0,.slice none 0 0])⟩:=kr
theorem MT:ar Tryz.prog 33 0=some (0,3):=kr
theorem Lt:ar Tryz.prog 33 1=some (1,3):=kr
theorem Lq:ar Tryz.prog 33 2=some (2,32):=kr
theorem TS:placesOf Tryz.prog 33=some [(0,1),(1,1),(2,1)]:=kr
theorem SI:au Tryz.prog 34=some ⟨true,3,40,some (.agg #[.int .i64 0,.int .i64 0,.slice none 0 0])⟩:=kr
theorem Mc:ar Tryz.prog 34 0=some (0,3):=kr
theorem Ln:ar Tryz.prog 34 1=some (1,3):=kr
theorem Mo:ar Tryz.prog 34 2=some (2,32):=kr
theorem Ts:placesOf Tryz.prog 34=some [(0,1),(1,1),(2,1)]:=kr
theorem Tr:au Tryz.prog 35=some ⟨false,1,24,some (.slice none 0 0)⟩:=kr
theorem Sg:au Tryz.prog 36=some ⟨false,1,24,some (.slice none 0 0)⟩:=kr
theorem SX:au Tryz.prog 37=some ⟨false,1,24,some (.slice none 0 0)⟩:=kr
theorem T6:au Tryz.prog 38=some ⟨false,1,24,some (.slice none 0 0)⟩:=kr
theorem SE:au Tryz.prog 39=some ⟨false,1,24,some (.slice none 0 0)⟩:=kr
theorem Tu:au Tryz.prog 40=some ⟨true,3,72,some (.agg #[.slice none 0 0,.slice none 0 0,.slice none 0 0])⟩:=kr
theorem J1:ar Tryz.prog 40 0=some (0,37):=kr
theorem KJ:ar Tryz.prog 40 1=some (1,38):=kr
theorem ME:ar Tryz.prog 40 2=some (2,39):=kr
theorem Sk:placesOf Tryz.prog 40=some [(0,1),(1,1),(2,1)]:=kr
theorem Tx:au Tryz.prog 41=some ⟨true,3,72,some (.agg #[.slice none 0 0,.slice none 0 0,.slice none 0 0])⟩:=kr
theorem MQ:ar Tryz.prog 41 0=some (0,37):=kr
theorem J6:ar Tryz.prog 41 1=some (1,38):=kr
theorem KN:ar Tryz.prog 41 2=some (2,39):=kr
theorem SP:placesOf Tryz.prog 41=some [(0,1),(1,1),(2,1)]:=kr
theorem R9:au Tryz.prog 42=some ⟨true,15,312,some (.agg #[.string ⟨#[]⟩,.string ⟨#[]⟩,.slice none 0 0,.slice none 0 0,.slice none 0 0,.slice none 0 0,.slice none 0 0,.int .i64 0,.int .i64 0,.slice none 0 0,.slice none 0 0,.slice none 0 0,.slice none 0 0,.slice none 0 0,.slice none 0 0])⟩:=kr
theorem Lp:ar Tryz.prog 42 0=some (0,28):=kr
theorem LY:ar Tryz.prog 42 1=some (7,34):=kr
theorem Mw:ar Tryz.prog 42 2=some (10,35):=kr
theorem MD:ar Tryz.prog 42 3=some (11,36):=kr
theorem Mq:ar Tryz.prog 42 4=some (12,41):=kr
theorem SS:placesOf Tryz.prog 42=some [(0,7),(7,3),(10,1),(11,1),(12,3)]:=kr
theorem Tz:au Tryz.prog 43=some ⟨true,15,312,some (.agg #[.string ⟨#[]⟩,.string ⟨#[]⟩,.slice none 0 0,.slice none 0 0,.slice none 0 0,.slice none 0 0,.slice none 0 0,.int .i64 0,.int .i64 0,.slice none 0 0,.slice none 0 0,.slice none 0 0,.slice none 0 0,.slice none 0 0,.slice none 0 0])⟩:=kr
theorem MM:ar Tryz.prog 43 0=some (0,28):=kr
theorem MH:ar Tryz.prog 43 1=some (7,34):=kr
theorem Kv:ar Tryz.prog 43 2=some (10,35):=kr
theorem Kc:ar Tryz.prog 43 3=some (11,36):=kr
theorem JZ:ar Tryz.prog 43 4=some (12,41):=kr
theorem Uc:placesOf Tryz.prog 43=some [(0,7),(7,3),(10,1),(11,1),(12,3)]:=kr
theorem TR:au Tryz.prog 44=some ⟨false,1,8,some (.int .i64 0)⟩:=kr
theorem TL:au Tryz.prog 46=some ⟨false,1,8,some (.nilFunc)⟩:=kr
theorem SY:au Tryz.prog 47=some ⟨false,1,8,some (.nilFunc)⟩:=kr
theorem Ue:au Tryz.prog 48=some ⟨false,1,8,some (.nilFunc)⟩:=kr
theorem Tw:au Tryz.prog 49=some ⟨false,1,24,some (.slice none 0 0)⟩:=kr
theorem SU:au Tryz.prog 50=some ⟨true,5,72,some (.agg #[.bool false,.string ⟨#[]⟩,.string ⟨#[]⟩,.bool false,.slice none 0 0])⟩:=kr
theorem JM:ar Tryz.prog 50 0=some (0,4):=kr
theorem Lx:ar Tryz.prog 50 1=some (1,9):=kr
theorem LG:ar Tryz.prog 50 2=some (2,9):=kr
theorem J3:ar Tryz.prog 50 3=some (3,4):=kr
theorem Kl:ar Tryz.prog 50 4=some (4,49):=kr
theorem Tj:placesOf Tryz.prog 50=some [(0,1),(1,1),(2,1),(3,1),(4,1)]:=kr
theorem KS:au Tryz.prog 51=some ⟨true,5,72,some (.agg #[.bool false,.string ⟨#[]⟩,.string ⟨#[]⟩,.bool false,.slice none 0 0])⟩:=kr
theorem Ly:ar Tryz.prog 51 0=some (0,4):=kr
theorem JN:ar Tryz.prog 51 1=some (1,9):=kr
theorem KE:ar Tryz.prog 51 2=some (2,9):=kr
theorem Nb:ar Tryz.prog 51 3=some (3,4):=kr
theorem MO:ar Tryz.prog 51 4=some (4,49):=kr
theorem Tl:placesOf Tryz.prog 51=some [(0,1),(1,1),(2,1),(3,1),(4,1)]:=kr
theorem R6:au Tryz.prog 52=some ⟨false,1,8,some (.int .u64 0)⟩:=kr
theorem TM:au Tryz.prog 53=some ⟨true,4,32,some (.agg #[.int .u64 0,.int .u64 0,.int .u64 0,.int .u64 0])⟩:=kr
theorem ON:au Tryz.prog 54=some ⟨true,4,32,some (.agg #[.int .u64 0,.int .u64 0,.int .u64 0,.int .u64 0])⟩:=kr
theorem T0:au Tryz.prog 55=some ⟨true,8,88,some (.agg #[.int .i64 0,.string ⟨#[]⟩,.int .u64 0,.int .u64 0,.int .u64 0,.int .u64 0,.string ⟨#[]⟩,.string ⟨#[]⟩])⟩:=kr
theorem LK:ar Tryz.prog 55 0=some (0,3):=kr
theorem Mf:ar Tryz.prog 55 1=some (1,9):=kr
theorem MF:ar Tryz.prog 55 2=some (2,54):=kr
theorem KG:ar Tryz.prog 55 3=some (6,9):=kr
theorem Ld:ar Tryz.prog 55 4=some (7,9):=kr
theorem TB:placesOf Tryz.prog 55=some [(0,1),(1,1),(2,4),(6,1),(7,1)]:=kr
theorem E3:au Tryz.prog 56=some ⟨true,8,88,some (.agg #[.int .i64 0,.string ⟨#[]⟩,.int .u64 0,.int .u64 0,.int .u64 0,.int .u64 0,.string ⟨#[]⟩,.string ⟨#[]⟩])⟩:=kr
theorem KU:ar Tryz.prog 56 0=some (0,3):=kr
theorem Mt:ar Tryz.prog 56 1=some (1,9):=kr
theorem KQ:ar Tryz.prog 56 2=some (2,54):=kr
theorem JK:ar Tryz.prog 56 3=some (6,9):=kr
theorem M9:ar Tryz.prog 56 4=some (7,9):=kr
theorem Tk:placesOf Tryz.prog 56=some [(0,1),(1,1),(2,4),(6,1),(7,1)]:=kr
theorem Sx:au Tryz.prog 57=some ⟨false,1,8,some (.nilFunc)⟩:=kr
theorem Uj:au Tryz.prog 58=some ⟨false,1,8,some (.nilFunc)⟩:=kr
theorem Ss:au Tryz.prog 59=some ⟨false,1,8,some (.nilFunc)⟩:=kr
theorem Tf:au Tryz.prog 60=some ⟨false,1,8,some (.nilFunc)⟩:=kr
theorem Th:au Tryz.prog 61=some ⟨false,1,24,some (.slice none 0 0)⟩:=kr
theorem Tn:au Tryz.prog 62=some ⟨true,2,32,some (.agg #[.int .i64 0,.slice none 0 0])⟩:=kr
theorem Lu:ar Tryz.prog 62 0=some (0,3):=kr
theorem Md:ar Tryz.prog 62 1=some (1,61):=kr
theorem TK:placesOf Tryz.prog 62=some [(0,1),(1,1)]:=kr
theorem Hd:au Tryz.prog 63=some ⟨true,2,32,some (.agg #[.int .i64 0,.slice none 0 0])⟩:=kr
theorem Lw:ar Tryz.prog 63 0=some (0,3):=kr
theorem KH:ar Tryz.prog 63 1=some (1,61):=kr
theorem TU:placesOf Tryz.prog 63=some [(0,1),(1,1)]:=kr
theorem TN:au Tryz.prog 64=some ⟨true,5,40,some (.agg #[.int .i64 0,.int .u64 0,.int .u64 0,.int .u64 0,.int .u64 0])⟩:=kr
theorem J2:ar Tryz.prog 64 0=some (0,3):=kr
theorem Kt:ar Tryz.prog 64 1=some (1,54):=kr
theorem TC:placesOf Tryz.prog 64=some [(0,1),(1,4)]:=kr
theorem ya:au Tryz.prog 65=some ⟨true,5,40,some (.agg #[.int .i64 0,.int .u64 0,.int .u64 0,.int .u64 0,.int .u64 0])⟩:=kr
theorem LI:ar Tryz.prog 65 0=some (0,3):=kr
theorem Mx:ar Tryz.prog 65 1=some (1,54):=kr
theorem TX:placesOf Tryz.prog 65=some [(0,1),(1,4)]:=kr
theorem Sj:au Tryz.prog 66=some ⟨true,4,48,some (.agg #[.int .i64 0,.int .i64 0,.int .i64 0,.slice none 0 0])⟩:=kr
theorem JG:ar Tryz.prog 66 0=some (0,3):=kr
theorem K7:ar Tryz.prog 66 1=some (1,3):=kr
theorem My:ar Tryz.prog 66 2=some (2,3):=kr
theorem Mr:ar Tryz.prog 66 3=some (3,39):=kr
theorem Sv:placesOf Tryz.prog 66=some [(0,1),(1,1),(2,1),(3,1)]:=kr
theorem O7:au Tryz.prog 67=some ⟨true,4,48,some (.agg #[.int .i64 0,.int .i64 0,.int .i64 0,.slice none 0 0])⟩:=kr
theorem KV:ar Tryz.prog 67 0=some (0,3):=kr
theorem Kq:ar Tryz.prog 67 1=some (1,3):=kr
theorem Le:ar Tryz.prog 67 2=some (2,3):=kr
theorem LX:ar Tryz.prog 67 3=some (3,39):=kr
theorem Ub:placesOf Tryz.prog 67=some [(0,1),(1,1),(2,1),(3,1)]:=kr
theorem Tp:au Tryz.prog 68=some ⟨false,1,8,some (.nilFunc)⟩:=kr
theorem Ua:au Tryz.prog 69=some ⟨true,3,24,some (.agg #[.int .i64 0,.int .i64 0,.int .i64 0])⟩:=kr
theorem LW:ar Tryz.prog 69 0=some (0,3):=kr
theorem JY:ar Tryz.prog 69 1=some (1,3):=kr
theorem J4:ar Tryz.prog 69 2=some (2,3):=kr
theorem Sa:placesOf Tryz.prog 69=some [(0,1),(1,1),(2,1)]:=kr
theorem MG:au Tryz.prog 70=some ⟨true,3,24,some (.agg #[.int .i64 0,.int .i64 0,.int .i64 0])⟩:=kr
theorem Nd:ar Tryz.prog 70 0=some (0,3):=kr
theorem Ll:ar Tryz.prog 70 1=some (1,3):=kr
theorem Mk:ar Tryz.prog 70 2=some (2,3):=kr
theorem TV:placesOf Tryz.prog 70=some [(0,1),(1,1),(2,1)]:=kr
theorem Sd:au Tryz.prog 71=some ⟨false,1,8,some (.nilFunc)⟩:=kr
theorem So:au Tryz.prog 72=some ⟨false,1,8,some (.nilFunc)⟩:=kr
theorem SQ:au Tryz.prog 73=some ⟨false,1,8,some (.nilFunc)⟩:=kr
theorem Sl:au Tryz.prog 74=some ⟨false,1,24,some (.slice none 0 0)⟩:=kr
theorem TG:au Tryz.prog 76=some ⟨false,1,8,some (.nilFunc)⟩:=kr
theorem TH:au Tryz.prog 78=some ⟨false,1,8,some (.nilFunc)⟩:=kr
theorem SL:au Tryz.prog 79=some ⟨false,1,8,some (.nilFunc)⟩:=kr
theorem Kh:au Tryz.prog 80=some ⟨false,1,24,some (.slice none 0 0)⟩:=kr
theorem To:au Tryz.prog 81=some ⟨true,2,32,some (.agg #[.int .i64 0,.slice none 0 0])⟩:=kr
theorem MX:ar Tryz.prog 81 0=some (0,3):=kr
theorem KM:ar Tryz.prog 81 1=some (1,36):=kr
theorem TY:placesOf Tryz.prog 81=some [(0,1),(1,1)]:=kr
theorem MW:au Tryz.prog 82=some ⟨true,2,32,some (.agg #[.int .i64 0,.slice none 0 0])⟩:=kr
theorem Kx:ar Tryz.prog 82 0=some (0,3):=kr
theorem K9:ar Tryz.prog 82 1=some (1,36):=kr
theorem Ud:placesOf Tryz.prog 82=some [(0,1),(1,1)]:=kr
theorem Sb:au Tryz.prog 83=some ⟨false,1,24,some (.slice none 0 0)⟩:=kr
theorem Tg:au Tryz.prog 84=some ⟨true,2,40,some (.agg #[.string ⟨#[]⟩,.slice none 0 0])⟩:=kr
theorem La:ar Tryz.prog 84 0=some (0,9):=kr
theorem Ma:ar Tryz.prog 84 1=some (1,83):=kr
theorem Tc:placesOf Tryz.prog 84=some [(0,1),(1,1)]:=kr
theorem Ks:au Tryz.prog 85=some ⟨true,2,40,some (.agg #[.string ⟨#[]⟩,.slice none 0 0])⟩:=kr
theorem Mj:ar Tryz.prog 85 0=some (0,9):=kr
theorem Kr:ar Tryz.prog 85 1=some (1,83):=kr
theorem Sp:placesOf Tryz.prog 85=some [(0,1),(1,1)]:=kr
theorem SO:au Tryz.prog 86=some ⟨false,1,8,some (.nilFunc)⟩:=kr
theorem Ui:au Tryz.prog 88=some ⟨false,1,8,some (.nilFunc)⟩:=kr
theorem TE:au Tryz.prog 89=some ⟨false,1,8,some (.pointer none)⟩:=kr
theorem Sf:au Tryz.prog 90=some ⟨false,1,8,some (.map none)⟩:=kr
theorem Sq:au Tryz.prog 91=some ⟨false,1,8,some (.map none)⟩:=kr
theorem TD:au Tryz.prog 92=some ⟨false,1,24,some (.slice none 0 0)⟩:=kr
theorem T1:au Tryz.prog 93=some ⟨true,19,360,some (.agg #[.string ⟨#[]⟩,.string ⟨#[]⟩,.slice none 0 0,.slice none 0 0,.slice none 0 0,.slice none 0 0,.slice none 0 0,.int .i64 0,.int .i64 0,.slice none 0 0,.slice none 0 0,.slice none 0 0,.slice none 0 0,.slice none 0 0,.slice none 0 0,.map none,.map none,.slice none 0 0,.int .i64 0])⟩:=kr
theorem LV:ar Tryz.prog 93 0=some (0,43):=kr
theorem Lg:ar Tryz.prog 93 1=some (15,90):=kr
theorem Kn:ar Tryz.prog 93 2=some (16,91):=kr
theorem KT:ar Tryz.prog 93 3=some (17,92):=kr
theorem KK:ar Tryz.prog 93 4=some (18,3):=kr
theorem T4:placesOf Tryz.prog 93=some [(0,15),(15,1),(16,1),(17,1),(18,1)]:=kr
theorem T2:au Tryz.prog 94=some ⟨true,19,360,some (.agg #[.string ⟨#[]⟩,.string ⟨#[]⟩,.slice none 0 0,.slice none 0 0,.slice none 0 0,.slice none 0 0,.slice none 0 0,.int .i64 0,.int .i64 0,.slice none 0 0,.slice none 0 0,.slice none 0 0,.slice none 0 0,.slice none 0 0,.slice none 0 0,.map none,.map none,.slice none 0 0,.int .i64 0])⟩:=kr
theorem Ke:ar Tryz.prog 94 0=some (0,43):=kr
theorem JH:ar Tryz.prog 94 1=some (15,90):=kr
theorem Me:ar Tryz.prog 94 2=some (16,91):=kr
theorem Lr:ar Tryz.prog 94 3=some (17,92):=kr
theorem Kw:ar Tryz.prog 94 4=some (18,3):=kr
theorem Sr:placesOf Tryz.prog 94=some [(0,15),(15,1),(16,1),(17,1),(18,1)]:=kr
theorem SN:au Tryz.prog 95=some ⟨false,1,8,some (.pointer none)⟩:=kr
theorem Sz:au Tryz.prog 96=some ⟨false,1,8,some (.nilFunc)⟩:=kr
theorem T7:au Tryz.prog 97=some ⟨false,1,24,some (.slice none 0 0)⟩:=kr
theorem S4:au Tryz.prog 98=some ⟨false,1,8,some (.nilFunc)⟩:=kr
theorem SK:au Tryz.prog 99=some ⟨true,10,208,some (.agg #[.string ⟨#[]⟩,.string ⟨#[]⟩,.slice none 0 0,.slice none 0 0,.slice none 0 0,.slice none 0 0,.slice none 0 0,.slice none 0 0,.slice none 0 0,.int .i64 0])⟩:=kr
theorem L0:ar Tryz.prog 99 0=some (0,28):=kr
theorem Ml:ar Tryz.prog 99 1=some (7,36):=kr
theorem Mz:ar Tryz.prog 99 2=some (8,97):=kr
theorem JQ:ar Tryz.prog 99 3=some (9,3):=kr
theorem Ti:placesOf Tryz.prog 99=some [(0,7),(7,1),(8,1),(9,1)]:=kr
theorem QQ:au Tryz.prog 100=some ⟨true,10,208,some (.agg #[.string ⟨#[]⟩,.string ⟨#[]⟩,.slice none 0 0,.slice none 0 0,.slice none 0 0,.slice none 0 0,.slice none 0 0,.slice none 0 0,.slice none 0 0,.int .i64 0])⟩:=kr
theorem HZ:ar Tryz.prog 100 0=some (0,28):=kr
theorem Hx:ar Tryz.prog 100 1=some (7,36):=kr
theorem GG:ar Tryz.prog 100 2=some (8,97):=kr
theorem HF:ar Tryz.prog 100 3=some (9,3):=kr
theorem NY:placesOf Tryz.prog 100=some [(0,7),(7,1),(8,1),(9,1)]:=kr
theorem Oi:au Tryz.prog 101=some ⟨false,1,8,some (.nilFunc)⟩:=kr
theorem Q1:au Tryz.prog 102=some ⟨true,7,72,some (.agg #[.bool false,.string ⟨#[]⟩,.int .u64 0,.int .u64 0,.int .u64 0,.int .u64 0,.string ⟨#[]⟩])⟩:=kr
theorem Ht:ar Tryz.prog 102 0=some (0,4):=kr
theorem HG:ar Tryz.prog 102 1=some (1,9):=kr
theorem IM:ar Tryz.prog 102 2=some (2,54):=kr
theorem Ig:ar Tryz.prog 102 3=some (6,9):=kr
theorem RB:placesOf Tryz.prog 102=some [(0,1),(1,1),(2,4),(6,1)]:=kr
theorem NV:au Tryz.prog 103=some ⟨true,7,72,some (.agg #[.bool false,.string ⟨#[]⟩,.int .u64 0,.int .u64 0,.int .u64 0,.int .u64 0,.string ⟨#[]⟩])⟩:=kr
theorem I9:ar Tryz.prog 103 0=some (0,4):=kr
theorem G3:ar Tryz.prog 103 1=some (1,9):=kr
theorem HO:ar Tryz.prog 103 2=some (2,54):=kr
theorem HU:ar Tryz.prog 103 3=some (6,9):=kr
theorem O4:placesOf Tryz.prog 103=some [(0,1),(1,1),(2,4),(6,1)]:=kr
theorem P9:au Tryz.prog 104=some ⟨false,1,8,some (.nilFunc)⟩:=kr
theorem N9:au Tryz.prog 105=some ⟨false,1,8,some (.pointer none)⟩:=kr
theorem QX:au Tryz.prog 106=some ⟨false,1,8,some (.nilFunc)⟩:=kr
theorem Po:au Tryz.prog 107=some ⟨false,1,8,some (.nilFunc)⟩:=kr
theorem OE:au Tryz.prog 108=some ⟨false,1,8,some (.nilFunc)⟩:=kr
theorem Rn:au Tryz.prog 109=some ⟨false,1,8,some (.nilFunc)⟩:=kr
theorem Pp:au Tryz.prog 110=some ⟨false,1,8,some (.nilFunc)⟩:=kr
theorem QM:au Tryz.prog 111=some ⟨true,5,48,some (.agg #[.string ⟨#[]⟩,.int .u64 0,.int .u64 0,.int .u64 0,.int .u64 0])⟩:=kr
theorem Hj:ar Tryz.prog 111 0=some (0,9):=kr
theorem Ii:ar Tryz.prog 111 1=some (1,54):=kr
theorem PV:placesOf Tryz.prog 111=some [(0,1),(1,4)]:=kr
theorem Fw:au Tryz.prog 112=some ⟨true,5,48,some (.agg #[.string ⟨#[]⟩,.int .u64 0,.int .u64 0,.int .u64 0,.int .u64 0])⟩:=kr
theorem IR:ar Tryz.prog 112 0=some (0,9):=kr
theorem IK:ar Tryz.prog 112 1=some (1,54):=kr
theorem Rs:placesOf Tryz.prog 112=some [(0,1),(1,4)]:=kr
theorem Ri:au Tryz.prog 113=some ⟨true,2,32,some (.agg #[.string ⟨#[]⟩,.string ⟨#[]⟩])⟩:=kr
theorem H3:ar Tryz.prog 113 0=some (0,9):=kr
theorem GY:ar Tryz.prog 113 1=some (1,9):=kr
theorem Qp:placesOf Tryz.prog 113=some [(0,1),(1,1)]:=kr
theorem Fs:au Tryz.prog 114=some ⟨true,2,32,some (.agg #[.string ⟨#[]⟩,.string ⟨#[]⟩])⟩:=kr
theorem GB:ar Tryz.prog 114 0=some (0,9):=kr
theorem Jb:ar Tryz.prog 114 1=some (1,9):=kr
theorem O2:placesOf Tryz.prog 114=some [(0,1),(1,1)]:=kr
theorem QK:au Tryz.prog 115=some ⟨false,1,8,some (.nilFunc)⟩:=kr
theorem Qt:au Tryz.prog 116=some ⟨false,1,8,some (.nilFunc)⟩:=kr
theorem PJ:au Tryz.prog 117=some ⟨false,1,8,some (.nilFunc)⟩:=kr
theorem Q2:au Tryz.prog 118=some ⟨false,1,8,some (.nilFunc)⟩:=kr
theorem NA:au Tryz.prog 119=some ⟨false,1,8,some (.nilFunc)⟩:=kr
theorem Pu:au Tryz.prog 120=some ⟨false,1,8,some (.nilFunc)⟩:=kr
theorem RE:au Tryz.prog 121=some ⟨false,1,8,some (.nilFunc)⟩:=kr
theorem NW:au Tryz.prog 122=some ⟨false,1,8,some (.nilFunc)⟩:=kr
theorem Rv:au Tryz.prog 124=some ⟨false,1,8,some (.nilFunc)⟩:=kr
theorem QH:au Tryz.prog 125=some ⟨false,1,8,some (.nilFunc)⟩:=kr
theorem PP:au Tryz.prog 127=some ⟨false,1,8,some (.nilFunc)⟩:=kr
theorem QU:au Tryz.prog 128=some ⟨false,1,8,some (.nilFunc)⟩:=kr
theorem QZ:au Tryz.prog 129=some ⟨false,1,8,some (.nilFunc)⟩:=kr
theorem RG:au Tryz.prog 130=some ⟨false,1,8,some (.nilFunc)⟩:=kr
theorem Oc:au Tryz.prog 131=some ⟨false,1,8,some (.nilFunc)⟩:=kr
theorem Rw:au Tryz.prog 132=some ⟨false,1,24,some (.slice none 0 0)⟩:=kr
theorem Qx:au Tryz.prog 133=some ⟨false,1,8,some (.nilFunc)⟩:=kr
theorem Oq:au Tryz.prog 134=some ⟨false,1,8,some (.nilFunc)⟩:=kr
theorem QN:au Tryz.prog 135=some ⟨true,4,56,some (.agg #[.int .i64 0,.string ⟨#[]⟩,.int .i64 0,.slice none 0 0])⟩:=kr
theorem Hl:ar Tryz.prog 135 0=some (0,3):=kr
theorem HA:ar Tryz.prog 135 1=some (1,9):=kr
theorem Gq:ar Tryz.prog 135 2=some (2,3):=kr
theorem Gr:ar Tryz.prog 135 3=some (3,83):=kr
theorem Ol:placesOf Tryz.prog 135=some [(0,1),(1,1),(2,1),(3,1)]:=kr
theorem EZ:au Tryz.prog 136=some ⟨true,4,56,some (.agg #[.int .i64 0,.string ⟨#[]⟩,.int .i64 0,.slice none 0 0])⟩:=kr
theorem GD:ar Tryz.prog 136 0=some (0,3):=kr
theorem Gi:ar Tryz.prog 136 1=some (1,9):=kr
theorem Hu:ar Tryz.prog 136 2=some (2,3):=kr
theorem Gn:ar Tryz.prog 136 3=some (3,83):=kr
theorem RA:placesOf Tryz.prog 136=some [(0,1),(1,1),(2,1),(3,1)]:=kr
theorem Q7:au Tryz.prog 137=some ⟨false,1,8,some (.pointer none)⟩:=kr
theorem OA:au Tryz.prog 138=some ⟨false,1,8,some (.nilFunc)⟩:=kr
theorem Oh:au Tryz.prog 139=some ⟨false,1,8,some (.nilFunc)⟩:=kr
theorem OB:au Tryz.prog 140=some ⟨false,1,8,some (.nilFunc)⟩:=kr
theorem Pj:au Tryz.prog 141=some ⟨false,1,8,some (.nilFunc)⟩:=kr
theorem OI:au Tryz.prog 142=some ⟨false,1,8,some (.nilFunc)⟩:=kr
theorem Ry:au Tryz.prog 143=some ⟨false,1,24,some (.slice none 0 0)⟩:=kr
theorem Og:au Tryz.prog 144=some ⟨false,1,8,some (.nilFunc)⟩:=kr
theorem Qn:au Tryz.prog 145=some ⟨false,1,8,some (.nilFunc)⟩:=kr
theorem Oo:au Tryz.prog 146=some ⟨false,1,8,some (.nilFunc)⟩:=kr
theorem Oy:au Tryz.prog 147=some ⟨false,1,8,some (.nilFunc)⟩:=kr
theorem NK:au Tryz.prog 148=some ⟨false,1,8,some (.nilFunc)⟩:=kr
theorem Qg:au Tryz.prog 149=some ⟨false,1,8,some (.nilFunc)⟩:=kr
theorem QT:au Tryz.prog 150=some ⟨false,1,8,some (.nilFunc)⟩:=kr
theorem OO:au Tryz.prog 151=some ⟨false,1,8,some (.nilFunc)⟩:=kr
theorem Qz:au Tryz.prog 152=some ⟨false,1,8,some (.nilFunc)⟩:=kr
theorem Qk:au Tryz.prog 153=some ⟨true,7,72,some (.agg #[.bool false,.string ⟨#[]⟩,.int .u64 0,.int .u64 0,.int .u64 0,.int .u64 0,.string ⟨#[]⟩])⟩:=kr
theorem GR:ar Tryz.prog 153 0=some (0,4):=kr
theorem Hp:ar Tryz.prog 153 1=some (1,9):=kr
theorem Gk:ar Tryz.prog 153 2=some (2,54):=kr
theorem Gl:ar Tryz.prog 153 3=some (6,9):=kr
theorem Qu:placesOf Tryz.prog 153=some [(0,1),(1,1),(2,4),(6,1)]:=kr
theorem Jw:au Tryz.prog 154=some ⟨true,7,72,some (.agg #[.bool false,.string ⟨#[]⟩,.int .u64 0,.int .u64 0,.int .u64 0,.int .u64 0,.string ⟨#[]⟩])⟩:=kr
theorem Je:ar Tryz.prog 154 0=some (0,4):=kr
theorem GU:ar Tryz.prog 154 1=some (1,9):=kr
theorem I7:ar Tryz.prog 154 2=some (2,54):=kr
theorem Hk:ar Tryz.prog 154 3=some (6,9):=kr
theorem Ql:placesOf Tryz.prog 154=some [(0,1),(1,1),(2,4),(6,1)]:=kr
theorem Q6:au Tryz.prog 155=some ⟨false,1,8,some (.nilFunc)⟩:=kr
theorem PH:au Tryz.prog 157=some ⟨false,1,8,some (.nilFunc)⟩:=kr
theorem P5:au Tryz.prog 158=some ⟨false,1,8,some (.nilFunc)⟩:=kr
theorem Qv:au Tryz.prog 159=some ⟨false,1,8,some (.nilFunc)⟩:=kr
theorem Qf:au Tryz.prog 160=some ⟨false,1,8,some (.nilFunc)⟩:=kr
theorem Ov:au Tryz.prog 161=some ⟨false,1,8,some (.nilFunc)⟩:=kr
theorem Rh:au Tryz.prog 162=some ⟨false,1,8,some (.nilFunc)⟩:=kr
theorem Pm:au Tryz.prog 163=some ⟨false,1,8,some (.nilFunc)⟩:=kr
theorem NZ:au Tryz.prog 164=some ⟨false,1,8,some (.pointer none)⟩:=kr
theorem Ot:au Tryz.prog 165=some ⟨false,1,8,some (.map none)⟩:=kr
theorem Qa:au Tryz.prog 166=some ⟨false,1,8,some (.nilFunc)⟩:=kr
theorem PS:au Tryz.prog 167=some ⟨false,1,8,some (.nilFunc)⟩:=kr
theorem PD:au Tryz.prog 168=some ⟨false,1,8,some (.nilFunc)⟩:=kr
theorem Qh:au Tryz.prog 169=some ⟨false,1,8,some (.nilFunc)⟩:=kr
theorem PX:au Tryz.prog 170=some ⟨false,1,24,some (.slice none 0 0)⟩:=kr
theorem Ra:au Tryz.prog 172=some ⟨false,1,8,some (.nilFunc)⟩:=kr
theorem QE:au Tryz.prog 173=some ⟨false,1,8,some (.nilFunc)⟩:=kr
theorem NH:au Tryz.prog 174=some ⟨false,1,8,some (.nilFunc)⟩:=kr
theorem NC:au Tryz.prog 175=some ⟨false,1,8,some (.nilFunc)⟩:=kr
theorem QR:au Tryz.prog 176=some ⟨false,1,8,some (.nilFunc)⟩:=kr
theorem OZ:au Tryz.prog 177=some ⟨false,1,8,some (.nilFunc)⟩:=kr
theorem NJ:au Tryz.prog 178=some ⟨false,1,24,some (.slice none 0 0)⟩:=kr
theorem PN:au Tryz.prog 180=some ⟨false,1,8,some (.nilFunc)⟩:=kr
theorem Ow:au Tryz.prog 181=some ⟨false,1,8,some (.nilFunc)⟩:=kr
theorem Pw:au Tryz.prog 182=some ⟨false,1,8,some (.nilFunc)⟩:=kr
theorem PO:au Tryz.prog 183=some ⟨false,1,8,some (.nilFunc)⟩:=kr
theorem PM:au Tryz.prog 184=some ⟨false,1,8,some (.nilFunc)⟩:=kr
theorem OY:au Tryz.prog 185=some ⟨false,1,8,some (.nilFunc)⟩:=kr
theorem Rz:au Tryz.prog 186=some ⟨false,1,8,some (.nilFunc)⟩:=kr
theorem OL:au Tryz.prog 187=some ⟨false,1,8,some (.nilFunc)⟩:=kr
theorem PF:au Tryz.prog 188=some ⟨false,1,8,some (.nilFunc)⟩:=kr
theorem RD:au Tryz.prog 189=some ⟨true,9,184,some (.agg #[.string ⟨#[]⟩,.string ⟨#[]⟩,.slice none 0 0,.slice none 0 0,.slice none 0 0,.slice none 0 0,.slice none 0 0,.slice none 0 0,.map none])⟩:=kr
theorem IP:ar Tryz.prog 189 0=some (0,28):=kr
theorem G8:ar Tryz.prog 189 1=some (7,36):=kr
theorem Iu:ar Tryz.prog 189 2=some (8,90):=kr
theorem O9:placesOf Tryz.prog 189=some [(0,7),(7,1),(8,1)]:=kr
theorem Rd:au Tryz.prog 190=some ⟨true,9,184,some (.agg #[.string ⟨#[]⟩,.string ⟨#[]⟩,.slice none 0 0,.slice none 0 0,.slice none 0 0,.slice none 0 0,.slice none 0 0,.slice none 0 0,.map none])⟩:=kr
theorem HP:ar Tryz.prog 190 0=some (0,28):=kr
theorem Ie:ar Tryz.prog 190 1=some (7,36):=kr
theorem Gs:ar Tryz.prog 190 2=some (8,90):=kr
theorem Pg:placesOf Tryz.prog 190=some [(0,7),(7,1),(8,1)]:=kr
theorem QS:au Tryz.prog 191=some ⟨false,1,8,some (.nilFunc)⟩:=kr
theorem P4:au Tryz.prog 192=some ⟨false,1,8,some (.nilFunc)⟩:=kr
theorem Oj:au Tryz.prog 193=some ⟨false,1,8,some (.nilFunc)⟩:=kr
theorem QG:au Tryz.prog 194=some ⟨false,1,8,some (.nilFunc)⟩:=kr
theorem Qs:au Tryz.prog 195=some ⟨false,1,8,some (.nilFunc)⟩:=kr
theorem PL:au Tryz.prog 196=some ⟨false,1,8,some (.pointer none)⟩:=kr
theorem OU:au Tryz.prog 197=some ⟨false,1,8,some (.pointer none)⟩:=kr
theorem N0:au Tryz.prog 198=some ⟨false,1,8,some (.int .u64 0)⟩:=kr
theorem P8:au Tryz.prog 199=some ⟨false,1,8,some (.nilFunc)⟩:=kr
theorem NU:au Tryz.prog 200=some ⟨false,1,8,some (.nilFunc)⟩:=kr
theorem QD:au Tryz.prog 201=some ⟨false,1,8,some (.map none)⟩:=kr
theorem NN:au Tryz.prog 202=some ⟨true,2,16,some (.agg #[.int .i64 0,.int .i64 0])⟩:=kr
theorem I6:ar Tryz.prog 202 0=some (0,3):=kr
theorem IL:ar Tryz.prog 202 1=some (1,3):=kr
theorem Qq:placesOf Tryz.prog 202=some [(0,1),(1,1)]:=kr
theorem Re:au Tryz.prog 203=some ⟨true,2,16,some (.agg #[.int .i64 0,.int .i64 0])⟩:=kr
theorem I5:ar Tryz.prog 203 0=some (0,3):=kr
theorem IJ:ar Tryz.prog 203 1=some (1,3):=kr
theorem Pt:placesOf Tryz.prog 203=some [(0,1),(1,1)]:=kr
theorem O6:au Tryz.prog 204=some ⟨false,1,8,some (.nilFunc)⟩:=kr
theorem Pc:au Tryz.prog 205=some ⟨false,1,8,some (.nilFunc)⟩:=kr
theorem Qy:au Tryz.prog 206=some ⟨false,1,8,some (.nilFunc)⟩:=kr
theorem NE:au Tryz.prog 207=some ⟨false,1,8,some (.nilFunc)⟩:=kr
theorem PR:au Tryz.prog 208=some ⟨false,1,8,some (.nilFunc)⟩:=kr
theorem QC:au Tryz.prog 209=some ⟨false,1,8,some (.nilFunc)⟩:=kr
theorem Ox:au Tryz.prog 210=some ⟨false,1,24,some (.slice none 0 0)⟩:=kr
theorem P7:au Tryz.prog 211=some ⟨false,1,8,some (.nilFunc)⟩:=kr
theorem Om:au Tryz.prog 212=some ⟨false,1,8,some (.nilFunc)⟩:=kr
theorem NB:au Tryz.prog 213=some ⟨true,2,16,some (.agg #[.int .i64 0,.int .i64 0])⟩:=kr
theorem IX:ar Tryz.prog 213 0=some (0,3):=kr
theorem HS:ar Tryz.prog 213 1=some (1,3):=kr
theorem Nx:placesOf Tryz.prog 213=some [(0,1),(1,1)]:=kr
theorem Q4:au Tryz.prog 214=some ⟨true,2,16,some (.agg #[.int .i64 0,.int .i64 0])⟩:=kr
theorem IE:ar Tryz.prog 214 0=some (0,3):=kr
theorem HE:ar Tryz.prog 214 1=some (1,3):=kr
theorem PA:placesOf Tryz.prog 214=some [(0,1),(1,1)]:=kr
theorem QO:au Tryz.prog 215=some ⟨false,1,8,some (.nilFunc)⟩:=kr
theorem Of:au Tryz.prog 216=some ⟨false,1,8,some (.nilFunc)⟩:=kr
theorem OT:au Tryz.prog 217=some ⟨false,1,8,some (.nilFunc)⟩:=kr
theorem On:au Tryz.prog 218=some ⟨false,1,8,some (.nilFunc)⟩:=kr
theorem Pe:au Tryz.prog 219=some ⟨false,1,8,some (.nilFunc)⟩:=kr
theorem Px:au Tryz.prog 220=some ⟨false,1,8,some (.nilFunc)⟩:=kr
theorem Ou:au Tryz.prog 221=some ⟨false,1,8,some (.nilFunc)⟩:=kr
theorem ND:au Tryz.prog 222=some ⟨false,1,8,some (.nilFunc)⟩:=kr
theorem PZ:au Tryz.prog 223=some ⟨false,1,8,some (.nilFunc)⟩:=kr
theorem Ro:au Tryz.prog 224=some ⟨false,1,8,some (.nilFunc)⟩:=kr
theorem Nv:au Tryz.prog 225=some ⟨false,1,8,some (.nilFunc)⟩:=kr
theorem Rf:au Tryz.prog 226=some ⟨false,1,8,some (.pointer none)⟩:=kr
theorem PT:au Tryz.prog 227=some ⟨true,2,32,some (.agg #[.pointer none,.slice none 0 0])⟩:=kr
theorem I0:ar Tryz.prog 227 0=some (0,226):=kr
theorem Gg:ar Tryz.prog 227 1=some (1,178):=kr
theorem Pd:placesOf Tryz.prog 227=some [(0,1),(1,1)]:=kr
theorem Od:au Tryz.prog 228=some ⟨true,2,32,some (.agg #[.pointer none,.slice none 0 0])⟩:=kr
theorem Hi:ar Tryz.prog 228 0=some (0,226):=kr
theorem Hc:ar Tryz.prog 228 1=some (1,178):=kr
theorem PG:placesOf Tryz.prog 228=some [(0,1),(1,1)]:=kr
theorem RC:au Tryz.prog 229=some ⟨false,1,16,some (.nilIface)⟩:=kr
theorem Pv:au Tryz.prog 230=some ⟨false,1,16,some (.nilIface)⟩:=kr
theorem PC:au Tryz.prog 231=some ⟨false,1,8,some (.nilFunc)⟩:=kr
theorem NG:au Tryz.prog 233=some ⟨false,1,8,some (.nilFunc)⟩:=kr
theorem Rr:au Tryz.prog 234=some ⟨false,1,8,some (.nilFunc)⟩:=kr
theorem Qm:au Tryz.prog 235=some ⟨false,1,8,some (.nilFunc)⟩:=kr
theorem Rj:au Tryz.prog 236=some ⟨false,1,8,some (.int .i64 0)⟩:=kr
theorem OF:au Tryz.prog 238=some ⟨false,1,8,some (.nilFunc)⟩:=kr
theorem OS:au Tryz.prog 239=some ⟨false,1,8,some (.nilFunc)⟩:=kr
theorem NR:au Tryz.prog 240=some ⟨false,1,8,some (.nilFunc)⟩:=kr
theorem Pf:au Tryz.prog 241=some ⟨false,1,8,some (.nilFunc)⟩:=kr
theorem O0:au Tryz.prog 242=some ⟨false,1,8,some (.nilFunc)⟩:=kr
theorem Rx:au Tryz.prog 243=some ⟨false,1,4,some (.int .u32 0)⟩:=kr
theorem Pl:au Tryz.prog 244=some ⟨false,1,8,some (.nilFunc)⟩:=kr
theorem Q5:au Tryz.prog 245=some ⟨false,1,8,some (.nilFunc)⟩:=kr
theorem Oz:au Tryz.prog 246=some ⟨false,1,8,some (.nilFunc)⟩:=kr
theorem Rl:au Tryz.prog 247=some ⟨false,1,8,some (.nilFunc)⟩:=kr
theorem Rp:au Tryz.prog 248=some ⟨false,1,8,some (.nilFunc)⟩:=kr
theorem Py:au Tryz.prog 249=some ⟨false,1,8,some (.nilFunc)⟩:=kr
theorem OG:au Tryz.prog 251=some ⟨false,1,8,some (.nilFunc)⟩:=kr
theorem P0:au Tryz.prog 252=some ⟨false,1,8,some (.nilFunc)⟩:=kr
theorem Q8:au Tryz.prog 253=some ⟨false,1,8,some (.nilFunc)⟩:=kr
theorem NF:au Tryz.prog 254=some ⟨false,1,8,some (.nilFunc)⟩:=kr
theorem Qj:au Tryz.prog 255=some ⟨false,1,8,some (.pointer none)⟩:=kr
theorem Rm:au Tryz.prog 256=some ⟨false,1,8,some (.int .u64 0)⟩:=kr
theorem O3:au Tryz.prog 257=some ⟨false,1,8,some (.nilFunc)⟩:=kr
theorem Oa:au Tryz.prog 258=some ⟨false,1,8,some (.nilFunc)⟩:=kr
theorem Pq:au Tryz.prog 259=some ⟨false,1,8,some (.nilFunc)⟩:=kr
theorem RH:au Tryz.prog 260=some ⟨false,1,8,some (.nilFunc)⟩:=kr
theorem QB:au Tryz.prog 261=some ⟨false,1,8,some (.nilFunc)⟩:=kr
theorem Rq:au Tryz.prog 262=some ⟨false,1,8,some (.nilFunc)⟩:=kr
theorem Q9:au Tryz.prog 265=some ⟨false,1,8,some (.pointer none)⟩:=kr
theorem PB:au Tryz.prog 266=some ⟨false,1,8,some (.nilFunc)⟩:=kr
theorem QA:au Tryz.prog 272=some ⟨false,1,8,some (.nilFunc)⟩:=kr
theorem mixed:Tryz.prog.follows .mixedOrders=true:=kr
attribute [push_cast] RJ RZ Nn UR Nf F5 Sw SC Tq Sm Tt TP Uh T3 TO TF SH SA TQ Sc Uf SI Tr Sg SX T6 SE Tu Tx R9 Tz TR TL SY Ue Tw SU KS R6 TM ON T0 E3 Sx Uj Ss Tf Th Tn Hd TN ya Sj O7 Tp Ua MG Sd So SQ Sl TG TH SL Kh To MW Sb Tg Ks SO Ui TE Sf Sq TD T1 T2 SN Sz T7 S4 SK QQ Oi Q1 NV P9 N9 QX Po OE Rn Pp QM Fw Ri Fs QK Qt PJ Q2 NA Pu RE NW Rv QH PP QU QZ RG Oc Rw Qx Oq QN EZ Q7 OA Oh OB Pj OI Ry Og Qn Oo Oy NK Qg QT OO Qz Qk Jw Q6 PH P5 Qv Qf Ov Rh Pm NZ Ot Qa PS PD Qh PX Ra QE NH NC QR OZ NJ PN Ow Pw PO PM OY Rz OL PF RD Rd QS P4 Oj QG Qs PL OU N0 P8 NU QD NN Re O6 Pc Qy NE PR QC Ox P7 Om NB Q4 QO Of OT On Pe Px Ou ND PZ Ro Nv Rf PT Od RC Pv PC NG Rr Qm Rj OF OS NR Pf O0 Rx Pl Q5 Oz Rl Rp Py OG P0 Q8 NF Qj Rm O3 Oa Pq RH QB Rq Q9 PB QA JR Kz LJ JW MU Lm LS Sn LH Kf J9 M2 Nc KI KF T5 MT Lt Lq TS Mc Ln Mo Ts J1 KJ ME Sk MQ J6 KN SP Lp LY Mw MD Mq SS MM MH Kv Kc JZ Uc JM Lx LG J3 Kl Tj Ly JN KE Nb MO Tl LK Mf MF KG Ld TB KU Mt KQ JK M9 Tk Lu Md TK Lw KH TU J2 Kt TC LI Mx TX JG K7 My Mr Sv KV Kq Le LX Ub LW JY J4 Sa Nd Ll Mk TV MX KM TY Kx K9 Ud La Ma Tc Mj Kr Sp LV Lg Kn KT KK T4 Ke JH Me Lr Kw Sr L0 Ml Mz JQ Ti HZ Hx GG HF NY Ht HG IM Ig RB I9 G3 HO HU O4 Hj Ii PV IR IK Rs H3 GY Qp GB Jb O2 Hl HA Gq Gr Ol GD Gi Hu Gn RA GR Hp Gk Gl Qu Je GU I7 Hk Ql IP G8 Iu O9 HP Ie Gs Pg I6 IL Qq I5 IJ Pt IX HS Nx IE HE PA I0 Gg Pd Hi Hc PG Tryz.underlying1 Tryz.underlying2 Tryz.underlying3 Tryz.underlying4 Tryz.underlying5 Tryz.underlying9 Tryz.underlying12 Tryz.underlying20 Tryz.underlying21 Tryz.underlying22 Tryz.underlying23 Tryz.underlying24 Tryz.underlying25 Tryz.underlying26 Tryz.underlying27 Tryz.underlying28 Tryz.underlying29 Tryz.underlying30 Tryz.underlying31 Tryz.underlying32 Tryz.underlying33 Tryz.underlying34 Tryz.underlying35 Tryz.underlying36 Tryz.underlying37 Tryz.underlying38 Tryz.underlying39 Tryz.underlying40 Tryz.underlying41 Tryz.underlying42 Tryz.underlying43 Tryz.underlying44 Tryz.underlying46 Tryz.underlying47 Tryz.underlying48 Tryz.underlying49 Tryz.underlying50 Tryz.underlying51 Tryz.underlying52 Tryz.underlying53 Tryz.underlying54 Tryz.underlying55 Tryz.underlying56 Tryz.underlying57 Tryz.underlying58 Tryz.underlying59 Tryz.underlying60 Tryz.underlying61 Tryz.underlying62 Tryz.underlying63 Tryz.underlying64 Tryz.underlying65 Tryz.underlying66 Tryz.underlying67 Tryz.underlying68 Tryz.underlying69 Tryz.underlying70 Tryz.underlying71 Tryz.underlying72 Tryz.underlying73 Tryz.underlying74 Tryz.underlying76 Tryz.underlying78 Tryz.underlying79 Tryz.underlying80 Tryz.underlying81 Tryz.underlying82 Tryz.underlying83 Tryz.underlying84 Tryz.underlying85 Tryz.underlying86 Tryz.underlying88 Tryz.underlying89 Tryz.underlying90 Tryz.underlying91 Tryz.underlying92 Tryz.underlying93 Tryz.underlying94 Tryz.underlying95 Tryz.underlying96 Tryz.underlying97 Tryz.underlying98 Tryz.underlying99 Tryz.underlying100 Tryz.underlying101 Tryz.underlying102 Tryz.underlying103 Tryz.underlying104 Tryz.underlying105 Tryz.underlying106 Tryz.underlying107 Tryz.underlying108 Tryz.underlying109 Tryz.underlying110 Tryz.underlying111 Tryz.underlying112 Tryz.underlying113 Tryz.underlying114 Tryz.underlying115 Tryz.underlying116 Tryz.underlying117 Tryz.underlying118 Tryz.underlying119 Tryz.underlying120 Tryz.underlying121 Tryz.underlying122 Tryz.underlying124 Tryz.underlying125 Tryz.underlying127 Tryz.underlying128 Tryz.underlying129 Tryz.underlying130 Tryz.underlying131 Tryz.underlying132 Tryz.underlying133 Tryz.underlying134 Tryz.underlying135 Tryz.underlying136 Tryz.underlying137 Tryz.underlying138 Tryz.underlying139 Tryz.underlying140 Tryz.underlying141 Tryz.underlying142 Tryz.underlying143 Tryz.underlying144 Tryz.underlying145 Tryz.underlying146 Tryz.underlying147 Tryz.underlying148 Tryz.underlying149 Tryz.underlying150 Tryz.underlying151 Tryz.underlying152 Tryz.underlying153 Tryz.underlying154 Tryz.underlying155 Tryz.underlying157 Tryz.underlying158 Tryz.underlying159 Tryz.underlying160 Tryz.underlying161 Tryz.underlying162 Tryz.underlying163 Tryz.underlying164 Tryz.underlying165 Tryz.underlying166 Tryz.underlying167 Tryz.underlying168 Tryz.underlying169 Tryz.underlying170 Tryz.underlying172 Tryz.underlying173 Tryz.underlying174 Tryz.underlying175 Tryz.underlying176 Tryz.underlying177 Tryz.underlying178 Tryz.underlying180 Tryz.underlying181 Tryz.underlying182 Tryz.underlying183 Tryz.underlying184 Tryz.underlying185 Tryz.underlying186 Tryz.underlying187 Tryz.underlying188 Tryz.underlying189 Tryz.underlying190 Tryz.underlying191 Tryz.underlying192 Tryz.underlying193 Tryz.underlying194 Tryz.underlying195 Tryz.underlying196 Tryz.underlying197 Tryz.underlying198 Tryz.underlying199 Tryz.underlying200 Tryz.underlying201 Tryz.underlying202 Tryz.underlying203 Tryz.underlying204 Tryz.underlying205 Tryz.underlying206 Tryz.underlying207 Tryz.underlying208 Tryz.underlying209 Tryz.underlying210 Tryz.underlying211 Tryz.underlying212 Tryz.underlying213 Tryz.underlying214 Tryz.underlying215 Tryz.underlying216 Tryz.underlying217 Tryz.underlying218 Tryz.underlying219 Tryz.underlying220 Tryz.underlying221 Tryz.underlying222 Tryz.underlying223 Tryz.underlying224 Tryz.underlying225 Tryz.underlying226 Tryz.underlying227 Tryz.underlying228 Tryz.underlying229 Tryz.underlying230 Tryz.underlying231 Tryz.underlying233 Tryz.underlying234 Tryz.underlying235 Tryz.underlying236 Tryz.underlying238 Tryz.underlying239 Tryz.underlying240 Tryz.underlying241 Tryz.underlying242 Tryz.underlying243 Tryz.underlying244 Tryz.underlying245 Tryz.underlying246 Tryz.underlying247 Tryz.underlying248 Tryz.underlying249 Tryz.underlying251 Tryz.underlying252 Tryz.underlying253 Tryz.underlying254 Tryz.underlying255 Tryz.underlying256 Tryz.underlying257 Tryz.underlying258 Tryz.underlying259 Tryz.underlying260 Tryz.underlying261 Tryz.underlying262 Tryz.underlying265 Tryz.underlying266 Tryz.underlying272
end Go.Proofs.YtmdmimkbpikmoaaGreat.Ty
namespace Go.Proofs.YtmdmimkbpikmoaaGreat
open Go.RowKit Am Ty
theorem zu {R P:Prop} (k:R) (h:R→P:=by intro z0;(repeat (first|apply zs|apply zr|apply zn|apply zq|apply zb|apply zo|apply zk|apply zl));exact z0):P:=h k
theorem zh {P:Prop} (h:P:=by repeat (first|exact trivial|(refine⟨.inl ⟨by decide,rfl⟩,?_⟩) | (refine⟨.inr ⟨rfl,by simp⟩,?_⟩))):P:=h
theorem fe {N:Am.Env} {f:FuncId} {fn:Func} {c:Code} {args:List Value} {h:ai} {K:Value→ai→Prop} (hf:N.P.funcs[f]? = some fn) (k:CW N c ⟨ue args,[],h⟩ (QP N fn K)) (hb:fn.body=some c:=by rfl) (hd:ej fn.ntmps c=true:=by kernel_rfl) (hl:decide (args.length≤fn.ntmps)=true:=by kernel_rfl):FW N f args h K:=E0 hf hb hd (of_decide_eq_true hl) k
theorem zj {N:Am.Env} {all:Array Oper} {o:Oper} {r:List Oper} {s:St} {K:St→Prop} {f:FuncId} {cap args:List Value} {fn:Func} (hf:N.P.funcs[f]? = some fn) (k:FW N f (args++cap) s.h fun v h'=>OW N all r ({ s with h:=h' }.be o.dst (.val v)) K) (h:AZ all o s=some (f,cap,args):=by simp only[push_cast,env,Nat.reduceEqDiff,reduceIte]<;>exact rfl) (hnm:(fn.name == "runtime.NumGoroutine")=false:=by kernel_rfl) (hb:fn.body.isNone=false:=by kernel_rfl):OW N all (o :: r) s K:=zc h hf hnm hb k
theorem oj {P:Prop}  (h:P:=by simp only[push_cast,env,Nat.reduceEqDiff,reduceIte,Nat.reduceAdd,Nat.reduceMul,Nat.reduceLeDiff,reduceCtorEq,Nat.reduceSub,Int.reduceToNat]<;>first|exact rfl|exact .inl rfl|exact .inr rfl):P:=h
theorem RW {A P:Prop} (z1:A) (h:A→P:=by intro z1;simp only[push_cast,env,Nat.reduceEqDiff,reduceIte,Nat.reduceAdd,Nat.reduceMul,Nat.reduceLeDiff,reduceCtorEq,Nat.reduceSub,Int.reduceToNat,z1]<;>first|exact rfl|exact .inl rfl|exact .inr rfl):P:=h z1
theorem UQ {A B P:Prop} (z1:A) (z2:B) (h:A→B→P:=by intro z1 z2;simp only[push_cast,env,Nat.reduceEqDiff,reduceIte,Nat.reduceAdd,Nat.reduceMul,Nat.reduceLeDiff,reduceCtorEq,Nat.reduceSub,Int.reduceToNat,z1,z2]<;>first|exact rfl|exact .inl rfl|exact .inr rfl):P:=h z1 z2
theorem QV {A B C P:Prop} (z1:A) (z2:B) (z3:C) (h:A→B→C→P:=by intro z1 z2 z3;simp only[push_cast,env,Nat.reduceEqDiff,reduceIte,Nat.reduceAdd,Nat.reduceMul,Nat.reduceLeDiff,reduceCtorEq,Nat.reduceSub,Int.reduceToNat,z1,z2,z3]<;>first|exact rfl|exact .inl rfl|exact .inr rfl):P:=h z1 z2 z3
theorem UA {A B C D P:Prop} (z1:A) (z2:B) (z3:C) (z4:D) (h:A→B→C→D→P:=by intro z1 z2 z3 z4;simp only[push_cast,env,Nat.reduceEqDiff,reduceIte,Nat.reduceAdd,Nat.reduceMul,Nat.reduceLeDiff,reduceCtorEq,Nat.reduceSub,Int.reduceToNat,z1,z2,z3,z4]<;>first|exact rfl|exact .inl rfl|exact .inr rfl):P:=h z1 z2 z3 z4
theorem Vc {A B C D E P:Prop} (z1:A) (z2:B) (z3:C) (z4:D) (z5:E) (h:A→B→C→D→E→P:=by intro z1 z2 z3 z4 z5;simp only[push_cast,env,Nat.reduceEqDiff,reduceIte,Nat.reduceAdd,Nat.reduceMul,Nat.reduceLeDiff,reduceCtorEq,Nat.reduceSub,Int.reduceToNat,z1,z2,z3,z4,z5]<;>first|exact rfl|exact .inl rfl|exact .inr rfl):P:=h z1 z2 z3 z4 z5
theorem U7 {A B C D E F P:Prop} (z1:A) (z2:B) (z3:C) (z4:D) (z5:E) (z6:F) (h:A→B→C→D→E→F→P:=by intro z1 z2 z3 z4 z5 z6;simp only[push_cast,env,Nat.reduceEqDiff,reduceIte,Nat.reduceAdd,Nat.reduceMul,Nat.reduceLeDiff,reduceCtorEq,Nat.reduceSub,Int.reduceToNat,z1,z2,z3,z4,z5,z6]<;>first|exact rfl|exact .inl rfl|exact .inr rfl):P:=h z1 z2 z3 z4 z5 z6
theorem U5 {A B C D E F G P:Prop} (z1:A) (z2:B) (z3:C) (z4:D) (z5:E) (z6:F) (z7:G) (h:A→B→C→D→E→F→G→P:=by intro z1 z2 z3 z4 z5 z6 z7;simp only[push_cast,env,Nat.reduceEqDiff,reduceIte,Nat.reduceAdd,Nat.reduceMul,Nat.reduceLeDiff,reduceCtorEq,Nat.reduceSub,Int.reduceToNat,z1,z2,z3,z4,z5,z6,z7]<;>first|exact rfl|exact .inl rfl|exact .inr rfl):P:=h z1 z2 z3 z4 z5 z6 z7
theorem Ve {A B C D E F G H P:Prop} (z1:A) (z2:B) (z3:C) (z4:D) (z5:E) (z6:F) (z7:G) (z8:H) (h:A→B→C→D→E→F→G→H→P:=by intro z1 z2 z3 z4 z5 z6 z7 z8;simp only[push_cast,env,Nat.reduceEqDiff,reduceIte,Nat.reduceAdd,Nat.reduceMul,Nat.reduceLeDiff,reduceCtorEq,Nat.reduceSub,Int.reduceToNat,z1,z2,z3,z4,z5,z6,z7,z8]<;>first|exact rfl|exact .inl rfl|exact .inr rfl):P:=h z1 z2 z3 z4 z5 z6 z7 z8
theorem U8 {A B C D E F G H I P:Prop} (z1:A) (z2:B) (z3:C) (z4:D) (z5:E) (z6:F) (z7:G) (z8:H) (z9:I) (h:A→B→C→D→E→F→G→H→I→P:=by intro z1 z2 z3 z4 z5 z6 z7 z8 z9;simp only[push_cast,env,Nat.reduceEqDiff,reduceIte,Nat.reduceAdd,Nat.reduceMul,Nat.reduceLeDiff,reduceCtorEq,Nat.reduceSub,Int.reduceToNat,z1,z2,z3,z4,z5,z6,z7,z8,z9]<;>first|exact rfl|exact .inl rfl|exact .inr rfl):P:=h z1 z2 z3 z4 z5 z6 z7 z8 z9
theorem Vg {P:Prop}  (h:P:=by (repeat (first|exact aT.nil _|(apply aT.cons;(·apply zz;simp only[push_cast,env,Nat.reduceEqDiff,reduceIte,Nat.reduceAdd,Nat.reduceMul,Nat.reduceLeDiff,reduceCtorEq,Nat.reduceSub,Int.reduceToNat]<;>exact rfl);(·rfl))))):P:=h
theorem Vb {R P:Prop}  (k:R) (h:R→P:=by intro  z0;(repeat (first|exact aT.nil _|(apply aT.cons;(·apply zz;simp only[push_cast,env,Nat.reduceEqDiff,reduceIte,Nat.reduceAdd,Nat.reduceMul,Nat.reduceLeDiff,reduceCtorEq,Nat.reduceSub,Int.reduceToNat]<;>exact rfl);(·rfl))));exact z0):P:=h  k
theorem CC {A P:Prop} (z1:A) (h:A→P:=by intro z1;(repeat (first|exact aT.nil _|(apply aT.cons;(·apply zz;simp only[push_cast,env,Nat.reduceEqDiff,reduceIte,Nat.reduceAdd,Nat.reduceMul,Nat.reduceLeDiff,reduceCtorEq,Nat.reduceSub,Int.reduceToNat,z1]<;>exact rfl);(·rfl))))):P:=h z1
theorem Va {A R P:Prop} (z1:A) (k:R) (h:A→R→P:=by intro z1 z0;(repeat (first|exact aT.nil _|(apply aT.cons;(·apply zz;simp only[push_cast,env,Nat.reduceEqDiff,reduceIte,Nat.reduceAdd,Nat.reduceMul,Nat.reduceLeDiff,reduceCtorEq,Nat.reduceSub,Int.reduceToNat,z1]<;>exact rfl);(·rfl))));exact z0):P:=h z1 k
theorem rv {A B P:Prop} (z1:A) (z2:B) (h:A→B→P:=by intro z1 z2;(repeat (first|exact aT.nil _|(apply aT.cons;(·apply zz;simp only[push_cast,env,Nat.reduceEqDiff,reduceIte,Nat.reduceAdd,Nat.reduceMul,Nat.reduceLeDiff,reduceCtorEq,Nat.reduceSub,Int.reduceToNat,z1,z2]<;>exact rfl);(·rfl))))):P:=h z1 z2
theorem Vi {A B R P:Prop} (z1:A) (z2:B) (k:R) (h:A→B→R→P:=by intro z1 z2 z0;(repeat (first|exact aT.nil _|(apply aT.cons;(·apply zz;simp only[push_cast,env,Nat.reduceEqDiff,reduceIte,Nat.reduceAdd,Nat.reduceMul,Nat.reduceLeDiff,reduceCtorEq,Nat.reduceSub,Int.reduceToNat,z1,z2]<;>exact rfl);(·rfl))));exact z0):P:=h z1 z2 k
theorem Uv {A B C P:Prop} (z1:A) (z2:B) (z3:C) (h:A→B→C→P:=by intro z1 z2 z3;(repeat (first|exact aT.nil _|(apply aT.cons;(·apply zz;simp only[push_cast,env,Nat.reduceEqDiff,reduceIte,Nat.reduceAdd,Nat.reduceMul,Nat.reduceLeDiff,reduceCtorEq,Nat.reduceSub,Int.reduceToNat,z1,z2,z3]<;>exact rfl);(·rfl))))):P:=h z1 z2 z3
theorem Vf {A B C R P:Prop} (z1:A) (z2:B) (z3:C) (k:R) (h:A→B→C→R→P:=by intro z1 z2 z3 z0;(repeat (first|exact aT.nil _|(apply aT.cons;(·apply zz;simp only[push_cast,env,Nat.reduceEqDiff,reduceIte,Nat.reduceAdd,Nat.reduceMul,Nat.reduceLeDiff,reduceCtorEq,Nat.reduceSub,Int.reduceToNat,z1,z2,z3]<;>exact rfl);(·rfl))));exact z0):P:=h z1 z2 z3 k
theorem Vj {A B C D P:Prop} (z1:A) (z2:B) (z3:C) (z4:D) (h:A→B→C→D→P:=by intro z1 z2 z3 z4;(repeat (first|exact aT.nil _|(apply aT.cons;(·apply zz;simp only[push_cast,env,Nat.reduceEqDiff,reduceIte,Nat.reduceAdd,Nat.reduceMul,Nat.reduceLeDiff,reduceCtorEq,Nat.reduceSub,Int.reduceToNat,z1,z2,z3,z4]<;>exact rfl);(·rfl))))):P:=h z1 z2 z3 z4
theorem U9 {A B C D R P:Prop} (z1:A) (z2:B) (z3:C) (z4:D) (k:R) (h:A→B→C→D→R→P:=by intro z1 z2 z3 z4 z0;(repeat (first|exact aT.nil _|(apply aT.cons;(·apply zz;simp only[push_cast,env,Nat.reduceEqDiff,reduceIte,Nat.reduceAdd,Nat.reduceMul,Nat.reduceLeDiff,reduceCtorEq,Nat.reduceSub,Int.reduceToNat,z1,z2,z3,z4]<;>exact rfl);(·rfl))));exact z0):P:=h z1 z2 z3 z4 k
theorem Vd {A B C D E P:Prop} (z1:A) (z2:B) (z3:C) (z4:D) (z5:E) (h:A→B→C→D→E→P:=by intro z1 z2 z3 z4 z5;(repeat (first|exact aT.nil _|(apply aT.cons;(·apply zz;simp only[push_cast,env,Nat.reduceEqDiff,reduceIte,Nat.reduceAdd,Nat.reduceMul,Nat.reduceLeDiff,reduceCtorEq,Nat.reduceSub,Int.reduceToNat,z1,z2,z3,z4,z5]<;>exact rfl);(·rfl))))):P:=h z1 z2 z3 z4 z5
theorem Vh {A B C D E R P:Prop} (z1:A) (z2:B) (z3:C) (z4:D) (z5:E) (k:R) (h:A→B→C→D→E→R→P:=by intro z1 z2 z3 z4 z5 z0;(repeat (first|exact aT.nil _|(apply aT.cons;(·apply zz;simp only[push_cast,env,Nat.reduceEqDiff,reduceIte,Nat.reduceAdd,Nat.reduceMul,Nat.reduceLeDiff,reduceCtorEq,Nat.reduceSub,Int.reduceToNat,z1,z2,z3,z4,z5]<;>exact rfl);(·rfl))));exact z0):P:=h z1 z2 z3 z4 z5 k
theorem Vk {A B C D E F P:Prop} (z1:A) (z2:B) (z3:C) (z4:D) (z5:E) (z6:F) (h:A→B→C→D→E→F→P:=by intro z1 z2 z3 z4 z5 z6;(repeat (first|exact aT.nil _|(apply aT.cons;(·apply zz;simp only[push_cast,env,Nat.reduceEqDiff,reduceIte,Nat.reduceAdd,Nat.reduceMul,Nat.reduceLeDiff,reduceCtorEq,Nat.reduceSub,Int.reduceToNat,z1,z2,z3,z4,z5,z6]<;>exact rfl);(·rfl))))):P:=h z1 z2 z3 z4 z5 z6
theorem UC {A B C D E F R P:Prop} (z1:A) (z2:B) (z3:C) (z4:D) (z5:E) (z6:F) (k:R) (h:A→B→C→D→E→F→R→P:=by intro z1 z2 z3 z4 z5 z6 z0;(repeat (first|exact aT.nil _|(apply aT.cons;(·apply zz;simp only[push_cast,env,Nat.reduceEqDiff,reduceIte,Nat.reduceAdd,Nat.reduceMul,Nat.reduceLeDiff,reduceCtorEq,Nat.reduceSub,Int.reduceToNat,z1,z2,z3,z4,z5,z6]<;>exact rfl);(·rfl))));exact z0):P:=h z1 z2 z3 z4 z5 z6 k
theorem U6 {A B C D E F G P:Prop} (z1:A) (z2:B) (z3:C) (z4:D) (z5:E) (z6:F) (z7:G) (h:A→B→C→D→E→F→G→P:=by intro z1 z2 z3 z4 z5 z6 z7;(repeat (first|exact aT.nil _|(apply aT.cons;(·apply zz;simp only[push_cast,env,Nat.reduceEqDiff,reduceIte,Nat.reduceAdd,Nat.reduceMul,Nat.reduceLeDiff,reduceCtorEq,Nat.reduceSub,Int.reduceToNat,z1,z2,z3,z4,z5,z6,z7]<;>exact rfl);(·rfl))))):P:=h z1 z2 z3 z4 z5 z6 z7
theorem yM {A B C D E F G R P:Prop} (z1:A) (z2:B) (z3:C) (z4:D) (z5:E) (z6:F) (z7:G) (k:R) (h:A→B→C→D→E→F→G→R→P:=by intro z1 z2 z3 z4 z5 z6 z7 z0;(repeat (first|exact aT.nil _|(apply aT.cons;(·apply zz;simp only[push_cast,env,Nat.reduceEqDiff,reduceIte,Nat.reduceAdd,Nat.reduceMul,Nat.reduceLeDiff,reduceCtorEq,Nat.reduceSub,Int.reduceToNat,z1,z2,z3,z4,z5,z6,z7]<;>exact rfl);(·rfl))));exact z0):P:=h z1 z2 z3 z4 z5 z6 z7 k
theorem U4 {A B C D E F G H P:Prop} (z1:A) (z2:B) (z3:C) (z4:D) (z5:E) (z6:F) (z7:G) (z8:H) (h:A→B→C→D→E→F→G→H→P:=by intro z1 z2 z3 z4 z5 z6 z7 z8;(repeat (first|exact aT.nil _|(apply aT.cons;(·apply zz;simp only[push_cast,env,Nat.reduceEqDiff,reduceIte,Nat.reduceAdd,Nat.reduceMul,Nat.reduceLeDiff,reduceCtorEq,Nat.reduceSub,Int.reduceToNat,z1,z2,z3,z4,z5,z6,z7,z8]<;>exact rfl);(·rfl))))):P:=h z1 z2 z3 z4 z5 z6 z7 z8
theorem Ju {A B C D E F G H R P:Prop} (z1:A) (z2:B) (z3:C) (z4:D) (z5:E) (z6:F) (z7:G) (z8:H) (k:R) (h:A→B→C→D→E→F→G→H→R→P:=by intro z1 z2 z3 z4 z5 z6 z7 z8 z0;(repeat (first|exact aT.nil _|(apply aT.cons;(·apply zz;simp only[push_cast,env,Nat.reduceEqDiff,reduceIte,Nat.reduceAdd,Nat.reduceMul,Nat.reduceLeDiff,reduceCtorEq,Nat.reduceSub,Int.reduceToNat,z1,z2,z3,z4,z5,z6,z7,z8]<;>exact rfl);(·rfl))));exact z0):P:=h z1 z2 z3 z4 z5 z6 z7 z8 k
theorem Vm {A B C D E F G H I P:Prop} (z1:A) (z2:B) (z3:C) (z4:D) (z5:E) (z6:F) (z7:G) (z8:H) (z9:I) (h:A→B→C→D→E→F→G→H→I→P:=by intro z1 z2 z3 z4 z5 z6 z7 z8 z9;(repeat (first|exact aT.nil _|(apply aT.cons;(·apply zz;simp only[push_cast,env,Nat.reduceEqDiff,reduceIte,Nat.reduceAdd,Nat.reduceMul,Nat.reduceLeDiff,reduceCtorEq,Nat.reduceSub,Int.reduceToNat,z1,z2,z3,z4,z5,z6,z7,z8,z9]<;>exact rfl);(·rfl))))):P:=h z1 z2 z3 z4 z5 z6 z7 z8 z9
theorem Vl {A B C D E F G H I R P:Prop} (z1:A) (z2:B) (z3:C) (z4:D) (z5:E) (z6:F) (z7:G) (z8:H) (z9:I) (k:R) (h:A→B→C→D→E→F→G→H→I→R→P:=by intro z1 z2 z3 z4 z5 z6 z7 z8 z9 z0;(repeat (first|exact aT.nil _|(apply aT.cons;(·apply zz;simp only[push_cast,env,Nat.reduceEqDiff,reduceIte,Nat.reduceAdd,Nat.reduceMul,Nat.reduceLeDiff,reduceCtorEq,Nat.reduceSub,Int.reduceToNat,z1,z2,z3,z4,z5,z6,z7,z8,z9]<;>exact rfl);(·rfl))));exact z0):P:=h z1 z2 z3 z4 z5 z6 z7 z8 z9 k
abbrev zU:Value:=.int .u64 0
abbrev zE:Value:=.string ⟨#[]⟩
abbrev zN:Value:=.slice none 0 0
end Go.Proofs.YtmdmimkbpikmoaaGreat
namespace Go.Proofs.YtmdmimkbpikmoaaGreat.Am
open Go.RowKit
section
variable (N:Env) (call:FuncId→List Value→ai→Option (Value×ai)) (nm:FuncId→Bool) (dr:Array Oper→St→Option St)
def newObj (s:St) (d:Option Nat) (t:TypeId) (cs:List Value) (v:Addr→Value):St:={ s with h:=s.h++[ax.aq cs 0 true t] }.be d (.val (v ⟨s.h.length,0,some 0⟩))
def Mh (s:St) (d:Option Nat) (x y:Operand) (t t2:TypeId):Option St:=
 match N.P.underlying t with
 | some (.slice e)=>match au N.P e with
   | some ti=>if t2=t∧0<ti.size∧(ti.zero.map fun z=>z.cells.size)=some ti.size then (match cI s s.h ti.size y with
     | some (cs,m)=>match ev s x with
       | some (.slice none 0 0)=>if 0<m∧m*ti.bytes≤140737488355328∧m≤140737488355328 then some ({ s with h:=s.h++[ax.aq cs 0 true e] }.be d (.val (.slice (some ⟨s.h.length,0,some 0⟩) m m))) else none
       | some (.slice (some ⟨id,0,some av⟩) n _)=>match s.h[id]? with
         | some (.aq cells ver' true et)=>if ver'=av∧et=e∧n*ti.size≤cells.length∧(n+m)*ti.bytes≤140737488355328∧n+m≤140737488355328 then
          some ({ s with h:=s.h.set id (ax.aq (cells.take (n*ti.size)++cs) (av+1) true e) }.be d (.val (.slice (some ⟨id,0,some (av+1)⟩) (n+m) (n+m)))) else none
         | _=>none
       | _=>none
     | none=>none) else none
   | none=>none
 | _=>none
def LU (s:St) (d:Option Nat) (x y:Operand) (t t2:TypeId):Option St:=
 match N.P.underlying t,ev s x,ev s y with
 | some (.slice e),some (.slice p n c),some (.slice q 0 c')=>match au N.P e with
   | some _=>if t2=t then some (s.be d (.val (.slice p n c))) else none
   | none=>none
 | _,_,_=>none
def OK (s:St) (t:TypeId) (a x:Operand):Option St:=
 match au N.P t,ev s a,ev s x with
 | some ti,some (.pointer (some ⟨id,off,some av⟩)),some v=>match s.h[id]?,dQ ti.size v with
   | some (.aq cells ver' true et),some vs=>if ver'=av then (kP cells off vs).map fun cells'=>{ s with h:=s.h.set id (ax.aq cells' av true et) } else none
   | _,_=>none
 | _,_,_=>none
def CD (s:St) (t:TypeId) (x:Operand):Option (Nat×List (Value×Value)×(Value→Bool)×TypeId):=
 match N.P.underlying t,ev s x with
 | some (.map kt et),some (.map (some id))=>match N.keys kt,s.h[id]? with
   | some kd,some (.map es)=>if eE kd es then some (id,es,kd,et) else none
   | _,_=>none
 | _,_=>none
def O5 (s:St) (t:TypeId) (x i y:Operand):Option St:=
 match CD N s t x,ev s i,ev s y with
 | some (id,es,kd,_),some k,some v=>if kd k then some { s with h:=s.h.set id (ax.map (iZ es k v)) } else none
 | _,_,_=>none
def Rc (s:St) (d:Option Nat) (t:TypeId) (x i:Operand):Option St:=
 match CD N s t x,ev s i with
 | some (id,es,kd,et),some k=>match zeroOf N.P et with
   | some z=>if kd k then some ({ s with h:=s.h.set id (ax.map (oJ es k z).2.2) }.be d (.val (.tuple #[(oJ es k z).1,.int .i64 (oJ es k z).2.1]))) else none
   | none=>none
 | _,_=>none
def OX (s:St) (x i y:Operand):Option St:=
 match ev s x,ev s i,ev s y with
 | some (.map (some id)),some (.int .i64 (.ofNat j)),some v=>match s.h[id]? with
   | some (.map es)=>match es[j]? with
     | some (k,_)=>some { s with h:=s.h.set id (ax.map (es.set j (k,v))) }
     | none=>none
   | _=>none
 | _,_,_=>none
def DW (all:Array Oper) (o:Oper) (s:St):Option St:=
 match aD all o s with
 | none=>none
 | some false=>some (s.be o.dst (.val (.tuple #[])))
 | some true=>match o.op with
   | .box t x=>(ii N s (.box t x)).map fun p=>newObj s o.dst p.1 p.2 fun a=>.pointer (some a)
   | .alloc t=>(ii N s (.alloc t)).map fun p=>newObj s o.dst p.1 p.2 fun a=>.pointer (some a)
   | .buildSlice t l ps=>(jm N s (.buildSlice t l ps)).map fun p=>newObj s o.dst p.1 p.2.1 fun a=>.slice (some a) p.2.2 p.2.2
   | .makeSlice t l c=>(yI N s (.makeSlice t l c)).map fun p=>newObj s o.dst p.1 p.2.1 fun a=>.slice (some a) p.2.2 p.2.2
   | .store t a x=>if o.dst=none then OK N s t a x else none
   | .range t x=>match N.P.underlying t,ev s x,o.dst with
     | some (.map _ _),some (.map (some id)),some d=>match s.h[id]? with
       | some (.map es)=>some (s.put d (.mP id es.length []))
       | _=>none
     | some .string,some (.string b),some d=>some (s.put d (.vm b 0))
     | _,_,_=>none
   | .next (.tmp x) false=>match aX s.fr x with
     | .mP m n seen=>match s.h[m]? with
       | some (.map es)=>if es.length=n then (match (List.range n).filter fun j=>!seen.contains j with
         | []=>some (s.be o.dst (.val (.tuple #[.bool false])))
         | [i]=>match es[i]? with
           | some (k,v)=>if fP k then some ({ s with fr:=fM s.fr x (.mP m n (seen++[i])) }.be o.dst (.val (.tuple #[.bool true,k,v]))) else none
           | none=>none
         | _=>none) else none
       | _=>none
     | _=>none
   | .next (.tmp x) true=>match aX s.fr x with
     | .vm b p=>if p<b.size then some ({ s with fr:=fM s.fr x (.vm b (p+(Utf8.decode b p).2)) }.be o.dst (.val (.tuple #[.bool true,.int .i64 p,.int .i32 (Utf8.decode b p).1])))
       else some (s.be o.dst (.val (.tuple #[.bool false])))
     | _=>none
   | .makeMap t none=>match N.P.underlying t with
     | some (.map _ _)=>some ({ s with h:=s.h++[ax.map []] }.be o.dst (.val (.map (some s.h.length))))
     | _=>none
   | .mapUpdate t x i y=>if o.dst=none then O5 N s t x i y else none
   | .mapEntry t x i=>Rc N s o.dst t x i
   | .entryStore _ x i y=>if o.dst=none then OX s x i y else none
   | .call c=>match c.callee with
     | .builtin .append=>match c.args.toList,c.argTypes.toList with
       | [x,y],[t,t2]=>match LU N s o.dst x y t t2 with
         | some s1=>some s1
         | none=>Mh N s o.dst x y t t2
       | _,_=>none
     | .builtin _=>(qN N s o.op).map fun v=>s.be o.dst (.val v)
     | cal=>match fF s cal,tx s c.args.toList with
       | some (f,cap),some args=>if nm f then (match call f (args++cap) s.h with
         | some (v,h')=>some ({ s with h:=h' }.be o.dst (.val v))
         | none=>none) else none
       | _,_=>none
   | _=>(qN N s o.op).map fun v=>s.be o.dst (.val v)
def He (all:Array Oper):List Oper→St→Option St
 | [],s=>some s
 | o :: r,s=>match DW N call nm all o s with
   | some s1=>He all r s1
   | none=>none
def kI:Nat→Code→St→Option (AX×St)
 | 0,_,_=>none
 | n+1,c,s=>match c with
   | .skip=>some (.normal,s)
   | .label _=>some (.normal,s)
   | .exit id=>some (.exit id,s)
   | .ret=>some (.ret,s)
   | .seq a b=>match kI n a s with
     | some (.normal,s1)=>kI n b s1
     | r=>r
   | .cond c x y=>match ev s c with
     | some (.bool true)=>kI n x s
     | some (.bool false)=>kI n y s
     | _=>none
   | .block id c=>match kI n c s with
     | some (e,s1)=>some (e.inBlock id,s1)
     | none=>none
   | .scope c=>kI n c s
   | .loop c=>match kI n c s with
     | some (.normal,s1)=>kI n (.loop c) s1
     | r=>r
   | .region _ ops false=>match He N call nm ops ops.toList { s with eB:=[] } with
     | some s1=>some (.normal,s1)
     | none=>none
   | .region _ ops true=>match dr ops s with
     | some s1=>some (.normal,s1)
     | none=>none
   | _=>none
end
section
variable {N:Env} {call:FuncId→List Value→ai→Option (Value×ai)} {nm:FuncId→Bool}
def gQ (N:Env) (call:FuncId→List Value→ai→Option (Value×ai)):Prop:=∀ f a h r h',call f a h=some (r,h')→(∃ fn,N.P.funcs[f]? = some fn∧fn.body.isNone=false)∧Ev N (.call f a h r h')
def rO (N:Env) (nm:FuncId→Bool):Prop:=∀ f fn,nm f=true→N.P.funcs[f]? = some fn→(fn.name == "runtime.NumGoroutine")=false
theorem zf {all:Array Oper} {o:Oper} {r:List Oper} {s s1 s2:St} {x y:Operand} {t t2:TypeId} {c:Call} (hw:aD all o s=some true) (ho:o.op = .call c) (hc:c.callee = .builtin .append) (hx:c.args.toList=[x,y]) (ht:c.argTypes.toList=[t,t2]) (h:Mh N s o.dst x y t t2=some s1) (k:Ev N (.ops all r s1 s2)):Ev N (.ops all (o :: r) s s2):=by{
have ho':o.op = .call { callee:=.builtin .append,args:=#[x,y],argTypes:=#[t,t2] }:=by
 rw[ho]
 cases c with
 | mk cal a ty=>
   simp only at hc hx ht
   subst hc
   rw[show a=#[x,y] from Array.toList_inj.1 hx,show ty=#[t,t2] from Array.toList_inj.1 ht]
unfold Mh at h
split at h
·rename_i e hu
 split at h
 ·rename_i ti hti
  split at h
  ·rename_i hq
   obtain⟨q1,q2,q3⟩:=hq
   split at h
   ·rename_i cs m hi
    split at h
    ·rename_i hv
     split at h
     ·rename_i hm
      cases h
      exact .o5 hw ho' hu q1 hti q2 q3 hv hi hm.1 hm.2.1 hm.2.2 k
     ·cases h
    ·rename_i id av n cp hv
     split at h
     ·rename_i cells ver' et hid
      split at h
      ·rename_i hm
       obtain⟨rfl,rfl,m1,m2,m3⟩:=hm
       cases h
       exact .uj hw ho' hu q1 hti q2 q3 hv hid m1 hi m2 m3 k
      ·cases h
     ·cases h
    ·cases h
   ·cases h
  ·cases h
 ·cases h
·cases h}
theorem yU {all:Array Oper} {o:Oper} {r:List Oper} {s s1 s2:St} {x y:Operand} {t t2:TypeId} {c:Call} (hw:aD all o s=some true) (ho:o.op = .call c) (hc:c.callee = .builtin .append) (hx:c.args.toList=[x,y]) (ht:c.argTypes.toList=[t,t2]) (h:LU N s o.dst x y t t2=some s1) (k:Ev N (.ops all r s1 s2)):Ev N (.ops all (o :: r) s s2):=by{
have ho':o.op = .call { callee:=.builtin .append,args:=#[x,y],argTypes:=#[t,t2] }:=by
 rw[ho]
 cases c with
 | mk cal a ty=>
   simp only at hc hx ht
   subst hc
   rw[show a=#[x,y] from Array.toList_inj.1 hx,show ty=#[t,t2] from Array.toList_inj.1 ht]
unfold LU at h
split at h
·rename_i e p n c1 q c2 hu h1 h2
 split at h
 ·rename_i ti hti
  split at h
  ·rename_i he
   cases h
   exact .ta hw ho' hu he hti h1 h2 k
  ·cases h
 ·cases h
·cases h}
theorem sV {all:Array Oper} {o:Oper} {r:List Oper} {s s1 s2:St} (hw:aD all o s=some true) (h:((ii N s o.op).map fun p=>newObj s o.dst p.1 p.2 fun a=>.pointer (some a))=some s1) (k:Ev N (.ops all r s1 s2)):Ev N (.ops all (o :: r) s s2):=by{
cases hb:ii N s o.op with
| none=>simp [hb] at h
| some p=>
  simp only[hb,Option.map_some,Option.some.injEq] at h
  subst h
  exact .oU hw hb k}
theorem lF {s:St} {t:TypeId} {x:Operand} {id:Nat} {es:List (Value×Value)} {kd:Value→Bool} {et:TypeId} (h:CD N s t x=some (id,es,kd,et)) : ∃ kt,N.P.underlying t=some (.map kt et)∧N.keys kt=some kd∧ev s x=some (.map (some id))∧s.h[id]? = some (.map es)∧eE kd es=true:=by{
unfold CD at h
split at h
·rename_i kt et' id' hu hx
 split at h
 ·rename_i kd' es' hk hid
  split at h
  ·rename_i hm
   cases h
   exact⟨kt,hu,hk,hx,hid,hm⟩
  ·cases h
 ·cases h
·cases h}
theorem yC (hC:gQ N call) (hn:rO N nm) {all:Array Oper} {o:Oper} {r:List Oper} {s s1 s2:St} (h:DW N call nm all o s=some s1) (k:Ev N (.ops all r s1 s2)):Ev N (.ops all (o :: r) s s2):=by{
unfold DW at h
split at h
·cases h
·rename_i hw
 cases h
 exact .ox hw k
·rename_i hw
 split at h
 ·rename_i t x ho
  exact sV hw (by rw[ho];exact h) k
 ·rename_i t ho
  exact sV hw (by rw[ho];exact h) k
 ·rename_i t l ps ho
  cases hb:jm N s (.buildSlice t l ps) with
  | none=>simp [hb] at h
  | some p=>
    simp only[hb,Option.map_some,Option.some.injEq] at h
    subst h
    exact .oF hw (by rw[ho];exact hb) k
 ·rename_i t l c ho
  cases hb:yI N s (.makeSlice t l c) with
  | none=>simp [hb] at h
  | some p=>
    simp only[hb,Option.map_some,Option.some.injEq] at h
    subst h
    exact .CT hw (by rw[ho];exact hb) k
 ·rename_i t a x ho
  split at h
  ·rename_i hd
   unfold OK at h
   split at h
   ·rename_i ti id off av v ht ha hx
    split at h
    ·rename_i cells ver' et vs hid hv
     split at h
     ·rename_i hver
      subst hver
      cases hq:Am.kP cells off vs with
      | none=>simp [hq] at h
      | some cells'=>
        simp only[hq,Option.map_some,Option.some.injEq] at h
        subst h
        exact .oC hw ho ht ha hid hx hv hq hd k
     ·cases h
    ·cases h
   ·cases h
  ·cases h
 ·rename_i t x ho
  split at h
  ·rename_i kt et id d hu hx hd
   split at h
   ·rename_i es hid
    cases h
    exact .lH hw hd ho hu hx hid k
   ·cases h
  ·rename_i b d hu hx hd
   cases h
   exact .jX hw hd ho hu hx k
  ·cases h
 ·rename_i x ho
  split at h
  ·rename_i m n seen hx
   split at h
   ·rename_i es hid
    split at h
    ·rename_i hl
     split at h
     ·rename_i hf
      cases h
      exact .qT hw ho hx hid hl hf k
     ·rename_i i hf
      split at h
      ·rename_i kk vv hkv
       split at h
       ·rename_i hp
        cases h
        exact .qH hw ho hx hid hl hf hkv hp k
       ·cases h
      ·cases h
     ·cases h
    ·cases h
   ·cases h
  ·cases h
 ·rename_i x ho
  split at h
  ·rename_i b p hx
   split at h
   ·rename_i hp
    cases h
    exact .nc hw ho hx hp rfl k
   ·rename_i hp
    cases h
    exact .nW hw ho hx (by omega) k
  ·cases h
 ·rename_i t ho
  split at h
  ·rename_i kt et hu
   cases h
   exact .tU hw ho hu k
  ·cases h
 ·rename_i t x i y ho
  split at h
  ·rename_i hd
   unfold O5 at h
   split at h
   ·rename_i id es kd et kk v hm hk hv
    split at h
    ·rename_i hkk
     cases h
     obtain⟨kt,hu,hkd,hx,hid,hmk⟩:=lF hm
     exact .uJ hw ho hu hkd hx hid hk hv hkk hmk hd k
    ·cases h
   ·cases h
  ·cases h
 ·rename_i t x i ho
  unfold Rc at h
  split at h
  ·rename_i id es kd et kk hm hk
   split at h
   ·rename_i z hz
    split at h
    ·rename_i hkk
     cases h
     obtain⟨kt,hu,hkd,hx,hid,hmk⟩:=lF hm
     exact .wR hw ho hu hkd hz hx hid hk hkk hmk rfl k
    ·cases h
   ·cases h
  ·cases h
 ·rename_i t x i y ho
  split at h
  ·rename_i hd
   unfold OX at h
   split at h
   ·rename_i id j v hx hi hv
    split at h
    ·rename_i es hid
     split at h
     ·rename_i kk u hj
      cases h
      exact .wW hw ho hx hid hi hv hj hd k
     ·cases h
    ·cases h
   ·cases h
  ·cases h
 ·rename_i c ho
  split at h
  ·rename_i hc
   split at h
   ·rename_i x y t t2 hx ht
    split at h
    ·rename_i s3 h3
     cases h
     exact yU hw ho hc hx ht h3 k
    ·exact zf hw ho hc hx ht h k
   ·cases h
  ·rename_i b hb
   cases hv:qN N s o.op with
   | none=>simp [hv] at h
   | some v=>
     simp only[hv,Option.map_some,Option.some.injEq] at h
     subst h
     exact .sU hw hv k
  ·split at h
   ·rename_i f cap args hcal hargs
    split at h
    ·rename_i hnm
     split at h
     ·rename_i v h' hcall
      cases h
      obtain⟨⟨fn,h1,h2⟩,h3⟩:=hC _ _ _ _ _ hcall
      exact .ov hw ho hcal hargs h1 (hn _ _ hnm h1) h2 h3 k
     ·cases h
    ·cases h
   ·cases h
 ·cases hv:qN N s o.op with
  | none=>simp [hv] at h
  | some v=>
    simp only[hv,Option.map_some,Option.some.injEq] at h
    subst h
    exact .sU hw hv k}
theorem tc (hC:gQ N call) (hn:rO N nm) {all:Array Oper}:∀ {l:List Oper} {s s1:St},He N call nm all l s=some s1→Ev N (.ops all l s s1)
 | [],s,s1,h=>by
   cases h
   exact .nil all s
 | o :: r,s,s1,h=>by
   simp only[He] at h
   split at h
   ·rename_i s2 h2
    exact yC hC hn h2 (tc hC hn h)
   ·cases h
def LF (N:Env) (dr:Array Oper→St→Option St):Prop:=∀ id ops s s1,dr ops s=some s1→Ev N (.code (.region id ops true) s .normal s1)
theorem cU {dr:Array Oper→St→Option St} (hm:LF N dr) (hC:gQ N call) (hn:rO N nm):∀ {n:Nat} {c:Code} {s s1:St} {e:AX},kI N call nm dr n c s=some (e,s1)→Ev N (.code c s e s1)∧∀ b,c = .loop b→Ev N (.iter b s e s1)
 | 0,_,_,_,_,h=>by cases h
 | n+1,c,s,s1,e,h=>by
   unfold kI at h
   split at h
   ·cases h;exact⟨.skip _,fun b hb=>by cases hb⟩
   ·cases h;exact⟨.label _ _,fun b hb=>by cases hb⟩
   ·cases h;exact⟨.exit _ _,fun b hb=>by cases hb⟩
   ·cases h;exact⟨.ret _,fun b hb=>by cases hb⟩
   ·refine⟨?_,fun b hb=>by cases hb⟩
    split at h
    ·rename_i s2 h2
     exact .JX (cU hm hC hn h2).1 (cU hm hC hn h).1
    ·rename_i h2
     exact .Im (cU hm hC hn h).1 (by rintro rfl;exact h2 _ h)
   ·refine⟨?_,fun b hb=>by cases hb⟩
    split at h
    ·rename_i hc
     exact .cond hc (cU hm hC hn h).1
    ·rename_i hc
     exact .cond hc (cU hm hC hn h).1
    ·cases h
   ·refine⟨?_,fun b hb=>by cases hb⟩
    split at h
    ·rename_i e s2 h2
     cases h
     exact .block (cU hm hC hn h2).1
    ·cases h
   ·exact⟨.scope (cU hm hC hn h).1,fun b hb=>by cases hb⟩
   ·rename_i c
    have key:Ev N (.iter c s e s1):=by
     split at h
     ·rename_i s2 h2
      exact .D6 (cU hm hC hn h2).1 ((cU hm hC hn h).2 _ rfl)
     ·rename_i h2
      exact .AS (cU hm hC hn h).1 (by rintro rfl;exact h2 _ h)
    exact⟨.loop key,fun b hb=>by cases hb;exact key⟩
   ·refine⟨?_,fun b hb=>by cases hb⟩
    split at h
    ·rename_i s2 h2
     cases h
     exact .region (tc hC hn h2)
    ·cases h
   ·refine⟨?_,fun b hb=>by cases hb⟩
    split at h
    ·rename_i s2 h2
     cases h
     exact hm _ _ _ _ h2
    ·cases h
   ·cases h
theorem yo {dr:Array Oper→St→Option St} (hm:LF N dr) (hC:gQ N call) (hn:rO N nm) {n:Nat} {c:Code} {s s1:St} {e:AX} (h:kI N call nm dr n c s=some (e,s1)):Ev N (.code c s e s1):=(cU hm hC hn h).1
end
structure fJ (s0 s:St):Prop where
 h:s0.h=s.h
 f:∀ t,aX s0.fr t = .dJ∨aX s.fr t=aX s0.fr t
 e:∀ t p,fN s0.eB t=some p→fN s.eB t=some p
 n:∀ t,aX s0.fr t≠.dJ→fN s.eB t=fN s0.eB t
section
variable {N:Env} {s0 s:St}
theorem fJ.fg (H:fJ s0 s) {t:Nat} {sl:gh} (h:aX s0.fr t=sl) (hn:sl≠.dJ):aX s.fr t=sl:=by{
rcases H.f t with h1|h1
·exact (hn (h.symm.trans h1)).elim
·exact h1.trans h}
theorem aY (H:fJ s0 s) {x:Operand} {v:Value} (h:ev s0 x=some v):ev s x=some v:=by{
cases x with
| tmp t=>
  simp only[ev] at h ⊢
  split at h
  ·rename_i u hu
   rw[H.fg hu (by simp)]
   exact h
  ·cases h
| const k=>exact h
| func f=>exact h
| global g=>exact h}
theorem iD (H:fJ s0 s) {x:Operand} {p:Nat×Nat} (h:mv s0 x=some p):mv s x=some p:=by{
cases x with
| tmp t=>
  simp only[mv] at h ⊢
  split at h
  ·rename_i q hq
   rw[H.e _ _ hq]
   exact h
  ·cases h
  ·rename_i hq
   split at h
   ·rename_i cs hb
    rw[H.n t (by rw[hb];simp),hq,H.fg hb (by simp)]
    exact h
   ·cases h
| const k=>exact h
| func f=>exact h
| global g=>exact h}
theorem Fc (H:fJ s0 s) {x:Operand} {v:Value} (h:ev s0 x=some v):mv s x=mv s0 x:=by{
cases x with
| tmp t=>
  simp only[ev] at h
  split at h
  ·rename_i u hu
   simp only[mv,H.n t (by rw[hu];simp),H.fg hu (by simp),hu]
  ·cases h
| const k=>rfl
| func f=>rfl
| global g=>rfl}
theorem oc (H:fJ s0 s):∀ {l:List Operand} {v:List Value},tx s0 l=some v→tx s l=some v
 | [],_,h=>h
 | x :: r,v,h=>by
   simp only[tx] at h ⊢
   split at h
   ·rename_i a b h1 h2
    rw[aY H h1,oc H h2]
    exact h
   ·cases h
theorem kq (H:fJ s0 s):∀ {l:List (Nat×Operand)} {v:List (Nat×Value)},iw s0 l=some v→iw s l=some v
 | [],_,h=>h
 | (i,x) :: r,v,h=>by
   simp only[iw] at h ⊢
   split at h
   ·rename_i a b h1 h2
    rw[aY H h1,kq H h2]
    exact h
   ·cases h
theorem nT (H:fJ s0 s) {d:Int} {x:Option Operand} {v:Int} (h:D7 s0 d x=some v):D7 s d x=some v:=by{
cases x with
| none=>exact h
| some x=>
  simp only[D7] at h ⊢
  split at h
  ·rename_i k n h1
   rw[aY H h1]
   exact h
  ·cases h}
theorem nx (H:fJ s0 s) {t:Nat} {cs:List Value} (h:aX s0.fr t = .box cs):aX s.fr t = .box cs:=H.fg h (by simp)
theorem y7 (H:fJ s0 s) {t:TypeId} {a:Operand} {v:Value} (h:pU N s0 t a=some v):pU N s t a=some v:=by{
unfold pU at h ⊢
split at h
·cases h
·rename_i ti hti
 split at h
 ·rename_i sl off hp
  rw[iD H hp]
  simp only
  split at h
  ·rename_i cs hb
   rw[nx H hb]
   exact h
  ·cases h
 ·rename_i hp
  split at h
  ·rename_i ad he
   rw[Fc H he,hp,aY H he,← H.h]
   exact h
  ·cases h}
theorem qd (H:fJ s0 s) {t:TypeId} {x:Operand} {f:Nat} {v:Value} (h:fY N s0 t x f=some v):fY N s t x f=some v:=by{
unfold fY at h ⊢
split at h
·rename_i h1 h2
 rw[h1,aY H h2]
 exact h
·cases h}
theorem qw (H:fJ s0 s) {t:TypeId} {x i:Operand} {v:Value} (h:gj N s0 t x i=some v):gj N s t x i=some v:=by{
unfold gj at h ⊢
split at h
·rename_i h1 h2 h3
 rw[h1,aY H h2,aY H h3]
 exact h
·rename_i h1 h2 h3
 rw[h1,aY H h2,aY H h3]
 exact h
·cases h}
theorem yj (H:fJ s0 s) {t:TypeId} {x:Operand} {f:Nat} {v:Value} (h:mI N s0 t x f=some v):mI N s t x f=some v:=by{
unfold mI at h ⊢
split at h
·rename_i h1 h2
 rw[h1,aY H h2]
 exact h
·cases h}
theorem xW (H:fJ s0 s) {t:TypeId} {x i:Operand} {v:Value} (h:kR N s0 t x i=some v):kR N s t x i=some v:=by{
unfold kR at h ⊢
split at h
·rename_i h1 h2 h3
 rw[h1,aY H h2,aY H h3]
 exact h
·rename_i h1 h2 h3
 rw[h1,aY H h2,aY H h3]
 exact h
·cases h}
theorem yh (H:fJ s0 s) {t:TypeId} {x:Operand} {lo hi:Option Operand} {v:Value} (h:mA N s0 t x lo hi=some v):mA N s t x lo hi=some v:=by{
unfold mA at h ⊢
split at h
·rename_i h1 h2
 rw[h1,aY H h2]
 simp only
 split at h
 ·rename_i h3 h4 h5
  rw[h3,nT H h4,nT H h5,← H.h]
  exact h
 ·cases h
·rename_i h1 h2
 rw[h1,aY H h2]
 simp only
 split at h
 ·rename_i h3 h4
  rw[nT H h3,nT H h4]
  exact h
 ·cases h
·cases h}
theorem xi (H:fJ s0 s) {t:TypeId} {ps:Array (Nat×Operand)} {v:Value} (h:mu N s0 t ps=some v):mu N s t ps=some v:=by{
unfold mu at h ⊢
split at h
·rename_i h1 h2
 rw[h1,kq H h2]
 exact h
·cases h}
theorem tw (H:fJ s0 s) {b:Builtin} {args:Array Operand} {tys:Array TypeId} {v:Value} (h:jh N s0 b args tys=some v):jh N s b args tys=some v:=by{
unfold jh at h ⊢
cases he:tx s0 args.toList with
| none=>rw[he] at h;split at h<;>simp_all
| some l=>rw[he] at h;rw[oc H he];exact h}
theorem rZ (H:fJ s0 s) {c z:Operand} {t want:Bool} {u:Value} (h:jP s0 c t want z=some u):jP s c t want z=some u:=by{
cases z with
| tmp r=>
  simp only[jP] at h ⊢
  split at h
  ·rename_i v hv
   rw[H.fg hv (by simp)]
   exact h
  ·rename_i d w q v hv
   rw[H.fg hv (by simp)]
   exact h
  ·cases h
| const k=>exact h
| func f=>exact h
| global g=>exact h}
theorem wV {c z:Operand} {t want:Bool} {u:Value} (h:ev s z=some u):jP s c t want z=some u:=by{
cases z with
| tmp r=>
  simp only[ev] at h
  split at h
  ·rename_i v hv
   simp only[jP,hv]
   exact h
  ·cases h
| const k=>exact h
| func f=>exact h
| global g=>exact h}
theorem yY (H:fJ s0 s) {c x y:Operand} {t:Bool} {v:Value} (h:s5 s0 c t x y=some v):s5 s c t x y=some v:=by{
unfold s5 at h ⊢
split at h
·rename_i a b h1 h2
 rw[rZ H h1,rZ H h2]
 exact h
·cases t with
 | true=>
   simp only at h
   have h1:=aY H h
   rw[wV (c:=c) (t:=true) (want:=true) h1]
   split
   ·rename_i a b h2 h3
    cases h2
    rfl
   ·exact h1
 | false=>
   simp only at h
   have h1:=aY H h
   rw[wV (c:=c) (t:=false) (want:=false) h1]
   split
   ·rename_i a b h2 h3
    cases h3
    rfl
   ·exact h1}
theorem zO (H:fJ s0 s) {m:Value}:mapOf s m=mapOf s0 m:=by
 unfold mapOf
 rw[H.h]
theorem zS (H:fJ s0 s) {t:TypeId} {x i:Operand} {ok:Bool} {v:Value} (h:rL N s0 t x i ok=some v):rL N s t x i ok=some v:=by{
unfold rL at h ⊢
split at h
·rename_i h1 h2 h3
 rw[h1,aY H h2,aY H h3]
 simp only[zO H]
 exact h
·cases h}
theorem BO (H:fJ s0 s) {x:Operand} {v:Value} (h:Ab s0 x=some v):Ab s x=some v:=by{
unfold Ab at h ⊢
split at h
·split at h
 ·rename_i h1
  simp only[H.fg h1 (by simp),← H.h]
  exact h
 ·cases h
·cases h}
theorem Dp (H:fJ s0 s) {o:Op} {v:Value} (h:qN N s0 o=some v):qN N s o=some v:=by{
unfold qN at h ⊢
split at h
·exact aY H h
·exact aY H h
·split at h
 ·rename_i t hc
  simp only[aY H hc]
  exact yY H h
 ·cases h
·exact xi H h
·exact y7 H h
·split at h
 ·rename_i h1 h2
  simp only[aY H h1,aY H h2]
  exact h
 ·cases h
·split at h
 ·rename_i h1
  simp only[aY H h1]
  exact h
 ·cases h
·split at h
 ·rename_i h1
  simp only[aY H h1,← H.h]
  exact h
 ·cases h
·exact qd H h
·exact qw H h
·exact yj H h
·exact xW H h
·exact yh H h
·exact zS H h
·split at h
 ·rename_i h1
  simp only[aY H h1]
  exact h
 ·cases h
·split at h
 ·rename_i h1
  cases he:tx s0 _ with
  | none=>rw[he] at h;cases h
  | some l=>
    rw[he] at h
    simp only[h1,if_true,oc H he]
    exact h
 ·cases h
·split at h
 ·rename_i b hb
  try simp only[hb]
  exact tw H h
 ·cases h
·split at h
 ·rename_i h1
  simp only[aY H h1]
  exact h
 ·rename_i h1
  simp only[aY H h1]
  exact h
 ·cases h
·exact BO H h
·cases h}
theorem Ez (H:fJ s0 s) {o:Op} {p:Nat×Nat} (h:wO N s0 o=some p):wO N s o=some p:=by{
unfold wO at h ⊢
split at h
·split at h
 ·rename_i h1 h2
  simp only[h1,iD H h2]
  exact h
 ·cases h
·split at h
 ·rename_i h1 h2 h3
  simp only[h1,iD H h2,aY H h3]
  exact h
 ·cases h
·exact iD H h
·exact iD H h
·cases h}
theorem a9 (H:fJ s0 s) {all:Array Oper} {o:Oper} {b:Bool} (h:aD all o s0=some b):aD all o s=some b:=by{
unfold aD at h ⊢
split at h
·rename_i hg
 try simp only[hg]
 exact h
·rename_i j want hg
 try simp only[hg]
 split at h
 ·rename_i hj
  try simp only[hj]
  exact h
 ·rename_i q hj
  try simp only[hj]
  split at h
  ·rename_i hd
   try simp only[hd]
   exact h
  ·rename_i d hd
   try simp only[hd]
   split at h
   ·rename_i c hc
    rw[H.fg hc (by simp)]
    exact h
   ·rename_i c hc
    rw[H.fg hc (by simp)]
    exact h
   ·cases h}
theorem uL (H:fJ s0 s) {o:Op} {p:TypeId×List Value} (h:ii N s0 o=some p):ii N s o=some p:=by{
unfold ii at h ⊢
split at h
·exact h
·split at h
 ·rename_i h1 h2
  simp only[h1,aY H h2]
  exact h
 ·cases h
·cases h}
theorem uQ (H:fJ s0 s) {o:Op} {p:TypeId×List Value×Nat} (h:jm N s0 o=some p):jm N s o=some p:=by{
unfold jm at h ⊢
split at h
·split at h
 ·rename_i h0
  try simp only[h0]
  split at h
  ·rename_i h1 h2
   simp only[h1,kq H h2]
   exact h
  ·cases h
 ·cases h
·cases h}
theorem yd (H:fJ s0 s) {o:Op} {p:TypeId×List Value×Nat} (h:yI N s0 o=some p):yI N s o=some p:=by{
unfold yI at h ⊢
split at h
·split at h
 ·rename_i h0 h1 h2
  simp only[h0,aY H h1,aY H h2]
  exact h
 ·cases h
·cases h}
theorem pe (H:fJ s0 s) {h0:ai} {sz:Nat} {y:Operand} {p:List Value×Nat} (h:cI s0 h0 sz y=some p):cI s h0 sz y=some p:=by{
unfold cI at h ⊢
split at h
·split at h
 ·rename_i hb
  simp only[H.fg hb (by simp)]
  exact h
 ·rename_i hb
  simp only[H.fg hb (by simp)]
  exact h
 ·cases h
·cases h}
theorem vY (H:fJ s0 s) {c:Callee} {p:FuncId×List Value} (h:fF s0 c=some p):fF s c=some p:=by{
unfold fF at h ⊢
split at h
·split at h
 ·rename_i h1
  simp only[aY H h1]
  exact h
 ·cases h
·cases h}
inductive fT where
 | sl (v:gh)
 | ep (sl off:Nat)
def wg (s:St) (d:Option Nat) (r:fT) (h:ai):St:=
 match d,r with
 | some d,.sl v=>⟨fM s.fr d v,eV s.eB d,h⟩
 | some d,.ep sl off=>⟨fM s.fr d .dJ,(d,([],(sl,off))) :: eV s.eB d,h⟩
 | none,_=>⟨s.fr,s.eB,h⟩
inductive One (N:Env) (all:Array Oper) (o:Oper) (s:St):fT→ai→Prop
 | skip:aD all o s=some false→One N all o s (.sl (.val (.tuple #[]))) s.h
 | val {v:Value}:aD all o s=some true→qN N s o.op=some v→One N all o s (.sl (.val v)) s.h
 | eB {d sl off:Nat}:aD all o s=some true→o.dst=some d→wO N s o.op=some (sl,off)→sl≠d→One N all o s (.ep sl off) s.h
 | nj {d n:Nat} {t:TypeId} {cs:List Value}:aD all o s=some true→o.dst=some d→jm N s o.op=some (t,cs,n)→One N all o s (.sl (.nj cs n)) s.h
 | box {d:Nat} {t:TypeId} {cs:List Value}:aD all o s=some true→o.dst=some d→ii N s o.op=some (t,cs)→One N all o s (.sl (.box cs)) s.h
 | SM {d n:Nat} {t:TypeId} {cs:List Value}:aD all o s=some true→o.dst=some d→yI N s o.op=some (t,cs,n)→One N all o s (.sl (.Dd (.aq cs 0 true t) n)) s.h
 | Lf {d:Nat} {t kt et:TypeId}:aD all o s=some true→o.dst=some d→o.op = .makeMap t none→N.P.underlying t=some (.map kt et)→One N all o s (.sl (.Dd (.map []) 0)) s.h
 | cD {d id:Nat} {t kt et:TypeId} {x:Operand} {es:List (Value×Value)}:aD all o s=some true→o.dst=some d→o.op = .range t x→N.P.underlying t=some (.map kt et)→ev s x=some (.map (some id))→s.h[id]? = some (.map es)→One N all o s (.sl (.mP id es.length [])) s.h
 | Kk {d:Nat} {t:TypeId} {x:Operand} {b:ByteArray}:aD all o s=some true→o.dst=some d→o.op = .range t x→N.P.underlying t=some .string→ev s x=some (.string b)→One N all o s (.sl (.vm b 0)) s.h
 | FC {t:TypeId} {cs:List Value}:aD all o s=some true→ii N s o.op=some (t,cs)→One N all o s (.sl (.val (.pointer (some ⟨s.h.length,0,some 0⟩)))) (s.h++[ax.aq cs 0 true t])
 | Ga {n:Nat} {t:TypeId} {cs:List Value}:aD all o s=some true→jm N s o.op=some (t,cs,n)→One N all o s (.sl (.val (.slice (some ⟨s.h.length,0,some 0⟩) n n))) (s.h++[ax.aq cs 0 true t])
 | mk {n:Nat} {t:TypeId} {cs:List Value}:aD all o s=some true→yI N s o.op=some (t,cs,n)→One N all o s (.sl (.val (.slice (some ⟨s.h.length,0,some 0⟩) n n))) (s.h++[ax.aq cs 0 true t])
 | jE {t et:TypeId} {a x:Operand} {ti:TI} {id off av:Nat} {cells vs cells':List Value} {v:Value} {r:fT}:aD all o s=some true →
  o.op = .store t a x→au N.P t=some ti→ev s a=some (.pointer (some ⟨id,off,some av⟩))→s.h[id]? = some (.aq cells av true et)→ev s x=some v→dQ ti.size v=some vs →
  kP cells off vs=some cells'→o.dst=none→One N all o s r (s.h.set id (ax.aq cells' av true et))
 | map {t kt et:TypeId}:aD all o s=some true→o.op = .makeMap t none→N.P.underlying t=some (.map kt et)→One N all o s (.sl (.val (.map (some s.h.length)))) (s.h++[ax.map []])
 | Bg {t kt et:TypeId} {x i y:Operand} {id:Nat} {es:List (Value×Value)} {kd:Value→Bool} {k v:Value} {r:fT}:aD all o s=some true →
  o.op = .mapUpdate t x i y→N.P.underlying t=some (.map kt et)→N.keys kt=some kd→ev s x=some (.map (some id))→s.h[id]? = some (.map es)→ev s i=some k→ev s y=some v→kd k=true→eE kd es=true→o.dst=none →
  One N all o s r (s.h.set id (ax.map (iZ es k v)))
 | yB {t kt et:TypeId} {x i:Operand} {id j:Nat} {es es':List (Value×Value)} {kd:Value→Bool} {k z v:Value}:aD all o s=some true →
  o.op = .mapEntry t x i→N.P.underlying t=some (.map kt et)→N.keys kt=some kd→zeroOf N.P et=some z→ev s x=some (.map (some id))→s.h[id]? = some (.map es)→ev s i=some k→kd k=true→eE kd es=true→oJ es k z=(v,j,es') →
  One N all o s (.sl (.val (.tuple #[v,.int .i64 j]))) (s.h.set id (ax.map es'))
 | Nr {t:TypeId} {x y i:Operand} {id j:Nat} {es:List (Value×Value)} {k u v:Value} {r:fT}:aD all o s=some true →
  o.op = .entryStore t x i y→ev s x=some (.map (some id))→s.h[id]? = some (.map es)→ev s i=some (.int .i64 j)→ev s y=some v→es[j]? = some (k,u)→o.dst=none →
  One N all o s r (s.h.set id (ax.map (es.set j (k,v))))
 | za {x y:Operand} {t t2 e:TypeId} {ti:TI} {cs:List Value} {m:Nat}:aD all o s=some true →
  o.op = .call { callee:=.builtin .append,args:=#[x,y],argTypes:=#[t,t2] }→N.P.underlying t=some (.slice e)→t2=t→au N.P e=some ti→0<ti.size →
  (ti.zero.map fun z=>z.cells.size)=some ti.size→ev s x=some (.slice none 0 0)→cI s s.h ti.size y=some (cs,m)→0<m→m*ti.bytes≤140737488355328→m≤140737488355328 →
  One N all o s (.sl (.val (.slice (some ⟨s.h.length,0,some 0⟩) m m))) (s.h++[ax.aq cs 0 true e])
 | MC {x y:Operand} {t t2 e:TypeId} {ti:TI} {cs cells:List Value} {m n c id av:Nat}:aD all o s=some true →
  o.op = .call { callee:=.builtin .append,args:=#[x,y],argTypes:=#[t,t2] }→N.P.underlying t=some (.slice e)→t2=t→au N.P e=some ti→0<ti.size →
  (ti.zero.map fun z=>z.cells.size)=some ti.size→ev s x=some (.slice (some ⟨id,0,some av⟩) n c)→s.h[id]? = some (.aq cells av true e)→n*ti.size≤cells.length →
  cI s s.h ti.size y=some (cs,m)→(n+m)*ti.bytes≤140737488355328→n+m≤140737488355328 →
  One N all o s (.sl (.val (.slice (some ⟨id,0,some (av+1)⟩) (n+m) (n+m)))) (s.h.set id (ax.aq (cells.take (n*ti.size)++cs) (av+1) true e))
 | Ex {x y:Operand} {t t2 e:TypeId} {ti:TI} {b:ByteArray}:aD all o s=some true →
  o.op = .call { callee:=.builtin .append,args:=#[x,y],argTypes:=#[t,t2] }→N.P.underlying t=some (.slice e)→N.P.underlying t2=some .string→au N.P e=some ti→ti.size=1→ti.bytes=1→ti.zero=some (.int .u8 0) →
  ev s x=some (.slice none 0 0)→ev s y=some (.string b)→0<b.size→b.size≤140737488355328 →
  One N all o s (.sl (.val (.slice (some ⟨s.h.length,0,some 0⟩) b.size b.size))) (s.h++[ax.aq (bM b) 0 true e])
 | Mb {x y:Operand} {t t2 e:TypeId} {ti:TI} {cells:List Value} {n c id av:Nat} {b:ByteArray}:aD all o s=some true →
  o.op = .call { callee:=.builtin .append,args:=#[x,y],argTypes:=#[t,t2] }→N.P.underlying t=some (.slice e)→N.P.underlying t2=some .string→au N.P e=some ti→ti.size=1→ti.bytes=1→ti.zero=some (.int .u8 0) →
  ev s x=some (.slice (some ⟨id,0,some av⟩) n c)→s.h[id]? = some (.aq cells av true e)→n≤cells.length→ev s y=some (.string b)→n+b.size≤140737488355328 →
  One N all o s (.sl (.val (.slice (some ⟨id,0,some (av+1)⟩) (n+b.size) (n+b.size)))) (s.h.set id (ax.aq (cells.take n++bM b) (av+1) true e))
 | Tv {t t2 e:TypeId} {ti:TI} {x:Operand} {b:ByteArray}:aD all o s=some true→o.op = .convert t t2 x→N.P.underlying t=some .string→N.P.underlying t2=some (.slice e)→N.P.underlying e=some (.int .u8) →
  au N.P e=some ti→ti.size=1→ev s x=some (.string b)→b.size≤140737488355328 →
  One N all o s (.sl (.val (.slice (some ⟨s.h.length,0,some 0⟩) b.size b.size))) (s.h++[ax.aq (bM b) 0 false e])
 | Ho {t t2 e:TypeId} {ti:TI} {x y:Operand} {b:ByteArray} {id av:Nat} {cells:List Value}:aD all o s=some true→o.op = .call { callee:=.builtin .unsafeString,args:=#[x,y],argTypes:=#[t,t2] } →
  N.P.underlying t=some (.pointer e)→au N.P e=some ti→ti.size=1→ev s x=some (.pointer (some ⟨id,0,some av⟩))→s.h[id]? = some (.aq cells av true e)→ev s y=some (.int .i64 b.size)→0<b.size→b.size≤140737488355328→cells.take b.size=bM b →
  One N all o s (.sl (.val (.string b))) (s.h.set id (ax.aq cells av false e))
 | call {c:Call} {f:FuncId} {cap args:List Value} {fn:Func} {v:Value} {h':ai}:aD all o s=some true →
  o.op = .call c→fF s c.callee=some (f,cap)→tx s c.args.toList=some args→N.P.funcs[f]? = some fn→(fn.name == "runtime.NumGoroutine")=false→fn.body.isNone=false →
  Ev N (.call f (args++cap) s.h v h')→One N all o s (.sl (.val v)) h'
theorem ee {d:Option Nat} {v:Value} {h:ai}:({ s with h:=h }).be d (.val v)=wg s d (.sl (.val v)) h:=by
 cases d<;>rfl
theorem One.ev {all:Array Oper} {o:Oper} {r:fT} {h':ai} (k:One N all o s r h'):Ev N (.ops all [o] s (wg s o.dst r h')):=by{
cases k with
| skip hw=>exact .ox hw (by rw[← ee];exact .nil _ _)
| val hw hv=>exact .sU hw hv (by rw[← ee];exact .nil _ _)
| eB hw hd he hne=>exact .xO hw hd he hne (by rw[hd];exact .nil _ _)
| nj hw hd hb=>exact .xl hw hd hb (by rw[hd];exact .nil _ _)
| box hw hd hb=>exact .uu hw hd hb (by rw[hd];exact .nil _ _)
| SM hw hd hb=>exact .A2 hw hd hb (by rw[hd];exact .nil _ _)
| Lf hw hd ho hu=>exact .vW hw hd ho hu (by rw[hd];exact .nil _ _)
| cD hw hd ho hu hx hid=>exact .lH hw hd ho hu hx hid (by rw[hd];exact .nil _ _)
| Kk hw hd ho hu hx=>exact .jX hw hd ho hu hx (by rw[hd];exact .nil _ _)
| FC hw hb=>exact .oU hw hb (by rw[← ee];exact .nil _ _)
| Ga hw hb=>exact .oF hw hb (by rw[← ee];exact .nil _ _)
| mk hw hb=>exact .CT hw hb (by rw[← ee];exact .nil _ _)
| jE hw ho ht ha hid hx hv hq hd=>exact .oC hw ho ht ha hid hx hv hq hd (by rw[hd];exact .nil _ _)
| map hw ho hu=>exact .tU hw ho hu (by rw[← ee];exact .nil _ _)
| Bg hw ho hu hkd hx hid hk hv hkk hmk hd=>exact .uJ hw ho hu hkd hx hid hk hv hkk hmk hd (by rw[hd];exact .nil _ _)
| yB hw ho hu hkd hz hx hid hk hkk hmk hm=>exact .wR hw ho hu hkd hz hx hid hk hkk hmk hm (by rw[← ee];exact .nil _ _)
| Nr hw ho hx hid hi hv hj hd=>exact .wW hw ho hx hid hi hv hj hd (by rw[hd];exact .nil _ _)
| za hw ho hu h2 ht h3 h4 hx hi h5 h6 h7=>exact .o5 hw ho hu h2 ht h3 h4 hx hi h5 h6 h7 (by rw[← ee];exact .nil _ _)
| MC hw ho hu h2 ht h3 h4 hx hid h8 hi h5 h6=>exact .uj hw ho hu h2 ht h3 h4 hx hid h8 hi h5 h6 (by rw[← ee];exact .nil _ _)
| Ex hw ho hu h2 ht h3 h4 h5 hx hy h6 h7=>exact .qX hw ho hu h2 ht h3 h4 h5 hx hy h6 h7 (by rw[← ee];exact .nil _ _)
| Mb hw ho hu h2 ht h3 h4 h5 hx hid h8 hy h6=>exact .sf hw ho hu h2 ht h3 h4 h5 hx hid h8 hy h6 (by rw[← ee];exact .nil _ _)
| Tv hw ho hu h2 h3 ht h4 hx h5=>exact .xF hw ho hu h2 h3 ht h4 hx h5 (by rw[← ee];exact .nil _ _)
| Ho hw ho hu ht h1 hx hid hy h2 h3 h4=>exact .vJ hw ho hu ht h1 hx hid hy h2 h3 h4 (by rw[← ee];exact .nil _ _)
| call hw ho hc ha hf hn hb he=>exact .ov hw ho hc ha hf hn hb he (by rw[← ee];exact .nil _ _)}
theorem One.mono (H:fJ s0 s) {all:Array Oper} {o:Oper} {r:fT} {h':ai} (k:One N all o s0 r h'):One N all o s r h':=by{
have e:=H.h
cases k with
| skip hw=>rw[e];exact .skip (a9 H hw)
| val hw hv=>rw[e];exact .val (a9 H hw) (Dp H hv)
| eB hw hd he hne=>rw[e];exact .eB (a9 H hw) hd (Ez H he) hne
| nj hw hd hb=>rw[e];exact .nj (a9 H hw) hd (uQ H hb)
| box hw hd hb=>rw[e];exact .box (a9 H hw) hd (uL H hb)
| SM hw hd hb=>rw[e];exact .SM (a9 H hw) hd (yd H hb)
| Lf hw hd ho hu=>rw[e];exact .Lf (a9 H hw) hd ho hu
| cD hw hd ho hu hx hid=>rw[e] at hid ⊢;exact .cD (a9 H hw) hd ho hu (aY H hx) hid
| Kk hw hd ho hu hx=>rw[e];exact .Kk (a9 H hw) hd ho hu (aY H hx)
| FC hw hb=>rw[e];exact .FC (a9 H hw) (uL H hb)
| Ga hw hb=>rw[e];exact .Ga (a9 H hw) (uQ H hb)
| mk hw hb=>rw[e];exact .mk (a9 H hw) (yd H hb)
| jE hw ho ht ha hid hx hv hq hd=>rw[e] at hid ⊢;exact .jE (a9 H hw) ho ht (aY H ha) hid (aY H hx) hv hq hd
| map hw ho hu=>rw[e];exact .map (a9 H hw) ho hu
| Bg hw ho hu hkd hx hid hk hv hkk hmk hd=>rw[e] at hid ⊢;exact .Bg (a9 H hw) ho hu hkd (aY H hx) hid (aY H hk) (aY H hv) hkk hmk hd
| yB hw ho hu hkd hz hx hid hk hkk hmk hm=>rw[e] at hid ⊢;exact .yB (a9 H hw) ho hu hkd hz (aY H hx) hid (aY H hk) hkk hmk hm
| Nr hw ho hx hid hi hv hj hd=>rw[e] at hid ⊢;exact .Nr (a9 H hw) ho (aY H hx) hid (aY H hi) (aY H hv) hj hd
| za hw ho hu h2 ht h3 h4 hx hi h5 h6 h7=>rw[e] at hi ⊢;exact .za (a9 H hw) ho hu h2 ht h3 h4 (aY H hx) (pe H hi) h5 h6 h7
| MC hw ho hu h2 ht h3 h4 hx hid h8 hi h5 h6=>rw[e] at hi hid ⊢;exact .MC (a9 H hw) ho hu h2 ht h3 h4 (aY H hx) hid h8 (pe H hi) h5 h6
| Ex hw ho hu h2 ht h3 h4 h5 hx hy h6 h7=>rw[e];exact .Ex (a9 H hw) ho hu h2 ht h3 h4 h5 (aY H hx) (aY H hy) h6 h7
| Mb hw ho hu h2 ht h3 h4 h5 hx hid h8 hy h6=>rw[e] at hid ⊢;exact .Mb (a9 H hw) ho hu h2 ht h3 h4 h5 (aY H hx) hid h8 (aY H hy) h6
| Tv hw ho hu h2 h3 ht h4 hx h5=>rw[e];exact .Tv (a9 H hw) ho hu h2 h3 ht h4 (aY H hx) h5
| Ho hw ho hu ht h1 hx hid hy h2 h3 h4=>rw[e] at hid ⊢;exact .Ho (a9 H hw) ho hu ht h1 (aY H hx) hid (aY H hy) h2 h3 h4
| call hw ho hc ha hf hn hb he=>exact .call (a9 H hw) ho (vY H hc) (oc H ha) hf hn hb (e▸he)}
end
def bt (ops:Array Oper) (j:Nat):Option Nat:=match ops[j]? with|some o=>o.dst|none=>none
def fa (L:List (List Nat)) (i:Nat):List Nat:=(L[i]?).getD []
def A8 (ops:Array Oper):List (List Nat):=
 ops.toList.foldl (fun L o=>L++[(o.after.toList.foldl (fun acc e=>if Region.binds .any e then (e.on :: fa L e.on).foldl (fun acc j=>if acc.contains j then acc else j :: acc) acc else acc) [])]) []
def tF (ops:Array Oper) (L:List (List Nat)) (act:List Nat):Bool:=
 ((List.range ops.size).all fun i=>match ops[i]? with
   | some o=>(o.after.toList.all fun e=>!Region.binds .any e||decide (e.on<i))&&((fa L i).all fun j=>o.after.toList.any fun e=>Region.binds .any e&&(decide (e.on=j)||(fa L e.on).contains j))
   | none=>true) &&
 ((List.range ops.size).all fun i=>(List.range i).all fun j=>match bt ops i,bt ops j with
   | some d,some d'=>!decide (d=d')
   | _,_=>true) &&
 ((List.range act.length).all fun j=>(List.range j).all fun i=>(fa L (act.getD j 0)).contains (act.getD i 0))
def fH (L:List (List Nat)) (act:List Nat) (i k:Nat):Bool:=
 (List.range act.length).all fun j=>(!(fa L i).contains (act.getD j 0)||decide (j<k))&&(!(fa L (act.getD j 0)).contains i||decide (k≤j))&&(!decide (act.getD j 0=i)||decide (k=j))
section
variable {N:Env} {ops:Array Oper} {L:List (List Nat)} {act:List Nat} {s0:St} {res:Nat→fT} {Hs:Nat→ai}
structure qi (ops:Array Oper) (L:List (List Nat)) (act:List Nat):Prop where
 low:∀ i o,ops[i]? = some o→∀ e∈o.after,Region.binds .any e=true→e.on<i
 Jm:∀ i j,j∈fa L i→i<ops.size→∃ o,ops[i]? = some o∧∃ e∈o.after,Region.binds .any e=true∧(e.on=j∨j∈fa L e.on)
 dst:∀ i j d,bt ops i=some d→bt ops j=some d→i=j
 act:∀ i j,i<j→j<act.length→act.getD i 0∈fa L (act.getD j 0)
theorem nD {j d:Nat} (h:bt ops j=some d):j<ops.size:=by{
unfold bt at h
split at h
·rename_i o ho
 exact (Array.getElem?_eq_some_iff.1 ho).1
·cases h}
theorem oZ (h:tF ops L act=true):qi ops L act:=by{
unfold tF at h
simp only[Bool.and_eq_true,List.all_eq_true,List.mem_range] at h
obtain⟨⟨h1,h2⟩,h3⟩:=h
have hd:∀ i j d,j<i→bt ops i=some d→bt ops j=some d→False:=fun i j d hij hi hj=>by
 have:=h2 i (nD hi) j hij
 rw[hi,hj] at this
 simp at this
refine⟨fun i o ho e he hb=>?_,fun i j hj hi=>?_,fun i j d hi hj=>?_,fun i j hij hj=>?_⟩
·have:=h1 i (Array.getElem?_eq_some_iff.1 ho).1
 rw[ho] at this
 simp only[Bool.and_eq_true,List.all_eq_true] at this
 have:=this.1 e (by simpa using he)
 simpa [hb] using this
·have:=h1 i hi
 rw[Array.getElem?_eq_getElem hi] at this ⊢
 simp only[Bool.and_eq_true,List.all_eq_true,List.any_eq_true,Bool.or_eq_true,decide_eq_true_eq,List.contains_iff_mem] at this
 obtain⟨e,he,hb,hc⟩:=this.2 j hj
 exact⟨_,rfl,e,by simpa using he,hb,hc⟩
·rcases Nat.lt_trichotomy i j with h|h|h
 ·exact (hd j i d h hj hi).elim
 ·exact h
 ·exact (hd i j d h hi hj).elim
·exact List.contains_iff_mem.1 (h3 j hj i hij)}
structure vk (N:Env) (ops:Array Oper) (act:List Nat) (s0:St) (res:Nat→fT) (Hs:Nat→ai) (S:Array Bool) (t:St):Prop where
 size:S.size=ops.size
 closed:∀ j o,ops[j]? = some o→S.getD j false=true→∀ e∈o.after,Region.binds .any e=true→S.getD e.on false=true
 pre:∃ k,k≤act.length∧t.h=Hs k∧∀ j,j<act.length→(S.getD (act.getD j 0) false=true↔j<k)
 out:∀ x,(∀ j,bt ops j≠some x)→aX t.fr x=aX s0.fr x∧fN t.eB x=none
 oy:∀ j d v,bt ops j=some d→S.getD j false=true→res j = .sl v→aX t.fr d=v∧fN t.eB d=none
 Cm:∀ j d sl off,bt ops j=some d→S.getD j false=true→res j = .ep sl off→fN t.eB d=some ([],(sl,off))
 Ng:∀ q∈t.eB,∀ j,bt ops j≠some q.2.2.1
theorem jG (C:qi ops L act) {S:Array Bool} (hsz:S.size=ops.size) (hcl:∀ j o,ops[j]? = some o→S.getD j false=true→∀ e∈o.after,Region.binds .any e=true→S.getD e.on false=true) : ∀ (i j:Nat),i<ops.size→(∀ o,ops[i]? = some o→∀ e∈o.after,Region.binds .any e=true→S.getD e.on false=true)→j∈fa L i→S.getD j false=true:=by{
intro i
induction i using Nat.strongRecOn with
| _ i ih=>
  intro j hi hr hj
  obtain⟨o,ho,e,he,hb,h⟩:=C.Jm i j hj hi
  have h1:=hr o ho e he hb
  rcases h with rfl|h
  ·exact h1
  ·have hlt:=C.low i o ho e he hb
   exact ih e.on hlt j (by omega) (fun o' ho' e' he' hb'=>hcl e.on o' ho' h1 e' he' hb') h}
theorem fW:∀ (e:Br) (d:Nat),fN (eV e d) d=none
 | [],d=>rfl
 | (k,(g,(s,o))) :: r,d=>by
   simp only[eV]
   split
   ·exact fW r d
   ·split
    ·exact fW r d
    ·rename_i h _
     simp only[fN,if_neg h]
     exact fW r d
theorem gi:∀ {e:Br} {d x:Nat},(∀ q∈e,q.2.2.1≠d)→x≠d→fN (eV e d) x=fN e x
 | [],d,x,_,_=>rfl
 | (k,(g,(s,o))) :: r,d,x,h,hx=>by
   have hr:=gi (e:=r) (d:=d) (x:=x) (fun q hq=>h q (List.mem_cons_of_mem _ hq)) hx
   have hs:s≠d:=h (k,(g,(s,o))) List.mem_cons_self
   simp only[eV]
   split
   ·rename_i hk
    simp only[fN]
    rw[if_neg (by omega)]
    exact hr
   ·try rw[if_neg hs]
    simp only[fN]
    split
    ·rfl
    ·exact hr
theorem jT {q:Nat×(List Key×(Nat×Nat))} {d:Nat}:∀ {e:Br},q∈eV e d→q∈e
 | [],h=>h
 | (k,(g,(s,o))) :: r,h=>by
   simp only[eV] at h
   split at h
   ·exact List.mem_cons_of_mem _ (jT h)
   ·split at h
    ·exact List.mem_cons_of_mem _ (jT h)
    ·rcases List.mem_cons.1 h with h|h
     ·exact h▸List.mem_cons_self
     ·exact List.mem_cons_of_mem _ (jT h)
structure View (ops:Array Oper) (L:List (List Nat)) (s0:St) (res:Nat→fT) (i:Nat) (V:St):Prop where
 f:∀ x,aX V.fr x = .dJ∨((∀ j,bt ops j≠some x)∧aX s0.fr x=aX V.fr x)∨∃ j,bt ops j=some x∧j∈fa L i∧res j = .sl (aX V.fr x)
 e:∀ x p,fN V.eB x=some p→∃ j sl off,bt ops j=some x∧j∈fa L i∧res j = .ep sl off∧p=([],(sl,off))
 n:∀ x,aX V.fr x≠.dJ→fN V.eB x=none
theorem View.sub (C:qi ops L act) {S:Array Bool} {t V:St} {i:Nat} (I:vk N ops act s0 res Hs S t) (hi:i<ops.size) (hr:∀ o,ops[i]? = some o→∀ e∈o.after,Region.binds .any e=true→S.getD e.on false=true) (hV:View ops L s0 res i V) (hh:V.h=t.h):fJ V t:=by{
have hin:∀ j,j∈fa L i→S.getD j false=true:=fun j hj=>jG C I.size I.closed i j hi hr hj
refine⟨hh,fun x=>?_,fun x p hp=>?_,fun x hx=>?_⟩
·rcases hV.f x with h|⟨h,h2⟩ | ⟨j,h,h2,h3⟩
 ·exact .inl h
 ·exact .inr ((I.out x h).1.trans h2)
 ·exact .inr (I.oy j x _ h (hin j h2) h3).1
·obtain⟨j,sl,off,h,h2,h3,rfl⟩:=hV.e x p hp
 exact I.Cm j x sl off h (hin j h2) h3
·rw[hV.n x hx]
 rcases hV.f x with h|⟨h,h2⟩ | ⟨j,h,h2,h3⟩
 ·exact (hx h).elim
 ·exact (I.out x h).2
 ·exact (I.oy j x _ h (hin j h2) h3).2}
theorem eM {S:Array Bool} {i j:Nat} (hi:i<S.size):((S.setIfInBounds i true).getD j false=true)↔(j=i∨S.getD j false=true):=by{
by_cases h:i=j
·subst h
 simp [hi]
·rw[getD_set_ne false h]
 exact⟨.inr,fun h'=>h'.resolve_left fun e=>h e.symm⟩}
theorem vk.step (C:qi ops L act) (hT:∀ j sl off,res j = .ep sl off→∀ i,bt ops i≠some sl) {S:Array Bool} {t:St} {i:Nat} {o:Oper} (hstep:∀ o k,ops[i]? = some o→k≤act.length→fH L act i k=true→∃ V,View ops L s0 res i V∧V.h=Hs k∧One N ops o V (res i) (Hs (if i∈act then k+1 else k))) (I:vk N ops act s0 res Hs S t) (hi:i∈Region.ready .any ops S) (ho:ops[i]? = some o) : ∃ s',Ev N (.ops ops [o] t s')∧vk N ops act s0 res Hs (S.setIfInBounds i true) s':=by{
obtain⟨hun,oi,hoi,hall⟩:=mem_ready.1 hi
obtain rfl:oi=o:=Option.some.inj (hoi.symm.trans ho)
have hlt:i<ops.size:=(Array.getElem?_eq_some_iff.1 ho).1
have hltS:i<S.size:=by rw[I.size];exact hlt
have hnot:¬ S.getD i false=true:=by
 have h1:=getD_both hun
 rw[h1]
 simp
have hr:∀ o,ops[i]? = some o→∀ e∈o.after,Region.binds .any e=true→S.getD e.on false=true:=fun o' ho' e he hb=>by
 obtain rfl:oi=o':=Option.some.inj (ho.symm.trans ho')
 exact hall e he hb
have hin:∀ j,j∈fa L i→S.getD j false=true:=fun j hj=>jG C I.size I.closed i j hlt hr hj
obtain⟨k,hk,hh,hpre⟩:=I.pre
have hst:fH L act i k=true:=by
 unfold fH
 rw[List.all_eq_true]
 intro j hj
 rw[List.mem_range] at hj
 simp only[Bool.and_eq_true,Bool.or_eq_true,Bool.not_eq_true',decide_eq_true_eq,decide_eq_false_iff_not]
 refine⟨⟨?_,?_⟩,?_⟩
 ·by_cases h:act.getD j 0∈fa L i
  ·exact .inr ((hpre j hj).1 (hin _ h))
  ·exact .inl (by simpa using h)
 ·by_cases h:i∈fa L (act.getD j 0)
  ·refine .inr (Nat.le_of_not_lt fun hjk=>?_)
   have h1:=(hpre j hj).2 hjk
   have hal:act.getD j 0<ops.size:=by
    rcases Nat.lt_or_ge (act.getD j 0) ops.size with h2|h2
    ·exact h2
    ·have:S.size≤act.getD j 0:=by rw[I.size];exact h2
     rw[Array.getD_eq_getD_getElem?,Array.getElem?_eq_none this] at h1
     cases h1
   exact hnot (jG C I.size I.closed _ i hal (fun o' ho' e he hb=>I.closed _ o' ho' h1 e he hb) h)
  ·exact .inl (by simpa using h)
 ·by_cases h:act.getD j 0=i
  ·refine .inr (Nat.le_antisymm (Nat.le_of_not_lt fun hjk=>?_) (Nat.le_of_not_lt fun hkj=>?_))
   ·exact hnot (h▸(hpre j hj).2 hjk)
   ·have h1:=C.act k j hkj hj
    rw[h] at h1
    have:=(hpre k (by omega)).1 (hin _ h1)
    omega
  ·exact .inl h
obtain⟨V,hV,hVh,hone⟩:=hstep oi k ho hk hst
have hsub:=hV.sub C I hlt hr (hVh.trans hh.symm)
refine⟨_,(hone.mono hsub).ev,?_⟩
have hset:∀ j,((S.setIfInBounds i true).getD j false=true)↔(j=i∨S.getD j false=true):=fun j=>eM hltS
have hpre':∃ k',k'≤act.length∧Hs (if i∈act then k+1 else k)=Hs k'∧∀ j,j<act.length→((S.setIfInBounds i true).getD (act.getD j 0) false=true↔j<k'):=by
 have hst':∀ j,j<act.length→act.getD j 0=i→k=j:=fun j hj h=>by
  unfold fH at hst
  rw[List.all_eq_true] at hst
  have:=hst j (List.mem_range.2 hj)
  simp only[Bool.and_eq_true,Bool.or_eq_true,Bool.not_eq_true',decide_eq_true_eq,decide_eq_false_iff_not] at this
  exact this.2.resolve_left fun hn=>hn h
 by_cases hia:i∈act
 ·rw[if_pos hia]
  obtain⟨j0,hj0,hji⟩:=List.mem_iff_getElem.1 hia
  have hg:act.getD j0 0=i:=by simp [hj0,hji]
  have hk0:=hst' j0 hj0 hg
  refine⟨k+1,by omega,rfl,fun j hj=>?_⟩
  rw[hset]
  constructor
  ·rintro (h|h)
   ·have:=hst' j hj h
    omega
   ·have:=(hpre j hj).1 h
    omega
  ·intro h
   rcases Nat.lt_or_ge j k with h1|h1
   ·exact .inr ((hpre j hj).2 h1)
   ·obtain rfl:j=j0:=by omega
    exact .inl hg
 ·rw[if_neg hia]
  refine⟨k,hk,rfl,fun j hj=>?_⟩
  rw[hset]
  constructor
  ·rintro (h|h)
   ·exact (hia (by rw[← h];simp [hj])).elim
   ·exact (hpre j hj).1 h
  ·exact fun h=>.inr ((hpre j hj).2 h)
have hcl':∀ j o,ops[j]? = some o→(S.setIfInBounds i true).getD j false=true→∀ e∈o.after,Region.binds .any e=true→(S.setIfInBounds i true).getD e.on false=true:=fun j o hj hl e he hb=>by
 rw[hset]
 rcases (hset j).1 hl with rfl|h
 ·exact .inr (hr o hj e he hb)
 ·exact .inr (I.closed j o hj h e he hb)
cases hd:oi.dst with
| none=>
  have hda:bt ops i=none:=by simp [bt,ho,hd]
  have hne:∀ j d,bt ops j=some d→j≠i:=fun j d h e=>by rw[e,hda] at h;cases h
  exact⟨by simp [I.size],hcl',hpre',I.out,fun j d v hj hl=>I.oy j d v hj (((hset j).1 hl).resolve_left (hne j d hj)),fun j d sl off hj hl=>I.Cm j d sl off hj (((hset j).1 hl).resolve_left (hne j d hj)),I.Ng⟩
| some d=>
  have hda:bt ops i=some d:=by simp [bt,ho,hd]
  have hdn:∀ q∈t.eB,q.2.2.1≠d:=fun q hq e=>I.Ng q hq i (by rw[e];exact hda)
  have hdne:∀ j d',j≠i→bt ops j=some d'→d'≠d:=fun j d' hj h e=>hj (C.dst j i d (e▸h) hda)
  cases hres:res i with
  | sl v=>
    refine⟨by simp [I.size],hcl',hpre',fun x hx=>?_,fun j d' v' hj hl hv=>?_,fun j d' sl off hj hl hv=>?_,fun q hq=>I.Ng q (jT hq)⟩
    ·have hxd:x≠d:=fun e=>hx i (e▸hda)
     simp only[wg,bF]
     rw[if_neg (fun e=>hxd e.symm),gi hdn hxd]
     exact I.out x hx
    ·simp only[wg,bF]
     by_cases hji:j=i
     ·subst hji
      obtain rfl:d=d':=Option.some.inj (hda.symm.trans hj)
      rw[if_pos rfl,fW]
      rw[hres] at hv
      cases hv
      exact⟨rfl,rfl⟩
     ·have:=hdne j d' hji hj
      rw[if_neg (fun e=>this e.symm),gi hdn this]
      exact I.oy j d' v' hj (((hset j).1 hl).resolve_left hji) hv
    ·by_cases hji:j=i
     ·subst hji
      rw[hres] at hv
      cases hv
     ·have:=hdne j d' hji hj
      simp only[wg]
      rw[gi hdn this]
      exact I.Cm j d' sl off hj (((hset j).1 hl).resolve_left hji) hv
  | ep sl0 off0=>
    refine⟨by simp [I.size],hcl',hpre',fun x hx=>?_,fun j d' v' hj hl hv=>?_,fun j d' sl off hj hl hv=>?_,fun q hq=>?_⟩
    ·have hxd:x≠d:=fun e=>hx i (e▸hda)
     simp only[wg,bF,fN]
     rw[if_neg (fun e=>hxd e.symm),if_neg (fun e=>hxd e.symm),gi hdn hxd]
     exact I.out x hx
    ·by_cases hji:j=i
     ·subst hji
      rw[hres] at hv
      cases hv
     ·have:=hdne j d' hji hj
      simp only[wg,bF,fN]
      rw[if_neg (fun e=>this e.symm),if_neg (fun e=>this e.symm),gi hdn this]
      exact I.oy j d' v' hj (((hset j).1 hl).resolve_left hji) hv
    ·by_cases hji:j=i
     ·subst hji
      obtain rfl:d=d':=Option.some.inj (hda.symm.trans hj)
      simp only[wg,fN,if_true]
      rw[hres] at hv
      cases hv
      rfl
     ·have:=hdne j d' hji hj
      simp only[wg,fN]
      rw[if_neg (fun e=>this e.symm),gi hdn this]
      exact I.Cm j d' sl off hj (((hset j).1 hl).resolve_left hji) hv
    ·rcases List.mem_cons.1 hq with rfl|hq
     ·exact fun j=>hT i sl0 off0 hres j
     ·exact I.Ng q (jT hq)}
theorem Ek {id:Nat} {s:St} {frF:Fr} (hm:N.P.follows .mixedOrders=true) (C:qi ops L act) (hT:∀ j sl off,res j = .ep sl off→∀ i,bt ops i≠some sl) (hstep:∀ i o k,ops[i]? = some o→k≤act.length→fH L act i k=true→∃ V,View ops L s res i V∧V.h=Hs k∧One N ops o V (res i) (Hs (if i∈act then k+1 else k))) (hact:∀ a∈act,a<ops.size) (h0:s.h=Hs 0) (hF:∀ p∈frF,((∀ j,bt ops j≠some p.1)∧aX s.fr p.1=p.2)∨∃ j,bt ops j=some p.1∧res j = .sl p.2) : Ev N (.code (.region id ops true) s .normal ⟨frF,[],Hs act.length⟩):=by{
classical
refine .qK (vk N ops act s res Hs) (fun S t i=>match ops[i]? with
 | some o=>if h:∃ s',Ev N (.ops ops [o] t s')∧vk N ops act s res Hs (S.setIfInBounds i true) s' then h.choose else t
 | none=>t) hm ?_ ?_ ?_ ?_ rfl
·refine⟨by simp,fun j o _ hl=>?_,⟨0,Nat.zero_le _,h0,fun j _=>?_⟩,fun x _=>⟨rfl,rfl⟩,fun j d v _ hl=>?_,fun j d sl off _ hl=>?_,fun q hq=>by cases hq⟩
 ·rw[getD_replicate_false] at hl
  cases hl
 ·rw[getD_replicate_false]
  simp
 ·rw[getD_replicate_false] at hl
  cases hl
 ·rw[getD_replicate_false] at hl
  cases hl
·intro S t i o I hi ho
 simp only[ho]
 have h:=I.step C hT (hstep i) hi ho
 rw[dif_pos h]
 exact h.choose_spec.1
·intro S t i o I hi ho
 simp only[ho]
 have h:=I.step C hT (hstep i) hi ho
 rw[dif_pos h]
 exact h.choose_spec.2
·intro S t I hr
 have hall:∀ i,i<ops.size→S.getD i false=true:=by
  intro i
  induction i using Nat.strongRecOn with
  | _ i ih=>
    intro hi
    cases hb:S.getD i false with
    | true=>rfl
    | false=>
      have:i∈Region.ready .any ops S:=mem_ready.2 ⟨getD_in (by rw[I.size];exact hi) hb,ops[i],Array.getElem?_eq_getElem hi,fun e he hbi=>by
       have hlow:=C.low i _ (Array.getElem?_eq_getElem hi) e he hbi
       exact ih e.on hlow (by omega)⟩
      rw[hr] at this
      cases this
 refine⟨fun p hp=>?_,?_⟩
 ·rcases hF p hp with ⟨h1,h2⟩ | ⟨j,h1,h2⟩
  ·exact (I.out p.1 h1).1.trans h2
  ·exact (I.oy j p.1 p.2 h1 (hall j (nD h1)) h2).1
 ·obtain⟨k,hk,hh,hpre⟩:=I.pre
  have:k=act.length:=by
   rcases Nat.lt_or_ge k act.length with h|h
   ·have:=(hpre k h).1 (hall _ (hact _ (by simp [h])))
    omega
   ·omega
  rw[hh,this]}
end
def dstsOf (ops:Array Oper):List Nat:=ops.toList.filterMap (·.dst)
def eA (resL:List fT) (j:Nat):fT:=(resL[j]?).getD (.sl .dJ)
def qt (hs:List ai) (k:Nat):ai:=(hs[k]?).getD []
def iU (ops:Array Oper) (resL:List fT):List Nat→Fr
 | []=>[]
 | j :: l=>match bt ops j,resL[j]? with
   | some d,some (.sl v)=>(d,v) :: iU ops resL l
   | _,_=>iU ops resL l
def xr (ops:Array Oper) (resL:List fT):List Nat→Br
 | []=>[]
 | j :: l=>match bt ops j,resL[j]? with
   | some d,some (.ep sl off)=>(d,([],(sl,off))) :: xr ops resL l
   | _,_=>xr ops resL l
def ik (ds:List Nat):Fr→Fr
 | []=>[]
 | (k,v) :: r=>if ds.contains k then ik ds r else (k,v) :: ik ds r
def dS (ops:Array Oper) (L:List (List Nat)) (resL:List fT) (fr:Fr) (h:ai) (i:Nat):St:=⟨ik (dstsOf ops) fr++iU ops resL (fa L i),xr ops resL (fa L i),h⟩
section
variable {N:Env} {ops:Array Oper} {L:List (List Nat)} {act:List Nat} {resL:List fT}
theorem fZ {j d:Nat} (h:bt ops j=some d):d∈dstsOf ops:=by{
unfold bt at h
split at h
·rename_i o ho
 unfold dstsOf
 rw[List.mem_filterMap]
 exact⟨o,Array.mem_toList_iff.2 (Array.mem_of_getElem? ho),h⟩
·cases h}
theorem je {x:Nat}:∀ {l:List Nat},aX (iU ops resL l) x = .dJ∨∃ j,bt ops j=some x∧j∈l∧resL[j]? = some (.sl (aX (iU ops resL l) x))
 | []=>.inl rfl
 | j :: l=>by
   have ih:=je (x:=x) (l:=l)
   have ih':aX (iU ops resL l) x = .dJ∨∃ j',bt ops j'=some x∧j'∈j :: l∧resL[j']? = some (.sl (aX (iU ops resL l) x)):=by
    rcases ih with h|⟨j',h1,h2,h3⟩
    ·exact .inl h
    ·exact .inr ⟨j',h1,List.mem_cons_of_mem _ h2,h3⟩
   simp only[iU]
   split
   ·rename_i d v hd hr
    simp only[aX]
    split
    ·rename_i hx
     subst hx
     exact .inr ⟨j,hd,List.mem_cons_self,hr⟩
    ·exact ih'
   ·exact ih'
theorem oH {x:Nat} {p:List Key×(Nat×Nat)}:∀ {l:List Nat},fN (xr ops resL l) x=some p→∃ j sl off,bt ops j=some x∧j∈l∧resL[j]? = some (.ep sl off)∧p=([],(sl,off))
 | [],h=>by cases h
 | j :: l,h=>by
   have ih:fN (xr ops resL l) x=some p→∃ j' sl off,bt ops j'=some x∧j'∈j :: l∧resL[j']? = some (.ep sl off)∧p=([],(sl,off)):=fun h=>by
    obtain⟨j',sl,off,h1,h2,h3⟩:=oH h
    exact⟨j',sl,off,h1,List.mem_cons_of_mem _ h2,h3⟩
   simp only[xr] at h
   split at h
   ·rename_i d sl off hd hr
    simp only[fN] at h
    split at h
    ·rename_i hx
     subst hx
     cases h
     exact⟨j,sl,off,hd,List.mem_cons_self,hr,rfl⟩
    ·exact ih h
   ·exact ih h
theorem oE {ds:List Nat} {B:Fr} {x:Nat} (hx:x∈ds):∀ {fr:Fr},aX (ik ds fr++B) x=aX B x
 | []=>rfl
 | (k,v) :: r=>by
   simp only[ik]
   split
   ·exact oE hx
   ·rename_i hk
    have:k≠x:=fun e=>hk (by rw[e];simpa using hx)
    simp only[List.cons_append,aX,if_neg this]
    exact oE hx
theorem mN {ds:List Nat} {B:Fr} {x:Nat} (hx:x∉ds) (hB:aX B x = .dJ):∀ {fr:Fr},aX (ik ds fr++B) x=aX fr x
 | []=>hB
 | (k,v) :: r=>by
   simp only[ik]
   split
   ·rename_i hk
    have:k≠x:=fun e=>hx (by rw[← e];simpa using hk)
    simp only[aX,if_neg this]
    exact mN hx hB
   ·simp only[List.cons_append,aX]
    split
    ·rfl
    ·exact mN hx hB
theorem jS {j:Nat} {r:fT} (h:resL[j]? = some r):eA resL j=r:=by simp [eA,h]
theorem lV (C:qi ops L act) {s0:St} {h:ai} {i:Nat}:View ops L s0 (eA resL) i (dS ops L resL s0.fr h i):=by{
have hf:∀ x,aX (dS ops L resL s0.fr h i).fr x = .dJ∨((∀ j,bt ops j≠some x)∧aX s0.fr x=aX (dS ops L resL s0.fr h i).fr x)∨∃ j,bt ops j=some x∧j∈fa L i∧eA resL j = .sl (aX (dS ops L resL s0.fr h i).fr x):=by
 intro x
 by_cases hx:x∈dstsOf ops
 ·simp only[dS,oE hx]
  rcases je (ops:=ops) (resL:=resL) (x:=x) (l:=fa L i) with h|⟨j,h1,h2,h3⟩
  ·exact .inl h
  ·exact .inr (.inr ⟨j,h1,h2,jS h3⟩)
 ·have hB:aX (iU ops resL (fa L i)) x = .dJ:=by
   rcases je (ops:=ops) (resL:=resL) (x:=x) (l:=fa L i) with h|⟨j,h1,_⟩
   ·exact h
   ·exact (hx (fZ h1)).elim
  refine .inr (.inl ⟨fun j hj=>hx (fZ hj),?_⟩)
  simp only[dS,mN hx hB]
refine⟨hf,fun x p hp=>?_,fun x hx=>?_⟩
·obtain⟨j,sl,off,h1,h2,h3,h4⟩:=oH hp
 exact⟨j,sl,off,h1,h2,jS h3,h4⟩
·cases he:fN (dS ops L resL s0.fr h i).eB x with
 | none=>rfl
 | some p=>
   obtain⟨j,sl,off,h1,h2,h3,_⟩:=oH he
   rcases hf x with h|⟨h,_⟩ | ⟨j',k1,k2,k3⟩
   ·exact (hx h).elim
   ·exact (h j h1).elim
   ·obtain rfl:=C.dst j j' x h1 k1
    rw[jS h3] at k3
    cases k3}
def Kj (all:Array Oper) (d:Nat):Bool:=all.any fun o=>match o.op with
 | .call c=>match c.callee with
   | .builtin .append=>match c.args.toList with
     | [_,.tmp y]=>y == d
     | _=>false
   | _=>false
 | _=>false
def s8 (N:Env) (call:FuncId→List Value→ai→Option (Value×ai)) (nm:FuncId→Bool) (all:Array Oper) (o:Oper) (s:St):Option (fT×ai):=
 match aD all o s with
 | none=>none
 | some false=>some (.sl (.val (.tuple #[])),s.h)
 | some true=>match o.op with
   | .box t x=>(ii N s (.box t x)).map fun p=>(.sl (.val (.pointer (some ⟨s.h.length,0,some 0⟩))),s.h++[ax.aq p.2 0 true p.1])
   | .alloc t=>(ii N s (.alloc t)).map fun p=>(.sl (.val (.pointer (some ⟨s.h.length,0,some 0⟩))),s.h++[ax.aq p.2 0 true p.1])
   | .buildSlice t l ps=>match o.dst with
     | some d=>if Kj all d then (jm N s (.buildSlice t l ps)).map fun p=>(.sl (.nj p.2.1 p.2.2),s.h)
       else (jm N s (.buildSlice t l ps)).map fun p=>(.sl (.val (.slice (some ⟨s.h.length,0,some 0⟩) p.2.2 p.2.2)),s.h++[ax.aq p.2.1 0 true p.1])
     | none=>none
   | .makeSlice t l c=>(yI N s (.makeSlice t l c)).map fun p=>(.sl (.val (.slice (some ⟨s.h.length,0,some 0⟩) p.2.2 p.2.2)),s.h++[ax.aq p.2.1 0 true p.1])
   | .store t a x=>match o.dst with
     | none=>match au N.P t,ev s a,ev s x with
       | some ti,some (.pointer (some ⟨id,off,some av⟩)),some v=>match s.h[id]?,dQ ti.size v with
         | some (.aq cells ver' true et),some vs=>if ver'=av then (kP cells off vs).map fun cells'=>(.sl .dJ,s.h.set id (ax.aq cells' av true et)) else none
         | _,_=>none
       | _,_,_=>none
     | some _=>none
   | .makeMap t none=>match N.P.underlying t with
     | some (.map _ _)=>some (.sl (.val (.map (some s.h.length))),s.h++[ax.map []])
     | _=>none
   | .mapUpdate t x i y=>match o.dst with
     | none=>match CD N s t x,ev s i,ev s y with
       | some (id,es,kd,_),some k,some v=>if kd k then some (.sl .dJ,s.h.set id (ax.map (iZ es k v))) else none
       | _,_,_=>none
     | some _=>none
   | .mapEntry t x i=>match CD N s t x,ev s i with
     | some (id,es,kd,et),some k=>match zeroOf N.P et with
       | some z=>if kd k then some (.sl (.val (.tuple #[(oJ es k z).1,.int .i64 (oJ es k z).2.1])),s.h.set id (ax.map (oJ es k z).2.2)) else none
       | none=>none
     | _,_=>none
   | .entryStore _ x i y=>match o.dst with
     | none=>match ev s x,ev s i,ev s y with
       | some (.map (some id)),some (.int .i64 (.ofNat j)),some v=>match s.h[id]? with
         | some (.map es)=>match es[j]? with
           | some (k,_)=>some (.sl .dJ,s.h.set id (ax.map (es.set j (k,v))))
           | none=>none
         | _=>none
       | _,_,_=>none
     | some _=>none
   | .call c=>match c.callee with
     | .builtin .append=>match c.args.toList,c.argTypes.toList with
       | [x,y],[t,t2]=>match N.P.underlying t with
         | some (.slice e)=>match au N.P e with
           | some ti=>if t2=t∧0<ti.size∧(ti.zero.map fun z=>z.cells.size)=some ti.size then (match cI s s.h ti.size y with
             | some (cs,m)=>match ev s x with
               | some (.slice none 0 0)=>if 0<m∧m*ti.bytes≤140737488355328∧m≤140737488355328 then some (.sl (.val (.slice (some ⟨s.h.length,0,some 0⟩) m m)),s.h++[ax.aq cs 0 true e]) else none
               | some (.slice (some ⟨id,0,some av⟩) n _)=>match s.h[id]? with
                 | some (.aq cells ver' true et)=>if ver'=av∧et=e∧n*ti.size≤cells.length∧(n+m)*ti.bytes≤140737488355328∧n+m≤140737488355328 then
                  some (.sl (.val (.slice (some ⟨id,0,some (av+1)⟩) (n+m) (n+m))),s.h.set id (ax.aq (cells.take (n*ti.size)++cs) (av+1) true e)) else none
                 | _=>none
               | _=>none
             | none=>none) else none
           | none=>none
         | _=>none
       | _,_=>none
     | .builtin _=>(qN N s o.op).map fun v=>(.sl (.val v),s.h)
     | cal=>match fF s cal,tx s c.args.toList with
       | some (f,cap),some args=>if nm f then (match call f (args++cap) s.h with
         | some (v,h')=>some (.sl (.val v),h')
         | none=>none) else none
       | _,_=>none
   | _=>match qN N s o.op with
     | some v=>some (.sl (.val v),s.h)
     | none=>match wO N s o.op,o.dst with
       | some (sl,off),some d=>if sl=d then none else some (.ep sl off,s.h)
       | _,_=>none
variable {call:FuncId→List Value→ai→Option (Value×ai)} {nm:FuncId→Bool}
theorem Fi (hC:gQ N call) (hn:rO N nm) {all:Array Oper} {o:Oper} {s:St} {r:fT} {h':ai} (h:s8 N call nm all o s=some (r,h')):One N all o s r h':=by{
unfold s8 at h
split at h
·cases h
·rename_i hw
 cases h
 exact .skip hw
·rename_i hw
 split at h
 ·rename_i t x ho
  cases hb:ii N s (.box t x) with
  | none=>simp [hb] at h
  | some p=>
    simp only[hb,Option.map_some,Option.some.injEq,Prod.mk.injEq] at h
    obtain⟨rfl,rfl⟩:=h
    exact .FC hw (by rw[ho];exact hb)
 ·rename_i t ho
  cases hb:ii N s (.alloc t) with
  | none=>simp [hb] at h
  | some p=>
    simp only[hb,Option.map_some,Option.some.injEq,Prod.mk.injEq] at h
    obtain⟨rfl,rfl⟩:=h
    exact .FC hw (by rw[ho];exact hb)
 ·rename_i t l ps ho
  split at h
  ·rename_i d hd
   split at h
   ·cases hb:jm N s (.buildSlice t l ps) with
    | none=>simp [hb] at h
    | some p=>
      simp only[hb,Option.map_some,Option.some.injEq,Prod.mk.injEq] at h
      obtain⟨rfl,rfl⟩:=h
      exact .nj hw hd (by rw[ho];exact hb)
   ·cases hb:jm N s (.buildSlice t l ps) with
    | none=>simp [hb] at h
    | some p=>
      simp only[hb,Option.map_some,Option.some.injEq,Prod.mk.injEq] at h
      obtain⟨rfl,rfl⟩:=h
      exact .Ga hw (by rw[ho];exact hb)
  ·cases h
 ·rename_i t l c ho
  cases hb:yI N s (.makeSlice t l c) with
  | none=>simp [hb] at h
  | some p=>
    simp only[hb,Option.map_some,Option.some.injEq,Prod.mk.injEq] at h
    obtain⟨rfl,rfl⟩:=h
    exact .mk hw (by rw[ho];exact hb)
 ·rename_i t a x ho
  split at h
  ·rename_i hd
   split at h
   ·rename_i ti id off av v ht ha hx
    split at h
    ·rename_i cells ver' et vs hid hv
     split at h
     ·rename_i hver
      subst hver
      cases hq:Am.kP cells off vs with
      | none=>simp [hq] at h
      | some cells'=>
        simp only[hq,Option.map_some,Option.some.injEq,Prod.mk.injEq] at h
        obtain⟨rfl,rfl⟩:=h
        exact .jE hw ho ht ha hid hx hv hq hd
     ·cases h
    ·cases h
   ·cases h
  ·cases h
 ·rename_i t ho
  split at h
  ·rename_i kt et hu
   cases h
   exact .map hw ho hu
  ·cases h
 ·rename_i t x i y ho
  split at h
  ·rename_i hd
   split at h
   ·rename_i id es kd et k v hm hk hv
    split at h
    ·rename_i hkk
     cases h
     obtain⟨kt,hu,hkd,hx,hid,hmk⟩:=lF hm
     exact .Bg hw ho hu hkd hx hid hk hv hkk hmk hd
    ·cases h
   ·cases h
  ·cases h
 ·rename_i t x i ho
  split at h
  ·rename_i id es kd et k hm hk
   split at h
   ·rename_i z hz
    split at h
    ·rename_i hkk
     cases h
     obtain⟨kt,hu,hkd,hx,hid,hmk⟩:=lF hm
     exact .yB hw ho hu hkd hz hx hid hk hkk hmk rfl
    ·cases h
   ·cases h
  ·cases h
 ·rename_i t x i y ho
  split at h
  ·rename_i hd
   split at h
   ·rename_i id j v hx hi hv
    split at h
    ·rename_i es hid
     split at h
     ·rename_i k u hj
      cases h
      exact .Nr hw ho hx hid hi hv hj hd
     ·cases h
    ·cases h
   ·cases h
  ·cases h
 ·rename_i c ho
  split at h
  ·rename_i hc
   split at h
   ·rename_i x y t t2 hx ht
    have ho':o.op = .call { callee:=.builtin .append,args:=#[x,y],argTypes:=#[t,t2] }:=by
     rw[ho]
     cases c with
     | mk cal a ty=>
       simp only at hc hx ht
       subst hc
       rw[show a=#[x,y] from Array.toList_inj.1 hx,show ty=#[t,t2] from Array.toList_inj.1 ht]
    split at h
    ·rename_i e hu
     split at h
     ·rename_i ti hti
      split at h
      ·rename_i hq
       obtain⟨q1,q2,q3⟩:=hq
       split at h
       ·rename_i cs m hi
        split at h
        ·rename_i hv
         split at h
         ·rename_i hm
          cases h
          exact .za hw ho' hu q1 hti q2 q3 hv hi hm.1 hm.2.1 hm.2.2
         ·cases h
        ·rename_i id av n cp hv
         split at h
         ·rename_i cells ver' et hid
          split at h
          ·rename_i hm
           obtain⟨rfl,rfl,m1,m2,m3⟩:=hm
           cases h
           exact .MC hw ho' hu q1 hti q2 q3 hv hid m1 hi m2 m3
          ·cases h
         ·cases h
        ·cases h
       ·cases h
      ·cases h
     ·cases h
    ·cases h
   ·cases h
  ·rename_i b hb
   cases hv:qN N s o.op with
   | none=>simp [hv] at h
   | some v=>
     simp only[hv,Option.map_some,Option.some.injEq,Prod.mk.injEq] at h
     obtain⟨rfl,rfl⟩:=h
     exact .val hw hv
  ·split at h
   ·rename_i f cap args hcal hargs
    split at h
    ·rename_i hnm
     split at h
     ·rename_i v h' hcall
      cases h
      obtain⟨⟨fn,h1,h2⟩,h3⟩:=hC _ _ _ _ _ hcall
      exact .call hw ho hcal hargs h1 (hn _ _ hnm h1) h2 h3
     ·cases h
    ·cases h
   ·cases h
 ·split at h
  ·rename_i v hv
   cases h
   exact .val hw hv
  ·split at h
   ·rename_i sl off d he hd
    split at h
    ·cases h
    ·rename_i hne
     cases h
     exact .eB hw hd he hne
   ·cases h}
def fU (N:Env) (ops:Array Oper) (L:List (List Nat)) (act:List Nat) (resL:List fT) (hs:List ai) (fr:Fr) (i:Nat) (o:Oper):List Nat→Prop
 | []=>True
 | k :: l=>(fH L act i k=true→One N ops o (dS ops L resL fr (qt hs k) i) (eA resL i) (qt hs (if i∈act then k+1 else k)))∧fU N ops L act resL hs fr i o l
def eK (N:Env) (ops:Array Oper) (L:List (List Nat)) (act:List Nat) (resL:List fT) (hs:List ai) (fr:Fr):Nat→List Oper→Prop
 | _,[]=>True
 | i,o :: l=>fU N ops L act resL hs fr i o (List.range (act.length+1))∧eK N ops L act resL hs fr (i+1) l
theorem fU.at {hs:List ai} {fr:Fr} {i:Nat} {o:Oper}:∀ {l:List Nat} {k:Nat},fU N ops L act resL hs fr i o l→k∈l→fH L act i k=true →
 One N ops o (dS ops L resL fr (qt hs k) i) (eA resL i) (qt hs (if i∈act then k+1 else k))
 | [],_,_,h=>by cases h
 | k' :: l,k,⟨h1,h2⟩,h=>by
   rcases List.mem_cons.1 h with rfl|h
   ·exact h1
   ·exact fU.at h2 h
theorem eK.at {hs:List ai} {fr:Fr}:∀ {l:List Oper} {i j:Nat} {o:Oper},eK N ops L act resL hs fr i l→l[j]? = some o→fU N ops L act resL hs fr (i+j) o (List.range (act.length+1))
 | [],_,_,_,_,h=>by simp at h
 | o' :: l,i,0,o,⟨h1,_⟩,h=>by
   simp only[List.getElem?_cons_zero,Option.some.injEq] at h
   exact h▸h1
 | o' :: l,i,j+1,o,⟨_,h2⟩,h=>by
   have:=eK.at h2 (by simpa using h)
   rwa [show i+1+j=i+(j+1) by omega] at this
def yb (ops:Array Oper) (resL:List fT):Bool:=resL.all fun r=>match r with
 | .ep sl _=>!(dstsOf ops).contains sl
 | _=>true
def gV (ops:Array Oper) (resL:List fT) (fr:Fr):Fr→Prop
 | []=>True
 | (x,v) :: r=>((x∉dstsOf ops∧aX fr x=v)∨aX (iU ops resL (List.range ops.size)) x=v∧v≠.dJ)∧gV ops resL fr r
theorem gV.at {fr:Fr}:∀ {frF:Fr} {p:Nat×gh},gV ops resL fr frF→p∈frF→((∀ j,bt ops j≠some p.1)∧aX fr p.1=p.2)∨∃ j,bt ops j=some p.1∧eA resL j = .sl p.2
 | [],p,_,h=>by cases h
 | (x,v) :: r,p,⟨h1,h2⟩,h=>by
   rcases List.mem_cons.1 h with rfl|h
   ·rcases h1 with ⟨h3,h4⟩ | ⟨h3,h4⟩
    ·exact .inl ⟨fun j hj=>h3 (fZ hj),h4⟩
    ·rcases je (ops:=ops) (resL:=resL) (x:=x) (l:=List.range ops.size) with h|⟨j,k1,_,k3⟩
     ·exact (h4 (h3.symm.trans h)).elim
     ·exact .inr ⟨j,k1,by rw[jS k3,h3]⟩
   ·exact gV.at h2 h
theorem ot {id:Nat} {s:St} {hs:List ai} {frF:Fr} (hm:N.P.follows .mixedOrders=true) (hc:tF ops L act=true) (ha:act.all (fun a=>decide (a<ops.size))=true) (ht:yb ops resL=true) (h0:s.h=qt hs 0) (hS:eK N ops L act resL hs s.fr 0 ops.toList) (hF:gV ops resL s.fr frF):Ev N (.code (.region id ops true) s .normal ⟨frF,[],qt hs act.length⟩):=by{
have C:=oZ hc
refine Ek (res:=eA resL) (Hs:=qt hs) hm C ?_ ?_ (fun a h=>by simpa using List.all_eq_true.1 ha a h) h0 fun p hp=>hF.at hp
·intro j sl off hr i hi
 unfold eA at hr
 cases hj:resL[j]? with
 | none=>simp [hj] at hr
 | some r=>
   simp only[hj,Option.getD_some] at hr
   have:=List.all_eq_true.1 ht r (List.mem_of_getElem? hj)
   rw[hr] at this
   simp only[Bool.not_eq_true',List.contains_eq_mem,decide_eq_false_iff_not] at this
   exact this (fZ hi)
·intro i o k ho hk hst
 have h1:=eK.at (j:=i) hS (by simpa using ho)
 rw[Nat.zero_add] at h1
 exact⟨_,lV C,rfl,h1.at (List.mem_range.2 (by omega)) hst⟩}
end
def RR:Value→Value→Bool
 | .int k a,.int k' b=>decide (k=k')&&decide (a=b)
 | .bool a,.bool b=>decide (a=b)
 | .string a,.string b=>decide (a=b)
 | .pointer p,.pointer q=>decide (p=q)
 | .slice p n c,.slice q m d=>decide (p=q)&&decide (n=m)&&decide (c=d)
 | .map p,.map q=>decide (p=q)
 | .nilFunc,.nilFunc=>true
 | .nilIface,.nilIface=>true
 | _,_=>false
def y0:List Value→List Value→Bool
 | [],[]=>true
 | a :: l,b :: r=>RR a b&&y0 l r
 | _,_=>false
def RY (a b:Value):Bool:=
 match a,b with
 | .func (.func f) xs cs,.func (.func g) ys ds=>decide (f=g)&&y0 xs.toList ys.toList&&y0 cs.toList ds.toList
 | x,y=>RR x y
def wE:List Value→List Value→Bool
 | [],[]=>true
 | a :: l,b :: r=>RY a b&&wE l r
 | _,_=>false
def Ko (a b:Value):Bool:=
 match a,b with
 | .agg xs,.agg ys=>wE xs.toList ys.toList
 | .tuple xs,.tuple ys=>wE xs.toList ys.toList
 | x,y=>RY x y
def Cf:List (Value×Value)→List (Value×Value)→Bool
 | [],[]=>true
 | (k,v) :: l,(k',v') :: r=>Ko k k'&&Ko v v'&&Cf l r
 | _,_=>false
def zD:ai→ai→Bool
 | [],[]=>true
 | .map es :: l,.map es' :: r=>Cf es es'&&zD l r
 | .aq cs v o t :: l,.aq cs' v' o' t' :: r=>wE cs cs'&&decide (v=v')&&decide (o=o')&&decide (t=t')&&zD l r
 | _,_=>false
def Te:gh→gh→Bool
 | .val a,.val b=>Ko a b
 | .nj cs n,.nj cs' n'=>wE cs cs'&&decide (n=n')
 | .dJ,.dJ=>true
 | _,_=>false
def SD:fT→fT→Bool
 | .sl a,.sl b=>Te a b
 | .ep a b,.ep c d=>decide (a=c)&&decide (b=d)
 | _,_=>false
theorem uN {a b:Value} (h:RR a b=true):a=b:=by
 unfold RR at h
 split at h<;>simp_all
theorem mr:∀ {a b:List Value},y0 a b=true→a=b
 | [],[],_=>rfl
 | a :: l,b :: r,h=>by
   simp only[y0,Bool.and_eq_true] at h
   rw[uN h.1,mr h.2]
 | [],_ :: _,h=>by simp [y0] at h
 | _ :: _,[],h=>by simp [y0] at h
theorem ud {a b:Value} (h:RY a b=true):a=b:=by{
unfold RY at h
split at h
·simp only[Bool.and_eq_true,decide_eq_true_eq] at h
 rw[h.1.1,Array.toList_inj.1 (mr h.1.2),Array.toList_inj.1 (mr h.2)]
·exact uN h}
theorem jl:∀ {a b:List Value},wE a b=true→a=b
 | [],[],_=>rfl
 | a :: l,b :: r,h=>by
   simp only[wE,Bool.and_eq_true] at h
   rw[ud h.1,jl h.2]
 | [],_ :: _,h=>by simp [wE] at h
 | _ :: _,[],h=>by simp [wE] at h
theorem jR {a b:Value} (h:Ko a b=true):a=b:=by{
unfold Ko at h
split at h
·rw[Array.toList_inj.1 (jl h)]
·rw[Array.toList_inj.1 (jl h)]
·exact ud h}
theorem ru:∀ {a b:List (Value×Value)},Cf a b=true→a=b
 | [],[],_=>rfl
 | (k,v) :: l,(k',v') :: r,h=>by
   simp only[Cf,Bool.and_eq_true] at h
   rw[jR h.1.1,jR h.1.2,ru h.2]
 | [],_ :: _,h=>by simp [Cf] at h
 | _ :: _,[],h=>by simp [Cf] at h
theorem ig:∀ {a b:ai},zD a b=true→a=b
 | [],[],_=>rfl
 | .map es :: l,.map es' :: r,h=>by
   simp only[zD,Bool.and_eq_true] at h
   rw[ru h.1,ig h.2]
 | .map _ :: _,.aq .. :: _,h=>by simp [zD] at h
 | .aq .. :: _,.map _ :: _,h=>by simp [zD] at h
 | .aq cs v o t :: l,.aq cs' v' o' t' :: r,h=>by
   simp only[zD,Bool.and_eq_true,decide_eq_true_eq] at h
   obtain⟨⟨⟨⟨h1,rfl⟩,rfl⟩,rfl⟩,h2⟩:=h
   rw[jl h1,ig h2]
 | [],_ :: _,h=>by simp [zD] at h
 | _ :: _,[],h=>by simp [zD] at h
theorem CJ {a b:gh} (h:Te a b=true):a=b:=by{
unfold Te at h
split at h
·rw[jR h]
·simp only[Bool.and_eq_true,decide_eq_true_eq] at h
 rw[jl h.1,h.2]
·rfl
·cases h}
theorem BW {a b:fT} (h:SD a b=true):a=b:=by{
unfold SD at h
split at h
·rw[CJ h]
·simp only[Bool.and_eq_true,decide_eq_true_eq] at h
 rw[h.1,h.2]
·cases h}
def qL (o:Oper):Bool:=
 match o.op with
 | .box _ _=>true
 | .alloc _=>true
 | .makeSlice _ _ _=>true
 | .store _ _ _=>true
 | .makeMap _ _=>true
 | .buildSlice _ _ _=>true
 | .mapUpdate _ _ _ _=>true
 | .mapEntry _ _ _=>true
 | .entryStore _ _ _ _=>true
 | .call c=>match c.callee with
   | .builtin .append=>true
   | .builtin _=>false
   | _=>true
 | _=>false
theorem Eb {N:Env} {call:FuncId→List Value→ai→Option (Value×ai)} {nm:FuncId→Bool} {all:Array Oper} {o:Oper} {s:St} {r:fT} {h':ai} (hm:qL o=false) (h:s8 N call nm all o s=some (r,h')):h'=s.h:=by{
unfold s8 at h
unfold qL at hm
split at h
·cases h
·cases h;rfl
·split at h
 all_goals first
  | (rename_i ho;rw[ho] at hm;cases hm;done)
  | skip
 ·rename_i c ho
  rw[ho] at hm
  simp only at hm
  split at h
  ·rename_i hc
   rw[hc] at hm
   cases hm
  ·cases hv:qN N s o.op with
   | none=>simp [hv] at h
   | some v=>
     simp only[hv,Option.map_some,Option.some.injEq,Prod.mk.injEq] at h
     exact h.2.symm
  ·rename_i cal c1 c2
   exfalso
   generalize c.callee=q at *
   cases q with
   | builtin b=>exact c2 b rfl
   | value f=>cases hm
   | invoke a b=>cases hm
 ·split at h
  ·cases h;rfl
  ·split at h
   ·split at h
    ·cases h
    ·cases h;rfl
   ·cases h}
section
variable (N:Env) (call:FuncId→List Value→ai→Option (Value×ai)) (nm:FuncId→Bool) (ops:Array Oper) (L:List (List Nat)) (act:List Nat) (fr:Fr)
def Pz:Nat→List Oper→List fT→List ai→ai→Option (List fT×List ai)
 | _,[],resL,hs,_=>some (resL,hs)
 | i,o :: r,resL,hs,h=>match s8 N call nm ops o (dS ops L resL fr h i) with
   | some (rs,h')=>Pz (i+1) r (resL++[rs]) (if act.contains i then hs++[h'] else hs) h'
   | none=>none
def wt (resL:List fT) (hs:List ai) (i:Nat) (o:Oper):List Nat→Bool
 | []=>true
 | k :: l=>(!fH L act i k||(match s8 N call nm ops o (dS ops L resL fr (qt hs k) i) with
   | some (r,h')=>SD r (eA resL i)&&(if qL o then zD h' (qt hs (if i∈act then k+1 else k)) else !act.contains i)
   | none=>false))&&wt resL hs i o l
def vQ (resL:List fT) (hs:List ai):Nat→List Oper→Bool
 | _,[]=>true
 | i,o :: l=>wt N call nm ops L act fr resL hs i o (List.range (act.length+1))&&vQ resL hs (i+1) l
end
def np (P:Nat→Bool) (g:Fr):Fr→Fr
 | []=>[]
 | (x,_) :: r=>if P x then (match aX g x with
   | .dJ=>np P g r
   | v=>(x,v) :: np P g r) else np P g r
def OD (ops:Array Oper) (resL:List fT) (fr:Fr):Fr:=
 np (fun _=>true) (iU ops resL (List.range ops.size)) (iU ops resL (List.range ops.size))++np (fun x=>!(dstsOf ops).contains x) fr fr
def Jk (N:Env) (call:FuncId→List Value→ai→Option (Value×ai)) (nm:FuncId→Bool) (ops:Array Oper) (L:List (List Nat)) (fr:Fr):Nat→List Oper→List fT→ai→Option (List Nat)
 | _,[],_,_=>some []
 | i,o :: r,resL,h=>match s8 N call nm ops o (dS ops L resL fr h i) with
   | some (rs,h')=>match Jk N call nm ops L fr (i+1) r (resL++[rs]) h' with
     | some l=>some (if qL o then (if zD h h' then l else i :: l) else l)
     | none=>none
   | none=>none
def Sy (N:Env) (call:FuncId→List Value→ai→Option (Value×ai)) (nm:FuncId→Bool) (ops:Array Oper) (s:St):Option St:=
 match Jk N call nm ops (A8 ops) s.fr 0 ops.toList [] s.h with
 | none=>none
 | some act=>match Pz N call nm ops (A8 ops) act s.fr 0 ops.toList [] [s.h] s.h with
   | some (resL,hs)=>
     if tF ops (A8 ops) act&&(act.all fun a=>decide (a<ops.size))&&yb ops resL&&zD s.h (qt hs 0)&&vQ N call nm ops (A8 ops) act s.fr resL hs 0 ops.toList then
      some ⟨OD ops resL s.fr,[],qt hs act.length⟩ else none
   | none=>none
section
variable {N:Env} {call:FuncId→List Value→ai→Option (Value×ai)} {nm:FuncId→Bool} {ops:Array Oper} {L:List (List Nat)} {act:List Nat} {fr:Fr} {resL:List fT} {hs:List ai}
theorem uO (hC:gQ N call) (hn:rO N nm) {i:Nat} {o:Oper}:∀ {l:List Nat},wt N call nm ops L act fr resL hs i o l=true→fU N ops L act resL hs fr i o l
 | [],_=>trivial
 | k :: l,h=>by
   simp only[wt,Bool.and_eq_true,Bool.or_eq_true,Bool.not_eq_true'] at h
   refine⟨fun hst=>?_,uO hC hn h.2⟩
   rcases h.1 with h1|h1
   ·rw[hst] at h1
    cases h1
   ·split at h1
    ·rename_i r h' hr
     simp only[Bool.and_eq_true] at h1
     rw[← BW h1.1]
     have h2:=h1.2
     split at h2
     ·rw[← ig h2]
      exact Fi hC hn hr
     ·rename_i hmt
      have e:=Eb (by simpa using hmt) hr
      have hni:¬ i∈act:=by simpa using h2
      rw[if_neg hni]
      have e':h'=qt hs k:=e
      rw[e'] at hr
      exact Fi hC hn hr
    ·cases h1
theorem tN (hC:gQ N call) (hn:rO N nm):∀ {l:List Oper} {i:Nat},vQ N call nm ops L act fr resL hs i l=true→eK N ops L act resL hs fr i l
 | [],_,_=>trivial
 | o :: l,i,h=>by
   simp only[vQ,Bool.and_eq_true] at h
   exact⟨uO hC hn h.1,tN hC hn h.2⟩
theorem gV.append {fr:Fr}:∀ {a b:Fr},gV ops resL fr a→gV ops resL fr b→gV ops resL fr (a++b)
 | [],_,_,h=>h
 | (_,_) :: _,_,⟨h1,h2⟩,h=>⟨h1,gV.append h2 h⟩
theorem Mv:∀ {l:Fr},gV ops resL fr (np (fun _=>true) (iU ops resL (List.range ops.size)) l)
 | []=>trivial
 | (x,_) :: r=>by
   simp only[np,if_true]
   split
   ·exact Mv
   ·rename_i h
    exact⟨.inr ⟨rfl,h⟩,Mv⟩
theorem HK:∀ {l:Fr},gV ops resL fr (np (fun x=>!(dstsOf ops).contains x) fr l)
 | []=>trivial
 | (x,_) :: r=>by
   simp only[np]
   split
   ·rename_i hx
    split
    ·exact HK
    ·exact⟨.inl ⟨by simpa using hx,rfl⟩,HK⟩
   ·exact HK
theorem JO (hm:N.P.follows .mixedOrders=true) (hC:gQ N call) (hn:rO N nm):LF N (Sy N call nm):=by{
intro id ops s s1 h
unfold Sy at h
split at h
·cases h
·rename_i act hact
 split at h
 ·rename_i resL hs hrun
  split at h
  ·rename_i hc
   simp only[Bool.and_eq_true] at hc
   obtain⟨⟨⟨⟨h1,h0⟩,h2⟩,h3⟩,h4⟩:=hc
   cases h
   exact ot hm h1 h0 h2 (ig h3) (tN hC hn h4) (gV.append Mv HK)
  ·cases h
 ·cases h}
end
def DZ (n:Nat):Value→Bool
 | .pointer (some ⟨id,_,some _⟩)=>decide (id<n)
 | .slice (some ⟨id,_,some _⟩) _ _=>decide (id<n)
 | .map (some id)=>decide (id<n)
 | v=>bf v
def PY (n:Nat):Value→Bool
 | .tuple cs=>cs.toList.all (DZ n)
 | .agg cs=>cs.toList.all (DZ n)
 | v=>DZ n v
theorem my {n:Nat} {v:Value} (h:DZ n v=true):dv n v:=by{
unfold DZ at h
split at h
·exact .ptr (decide_eq_true_eq.mp h)
·exact .slice (decide_eq_true_eq.mp h)
·exact .map (decide_eq_true_eq.mp h)
·exact .bf h}
theorem oQ {n:Nat} {v:Value} (h:PY n v=true):dv n v:=by{
unfold PY at h
split at h
·exact .De fun i u hu=>my (List.all_eq_true.1 h u (Array.mem_toList_iff.2 (Array.mem_of_getElem? hu)))
·exact .agg fun i u hu=>my (List.all_eq_true.1 h u (Array.mem_toList_iff.2 (Array.mem_of_getElem? hu)))
·exact my h}
def NO (n:Nat):ax→Bool
 | .aq cells _ _ _=>cells.all (PY n)
 | .map es=>es.all fun p=>PY n p.2
theorem zH {n:Nat} {o:ax} (h:NO n o=true):Qc n o:=by{
cases o with
| aq cells v o t=>exact fun v hv=>oQ (List.all_eq_true.1 h v hv)
| map es=>exact fun p hp=>oQ (List.all_eq_true.1 h p hp)}
def xQ (n:Nat):ai→ai→Bool
 | [],_=>true
 | _ :: _,[]=>false
 | o :: h,o' :: r=>(zD [o] [o']||NO n o')&&xQ n h r
theorem pi {n:Nat}:∀ {h h':ai},xQ n h h'=true→h.length≤h'.length∧∀ (i:Nat) (o:ax),(h'.take h.length)[i]? = some o→h[i]? = some o∨Qc n o
 | [],h',_=>⟨Nat.zero_le _,fun i o hi=>by simp at hi⟩
 | _ :: _,[],h=>by simp [xQ] at h
 | o :: h,o' :: r,hk=>by
   simp only[xQ,Bool.and_eq_true,Bool.or_eq_true] at hk
   obtain⟨h1,h2⟩:=pi hk.2
   refine⟨by simp only[List.length_cons];omega,fun i q hi=>?_⟩
   cases i with
   | zero=>
     simp only[List.length_cons,List.take_succ_cons,List.getElem?_cons_zero,Option.some.injEq] at hi
     subst hi
     rcases hk.1 with h3|h3
     ·have:=ig h3
      simp only[List.cons.injEq,and_true] at this
      exact .inl (by rw[this];rfl)
     ·exact .inr (zH h3)
   | succ i=>
     simp only[List.length_cons,List.take_succ_cons,List.getElem?_cons_succ] at hi ⊢
     exact h2 i q hi
def SV (h:ai) (r:Value) (h':ai):ai:=if PY h.length r&&xQ h.length h h' then h'.take h.length else h'
theorem BT {N:Env} {f:FuncId} {args:List Value} {h h':ai} {r:Value} (e:Ev N (.call f args h r h')):Ev N (.call f args h r (SV h r h')):=by{
unfold SV
split
·rename_i hc
 rw[Bool.and_eq_true] at hc
 obtain⟨h1,h2⟩:=pi hc.2
 have hl:(h'.take h.length).length=h.length:=by rw[List.length_take];omega
 refine .Ni (g:=h'.drop h.length) (by rw[List.take_append_drop];exact e) (by rw[hl];exact oQ hc.1) (by rw[hl];exact Nat.le_refl _) (by rw[hl];exact h2)
·exact e}
def Ew (N:Env) (nm:FuncId→Bool) (fuel:Nat) (call:FuncId→List Value→ai→Option (Value×ai)) (f:FuncId) (args:List Value) (h:ai):Option (Value×ai):=
 match N.P.funcs[f]? with
 | some fn=>match fn.body with
   | some c=>match N.mb f args h with
    | some p=>some p
    | none=>if ej fn.ntmps c=true∧args.length≤fn.ntmps then (match kI N call nm (Sy N call nm) fuel c ⟨jC args fn.ntmps,[],h⟩ with
     | some (.exit _,_)=>none
     | some (_,s1)=>match sZ N s1 fn.results.toList with
       | some rs=>some (cM rs,SV h (cM rs) s1.h)
       | none=>none
     | none=>none) else none
   | none=>none
 | none=>none
theorem mE {N:Env} {nm:FuncId→Bool} (hm:N.P.follows .mixedOrders=true) (hn:rO N nm) {fuel:Nat} {call:FuncId→List Value→ai→Option (Value×ai)} (hC:gQ N call):gQ N (Ew N nm fuel call):=fun f a h r h' e=>by
 unfold Ew at e
 split at e
 ·rename_i fn hf
  split at e
  ·rename_i c hb
   split at e
   ·rename_i p hp
    cases e
    exact⟨⟨fn,hf,by rw[hb];rfl⟩,.Ms hp⟩
   split at e
   ·rename_i hd
    split at e
    ·cases e
    ·rename_i ex s1 h3 h2
     split at e
     ·rename_i rs hr
      cases e
      refine⟨⟨fn,hf,by rw[hb];rfl⟩,BT (.call hf hb hd.1 hd.2 (yo (JO hm hC hn) hC hn h2) ?_ hr)⟩
      cases ex with
      | normal=>exact .inl rfl
      | ret=>exact .inr rfl
      | exit id=>exact (h3 _ rfl).elim
     ·cases e
    ·cases e
   ·cases e
  ·cases e
 ·cases e
def mZ (N:Env) (nm:FuncId→Bool) (fuel:Nat):Nat→FuncId→List Value→ai→Option (Value×ai)
 | 0,_,_,_=>none
 | d+1,f,args,h=>Ew N nm fuel (mZ N nm fuel d) f args h
theorem k9 {N:Env} {nm:FuncId→Bool} (hm:N.P.follows .mixedOrders=true) (hn:rO N nm) {fuel:Nat}:∀ d,gQ N (mZ N nm fuel d)
 | 0=>fun f a h r h' e=>by cases e
 | d+1=>mE hm hn (k9 hm hn d)
structure Er where
 f:FuncId
 args:List Value
 h:ai
 r:Value
 h':ai
def CV:List Value→List Value→Bool
 | [],[]=>true
 | a :: l,b :: r=>Ko a b&&CV l r
 | _,_=>false
theorem rP:∀ {a b:List Value},CV a b=true→a=b
 | [],[],_=>rfl
 | a :: l,b :: r,h=>by
   simp only[CV,Bool.and_eq_true] at h
   rw[jR h.1,rP h.2]
 | [],_ :: _,h=>by simp [CV] at h
 | _ :: _,[],h=>by simp [CV] at h
def xu (call:FuncId→List Value→ai→Option (Value×ai)):List Er→FuncId→List Value→ai→Option (Value×ai)
 | [],f,args,h=>call f args h
 | m :: l,f,args,h=>if f=m.f then (if CV args m.args&&zD h m.h then some (m.r,m.h') else xu call l f args h) else xu call l f args h
def DN (N:Env) (m:Er):Prop:=(∃ fn,N.P.funcs[m.f]? = some fn∧fn.body.isNone=false)∧Ev N (.call m.f m.args m.h m.r m.h')
theorem xc {N:Env} {call:FuncId→List Value→ai→Option (Value×ai)} (hC:gQ N call):∀ {l:List Er},(∀ m∈l,DN N m)→gQ N (xu call l)
 | [],_=>hC
 | m :: l,hl=>fun f args h r h' e=>by
   have ih:=xc hC fun x hx=>hl x (List.mem_cons_of_mem _ hx)
   simp only[xu] at e
   split at e
   ·rename_i hf
    split at e
    ·rename_i hq
     rw[Bool.and_eq_true] at hq
     cases e
     subst hf
     rw[rP hq.1,ig hq.2]
     exact hl m List.mem_cons_self
    ·exact ih _ _ _ _ _ e
   ·exact ih _ _ _ _ _ e
def Ar (m:Er) (o:Option (Value×ai)):Bool:=match o with
 | some (r,h')=>Ko r m.r&&zD h' m.h'
 | none=>false
theorem rY {N:Env} {call:FuncId→List Value→ai→Option (Value×ai)} (hC:gQ N call) {m:Er} (h:Ar m (call m.f m.args m.h)=true):DN N m:=by{
unfold Ar at h
split at h
·rename_i r h' e
 rw[Bool.and_eq_true] at h
 rw[jR h.1,ig h.2] at e
 exact hC _ _ _ _ _ e
·cases h}
def vw (ops:Array Oper) (L:List (List Nat)) (resL:List fT) (fr0:Fr) (h:ai) (i:Nat):St:=⟨fr0++iU ops resL (fa L i),xr ops resL (fa L i),h⟩
inductive aT (N:Env) (ops:Array Oper) (L:List (List Nat)) (resL:List fT) (fr0:Fr) (h:ai):Nat→List Oper→Prop
 | nil (i:Nat):aT N ops L resL fr0 h i []
 | cons {i:Nat} {o:Oper} {l:List Oper} {r:fT}:One N ops o (vw ops L resL fr0 h i) r h→eA resL i=r→aT N ops L resL fr0 h (i+1) l→aT N ops L resL fr0 h i (o :: l)
section
variable {N:Env} {ops:Array Oper} {L:List (List Nat)} {resL:List fT}
theorem aT.ok {fr:Fr} {h:ai}:∀ {l:List Oper} {i:Nat},aT N ops L resL (ik (dstsOf ops) fr) h i l→eK N ops L [] resL [h] fr i l
 | [],_,_=>trivial
 | o :: l,i,.cons h1 h2 h3=>by
   refine⟨?_,h3.ok⟩
   subst h2
   exact⟨fun _=>h1,trivial⟩
theorem Cy {id:Nat} {s:St} {Q:AX→St→Prop} {h:ai} (L:List (List Nat)) (resL:List fT) (fr0:Fr) (frF:Fr) (hm:N.P.follows .mixedOrders=true) (hc:tF ops L []=true) (ht:yb ops resL=true) (h0:s.h=h) (hb:ik (dstsOf ops) s.fr=fr0) (hS:aT N ops L resL fr0 h 0 ops.toList) (hF:gV ops resL s.fr frF) (k:Q .normal ⟨frF,[],h⟩):CW N (.region id ops true) s Q:=by{
subst hb
unfold CW
exact⟨_,_,ot (hs:=[h]) hm hc rfl ht h0 hS.ok hF,k⟩}
theorem bh {all:Array Oper} {o:Oper} {s:St} {h:ai} {c:Call} {f:FuncId} {cap args:List Value} {fn:Func} {v:Value} (hh:s.h=h) (hw:aD all o s=some true) (ho:o.op = .call c) (hc:fF s c.callee=some (f,cap)) (ha:tx s c.args.toList=some args) (hf:N.P.funcs[f]? = some fn) (hnm:(fn.name == "runtime.NumGoroutine")=false) (hb:fn.body.isNone=false) (k:FW N f (args++cap) h fun r h'=>r=v∧h'=h):One N all o s (.sl (.val v)) h:=by{
unfold FW at k
obtain⟨r,h',k1,rfl,rfl⟩:=k
exact .call hw ho hc ha hf hnm hb (hh▸k1)}
def JU (N:Env) (all:Array Oper) (o:Oper) (s:St):Option (fT×ai):=
 match aD all o s with
 | none=>none
 | some false=>some (.sl (.val (.tuple #[])),s.h)
 | some true=>match o.op,o.dst with
   | .box t x,some _=>(ii N s (.box t x)).map fun p=>(.sl (.box p.2),s.h)
   | .alloc t,some _=>(ii N s (.alloc t)).map fun p=>(.sl (.box p.2),s.h)
   | .buildSlice t l ps,some _=>(jm N s (.buildSlice t l ps)).map fun p=>(.sl (.nj p.2.1 p.2.2),s.h)
   | op,d=>match qN N s op with
     | some v=>some (.sl (.val v),s.h)
     | none=>match wO N s op,d with
       | some (sl,off),some d=>if sl=d then none else some (.ep sl off,s.h)
       | _,_=>none
theorem zz {all:Array Oper} {o:Oper} {s:St} {r:fT} {h:ai} (hs:JU N all o s=some (r,h)):One N all o s r h:=by{
unfold JU at hs
split at hs
·cases hs
·rename_i hw
 cases hs
 exact .skip hw
·rename_i hw
 split at hs
 ·rename_i t x d ho hd
  cases hb:ii N s (.box t x) with
  | none=>simp [hb] at hs
  | some p=>
    simp only[hb,Option.map_some,Option.some.injEq,Prod.mk.injEq] at hs
    obtain⟨rfl,rfl⟩:=hs
    exact .box hw hd (by rw[ho];exact hb)
 ·rename_i t d ho hd
  cases hb:ii N s (.alloc t) with
  | none=>simp [hb] at hs
  | some p=>
    simp only[hb,Option.map_some,Option.some.injEq,Prod.mk.injEq] at hs
    obtain⟨rfl,rfl⟩:=hs
    exact .box hw hd (by rw[ho];exact hb)
 ·rename_i t l ps d ho hd
  cases hb:jm N s (.buildSlice t l ps) with
  | none=>simp [hb] at hs
  | some p=>
    simp only[hb,Option.map_some,Option.some.injEq,Prod.mk.injEq] at hs
    obtain⟨rfl,rfl⟩:=hs
    exact .nj hw hd (by rw[ho];exact hb)
 ·split at hs
  ·rename_i v hv
   cases hs
   exact .val hw hv
  ·split at hs
   ·rename_i sl off d he hd
    split at hs
    ·cases hs
    ·rename_i hne
     cases hs
     exact .eB hw hd he hne
   ·cases hs}
end
attribute [push_cast] JU vw fa iU xr bt eA Option.getD_some Option.getD_none
def xR (P:Program):Nat→List Field→Option Nat
 | o,[]=>some o
 | o,f :: r=>if f.offset=o then xR P (o+P.cellsOf f.type) r else none
def pR (P:Program) (ts:List TypeId) (t:TypeId):Bool:=
 match P.underlying t with
 | some .bool=>true
 | some (.int _)=>true
 | some .string=>true
 | some (.struct fs)=>decide (xR P 0 fs.toList=some (P.cellsOf t))&&fs.toList.all fun f=>ts.contains f.type
 | some (.array n e)=>decide (P.cellsOf t=n*P.cellsOf e)&&ts.contains e
 | some (.slice e)=>decide (0<P.cellsOf e)&&ts.contains e
 | _=>false
def tH (c:Nat) (R:List Value→Prop):Nat→List Value→Prop
 | 0,vs=>vs=[]
 | m+1,vs=>∃ a b,vs=a++b∧a.length=c∧R a∧tH c R m b
def vg (P:Program) (R:TypeId→List Value→Prop):List Field→List Value→Prop
 | [],vs=>vs=[]
 | f :: r,vs=>∃ a b,vs=a++b∧a.length=P.cellsOf f.type∧R f.type a∧vg P R r b
def gG (P:Program) (h:ai):Nat→TypeId→List Value→Prop
 | 0,_,_=>False
 | n+1,t,vs=>match P.underlying t with
   | some .bool=>∃ b,vs=[.bool b]
   | some (.int k)=>∃ i,vs=[.int k i]∧(Lit.int k i).wf=true
   | some .string=>∃ s:ByteArray,vs=[.string s]∧s.size≤reachBytes
   | some (.struct fs)=>vg P (gG P h n) fs.toList vs
   | some (.array m e)=>tH (P.cellsOf e) (gG P h n e) m vs
   | some (.slice e)=>vs=[.slice none 0 0]∨vs=[.slice (some ⟨0,0,none⟩) 0 0] ∨
    ∃ id len c cells,vs=[.slice (some ⟨id,0,some 0⟩) len c]∧len*P.bytesOf e≤reachBytes∧h[id]? = some (.aq cells 0 false e)∧tH (P.cellsOf e) (gG P h n e) len cells
   | _=>False
theorem tH.mono {c:Nat} {R R':List Value→Prop} (k:∀ vs,R vs→R' vs):∀ {m:Nat} {vs:List Value},tH c R m vs→tH c R' m vs
 | 0,_,h=>h
 | _+1,_,⟨a,b,h1,h2,h3,h4⟩=>⟨a,b,h1,h2,k _ h3,tH.mono k h4⟩
theorem vg.mono {P:Program} {R R':TypeId→List Value→Prop} (k:∀ t vs,R t vs→R' t vs):∀ {l:List Field} {vs:List Value},vg P R l vs→vg P R' l vs
 | [],_,h=>h
 | _ :: _,_,⟨a,b,h1,h2,h3,h4⟩=>⟨a,b,h1,h2,k _ _ h3,vg.mono k h4⟩
theorem Ib {h h':ai} (hp:h <+: h') {i:Nat} {x:ax} (hx:h[i]? = some x):h'[i]? = some x:=by{
obtain⟨t,rfl⟩:=hp
rw[List.getElem?_append_left (List.getElem?_eq_some_iff.1 hx).1]
exact hx}
theorem gG.mono {P:Program} {h h':ai} (hp:h <+: h'):∀ {n:Nat} {t:TypeId} {vs:List Value},gG P h n t vs→gG P h' n t vs
 | 0,_,_,k=>k
 | n+1,t,vs,k=>by
   unfold gG at k ⊢
   split at k
   ·exact k
   ·exact k
   ·exact k
   ·exact k.mono fun t vs h=>gG.mono hp h
   ·exact k.mono fun vs h=>gG.mono hp h
   ·rcases k with k|k|⟨id,len,c,cells,k1,k2,k3,k4⟩
    ·exact .inl k
    ·exact .inr (.inl k)
    ·exact .inr (.inr ⟨id,len,c,cells,k1,k2,Ib hp k3,k4.mono fun vs h=>gG.mono hp h⟩)
   ·exact k
section
variable {P:Program} {W:World} {μ μ':Mu} {h h':ai}
def mf (h:ai):Prop:=∀ (id:Nat) (o:ax),h[id]? = some o→o.own=false
theorem dF.Jn (hx:eS μ μ'):∀ {a a':List Value},dF P μ a a'→dF P μ' a a'
 | [],[],_=>trivial
 | _ :: _,_ :: _,⟨h1,h2⟩=>⟨h1.mono hx,dF.Jn hx h2⟩
 | [],_ :: _,k=>k.elim
 | _ :: _,[],k=>k.elim
theorem b8.OV (H:b8 P μ h W) (hn:mf h) {cells:List Value} {m:M} (hc:∀ (j:Nat) (v:Value),cells[j]? = some v→∃ v',W.cell? ⟨m.block,m.base+j,none⟩=some v'∧VR P μ v v') (h1:cells.all one=true) (hb:m.block<W.heap.size) : b8 P (μ++[[m]]) (h++[.aq cells 0 false m.et]) W∧mf (h++[.aq cells 0 false m.et])∧eS μ (μ++[[m]])∧fO (μ++[[m]]) h.length 0=some m:=by{
have hx:eS μ (μ++[[m]]):=fun id l hl=>⟨[],by rw[List.getElem?_append_left (List.getElem?_eq_some_iff.1 hl).1,List.append_nil];exact hl⟩
have hnew:mf (h++[.aq cells 0 false m.et]):=by
 intro id o ho
 rcases gd ho with ⟨_,ho'⟩ | ⟨rfl,rfl⟩
 ·exact hn _ _ ho'
 ·rfl
refine⟨⟨by simp [H.len],?_,?_⟩,hnew,hx,?_⟩
·intro id o ho
 rcases gd ho with ⟨hi,ho'⟩ | ⟨rfl,rfl⟩
 ·obtain⟨q,hq⟩:=H.ob _ _ ho'
  exact⟨q,hq.mono hx (List.getElem?_append_left (by rw[H.len];exact hi)) (Nat.le_refl _) rfl⟩
 ·refine⟨m,⟨[m],by rw[← H.len];simp,rfl,rfl⟩,rfl,fun j v hj=>?_,h1,hb,fun e=>by cases e⟩
  obtain⟨v',k1,k2⟩:=hc j v hj
  exact⟨v',k1,k2.mono hx⟩
·intro id1 id2 o1 o2 m1 m2 _ g1 _ ho
 have:=hnew _ _ g1
 rw[ho] at this
 cases this
·unfold fO
 rw[← H.len]
 simp}
def eg (P:Program) (W:World) (R:ai→List Value→Prop) (cs:List Value):Prop:=
 ∀ μ h,b8 P μ h W→mf h→∃ μ' h' vs,h <+: h'∧eS μ μ'∧b8 P μ' h' W∧mf h'∧dF P μ' vs cs∧vs.all one=true∧R h' vs
def A5 (R:ai→List Value→Prop):Prop:=∀ (h h':ai) (vs:List Value),h <+: h'→R h vs→R h' vs
theorem eg.nil {R:ai→List Value→Prop} (hR:∀ h,R h []):eg P W R []:=fun μ h H hn=>⟨μ,h,[],List.prefix_refl _,eS.refl _,H,hn,trivial,rfl,hR h⟩
theorem eg.pure {R:ai→List Value→Prop} {v v':Value} (hv:∀ μ,VR P μ v v') (h1:one v=true) (hR:∀ h,R h [v]):eg P W R [v']:=
 fun μ h H hn=>⟨μ,h,[v],List.prefix_refl _,eS.refl _,H,hn,⟨hv μ,trivial⟩,by simp [h1],hR h⟩
theorem eg.append {R1 R2 R:ai→List Value→Prop} (g1:A5 R1) {c1 c2:List Value} (k1:eg P W R1 c1) (k2:eg P W R2 c2) (hR:∀ h a b,a.length=c1.length→R1 h a→R2 h b→R h (a++b)):eg P W R (c1++c2):=by{
intro μ h H hn
obtain⟨μ1,h1,a,p1,x1,H1,n1,v1,o1,r1⟩:=k1 μ h H hn
obtain⟨μ2,h2,b,p2,x2,H2,n2,v2,o2,r2⟩:=k2 μ1 h1 H1 n1
refine⟨μ2,h2,a++b,p1.trans p2,x1.trans x2,H2,n2,(v1.Jn x2).append v2,by rw[List.all_append,o1,o2];rfl,hR h2 a b v1.length (g1 _ _ _ p2 r1) r2⟩}
theorem eg.es {R:ai→List Value→Prop} (g:A5 R) {c:Nat}:∀ {l:List (List Value)},(∀ cs∈l,cs.length=c∧eg P W R cs)→eg P W (fun h vs=>tH c (R h) l.length vs) l.flatten
 | [],_=>eg.nil fun _=>rfl
 | cs :: l,k=>by
   rw[List.flatten_cons]
   have hk:=k cs List.mem_cons_self
   exact eg.append (R1:=R) (R2:=fun h vs=>tH c (R h) l.length vs) g hk.2 (eg.es g fun cs h=>k cs (List.mem_cons_of_mem _ h)) fun h a b ha h1 h2=>⟨a,b,rfl,ha.trans hk.1,h1,h2⟩
theorem Fj {P:Program}:∀ {l:List Field} {o n:Nat},xR P o l=some n→o≤n
 | [],o,n,h=>by
   simp only[xR,Option.some.injEq] at h
   omega
 | f :: l,o,n,h=>by
   simp only[xR] at h
   split at h
   ·have:=Fj h
    omega
   ·cases h
theorem eg.fs {R:ai→TypeId→List Value→Prop} (g:∀ t,A5 fun h vs=>R h t vs) {cs:List Value}:∀ {l:List Field} {o:Nat},xR P o l=some cs.length →
 (∀ f∈l,eg P W (fun h vs=>R h f.type vs) ((cs.drop f.offset).take (P.cellsOf f.type)))→eg P W (fun h vs=>vg P (R h) l vs) (cs.drop o)
 | [],o,hc,_=>by
   simp only[xR,Option.some.injEq] at hc
   rw[List.drop_of_length_le (by omega)]
   exact eg.nil fun _=>rfl
 | f :: l,o,hc,k=>by
   simp only[xR] at hc
   split at hc
   ·rename_i ho
    have h1:=k f List.mem_cons_self
    rw[ho] at h1
    have h2:=eg.fs g hc fun f' hf=>k f' (List.mem_cons_of_mem _ hf)
    have hle:o+P.cellsOf f.type≤cs.length:=Fj hc
    have e:cs.drop o=(cs.drop o).take (P.cellsOf f.type)++cs.drop (o+P.cellsOf f.type):=by
     rw[← List.drop_drop,List.take_append_drop]
    rw[e]
    refine eg.append (R1:=fun h vs=>R h f.type vs) (R2:=fun h vs=>vg P (R h) l vs) (g f.type) h1 h2 fun h a b ha k1 k2=>⟨a,b,rfl,?_,k1,k2⟩
    rw[ha,List.length_take,List.length_drop]
    omega
   ·cases hc
theorem j7 {H:Type}:∀ {ts:List TypeId} {ds:List (DataW H)},(DataW.weightsEach P ts ds).all (fun b=>decide (b≤reachBytes))=true→∀ (i:Nat) (t:TypeId) (d:DataW H),ts[i]? = some t→ds[i]? = some d→(d.weights P t).all (fun b=>decide (b≤reachBytes))=true
 | [],_,_,i,t,d,h,_=>by simp at h
 | _ :: _,[],_,i,t,d,_,h=>by simp at h
 | t :: ts,d :: ds,k,i,t',d',h1,h2=>by
   unfold DataW.weightsEach at k
   rw[List.all_append,Bool.and_eq_true] at k
   cases i with
   | zero=>
     simp only[List.getElem?_cons_zero,Option.some.injEq] at h1 h2
     subst h1
     subst h2
     exact k.1
   | succ i=>exact j7 k.2 i t' d' (by simpa using h1) (by simpa using h2)
theorem lx {H:Type} {e:TypeId}:∀ {ds:List (DataW H)},(DataW.weightsAll P e ds).all (fun b=>decide (b≤reachBytes))=true→∀ d∈ds,(d.weights P e).all (fun b=>decide (b≤reachBytes))=true
 | [],_,d,h=>by cases h
 | d :: ds,k,d',h=>by
   unfold DataW.weightsAll at k
   rw[List.all_append,Bool.and_eq_true] at k
   rcases List.mem_cons.1 h with rfl|h
   ·exact k.1
   ·exact lx k.2 d' h
theorem chunks_flatten {c:Nat}:∀ {m:Nat} {cs:List Value},cs.length=m*c→((List.range m).map fun i=>(cs.drop (i*c)).take c).flatten=cs
 | 0,cs,h=>by
   rw[Nat.zero_mul] at h
   simp [List.eq_nil_of_length_eq_zero h]
 | m+1,cs,h=>by
   rw[Nat.succ_mul] at h
   have ih:=chunks_flatten (c:=c) (m:=m) (cs:=cs.drop c) (by rw[List.length_drop];omega)
   rw[List.range_succ_eq_map,List.map_cons,List.map_map,List.flatten_cons,Nat.zero_mul,List.drop_zero]
   have e:((fun i=>(cs.drop (i*c)).take c) ∘ Nat.succ)=fun i=>((cs.drop c).drop (i*c)).take c:=by
    funext i
    simp only[Function.comp,List.drop_drop,Nat.succ_mul]
    rw[Nat.add_comm]
   rw[e,ih,List.take_append_drop]
theorem l9 {b c:Nat}:∀ {l:List (List Value)} {o:Nat},(∀ (i:Nat) (cs:List Value),l[i]? = some cs→cs.length=c∧∀ r,r<c→W.cell? ⟨b,o+i*c+r,none⟩=cs[r]?) →
 ∀ (j:Nat) (v:Value),l.flatten[j]? = some v→W.cell? ⟨b,o+j,none⟩=some v
 | [],o,_,j,v,h=>by simp at h
 | cs :: l,o,k,j,v,h=>by
   obtain⟨h1,h2⟩:=k 0 cs rfl
   rw[List.flatten_cons] at h
   rcases Nat.lt_or_ge j cs.length with hj|hj
   ·rw[List.getElem?_append_left hj] at h
    have:=h2 j (by omega)
    rw[Nat.zero_mul,Nat.add_zero] at this
    rw[this,h]
   ·rw[List.getElem?_append_right hj] at h
    have ih:=l9 (b:=b) (c:=c) (l:=l) (o:=o+c) (fun i cs' hi=>by
     obtain⟨q1,q2⟩:=k (i+1) cs' (by simpa using hi)
     refine⟨q1,fun r hr=>?_⟩
     rw[← q2 r hr,Nat.succ_mul]
     congr 2
     omega) (j-cs.length) v h
    rw[← ih]
    congr 2
    omega
theorem wL {n:Nat} {t:TypeId}:A5 fun h vs=>gG P h n t vs:=fun _ _ _ hp k=>k.mono hp
theorem kw {H:Type} {enc:TypeId×Value→H} {held:Bool} {ts:List TypeId} (hcl:ts.all (pR P ts)=true):∀ (n:Nat) (t:TypeId) (cs:List Value) (x:DataW H×List MemPlace),t∈ts →
 DataW.trod enc P W 0 (fun _=>true) held n t cs=some x→(x.1.weights P t).all (fun b=>decide (b≤reachBytes))=true→eg P W (fun h vs=>gG P h n t vs) cs
 | 0,t,cs,x,_,h,_=>by simp [DataW.trod] at h
 | n+1,t,cs,x,ht,h,hw=>by
   have hk:=List.all_eq_true.1 hcl t ht
   unfold pR at hk
   split at hk
   ·rename_i hu
    obtain⟨b,rfl,_⟩:=DataW.trod_bool hu h
    exact eg.pure (v:=.bool b) (fun _=>.pure rfl) rfl fun h=>by unfold gG;rw[hu];exact⟨b,rfl⟩
   ·rename_i k hu
    obtain⟨i,rfl,_,hwf⟩:=DataW.trod_int hu h
    exact eg.pure (v:=.int k i) (fun _=>.pure rfl) rfl fun h=>by unfold gG;rw[hu];exact⟨i,rfl,hwf⟩
   ·rename_i hu
    obtain⟨s,rfl,rfl,_⟩:=DataW.trod_string hu h
    refine eg.pure (v:=.string s) (fun _=>.pure rfl) rfl fun h=>?_
    unfold gG
    rw[hu]
    refine⟨s,rfl,?_⟩
    unfold DataW.weights at hw
    simpa using hw
   ·rename_i fs hu
    rw[Bool.and_eq_true,decide_eq_true_eq,List.all_eq_true] at hk
    obtain⟨xs,n',hn',rfl,hlen,hxl,hf⟩:=DataW.trod_struct hu h
    obtain rfl:n'=n:=by omega
    unfold DataW.weights at hw
    rw[hu] at hw
    simp only at hw
    have key:=eg.fs (P:=P) (W:=W) (R:=fun h t vs=>gG P h n' t vs) (fun t=>wL) (cs:=cs) (l:=fs.toList) (o:=0) (by rw[hlen];exact hk.1) (fun f hfm=>by
     obtain⟨i,hi,rfl⟩:=List.mem_iff_getElem.1 hfm
     have hfi:fs[i]? = some fs.toList[i]:=by simp
     have h1:=hf i _ hfi
     have hix:i<xs.length:=by rw[hxl];simpa using hi
     rw[List.getElem?_eq_getElem hix] at h1
     refine kw hcl n' _ _ _ (by simpa using hk.2 _ (List.getElem_mem hi)) h1 ?_
     exact j7 hw i _ _ (by rw[List.getElem?_map,List.getElem?_eq_getElem hi];rfl) (by simp [hix]))
    rw[List.drop_zero] at key
    intro μ h H hn
    obtain⟨μ',h',vs,a1,a2,a3,a4,a5,a6,a7⟩:=key μ h H hn
    exact⟨μ',h',vs,a1,a2,a3,a4,a5,a6,by unfold gG;rw[hu];exact a7⟩
   ·rename_i m e hu
    rw[Bool.and_eq_true,decide_eq_true_eq] at hk
    obtain⟨xs,n',hn',rfl,hlen,hxl,hf⟩:=DataW.trod_array hu h
    obtain rfl:n'=n:=by omega
    unfold DataW.weights at hw
    rw[hu] at hw
    simp only at hw
    have hcs:cs.length=m*P.cellsOf e:=hlen.trans hk.1
    have key:=eg.es (P:=P) (W:=W) (R:=fun h vs=>gG P h n' e vs) wL (c:=P.cellsOf e) (l:=(List.range m).map fun i=>(cs.drop (i*P.cellsOf e)).take (P.cellsOf e)) (fun cs' hm=>by
     rw[List.mem_map] at hm
     obtain⟨i,hi,rfl⟩:=hm
     rw[List.mem_range] at hi
     have h1:=hf i hi
     have hix:i<xs.length:=by rw[hxl];exact hi
     rw[List.getElem?_eq_getElem hix] at h1
     refine⟨?_,kw hcl n' _ _ _ (by simpa using hk.2) h1 (lx hw _ (List.mem_map.2 ⟨_,List.getElem_mem hix,rfl⟩))⟩
     rw[List.length_take,List.length_drop,hcs]
     have:(i+1)*P.cellsOf e≤m*P.cellsOf e:=Nat.mul_le_mul_right _ hi
     rw[Nat.succ_mul] at this
     omega)
    rw[chunks_flatten hcs,List.length_map,List.length_range] at key
    intro μ h H hn
    obtain⟨μ',h',vs,a1,a2,a3,a4,a5,a6,a7⟩:=key μ h H hn
    exact⟨μ',h',vs,a1,a2,a3,a4,a5,a6,by unfold gG;rw[hu];exact a7⟩
   ·rename_i e hu
    rw[Bool.and_eq_true,decide_eq_true_eq] at hk
    rcases DataW.trod_slice hu h with ⟨rfl,_⟩ | ⟨a,len,cap,elems,rest,n',hn',rfl,rfl,_,hlc,hcm,hel,hf,hsp,_⟩
    ·exact eg.pure (v:=.slice none 0 0) (fun _=>.pure rfl) rfl fun h=>by unfold gG;rw[hu];exact .inl rfl
    obtain rfl:n'=n:=by omega
    obtain⟨hrl,hr⟩:=hsp rfl
    unfold DataW.weights at hw
    rw[hu] at hw
    simp only[List.all_cons,List.all_append,Bool.and_eq_true,decide_eq_true_eq,List.length_map] at hw
    obtain⟨hw1,hw2,_⟩:=hw
    by_cases hcap:cap=0
    ·subst hcap
     obtain rfl:len=0:=by omega
     exact eg.pure (v:=.slice (some ⟨0,0,none⟩) 0 0) (fun _=>.fp) rfl fun h=>by unfold gG;rw[hu];exact .inr (.inl rfl)
    have hcell:∃ cs',W.cells? 0 (a.add 0) (P.cellsOf e)=some cs':=by
     by_cases hl0:0<len
     ·have:=hf 0 hl0
      rw[List.getElem?_eq_getElem (by omega),Nat.zero_mul,Option.bind_eq_some_iff] at this
      obtain⟨cs',h1,_⟩:=this
      exact⟨cs',h1⟩
     ·have:=hr 0 (by omega)
      obtain rfl:len=0:=by omega
      rw[List.getElem?_eq_getElem (by omega),Nat.zero_add,Nat.zero_mul,Option.bind_eq_some_iff] at this
      obtain⟨cs',h1,_⟩:=this
      exact⟨cs',h1⟩
    obtain⟨hspot,hblk⟩:a.spot=none∧a.block<W.heap.size:=by
     obtain⟨cs',h1⟩:=hcell
     obtain⟨_,h2,h3⟩:=World.cells?_some h1
     have h4:=h3 0 hk.1
     rw[List.getElem?_eq_getElem (by omega)] at h4
     obtain⟨ab,ao,asp⟩:=a
     cases asp with
     | none=>
       refine⟨rfl,?_⟩
       rcases Nat.lt_or_ge ab W.heap.size with h5|h5
       ·exact h5
       ·simp [World.cell?,Addr.add,Array.getElem?_eq_none h5] at h4
     | some sp=>
       exfalso
       unfold World.cell? at h4
       split at h4
       ·simp [Addr.add] at h4
       ·cases h4
    obtain⟨ab,ao,asp⟩:=a
    simp only at hspot hblk
    subst hspot
    have hget:∀ i,i<len→∃ cs',W.cells? 0 ⟨ab,ao+i*P.cellsOf e,none⟩ (P.cellsOf e)=some cs'∧∃ y∈elems,DataW.trod enc P W 0 (fun _=>true) held n' e cs'=some y:=fun i hi=>by
     have:=hf i hi
     rw[List.getElem?_eq_getElem (by omega),Option.bind_eq_some_iff] at this
     obtain⟨cs',h1,h2⟩:=this
     rw[Addr.add_lit] at h1
     exact⟨cs',h1,_,List.getElem_mem _,h2⟩
    have key:=eg.es (P:=P) (W:=W) (R:=fun h vs=>gG P h n' e vs) wL (c:=P.cellsOf e) (l:=(List.range len).map fun i=>(W.cells? 0 ⟨ab,ao+i*P.cellsOf e,none⟩ (P.cellsOf e)).getD []) (fun cs' hm=>by
     rw[List.mem_map] at hm
     obtain⟨i,hi,rfl⟩:=hm
     rw[List.mem_range] at hi
     obtain⟨cs',h1,y,hy,h2⟩:=hget i hi
     rw[h1]
     exact⟨(World.cells?_some h1).2.1,kw hcl n' _ _ _ (by simpa using hk.2) h2 (lx hw2 _ (List.mem_map.2 ⟨_,hy,rfl⟩))⟩)
    rw[List.length_map,List.length_range] at key
    intro μ h H hn
    obtain⟨μ',h',vs,a1,a2,a3,a4,a5,a6,a7⟩:=key μ h H hn
    have hfl:=l9 (W:=W) (b:=ab) (c:=P.cellsOf e) (l:=(List.range len).map fun i=>(W.cells? 0 ⟨ab,ao+i*P.cellsOf e,none⟩ (P.cellsOf e)).getD []) (o:=ao) (fun i cs' hi=>by
     rw[List.getElem?_map] at hi
     have hil:i<len:=by
      rcases Nat.lt_or_ge i len with h5|h5
      ·exact h5
      ·simp [List.getElem?_eq_none (l:=List.range len) (by simpa using h5)] at hi
     rw[List.getElem?_eq_getElem (by simpa using hil),Option.map_some,List.getElem_range,Option.some.injEq] at hi
     subst hi
     obtain⟨cs',h1,_⟩:=hget i hil
     rw[h1]
     obtain⟨_,q1,q2⟩:=World.cells?_some h1
     refine⟨q1,fun r hr=>?_⟩
     have:=q2 r hr
     rwa [Addr.add_lit] at this)
    obtain⟨b1,b2,b3,b4⟩:=a3.OV a4 (cells:=vs) (m:=⟨ab,ao,cap*P.cellsOf e,e⟩) (fun j v hj=>by
     obtain⟨v',k1,k2⟩:=a5.get hj
     exact⟨v',hfl j v' k1,k2⟩) a6 hblk
    refine⟨_,_,[.slice (some ⟨h'.length,0,some 0⟩) len len],a1.trans ⟨_,rfl⟩,a2.trans b3,b1,b2,⟨?_,trivial⟩,rfl,?_⟩
    ·have hv:=VR.slice (P:=P) (c:=len) (len:=len) (cap:=cap) (off:=0) b4 hlc hcm (by simp)
     simpa using hv
    ·unfold gG
     rw[hu]
     refine .inr (.inr ⟨h'.length,len,len,vs,rfl,?_,by simp,a7.mono fun vs k=>k.mono ⟨_,rfl⟩⟩)
     have:len*P.bytesOf e≤(elems.length+rest.length)*P.bytesOf e:=Nat.mul_le_mul_right _ (by omega)
     omega
   ·cases hk
end
def FN (P:Nat→Prop):List Nat→Prop
 | []=>True
 | a :: l=>P a∧FN P l
theorem FN.mem {P:Nat→Prop}:∀ {l:List Nat},FN P l→∀ k∈l,P k
 | [],_,k,h=>by cases h
 | a :: l,⟨h1,h2⟩,k,h=>by
   rcases List.mem_cons.1 h with rfl|h
   ·exact h1
   ·exact FN.mem h2 k h
def UW (L:List (List Nat)) (act:List Nat) (i:Nat):List Nat:=(List.range (act.length+1)).filter (fH L act i)
def Lj (act:List Nat) (i k:Nat):Nat:=if act.contains i then k+1 else k
inductive az (N:Env) (ops:Array Oper) (L:List (List Nat)) (act:List Nat) (resL:List fT) (hs:List ai) (fr0:Fr):Nat→List Oper→Prop
 | nil (i:Nat):az N ops L act resL hs fr0 i []
 | cons {i:Nat} {o:Oper} {l:List Oper} {r:fT} (ks:List Nat):UW L act i=ks→FN (fun k=>One N ops o (vw ops L resL fr0 (qt hs k) i) r (qt hs (Lj act i k))) ks→eA resL i=r→az N ops L act resL hs fr0 (i+1) l→az N ops L act resL hs fr0 i (o :: l)
section
variable {N:Env} {ops:Array Oper} {L:List (List Nat)} {act:List Nat} {resL:List fT} {hs:List ai}
theorem fU.of {fr:Fr} {i:Nat} {o:Oper}:∀ {l:List Nat},(∀ k∈l,fH L act i k=true→One N ops o (dS ops L resL fr (qt hs k) i) (eA resL i) (qt hs (if i∈act then k+1 else k)))→fU N ops L act resL hs fr i o l
 | [],_=>trivial
 | k :: l,h=>⟨h k List.mem_cons_self,fU.of fun k' hk=>h k' (List.mem_cons_of_mem _ hk)⟩
theorem az.ok {fr:Fr}:∀ {l:List Oper} {i:Nat},az N ops L act resL hs (ik (dstsOf ops) fr) i l→eK N ops L act resL hs fr i l
 | [],_,_=>trivial
 | o :: l,i,.cons ks h0 h1 h2 h3=>by
   refine⟨fU.of fun k hk hb=>?_,h3.ok⟩
   have:=h1.mem k (by rw[← h0];exact List.mem_filter.2 ⟨hk,hb⟩)
   subst h2
   unfold Lj at this
   simp only[List.contains_iff_mem] at this
   exact this
theorem Cb {id:Nat} {s:St} {Q:AX→St→Prop} (L:List (List Nat)) (act:List Nat) (hs:List ai) (resL:List fT) (fr0:Fr) (frF:Fr) (hE:ai) (hm:N.P.follows .mixedOrders=true) (hc:tF ops L act=true) (ha:act.all (fun a=>decide (a<ops.size))=true) (ht:yb ops resL=true) (h0:s.h=qt hs 0) (hl:qt hs act.length=hE) (hb:ik (dstsOf ops) s.fr=fr0) (hS:az N ops L act resL hs fr0 0 ops.toList) (hF:gV ops resL s.fr frF) (k:Q .normal ⟨frF,[],hE⟩):CW N (.region id ops true) s Q:=by{
subst hb
subst hl
unfold CW
exact⟨_,_,ot (hs:=hs) hm hc ha ht h0 hS.ok hF,k⟩}
end
attribute [push_cast] qt Lj
end Go.Proofs.YtmdmimkbpikmoaaGreat.Am
namespace Go.Proofs.YtmdmimkbpikmoaaGreat.Am
open Go.RowKit Go.MapKept
inductive Sh where
 | sO (k:IntKind)
 | x7
 | mL
 | oh
 deriving DecidableEq
def Sh.sz:Sh→Nat
 | .oh=>4
 | _=>1
def Sh.ok:Sh→List Value→Bool
 | .sO k,[.int k' _]=>decide (k=k')
 | .x7,[.bool _]=>true
 | .mL,[.string _]=>true
 | .oh,[.int .u64 _,.int .u64 _,.int .u64 _,.int .u64 _]=>true
 | _,_=>false
def mq:List Sh→List Value→Bool
 | [],l=>l.isEmpty
 | s :: r,l=>s.ok (l.take s.sz)&&mq r (l.drop s.sz)
def Sh.val:Sh→List Value→Value
 | .oh,l=>.agg l.toArray
 | _,l=>l.headD .nilFunc
def Ce (P:Program) (t:TypeId):Option Sh:=
 match P.underlying t with
 | some (.int k)=>some (.sO k)
 | some .bool=>some .x7
 | some .string=>some .mL
 | some (.array 4 e)=>match P.underlying e,P.info? t,P.info? e with
   | some (.int .u64),some i,some j=>if i.size=4∧j.size=1 then some .oh else none
   | _,_,_=>none
 | _=>none
def mi (P:Program):List Field→Nat→List Sh→Bool
 | [],_,[]=>true
 | f :: fs,off,s :: r=>decide (Ce P f.type=some s)&&decide (f.offset=off)&&(f.name != "_")&&mi P fs (off+s.sz) r
 | _,_,_=>false
def fX (P:Program) (t:TypeId) (l:List Sh):Bool:=
 match P.underlying t with
 | some (.struct fs)=>mi P fs.toList 0 l && !P.stoodInHeld t && !P.eqGuardType P.depth t
 | _=>false
theorem vV (n m:ByteArray):(n == m)=decide (n=m):=by{
cases n with
| mk a=>
cases m with
| mk b=>
have h:((⟨a⟩:ByteArray) == ⟨b⟩)=(a == b):=rfl
rw[h]
by_cases e:a=b
·subst e
 simp
·rw[decide_eq_false (fun k=>e (by injection k)),beq_eq_false_iff_ne]
 exact e}
section
variable {P:Program} {w:World}
theorem ml {t:TypeId} {s:Sh} (h:Ce P t=some s):(∃ k,s = .sO k∧P.underlying t=some (.int k))∨(s = .x7∧P.underlying t=some .bool)∨(s = .mL∧P.underlying t=some .string) ∨ (s = .oh∧∃ e i j,P.underlying t=some (.array 4 e)∧P.underlying e=some (.int .u64)∧P.info? t=some i∧P.info? e=some j∧i.size=4∧j.size=1):=by{
unfold Ce at h
split at h
·rename_i k hu
 cases h
 exact .inl ⟨k,rfl,hu⟩
·rename_i hu
 cases h
 exact .inr (.inl ⟨rfl,hu⟩)
·rename_i hu
 cases h
 exact .inr (.inr (.inl ⟨rfl,hu⟩))
·rename_i e hu
 split at h
 ·rename_i i j he hi hj
  split at h
  ·rename_i hq
   cases h
   exact .inr (.inr (.inr ⟨rfl,e,i,j,hu,he,hi,hj,hq.1,hq.2⟩))
  ·cases h
 ·cases h
·cases h}
theorem Sh.sr {s:Sh} {l:List Value} (h:s.ok l=true):l.length=s.sz:=by
 unfold Sh.ok at h
 split at h<;>first|rfl|cases h
theorem mG {l:List Value} (h:Sh.oh.ok l=true):∃ a b c d,l=[.int .u64 a,.int .u64 b,.int .u64 c,.int .u64 d]:=by{
unfold Sh.ok at h
split at h<;>first|cases h|skip
all_goals first|exact⟨_,_,_,_,rfl⟩ | (rename_i hq;cases hq;done) | (rename_i h1 h2;cases h1;done) | skip}
theorem wT {k:IntKind} {l:List Value} (h:(Sh.sO k).ok l=true):∃ a,l=[.int k a]:=by{
match l,h with
| [.int k' a],h=>
  have:k=k':=by simpa [Sh.ok] using h
  exact⟨a,by rw[this]⟩}
theorem ym {l:List Value} (h:Sh.x7.ok l=true):∃ a,l=[.bool a]:=by
 match l,h with
 | [.bool a],_=>exact⟨a,rfl⟩
theorem xG {l:List Value} (h:Sh.mL.ok l=true):∃ a,l=[.string a]:=by
 match l,h with
 | [.string a],_=>exact⟨a,rfl⟩
theorem jL {t:TypeId} {d:TypeDesc} (hu:P.underlying t=some d) (hd:d = .bool∨d = .string∨∃ k,d = .int k):P.plainKey t=true:=by{
unfold Program.plainKey
rw[hu]
rcases hd with rfl|rfl|⟨k,rfl⟩<;>rfl}
theorem xM {l:List Value} {xs:Array Value} {off:Nat} (h:(xs.toList.drop off).take l.length=l):∀ (j:Nat) (v:Value),l[j]? = some v→xs[off+j]? = some v:=fun j v hj=>by
 have hlt:=(List.getElem?_eq_some_iff.1 hj).1
 have:((xs.toList.drop off).take l.length)[j]? = some v:=by rw[h];exact hj
 rw[List.getElem?_take_of_lt hlt,List.getElem?_drop] at this
 simpa using this
theorem wu {t:TypeId} {s:Sh} (hs:Ce P t=some s) {xs:Array Value} {off:Nat} (hok:s.ok ((xs.toList.drop off).take s.sz)=true):(part t xs off).run P w = .ok (s.val ((xs.toList.drop off).take s.sz)) w:=by{
have hlen:=Sh.sr hok
have hget:=xM (l:=(xs.toList.drop off).take s.sz) (xs:=xs) (off:=off) (by rw[hlen])
rcases ml hs with ⟨k,rfl,hu⟩ | ⟨rfl,hu⟩ | ⟨rfl,hu⟩ | ⟨rfl,e,i,j,hu,he,hi,hj,hsz,_⟩
·obtain⟨a,ha⟩:=wT hok
 rw[ha] at hget ⊢
 have:=hget 0 _ rfl
 exact run_part_plain w (jL hu (.inr (.inr ⟨k,rfl⟩))) this
·obtain⟨a,ha⟩:=ym hok
 rw[ha] at hget ⊢
 have:=hget 0 _ rfl
 exact run_part_plain w (jL hu (.inl rfl)) this
·obtain⟨a,ha⟩:=xG hok
 rw[ha] at hget ⊢
 have:=hget 0 _ rfl
 exact run_part_plain w (jL hu (.inr (.inl rfl))) this
·simp only[part,jc hu,oA,Sem.run_bind,Result.andThen_ok,if_true,bW hi,hsz,Sem.run_pure,Sh.val]
 congr 2
 apply Array.toList_inj.1
 simp [Array.toList_extract,Sh.sz,List.extract_eq_take_drop]}
theorem Ph (a b c d a' b' c' d':Int):jo [.int .u64 a,.int .u64 b,.int .u64 c,.int .u64 d] [.int .u64 a',.int .u64 b',.int .u64 c',.int .u64 d']=(decide (a=a')&&(decide (b=b')&&(decide (c=c')&&decide (d=d')))):=by
 simp only[jo,mS,Bool.and_true]
theorem Ba (d:Nat) {e:TypeId} (hu:P.underlying e=some (.int .u64)) (xs ys:Array Value) (f g:Nat→Int):∀ (is:List Nat),(∀ i∈is,xs[i]? = some (.int .u64 (f i))∧ys[i]? = some (.int .u64 (g i))) →
 (Op.eqItems (d+1) e 1 xs ys is).run P w = .ok (is.all fun i=>decide (f i=g i)) w
 | [],_=>by simp [Op.eqItems]
 | i :: is,h=>by
   obtain⟨h1,h2⟩:=h i List.mem_cons_self
   have ih:=Ba d hu xs ys f g is fun j hj=>h j (List.mem_cons_of_mem _ hj)
   have p1:(part e xs (i*1)).run P w = .ok (.int .u64 (f i)) w:=run_part_plain w (jL hu (.inr (.inr ⟨_,rfl⟩))) (by rw[Nat.mul_one];exact h1)
   have p2:(part e ys (i*1)).run P w = .ok (.int .u64 (g i)) w:=run_part_plain w (jL hu (.inr (.inr ⟨_,rfl⟩))) (by rw[Nat.mul_one];exact h2)
   simp only[Op.eqItems,Sem.run_bind,p1,p2,Result.andThen_ok,run_equalIn_int w d _ _ _ _ _ hu,List.all_cons]
   by_cases he:f i=g i
   ·simp only[he,beq_self_eq_true,Bool.not_true,Bool.false_eq_true,if_false,decide_true,Bool.true_and]
    exact ih
   ·simp [he]
theorem ES (d:Nat) {t e:TypeId} {j:TypeInfo} (hu:P.underlying t=some (.array 4 e)) (he:P.underlying e=some (.int .u64)) (hj:P.info? e=some j) (hs:j.size=1) (a b c q a' b' c' q':Int) : (Op.equalIn (d+2) t (.agg #[.int .u64 a,.int .u64 b,.int .u64 c,.int .u64 q]) (.agg #[.int .u64 a',.int .u64 b',.int .u64 c',.int .u64 q'])).run P w = .ok (jo [.int .u64 a,.int .u64 b,.int .u64 c,.int .u64 q] [.int .u64 a',.int .u64 b',.int .u64 c',.int .u64 q']) w:=by{
have hc:P.cellsOf e=1:=by simp [Program.cellsOf,hj,hs]
rw[run_equalIn_array w (d+1) _ _ hu hj,hc,Ph]
rw[Ba d he _ _ (fun i=>[a,b,c,q].getD i 0) (fun i=>[a',b',c',q'].getD i 0)]
·simp only[show List.range 4=[0,1,2,3] from rfl,List.all_cons,List.all_nil,Bool.and_true,List.getD_cons_zero,List.getD_cons_succ]
·intro i hi
 have:i=0∨i=1∨i=2∨i=3:=by simp at hi;omega
 rcases this with rfl|rfl|rfl|rfl<;>exact⟨rfl,rfl⟩}
theorem LR (d:Nat) {t:TypeId} {s:Sh} (hs:Ce P t=some s) {l m:List Value} (hl:s.ok l=true) (hm:s.ok m=true):(Op.equalIn (d+2) t (s.val l) (s.val m)).run P w = .ok (jo l m) w:=by{
rcases ml hs with ⟨k,rfl,hu⟩ | ⟨rfl,hu⟩ | ⟨rfl,hu⟩ | ⟨rfl,e,i,j,hu,he,hi,hj,hsz,hjs⟩
·obtain⟨a,rfl⟩:=wT hl
 obtain⟨b,rfl⟩:=wT hm
 show (Op.equalIn (d+1+1) t (.int k a) (.int k b)).run P w=_
 rw[run_equalIn_int w (d+1) _ _ _ _ _ hu]
 simp only[jo,mS,Bool.and_true,Bool.beq_eq_decide_eq]
·obtain⟨a,rfl⟩:=ym hl
 obtain⟨b,rfl⟩:=ym hm
 show (Op.equalIn (d+1+1) t (.bool a) (.bool b)).run P w=_
 rw[run_equalIn_bool' w (d+1) _ _ _ hu]
 simp only[jo,mS,Bool.and_true]
 cases a<;>cases b<;>rfl
·obtain⟨a,rfl⟩:=xG hl
 obtain⟨b,rfl⟩:=xG hm
 have:(Op.equalIn (d+1+1) t (.string a) (.string b)).run P w = .ok (a == b) w:=by simp [Op.equalIn,run_underlying hu]
 show (Op.equalIn (d+1+1) t (.string a) (.string b)).run P w=_
 rw[this,vV]
 simp only[jo,mS,Bool.and_true]
·obtain⟨a,b,c,q,rfl⟩:=mG hl
 obtain⟨a',b',c',q',rfl⟩:=mG hm
 exact ES d hu he hj hjs a b c q a' b' c' q'}
theorem mD {l1 l2 m1 m2:List Value} (h:l1.length=m1.length):jo (l1++l2) (m1++m2)=(jo l1 m1&&jo l2 m2):=by{
induction l1 generalizing m1 with
| nil=>cases m1 with
  | nil=>simp [jo]
  | cons=>simp at h
| cons x l ih=>cases m1 with
  | nil=>simp at h
  | cons y m=>simp only[List.cons_append,jo,ih (by simpa using h),Bool.and_assoc]}
theorem tS (d:Nat) (xs ys:Array Value):∀ (fs:List Field) (off:Nat) (l:List Sh),mi P fs off l=true→mq l (xs.toList.drop off)=true→mq l (ys.toList.drop off)=true →
 (Op.eqFields (d+2) xs ys fs).run P w = .ok (jo (xs.toList.drop off) (ys.toList.drop off)) w
 | [],off,[],_,hx,hy=>by
   simp only[mq,List.isEmpty_iff] at hx hy
   rw[hx,hy]
   simp [Op.eqFields,jo]
 | [],_,_ :: _,h,_,_=>by simp [mi] at h
 | _ :: _,_,[],h,_,_=>by simp [mi] at h
 | f :: fs,off,s :: r,h,hx,hy=>by
   simp only[mi,Bool.and_eq_true,decide_eq_true_eq] at h
   obtain⟨⟨⟨h1,h2⟩,h3⟩,h4⟩:=h
   simp only[mq,Bool.and_eq_true,List.drop_drop] at hx hy
   have ih:=tS d xs ys fs (off+s.sz) r h4 hx.2 hy.2
   have hn:f.name ≠ "_":=by simpa using h3
   have hlx:=Sh.sr hx.1
   have hly:=Sh.sr hy.1
   simp only[Op.eqFields,ne_eq,hn,not_false_eq_true,if_true,Sem.run_bind,h2,wu h1 hx.1,wu h1 hy.1,Result.andThen_ok,LR d h1 hx.1 hy.1]
   have e1:xs.toList.drop off=(xs.toList.drop off).take s.sz++xs.toList.drop (off+s.sz):=by rw[← List.drop_drop,List.take_append_drop]
   have e2:ys.toList.drop off=(ys.toList.drop off).take s.sz++ys.toList.drop (off+s.sz):=by rw[← List.drop_drop,List.take_append_drop]
   have e3:jo (xs.toList.drop off) (ys.toList.drop off)=(jo ((xs.toList.drop off).take s.sz) ((ys.toList.drop off).take s.sz)&&jo (xs.toList.drop (off+s.sz)) (ys.toList.drop (off+s.sz))):=by
    conv=>lhs;rw[e1,e2]
    exact mD (by rw[hlx,hly])
   rw[e3]
   generalize jo ((xs.toList.drop off).take s.sz) ((ys.toList.drop off).take s.sz)=q
   cases q with
   | false=>simp
   | true=>
     simp only[Bool.not_true,Bool.false_eq_true,if_false,Bool.true_and]
     exact ih
theorem iV {t:TypeId} {l:List Sh} (h:fX P t l=true):P.underlying t=some (.struct (P.fieldsOf t))∧mi P (P.fieldsOf t).toList 0 l=true∧P.stoodInHeld t=false∧P.eqGuardType P.depth t=false:=by{
unfold fX at h
split at h
·rename_i fs hu
 simp only[Bool.and_eq_true,Bool.not_eq_true'] at h
 have e:P.fieldsOf t=fs:=by simp [Program.fieldsOf,hu]
 rw[e]
 exact⟨hu,h.1.1,h.1.2,h.2⟩
·cases h}
theorem sB {t:TypeId} {l:List Sh} (h:fX P t l=true) (d:Nat) {xs ys:Array Value} (hx:mq l xs.toList=true) (hy:mq l ys.toList=true):(Op.equalIn (d+3) t (.agg xs) (.agg ys)).run P w = .ok (jo xs.toList ys.toList) w:=by{
obtain⟨hu,hf,hs,_⟩:=iV h
rw[run_equalIn_struct w (d+2) t xs ys hu hs]
have:=tS (w:=w) d xs ys _ 0 l hf (by simpa using hx) (by simpa using hy)
simpa using this}
theorem yD {t:TypeId} {l:List Sh} (h:fX P t l=true):Ef P t (mq l):=fun xs ys hx hy=>⟨(iV h).2.2.2,fun w=>sB h 9997 hx hy⟩
def Pa:Value→Bool
 | .int _ _=>true
 | .bool _=>true
 | .string _=>true
 | _=>false
theorem DC {v:Value} (h:Pa v=true):bf v=true:=by
 cases v<;>first|rfl|simp [Pa] at h
theorem JP {s:Sh} {l:List Value} (h:s.ok l=true):l.all Pa=true:=by{
cases s with
| sO k=>obtain⟨a,rfl⟩:=wT h;rfl
| x7=>obtain⟨a,rfl⟩:=ym h;rfl
| mL=>obtain⟨a,rfl⟩:=xG h;rfl
| oh=>obtain⟨a,b,c,d,rfl⟩:=mG h;rfl}
theorem wo:∀ {l:List Sh} {xs:List Value},mq l xs=true→xs.all Pa=true
 | [],xs,h=>by
   simp only[mq,List.isEmpty_iff] at h
   rw[h]
   rfl
 | s :: r,xs,h=>by
   simp only[mq,Bool.and_eq_true] at h
   have:=wo h.2
   rw[← List.take_append_drop s.sz xs,List.all_append,this,Bool.and_true]
   exact JP h.1
theorem yg {l:List Sh} {xs:List Value} (h:mq l xs=true):xs.all bf=true:=by{
have:=wo h
rw[List.all_eq_true] at this ⊢
exact fun v hv=>DC (this v hv)}
theorem xg {μ:Mu}:∀ {l l':List Value},l.all bf=true→dF P μ l l'→l'=l
 | [],[],_,_=>rfl
 | v :: l,v' :: l',h,⟨h1,h2⟩=>by
   simp only[List.all_cons,Bool.and_eq_true] at h
   rw[h1.dP h.1,xg h.2 h2]
 | [],_ :: _,_,h=>h.elim
 | _ :: _,[],_,h=>h.elim
theorem jg {t:TypeId} {l:List Sh} (h:fX P t l=true):Ef P t (mq l)∧∀ xs ys:List Value,∀ μ:Mu,dF P μ xs ys→mq l xs=true→ys=xs:=⟨yD h,fun xs ys μ hv hc=>xg (yg hc) hv⟩
def xS (l:List Sh):Value→Bool
 | .agg xs=>mq l xs.toList
 | _=>false
theorem la {l:List Sh} {v:Value} (h:xS l v=true):∃ xs,v = .agg xs∧mq l xs.toList=true:=by{
unfold xS at h
split at h
·exact⟨_,rfl,h⟩
·cases h}
theorem P1 {s:Sh} {l m:List Value} (hl:s.ok l=true) (hm:s.ok m=true) (h:jo l m=true):l=m:=by{
cases s with
| sO k=>
  obtain⟨a,rfl⟩:=wT hl
  obtain⟨b,rfl⟩:=wT hm
  simp only[jo,mS,Bool.and_true,decide_eq_true_eq] at h
  rw[h]
| x7=>
  obtain⟨a,rfl⟩:=ym hl
  obtain⟨b,rfl⟩:=ym hm
  simp only[jo,mS,Bool.and_true,decide_eq_true_eq] at h
  rw[h]
| mL=>
  obtain⟨a,rfl⟩:=xG hl
  obtain⟨b,rfl⟩:=xG hm
  simp only[jo,mS,Bool.and_true,decide_eq_true_eq] at h
  rw[h]
| oh=>
  obtain⟨a,b,c,d,rfl⟩:=mG hl
  obtain⟨a',b',c',d',rfl⟩:=mG hm
  simp only[Ph,Bool.and_eq_true,decide_eq_true_eq] at h
  obtain⟨rfl,rfl,rfl,rfl⟩:=h
  rfl}
theorem Gt {s:Sh} {l:List Value} (hl:s.ok l=true):jo l l=true:=by{
cases s with
| sO k=>obtain⟨a,rfl⟩:=wT hl;simp [jo,mS]
| x7=>obtain⟨a,rfl⟩:=ym hl;simp [jo,mS]
| mL=>obtain⟨a,rfl⟩:=xG hl;simp [jo,mS]
| oh=>obtain⟨a,b,c,d,rfl⟩:=mG hl;simp [jo,mS]}
theorem EI:∀ {l:List Sh} {xs ys:List Value},mq l xs=true→mq l ys=true→jo xs ys=true→xs=ys
 | [],xs,ys,h1,h2,_=>by
   simp only[mq,List.isEmpty_iff] at h1 h2
   rw[h1,h2]
 | s :: r,xs,ys,h1,h2,h=>by
   simp only[mq,Bool.and_eq_true] at h1 h2
   rw[← List.take_append_drop s.sz xs,← List.take_append_drop s.sz ys,mD (by rw[Sh.sr h1.1,Sh.sr h2.1]),Bool.and_eq_true] at h
   rw[← List.take_append_drop s.sz xs,← List.take_append_drop s.sz ys,P1 h1.1 h2.1 h.1,EI h1.2 h2.2 h.2]
theorem xx:∀ {l:List Sh} {xs:List Value},mq l xs=true→jo xs xs=true
 | [],xs,h1=>by
   simp only[mq,List.isEmpty_iff] at h1
   rw[h1]
   rfl
 | s :: r,xs,h1=>by
   simp only[mq,Bool.and_eq_true] at h1
   have:=mD (l1:=xs.take s.sz) (l2:=xs.drop s.sz) (m1:=xs.take s.sz) (m2:=xs.drop s.sz) rfl
   rw[List.take_append_drop] at this
   rw[this,Gt h1.1,xx h1.2]
   rfl
theorem BN (em:Bool) (d:Nat) {t:TypeId} {s:Sh} (hs:Ce P t=some s) {l:List Value} (hl:s.ok l=true):(Instr.checkKey em (d+2) t (s.val l)).run P w = .ok () w:=by{
rcases ml hs with ⟨k,rfl,hu⟩ | ⟨rfl,hu⟩ | ⟨rfl,hu⟩ | ⟨rfl,e,i,j,hu,he,hi,hj,hsz,hjs⟩
·obtain⟨a,rfl⟩:=wT hl
 exact run_checkKey (d:=.int k) hu (by simp [IsKey,Sh.val]) em (d+1)
·obtain⟨a,rfl⟩:=ym hl
 exact run_checkKey (d:=.bool) hu (by simp [IsKey,Sh.val]) em (d+1)
·obtain⟨a,rfl⟩:=xG hl
 exact run_checkKey (d:=.string) hu (by simp [IsKey,Sh.val]) em (d+1)
·obtain⟨a,b,c,q,rfl⟩:=mG hl
 show (Instr.checkKey em (d+1+1) t (.agg #[.int .u64 a,.int .u64 b,.int .u64 c,.int .u64 q])).run P w=_
 have ck:∀ n:Int,(Instr.checkKey em (d+1) e (.int .u64 n)).run P w = .ok () w:=fun n=>run_checkKey (d:=.int .u64) he (by simp [IsKey]) em d
 have pt:∀ (i:Nat) (v:Value),(#[Value.int .u64 a,.int .u64 b,.int .u64 c,.int .u64 q]:Array Value)[i]? = some v→(part e #[.int .u64 a,.int .u64 b,.int .u64 c,.int .u64 q] i).run P w = .ok v w:=fun i v h=>run_part_plain w (jL he (.inr (.inr ⟨_,rfl⟩))) h
 have p0:=pt 0 _ rfl
 have p1:=pt 1 _ rfl
 have p2:=pt 2 _ rfl
 have p3:=pt 3 _ rfl
 unfold Instr.checkKey
 simp only[Sem.run_bind,run_underlying hu,Result.andThen_ok]
 simp only[Std.Legacy.Range.forIn_eq_forIn_range',Std.Legacy.Range.size,Nat.sub_zero,Nat.add_one_sub_one,Nat.div_one]
 simp [List.range',bW hj,hjs,p0,p1,p2,p3,ck,Result.andThen]}
theorem sw (em:Bool) (d:Nat) (xs:Array Value):∀ (fs:List Field) (off:Nat) (l:List Sh),mi P fs off l=true→mq l (xs.toList.drop off)=true →
 (forIn fs PUnit.unit fun f _=>(do
  if f.name ≠ "_" then Instr.checkKey em (d+2) f.type (← part f.type xs f.offset)
  pure (ForInStep.yield PUnit.unit):Sem (ForInStep PUnit))).run P w = .ok PUnit.unit w
 | [],off,l,_,_=>by simp
 | f :: fs,off,[],h,_=>by simp [mi] at h
 | f :: fs,off,s :: r,h,hx=>by
   simp only[mi,Bool.and_eq_true,decide_eq_true_eq] at h
   obtain⟨⟨⟨h1,h2⟩,h3⟩,h4⟩:=h
   simp only[mq,Bool.and_eq_true,List.drop_drop] at hx
   have ih:=sw em d xs fs (off+s.sz) r h4 hx.2
   have hn:f.name ≠ "_":=by simpa using h3
   rw[List.forIn_cons]
   simp only[ne_eq,hn,not_false_eq_true,if_true,Sem.run_bind,h2,wu h1 hx.1,Result.andThen_ok,BN em d h1 hx.1,Sem.run_pure]
   exact ih
theorem rW {t:TypeId} {l:List Sh} (h:fX P t l=true):sI P t (xS l) where
 pure:=fun v hv=>by
  obtain⟨xs,rfl,hx⟩:=la hv
  exact yg hx
 eq:=fun a b ha hb he=>by
  obtain⟨xs,rfl,hx⟩:=la ha
  obtain⟨ys,rfl,hy⟩:=la hb
  rw[Array.toList_inj.1 (EI hx hy he)]
 refl:=fun a ha=>by
  obtain⟨xs,rfl,hx⟩:=la ha
  exact xx hx
 check:=fun em v w hv=>by
  obtain⟨xs,rfl,hx⟩:=la hv
  obtain⟨hu,hf,_,_⟩:=iV h
  rw[show (10000:Nat)=9997+2+1 from rfl]
  unfold Instr.checkKey
  simp only[Sem.run_bind,run_underlying hu,Result.andThen_ok]
  rw[← Array.forIn_toList]
  have:=sw (w:=w) em 9997 xs _ 0 l hf (by simpa using hx)
  simp only[Sem.run_bind] at this ⊢
  rw[this]
  rfl
 find:=fun v es w hv hes=>by
  obtain⟨xs,rfl,hx⟩:=la hv
  rw[run_findKey_eq w (by rw[(iV h).1])]
  have key:∀ (m:List MapEntry) (i:Nat),(∀ e∈m,xS l e.key=true)→(Instr.findAsking t (.agg xs) m i).run P w = .ok (gH (.agg xs) m i) w:=by
   intro m
   induction m with
   | nil=>intro i _;simp [Instr.findAsking,gH]
   | cons e m ih=>
     intro i hl
     obtain⟨ys,hm,hy⟩:=la (hl e List.mem_cons_self)
     have ih':=ih (i+1) fun x hx=>hl x (List.mem_cons_of_mem _ hx)
     have hq:(Op.equal t (.agg xs) (.agg ys)).run P w = .ok (jo xs.toList ys.toList) w:=sB h 9997 hx hy
     simp only[Instr.findAsking,gH,Sem.run_bind,hm,hq,Result.andThen_ok,pY]
     split
     ·simp
     ·exact ih'
  exact key es 0 hes
 stays:=fun v w hv=>by
  obtain⟨xs,rfl,hx⟩:=la hv
  have hp:=wo hx
  have:Instr.sameBits 10000 (.agg xs) (.agg xs)=true:=by
   rw[show (10000:Nat)=9999+1 from rfl]
   simp only[Instr.sameBits,beq_self_eq_true,Bool.true_and,List.all_eq_true]
   intro p hq
   obtain⟨i,hi⟩:=List.getElem?_of_mem hq
   rw[List.getElem?_zip_eq_some] at hi
   have e:p.1=p.2:=Option.some.inj (hi.1.symm.trans hi.2)
   have hpp:=List.all_eq_true.1 hp p.1 (List.mem_of_getElem? hi.1)
   obtain⟨x,y⟩:=p
   simp only at e hpp
   subst e
   cases x<;>first|(simp [Pa] at hpp;done) | (simp [Instr.sameBits];done) | (simp only[Instr.sameBits];rw[vV];simp)
  simp [Instr.keyThatStays,this]
end
def mW:Value→Bool
 | .int .i64 _=>true
 | _=>false
def eT:Value→Bool
 | .string _=>true
 | _=>false
theorem iK {v:Value} (h:mW v=true):∃ n,v = .int .i64 n:=by{
unfold mW at h
split at h
·exact⟨_,rfl⟩
·cases h}
theorem iI {v:Value} (h:eT v=true):∃ b,v = .string b:=by{
unfold eT at h
split at h
·exact⟨_,rfl⟩
·cases h}
theorem Hr {P:Program} {t:TypeId} (hu:P.underlying t=some .string):sI P t eT where
 pure:=fun v h=>by obtain⟨n,rfl⟩:=iI h;rfl
 eq:=fun a b ha hb h=>by
  obtain⟨n,rfl⟩:=iI ha
  obtain⟨m,rfl⟩:=iI hb
  simp only[pY,mS,decide_eq_true_eq] at h
  rw[h]
 refl:=fun a ha=>by obtain⟨n,rfl⟩:=iI ha;simp [pY,mS]
 check:=fun em v w h=>by
  obtain⟨n,rfl⟩:=iI h
  exact run_checkKey (d:=.string) hu (by simp [IsKey]) em 9999
 find:=fun v es w h hes=>by
  obtain⟨n,rfl⟩:=iI h
  refine run_findKey (d:=.string) hu ?_
  have key:∀ (l:List MapEntry) (i:Nat),(∀ e∈l,eT e.key=true)→Instr.findNow .string (.string n) l i=some (gH (.string n) l i):=by
   intro l
   induction l with
   | nil=>intro i _;rfl
   | cons e l ih=>
     intro i hl
     obtain⟨m,hm⟩:=iI (hl e List.mem_cons_self)
     have ih':=ih (i+1) fun x hx=>hl x (List.mem_cons_of_mem _ hx)
     simp only[Instr.findNow,gH,hm,Instr.sameNow,pY,mS,if_true]
     rw[vV]
     by_cases hnm:n=m
     ·rw[decide_eq_true hnm]
      simp
     ·rw[decide_eq_false hnm]
      exact ih'
  exact key es 0 hes
 stays:=fun v w h=>by
  obtain⟨n,rfl⟩:=iI h
  exact run_keyThatStays (d:=.string) (by simp [IsKey])
theorem GH {P:Program} {t:TypeId} (hu:P.underlying t=some (.int .i64)):sI P t mW where
 pure:=fun v h=>by obtain⟨n,rfl⟩:=iK h;rfl
 eq:=fun a b ha hb h=>by
  obtain⟨n,rfl⟩:=iK ha
  obtain⟨m,rfl⟩:=iK hb
  simp only[pY,mS,decide_eq_true_eq] at h
  rw[h]
 refl:=fun a ha=>by obtain⟨n,rfl⟩:=iK ha;simp [pY,mS]
 check:=fun em v w h=>by
  obtain⟨n,rfl⟩:=iK h
  exact run_checkKey (d:=.int .i64) hu (by simp [IsKey]) em 9999
 find:=fun v es w h hes=>by
  obtain⟨n,rfl⟩:=iK h
  refine run_findKey (d:=.int .i64) hu ?_
  have key:∀ (l:List MapEntry) (i:Nat),(∀ e∈l,mW e.key=true)→Instr.findNow (.int .i64) (.int .i64 n) l i=some (gH (.int .i64 n) l i):=by
   intro l
   induction l with
   | nil=>intro i _;rfl
   | cons e l ih=>
     intro i hl
     obtain⟨m,hm⟩:=iK (hl e List.mem_cons_self)
     have ih':=ih (i+1) fun x hx=>hl x (List.mem_cons_of_mem _ hx)
     simp only[Instr.findNow,gH,hm,Instr.sameNow,pY,mS,if_true]
     by_cases hnm:n=m
     ·simp [hnm]
     ·have hb:(n == m)=false:=by simpa using hnm
      rw[hb,decide_eq_false hnm]
      exact ih'
  exact key es 0 hes
 stays:=fun v w h=>by
  obtain⟨n,rfl⟩:=iK h
  exact run_keyThatStays (d:=.int .i64) (by simp [IsKey])
attribute [push_cast] mq Sh.ok Sh.sz xS mW eT
end Go.Proofs.YtmdmimkbpikmoaaGreat.Am
namespace Go.Proofs.YtmdmimkbpikmoaaGreat
set_option maxRecDepth 20000
open Go.RowKit Am Ty
def kZ:List Sh:=[.sO .i64,.sO .i64,.sO .i64]
def kF:List Sh:=[.x7,.mL,.oh,.mL]
def DK:List Sh:=[.sO .i64,.mL,.oh,.mL,.mL]
def tn:List Sh:=[.mL,.oh]
def re:List Sh:=[.mL,.mL]
theorem Di:fX Tryz.prog 70 kZ=true:=by kernel_rfl
theorem LQ:fX Tryz.prog 154 kF=true:=by kernel_rfl
theorem Io:fX Tryz.prog 103 kF=true:=by kernel_rfl
theorem JS:fX Tryz.prog 56 DK=true:=by kernel_rfl
theorem Cn:fX Tryz.prog 112 tn=true:=by kernel_rfl
theorem Cl:fX Tryz.prog 114 re=true:=by kernel_rfl
def jq:TypeId→Option (Value→Bool):=fun t=>if t=3 then some mW else if t=9 then some eT else if t=70 then some (xS kZ) else if t=154 then some (xS kF) else none
theorem s7:∀ kt kd,jq kt=some kd→sI Tryz.prog kt kd:=fun kt kd h=>by
 unfold jq at h
 split at h
 ·rename_i e;subst e;cases h;exact GH kr
 split at h
 ·rename_i e;subst e;cases h;exact Hr kr
 split at h
 ·rename_i e;subst e;cases h;exact rW Di
 split at h
 ·rename_i e;subst e;cases h;exact rW LQ
 ·cases h
def va:TypeId→Option (List Value→Bool):=fun t=>if t=70 then some (mq kZ) else if t=56 then some (mq DK) else if t=103 then some (mq kF) else if t=112 then some (mq tn) else if t=114 then some (mq re) else none
theorem Aa:∀ t chk,va t=some chk→Ef Tryz.prog t chk∧∀ l l':List Value,∀ μ:Mu,dF Tryz.prog μ l l'→chk l=true→l'=l:=fun t chk h=>by
 unfold va at h
 split at h
 ·rename_i e;subst e;cases h;exact jg Di
 split at h
 ·rename_i e;subst e;cases h;exact jg JS
 split at h
 ·rename_i e;subst e;cases h;exact jg Io
 split at h
 ·rename_i e;subst e;cases h;exact jg Cn
 split at h
 ·rename_i e;subst e;cases h;exact jg Cl
 ·cases h
attribute [push_cast] kZ kF DK tn re
def mB (a b c d:Int) (n:Nat):Bool:=(if n / 64=0 then a else if n / 64=1 then b else if n / 64=2 then c else d).toNat.testBit (n % 64)
def bR (has:Nat→Bool):Nat→List (Fin 256)
 | 0=>[]
 | k+1=>if h:k<256 then (if has k then bR has k++[⟨k,h⟩] else bR has k) else bR has k
def iW (l:List (Nat×Nat)) (b:Nat):List (Nat×Nat):=
 match l.getLast? with
 | some (lo,hi)=>if hi+1=b then l.dropLast++[(lo,b)] else l++[(b,b)]
 | none=>[(b,b)]
def b7 (bs:List (Fin 256)):List (Nat×Nat):=bs.foldl (fun l b=>iW l b.1) []
def df (l:List (Nat×Nat)):List Value:=l.flatMap fun r=>[.int .i64 r.1,.int .i64 r.2]
def tO (w:Int):Bool:=decide (0≤w)&&decide (w<18446744073709551616)
def i4 (h:ai):List Value→Option (Value×ai)
 | [.agg cs]=>match cs.toList with
   | [.int .u64 a,.int .u64 b,.int .u64 c,.int .u64 d]=>if tO a&&tO b&&tO c&&tO d then
    (if (b7 (bR (mB a b c d) 256)).isEmpty then some (.slice none 0 0,h)
    else some (.slice (some ⟨h.length,0,some 0⟩) (b7 (bR (mB a b c d) 256)).length (b7 (bR (mB a b c d) 256)).length,h++[ax.aq (df (b7 (bR (mB a b c d) 256))) 0 true 214])) else none
   | _=>none
 | _=>none
def pQ (h:ai):List Value→Option (Value×ai)
 | [.pointer (some ⟨id,0,some av⟩)]=>match h[id]? with
   | some (.aq [.pointer p,x] v true et)=>if v=av then (if et=228 then (match p with
     | none=>some (.tuple #[],h.set id (ax.aq [.pointer (some ⟨id,0,some av⟩),x] av true et))
     | some a=>if a=⟨id,0,some av⟩ then some (.tuple #[],h) else none) else none) else none
   | _=>none
 | _=>none
def j9:FuncId→List Value→ai→Option (Value×ai):=fun f args h=>if f=205 then pQ h args else if f=175 then i4 h args else none
structure bd where
 a:Int
 b:Int
 c:Int
 d:Int
 deriving DecidableEq
structure bg where
 nt:Int
 set:bd
 deriving DecidableEq
structure dD where
 lhs:Int
 rhs:List bg
 deriving DecidableEq
structure fC where
 fA:Int
 start:Int
 rules:List dD
 deriving DecidableEq
def ss:List Value→Bool
 | [.int .u64 _,.int .u64 _,.int .u64 _,.int .u64 _]=>true
 | _=>false
def sj:List Value→Bool
 | [.int .i64 _,.int .u64 _,.int .u64 _,.int .u64 _,.int .u64 _]=>true
 | _=>false
noncomputable def env:Env:=⟨Tryz.prog,fun t=>if t=54 then some ss else if t=65 then some sj else va t,jq,j9⟩
@[push_cast] theorem Qb:env.P=Tryz.prog:=rfl
@[push_cast] theorem R5:env.Ji 54=some ss:=rfl
@[push_cast] theorem QY:env.Ji 65=some sj:=rfl
abbrev i64 (n:Int):Value:=.int .i64 n
abbrev u64 (n:Int):Value:=.int .u64 n
def bd.cells (s:bd):List Value:=[.int .u64 s.a,.int .u64 s.b,.int .u64 s.c,.int .u64 s.d]
def bg.cells (s:bg):List Value:=[.int .i64 s.nt,.int .u64 s.set.a,.int .u64 s.set.b,.int .u64 s.set.c,.int .u64 s.set.d]
def bT (h:ai) (v:Value) (n:Nat) (cells:List Value) (et:TypeId) (b:Nat):Prop:=
 n*b≤140737488355328∧(((v = .slice none 0 0∨v = .slice (some ⟨0,0,none⟩) 0 0)∧n=0∧cells=[])∨∃ id av own c,v = .slice (some ⟨id,0,some av⟩) n c∧h[id]? = some (.aq cells av own et))
section
variable {h h':ai} {v:Value} {n b:Nat} {cells:List Value} {et:TypeId}
theorem bT.at (hs:bT h v n cells et b) (hn:0<n):∃ id av own c,v = .slice (some ⟨id,0,some av⟩) n c∧h[id]? = some (.aq cells av own et):=by{
rcases hs.2 with ⟨_,h0,_⟩ | hs
·omega
·exact hs}
theorem bT.form (hs:bT h v n cells et b):∃ p c,v = .slice p n c:=by{
rcases hs.2 with ⟨rfl|rfl,rfl,_⟩ | ⟨_,_,_,c,rfl,_⟩
·exact⟨_,_,rfl⟩
·exact⟨_,_,rfl⟩
·exact⟨_,c,rfl⟩}
theorem af {α:Type} {l l':List α} (hp:l <+: l') {i:Nat} {x:α} (hx:l[i]? = some x):l'[i]? = some x:=by{
obtain⟨t,rfl⟩:=hp
have:i<l.length:=(List.getElem?_eq_some_iff.1 hx).1
rw[List.getElem?_append_left this]
exact hx}
theorem bT.mono (hs:bT h v n cells et b) (hp:h <+: h'):bT h' v n cells et b:=by{
refine⟨hs.1,?_⟩
rcases hs.2 with hs|⟨id,av,own,c,h1,h2⟩
·exact .inl hs
·exact .inr ⟨id,av,own,c,h1,af hp h2⟩}
end
def sP (h:ai) (v:Value) (l:List Int):Prop:=bT h v l.length (l.map i64) 3 8
def qV (h:ai) (v:Value) (l:List Bool):Prop:=bT h v l.length (l.map .bool) 4 1
def Es (h:ai) (v:Value) (l:List bd):Prop:=bT h v l.length (l.flatMap bd.cells) 54 32
def lc (h:ai) (v:Value) (l:List bg):Prop:=bT h v l.length (l.flatMap bg.cells) 65 40
def gM (h:ai) (v:Value) (l:List dD):Prop:=
 ∃ us:List Value,us.length=l.length∧bT h v l.length ((l.zip us).flatMap fun p=>[i64 p.1.lhs,p.2]) 63 32∧∀ (i:Nat) (r:dD) (u:Value),l[i]? = some r→us[i]? = some u→lc h u r.rhs
def zR (h:ai) (v:Value) (g:fC):Prop:=∃ u,v = .agg #[i64 g.fA,i64 g.start,u]∧gM h u g.rules
theorem bL {α:Type} {f:α→List Value} {k:Nat} (hf:∀ x,(f x).length=k):∀ (l:List α) (i:Nat) (x:α),l[i]? = some x→jr (l.flatMap f) (i*k) k=some (f x)
 | [],i,x,h=>by simp at h
 | y :: l,0,x,h=>by
   simp only[List.getElem?_cons_zero,Option.some.injEq] at h
   subst h
   simp only[jr,tZ,List.flatMap_cons,Nat.zero_mul,Nat.zero_add,List.drop_zero,List.length_append,hf]
   rw[if_pos om,List.take_left' (hf y)]
 | y :: l,i+1,x,h=>by
   have ih:=bL hf l i x (by simpa using h)
   simp only[jr,tZ,List.flatMap_cons,List.length_append,hf] at ih ⊢
   rw[Nat.succ_mul]
   split at ih
   ·rename_i hle
    rw[if_pos om]
    rw[show i*k+k=(f y).length+i*k from by rw[hf];omega,List.drop_length_add_append]
    exact ih
   ·cases ih
theorem sP.get {h:ai} {v:Value} {l:List Int} {i:Nat} (hi:i<l.length):(l.map i64)[i]? = some (i64 l[i]):=by simp [hi]
theorem qV.get {l:List Bool} {i:Nat} (hi:i<l.length):(l.map Value.bool)[i]? = some (.bool l[i]):=by simp [hi]
theorem EL {l:List bg} {i:Nat} (hi:i<l.length):jr (l.flatMap bg.cells) (i*5) 5=some l[i].cells:=bL (f:=bg.cells) (fun _=>rfl) l i l[i] (by simp [hi])
theorem EY {l:List bd} {i:Nat} (hi:i<l.length):jr (l.flatMap bd.cells) (i*4) 4=some l[i].cells:=bL (f:=bd.cells) (fun _=>rfl) l i l[i] (by simp [hi])
theorem CU {l:List dD} {us:List Value} (hl:us.length=l.length) {i:Nat} (hi:i<l.length) :
 jr ((l.zip us).flatMap fun p=>[i64 p.1.lhs,p.2]) (i*2) 2=some [i64 l[i].lhs,us[i]'(hl▸hi)]:=by
 refine bL (f:=fun p:dD×Value=>[i64 p.1.lhs,p.2]) (fun _=>rfl) (l.zip us) i (l[i],us[i]'(hl▸hi)) ?_
 simp [List.getElem?_zip_eq_some,hi,hl▸hi]
theorem gM.at {h:ai} {v:Value} {l:List dD} (hr:gM h v l) {i:Nat} (hi:i<l.length) : ∃ id av own c cells p n c',v = .slice (some ⟨id,0,some av⟩) l.length c∧h[id]? = some (.aq cells av own 63)∧n=l[i].rhs.length ∧ jr cells (i*2) 2=some [i64 l[i].lhs,.slice p n c']∧lc h (.slice p n c') l[i].rhs:=by{
obtain⟨us,hl,hs,hu⟩:=hr
obtain⟨id,av,own,c,rfl,hid⟩:=hs.at om
have hi':i<us.length:=hl▸hi
have hS:=hu i l[i] us[i] (by simp [hi]) (by simp [hi'])
obtain⟨p,c',hp⟩:=hS.form
refine⟨id,av,own,c,_,p,l[i].rhs.length,c',rfl,hid,rfl,?_,?_⟩
·rw[← hp]
 exact CU hl hi
·rw[← hp]
 exact hS}
theorem gM.form {h:ai} {v:Value} {l:List dD} (hr:gM h v l):∃ p c,v = .slice p l.length c:=by
 obtain⟨_,_,hs,_⟩:=hr
 exact hs.form
theorem gM.le {h:ai} {v:Value} {l:List dD} (hr:gM h v l):l.length≤140737488355328:=by{
obtain⟨_,_,hs,_⟩:=hr
have:=hs.1
omega}
theorem lc.le {h:ai} {v:Value} {l:List bg} (hr:lc h v l):l.length≤140737488355328:=by
 have:=hr.1
 omega
theorem gM.mono {h h':ai} {v:Value} {l:List dD} (hr:gM h v l) (hp:h <+: h'):gM h' v l:=by
 obtain⟨us,hl,hs,hu⟩:=hr
 exact⟨us,hl,hs.mono hp,fun i r u h1 h2=>(hu i r u h1 h2).mono hp⟩
theorem zR.mono {h h':ai} {v:Value} {g:fC} (hr:zR h v g) (hp:h <+: h'):zR h' v g:=by
 obtain⟨u,rfl,hu⟩:=hr
 exact⟨u,rfl,hu.mono hp⟩
theorem lc.at {h:ai} {v:Value} {l:List bg} (hr:lc h v l) {i:Nat} (hi:i<l.length) :
 ∃ id av own c cells,v = .slice (some ⟨id,0,some av⟩) l.length c∧h[id]? = some (.aq cells av own 65)∧jr cells (i*5) 5=some [i64 l[i].nt,u64 l[i].set.a,u64 l[i].set.b,u64 l[i].set.c,u64 l[i].set.d]:=by
 obtain⟨id,av,own,c,rfl,hid⟩:=bT.at hr om
 exact⟨id,av,own,c,_,rfl,hid,EL hi⟩
theorem sP.at {h:ai} {v:Value} {l:List Int} (hr:sP h v l) {i:Nat} (hi:i<l.length) :
 ∃ id av own c cells,v = .slice (some ⟨id,0,some av⟩) l.length c∧h[id]? = some (.aq cells av own 3)∧cells[i]? = some (i64 l[i]):=by
 obtain⟨id,av,own,c,rfl,hid⟩:=bT.at hr om
 exact⟨id,av,own,c,_,rfl,hid,by simp [hi]⟩
theorem qV.at {h:ai} {v:Value} {l:List Bool} (hr:qV h v l) {i:Nat} (hi:i<l.length) :
 ∃ id av own c cells,v = .slice (some ⟨id,0,some av⟩) l.length c∧h[id]? = some (.aq cells av own 4)∧cells[i]? = some (.bool l[i]):=by
 obtain⟨id,av,own,c,rfl,hid⟩:=bT.at hr om
 exact⟨id,av,own,c,_,rfl,hid,by simp [hi]⟩
theorem Es.at {h:ai} {v:Value} {l:List bd} (hr:Es h v l) {i:Nat} (hi:i<l.length) :
 ∃ id av own c cells,v = .slice (some ⟨id,0,some av⟩) l.length c∧h[id]? = some (.aq cells av own 54)∧jr cells (i*4) 4=some [u64 l[i].a,u64 l[i].b,u64 l[i].c,u64 l[i].d]:=by
 obtain⟨id,av,own,c,rfl,hid⟩:=bT.at hr om
 exact⟨id,av,own,c,_,rfl,hid,EY hi⟩
def R8 (n k:Nat) (F:Nat→Fr) (H:Nat→ai) (I:Nat→Prop) (Q:AX→St→Prop):AX→St→Prop
 | .normal,s=>k<n∧bG (F (k+1)) s.fr∧s.h=H (k+1)∧I (k+1)
 | e,s=>Q e s
theorem dx {N:Env} {c:Code} {s:St} {Q:AX→St→Prop} (n:Nat) (F:Nat→Fr) (H:Nat→ai) (I:Nat→Prop) (h0:bG (F 0) s.fr) (hh:s.h=H 0) (hI:I 0) (hs:∀ k,k≤n→I k→CW N c ⟨F k,[],H k⟩ (R8 n k F H I Q)):CW N (.loop c) s Q:=by{
refine qO (fun m s=>∃ k,m=n-k∧k≤n∧bG (F k) s.fr∧s.h=H k∧I k) n ⟨0,rfl,Nat.zero_le _,h0,hh,hI⟩ ?_
rintro m s ⟨k,rfl,hk,hf,hh,hI⟩
refine aA _ hf ?_
rw[hh]
refine (hs k hk hI).mono fun e s' hq=>?_
cases e with
| normal=>
  obtain⟨h1,h2,h3,h4⟩:=hq
  exact⟨n-(k+1),by omega,k+1,rfl,by omega,h2,h3,h4⟩
| exit id=>exact hq
| ret=>exact hq}
theorem aW {k n:Nat} (h:k<n):decide ((k:Int)<(n:Int))=true:=by simp [h]
theorem aU {k n:Nat} (h:¬ k<n):decide ((k:Int)<(n:Int))=false:=by simp;omega
theorem cD {k n:Nat} (h:k<n):(0≤(k:Int)∧(k:Int)<(n:Int))=True:=by simp;omega
theorem inc {k:Nat} {n:Nat} (h:k<n) (hn:n≤140737488355328):IntKind.i64.wrap ((k:Int)+1)=(k:Int)+1:=ay om om
end Go.Proofs.YtmdmimkbpikmoaaGreat
