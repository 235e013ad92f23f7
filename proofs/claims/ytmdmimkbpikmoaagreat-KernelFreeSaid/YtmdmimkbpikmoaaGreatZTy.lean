/- Several texts, one behind the other. -/
import Derived.Test.YtmdmimkbpikmoaaGreatZAm9
import Derived.Test.YtmdmimkbpikmoaaGreatProg
import Derived.KernelRfl
import Derived.Deep.Slices
import Derived.ProofKit
import Derived.OpenShut
import GoSem.ClaimJoined
import Derived.DeepKeys
import Derived.WideKeyRuns
import Derived.MapKept
set_option linter.unusedSimpArgs false
set_option linter.unusedVariables false
set_option maxHeartbeats 8000000
namespace Go.Proofs.YtmdmimkbpikmoaaGreat
theorem om {P:Prop} (h:P:=by omega):P:=h
theorem kr {P:Prop} (h:P:=by kernel_rfl):P:=h
end Go.Proofs.YtmdmimkbpikmoaaGreat
namespace Go.Proofs.YtmdmimkbpikmoaaGreat.Ty
open Go.RowKit Go.Proofs.YtmdmimkbpikmoaaGreat.Am
theorem Vd:au Tryz.prog 1=some ⟨false,1,8,some (.nilFunc)⟩:=kr
theorem Vc:au Tryz.prog 2=some ⟨false,1,8,some (.int .i64 0)⟩:=kr
theorem NN:au Tryz.prog 3=some ⟨false,1,8,some (.int .i64 0)⟩:=kr
theorem Va:au Tryz.prog 4=some ⟨false,1,1,some (.bool false)⟩:=kr
theorem NK:au Tryz.prog 5=some ⟨false,1,1,some (.int .u8 0)⟩:=kr
theorem E5:au Tryz.prog 9=some ⟨false,1,16,some (.string ⟨#[]⟩)⟩:=kr
theorem TW:au Tryz.prog 12=some ⟨false,1,8,some (.int .u64 0)⟩:=kr
theorem Uz:au Tryz.prog 20=some ⟨false,1,16,some (.nilIface)⟩:=kr
theorem Tr:au Tryz.prog 21=some ⟨false,1,4,some (.int .i32 0)⟩:=kr
theorem TL:au Tryz.prog 22=some ⟨false,1,24,some (.slice none 0 0)⟩:=kr
theorem S9:au Tryz.prog 23=some ⟨false,1,24,some (.slice none 0 0)⟩:=kr
theorem Su:au Tryz.prog 24=some ⟨false,1,24,some (.slice none 0 0)⟩:=kr
theorem Sz:au Tryz.prog 25=some ⟨false,1,24,some (.slice none 0 0)⟩:=kr
theorem Ts:au Tryz.prog 26=some ⟨false,1,24,some (.slice none 0 0)⟩:=kr
theorem Uu:au Tryz.prog 27=some ⟨true,7,152,some (.agg #[.string ⟨#[]⟩,.string ⟨#[]⟩,.slice none 0 0,.slice none 0 0,.slice none 0 0,.slice none 0 0,.slice none 0 0])⟩:=kr
theorem KU:ar Tryz.prog 27 0=some (0,9):=kr
theorem L9:ar Tryz.prog 27 1=some (1,9):=kr
theorem Ml:ar Tryz.prog 27 2=some (2,22):=kr
theorem Km:ar Tryz.prog 27 3=some (3,23):=kr
theorem Kt:ar Tryz.prog 27 4=some (4,24):=kr
theorem Kf:ar Tryz.prog 27 5=some (5,25):=kr
theorem La:ar Tryz.prog 27 6=some (6,26):=kr
theorem Ud:placesOf Tryz.prog 27=some [(0,1),(1,1),(2,1),(3,1),(4,1),(5,1),(6,1)]:=kr
theorem SL:au Tryz.prog 28=some ⟨true,7,152,some (.agg #[.string ⟨#[]⟩,.string ⟨#[]⟩,.slice none 0 0,.slice none 0 0,.slice none 0 0,.slice none 0 0,.slice none 0 0])⟩:=kr
theorem LF:ar Tryz.prog 28 0=some (0,9):=kr
theorem K9:ar Tryz.prog 28 1=some (1,9):=kr
theorem KW:ar Tryz.prog 28 2=some (2,22):=kr
theorem Lm:ar Tryz.prog 28 3=some (3,23):=kr
theorem LN:ar Tryz.prog 28 4=some (4,24):=kr
theorem ME:ar Tryz.prog 28 5=some (5,25):=kr
theorem M4:ar Tryz.prog 28 6=some (6,26):=kr
theorem Tu:placesOf Tryz.prog 28=some [(0,1),(1,1),(2,1),(3,1),(4,1),(5,1),(6,1)]:=kr
theorem TQ:au Tryz.prog 29=some ⟨false,1,8,some (.nilFunc)⟩:=kr
theorem Tg:au Tryz.prog 30=some ⟨false,1,8,some (.nilFunc)⟩:=kr
theorem T5:au Tryz.prog 31=some ⟨false,1,8,some (.nilFunc)⟩:=kr
theorem To:au Tryz.prog 32=some ⟨false,1,24,some (.slice none 0 0)⟩:=kr
theorem Uj:au Tryz.prog 33=some ⟨true,3,40,some (.agg #[.int .i64 0,.int .i64 0,.slice none 0 0])⟩:=kr
theorem Lq:ar Tryz.prog 33 0=some (0,3):=kr
theorem Kq:ar Tryz.prog 33 1=some (1,3):=kr
theorem LH:ar Tryz.prog 33 2=some (2,32):=kr
theorem SE:placesOf Tryz.prog 33=some [(0,1),(1,1),(2,1)]:=kr
theorem Tn:au Tryz.prog 34=some ⟨true,3,40,some (.agg #[.int .i64 0,.int .i64 0,.slice none 0 0])⟩:=kr
theorem MG:ar Tryz.prog 34 0=some (0,3):=kr
theorem Lt:ar Tryz.prog 34 1=some (1,3):=kr
theorem Me:ar Tryz.prog 34 2=some (2,32):=kr
theorem SK:placesOf Tryz.prog 34=some [(0,1),(1,1),(2,1)]:=kr
theorem Ug:au Tryz.prog 35=some ⟨false,1,24,some (.slice none 0 0)⟩:=kr
theorem Sv:au Tryz.prog 36=some ⟨false,1,24,some (.slice none 0 0)⟩:=kr
theorem Te:au Tryz.prog 37=some ⟨false,1,24,some (.slice none 0 0)⟩:=kr
theorem SI:au Tryz.prog 38=some ⟨false,1,24,some (.slice none 0 0)⟩:=kr
theorem T9:au Tryz.prog 39=some ⟨false,1,24,some (.slice none 0 0)⟩:=kr
theorem TX:au Tryz.prog 40=some ⟨true,3,72,some (.agg #[.slice none 0 0,.slice none 0 0,.slice none 0 0])⟩:=kr
theorem J9:ar Tryz.prog 40 0=some (0,37):=kr
theorem Ku:ar Tryz.prog 40 1=some (1,38):=kr
theorem J2:ar Tryz.prog 40 2=some (2,39):=kr
theorem Ue:placesOf Tryz.prog 40=some [(0,1),(1,1),(2,1)]:=kr
theorem UD:au Tryz.prog 41=some ⟨true,3,72,some (.agg #[.slice none 0 0,.slice none 0 0,.slice none 0 0])⟩:=kr
theorem MI:ar Tryz.prog 41 0=some (0,37):=kr
theorem Lf:ar Tryz.prog 41 1=some (1,38):=kr
theorem Lc:ar Tryz.prog 41 2=some (2,39):=kr
theorem TR:placesOf Tryz.prog 41=some [(0,1),(1,1),(2,1)]:=kr
theorem SY:au Tryz.prog 42=some ⟨true,15,312,some (.agg #[.string ⟨#[]⟩,.string ⟨#[]⟩,.slice none 0 0,.slice none 0 0,.slice none 0 0,.slice none 0 0,.slice none 0 0,.int .i64 0,.int .i64 0,.slice none 0 0,.slice none 0 0,.slice none 0 0,.slice none 0 0,.slice none 0 0,.slice none 0 0])⟩:=kr
theorem Kl:ar Tryz.prog 42 0=some (0,28):=kr
theorem MW:ar Tryz.prog 42 1=some (7,34):=kr
theorem J1:ar Tryz.prog 42 2=some (10,35):=kr
theorem Nx:ar Tryz.prog 42 3=some (11,36):=kr
theorem LM:ar Tryz.prog 42 4=some (12,41):=kr
theorem Uo:placesOf Tryz.prog 42=some [(0,7),(7,3),(10,1),(11,1),(12,3)]:=kr
theorem TE:au Tryz.prog 43=some ⟨true,15,312,some (.agg #[.string ⟨#[]⟩,.string ⟨#[]⟩,.slice none 0 0,.slice none 0 0,.slice none 0 0,.slice none 0 0,.slice none 0 0,.int .i64 0,.int .i64 0,.slice none 0 0,.slice none 0 0,.slice none 0 0,.slice none 0 0,.slice none 0 0,.slice none 0 0])⟩:=kr
theorem KG:ar Tryz.prog 43 0=some (0,28):=kr
theorem KE:ar Tryz.prog 43 1=some (7,34):=kr
theorem KH:ar Tryz.prog 43 2=some (10,35):=kr
theorem KT:ar Tryz.prog 43 3=some (11,36):=kr
theorem K7:ar Tryz.prog 43 4=some (12,41):=kr
theorem SN:placesOf Tryz.prog 43=some [(0,7),(7,3),(10,1),(11,1),(12,3)]:=kr
theorem SX:au Tryz.prog 44=some ⟨false,1,8,some (.int .i64 0)⟩:=kr
theorem SA:au Tryz.prog 46=some ⟨false,1,8,some (.nilFunc)⟩:=kr
theorem Tx:au Tryz.prog 47=some ⟨false,1,8,some (.nilFunc)⟩:=kr
theorem Tq:au Tryz.prog 48=some ⟨false,1,8,some (.nilFunc)⟩:=kr
theorem TC:au Tryz.prog 49=some ⟨false,1,24,some (.slice none 0 0)⟩:=kr
theorem Uh:au Tryz.prog 50=some ⟨true,5,72,some (.agg #[.bool false,.string ⟨#[]⟩,.string ⟨#[]⟩,.bool false,.slice none 0 0])⟩:=kr
theorem Mg:ar Tryz.prog 50 0=some (0,4):=kr
theorem LV:ar Tryz.prog 50 1=some (1,9):=kr
theorem M0:ar Tryz.prog 50 2=some (2,9):=kr
theorem Kj:ar Tryz.prog 50 3=some (3,4):=kr
theorem Mx:ar Tryz.prog 50 4=some (4,49):=kr
theorem Uw:placesOf Tryz.prog 50=some [(0,1),(1,1),(2,1),(3,1),(4,1)]:=kr
theorem NA:au Tryz.prog 51=some ⟨true,5,72,some (.agg #[.bool false,.string ⟨#[]⟩,.string ⟨#[]⟩,.bool false,.slice none 0 0])⟩:=kr
theorem Kv:ar Tryz.prog 51 0=some (0,4):=kr
theorem Nd:ar Tryz.prog 51 1=some (1,9):=kr
theorem Kw:ar Tryz.prog 51 2=some (2,9):=kr
theorem J5:ar Tryz.prog 51 3=some (3,4):=kr
theorem Kg:ar Tryz.prog 51 4=some (4,49):=kr
theorem TD:placesOf Tryz.prog 51=some [(0,1),(1,1),(2,1),(3,1),(4,1)]:=kr
theorem SP:au Tryz.prog 52=some ⟨false,1,8,some (.int .u64 0)⟩:=kr
theorem TJ:au Tryz.prog 53=some ⟨true,4,32,some (.agg #[.int .u64 0,.int .u64 0,.int .u64 0,.int .u64 0])⟩:=kr
theorem RV:au Tryz.prog 54=some ⟨true,4,32,some (.agg #[.int .u64 0,.int .u64 0,.int .u64 0,.int .u64 0])⟩:=kr
theorem Uq:au Tryz.prog 55=some ⟨true,8,88,some (.agg #[.int .i64 0,.string ⟨#[]⟩,.int .u64 0,.int .u64 0,.int .u64 0,.int .u64 0,.string ⟨#[]⟩,.string ⟨#[]⟩])⟩:=kr
theorem Lz:ar Tryz.prog 55 0=some (0,3):=kr
theorem Ld:ar Tryz.prog 55 1=some (1,9):=kr
theorem Ns:ar Tryz.prog 55 2=some (2,54):=kr
theorem MY:ar Tryz.prog 55 3=some (6,9):=kr
theorem Kd:ar Tryz.prog 55 4=some (7,9):=kr
theorem Tp:placesOf Tryz.prog 55=some [(0,1),(1,1),(2,4),(6,1),(7,1)]:=kr
theorem FU:au Tryz.prog 56=some ⟨true,8,88,some (.agg #[.int .i64 0,.string ⟨#[]⟩,.int .u64 0,.int .u64 0,.int .u64 0,.int .u64 0,.string ⟨#[]⟩,.string ⟨#[]⟩])⟩:=kr
theorem Nj:ar Tryz.prog 56 0=some (0,3):=kr
theorem Kh:ar Tryz.prog 56 1=some (1,9):=kr
theorem Kc:ar Tryz.prog 56 2=some (2,54):=kr
theorem Mw:ar Tryz.prog 56 3=some (6,9):=kr
theorem MA:ar Tryz.prog 56 4=some (7,9):=kr
theorem SM:placesOf Tryz.prog 56=some [(0,1),(1,1),(2,4),(6,1),(7,1)]:=kr
theorem T7:au Tryz.prog 57=some ⟨false,1,8,some (.nilFunc)⟩:=kr
theorem Ub:au Tryz.prog 58=some ⟨false,1,8,some (.nilFunc)⟩:=kr
theorem TA:au Tryz.prog 59=some ⟨false,1,8,some (.nilFunc)⟩:=kr
theorem Sy:au Tryz.prog 60=some ⟨false,1,8,some (.nilFunc)⟩:=kr
theorem Sw:au Tryz.prog 61=some ⟨false,1,24,some (.slice none 0 0)⟩:=kr
theorem SV:au Tryz.prog 62=some ⟨true,2,32,some (.agg #[.int .i64 0,.slice none 0 0])⟩:=kr
theorem M2:ar Tryz.prog 62 0=some (0,3):=kr
theorem MD:ar Tryz.prog 62 1=some (1,61):=kr
theorem Tb:placesOf Tryz.prog 62=some [(0,1),(1,1)]:=kr
theorem Ri:au Tryz.prog 63=some ⟨true,2,32,some (.agg #[.int .i64 0,.slice none 0 0])⟩:=kr
theorem J3:ar Tryz.prog 63 0=some (0,3):=kr
theorem Mj:ar Tryz.prog 63 1=some (1,61):=kr
theorem Tt:placesOf Tryz.prog 63=some [(0,1),(1,1)]:=kr
theorem T2:au Tryz.prog 64=some ⟨true,5,40,some (.agg #[.int .i64 0,.int .u64 0,.int .u64 0,.int .u64 0,.int .u64 0])⟩:=kr
theorem Kz:ar Tryz.prog 64 0=some (0,3):=kr
theorem J7:ar Tryz.prog 64 1=some (1,54):=kr
theorem S4:placesOf Tryz.prog 64=some [(0,1),(1,4)]:=kr
theorem xX:au Tryz.prog 65=some ⟨true,5,40,some (.agg #[.int .i64 0,.int .u64 0,.int .u64 0,.int .u64 0,.int .u64 0])⟩:=kr
theorem MU:ar Tryz.prog 65 0=some (0,3):=kr
theorem LX:ar Tryz.prog 65 1=some (1,54):=kr
theorem SU:placesOf Tryz.prog 65=some [(0,1),(1,4)]:=kr
theorem T0:au Tryz.prog 66=some ⟨true,4,48,some (.agg #[.int .i64 0,.int .i64 0,.int .i64 0,.slice none 0 0])⟩:=kr
theorem MP:ar Tryz.prog 66 0=some (0,3):=kr
theorem Mn:ar Tryz.prog 66 1=some (1,3):=kr
theorem Nl:ar Tryz.prog 66 2=some (2,3):=kr
theorem Nr:ar Tryz.prog 66 3=some (3,39):=kr
theorem Sr:placesOf Tryz.prog 66=some [(0,1),(1,1),(2,1),(3,1)]:=kr
theorem PF:au Tryz.prog 67=some ⟨true,4,48,some (.agg #[.int .i64 0,.int .i64 0,.int .i64 0,.slice none 0 0])⟩:=kr
theorem M9:ar Tryz.prog 67 0=some (0,3):=kr
theorem LQ:ar Tryz.prog 67 1=some (1,3):=kr
theorem Mp:ar Tryz.prog 67 2=some (2,3):=kr
theorem Nn:ar Tryz.prog 67 3=some (3,39):=kr
theorem Ss:placesOf Tryz.prog 67=some [(0,1),(1,1),(2,1),(3,1)]:=kr
theorem TF:au Tryz.prog 68=some ⟨false,1,8,some (.nilFunc)⟩:=kr
theorem Uk:au Tryz.prog 69=some ⟨true,3,24,some (.agg #[.int .i64 0,.int .i64 0,.int .i64 0])⟩:=kr
theorem MX:ar Tryz.prog 69 0=some (0,3):=kr
theorem KI:ar Tryz.prog 69 1=some (1,3):=kr
theorem Li:ar Tryz.prog 69 2=some (2,3):=kr
theorem T8:placesOf Tryz.prog 69=some [(0,1),(1,1),(2,1)]:=kr
theorem Lx:au Tryz.prog 70=some ⟨true,3,24,some (.agg #[.int .i64 0,.int .i64 0,.int .i64 0])⟩:=kr
theorem Le:ar Tryz.prog 70 0=some (0,3):=kr
theorem Ke:ar Tryz.prog 70 1=some (1,3):=kr
theorem MC:ar Tryz.prog 70 2=some (2,3):=kr
theorem TB:placesOf Tryz.prog 70=some [(0,1),(1,1),(2,1)]:=kr
theorem Sp:au Tryz.prog 71=some ⟨false,1,8,some (.nilFunc)⟩:=kr
theorem Th:au Tryz.prog 72=some ⟨false,1,8,some (.nilFunc)⟩:=kr
theorem TN:au Tryz.prog 73=some ⟨false,1,8,some (.nilFunc)⟩:=kr
theorem Ur:au Tryz.prog 74=some ⟨false,1,24,some (.slice none 0 0)⟩:=kr
theorem Sx:au Tryz.prog 76=some ⟨false,1,8,some (.nilFunc)⟩:=kr
theorem Tz:au Tryz.prog 78=some ⟨false,1,8,some (.nilFunc)⟩:=kr
theorem TG:au Tryz.prog 79=some ⟨false,1,8,some (.nilFunc)⟩:=kr
theorem Lv:au Tryz.prog 80=some ⟨false,1,24,some (.slice none 0 0)⟩:=kr
theorem Uf:au Tryz.prog 81=some ⟨true,2,32,some (.agg #[.int .i64 0,.slice none 0 0])⟩:=kr
theorem J8:ar Tryz.prog 81 0=some (0,3):=kr
theorem Na:ar Tryz.prog 81 1=some (1,36):=kr
theorem UA:placesOf Tryz.prog 81=some [(0,1),(1,1)]:=kr
theorem Nh:au Tryz.prog 82=some ⟨true,2,32,some (.agg #[.int .i64 0,.slice none 0 0])⟩:=kr
theorem KJ:ar Tryz.prog 82 0=some (0,3):=kr
theorem LS:ar Tryz.prog 82 1=some (1,36):=kr
theorem Tj:placesOf Tryz.prog 82=some [(0,1),(1,1)]:=kr
theorem T3:au Tryz.prog 83=some ⟨false,1,24,some (.slice none 0 0)⟩:=kr
theorem SD:au Tryz.prog 84=some ⟨true,2,40,some (.agg #[.string ⟨#[]⟩,.slice none 0 0])⟩:=kr
theorem KL:ar Tryz.prog 84 0=some (0,9):=kr
theorem MM:ar Tryz.prog 84 1=some (1,83):=kr
theorem T6:placesOf Tryz.prog 84=some [(0,1),(1,1)]:=kr
theorem Mr:au Tryz.prog 85=some ⟨true,2,40,some (.agg #[.string ⟨#[]⟩,.slice none 0 0])⟩:=kr
theorem Nu:ar Tryz.prog 85 0=some (0,9):=kr
theorem Kb:ar Tryz.prog 85 1=some (1,83):=kr
theorem Um:placesOf Tryz.prog 85=some [(0,1),(1,1)]:=kr
theorem TS:au Tryz.prog 86=some ⟨false,1,8,some (.nilFunc)⟩:=kr
theorem T1:au Tryz.prog 88=some ⟨false,1,8,some (.nilFunc)⟩:=kr
theorem Tf:au Tryz.prog 89=some ⟨false,1,8,some (.pointer none)⟩:=kr
theorem TY:au Tryz.prog 90=some ⟨false,1,8,some (.map none)⟩:=kr
theorem Tw:au Tryz.prog 91=some ⟨false,1,8,some (.map none)⟩:=kr
theorem TM:au Tryz.prog 92=some ⟨false,1,24,some (.slice none 0 0)⟩:=kr
theorem Ux:au Tryz.prog 93=some ⟨true,19,360,some (.agg #[.string ⟨#[]⟩,.string ⟨#[]⟩,.slice none 0 0,.slice none 0 0,.slice none 0 0,.slice none 0 0,.slice none 0 0,.int .i64 0,.int .i64 0,.slice none 0 0,.slice none 0 0,.slice none 0 0,.slice none 0 0,.slice none 0 0,.slice none 0 0,.map none,.map none,.slice none 0 0,.int .i64 0])⟩:=kr
theorem Ll:ar Tryz.prog 93 0=some (0,43):=kr
theorem Np:ar Tryz.prog 93 1=some (15,90):=kr
theorem ML:ar Tryz.prog 93 2=some (16,91):=kr
theorem Kp:ar Tryz.prog 93 3=some (17,92):=kr
theorem Lh:ar Tryz.prog 93 4=some (18,3):=kr
theorem TT:placesOf Tryz.prog 93=some [(0,15),(15,1),(16,1),(17,1),(18,1)]:=kr
theorem Uv:au Tryz.prog 94=some ⟨true,19,360,some (.agg #[.string ⟨#[]⟩,.string ⟨#[]⟩,.slice none 0 0,.slice none 0 0,.slice none 0 0,.slice none 0 0,.slice none 0 0,.int .i64 0,.int .i64 0,.slice none 0 0,.slice none 0 0,.slice none 0 0,.slice none 0 0,.slice none 0 0,.slice none 0 0,.map none,.map none,.slice none 0 0,.int .i64 0])⟩:=kr
theorem KN:ar Tryz.prog 94 0=some (0,43):=kr
theorem LJ:ar Tryz.prog 94 1=some (15,90):=kr
theorem L8:ar Tryz.prog 94 2=some (16,91):=kr
theorem Mh:ar Tryz.prog 94 3=some (17,92):=kr
theorem Lg:ar Tryz.prog 94 4=some (18,3):=kr
theorem TP:placesOf Tryz.prog 94=some [(0,15),(15,1),(16,1),(17,1),(18,1)]:=kr
theorem Un:au Tryz.prog 95=some ⟨false,1,8,some (.pointer none)⟩:=kr
theorem TK:au Tryz.prog 96=some ⟨false,1,8,some (.nilFunc)⟩:=kr
theorem UE:au Tryz.prog 97=some ⟨false,1,24,some (.slice none 0 0)⟩:=kr
theorem SO:au Tryz.prog 98=some ⟨false,1,8,some (.nilFunc)⟩:=kr
theorem Tl:au Tryz.prog 99=some ⟨true,10,208,some (.agg #[.string ⟨#[]⟩,.string ⟨#[]⟩,.slice none 0 0,.slice none 0 0,.slice none 0 0,.slice none 0 0,.slice none 0 0,.slice none 0 0,.slice none 0 0,.int .i64 0])⟩:=kr
theorem Nq:ar Tryz.prog 99 0=some (0,28):=kr
theorem Mm:ar Tryz.prog 99 1=some (7,36):=kr
theorem Lj:ar Tryz.prog 99 2=some (8,97):=kr
theorem Lk:ar Tryz.prog 99 3=some (9,3):=kr
theorem Tk:placesOf Tryz.prog 99=some [(0,7),(7,1),(8,1),(9,1)]:=kr
theorem Pl:au Tryz.prog 100=some ⟨true,10,208,some (.agg #[.string ⟨#[]⟩,.string ⟨#[]⟩,.slice none 0 0,.slice none 0 0,.slice none 0 0,.slice none 0 0,.slice none 0 0,.slice none 0 0,.slice none 0 0,.int .i64 0])⟩:=kr
theorem Jm:ar Tryz.prog 100 0=some (0,28):=kr
theorem Hz:ar Tryz.prog 100 1=some (7,36):=kr
theorem Ix:ar Tryz.prog 100 2=some (8,97):=kr
theorem G5:ar Tryz.prog 100 3=some (9,3):=kr
theorem RP:placesOf Tryz.prog 100=some [(0,7),(7,1),(8,1),(9,1)]:=kr
theorem Ru:au Tryz.prog 101=some ⟨false,1,8,some (.nilFunc)⟩:=kr
theorem Q7:au Tryz.prog 102=some ⟨true,7,72,some (.agg #[.bool false,.string ⟨#[]⟩,.int .u64 0,.int .u64 0,.int .u64 0,.int .u64 0,.string ⟨#[]⟩])⟩:=kr
theorem Ib:ar Tryz.prog 102 0=some (0,4):=kr
theorem G0:ar Tryz.prog 102 1=some (1,9):=kr
theorem GN:ar Tryz.prog 102 2=some (2,54):=kr
theorem HC:ar Tryz.prog 102 3=some (6,9):=kr
theorem Qv:placesOf Tryz.prog 102=some [(0,1),(1,1),(2,4),(6,1)]:=kr
theorem PH:au Tryz.prog 103=some ⟨true,7,72,some (.agg #[.bool false,.string ⟨#[]⟩,.int .u64 0,.int .u64 0,.int .u64 0,.int .u64 0,.string ⟨#[]⟩])⟩:=kr
theorem IH:ar Tryz.prog 103 0=some (0,4):=kr
theorem G7:ar Tryz.prog 103 1=some (1,9):=kr
theorem Jf:ar Tryz.prog 103 2=some (2,54):=kr
theorem GG:ar Tryz.prog 103 3=some (6,9):=kr
theorem QB:placesOf Tryz.prog 103=some [(0,1),(1,1),(2,4),(6,1)]:=kr
theorem PU:au Tryz.prog 104=some ⟨false,1,8,some (.nilFunc)⟩:=kr
theorem OF:au Tryz.prog 105=some ⟨false,1,8,some (.pointer none)⟩:=kr
theorem N9:au Tryz.prog 106=some ⟨false,1,8,some (.nilFunc)⟩:=kr
theorem PV:au Tryz.prog 107=some ⟨false,1,8,some (.nilFunc)⟩:=kr
theorem Rq:au Tryz.prog 108=some ⟨false,1,8,some (.nilFunc)⟩:=kr
theorem OC:au Tryz.prog 109=some ⟨false,1,8,some (.nilFunc)⟩:=kr
theorem OE:au Tryz.prog 110=some ⟨false,1,8,some (.nilFunc)⟩:=kr
theorem OB:au Tryz.prog 111=some ⟨true,5,48,some (.agg #[.string ⟨#[]⟩,.int .u64 0,.int .u64 0,.int .u64 0,.int .u64 0])⟩:=kr
theorem IQ:ar Tryz.prog 111 0=some (0,9):=kr
theorem HY:ar Tryz.prog 111 1=some (1,54):=kr
theorem Ob:placesOf Tryz.prog 111=some [(0,1),(1,4)]:=kr
theorem FL:au Tryz.prog 112=some ⟨true,5,48,some (.agg #[.string ⟨#[]⟩,.int .u64 0,.int .u64 0,.int .u64 0,.int .u64 0])⟩:=kr
theorem HQ:ar Tryz.prog 112 0=some (0,9):=kr
theorem IP:ar Tryz.prog 112 1=some (1,54):=kr
theorem Ry:placesOf Tryz.prog 112=some [(0,1),(1,4)]:=kr
theorem Ps:au Tryz.prog 113=some ⟨true,2,32,some (.agg #[.string ⟨#[]⟩,.string ⟨#[]⟩])⟩:=kr
theorem Iy:ar Tryz.prog 113 0=some (0,9):=kr
theorem I0:ar Tryz.prog 113 1=some (1,9):=kr
theorem Qh:placesOf Tryz.prog 113=some [(0,1),(1,1)]:=kr
theorem D6:au Tryz.prog 114=some ⟨true,2,32,some (.agg #[.string ⟨#[]⟩,.string ⟨#[]⟩])⟩:=kr
theorem IY:ar Tryz.prog 114 0=some (0,9):=kr
theorem Hq:ar Tryz.prog 114 1=some (1,9):=kr
theorem P9:placesOf Tryz.prog 114=some [(0,1),(1,1)]:=kr
theorem Oo:au Tryz.prog 115=some ⟨false,1,8,some (.nilFunc)⟩:=kr
theorem Rw:au Tryz.prog 116=some ⟨false,1,8,some (.nilFunc)⟩:=kr
theorem NZ:au Tryz.prog 117=some ⟨false,1,8,some (.nilFunc)⟩:=kr
theorem N8:au Tryz.prog 118=some ⟨false,1,8,some (.nilFunc)⟩:=kr
theorem Oi:au Tryz.prog 119=some ⟨false,1,8,some (.nilFunc)⟩:=kr
theorem Ot:au Tryz.prog 120=some ⟨false,1,8,some (.nilFunc)⟩:=kr
theorem OI:au Tryz.prog 121=some ⟨false,1,8,some (.nilFunc)⟩:=kr
theorem P7:au Tryz.prog 122=some ⟨false,1,8,some (.nilFunc)⟩:=kr
theorem OS:au Tryz.prog 124=some ⟨false,1,8,some (.nilFunc)⟩:=kr
theorem QC:au Tryz.prog 125=some ⟨false,1,8,some (.nilFunc)⟩:=kr
theorem RQ:au Tryz.prog 127=some ⟨false,1,8,some (.nilFunc)⟩:=kr
theorem NY:au Tryz.prog 128=some ⟨false,1,8,some (.nilFunc)⟩:=kr
theorem Rc:au Tryz.prog 129=some ⟨false,1,8,some (.nilFunc)⟩:=kr
theorem RA:au Tryz.prog 130=some ⟨false,1,8,some (.nilFunc)⟩:=kr
theorem RJ:au Tryz.prog 131=some ⟨false,1,8,some (.nilFunc)⟩:=kr
theorem RY:au Tryz.prog 132=some ⟨false,1,24,some (.slice none 0 0)⟩:=kr
theorem Sb:au Tryz.prog 133=some ⟨false,1,8,some (.nilFunc)⟩:=kr
theorem PJ:au Tryz.prog 134=some ⟨false,1,8,some (.nilFunc)⟩:=kr
theorem Rb:au Tryz.prog 135=some ⟨true,4,56,some (.agg #[.int .i64 0,.string ⟨#[]⟩,.int .i64 0,.slice none 0 0])⟩:=kr
theorem GF:ar Tryz.prog 135 0=some (0,3):=kr
theorem Ij:ar Tryz.prog 135 1=some (1,9):=kr
theorem GQ:ar Tryz.prog 135 2=some (2,3):=kr
theorem If:ar Tryz.prog 135 3=some (3,83):=kr
theorem Q1:placesOf Tryz.prog 135=some [(0,1),(1,1),(2,1),(3,1)]:=kr
theorem FR:au Tryz.prog 136=some ⟨true,4,56,some (.agg #[.int .i64 0,.string ⟨#[]⟩,.int .i64 0,.slice none 0 0])⟩:=kr
theorem H9:ar Tryz.prog 136 0=some (0,3):=kr
theorem H8:ar Tryz.prog 136 1=some (1,9):=kr
theorem Ie:ar Tryz.prog 136 2=some (2,3):=kr
theorem HP:ar Tryz.prog 136 3=some (3,83):=kr
theorem Q4:placesOf Tryz.prog 136=some [(0,1),(1,1),(2,1),(3,1)]:=kr
theorem PQ:au Tryz.prog 137=some ⟨false,1,8,some (.pointer none)⟩:=kr
theorem PA:au Tryz.prog 138=some ⟨false,1,8,some (.nilFunc)⟩:=kr
theorem Qb:au Tryz.prog 139=some ⟨false,1,8,some (.nilFunc)⟩:=kr
theorem Rz:au Tryz.prog 140=some ⟨false,1,8,some (.nilFunc)⟩:=kr
theorem Q3:au Tryz.prog 141=some ⟨false,1,8,some (.nilFunc)⟩:=kr
theorem Qs:au Tryz.prog 142=some ⟨false,1,8,some (.nilFunc)⟩:=kr
theorem Pb:au Tryz.prog 143=some ⟨false,1,24,some (.slice none 0 0)⟩:=kr
theorem Qp:au Tryz.prog 144=some ⟨false,1,8,some (.nilFunc)⟩:=kr
theorem NV:au Tryz.prog 145=some ⟨false,1,8,some (.nilFunc)⟩:=kr
theorem QE:au Tryz.prog 146=some ⟨false,1,8,some (.nilFunc)⟩:=kr
theorem PS:au Tryz.prog 147=some ⟨false,1,8,some (.nilFunc)⟩:=kr
theorem O0:au Tryz.prog 148=some ⟨false,1,8,some (.nilFunc)⟩:=kr
theorem Pj:au Tryz.prog 149=some ⟨false,1,8,some (.nilFunc)⟩:=kr
theorem R5:au Tryz.prog 150=some ⟨false,1,8,some (.nilFunc)⟩:=kr
theorem PW:au Tryz.prog 151=some ⟨false,1,8,some (.nilFunc)⟩:=kr
theorem Ov:au Tryz.prog 152=some ⟨false,1,8,some (.nilFunc)⟩:=kr
theorem Qj:au Tryz.prog 153=some ⟨true,7,72,some (.agg #[.bool false,.string ⟨#[]⟩,.int .u64 0,.int .u64 0,.int .u64 0,.int .u64 0,.string ⟨#[]⟩])⟩:=kr
theorem Jq:ar Tryz.prog 153 0=some (0,4):=kr
theorem Hc:ar Tryz.prog 153 1=some (1,9):=kr
theorem HW:ar Tryz.prog 153 2=some (2,54):=kr
theorem Hy:ar Tryz.prog 153 3=some (6,9):=kr
theorem R7:placesOf Tryz.prog 153=some [(0,1),(1,1),(2,4),(6,1)]:=kr
theorem JU:au Tryz.prog 154=some ⟨true,7,72,some (.agg #[.bool false,.string ⟨#[]⟩,.int .u64 0,.int .u64 0,.int .u64 0,.int .u64 0,.string ⟨#[]⟩])⟩:=kr
theorem Io:ar Tryz.prog 154 0=some (0,4):=kr
theorem Ic:ar Tryz.prog 154 1=some (1,9):=kr
theorem IZ:ar Tryz.prog 154 2=some (2,54):=kr
theorem ID:ar Tryz.prog 154 3=some (6,9):=kr
theorem P1:placesOf Tryz.prog 154=some [(0,1),(1,1),(2,4),(6,1)]:=kr
theorem R6:au Tryz.prog 155=some ⟨false,1,8,some (.nilFunc)⟩:=kr
theorem Pm:au Tryz.prog 157=some ⟨false,1,8,some (.nilFunc)⟩:=kr
theorem Rj:au Tryz.prog 158=some ⟨false,1,8,some (.nilFunc)⟩:=kr
theorem Qo:au Tryz.prog 159=some ⟨false,1,8,some (.nilFunc)⟩:=kr
theorem OX:au Tryz.prog 160=some ⟨false,1,8,some (.nilFunc)⟩:=kr
theorem Rr:au Tryz.prog 161=some ⟨false,1,8,some (.nilFunc)⟩:=kr
theorem OL:au Tryz.prog 162=some ⟨false,1,8,some (.nilFunc)⟩:=kr
theorem Pz:au Tryz.prog 163=some ⟨false,1,8,some (.nilFunc)⟩:=kr
theorem OA:au Tryz.prog 164=some ⟨false,1,8,some (.pointer none)⟩:=kr
theorem O2:au Tryz.prog 165=some ⟨false,1,8,some (.map none)⟩:=kr
theorem PP:au Tryz.prog 166=some ⟨false,1,8,some (.nilFunc)⟩:=kr
theorem RR:au Tryz.prog 167=some ⟨false,1,8,some (.nilFunc)⟩:=kr
theorem QZ:au Tryz.prog 168=some ⟨false,1,8,some (.nilFunc)⟩:=kr
theorem P0:au Tryz.prog 169=some ⟨false,1,8,some (.nilFunc)⟩:=kr
theorem QU:au Tryz.prog 170=some ⟨false,1,24,some (.slice none 0 0)⟩:=kr
theorem Sa:au Tryz.prog 172=some ⟨false,1,8,some (.nilFunc)⟩:=kr
theorem Of:au Tryz.prog 173=some ⟨false,1,8,some (.nilFunc)⟩:=kr
theorem OM:au Tryz.prog 174=some ⟨false,1,8,some (.nilFunc)⟩:=kr
theorem O9:au Tryz.prog 175=some ⟨false,1,8,some (.nilFunc)⟩:=kr
theorem Qy:au Tryz.prog 176=some ⟨false,1,8,some (.nilFunc)⟩:=kr
theorem Pg:au Tryz.prog 177=some ⟨false,1,8,some (.nilFunc)⟩:=kr
theorem Qe:au Tryz.prog 178=some ⟨false,1,24,some (.slice none 0 0)⟩:=kr
theorem QS:au Tryz.prog 180=some ⟨false,1,8,some (.nilFunc)⟩:=kr
theorem Oa:au Tryz.prog 181=some ⟨false,1,8,some (.nilFunc)⟩:=kr
theorem RZ:au Tryz.prog 182=some ⟨false,1,8,some (.nilFunc)⟩:=kr
theorem Oq:au Tryz.prog 183=some ⟨false,1,8,some (.nilFunc)⟩:=kr
theorem Rk:au Tryz.prog 184=some ⟨false,1,8,some (.nilFunc)⟩:=kr
theorem Oy:au Tryz.prog 185=some ⟨false,1,8,some (.nilFunc)⟩:=kr
theorem RT:au Tryz.prog 186=some ⟨false,1,8,some (.nilFunc)⟩:=kr
theorem Q6:au Tryz.prog 187=some ⟨false,1,8,some (.nilFunc)⟩:=kr
theorem Qk:au Tryz.prog 188=some ⟨false,1,8,some (.nilFunc)⟩:=kr
theorem Rs:au Tryz.prog 189=some ⟨true,9,184,some (.agg #[.string ⟨#[]⟩,.string ⟨#[]⟩,.slice none 0 0,.slice none 0 0,.slice none 0 0,.slice none 0 0,.slice none 0 0,.slice none 0 0,.map none])⟩:=kr
theorem Jr:ar Tryz.prog 189 0=some (0,28):=kr
theorem Jk:ar Tryz.prog 189 1=some (7,36):=kr
theorem GR:ar Tryz.prog 189 2=some (8,90):=kr
theorem Qx:placesOf Tryz.prog 189=some [(0,7),(7,1),(8,1)]:=kr
theorem Qm:au Tryz.prog 190=some ⟨true,9,184,some (.agg #[.string ⟨#[]⟩,.string ⟨#[]⟩,.slice none 0 0,.slice none 0 0,.slice none 0 0,.slice none 0 0,.slice none 0 0,.slice none 0 0,.map none])⟩:=kr
theorem G8:ar Tryz.prog 190 0=some (0,28):=kr
theorem Ir:ar Tryz.prog 190 1=some (7,36):=kr
theorem G9:ar Tryz.prog 190 2=some (8,90):=kr
theorem NX:placesOf Tryz.prog 190=some [(0,7),(7,1),(8,1)]:=kr
theorem Pd:au Tryz.prog 191=some ⟨false,1,8,some (.nilFunc)⟩:=kr
theorem PD:au Tryz.prog 192=some ⟨false,1,8,some (.nilFunc)⟩:=kr
theorem Ra:au Tryz.prog 193=some ⟨false,1,8,some (.nilFunc)⟩:=kr
theorem Qd:au Tryz.prog 194=some ⟨false,1,8,some (.nilFunc)⟩:=kr
theorem QO:au Tryz.prog 195=some ⟨false,1,8,some (.nilFunc)⟩:=kr
theorem PY:au Tryz.prog 196=some ⟨false,1,8,some (.pointer none)⟩:=kr
theorem ON:au Tryz.prog 197=some ⟨false,1,8,some (.pointer none)⟩:=kr
theorem OV:au Tryz.prog 198=some ⟨false,1,8,some (.int .u64 0)⟩:=kr
theorem Re:au Tryz.prog 199=some ⟨false,1,8,some (.nilFunc)⟩:=kr
theorem RN:au Tryz.prog 200=some ⟨false,1,8,some (.nilFunc)⟩:=kr
theorem Qn:au Tryz.prog 201=some ⟨false,1,8,some (.map none)⟩:=kr
theorem Ow:au Tryz.prog 202=some ⟨true,2,16,some (.agg #[.int .i64 0,.int .i64 0])⟩:=kr
theorem Hi:ar Tryz.prog 202 0=some (0,3):=kr
theorem Iz:ar Tryz.prog 202 1=some (1,3):=kr
theorem PM:placesOf Tryz.prog 202=some [(0,1),(1,1)]:=kr
theorem Pu:au Tryz.prog 203=some ⟨true,2,16,some (.agg #[.int .i64 0,.int .i64 0])⟩:=kr
theorem Jz:ar Tryz.prog 203 0=some (0,3):=kr
theorem IJ:ar Tryz.prog 203 1=some (1,3):=kr
theorem Qq:placesOf Tryz.prog 203=some [(0,1),(1,1)]:=kr
theorem Q5:au Tryz.prog 204=some ⟨false,1,8,some (.nilFunc)⟩:=kr
theorem Ql:au Tryz.prog 205=some ⟨false,1,8,some (.nilFunc)⟩:=kr
theorem O7:au Tryz.prog 206=some ⟨false,1,8,some (.nilFunc)⟩:=kr
theorem Q8:au Tryz.prog 207=some ⟨false,1,8,some (.nilFunc)⟩:=kr
theorem QH:au Tryz.prog 208=some ⟨false,1,8,some (.nilFunc)⟩:=kr
theorem OY:au Tryz.prog 209=some ⟨false,1,8,some (.nilFunc)⟩:=kr
theorem Qc:au Tryz.prog 210=some ⟨false,1,24,some (.slice none 0 0)⟩:=kr
theorem RF:au Tryz.prog 211=some ⟨false,1,8,some (.nilFunc)⟩:=kr
theorem Rf:au Tryz.prog 212=some ⟨false,1,8,some (.nilFunc)⟩:=kr
theorem Pc:au Tryz.prog 213=some ⟨true,2,16,some (.agg #[.int .i64 0,.int .i64 0])⟩:=kr
theorem Hr:ar Tryz.prog 213 0=some (0,3):=kr
theorem GH:ar Tryz.prog 213 1=some (1,3):=kr
theorem QQ:placesOf Tryz.prog 213=some [(0,1),(1,1)]:=kr
theorem RB:au Tryz.prog 214=some ⟨true,2,16,some (.agg #[.int .i64 0,.int .i64 0])⟩:=kr
theorem Ja:ar Tryz.prog 214 0=some (0,3):=kr
theorem Jp:ar Tryz.prog 214 1=some (1,3):=kr
theorem Pa:placesOf Tryz.prog 214=some [(0,1),(1,1)]:=kr
theorem O5:au Tryz.prog 215=some ⟨false,1,8,some (.nilFunc)⟩:=kr
theorem Qt:au Tryz.prog 216=some ⟨false,1,8,some (.nilFunc)⟩:=kr
theorem PC:au Tryz.prog 217=some ⟨false,1,8,some (.nilFunc)⟩:=kr
theorem Qz:au Tryz.prog 218=some ⟨false,1,8,some (.nilFunc)⟩:=kr
theorem Oz:au Tryz.prog 219=some ⟨false,1,8,some (.nilFunc)⟩:=kr
theorem QD:au Tryz.prog 220=some ⟨false,1,8,some (.nilFunc)⟩:=kr
theorem Pf:au Tryz.prog 221=some ⟨false,1,8,some (.nilFunc)⟩:=kr
theorem QF:au Tryz.prog 222=some ⟨false,1,8,some (.nilFunc)⟩:=kr
theorem Og:au Tryz.prog 223=some ⟨false,1,8,some (.nilFunc)⟩:=kr
theorem Qw:au Tryz.prog 224=some ⟨false,1,8,some (.nilFunc)⟩:=kr
theorem RH:au Tryz.prog 225=some ⟨false,1,8,some (.nilFunc)⟩:=kr
theorem PT:au Tryz.prog 226=some ⟨false,1,8,some (.pointer none)⟩:=kr
theorem QP:au Tryz.prog 227=some ⟨true,2,32,some (.agg #[.pointer none,.slice none 0 0])⟩:=kr
theorem Il:ar Tryz.prog 227 0=some (0,226):=kr
theorem Jh:ar Tryz.prog 227 1=some (1,178):=kr
theorem Ox:placesOf Tryz.prog 227=some [(0,1),(1,1)]:=kr
theorem OU:au Tryz.prog 228=some ⟨true,2,32,some (.agg #[.pointer none,.slice none 0 0])⟩:=kr
theorem GU:ar Tryz.prog 228 0=some (0,226):=kr
theorem H6:ar Tryz.prog 228 1=some (1,178):=kr
theorem QX:placesOf Tryz.prog 228=some [(0,1),(1,1)]:=kr
theorem RE:au Tryz.prog 229=some ⟨false,1,16,some (.nilIface)⟩:=kr
theorem Ro:au Tryz.prog 230=some ⟨false,1,16,some (.nilIface)⟩:=kr
theorem Rh:au Tryz.prog 231=some ⟨false,1,8,some (.nilFunc)⟩:=kr
theorem RO:au Tryz.prog 233=some ⟨false,1,8,some (.nilFunc)⟩:=kr
theorem RL:au Tryz.prog 234=some ⟨false,1,8,some (.nilFunc)⟩:=kr
theorem QJ:au Tryz.prog 235=some ⟨false,1,8,some (.nilFunc)⟩:=kr
theorem P5:au Tryz.prog 236=some ⟨false,1,8,some (.int .i64 0)⟩:=kr
theorem Q2:au Tryz.prog 238=some ⟨false,1,8,some (.nilFunc)⟩:=kr
theorem Rg:au Tryz.prog 239=some ⟨false,1,8,some (.nilFunc)⟩:=kr
theorem Pk:au Tryz.prog 240=some ⟨false,1,8,some (.nilFunc)⟩:=kr
theorem Px:au Tryz.prog 241=some ⟨false,1,8,some (.nilFunc)⟩:=kr
theorem RG:au Tryz.prog 242=some ⟨false,1,8,some (.nilFunc)⟩:=kr
theorem RU:au Tryz.prog 243=some ⟨false,1,4,some (.int .u32 0)⟩:=kr
theorem Pe:au Tryz.prog 244=some ⟨false,1,8,some (.nilFunc)⟩:=kr
theorem Pp:au Tryz.prog 245=some ⟨false,1,8,some (.nilFunc)⟩:=kr
theorem OG:au Tryz.prog 246=some ⟨false,1,8,some (.nilFunc)⟩:=kr
theorem RD:au Tryz.prog 247=some ⟨false,1,8,some (.nilFunc)⟩:=kr
theorem R8:au Tryz.prog 248=some ⟨false,1,8,some (.nilFunc)⟩:=kr
theorem Qf:au Tryz.prog 249=some ⟨false,1,8,some (.nilFunc)⟩:=kr
theorem QR:au Tryz.prog 251=some ⟨false,1,8,some (.nilFunc)⟩:=kr
theorem Ol:au Tryz.prog 252=some ⟨false,1,8,some (.nilFunc)⟩:=kr
theorem Oh:au Tryz.prog 253=some ⟨false,1,8,some (.nilFunc)⟩:=kr
theorem Pt:au Tryz.prog 254=some ⟨false,1,8,some (.nilFunc)⟩:=kr
theorem Ou:au Tryz.prog 255=some ⟨false,1,8,some (.pointer none)⟩:=kr
theorem Rv:au Tryz.prog 256=some ⟨false,1,8,some (.int .u64 0)⟩:=kr
theorem Oj:au Tryz.prog 257=some ⟨false,1,8,some (.nilFunc)⟩:=kr
theorem PB:au Tryz.prog 258=some ⟨false,1,8,some (.nilFunc)⟩:=kr
theorem OH:au Tryz.prog 259=some ⟨false,1,8,some (.nilFunc)⟩:=kr
theorem Od:au Tryz.prog 260=some ⟨false,1,8,some (.nilFunc)⟩:=kr
theorem OP:au Tryz.prog 261=some ⟨false,1,8,some (.nilFunc)⟩:=kr
theorem QI:au Tryz.prog 262=some ⟨false,1,8,some (.nilFunc)⟩:=kr
theorem QN:au Tryz.prog 265=some ⟨false,1,8,some (.pointer none)⟩:=kr
theorem Oe:au Tryz.prog 266=some ⟨false,1,8,some (.nilFunc)⟩:=kr
theorem O6:au Tryz.prog 272=some ⟨false,1,8,some (.nilFunc)⟩:=kr
theorem mixed:Tryz.prog.follows .mixedOrders=true:=kr
attribute [push_cast] Vd Vc NN Va NK E5 TW Uz Tr TL S9 Su Sz Ts Uu SL TQ Tg T5 To Uj Tn Ug Sv Te SI T9 TX UD SY TE SX SA Tx Tq TC Uh NA SP TJ RV Uq FU T7 Ub TA Sy Sw SV Ri T2 xX T0 PF TF Uk Lx Sp Th TN Ur Sx Tz TG Lv Uf Nh T3 SD Mr TS T1 Tf TY Tw TM Ux Uv Un TK UE SO Tl Pl Ru Q7 PH PU OF N9 PV Rq OC OE OB FL Ps D6 Oo Rw NZ N8 Oi Ot OI P7 OS QC RQ NY Rc RA RJ RY Sb PJ Rb FR PQ PA Qb Rz Q3 Qs Pb Qp NV QE PS O0 Pj R5 PW Ov Qj JU R6 Pm Rj Qo OX Rr OL Pz OA O2 PP RR QZ P0 QU Sa Of OM O9 Qy Pg Qe QS Oa RZ Oq Rk Oy RT Q6 Qk Rs Qm Pd PD Ra Qd QO PY ON OV Re RN Qn Ow Pu Q5 Ql O7 Q8 QH OY Qc RF Rf Pc RB O5 Qt PC Qz Oz QD Pf QF Og Qw RH PT QP OU RE Ro Rh RO RL QJ P5 Q2 Rg Pk Px RG RU Pe Pp OG RD R8 Qf QR Ol Oh Pt Ou Rv Oj PB OH Od OP QI QN Oe O6 KU L9 Ml Km Kt Kf La Ud LF K9 KW Lm LN ME M4 Tu Lq Kq LH SE MG Lt Me SK J9 Ku J2 Ue MI Lf Lc TR Kl MW J1 Nx LM Uo KG KE KH KT K7 SN Mg LV M0 Kj Mx Uw Kv Nd Kw J5 Kg TD Lz Ld Ns MY Kd Tp Nj Kh Kc Mw MA SM M2 MD Tb J3 Mj Tt Kz J7 S4 MU LX SU MP Mn Nl Nr Sr M9 LQ Mp Nn Ss MX KI Li T8 Le Ke MC TB J8 Na UA KJ LS Tj KL MM T6 Nu Kb Um Ll Np ML Kp Lh TT KN LJ L8 Mh Lg TP Nq Mm Lj Lk Tk Jm Hz Ix G5 RP Ib G0 GN HC Qv IH G7 Jf GG QB IQ HY Ob HQ IP Ry Iy I0 Qh IY Hq P9 GF Ij GQ If Q1 H9 H8 Ie HP Q4 Jq Hc HW Hy R7 Io Ic IZ ID P1 Jr Jk GR Qx G8 Ir G9 NX Hi Iz PM Jz IJ Qq Hr GH QQ Ja Jp Pa Il Jh Ox GU H6 QX Tryz.underlying1 Tryz.underlying2 Tryz.underlying3 Tryz.underlying4 Tryz.underlying5 Tryz.underlying9 Tryz.underlying12 Tryz.underlying20 Tryz.underlying21 Tryz.underlying22 Tryz.underlying23 Tryz.underlying24 Tryz.underlying25 Tryz.underlying26 Tryz.underlying27 Tryz.underlying28 Tryz.underlying29 Tryz.underlying30 Tryz.underlying31 Tryz.underlying32 Tryz.underlying33 Tryz.underlying34 Tryz.underlying35 Tryz.underlying36 Tryz.underlying37 Tryz.underlying38 Tryz.underlying39 Tryz.underlying40 Tryz.underlying41 Tryz.underlying42 Tryz.underlying43 Tryz.underlying44 Tryz.underlying46 Tryz.underlying47 Tryz.underlying48 Tryz.underlying49 Tryz.underlying50 Tryz.underlying51 Tryz.underlying52 Tryz.underlying53 Tryz.underlying54 Tryz.underlying55 Tryz.underlying56 Tryz.underlying57 Tryz.underlying58 Tryz.underlying59 Tryz.underlying60 Tryz.underlying61 Tryz.underlying62 Tryz.underlying63 Tryz.underlying64 Tryz.underlying65 Tryz.underlying66 Tryz.underlying67 Tryz.underlying68 Tryz.underlying69 Tryz.underlying70 Tryz.underlying71 Tryz.underlying72 Tryz.underlying73 Tryz.underlying74 Tryz.underlying76 Tryz.underlying78 Tryz.underlying79 Tryz.underlying80 Tryz.underlying81 Tryz.underlying82 Tryz.underlying83 Tryz.underlying84 Tryz.underlying85 Tryz.underlying86 Tryz.underlying88 Tryz.underlying89 Tryz.underlying90 Tryz.underlying91 Tryz.underlying92 Tryz.underlying93 Tryz.underlying94 Tryz.underlying95 Tryz.underlying96 Tryz.underlying97 Tryz.underlying98 Tryz.underlying99 Tryz.underlying100 Tryz.underlying101 Tryz.underlying102 Tryz.underlying103 Tryz.underlying104 Tryz.underlying105 Tryz.underlying106 Tryz.underlying107 Tryz.underlying108 Tryz.underlying109 Tryz.underlying110 Tryz.underlying111 Tryz.underlying112 Tryz.underlying113 Tryz.underlying114 Tryz.underlying115 Tryz.underlying116 Tryz.underlying117 Tryz.underlying118 Tryz.underlying119 Tryz.underlying120 Tryz.underlying121 Tryz.underlying122 Tryz.underlying124 Tryz.underlying125 Tryz.underlying127 Tryz.underlying128 Tryz.underlying129 Tryz.underlying130 Tryz.underlying131 Tryz.underlying132 Tryz.underlying133 Tryz.underlying134 Tryz.underlying135 Tryz.underlying136 Tryz.underlying137 Tryz.underlying138 Tryz.underlying139 Tryz.underlying140 Tryz.underlying141 Tryz.underlying142 Tryz.underlying143 Tryz.underlying144 Tryz.underlying145 Tryz.underlying146 Tryz.underlying147 Tryz.underlying148 Tryz.underlying149 Tryz.underlying150 Tryz.underlying151 Tryz.underlying152 Tryz.underlying153 Tryz.underlying154 Tryz.underlying155 Tryz.underlying157 Tryz.underlying158 Tryz.underlying159 Tryz.underlying160 Tryz.underlying161 Tryz.underlying162 Tryz.underlying163 Tryz.underlying164 Tryz.underlying165 Tryz.underlying166 Tryz.underlying167 Tryz.underlying168 Tryz.underlying169 Tryz.underlying170 Tryz.underlying172 Tryz.underlying173 Tryz.underlying174 Tryz.underlying175 Tryz.underlying176 Tryz.underlying177 Tryz.underlying178 Tryz.underlying180 Tryz.underlying181 Tryz.underlying182 Tryz.underlying183 Tryz.underlying184 Tryz.underlying185 Tryz.underlying186 Tryz.underlying187 Tryz.underlying188 Tryz.underlying189 Tryz.underlying190 Tryz.underlying191 Tryz.underlying192 Tryz.underlying193 Tryz.underlying194 Tryz.underlying195 Tryz.underlying196 Tryz.underlying197 Tryz.underlying198 Tryz.underlying199 Tryz.underlying200 Tryz.underlying201 Tryz.underlying202 Tryz.underlying203 Tryz.underlying204 Tryz.underlying205 Tryz.underlying206 Tryz.underlying207 Tryz.underlying208 Tryz.underlying209 Tryz.underlying210 Tryz.underlying211 Tryz.underlying212 Tryz.underlying213 Tryz.underlying214 Tryz.underlying215 Tryz.underlying216 Tryz.underlying217 Tryz.underlying218 Tryz.underlying219 Tryz.underlying220 Tryz.underlying221 Tryz.underlying222 Tryz.underlying223 Tryz.underlying224 Tryz.underlying225 Tryz.underlying226 Tryz.underlying227 Tryz.underlying228 Tryz.underlying229 Tryz.underlying230 Tryz.underlying231 Tryz.underlying233 Tryz.underlying234 Tryz.underlying235 Tryz.underlying236 Tryz.underlying238 Tryz.underlying239 Tryz.underlying240 Tryz.underlying241 Tryz.underlying242 Tryz.underlying243 Tryz.underlying244 Tryz.underlying245 Tryz.underlying246 Tryz.underlying247 Tryz.underlying248 Tryz.underlying249 Tryz.underlying251 Tryz.underlying252 Tryz.underlying253 Tryz.underlying254 Tryz.underlying255 Tryz.underlying256 Tryz.underlying257 Tryz.underlying258 Tryz.underlying259 Tryz.underlying260 Tryz.underlying261 Tryz.underlying262 Tryz.underlying265 Tryz.underlying266 Tryz.underlying272
end Go.Proofs.YtmdmimkbpikmoaaGreat.Ty
namespace Go.Proofs.YtmdmimkbpikmoaaGreat
open Go.RowKit Am Ty
theorem zu {R P:Prop} (k:R) (h:R→P:=by intro z0;(repeat (first|apply zs|apply zr|apply zn|apply zq|apply zb|apply zo|apply zk|apply zl));exact z0):P:=h k
theorem zh {P:Prop} (h:P:=by repeat (first|exact trivial|(refine⟨.inl ⟨by decide,rfl⟩,?_⟩) | (refine⟨.inr ⟨rfl,by simp⟩,?_⟩))):P:=h
theorem fe {N:Am.Env} {f:FuncId} {fn:Func} {c:Code} {args:List Value} {h:ai} {K:Value→ai→Prop} (hf:N.P.funcs[f]? = some fn) (k:CW N c ⟨ul args,[],h⟩ (QG N fn K)) (hb:fn.body=some c:=by rfl) (hd:ei fn.ntmps c=true:=by kernel_rfl) (hl:decide (args.length≤fn.ntmps)=true:=by kernel_rfl):FW N f args h K:=F3 hf hb hd (of_decide_eq_true hl) k
theorem zj {N:Am.Env} {all:Array Oper} {o:Oper} {r:List Oper} {s:St} {K:St→Prop} {f:FuncId} {cap args:List Value} {fn:Func} (hf:N.P.funcs[f]? = some fn) (k:FW N f (args++cap) s.h fun v h'=>OW N all r ({ s with h:=h' }.a9 o.dst (.val v)) K) (h:Bz all o s=some (f,cap,args):=by simp only[push_cast,env,Nat.reduceEqDiff,reduceIte]<;>exact rfl) (hnm:(fn.name == "runtime.NumGoroutine")=false:=by kernel_rfl) (hb:fn.body.isNone=false:=by kernel_rfl):OW N all (o :: r) s K:=zc h hf hnm hb k
theorem oA {P:Prop}  (h:P:=by simp only[push_cast,env,Nat.reduceEqDiff,reduceIte,Nat.reduceAdd,Nat.reduceMul,Nat.reduceLeDiff,reduceCtorEq,Nat.reduceSub,Int.reduceToNat]<;>first|exact rfl|exact .inl rfl|exact .inr rfl):P:=h
theorem Si {A P:Prop} (z1:A) (h:A→P:=by intro z1;simp only[push_cast,env,Nat.reduceEqDiff,reduceIte,Nat.reduceAdd,Nat.reduceMul,Nat.reduceLeDiff,reduceCtorEq,Nat.reduceSub,Int.reduceToNat,z1]<;>first|exact rfl|exact .inl rfl|exact .inr rfl):P:=h z1
theorem Vp {A B P:Prop} (z1:A) (z2:B) (h:A→B→P:=by intro z1 z2;simp only[push_cast,env,Nat.reduceEqDiff,reduceIte,Nat.reduceAdd,Nat.reduceMul,Nat.reduceLeDiff,reduceCtorEq,Nat.reduceSub,Int.reduceToNat,z1,z2]<;>first|exact rfl|exact .inl rfl|exact .inr rfl):P:=h z1 z2
theorem Pn {A B C P:Prop} (z1:A) (z2:B) (z3:C) (h:A→B→C→P:=by intro z1 z2 z3;simp only[push_cast,env,Nat.reduceEqDiff,reduceIte,Nat.reduceAdd,Nat.reduceMul,Nat.reduceLeDiff,reduceCtorEq,Nat.reduceSub,Int.reduceToNat,z1,z2,z3]<;>first|exact rfl|exact .inl rfl|exact .inr rfl):P:=h z1 z2 z3
theorem UX {A B C D P:Prop} (z1:A) (z2:B) (z3:C) (z4:D) (h:A→B→C→D→P:=by intro z1 z2 z3 z4;simp only[push_cast,env,Nat.reduceEqDiff,reduceIte,Nat.reduceAdd,Nat.reduceMul,Nat.reduceLeDiff,reduceCtorEq,Nat.reduceSub,Int.reduceToNat,z1,z2,z3,z4]<;>first|exact rfl|exact .inl rfl|exact .inr rfl):P:=h z1 z2 z3 z4
theorem Vr {A B C D E P:Prop} (z1:A) (z2:B) (z3:C) (z4:D) (z5:E) (h:A→B→C→D→E→P:=by intro z1 z2 z3 z4 z5;simp only[push_cast,env,Nat.reduceEqDiff,reduceIte,Nat.reduceAdd,Nat.reduceMul,Nat.reduceLeDiff,reduceCtorEq,Nat.reduceSub,Int.reduceToNat,z1,z2,z3,z4,z5]<;>first|exact rfl|exact .inl rfl|exact .inr rfl):P:=h z1 z2 z3 z4 z5
theorem VB {A B C D E F P:Prop} (z1:A) (z2:B) (z3:C) (z4:D) (z5:E) (z6:F) (h:A→B→C→D→E→F→P:=by intro z1 z2 z3 z4 z5 z6;simp only[push_cast,env,Nat.reduceEqDiff,reduceIte,Nat.reduceAdd,Nat.reduceMul,Nat.reduceLeDiff,reduceCtorEq,Nat.reduceSub,Int.reduceToNat,z1,z2,z3,z4,z5,z6]<;>first|exact rfl|exact .inl rfl|exact .inr rfl):P:=h z1 z2 z3 z4 z5 z6
theorem VF {A B C D E F G P:Prop} (z1:A) (z2:B) (z3:C) (z4:D) (z5:E) (z6:F) (z7:G) (h:A→B→C→D→E→F→G→P:=by intro z1 z2 z3 z4 z5 z6 z7;simp only[push_cast,env,Nat.reduceEqDiff,reduceIte,Nat.reduceAdd,Nat.reduceMul,Nat.reduceLeDiff,reduceCtorEq,Nat.reduceSub,Int.reduceToNat,z1,z2,z3,z4,z5,z6,z7]<;>first|exact rfl|exact .inl rfl|exact .inr rfl):P:=h z1 z2 z3 z4 z5 z6 z7
theorem Vx {A B C D E F G H P:Prop} (z1:A) (z2:B) (z3:C) (z4:D) (z5:E) (z6:F) (z7:G) (z8:H) (h:A→B→C→D→E→F→G→H→P:=by intro z1 z2 z3 z4 z5 z6 z7 z8;simp only[push_cast,env,Nat.reduceEqDiff,reduceIte,Nat.reduceAdd,Nat.reduceMul,Nat.reduceLeDiff,reduceCtorEq,Nat.reduceSub,Int.reduceToNat,z1,z2,z3,z4,z5,z6,z7,z8]<;>first|exact rfl|exact .inl rfl|exact .inr rfl):P:=h z1 z2 z3 z4 z5 z6 z7 z8
theorem Vz {A B C D E F G H I P:Prop} (z1:A) (z2:B) (z3:C) (z4:D) (z5:E) (z6:F) (z7:G) (z8:H) (z9:I) (h:A→B→C→D→E→F→G→H→I→P:=by intro z1 z2 z3 z4 z5 z6 z7 z8 z9;simp only[push_cast,env,Nat.reduceEqDiff,reduceIte,Nat.reduceAdd,Nat.reduceMul,Nat.reduceLeDiff,reduceCtorEq,Nat.reduceSub,Int.reduceToNat,z1,z2,z3,z4,z5,z6,z7,z8,z9]<;>first|exact rfl|exact .inl rfl|exact .inr rfl):P:=h z1 z2 z3 z4 z5 z6 z7 z8 z9
theorem VD {P:Prop}  (h:P:=by (repeat (first|exact aQ.nil _|(apply aQ.cons;(·apply zz;simp only[push_cast,env,Nat.reduceEqDiff,reduceIte,Nat.reduceAdd,Nat.reduceMul,Nat.reduceLeDiff,reduceCtorEq,Nat.reduceSub,Int.reduceToNat]<;>exact rfl);(·rfl))))):P:=h
theorem VH {R P:Prop}  (k:R) (h:R→P:=by intro  z0;(repeat (first|exact aQ.nil _|(apply aQ.cons;(·apply zz;simp only[push_cast,env,Nat.reduceEqDiff,reduceIte,Nat.reduceAdd,Nat.reduceMul,Nat.reduceLeDiff,reduceCtorEq,Nat.reduceSub,Int.reduceToNat]<;>exact rfl);(·rfl))));exact z0):P:=h  k
theorem Cj {A P:Prop} (z1:A) (h:A→P:=by intro z1;(repeat (first|exact aQ.nil _|(apply aQ.cons;(·apply zz;simp only[push_cast,env,Nat.reduceEqDiff,reduceIte,Nat.reduceAdd,Nat.reduceMul,Nat.reduceLeDiff,reduceCtorEq,Nat.reduceSub,Int.reduceToNat,z1]<;>exact rfl);(·rfl))))):P:=h z1
theorem Vs {A R P:Prop} (z1:A) (k:R) (h:A→R→P:=by intro z1 z0;(repeat (first|exact aQ.nil _|(apply aQ.cons;(·apply zz;simp only[push_cast,env,Nat.reduceEqDiff,reduceIte,Nat.reduceAdd,Nat.reduceMul,Nat.reduceLeDiff,reduceCtorEq,Nat.reduceSub,Int.reduceToNat,z1]<;>exact rfl);(·rfl))));exact z0):P:=h z1 k
theorem rS {A B P:Prop} (z1:A) (z2:B) (h:A→B→P:=by intro z1 z2;(repeat (first|exact aQ.nil _|(apply aQ.cons;(·apply zz;simp only[push_cast,env,Nat.reduceEqDiff,reduceIte,Nat.reduceAdd,Nat.reduceMul,Nat.reduceLeDiff,reduceCtorEq,Nat.reduceSub,Int.reduceToNat,z1,z2]<;>exact rfl);(·rfl))))):P:=h z1 z2
theorem Vw {A B R P:Prop} (z1:A) (z2:B) (k:R) (h:A→B→R→P:=by intro z1 z2 z0;(repeat (first|exact aQ.nil _|(apply aQ.cons;(·apply zz;simp only[push_cast,env,Nat.reduceEqDiff,reduceIte,Nat.reduceAdd,Nat.reduceMul,Nat.reduceLeDiff,reduceCtorEq,Nat.reduceSub,Int.reduceToNat,z1,z2]<;>exact rfl);(·rfl))));exact z0):P:=h z1 z2 k
theorem UJ {A B C P:Prop} (z1:A) (z2:B) (z3:C) (h:A→B→C→P:=by intro z1 z2 z3;(repeat (first|exact aQ.nil _|(apply aQ.cons;(·apply zz;simp only[push_cast,env,Nat.reduceEqDiff,reduceIte,Nat.reduceAdd,Nat.reduceMul,Nat.reduceLeDiff,reduceCtorEq,Nat.reduceSub,Int.reduceToNat,z1,z2,z3]<;>exact rfl);(·rfl))))):P:=h z1 z2 z3
theorem VG {A B C R P:Prop} (z1:A) (z2:B) (z3:C) (k:R) (h:A→B→C→R→P:=by intro z1 z2 z3 z0;(repeat (first|exact aQ.nil _|(apply aQ.cons;(·apply zz;simp only[push_cast,env,Nat.reduceEqDiff,reduceIte,Nat.reduceAdd,Nat.reduceMul,Nat.reduceLeDiff,reduceCtorEq,Nat.reduceSub,Int.reduceToNat,z1,z2,z3]<;>exact rfl);(·rfl))));exact z0):P:=h z1 z2 z3 k
theorem Vy {A B C D P:Prop} (z1:A) (z2:B) (z3:C) (z4:D) (h:A→B→C→D→P:=by intro z1 z2 z3 z4;(repeat (first|exact aQ.nil _|(apply aQ.cons;(·apply zz;simp only[push_cast,env,Nat.reduceEqDiff,reduceIte,Nat.reduceAdd,Nat.reduceMul,Nat.reduceLeDiff,reduceCtorEq,Nat.reduceSub,Int.reduceToNat,z1,z2,z3,z4]<;>exact rfl);(·rfl))))):P:=h z1 z2 z3 z4
theorem VA {A B C D R P:Prop} (z1:A) (z2:B) (z3:C) (z4:D) (k:R) (h:A→B→C→D→R→P:=by intro z1 z2 z3 z4 z0;(repeat (first|exact aQ.nil _|(apply aQ.cons;(·apply zz;simp only[push_cast,env,Nat.reduceEqDiff,reduceIte,Nat.reduceAdd,Nat.reduceMul,Nat.reduceLeDiff,reduceCtorEq,Nat.reduceSub,Int.reduceToNat,z1,z2,z3,z4]<;>exact rfl);(·rfl))));exact z0):P:=h z1 z2 z3 z4 k
theorem Vu {A B C D E P:Prop} (z1:A) (z2:B) (z3:C) (z4:D) (z5:E) (h:A→B→C→D→E→P:=by intro z1 z2 z3 z4 z5;(repeat (first|exact aQ.nil _|(apply aQ.cons;(·apply zz;simp only[push_cast,env,Nat.reduceEqDiff,reduceIte,Nat.reduceAdd,Nat.reduceMul,Nat.reduceLeDiff,reduceCtorEq,Nat.reduceSub,Int.reduceToNat,z1,z2,z3,z4,z5]<;>exact rfl);(·rfl))))):P:=h z1 z2 z3 z4 z5
theorem VE {A B C D E R P:Prop} (z1:A) (z2:B) (z3:C) (z4:D) (z5:E) (k:R) (h:A→B→C→D→E→R→P:=by intro z1 z2 z3 z4 z5 z0;(repeat (first|exact aQ.nil _|(apply aQ.cons;(·apply zz;simp only[push_cast,env,Nat.reduceEqDiff,reduceIte,Nat.reduceAdd,Nat.reduceMul,Nat.reduceLeDiff,reduceCtorEq,Nat.reduceSub,Int.reduceToNat,z1,z2,z3,z4,z5]<;>exact rfl);(·rfl))));exact z0):P:=h z1 z2 z3 z4 z5 k
theorem Vt {A B C D E F P:Prop} (z1:A) (z2:B) (z3:C) (z4:D) (z5:E) (z6:F) (h:A→B→C→D→E→F→P:=by intro z1 z2 z3 z4 z5 z6;(repeat (first|exact aQ.nil _|(apply aQ.cons;(·apply zz;simp only[push_cast,env,Nat.reduceEqDiff,reduceIte,Nat.reduceAdd,Nat.reduceMul,Nat.reduceLeDiff,reduceCtorEq,Nat.reduceSub,Int.reduceToNat,z1,z2,z3,z4,z5,z6]<;>exact rfl);(·rfl))))):P:=h z1 z2 z3 z4 z5 z6
theorem UF {A B C D E F R P:Prop} (z1:A) (z2:B) (z3:C) (z4:D) (z5:E) (z6:F) (k:R) (h:A→B→C→D→E→F→R→P:=by intro z1 z2 z3 z4 z5 z6 z0;(repeat (first|exact aQ.nil _|(apply aQ.cons;(·apply zz;simp only[push_cast,env,Nat.reduceEqDiff,reduceIte,Nat.reduceAdd,Nat.reduceMul,Nat.reduceLeDiff,reduceCtorEq,Nat.reduceSub,Int.reduceToNat,z1,z2,z3,z4,z5,z6]<;>exact rfl);(·rfl))));exact z0):P:=h z1 z2 z3 z4 z5 z6 k
theorem Vo {A B C D E F G P:Prop} (z1:A) (z2:B) (z3:C) (z4:D) (z5:E) (z6:F) (z7:G) (h:A→B→C→D→E→F→G→P:=by intro z1 z2 z3 z4 z5 z6 z7;(repeat (first|exact aQ.nil _|(apply aQ.cons;(·apply zz;simp only[push_cast,env,Nat.reduceEqDiff,reduceIte,Nat.reduceAdd,Nat.reduceMul,Nat.reduceLeDiff,reduceCtorEq,Nat.reduceSub,Int.reduceToNat,z1,z2,z3,z4,z5,z6,z7]<;>exact rfl);(·rfl))))):P:=h z1 z2 z3 z4 z5 z6 z7
theorem yX {A B C D E F G R P:Prop} (z1:A) (z2:B) (z3:C) (z4:D) (z5:E) (z6:F) (z7:G) (k:R) (h:A→B→C→D→E→F→G→R→P:=by intro z1 z2 z3 z4 z5 z6 z7 z0;(repeat (first|exact aQ.nil _|(apply aQ.cons;(·apply zz;simp only[push_cast,env,Nat.reduceEqDiff,reduceIte,Nat.reduceAdd,Nat.reduceMul,Nat.reduceLeDiff,reduceCtorEq,Nat.reduceSub,Int.reduceToNat,z1,z2,z3,z4,z5,z6,z7]<;>exact rfl);(·rfl))));exact z0):P:=h z1 z2 z3 z4 z5 z6 z7 k
theorem Vv {A B C D E F G H P:Prop} (z1:A) (z2:B) (z3:C) (z4:D) (z5:E) (z6:F) (z7:G) (z8:H) (h:A→B→C→D→E→F→G→H→P:=by intro z1 z2 z3 z4 z5 z6 z7 z8;(repeat (first|exact aQ.nil _|(apply aQ.cons;(·apply zz;simp only[push_cast,env,Nat.reduceEqDiff,reduceIte,Nat.reduceAdd,Nat.reduceMul,Nat.reduceLeDiff,reduceCtorEq,Nat.reduceSub,Int.reduceToNat,z1,z2,z3,z4,z5,z6,z7,z8]<;>exact rfl);(·rfl))))):P:=h z1 z2 z3 z4 z5 z6 z7 z8
theorem JI {A B C D E F G H R P:Prop} (z1:A) (z2:B) (z3:C) (z4:D) (z5:E) (z6:F) (z7:G) (z8:H) (k:R) (h:A→B→C→D→E→F→G→H→R→P:=by intro z1 z2 z3 z4 z5 z6 z7 z8 z0;(repeat (first|exact aQ.nil _|(apply aQ.cons;(·apply zz;simp only[push_cast,env,Nat.reduceEqDiff,reduceIte,Nat.reduceAdd,Nat.reduceMul,Nat.reduceLeDiff,reduceCtorEq,Nat.reduceSub,Int.reduceToNat,z1,z2,z3,z4,z5,z6,z7,z8]<;>exact rfl);(·rfl))));exact z0):P:=h z1 z2 z3 z4 z5 z6 z7 z8 k
theorem VC {A B C D E F G H I P:Prop} (z1:A) (z2:B) (z3:C) (z4:D) (z5:E) (z6:F) (z7:G) (z8:H) (z9:I) (h:A→B→C→D→E→F→G→H→I→P:=by intro z1 z2 z3 z4 z5 z6 z7 z8 z9;(repeat (first|exact aQ.nil _|(apply aQ.cons;(·apply zz;simp only[push_cast,env,Nat.reduceEqDiff,reduceIte,Nat.reduceAdd,Nat.reduceMul,Nat.reduceLeDiff,reduceCtorEq,Nat.reduceSub,Int.reduceToNat,z1,z2,z3,z4,z5,z6,z7,z8,z9]<;>exact rfl);(·rfl))))):P:=h z1 z2 z3 z4 z5 z6 z7 z8 z9
theorem Vq {A B C D E F G H I R P:Prop} (z1:A) (z2:B) (z3:C) (z4:D) (z5:E) (z6:F) (z7:G) (z8:H) (z9:I) (k:R) (h:A→B→C→D→E→F→G→H→I→R→P:=by intro z1 z2 z3 z4 z5 z6 z7 z8 z9 z0;(repeat (first|exact aQ.nil _|(apply aQ.cons;(·apply zz;simp only[push_cast,env,Nat.reduceEqDiff,reduceIte,Nat.reduceAdd,Nat.reduceMul,Nat.reduceLeDiff,reduceCtorEq,Nat.reduceSub,Int.reduceToNat,z1,z2,z3,z4,z5,z6,z7,z8,z9]<;>exact rfl);(·rfl))));exact z0):P:=h z1 z2 z3 z4 z5 z6 z7 z8 z9 k
abbrev zU:Value:=.int .u64 0
abbrev zE:Value:=.string ⟨#[]⟩
abbrev zN:Value:=.slice none 0 0
end Go.Proofs.YtmdmimkbpikmoaaGreat
namespace Go.Proofs.YtmdmimkbpikmoaaGreat.Am
open Go.RowKit
section
variable (N:Env) (call:FuncId→List Value→ai→Option (Value×ai)) (nm:FuncId→Bool) (dr:Array Oper→St→Option St)
def newObj (s:St) (d:Option Nat) (t:TypeId) (cs:List Value) (v:Addr→Value):St:={ s with h:=s.h++[ax.aq cs 0 true t] }.a9 d (.val (v ⟨s.h.length,0,some 0⟩))
def KV (s:St) (d:Option Nat) (x y:Operand) (t t2:TypeId):Option St:=
 match N.P.underlying t with
 | some (.slice e)=>match au N.P e with
   | some ti=>if t2=t∧0<ti.size∧(ti.zero.map fun z=>z.cells.size)=some ti.size then (match cJ s s.h ti.size y with
     | some (cs,m)=>match ev s x with
       | some (.slice none 0 0)=>if 0<m∧m*ti.bytes≤140737488355328∧m≤140737488355328 then some ({ s with h:=s.h++[ax.aq cs 0 true e] }.a9 d (.val (.slice (some ⟨s.h.length,0,some 0⟩) m m))) else none
       | some (.slice (some ⟨id,0,some av⟩) n _)=>match s.h[id]? with
         | some (.aq cells ver' true et)=>if ver'=av∧et=e∧n*ti.size≤cells.length∧(n+m)*ti.bytes≤140737488355328∧n+m≤140737488355328 then
          some ({ s with h:=s.h.set id (ax.aq (cells.take (n*ti.size)++cs) (av+1) true e) }.a9 d (.val (.slice (some ⟨id,0,some (av+1)⟩) (n+m) (n+m)))) else none
         | _=>none
       | _=>none
     | none=>none) else none
   | none=>none
 | _=>none
def KQ (s:St) (d:Option Nat) (x y:Operand) (t t2:TypeId):Option St:=
 match N.P.underlying t,ev s x,ev s y with
 | some (.slice e),some (.slice p n c),some (.slice q 0 c')=>match au N.P e with
   | some _=>if t2=t then some (s.a9 d (.val (.slice p n c))) else none
   | none=>none
 | _,_,_=>none
def Rx (s:St) (t:TypeId) (a x:Operand):Option St:=
 match au N.P t,ev s a,ev s x with
 | some ti,some (.pointer (some ⟨id,off,some av⟩)),some v=>match s.h[id]?,ee ti.size v with
   | some (.aq cells ver' true et),some vs=>if ver'=av then (lL cells off vs).map fun cells'=>{ s with h:=s.h.set id (ax.aq cells' av true et) } else none
   | _,_=>none
 | _,_,_=>none
def BY (s:St) (t:TypeId) (x:Operand):Option (Nat×List (Value×Value)×(Value→Bool)×TypeId):=
 match N.P.underlying t,ev s x with
 | some (.map kt et),some (.map (some id))=>match N.keys kt,s.h[id]? with
   | some kd,some (.map es)=>if eB kd es then some (id,es,kd,et) else none
   | _,_=>none
 | _,_=>none
def PL (s:St) (t:TypeId) (x i y:Operand):Option St:=
 match BY N s t x,ev s i,ev s y with
 | some (id,es,kd,_),some k,some v=>if kd k then some { s with h:=s.h.set id (ax.map (iT es k v)) } else none
 | _,_,_=>none
def OQ (s:St) (d:Option Nat) (t:TypeId) (x i:Operand):Option St:=
 match BY N s t x,ev s i with
 | some (id,es,kd,et),some k=>match zeroOf N.P et with
   | some z=>if kd k then some ({ s with h:=s.h.set id (ax.map (pA es k z).2.2) }.a9 d (.val (.tuple #[(pA es k z).1,.int .i64 (pA es k z).2.1]))) else none
   | none=>none
 | _,_=>none
def P6 (s:St) (x i y:Operand):Option St:=
 match ev s x,ev s i,ev s y with
 | some (.map (some id)),some (.int .i64 (.ofNat j)),some v=>match s.h[id]? with
   | some (.map es)=>match es[j]? with
     | some (k,_)=>some { s with h:=s.h.set id (ax.map (es.set j (k,v))) }
     | none=>none
   | _=>none
 | _,_,_=>none
def FM (all:Array Oper) (o:Oper) (s:St):Option St:=
 match aE all o s with
 | none=>none
 | some false=>some (s.a9 o.dst (.val (.tuple #[])))
 | some true=>match o.op with
   | .box t x=>(hZ N s (.box t x)).map fun p=>newObj s o.dst p.1 p.2 fun a=>.pointer (some a)
   | .alloc t=>(hZ N s (.alloc t)).map fun p=>newObj s o.dst p.1 p.2 fun a=>.pointer (some a)
   | .buildSlice t l ps=>(jr N s (.buildSlice t l ps)).map fun p=>newObj s o.dst p.1 p.2.1 fun a=>.slice (some a) p.2.2 p.2.2
   | .makeSlice t l c=>(yW N s (.makeSlice t l c)).map fun p=>newObj s o.dst p.1 p.2.1 fun a=>.slice (some a) p.2.2 p.2.2
   | .store t a x=>if o.dst=none then Rx N s t a x else none
   | .range t x=>match N.P.underlying t,ev s x,o.dst with
     | some (.map _ _),some (.map (some id)),some d=>match s.h[id]? with
       | some (.map es)=>some (s.put d (.nc id es.length []))
       | _=>none
     | some .string,some (.string b),some d=>some (s.put d (.wv b 0))
     | _,_,_=>none
   | .next (.tmp x) false=>match aW s.fr x with
     | .nc m n seen=>match s.h[m]? with
       | some (.map es)=>if es.length=n then (match (List.range n).filter fun j=>!seen.contains j with
         | []=>some (s.a9 o.dst (.val (.tuple #[.bool false])))
         | [i]=>match es[i]? with
           | some (k,v)=>if fL k then some ({ s with fr:=fC s.fr x (.nc m n (seen++[i])) }.a9 o.dst (.val (.tuple #[.bool true,k,v]))) else none
           | none=>none
         | _=>none) else none
       | _=>none
     | _=>none
   | .next (.tmp x) true=>match aW s.fr x with
     | .wv b p=>if p<b.size then some ({ s with fr:=fC s.fr x (.wv b (p+(Utf8.decode b p).2)) }.a9 o.dst (.val (.tuple #[.bool true,.int .i64 p,.int .i32 (Utf8.decode b p).1])))
       else some (s.a9 o.dst (.val (.tuple #[.bool false])))
     | _=>none
   | .makeMap t none=>match N.P.underlying t with
     | some (.map _ _)=>some ({ s with h:=s.h++[ax.map []] }.a9 o.dst (.val (.map (some s.h.length))))
     | _=>none
   | .mapUpdate t x i y=>if o.dst=none then PL N s t x i y else none
   | .mapEntry t x i=>OQ N s o.dst t x i
   | .entryStore _ x i y=>if o.dst=none then P6 s x i y else none
   | .call c=>match c.callee with
     | .builtin .append=>match c.args.toList,c.argTypes.toList with
       | [x,y],[t,t2]=>match KQ N s o.dst x y t t2 with
         | some s1=>some s1
         | none=>KV N s o.dst x y t t2
       | _,_=>none
     | .builtin _=>(qU N s o.op).map fun v=>s.a9 o.dst (.val v)
     | cal=>match fp s cal,tL s c.args.toList with
       | some (f,cap),some args=>if nm f then (match call f (args++cap) s.h with
         | some (v,h')=>some ({ s with h:=h' }.a9 o.dst (.val v))
         | none=>none) else none
       | _,_=>none
   | _=>(qU N s o.op).map fun v=>s.a9 o.dst (.val v)
def IB (all:Array Oper):List Oper→St→Option St
 | [],s=>some s
 | o :: r,s=>match FM N call nm all o s with
   | some s1=>IB all r s1
   | none=>none
def kN:Nat→Code→St→Option (AX×St)
 | 0,_,_=>none
 | n+1,c,s=>match c with
   | .skip=>some (.normal,s)
   | .label _=>some (.normal,s)
   | .exit id=>some (.exit id,s)
   | .ret=>some (.ret,s)
   | .seq a b=>match kN n a s with
     | some (.normal,s1)=>kN n b s1
     | r=>r
   | .cond c x y=>match ev s c with
     | some (.bool true)=>kN n x s
     | some (.bool false)=>kN n y s
     | _=>none
   | .block id c=>match kN n c s with
     | some (e,s1)=>some (e.inBlock id,s1)
     | none=>none
   | .scope c=>kN n c s
   | .loop c=>match kN n c s with
     | some (.normal,s1)=>kN n (.loop c) s1
     | r=>r
   | .region _ ops false=>match IB N call nm ops ops.toList { s with eA:=[] } with
     | some s1=>some (.normal,s1)
     | none=>none
   | .region _ ops true=>match dr ops s with
     | some s1=>some (.normal,s1)
     | none=>none
   | _=>none
end
section
variable {N:Env} {call:FuncId→List Value→ai→Option (Value×ai)} {nm:FuncId→Bool}
def gE (N:Env) (call:FuncId→List Value→ai→Option (Value×ai)):Prop:=∀ f a h r h',call f a h=some (r,h')→(∃ fn,N.P.funcs[f]? = some fn∧fn.body.isNone=false)∧Ev N (.call f a h r h')
def rA (N:Env) (nm:FuncId→Bool):Prop:=∀ f fn,nm f=true→N.P.funcs[f]? = some fn→(fn.name == "runtime.NumGoroutine")=false
theorem Ac {all:Array Oper} {o:Oper} {r:List Oper} {s s1 s2:St} {x y:Operand} {t t2:TypeId} {c:Call} (hw:aE all o s=some true) (ho:o.op = .call c) (hc:c.callee = .builtin .append) (hx:c.args.toList=[x,y]) (ht:c.argTypes.toList=[t,t2]) (h:KV N s o.dst x y t t2=some s1) (k:Ev N (.ops all r s1 s2)):Ev N (.ops all (o :: r) s s2):=by{
have ho':o.op = .call { callee:=.builtin .append,args:=#[x,y],argTypes:=#[t,t2] }:=by
 rw[ho]
 cases c with
 | mk cal a ty=>
   simp only at hc hx ht
   subst hc
   rw[show a=#[x,y] from Array.toList_inj.1 hx,show ty=#[t,t2] from Array.toList_inj.1 ht]
unfold KV at h
split at h
·rename_i e hu
 split at h
 ·rename_i ti hti
  split at h
  ·rename_i hq
   obtain⟨q1,q2,q3⟩:=hq
   split at h
   ·rename_i cs m hi
    split at h
    ·rename_i hv
     split at h
     ·rename_i hm
      cases h
      exact .pE hw ho' hu q1 hti q2 q3 hv hi hm.1 hm.2.1 hm.2.2 k
     ·cases h
    ·rename_i id av n cp hv
     split at h
     ·rename_i cells ver' et hid
      split at h
      ·rename_i hm
       obtain⟨rfl,rfl,m1,m2,m3⟩:=hm
       cases h
       exact .uy hw ho' hu q1 hti q2 q3 hv hid m1 hi m2 m3 k
      ·cases h
     ·cases h
    ·cases h
   ·cases h
  ·cases h
 ·cases h
·cases h}
theorem Aq {all:Array Oper} {o:Oper} {r:List Oper} {s s1 s2:St} {x y:Operand} {t t2:TypeId} {c:Call} (hw:aE all o s=some true) (ho:o.op = .call c) (hc:c.callee = .builtin .append) (hx:c.args.toList=[x,y]) (ht:c.argTypes.toList=[t,t2]) (h:KQ N s o.dst x y t t2=some s1) (k:Ev N (.ops all r s1 s2)):Ev N (.ops all (o :: r) s s2):=by{
have ho':o.op = .call { callee:=.builtin .append,args:=#[x,y],argTypes:=#[t,t2] }:=by
 rw[ho]
 cases c with
 | mk cal a ty=>
   simp only at hc hx ht
   subst hc
   rw[show a=#[x,y] from Array.toList_inj.1 hx,show ty=#[t,t2] from Array.toList_inj.1 ht]
unfold KQ at h
split at h
·rename_i e p n c1 q c2 hu h1 h2
 split at h
 ·rename_i ti hti
  split at h
  ·rename_i he
   cases h
   exact .sr hw ho' hu he hti h1 h2 k
  ·cases h
 ·cases h
·cases h}
theorem tt {all:Array Oper} {o:Oper} {r:List Oper} {s s1 s2:St} (hw:aE all o s=some true) (h:((hZ N s o.op).map fun p=>newObj s o.dst p.1 p.2 fun a=>.pointer (some a))=some s1) (k:Ev N (.ops all r s1 s2)):Ev N (.ops all (o :: r) s s2):=by{
cases hb:hZ N s o.op with
| none=>simp [hb] at h
| some p=>
  simp only[hb,Option.map_some,Option.some.injEq] at h
  subst h
  exact .oK hw hb k}
theorem lV {s:St} {t:TypeId} {x:Operand} {id:Nat} {es:List (Value×Value)} {kd:Value→Bool} {et:TypeId} (h:BY N s t x=some (id,es,kd,et)) : ∃ kt,N.P.underlying t=some (.map kt et)∧N.keys kt=some kd∧ev s x=some (.map (some id))∧s.h[id]? = some (.map es)∧eB kd es=true:=by{
unfold BY at h
split at h
·rename_i kt et' id' hu hx
 split at h
 ·rename_i kd' es' hk hid
  split at h
  ·rename_i hm
   cases h
   exact⟨kt,hu,hk,hx,hid,hm⟩
  ·cases h
 ·cases h
·cases h}
theorem yw (hC:gE N call) (hn:rA N nm) {all:Array Oper} {o:Oper} {r:List Oper} {s s1 s2:St} (h:FM N call nm all o s=some s1) (k:Ev N (.ops all r s1 s2)):Ev N (.ops all (o :: r) s s2):=by{
unfold FM at h
split at h
·cases h
·rename_i hw
 cases h
 exact .oE hw k
·rename_i hw
 split at h
 ·rename_i t x ho
  exact tt hw (by rw[ho];exact h) k
 ·rename_i t ho
  exact tt hw (by rw[ho];exact h) k
 ·rename_i t l ps ho
  cases hb:jr N s (.buildSlice t l ps) with
  | none=>simp [hb] at h
  | some p=>
    simp only[hb,Option.map_some,Option.some.injEq] at h
    subst h
    exact .pd hw (by rw[ho];exact hb) k
 ·rename_i t l c ho
  cases hb:yW N s (.makeSlice t l c) with
  | none=>simp [hb] at h
  | some p=>
    simp only[hb,Option.map_some,Option.some.injEq] at h
    subst h
    exact .BX hw (by rw[ho];exact hb) k
 ·rename_i t a x ho
  split at h
  ·rename_i hd
   unfold Rx at h
   split at h
   ·rename_i ti id off av v ht ha hx
    split at h
    ·rename_i cells ver' et vs hid hv
     split at h
     ·rename_i hver
      subst hver
      cases hq:Am.lL cells off vs with
      | none=>simp [hq] at h
      | some cells'=>
        simp only[hq,Option.map_some,Option.some.injEq] at h
        subst h
        exact .oU hw ho ht ha hid hx hv hq hd k
     ·cases h
    ·cases h
   ·cases h
  ·cases h
 ·rename_i t x ho
  split at h
  ·rename_i kt et id d hu hx hd
   split at h
   ·rename_i es hid
    cases h
    exact .l7 hw hd ho hu hx hid k
   ·cases h
  ·rename_i b d hu hx hd
   cases h
   exact .j9 hw hd ho hu hx k
  ·cases h
 ·rename_i x ho
  split at h
  ·rename_i m n seen hx
   split at h
   ·rename_i es hid
    split at h
    ·rename_i hl
     split at h
     ·rename_i hf
      cases h
      exact .qX hw ho hx hid hl hf k
     ·rename_i i hf
      split at h
      ·rename_i kk vv hkv
       split at h
       ·rename_i hp
        cases h
        exact .qW hw ho hx hid hl hf hkv hp k
       ·cases h
      ·cases h
     ·cases h
    ·cases h
   ·cases h
  ·cases h
 ·rename_i x ho
  split at h
  ·rename_i b p hx
   split at h
   ·rename_i hp
    cases h
    exact .ox hw ho hx hp rfl k
   ·rename_i hp
    cases h
    exact .ny hw ho hx (by omega) k
  ·cases h
 ·rename_i t ho
  split at h
  ·rename_i kt et hu
   cases h
   exact .uI hw ho hu k
  ·cases h
 ·rename_i t x i y ho
  split at h
  ·rename_i hd
   unfold PL at h
   split at h
   ·rename_i id es kd et kk v hm hk hv
    split at h
    ·rename_i hkk
     cases h
     obtain⟨kt,hu,hkd,hx,hid,hmk⟩:=lV hm
     exact .uZ hw ho hu hkd hx hid hk hv hkk hmk hd k
    ·cases h
   ·cases h
  ·cases h
 ·rename_i t x i ho
  unfold OQ at h
  split at h
  ·rename_i id es kd et kk hm hk
   split at h
   ·rename_i z hz
    split at h
    ·rename_i hkk
     cases h
     obtain⟨kt,hu,hkd,hx,hid,hmk⟩:=lV hm
     exact .xR hw ho hu hkd hz hx hid hk hkk hmk rfl k
    ·cases h
   ·cases h
  ·cases h
 ·rename_i t x i y ho
  split at h
  ·rename_i hd
   unfold P6 at h
   split at h
   ·rename_i id j v hx hi hv
    split at h
    ·rename_i es hid
     split at h
     ·rename_i kk u hj
      cases h
      exact .w7 hw ho hx hid hi hv hj hd k
     ·cases h
    ·cases h
   ·cases h
  ·cases h
 ·rename_i c ho
  split at h
  ·rename_i hc
   split at h
   ·rename_i x y t t2 hx ht
    split at h
    ·rename_i s3 h3
     cases h
     exact Aq hw ho hc hx ht h3 k
    ·exact Ac hw ho hc hx ht h k
   ·cases h
  ·rename_i b hb
   cases hv:qU N s o.op with
   | none=>simp [hv] at h
   | some v=>
     simp only[hv,Option.map_some,Option.some.injEq] at h
     subst h
     exact .tp hw hv k
  ·split at h
   ·rename_i f cap args hcal hargs
    split at h
    ·rename_i hnm
     split at h
     ·rename_i v h' hcall
      cases h
      obtain⟨⟨fn,h1,h2⟩,h3⟩:=hC _ _ _ _ _ hcall
      exact .o6 hw ho hcal hargs h1 (hn _ _ hnm h1) h2 h3 k
     ·cases h
    ·cases h
   ·cases h
 ·cases hv:qU N s o.op with
  | none=>simp [hv] at h
  | some v=>
    simp only[hv,Option.map_some,Option.some.injEq] at h
    subst h
    exact .tp hw hv k}
theorem su (hC:gE N call) (hn:rA N nm) {all:Array Oper}:∀ {l:List Oper} {s s1:St},IB N call nm all l s=some s1→Ev N (.ops all l s s1)
 | [],s,s1,h=>by
   cases h
   exact .nil all s
 | o :: r,s,s1,h=>by
   simp only[IB] at h
   split at h
   ·rename_i s2 h2
    exact yw hC hn h2 (su hC hn h)
   ·cases h
def Mc (N:Env) (dr:Array Oper→St→Option St):Prop:=∀ id ops s s1,dr ops s=some s1→Ev N (.code (.region id ops true) s .normal s1)
theorem cT {dr:Array Oper→St→Option St} (hm:Mc N dr) (hC:gE N call) (hn:rA N nm):∀ {n:Nat} {c:Code} {s s1:St} {e:AX},kN N call nm dr n c s=some (e,s1)→Ev N (.code c s e s1)∧∀ b,c = .loop b→Ev N (.iter b s e s1)
 | 0,_,_,_,_,h=>by cases h
 | n+1,c,s,s1,e,h=>by
   unfold kN at h
   split at h
   ·cases h;exact⟨.skip _,fun b hb=>by cases hb⟩
   ·cases h;exact⟨.label _ _,fun b hb=>by cases hb⟩
   ·cases h;exact⟨.exit _ _,fun b hb=>by cases hb⟩
   ·cases h;exact⟨.ret _,fun b hb=>by cases hb⟩
   ·refine⟨?_,fun b hb=>by cases hb⟩
    split at h
    ·rename_i s2 h2
     exact .Ka (cT hm hC hn h2).1 (cT hm hC hn h).1
    ·rename_i h2
     exact .H4 (cT hm hC hn h).1 (by rintro rfl;exact h2 _ h)
   ·refine⟨?_,fun b hb=>by cases hb⟩
    split at h
    ·rename_i hc
     exact .cond hc (cT hm hC hn h).1
    ·rename_i hc
     exact .cond hc (cT hm hC hn h).1
    ·cases h
   ·refine⟨?_,fun b hb=>by cases hb⟩
    split at h
    ·rename_i e s2 h2
     cases h
     exact .block (cT hm hC hn h2).1
    ·cases h
   ·exact⟨.scope (cT hm hC hn h).1,fun b hb=>by cases hb⟩
   ·rename_i c
    have key:Ev N (.iter c s e s1):=by
     split at h
     ·rename_i s2 h2
      exact .DS (cT hm hC hn h2).1 ((cT hm hC hn h).2 _ rfl)
     ·rename_i h2
      exact .A7 (cT hm hC hn h).1 (by rintro rfl;exact h2 _ h)
    exact⟨.loop key,fun b hb=>by cases hb;exact key⟩
   ·refine⟨?_,fun b hb=>by cases hb⟩
    split at h
    ·rename_i s2 h2
     cases h
     exact .region (su hC hn h2)
    ·cases h
   ·refine⟨?_,fun b hb=>by cases hb⟩
    split at h
    ·rename_i s2 h2
     cases h
     exact hm _ _ _ _ h2
    ·cases h
   ·cases h
theorem xx {dr:Array Oper→St→Option St} (hm:Mc N dr) (hC:gE N call) (hn:rA N nm) {n:Nat} {c:Code} {s s1:St} {e:AX} (h:kN N call nm dr n c s=some (e,s1)):Ev N (.code c s e s1):=(cT hm hC hn h).1
end
structure fD (s0 s:St):Prop where
 h:s0.h=s.h
 f:∀ t,aW s0.fr t = .dL∨aW s.fr t=aW s0.fr t
 e:∀ t p,fY s0.eA t=some p→fY s.eA t=some p
 n:∀ t,aW s0.fr t≠.dL→fY s.eA t=fY s0.eA t
section
variable {N:Env} {s0 s:St}
theorem fD.fg (H:fD s0 s) {t:Nat} {sl:fX} (h:aW s0.fr t=sl) (hn:sl≠.dL):aW s.fr t=sl:=by{
rcases H.f t with h1|h1
·exact (hn (h.symm.trans h1)).elim
·exact h1.trans h}
theorem aY (H:fD s0 s) {x:Operand} {v:Value} (h:ev s0 x=some v):ev s x=some v:=by{
cases x with
| tmp t=>
  simp only[ev] at h ⊢
  split at h
  ·rename_i u hu
   rw[H.fg hu (by simp)]
   exact h
  ·cases h
| const k=>exact h
| func f=>exact h
| global g=>exact h}
theorem j5 (H:fD s0 s) {x:Operand} {p:Nat×Nat} (h:oX s0 x=some p):oX s x=some p:=by{
cases x with
| tmp t=>
  simp only[oX] at h ⊢
  split at h
  ·rename_i q hq
   rw[H.e _ _ hq]
   exact h
  ·cases h
  ·rename_i hq
   split at h
   ·rename_i cs hb
    rw[H.n t (by rw[hb];simp),hq,H.fg hb (by simp)]
    exact h
   ·cases h
| const k=>exact h
| func f=>exact h
| global g=>exact h}
theorem FN (H:fD s0 s) {x:Operand} {v:Value} (h:ev s0 x=some v):oX s x=oX s0 x:=by{
cases x with
| tmp t=>
  simp only[ev] at h
  split at h
  ·rename_i u hu
   simp only[oX,H.n t (by rw[hu];simp),H.fg hu (by simp),hu]
  ·cases h
| const k=>rfl
| func f=>rfl
| global g=>rfl}
theorem nX (H:fD s0 s):∀ {l:List Operand} {v:List Value},tL s0 l=some v→tL s l=some v
 | [],_,h=>h
 | x :: r,v,h=>by
   simp only[tL] at h ⊢
   split at h
   ·rename_i a b h1 h2
    rw[aY H h1,nX H h2]
    exact h
   ·cases h
theorem kf (H:fD s0 s):∀ {l:List (Nat×Operand)} {v:List (Nat×Value)},iu s0 l=some v→iu s l=some v
 | [],_,h=>h
 | (i,x) :: r,v,h=>by
   simp only[iu] at h ⊢
   split at h
   ·rename_i a b h1 h2
    rw[aY H h1,kf H h2]
    exact h
   ·cases h
theorem nh (H:fD s0 s) {d:Int} {x:Option Operand} {v:Int} (h:Ep s0 d x=some v):Ep s d x=some v:=by{
cases x with
| none=>exact h
| some x=>
  simp only[Ep] at h ⊢
  split at h
  ·rename_i k n h1
   rw[aY H h1]
   exact h
  ·cases h}
theorem yB (H:fD s0 s) {t:Nat} {cs:List Value} (h:aW s0.fr t = .box cs):aW s.fr t = .box cs:=H.fg h (by simp)
theorem Az (H:fD s0 s) {t:TypeId} {a:Operand} {v:Value} (h:qw N s0 t a=some v):qw N s t a=some v:=by{
unfold qw at h ⊢
split at h
·cases h
·rename_i ti hti
 split at h
 ·rename_i sl off hp
  rw[j5 H hp]
  simp only
  split at h
  ·rename_i cs hb
   rw[yB H hb]
   exact h
  ·cases h
 ·rename_i hp
  split at h
  ·rename_i ad he
   rw[FN H he,hp,aY H he,← H.h]
   exact h
  ·cases h}
theorem qD (H:fD s0 s) {t:TypeId} {x:Operand} {f:Nat} {v:Value} (h:fW N s0 t x f=some v):fW N s t x f=some v:=by{
unfold fW at h ⊢
split at h
·rename_i h1 h2
 rw[h1,aY H h2]
 exact h
·cases h}
theorem qM (H:fD s0 s) {t:TypeId} {x i:Operand} {v:Value} (h:fT N s0 t x i=some v):fT N s t x i=some v:=by{
unfold fT at h ⊢
split at h
·rename_i h1 h2 h3
 rw[h1,aY H h2,aY H h3]
 exact h
·rename_i h1 h2 h3
 rw[h1,aY H h2,aY H h3]
 exact h
·cases h}
theorem ye (H:fD s0 s) {t:TypeId} {x:Operand} {f:Nat} {v:Value} (h:mJ N s0 t x f=some v):mJ N s t x f=some v:=by{
unfold mJ at h ⊢
split at h
·rename_i h1 h2
 rw[h1,aY H h2]
 exact h
·cases h}
theorem yg (H:fD s0 s) {t:TypeId} {x i:Operand} {v:Value} (h:ln N s0 t x i=some v):ln N s t x i=some v:=by{
unfold ln at h ⊢
split at h
·rename_i h1 h2 h3
 rw[h1,aY H h2,aY H h3]
 exact h
·rename_i h1 h2 h3
 rw[h1,aY H h2,aY H h3]
 exact h
·cases h}
theorem yf (H:fD s0 s) {t:TypeId} {x:Operand} {lo hi:Option Operand} {v:Value} (h:mz N s0 t x lo hi=some v):mz N s t x lo hi=some v:=by{
unfold mz at h ⊢
split at h
·rename_i h1 h2
 rw[h1,aY H h2]
 simp only
 split at h
 ·rename_i h3 h4 h5
  rw[h3,nh H h4,nh H h5,← H.h]
  exact h
 ·cases h
·rename_i h1 h2
 rw[h1,aY H h2]
 simp only
 split at h
 ·rename_i h3 h4
  rw[nh H h3,nh H h4]
  exact h
 ·cases h
·cases h}
theorem yU (H:fD s0 s) {t:TypeId} {ps:Array (Nat×Operand)} {v:Value} (h:mS N s0 t ps=some v):mS N s t ps=some v:=by{
unfold mS at h ⊢
split at h
·rename_i h1 h2
 rw[h1,kf H h2]
 exact h
·cases h}
theorem tF (H:fD s0 s) {b:Builtin} {args:Array Operand} {tys:Array TypeId} {v:Value} (h:ji N s0 b args tys=some v):ji N s b args tys=some v:=by{
unfold ji at h ⊢
cases he:tL s0 args.toList with
| none=>rw[he] at h;split at h<;>simp_all
| some l=>rw[he] at h;rw[nX H he];exact h}
theorem sW (H:fD s0 s) {c z:Operand} {t want:Bool} {u:Value} (h:jR s0 c t want z=some u):jR s c t want z=some u:=by{
cases z with
| tmp r=>
  simp only[jR] at h ⊢
  split at h
  ·rename_i v hv
   rw[H.fg hv (by simp)]
   exact h
  ·rename_i d w q v hv
   rw[H.fg hv (by simp)]
   exact h
  ·cases h
| const k=>exact h
| func f=>exact h
| global g=>exact h}
theorem xK {c z:Operand} {t want:Bool} {u:Value} (h:ev s z=some u):jR s c t want z=some u:=by{
cases z with
| tmp r=>
  simp only[ev] at h
  split at h
  ·rename_i v hv
   simp only[jR,hv]
   exact h
  ·cases h
| const k=>exact h
| func f=>exact h
| global g=>exact h}
theorem zO (H:fD s0 s) {c x y:Operand} {t:Bool} {v:Value} (h:tx s0 c t x y=some v):tx s c t x y=some v:=by{
unfold tx at h ⊢
split at h
·rename_i a b h1 h2
 rw[sW H h1,sW H h2]
 exact h
·cases t with
 | true=>
   simp only at h
   have h1:=aY H h
   rw[xK (c:=c) (t:=true) (want:=true) h1]
   split
   ·rename_i a b h2 h3
    cases h2
    rfl
   ·exact h1
 | false=>
   simp only at h
   have h1:=aY H h
   rw[xK (c:=c) (t:=false) (want:=false) h1]
   split
   ·rename_i a b h2 h3
    cases h3
    rfl
   ·exact h1}
theorem zg (H:fD s0 s) {m:Value}:mapOf s m=mapOf s0 m:=by
 unfold mapOf
 rw[H.h]
theorem Av (H:fD s0 s) {t:TypeId} {x i:Operand} {ok:Bool} {v:Value} (h:sC N s0 t x i ok=some v):sC N s t x i ok=some v:=by{
unfold sC at h ⊢
split at h
·rename_i h1 h2 h3
 rw[h1,aY H h2,aY H h3]
 simp only[zg H]
 exact h
·cases h}
theorem CT (H:fD s0 s) {x:Operand} {v:Value} (h:Ar s0 x=some v):Ar s x=some v:=by{
unfold Ar at h ⊢
split at h
·split at h
 ·rename_i h1
  simp only[H.fg h1 (by simp),← H.h]
  exact h
 ·cases h
·cases h}
theorem Ej (H:fD s0 s) {o:Op} {v:Value} (h:qU N s0 o=some v):qU N s o=some v:=by{
unfold qU at h ⊢
split at h
·exact aY H h
·exact aY H h
·split at h
 ·rename_i t hc
  simp only[aY H hc]
  exact zO H h
 ·cases h
·exact yU H h
·exact Az H h
·split at h
 ·rename_i h1 h2
  simp only[aY H h1,aY H h2]
  exact h
 ·cases h
·split at h
 ·rename_i h1
  simp only[aY H h1]
  exact h
 ·cases h
·split at h
 ·rename_i h1
  simp only[aY H h1,← H.h]
  exact h
 ·cases h
·exact qD H h
·exact qM H h
·exact ye H h
·exact yg H h
·exact yf H h
·exact Av H h
·split at h
 ·rename_i h1
  simp only[aY H h1]
  exact h
 ·cases h
·split at h
 ·rename_i h1
  cases he:tL s0 _ with
  | none=>rw[he] at h;cases h
  | some l=>
    rw[he] at h
    simp only[h1,if_true,nX H he]
    exact h
 ·cases h
·split at h
 ·rename_i b hb
  try simp only[hb]
  exact tF H h
 ·cases h
·split at h
 ·rename_i h1
  simp only[aY H h1]
  exact h
 ·rename_i h1
  simp only[aY H h1]
  exact h
 ·cases h
·exact CT H h
·cases h}
theorem FD (H:fD s0 s) {o:Op} {p:Nat×Nat} (h:wY N s0 o=some p):wY N s o=some p:=by{
unfold wY at h ⊢
split at h
·split at h
 ·rename_i h1 h2
  simp only[h1,j5 H h2]
  exact h
 ·cases h
·split at h
 ·rename_i h1 h2 h3
  simp only[h1,j5 H h2,aY H h3]
  exact h
 ·cases h
·exact j5 H h
·exact j5 H h
·cases h}
theorem bd (H:fD s0 s) {all:Array Oper} {o:Oper} {b:Bool} (h:aE all o s0=some b):aE all o s=some b:=by{
unfold aE at h ⊢
split at h
·rename_i hg
 try simp only[hg]
 exact h
·rename_i j want hg
 try simp only[hg]
 split at h
 ·rename_i hj
  try simp only[hj]
  exact h
 ·rename_i q hj
  try simp only[hj]
  split at h
  ·rename_i hd
   try simp only[hd]
   exact h
  ·rename_i d hd
   try simp only[hd]
   split at h
   ·rename_i c hc
    rw[H.fg hc (by simp)]
    exact h
   ·rename_i c hc
    rw[H.fg hc (by simp)]
    exact h
   ·cases h}
theorem uT (H:fD s0 s) {o:Op} {p:TypeId×List Value} (h:hZ N s0 o=some p):hZ N s o=some p:=by{
unfold hZ at h ⊢
split at h
·exact h
·split at h
 ·rename_i h1 h2
  simp only[h1,aY H h2]
  exact h
 ·cases h
·cases h}
theorem uB (H:fD s0 s) {o:Op} {p:TypeId×List Value×Nat} (h:jr N s0 o=some p):jr N s o=some p:=by{
unfold jr at h ⊢
split at h
·split at h
 ·rename_i h0
  try simp only[h0]
  split at h
  ·rename_i h1 h2
   simp only[h1,kf H h2]
   exact h
  ·cases h
 ·cases h
·cases h}
theorem xP (H:fD s0 s) {o:Op} {p:TypeId×List Value×Nat} (h:yW N s0 o=some p):yW N s o=some p:=by{
unfold yW at h ⊢
split at h
·split at h
 ·rename_i h0 h1 h2
  simp only[h0,aY H h1,aY H h2]
  exact h
 ·cases h
·cases h}
theorem pM (H:fD s0 s) {h0:ai} {sz:Nat} {y:Operand} {p:List Value×Nat} (h:cJ s0 h0 sz y=some p):cJ s h0 sz y=some p:=by{
unfold cJ at h ⊢
split at h
·split at h
 ·rename_i hb
  simp only[H.fg hb (by simp)]
  exact h
 ·rename_i hb
  simp only[H.fg hb (by simp)]
  exact h
 ·cases h
·cases h}
theorem vg (H:fD s0 s) {c:Callee} {p:FuncId×List Value} (h:fp s0 c=some p):fp s c=some p:=by{
unfold fp at h ⊢
split at h
·split at h
 ·rename_i h1
  simp only[aY H h1]
  exact h
 ·cases h
·cases h}
inductive gu where
 | sl (v:fX)
 | ep (sl off:Nat)
def wI (s:St) (d:Option Nat) (r:gu) (h:ai):St:=
 match d,r with
 | some d,.sl v=>⟨fC s.fr d v,eN s.eA d,h⟩
 | some d,.ep sl off=>⟨fC s.fr d .dL,(d,([],(sl,off))) :: eN s.eA d,h⟩
 | none,_=>⟨s.fr,s.eA,h⟩
inductive One (N:Env) (all:Array Oper) (o:Oper) (s:St):gu→ai→Prop
 | skip:aE all o s=some false→One N all o s (.sl (.val (.tuple #[]))) s.h
 | val {v:Value}:aE all o s=some true→qU N s o.op=some v→One N all o s (.sl (.val v)) s.h
 | eA {d sl off:Nat}:aE all o s=some true→o.dst=some d→wY N s o.op=some (sl,off)→sl≠d→One N all o s (.ep sl off) s.h
 | nz {d n:Nat} {t:TypeId} {cs:List Value}:aE all o s=some true→o.dst=some d→jr N s o.op=some (t,cs,n)→One N all o s (.sl (.nz cs n)) s.h
 | box {d:Nat} {t:TypeId} {cs:List Value}:aE all o s=some true→o.dst=some d→hZ N s o.op=some (t,cs)→One N all o s (.sl (.box cs)) s.h
 | Ti {d n:Nat} {t:TypeId} {cs:List Value}:aE all o s=some true→o.dst=some d→yW N s o.op=some (t,cs,n)→One N all o s (.sl (.Dy (.aq cs 0 true t) n)) s.h
 | Ly {d:Nat} {t kt et:TypeId}:aE all o s=some true→o.dst=some d→o.op = .makeMap t none→N.P.underlying t=some (.map kt et)→One N all o s (.sl (.Dy (.map []) 0)) s.h
 | cz {d id:Nat} {t kt et:TypeId} {x:Operand} {es:List (Value×Value)}:aE all o s=some true→o.dst=some d→o.op = .range t x→N.P.underlying t=some (.map kt et)→ev s x=some (.map (some id))→s.h[id]? = some (.map es)→One N all o s (.sl (.nc id es.length [])) s.h
 | KR {d:Nat} {t:TypeId} {x:Operand} {b:ByteArray}:aE all o s=some true→o.dst=some d→o.op = .range t x→N.P.underlying t=some .string→ev s x=some (.string b)→One N all o s (.sl (.wv b 0)) s.h
 | D9 {t:TypeId} {cs:List Value}:aE all o s=some true→hZ N s o.op=some (t,cs)→One N all o s (.sl (.val (.pointer (some ⟨s.h.length,0,some 0⟩)))) (s.h++[ax.aq cs 0 true t])
 | Gq {n:Nat} {t:TypeId} {cs:List Value}:aE all o s=some true→jr N s o.op=some (t,cs,n)→One N all o s (.sl (.val (.slice (some ⟨s.h.length,0,some 0⟩) n n))) (s.h++[ax.aq cs 0 true t])
 | mk {n:Nat} {t:TypeId} {cs:List Value}:aE all o s=some true→yW N s o.op=some (t,cs,n)→One N all o s (.sl (.val (.slice (some ⟨s.h.length,0,some 0⟩) n n))) (s.h++[ax.aq cs 0 true t])
 | jE {t et:TypeId} {a x:Operand} {ti:TI} {id off av:Nat} {cells vs cells':List Value} {v:Value} {r:gu}:aE all o s=some true →
  o.op = .store t a x→au N.P t=some ti→ev s a=some (.pointer (some ⟨id,off,some av⟩))→s.h[id]? = some (.aq cells av true et)→ev s x=some v→ee ti.size v=some vs →
  lL cells off vs=some cells'→o.dst=none→One N all o s r (s.h.set id (ax.aq cells' av true et))
 | map {t kt et:TypeId}:aE all o s=some true→o.op = .makeMap t none→N.P.underlying t=some (.map kt et)→One N all o s (.sl (.val (.map (some s.h.length)))) (s.h++[ax.map []])
 | BA {t kt et:TypeId} {x i y:Operand} {id:Nat} {es:List (Value×Value)} {kd:Value→Bool} {k v:Value} {r:gu}:aE all o s=some true →
  o.op = .mapUpdate t x i y→N.P.underlying t=some (.map kt et)→N.keys kt=some kd→ev s x=some (.map (some id))→s.h[id]? = some (.map es)→ev s i=some k→ev s y=some v→kd k=true→eB kd es=true→o.dst=none →
  One N all o s r (s.h.set id (ax.map (iT es k v)))
 | yv {t kt et:TypeId} {x i:Operand} {id j:Nat} {es es':List (Value×Value)} {kd:Value→Bool} {k z v:Value}:aE all o s=some true →
  o.op = .mapEntry t x i→N.P.underlying t=some (.map kt et)→N.keys kt=some kd→zeroOf N.P et=some z→ev s x=some (.map (some id))→s.h[id]? = some (.map es)→ev s i=some k→kd k=true→eB kd es=true→pA es k z=(v,j,es') →
  One N all o s (.sl (.val (.tuple #[v,.int .i64 j]))) (s.h.set id (ax.map es'))
 | ND {t:TypeId} {x y i:Operand} {id j:Nat} {es:List (Value×Value)} {k u v:Value} {r:gu}:aE all o s=some true →
  o.op = .entryStore t x i y→ev s x=some (.map (some id))→s.h[id]? = some (.map es)→ev s i=some (.int .i64 j)→ev s y=some v→es[j]? = some (k,u)→o.dst=none →
  One N all o s r (s.h.set id (ax.map (es.set j (k,v))))
 | ze {x y:Operand} {t t2 e:TypeId} {ti:TI} {cs:List Value} {m:Nat}:aE all o s=some true →
  o.op = .call { callee:=.builtin .append,args:=#[x,y],argTypes:=#[t,t2] }→N.P.underlying t=some (.slice e)→t2=t→au N.P e=some ti→0<ti.size →
  (ti.zero.map fun z=>z.cells.size)=some ti.size→ev s x=some (.slice none 0 0)→cJ s s.h ti.size y=some (cs,m)→0<m→m*ti.bytes≤140737488355328→m≤140737488355328 →
  One N all o s (.sl (.val (.slice (some ⟨s.h.length,0,some 0⟩) m m))) (s.h++[ax.aq cs 0 true e])
 | MT {x y:Operand} {t t2 e:TypeId} {ti:TI} {cs cells:List Value} {m n c id av:Nat}:aE all o s=some true →
  o.op = .call { callee:=.builtin .append,args:=#[x,y],argTypes:=#[t,t2] }→N.P.underlying t=some (.slice e)→t2=t→au N.P e=some ti→0<ti.size →
  (ti.zero.map fun z=>z.cells.size)=some ti.size→ev s x=some (.slice (some ⟨id,0,some av⟩) n c)→s.h[id]? = some (.aq cells av true e)→n*ti.size≤cells.length →
  cJ s s.h ti.size y=some (cs,m)→(n+m)*ti.bytes≤140737488355328→n+m≤140737488355328 →
  One N all o s (.sl (.val (.slice (some ⟨id,0,some (av+1)⟩) (n+m) (n+m)))) (s.h.set id (ax.aq (cells.take (n*ti.size)++cs) (av+1) true e))
 | DG {x y:Operand} {t t2 e:TypeId} {ti:TI} {b:ByteArray}:aE all o s=some true →
  o.op = .call { callee:=.builtin .append,args:=#[x,y],argTypes:=#[t,t2] }→N.P.underlying t=some (.slice e)→N.P.underlying t2=some .string→au N.P e=some ti→ti.size=1→ti.bytes=1→ti.zero=some (.int .u8 0) →
  ev s x=some (.slice none 0 0)→ev s y=some (.string b)→0<b.size→b.size≤140737488355328 →
  One N all o s (.sl (.val (.slice (some ⟨s.h.length,0,some 0⟩) b.size b.size))) (s.h++[ax.aq (bL b) 0 true e])
 | LR {x y:Operand} {t t2 e:TypeId} {ti:TI} {cells:List Value} {n c id av:Nat} {b:ByteArray}:aE all o s=some true →
  o.op = .call { callee:=.builtin .append,args:=#[x,y],argTypes:=#[t,t2] }→N.P.underlying t=some (.slice e)→N.P.underlying t2=some .string→au N.P e=some ti→ti.size=1→ti.bytes=1→ti.zero=some (.int .u8 0) →
  ev s x=some (.slice (some ⟨id,0,some av⟩) n c)→s.h[id]? = some (.aq cells av true e)→n≤cells.length→ev s y=some (.string b)→n+b.size≤140737488355328 →
  One N all o s (.sl (.val (.slice (some ⟨id,0,some (av+1)⟩) (n+b.size) (n+b.size)))) (s.h.set id (ax.aq (cells.take n++bL b) (av+1) true e))
 | Ut {t t2 e:TypeId} {ti:TI} {x:Operand} {b:ByteArray}:aE all o s=some true→o.op = .convert t t2 x→N.P.underlying t=some .string→N.P.underlying t2=some (.slice e)→N.P.underlying e=some (.int .u8) →
  au N.P e=some ti→ti.size=1→ev s x=some (.string b)→b.size≤140737488355328 →
  One N all o s (.sl (.val (.slice (some ⟨s.h.length,0,some 0⟩) b.size b.size))) (s.h++[ax.aq (bL b) 0 false e])
 | GV {t t2 e:TypeId} {ti:TI} {x y:Operand} {b:ByteArray} {id av:Nat} {cells:List Value}:aE all o s=some true→o.op = .call { callee:=.builtin .unsafeString,args:=#[x,y],argTypes:=#[t,t2] } →
  N.P.underlying t=some (.pointer e)→au N.P e=some ti→ti.size=1→ev s x=some (.pointer (some ⟨id,0,some av⟩))→s.h[id]? = some (.aq cells av true e)→ev s y=some (.int .i64 b.size)→0<b.size→b.size≤140737488355328→cells.take b.size=bL b →
  One N all o s (.sl (.val (.string b))) (s.h.set id (ax.aq cells av false e))
 | call {c:Call} {f:FuncId} {cap args:List Value} {fn:Func} {v:Value} {h':ai}:aE all o s=some true →
  o.op = .call c→fp s c.callee=some (f,cap)→tL s c.args.toList=some args→N.P.funcs[f]? = some fn→(fn.name == "runtime.NumGoroutine")=false→fn.body.isNone=false →
  Ev N (.call f (args++cap) s.h v h')→One N all o s (.sl (.val v)) h'
theorem dS {d:Option Nat} {v:Value} {h:ai}:({ s with h:=h }).a9 d (.val v)=wI s d (.sl (.val v)) h:=by
 cases d<;>rfl
theorem One.ev {all:Array Oper} {o:Oper} {r:gu} {h':ai} (k:One N all o s r h'):Ev N (.ops all [o] s (wI s o.dst r h')):=by{
cases k with
| skip hw=>exact .oE hw (by rw[← dS];exact .nil _ _)
| val hw hv=>exact .tp hw hv (by rw[← dS];exact .nil _ _)
| eA hw hd he hne=>exact .xV hw hd he hne (by rw[hd];exact .nil _ _)
| nz hw hd hb=>exact .yh hw hd hb (by rw[hd];exact .nil _ _)
| box hw hd hb=>exact .uH hw hd hb (by rw[hd];exact .nil _ _)
| Ti hw hd hb=>exact .BG hw hd hb (by rw[hd];exact .nil _ _)
| Ly hw hd ho hu=>exact .vA hw hd ho hu (by rw[hd];exact .nil _ _)
| cz hw hd ho hu hx hid=>exact .l7 hw hd ho hu hx hid (by rw[hd];exact .nil _ _)
| KR hw hd ho hu hx=>exact .j9 hw hd ho hu hx (by rw[hd];exact .nil _ _)
| D9 hw hb=>exact .oK hw hb (by rw[← dS];exact .nil _ _)
| Gq hw hb=>exact .pd hw hb (by rw[← dS];exact .nil _ _)
| mk hw hb=>exact .BX hw hb (by rw[← dS];exact .nil _ _)
| jE hw ho ht ha hid hx hv hq hd=>exact .oU hw ho ht ha hid hx hv hq hd (by rw[hd];exact .nil _ _)
| map hw ho hu=>exact .uI hw ho hu (by rw[← dS];exact .nil _ _)
| BA hw ho hu hkd hx hid hk hv hkk hmk hd=>exact .uZ hw ho hu hkd hx hid hk hv hkk hmk hd (by rw[hd];exact .nil _ _)
| yv hw ho hu hkd hz hx hid hk hkk hmk hm=>exact .xR hw ho hu hkd hz hx hid hk hkk hmk hm (by rw[← dS];exact .nil _ _)
| ND hw ho hx hid hi hv hj hd=>exact .w7 hw ho hx hid hi hv hj hd (by rw[hd];exact .nil _ _)
| ze hw ho hu h2 ht h3 h4 hx hi h5 h6 h7=>exact .pE hw ho hu h2 ht h3 h4 hx hi h5 h6 h7 (by rw[← dS];exact .nil _ _)
| MT hw ho hu h2 ht h3 h4 hx hid h8 hi h5 h6=>exact .uy hw ho hu h2 ht h3 h4 hx hid h8 hi h5 h6 (by rw[← dS];exact .nil _ _)
| DG hw ho hu h2 ht h3 h4 h5 hx hy h6 h7=>exact .ri hw ho hu h2 ht h3 h4 h5 hx hy h6 h7 (by rw[← dS];exact .nil _ _)
| LR hw ho hu h2 ht h3 h4 h5 hx hid h8 hy h6=>exact .tj hw ho hu h2 ht h3 h4 h5 hx hid h8 hy h6 (by rw[← dS];exact .nil _ _)
| Ut hw ho hu h2 h3 ht h4 hx h5=>exact .yG hw ho hu h2 h3 ht h4 hx h5 (by rw[← dS];exact .nil _ _)
| GV hw ho hu ht h1 hx hid hy h2 h3 h4=>exact .wi hw ho hu ht h1 hx hid hy h2 h3 h4 (by rw[← dS];exact .nil _ _)
| call hw ho hc ha hf hn hb he=>exact .o6 hw ho hc ha hf hn hb he (by rw[← dS];exact .nil _ _)}
theorem One.mono (H:fD s0 s) {all:Array Oper} {o:Oper} {r:gu} {h':ai} (k:One N all o s0 r h'):One N all o s r h':=by{
have e:=H.h
cases k with
| skip hw=>rw[e];exact .skip (bd H hw)
| val hw hv=>rw[e];exact .val (bd H hw) (Ej H hv)
| eA hw hd he hne=>rw[e];exact .eA (bd H hw) hd (FD H he) hne
| nz hw hd hb=>rw[e];exact .nz (bd H hw) hd (uB H hb)
| box hw hd hb=>rw[e];exact .box (bd H hw) hd (uT H hb)
| Ti hw hd hb=>rw[e];exact .Ti (bd H hw) hd (xP H hb)
| Ly hw hd ho hu=>rw[e];exact .Ly (bd H hw) hd ho hu
| cz hw hd ho hu hx hid=>rw[e] at hid ⊢;exact .cz (bd H hw) hd ho hu (aY H hx) hid
| KR hw hd ho hu hx=>rw[e];exact .KR (bd H hw) hd ho hu (aY H hx)
| D9 hw hb=>rw[e];exact .D9 (bd H hw) (uT H hb)
| Gq hw hb=>rw[e];exact .Gq (bd H hw) (uB H hb)
| mk hw hb=>rw[e];exact .mk (bd H hw) (xP H hb)
| jE hw ho ht ha hid hx hv hq hd=>rw[e] at hid ⊢;exact .jE (bd H hw) ho ht (aY H ha) hid (aY H hx) hv hq hd
| map hw ho hu=>rw[e];exact .map (bd H hw) ho hu
| BA hw ho hu hkd hx hid hk hv hkk hmk hd=>rw[e] at hid ⊢;exact .BA (bd H hw) ho hu hkd (aY H hx) hid (aY H hk) (aY H hv) hkk hmk hd
| yv hw ho hu hkd hz hx hid hk hkk hmk hm=>rw[e] at hid ⊢;exact .yv (bd H hw) ho hu hkd hz (aY H hx) hid (aY H hk) hkk hmk hm
| ND hw ho hx hid hi hv hj hd=>rw[e] at hid ⊢;exact .ND (bd H hw) ho (aY H hx) hid (aY H hi) (aY H hv) hj hd
| ze hw ho hu h2 ht h3 h4 hx hi h5 h6 h7=>rw[e] at hi ⊢;exact .ze (bd H hw) ho hu h2 ht h3 h4 (aY H hx) (pM H hi) h5 h6 h7
| MT hw ho hu h2 ht h3 h4 hx hid h8 hi h5 h6=>rw[e] at hi hid ⊢;exact .MT (bd H hw) ho hu h2 ht h3 h4 (aY H hx) hid h8 (pM H hi) h5 h6
| DG hw ho hu h2 ht h3 h4 h5 hx hy h6 h7=>rw[e];exact .DG (bd H hw) ho hu h2 ht h3 h4 h5 (aY H hx) (aY H hy) h6 h7
| LR hw ho hu h2 ht h3 h4 h5 hx hid h8 hy h6=>rw[e] at hid ⊢;exact .LR (bd H hw) ho hu h2 ht h3 h4 h5 (aY H hx) hid h8 (aY H hy) h6
| Ut hw ho hu h2 h3 ht h4 hx h5=>rw[e];exact .Ut (bd H hw) ho hu h2 h3 ht h4 (aY H hx) h5
| GV hw ho hu ht h1 hx hid hy h2 h3 h4=>rw[e] at hid ⊢;exact .GV (bd H hw) ho hu ht h1 (aY H hx) hid (aY H hy) h2 h3 h4
| call hw ho hc ha hf hn hb he=>exact .call (bd H hw) ho (vg H hc) (nX H ha) hf hn hb (e▸he)}
end
def bH (ops:Array Oper) (j:Nat):Option Nat:=match ops[j]? with|some o=>o.dst|none=>none
def fE (L:List (List Nat)) (i:Nat):List Nat:=(L[i]?).getD []
def Bc (ops:Array Oper):List (List Nat):=
 ops.toList.foldl (fun L o=>L++[(o.after.toList.foldl (fun acc e=>if Region.binds .any e then (e.on :: fE L e.on).foldl (fun acc j=>if acc.contains j then acc else j :: acc) acc else acc) [])]) []
def vj (ops:Array Oper) (L:List (List Nat)) (act:List Nat):Bool:=
 ((List.range ops.size).all fun i=>match ops[i]? with
   | some o=>(o.after.toList.all fun e=>!Region.binds .any e||decide (e.on<i))&&((fE L i).all fun j=>o.after.toList.any fun e=>Region.binds .any e&&(decide (e.on=j)||(fE L e.on).contains j))
   | none=>true) &&
 ((List.range ops.size).all fun i=>(List.range i).all fun j=>match bH ops i,bH ops j with
   | some d,some d'=>!decide (d=d')
   | _,_=>true) &&
 ((List.range act.length).all fun j=>(List.range j).all fun i=>(fE L (act.getD j 0)).contains (act.getD i 0))
def fZ (L:List (List Nat)) (act:List Nat) (i k:Nat):Bool:=
 (List.range act.length).all fun j=>(!(fE L i).contains (act.getD j 0)||decide (j<k))&&(!(fE L (act.getD j 0)).contains i||decide (k≤j))&&(!decide (act.getD j 0=i)||decide (k=j))
section
variable {N:Env} {ops:Array Oper} {L:List (List Nat)} {act:List Nat} {s0:St} {res:Nat→gu} {Hs:Nat→ai}
structure rQ (ops:Array Oper) (L:List (List Nat)) (act:List Nat):Prop where
 low:∀ i o,ops[i]? = some o→∀ e∈o.after,Region.binds .any e=true→e.on<i
 Mv:∀ i j,j∈fE L i→i<ops.size→∃ o,ops[i]? = some o∧∃ e∈o.after,Region.binds .any e=true∧(e.on=j∨j∈fE L e.on)
 dst:∀ i j d,bH ops i=some d→bH ops j=some d→i=j
 act:∀ i j,i<j→j<act.length→act.getD i 0∈fE L (act.getD j 0)
theorem th {j d:Nat} (h:bH ops j=some d):j<ops.size:=by{
unfold bH at h
split at h
·rename_i o ho
 exact (Array.getElem?_eq_some_iff.1 ho).1
·cases h}
theorem uj (h:vj ops L act=true):rQ ops L act:=by{
unfold vj at h
simp only[Bool.and_eq_true,List.all_eq_true,List.mem_range] at h
obtain⟨⟨h1,h2⟩,h3⟩:=h
have hd:∀ i j d,j<i→bH ops i=some d→bH ops j=some d→False:=fun i j d hij hi hj=>by
 have:=h2 i (th hi) j hij
 rw[hi,hj] at this
 simp at this
refine⟨fun i o ho e he hb=>?_,fun i j hj hi=>?_,fun i j d hi hj=>?_,fun i j hij hj=>?_⟩
·have:=h1 i (Array.getElem?_eq_some_iff.1 ho).1
 rw[ho] at this
 simp only[Bool.and_eq_true,List.all_eq_true] at this
 have:=this.1 e (by simpa using he)
 simpa [hb] using this
·have:=h1 i hi
 rw[Array.getElem?_eq_getElem hi] at this ⊢
 simp only[Bool.and_eq_true,List.all_eq_true,List.any_eq_true,Bool.or_eq_true,decide_eq_true_eq,List.contains_iff_mem] at this
 obtain⟨e,he,hb,hc⟩:=this.2 j hj
 exact⟨_,rfl,e,by simpa using he,hb,hc⟩
·rcases Nat.lt_trichotomy i j with h|h|h
 ·exact (hd j i d h hj hi).elim
 ·exact h
 ·exact (hd i j d h hi hj).elim
·exact List.contains_iff_mem.1 (h3 j hj i hij)}
structure wo (N:Env) (ops:Array Oper) (act:List Nat) (s0:St) (res:Nat→gu) (Hs:Nat→ai) (S:Array Bool) (t:St):Prop where
 size:S.size=ops.size
 closed:∀ j o,ops[j]? = some o→S.getD j false=true→∀ e∈o.after,Region.binds .any e=true→S.getD e.on false=true
 pre:∃ k,k≤act.length∧t.h=Hs k∧∀ j,j<act.length→(S.getD (act.getD j 0) false=true↔j<k)
 out:∀ x,(∀ j,bH ops j≠some x)→aW t.fr x=aW s0.fr x∧fY t.eA x=none
 qK:∀ j d v,bH ops j=some d→S.getD j false=true→res j = .sl v→aW t.fr d=v∧fY t.eA d=none
 CL:∀ j d sl off,bH ops j=some d→S.getD j false=true→res j = .ep sl off→fY t.eA d=some ([],(sl,off))
 NO:∀ q∈t.eA,∀ j,bH ops j≠some q.2.2.1
theorem jF (C:rQ ops L act) {S:Array Bool} (hsz:S.size=ops.size) (hcl:∀ j o,ops[j]? = some o→S.getD j false=true→∀ e∈o.after,Region.binds .any e=true→S.getD e.on false=true) : ∀ (i j:Nat),i<ops.size→(∀ o,ops[i]? = some o→∀ e∈o.after,Region.binds .any e=true→S.getD e.on false=true)→j∈fE L i→S.getD j false=true:=by{
intro i
induction i using Nat.strongRecOn with
| _ i ih=>
  intro j hi hr hj
  obtain⟨o,ho,e,he,hb,h⟩:=C.Mv i j hj hi
  have h1:=hr o ho e he hb
  rcases h with rfl|h
  ·exact h1
  ·have hlt:=C.low i o ho e he hb
   exact ih e.on hlt j (by omega) (fun o' ho' e' he' hb'=>hcl e.on o' ho' h1 e' he' hb') h}
theorem fQ:∀ (e:CR) (d:Nat),fY (eN e d) d=none
 | [],d=>rfl
 | (k,(g,(s,o))) :: r,d=>by
   simp only[eN]
   split
   ·exact fQ r d
   ·split
    ·exact fQ r d
    ·rename_i h _
     simp only[fY,if_neg h]
     exact fQ r d
theorem fS:∀ {e:CR} {d x:Nat},(∀ q∈e,q.2.2.1≠d)→x≠d→fY (eN e d) x=fY e x
 | [],d,x,_,_=>rfl
 | (k,(g,(s,o))) :: r,d,x,h,hx=>by
   have hr:=fS (e:=r) (d:=d) (x:=x) (fun q hq=>h q (List.mem_cons_of_mem _ hq)) hx
   have hs:s≠d:=h (k,(g,(s,o))) List.mem_cons_self
   simp only[eN]
   split
   ·rename_i hk
    simp only[fY]
    rw[if_neg (by omega)]
    exact hr
   ·try rw[if_neg hs]
    simp only[fY]
    split
    ·rfl
    ·exact hr
theorem j8 {q:Nat×(List Key×(Nat×Nat))} {d:Nat}:∀ {e:CR},q∈eN e d→q∈e
 | [],h=>h
 | (k,(g,(s,o))) :: r,h=>by
   simp only[eN] at h
   split at h
   ·exact List.mem_cons_of_mem _ (j8 h)
   ·split at h
    ·exact List.mem_cons_of_mem _ (j8 h)
    ·rcases List.mem_cons.1 h with h|h
     ·exact h▸List.mem_cons_self
     ·exact List.mem_cons_of_mem _ (j8 h)
structure View (ops:Array Oper) (L:List (List Nat)) (s0:St) (res:Nat→gu) (i:Nat) (V:St):Prop where
 f:∀ x,aW V.fr x = .dL∨((∀ j,bH ops j≠some x)∧aW s0.fr x=aW V.fr x)∨∃ j,bH ops j=some x∧j∈fE L i∧res j = .sl (aW V.fr x)
 e:∀ x p,fY V.eA x=some p→∃ j sl off,bH ops j=some x∧j∈fE L i∧res j = .ep sl off∧p=([],(sl,off))
 n:∀ x,aW V.fr x≠.dL→fY V.eA x=none
theorem View.sub (C:rQ ops L act) {S:Array Bool} {t V:St} {i:Nat} (I:wo N ops act s0 res Hs S t) (hi:i<ops.size) (hr:∀ o,ops[i]? = some o→∀ e∈o.after,Region.binds .any e=true→S.getD e.on false=true) (hV:View ops L s0 res i V) (hh:V.h=t.h):fD V t:=by{
have hin:∀ j,j∈fE L i→S.getD j false=true:=fun j hj=>jF C I.size I.closed i j hi hr hj
refine⟨hh,fun x=>?_,fun x p hp=>?_,fun x hx=>?_⟩
·rcases hV.f x with h|⟨h,h2⟩ | ⟨j,h,h2,h3⟩
 ·exact .inl h
 ·exact .inr ((I.out x h).1.trans h2)
 ·exact .inr (I.qK j x _ h (hin j h2) h3).1
·obtain⟨j,sl,off,h,h2,h3,rfl⟩:=hV.e x p hp
 exact I.CL j x sl off h (hin j h2) h3
·rw[hV.n x hx]
 rcases hV.f x with h|⟨h,h2⟩ | ⟨j,h,h2,h3⟩
 ·exact (hx h).elim
 ·exact (I.out x h).2
 ·exact (I.qK j x _ h (hin j h2) h3).2}
theorem eK {S:Array Bool} {i j:Nat} (hi:i<S.size):((S.setIfInBounds i true).getD j false=true)↔(j=i∨S.getD j false=true):=by{
by_cases h:i=j
·subst h
 simp [hi]
·rw[getD_set_ne false h]
 exact⟨.inr,fun h'=>h'.resolve_left fun e=>h e.symm⟩}
theorem wo.step (C:rQ ops L act) (hT:∀ j sl off,res j = .ep sl off→∀ i,bH ops i≠some sl) {S:Array Bool} {t:St} {i:Nat} {o:Oper} (hstep:∀ o k,ops[i]? = some o→k≤act.length→fZ L act i k=true→∃ V,View ops L s0 res i V∧V.h=Hs k∧One N ops o V (res i) (Hs (if i∈act then k+1 else k))) (I:wo N ops act s0 res Hs S t) (hi:i∈Region.ready .any ops S) (ho:ops[i]? = some o) : ∃ s',Ev N (.ops ops [o] t s')∧wo N ops act s0 res Hs (S.setIfInBounds i true) s':=by{
obtain⟨hun,oi,hoi,hall⟩:=mem_ready.1 hi
obtain rfl:oi=o:=Option.some.inj (hoi.symm.trans ho)
have hlt:i<ops.size:=(Array.getElem?_eq_some_iff.1 ho).1
have hltS:i<S.size:=by rw[I.size];exact hlt
have hnot:¬ S.getD i false=true:=by
 have h1:=getD_both hun
 rw[h1]
 simp
have hr:∀ o,ops[i]? = some o→∀ e∈o.after,Region.binds .any e=true→S.getD e.on false=true:=fun o' ho' e he hb=>by
 obtain rfl:oi=o':=Option.some.inj (ho.symm.trans ho')
 exact hall e he hb
have hin:∀ j,j∈fE L i→S.getD j false=true:=fun j hj=>jF C I.size I.closed i j hlt hr hj
obtain⟨k,hk,hh,hpre⟩:=I.pre
have hst:fZ L act i k=true:=by
 unfold fZ
 rw[List.all_eq_true]
 intro j hj
 rw[List.mem_range] at hj
 simp only[Bool.and_eq_true,Bool.or_eq_true,Bool.not_eq_true',decide_eq_true_eq,decide_eq_false_iff_not]
 refine⟨⟨?_,?_⟩,?_⟩
 ·by_cases h:act.getD j 0∈fE L i
  ·exact .inr ((hpre j hj).1 (hin _ h))
  ·exact .inl (by simpa using h)
 ·by_cases h:i∈fE L (act.getD j 0)
  ·refine .inr (Nat.le_of_not_lt fun hjk=>?_)
   have h1:=(hpre j hj).2 hjk
   have hal:act.getD j 0<ops.size:=by
    rcases Nat.lt_or_ge (act.getD j 0) ops.size with h2|h2
    ·exact h2
    ·have:S.size≤act.getD j 0:=by rw[I.size];exact h2
     rw[Array.getD_eq_getD_getElem?,Array.getElem?_eq_none this] at h1
     cases h1
   exact hnot (jF C I.size I.closed _ i hal (fun o' ho' e he hb=>I.closed _ o' ho' h1 e he hb) h)
  ·exact .inl (by simpa using h)
 ·by_cases h:act.getD j 0=i
  ·refine .inr (Nat.le_antisymm (Nat.le_of_not_lt fun hjk=>?_) (Nat.le_of_not_lt fun hkj=>?_))
   ·exact hnot (h▸(hpre j hj).2 hjk)
   ·have h1:=C.act k j hkj hj
    rw[h] at h1
    have:=(hpre k (by omega)).1 (hin _ h1)
    omega
  ·exact .inl h
obtain⟨V,hV,hVh,hone⟩:=hstep oi k ho hk hst
have hsub:=hV.sub C I hlt hr (hVh.trans hh.symm)
refine⟨_,(hone.mono hsub).ev,?_⟩
have hset:∀ j,((S.setIfInBounds i true).getD j false=true)↔(j=i∨S.getD j false=true):=fun j=>eK hltS
have hpre':∃ k',k'≤act.length∧Hs (if i∈act then k+1 else k)=Hs k'∧∀ j,j<act.length→((S.setIfInBounds i true).getD (act.getD j 0) false=true↔j<k'):=by
 have hst':∀ j,j<act.length→act.getD j 0=i→k=j:=fun j hj h=>by
  unfold fZ at hst
  rw[List.all_eq_true] at hst
  have:=hst j (List.mem_range.2 hj)
  simp only[Bool.and_eq_true,Bool.or_eq_true,Bool.not_eq_true',decide_eq_true_eq,decide_eq_false_iff_not] at this
  exact this.2.resolve_left fun hn=>hn h
 by_cases hia:i∈act
 ·rw[if_pos hia]
  obtain⟨j0,hj0,hji⟩:=List.mem_iff_getElem.1 hia
  have hg:act.getD j0 0=i:=by simp [hj0,hji]
  have hk0:=hst' j0 hj0 hg
  refine⟨k+1,by omega,rfl,fun j hj=>?_⟩
  rw[hset]
  constructor
  ·rintro (h|h)
   ·have:=hst' j hj h
    omega
   ·have:=(hpre j hj).1 h
    omega
  ·intro h
   rcases Nat.lt_or_ge j k with h1|h1
   ·exact .inr ((hpre j hj).2 h1)
   ·obtain rfl:j=j0:=by omega
    exact .inl hg
 ·rw[if_neg hia]
  refine⟨k,hk,rfl,fun j hj=>?_⟩
  rw[hset]
  constructor
  ·rintro (h|h)
   ·exact (hia (by rw[← h];simp [hj])).elim
   ·exact (hpre j hj).1 h
  ·exact fun h=>.inr ((hpre j hj).2 h)
have hcl':∀ j o,ops[j]? = some o→(S.setIfInBounds i true).getD j false=true→∀ e∈o.after,Region.binds .any e=true→(S.setIfInBounds i true).getD e.on false=true:=fun j o hj hl e he hb=>by
 rw[hset]
 rcases (hset j).1 hl with rfl|h
 ·exact .inr (hr o hj e he hb)
 ·exact .inr (I.closed j o hj h e he hb)
cases hd:oi.dst with
| none=>
  have hda:bH ops i=none:=by simp [bH,ho,hd]
  have hne:∀ j d,bH ops j=some d→j≠i:=fun j d h e=>by rw[e,hda] at h;cases h
  exact⟨by simp [I.size],hcl',hpre',I.out,fun j d v hj hl=>I.qK j d v hj (((hset j).1 hl).resolve_left (hne j d hj)),fun j d sl off hj hl=>I.CL j d sl off hj (((hset j).1 hl).resolve_left (hne j d hj)),I.NO⟩
| some d=>
  have hda:bH ops i=some d:=by simp [bH,ho,hd]
  have hdn:∀ q∈t.eA,q.2.2.1≠d:=fun q hq e=>I.NO q hq i (by rw[e];exact hda)
  have hdne:∀ j d',j≠i→bH ops j=some d'→d'≠d:=fun j d' hj h e=>hj (C.dst j i d (e▸h) hda)
  cases hres:res i with
  | sl v=>
    refine⟨by simp [I.size],hcl',hpre',fun x hx=>?_,fun j d' v' hj hl hv=>?_,fun j d' sl off hj hl hv=>?_,fun q hq=>I.NO q (j8 hq)⟩
    ·have hxd:x≠d:=fun e=>hx i (e▸hda)
     simp only[wI,bB]
     rw[if_neg (fun e=>hxd e.symm),fS hdn hxd]
     exact I.out x hx
    ·simp only[wI,bB]
     by_cases hji:j=i
     ·subst hji
      obtain rfl:d=d':=Option.some.inj (hda.symm.trans hj)
      rw[if_pos rfl,fQ]
      rw[hres] at hv
      cases hv
      exact⟨rfl,rfl⟩
     ·have:=hdne j d' hji hj
      rw[if_neg (fun e=>this e.symm),fS hdn this]
      exact I.qK j d' v' hj (((hset j).1 hl).resolve_left hji) hv
    ·by_cases hji:j=i
     ·subst hji
      rw[hres] at hv
      cases hv
     ·have:=hdne j d' hji hj
      simp only[wI]
      rw[fS hdn this]
      exact I.CL j d' sl off hj (((hset j).1 hl).resolve_left hji) hv
  | ep sl0 off0=>
    refine⟨by simp [I.size],hcl',hpre',fun x hx=>?_,fun j d' v' hj hl hv=>?_,fun j d' sl off hj hl hv=>?_,fun q hq=>?_⟩
    ·have hxd:x≠d:=fun e=>hx i (e▸hda)
     simp only[wI,bB,fY]
     rw[if_neg (fun e=>hxd e.symm),if_neg (fun e=>hxd e.symm),fS hdn hxd]
     exact I.out x hx
    ·by_cases hji:j=i
     ·subst hji
      rw[hres] at hv
      cases hv
     ·have:=hdne j d' hji hj
      simp only[wI,bB,fY]
      rw[if_neg (fun e=>this e.symm),if_neg (fun e=>this e.symm),fS hdn this]
      exact I.qK j d' v' hj (((hset j).1 hl).resolve_left hji) hv
    ·by_cases hji:j=i
     ·subst hji
      obtain rfl:d=d':=Option.some.inj (hda.symm.trans hj)
      simp only[wI,fY,if_true]
      rw[hres] at hv
      cases hv
      rfl
     ·have:=hdne j d' hji hj
      simp only[wI,fY]
      rw[if_neg (fun e=>this e.symm),fS hdn this]
      exact I.CL j d' sl off hj (((hset j).1 hl).resolve_left hji) hv
    ·rcases List.mem_cons.1 hq with rfl|hq
     ·exact fun j=>hT i sl0 off0 hres j
     ·exact I.NO q (j8 hq)}
theorem Ed {id:Nat} {s:St} {frF:Fr} (hm:N.P.follows .mixedOrders=true) (C:rQ ops L act) (hT:∀ j sl off,res j = .ep sl off→∀ i,bH ops i≠some sl) (hstep:∀ i o k,ops[i]? = some o→k≤act.length→fZ L act i k=true→∃ V,View ops L s res i V∧V.h=Hs k∧One N ops o V (res i) (Hs (if i∈act then k+1 else k))) (hact:∀ a∈act,a<ops.size) (h0:s.h=Hs 0) (hF:∀ p∈frF,((∀ j,bH ops j≠some p.1)∧aW s.fr p.1=p.2)∨∃ j,bH ops j=some p.1∧res j = .sl p.2) : Ev N (.code (.region id ops true) s .normal ⟨frF,[],Hs act.length⟩):=by{
classical
refine .wK (wo N ops act s res Hs) (fun S t i=>match ops[i]? with
 | some o=>if h:∃ s',Ev N (.ops ops [o] t s')∧wo N ops act s res Hs (S.setIfInBounds i true) s' then h.choose else t
 | none=>t) hm ?_ ?_ ?_ ?_ rfl
·refine⟨by simp,fun j o _ hl=>?_,⟨0,Nat.zero_le _,h0,fun j _=>?_⟩,fun x _=>⟨rfl,rfl⟩,fun j d v _ hl=>?_,fun j d sl off _ hl=>?_,fun q hq=>by cases hq⟩
 ·rw[getD_replicate_false] at hl
  cases hl
 ·rw[getD_replicate_false]
  simp
 ·rw[getD_replicate_false] at hl
  cases hl
 ·rw[getD_replicate_false] at hl
  cases hl
·intro S t i o I hi ho
 simp only[ho]
 have h:=I.step C hT (hstep i) hi ho
 rw[dif_pos h]
 exact h.choose_spec.1
·intro S t i o I hi ho
 simp only[ho]
 have h:=I.step C hT (hstep i) hi ho
 rw[dif_pos h]
 exact h.choose_spec.2
·intro S t I hr
 have hall:∀ i,i<ops.size→S.getD i false=true:=by
  intro i
  induction i using Nat.strongRecOn with
  | _ i ih=>
    intro hi
    cases hb:S.getD i false with
    | true=>rfl
    | false=>
      have:i∈Region.ready .any ops S:=mem_ready.2 ⟨getD_in (by rw[I.size];exact hi) hb,ops[i],Array.getElem?_eq_getElem hi,fun e he hbi=>by
       have hlow:=C.low i _ (Array.getElem?_eq_getElem hi) e he hbi
       exact ih e.on hlow (by omega)⟩
      rw[hr] at this
      cases this
 refine⟨fun p hp=>?_,?_⟩
 ·rcases hF p hp with ⟨h1,h2⟩ | ⟨j,h1,h2⟩
  ·exact (I.out p.1 h1).1.trans h2
  ·exact (I.qK j p.1 p.2 h1 (hall j (th h1)) h2).1
 ·obtain⟨k,hk,hh,hpre⟩:=I.pre
  have:k=act.length:=by
   rcases Nat.lt_or_ge k act.length with h|h
   ·have:=(hpre k h).1 (hall _ (hact _ (by simp [h])))
    omega
   ·omega
  rw[hh,this]}
end
def dstsOf (ops:Array Oper):List Nat:=ops.toList.filterMap (·.dst)
def jq (resL:List gu) (j:Nat):gu:=(resL[j]?).getD (.sl .dL)
def tq (hs:List ai) (k:Nat):ai:=(hs[k]?).getD []
def iR (ops:Array Oper) (resL:List gu):List Nat→Fr
 | []=>[]
 | j :: l=>match bH ops j,resL[j]? with
   | some d,some (.sl v)=>(d,v) :: iR ops resL l
   | _,_=>iR ops resL l
def xv (ops:Array Oper) (resL:List gu):List Nat→CR
 | []=>[]
 | j :: l=>match bH ops j,resL[j]? with
   | some d,some (.ep sl off)=>(d,([],(sl,off))) :: xv ops resL l
   | _,_=>xv ops resL l
def g8 (ds:List Nat):Fr→Fr
 | []=>[]
 | (k,v) :: r=>if ds.contains k then g8 ds r else (k,v) :: g8 ds r
def fj (ops:Array Oper) (L:List (List Nat)) (resL:List gu) (fr:Fr) (h:ai) (i:Nat):St:=⟨g8 (dstsOf ops) fr++iR ops resL (fE L i),xv ops resL (fE L i),h⟩
section
variable {N:Env} {ops:Array Oper} {L:List (List Nat)} {act:List Nat} {resL:List gu}
theorem ik {j d:Nat} (h:bH ops j=some d):d∈dstsOf ops:=by{
unfold bH at h
split at h
·rename_i o ho
 unfold dstsOf
 rw[List.mem_filterMap]
 exact⟨o,Array.mem_toList_iff.2 (Array.mem_of_getElem? ho),h⟩
·cases h}
theorem jo {x:Nat}:∀ {l:List Nat},aW (iR ops resL l) x = .dL∨∃ j,bH ops j=some x∧j∈l∧resL[j]? = some (.sl (aW (iR ops resL l) x))
 | []=>.inl rfl
 | j :: l=>by
   have ih:=jo (x:=x) (l:=l)
   have ih':aW (iR ops resL l) x = .dL∨∃ j',bH ops j'=some x∧j'∈j :: l∧resL[j']? = some (.sl (aW (iR ops resL l) x)):=by
    rcases ih with h|⟨j',h1,h2,h3⟩
    ·exact .inl h
    ·exact .inr ⟨j',h1,List.mem_cons_of_mem _ h2,h3⟩
   simp only[iR]
   split
   ·rename_i d v hd hr
    simp only[aW]
    split
    ·rename_i hx
     subst hx
     exact .inr ⟨j,hd,List.mem_cons_self,hr⟩
    ·exact ih'
   ·exact ih'
theorem oL {x:Nat} {p:List Key×(Nat×Nat)}:∀ {l:List Nat},fY (xv ops resL l) x=some p→∃ j sl off,bH ops j=some x∧j∈l∧resL[j]? = some (.ep sl off)∧p=([],(sl,off))
 | [],h=>by cases h
 | j :: l,h=>by
   have ih:fY (xv ops resL l) x=some p→∃ j' sl off,bH ops j'=some x∧j'∈j :: l∧resL[j']? = some (.ep sl off)∧p=([],(sl,off)):=fun h=>by
    obtain⟨j',sl,off,h1,h2,h3⟩:=oL h
    exact⟨j',sl,off,h1,List.mem_cons_of_mem _ h2,h3⟩
   simp only[xv] at h
   split at h
   ·rename_i d sl off hd hr
    simp only[fY] at h
    split at h
    ·rename_i hx
     subst hx
     cases h
     exact⟨j,sl,off,hd,List.mem_cons_self,hr,rfl⟩
    ·exact ih h
   ·exact ih h
theorem pG {ds:List Nat} {B:Fr} {x:Nat} (hx:x∈ds):∀ {fr:Fr},aW (g8 ds fr++B) x=aW B x
 | []=>rfl
 | (k,v) :: r=>by
   simp only[g8]
   split
   ·exact pG hx
   ·rename_i hk
    have:k≠x:=fun e=>hk (by rw[e];simpa using hx)
    simp only[List.cons_append,aW,if_neg this]
    exact pG hx
theorem mP {ds:List Nat} {B:Fr} {x:Nat} (hx:x∉ds) (hB:aW B x = .dL):∀ {fr:Fr},aW (g8 ds fr++B) x=aW fr x
 | []=>hB
 | (k,v) :: r=>by
   simp only[g8]
   split
   ·rename_i hk
    have:k≠x:=fun e=>hx (by rw[← e];simpa using hk)
    simp only[aW,if_neg this]
    exact mP hx hB
   ·simp only[List.cons_append,aW]
    split
    ·rfl
    ·exact mP hx hB
theorem j4 {j:Nat} {r:gu} (h:resL[j]? = some r):jq resL j=r:=by simp [jq,h]
theorem wx (C:rQ ops L act) {s0:St} {h:ai} {i:Nat}:View ops L s0 (jq resL) i (fj ops L resL s0.fr h i):=by{
have hf:∀ x,aW (fj ops L resL s0.fr h i).fr x = .dL∨((∀ j,bH ops j≠some x)∧aW s0.fr x=aW (fj ops L resL s0.fr h i).fr x)∨∃ j,bH ops j=some x∧j∈fE L i∧jq resL j = .sl (aW (fj ops L resL s0.fr h i).fr x):=by
 intro x
 by_cases hx:x∈dstsOf ops
 ·simp only[fj,pG hx]
  rcases jo (ops:=ops) (resL:=resL) (x:=x) (l:=fE L i) with h|⟨j,h1,h2,h3⟩
  ·exact .inl h
  ·exact .inr (.inr ⟨j,h1,h2,j4 h3⟩)
 ·have hB:aW (iR ops resL (fE L i)) x = .dL:=by
   rcases jo (ops:=ops) (resL:=resL) (x:=x) (l:=fE L i) with h|⟨j,h1,_⟩
   ·exact h
   ·exact (hx (ik h1)).elim
  refine .inr (.inl ⟨fun j hj=>hx (ik hj),?_⟩)
  simp only[fj,mP hx hB]
refine⟨hf,fun x p hp=>?_,fun x hx=>?_⟩
·obtain⟨j,sl,off,h1,h2,h3,h4⟩:=oL hp
 exact⟨j,sl,off,h1,h2,j4 h3,h4⟩
·cases he:fY (fj ops L resL s0.fr h i).eA x with
 | none=>rfl
 | some p=>
   obtain⟨j,sl,off,h1,h2,h3,_⟩:=oL he
   rcases hf x with h|⟨h,_⟩ | ⟨j',k1,k2,k3⟩
   ·exact (hx h).elim
   ·exact (h j h1).elim
   ·obtain rfl:=C.dst j j' x h1 k1
    rw[j4 h3] at k3
    cases k3}
def KK (all:Array Oper) (d:Nat):Bool:=all.any fun o=>match o.op with
 | .call c=>match c.callee with
   | .builtin .append=>match c.args.toList with
     | [_,.tmp y]=>y == d
     | _=>false
   | _=>false
 | _=>false
def rE (N:Env) (call:FuncId→List Value→ai→Option (Value×ai)) (nm:FuncId→Bool) (all:Array Oper) (o:Oper) (s:St):Option (gu×ai):=
 match aE all o s with
 | none=>none
 | some false=>some (.sl (.val (.tuple #[])),s.h)
 | some true=>match o.op with
   | .box t x=>(hZ N s (.box t x)).map fun p=>(.sl (.val (.pointer (some ⟨s.h.length,0,some 0⟩))),s.h++[ax.aq p.2 0 true p.1])
   | .alloc t=>(hZ N s (.alloc t)).map fun p=>(.sl (.val (.pointer (some ⟨s.h.length,0,some 0⟩))),s.h++[ax.aq p.2 0 true p.1])
   | .buildSlice t l ps=>match o.dst with
     | some d=>if KK all d then (jr N s (.buildSlice t l ps)).map fun p=>(.sl (.nz p.2.1 p.2.2),s.h)
       else (jr N s (.buildSlice t l ps)).map fun p=>(.sl (.val (.slice (some ⟨s.h.length,0,some 0⟩) p.2.2 p.2.2)),s.h++[ax.aq p.2.1 0 true p.1])
     | none=>none
   | .makeSlice t l c=>(yW N s (.makeSlice t l c)).map fun p=>(.sl (.val (.slice (some ⟨s.h.length,0,some 0⟩) p.2.2 p.2.2)),s.h++[ax.aq p.2.1 0 true p.1])
   | .store t a x=>match o.dst with
     | none=>match au N.P t,ev s a,ev s x with
       | some ti,some (.pointer (some ⟨id,off,some av⟩)),some v=>match s.h[id]?,ee ti.size v with
         | some (.aq cells ver' true et),some vs=>if ver'=av then (lL cells off vs).map fun cells'=>(.sl .dL,s.h.set id (ax.aq cells' av true et)) else none
         | _,_=>none
       | _,_,_=>none
     | some _=>none
   | .makeMap t none=>match N.P.underlying t with
     | some (.map _ _)=>some (.sl (.val (.map (some s.h.length))),s.h++[ax.map []])
     | _=>none
   | .mapUpdate t x i y=>match o.dst with
     | none=>match BY N s t x,ev s i,ev s y with
       | some (id,es,kd,_),some k,some v=>if kd k then some (.sl .dL,s.h.set id (ax.map (iT es k v))) else none
       | _,_,_=>none
     | some _=>none
   | .mapEntry t x i=>match BY N s t x,ev s i with
     | some (id,es,kd,et),some k=>match zeroOf N.P et with
       | some z=>if kd k then some (.sl (.val (.tuple #[(pA es k z).1,.int .i64 (pA es k z).2.1])),s.h.set id (ax.map (pA es k z).2.2)) else none
       | none=>none
     | _,_=>none
   | .entryStore _ x i y=>match o.dst with
     | none=>match ev s x,ev s i,ev s y with
       | some (.map (some id)),some (.int .i64 (.ofNat j)),some v=>match s.h[id]? with
         | some (.map es)=>match es[j]? with
           | some (k,_)=>some (.sl .dL,s.h.set id (ax.map (es.set j (k,v))))
           | none=>none
         | _=>none
       | _,_,_=>none
     | some _=>none
   | .call c=>match c.callee with
     | .builtin .append=>match c.args.toList,c.argTypes.toList with
       | [x,y],[t,t2]=>match N.P.underlying t with
         | some (.slice e)=>match au N.P e with
           | some ti=>if t2=t∧0<ti.size∧(ti.zero.map fun z=>z.cells.size)=some ti.size then (match cJ s s.h ti.size y with
             | some (cs,m)=>match ev s x with
               | some (.slice none 0 0)=>if 0<m∧m*ti.bytes≤140737488355328∧m≤140737488355328 then some (.sl (.val (.slice (some ⟨s.h.length,0,some 0⟩) m m)),s.h++[ax.aq cs 0 true e]) else none
               | some (.slice (some ⟨id,0,some av⟩) n _)=>match s.h[id]? with
                 | some (.aq cells ver' true et)=>if ver'=av∧et=e∧n*ti.size≤cells.length∧(n+m)*ti.bytes≤140737488355328∧n+m≤140737488355328 then
                  some (.sl (.val (.slice (some ⟨id,0,some (av+1)⟩) (n+m) (n+m))),s.h.set id (ax.aq (cells.take (n*ti.size)++cs) (av+1) true e)) else none
                 | _=>none
               | _=>none
             | none=>none) else none
           | none=>none
         | _=>none
       | _,_=>none
     | .builtin _=>(qU N s o.op).map fun v=>(.sl (.val v),s.h)
     | cal=>match fp s cal,tL s c.args.toList with
       | some (f,cap),some args=>if nm f then (match call f (args++cap) s.h with
         | some (v,h')=>some (.sl (.val v),h')
         | none=>none) else none
       | _,_=>none
   | _=>match qU N s o.op with
     | some v=>some (.sl (.val v),s.h)
     | none=>match wY N s o.op,o.dst with
       | some (sl,off),some d=>if sl=d then none else some (.ep sl off,s.h)
       | _,_=>none
variable {call:FuncId→List Value→ai→Option (Value×ai)} {nm:FuncId→Bool}
theorem FC (hC:gE N call) (hn:rA N nm) {all:Array Oper} {o:Oper} {s:St} {r:gu} {h':ai} (h:rE N call nm all o s=some (r,h')):One N all o s r h':=by{
unfold rE at h
split at h
·cases h
·rename_i hw
 cases h
 exact .skip hw
·rename_i hw
 split at h
 ·rename_i t x ho
  cases hb:hZ N s (.box t x) with
  | none=>simp [hb] at h
  | some p=>
    simp only[hb,Option.map_some,Option.some.injEq,Prod.mk.injEq] at h
    obtain⟨rfl,rfl⟩:=h
    exact .D9 hw (by rw[ho];exact hb)
 ·rename_i t ho
  cases hb:hZ N s (.alloc t) with
  | none=>simp [hb] at h
  | some p=>
    simp only[hb,Option.map_some,Option.some.injEq,Prod.mk.injEq] at h
    obtain⟨rfl,rfl⟩:=h
    exact .D9 hw (by rw[ho];exact hb)
 ·rename_i t l ps ho
  split at h
  ·rename_i d hd
   split at h
   ·cases hb:jr N s (.buildSlice t l ps) with
    | none=>simp [hb] at h
    | some p=>
      simp only[hb,Option.map_some,Option.some.injEq,Prod.mk.injEq] at h
      obtain⟨rfl,rfl⟩:=h
      exact .nz hw hd (by rw[ho];exact hb)
   ·cases hb:jr N s (.buildSlice t l ps) with
    | none=>simp [hb] at h
    | some p=>
      simp only[hb,Option.map_some,Option.some.injEq,Prod.mk.injEq] at h
      obtain⟨rfl,rfl⟩:=h
      exact .Gq hw (by rw[ho];exact hb)
  ·cases h
 ·rename_i t l c ho
  cases hb:yW N s (.makeSlice t l c) with
  | none=>simp [hb] at h
  | some p=>
    simp only[hb,Option.map_some,Option.some.injEq,Prod.mk.injEq] at h
    obtain⟨rfl,rfl⟩:=h
    exact .mk hw (by rw[ho];exact hb)
 ·rename_i t a x ho
  split at h
  ·rename_i hd
   split at h
   ·rename_i ti id off av v ht ha hx
    split at h
    ·rename_i cells ver' et vs hid hv
     split at h
     ·rename_i hver
      subst hver
      cases hq:Am.lL cells off vs with
      | none=>simp [hq] at h
      | some cells'=>
        simp only[hq,Option.map_some,Option.some.injEq,Prod.mk.injEq] at h
        obtain⟨rfl,rfl⟩:=h
        exact .jE hw ho ht ha hid hx hv hq hd
     ·cases h
    ·cases h
   ·cases h
  ·cases h
 ·rename_i t ho
  split at h
  ·rename_i kt et hu
   cases h
   exact .map hw ho hu
  ·cases h
 ·rename_i t x i y ho
  split at h
  ·rename_i hd
   split at h
   ·rename_i id es kd et k v hm hk hv
    split at h
    ·rename_i hkk
     cases h
     obtain⟨kt,hu,hkd,hx,hid,hmk⟩:=lV hm
     exact .BA hw ho hu hkd hx hid hk hv hkk hmk hd
    ·cases h
   ·cases h
  ·cases h
 ·rename_i t x i ho
  split at h
  ·rename_i id es kd et k hm hk
   split at h
   ·rename_i z hz
    split at h
    ·rename_i hkk
     cases h
     obtain⟨kt,hu,hkd,hx,hid,hmk⟩:=lV hm
     exact .yv hw ho hu hkd hz hx hid hk hkk hmk rfl
    ·cases h
   ·cases h
  ·cases h
 ·rename_i t x i y ho
  split at h
  ·rename_i hd
   split at h
   ·rename_i id j v hx hi hv
    split at h
    ·rename_i es hid
     split at h
     ·rename_i k u hj
      cases h
      exact .ND hw ho hx hid hi hv hj hd
     ·cases h
    ·cases h
   ·cases h
  ·cases h
 ·rename_i c ho
  split at h
  ·rename_i hc
   split at h
   ·rename_i x y t t2 hx ht
    have ho':o.op = .call { callee:=.builtin .append,args:=#[x,y],argTypes:=#[t,t2] }:=by
     rw[ho]
     cases c with
     | mk cal a ty=>
       simp only at hc hx ht
       subst hc
       rw[show a=#[x,y] from Array.toList_inj.1 hx,show ty=#[t,t2] from Array.toList_inj.1 ht]
    split at h
    ·rename_i e hu
     split at h
     ·rename_i ti hti
      split at h
      ·rename_i hq
       obtain⟨q1,q2,q3⟩:=hq
       split at h
       ·rename_i cs m hi
        split at h
        ·rename_i hv
         split at h
         ·rename_i hm
          cases h
          exact .ze hw ho' hu q1 hti q2 q3 hv hi hm.1 hm.2.1 hm.2.2
         ·cases h
        ·rename_i id av n cp hv
         split at h
         ·rename_i cells ver' et hid
          split at h
          ·rename_i hm
           obtain⟨rfl,rfl,m1,m2,m3⟩:=hm
           cases h
           exact .MT hw ho' hu q1 hti q2 q3 hv hid m1 hi m2 m3
          ·cases h
         ·cases h
        ·cases h
       ·cases h
      ·cases h
     ·cases h
    ·cases h
   ·cases h
  ·rename_i b hb
   cases hv:qU N s o.op with
   | none=>simp [hv] at h
   | some v=>
     simp only[hv,Option.map_some,Option.some.injEq,Prod.mk.injEq] at h
     obtain⟨rfl,rfl⟩:=h
     exact .val hw hv
  ·split at h
   ·rename_i f cap args hcal hargs
    split at h
    ·rename_i hnm
     split at h
     ·rename_i v h' hcall
      cases h
      obtain⟨⟨fn,h1,h2⟩,h3⟩:=hC _ _ _ _ _ hcall
      exact .call hw ho hcal hargs h1 (hn _ _ hnm h1) h2 h3
     ·cases h
    ·cases h
   ·cases h
 ·split at h
  ·rename_i v hv
   cases h
   exact .val hw hv
  ·split at h
   ·rename_i sl off d he hd
    split at h
    ·cases h
    ·rename_i hne
     cases h
     exact .eA hw hd he hne
   ·cases h}
def fO (N:Env) (ops:Array Oper) (L:List (List Nat)) (act:List Nat) (resL:List gu) (hs:List ai) (fr:Fr) (i:Nat) (o:Oper):List Nat→Prop
 | []=>True
 | k :: l=>(fZ L act i k=true→One N ops o (fj ops L resL fr (tq hs k) i) (jq resL i) (tq hs (if i∈act then k+1 else k)))∧fO N ops L act resL hs fr i o l
def eZ (N:Env) (ops:Array Oper) (L:List (List Nat)) (act:List Nat) (resL:List gu) (hs:List ai) (fr:Fr):Nat→List Oper→Prop
 | _,[]=>True
 | i,o :: l=>fO N ops L act resL hs fr i o (List.range (act.length+1))∧eZ N ops L act resL hs fr (i+1) l
theorem fO.at {hs:List ai} {fr:Fr} {i:Nat} {o:Oper}:∀ {l:List Nat} {k:Nat},fO N ops L act resL hs fr i o l→k∈l→fZ L act i k=true →
 One N ops o (fj ops L resL fr (tq hs k) i) (jq resL i) (tq hs (if i∈act then k+1 else k))
 | [],_,_,h=>by cases h
 | k' :: l,k,⟨h1,h2⟩,h=>by
   rcases List.mem_cons.1 h with rfl|h
   ·exact h1
   ·exact fO.at h2 h
theorem eZ.at {hs:List ai} {fr:Fr}:∀ {l:List Oper} {i j:Nat} {o:Oper},eZ N ops L act resL hs fr i l→l[j]? = some o→fO N ops L act resL hs fr (i+j) o (List.range (act.length+1))
 | [],_,_,_,_,h=>by simp at h
 | o' :: l,i,0,o,⟨h1,_⟩,h=>by
   simp only[List.getElem?_cons_zero,Option.some.injEq] at h
   exact h▸h1
 | o' :: l,i,j+1,o,⟨_,h2⟩,h=>by
   have:=eZ.at h2 (by simpa using h)
   rwa [show i+1+j=i+(j+1) by omega] at this
def zZ (ops:Array Oper) (resL:List gu):Bool:=resL.all fun r=>match r with
 | .ep sl _=>!(dstsOf ops).contains sl
 | _=>true
def gT (ops:Array Oper) (resL:List gu) (fr:Fr):Fr→Prop
 | []=>True
 | (x,v) :: r=>((x∉dstsOf ops∧aW fr x=v)∨aW (iR ops resL (List.range ops.size)) x=v∧v≠.dL)∧gT ops resL fr r
theorem gT.at {fr:Fr}:∀ {frF:Fr} {p:Nat×fX},gT ops resL fr frF→p∈frF→((∀ j,bH ops j≠some p.1)∧aW fr p.1=p.2)∨∃ j,bH ops j=some p.1∧jq resL j = .sl p.2
 | [],p,_,h=>by cases h
 | (x,v) :: r,p,⟨h1,h2⟩,h=>by
   rcases List.mem_cons.1 h with rfl|h
   ·rcases h1 with ⟨h3,h4⟩ | ⟨h3,h4⟩
    ·exact .inl ⟨fun j hj=>h3 (ik hj),h4⟩
    ·rcases jo (ops:=ops) (resL:=resL) (x:=x) (l:=List.range ops.size) with h|⟨j,k1,_,k3⟩
     ·exact (h4 (h3.symm.trans h)).elim
     ·exact .inr ⟨j,k1,by rw[j4 k3,h3]⟩
   ·exact gT.at h2 h
theorem oD {id:Nat} {s:St} {hs:List ai} {frF:Fr} (hm:N.P.follows .mixedOrders=true) (hc:vj ops L act=true) (ha:act.all (fun a=>decide (a<ops.size))=true) (ht:zZ ops resL=true) (h0:s.h=tq hs 0) (hS:eZ N ops L act resL hs s.fr 0 ops.toList) (hF:gT ops resL s.fr frF):Ev N (.code (.region id ops true) s .normal ⟨frF,[],tq hs act.length⟩):=by{
have C:=uj hc
refine Ed (res:=jq resL) (Hs:=tq hs) hm C ?_ ?_ (fun a h=>by simpa using List.all_eq_true.1 ha a h) h0 fun p hp=>hF.at hp
·intro j sl off hr i hi
 unfold jq at hr
 cases hj:resL[j]? with
 | none=>simp [hj] at hr
 | some r=>
   simp only[hj,Option.getD_some] at hr
   have:=List.all_eq_true.1 ht r (List.mem_of_getElem? hj)
   rw[hr] at this
   simp only[Bool.not_eq_true',List.contains_eq_mem,decide_eq_false_iff_not] at this
   exact this (ik hi)
·intro i o k ho hk hst
 have h1:=eZ.at (j:=i) hS (by simpa using ho)
 rw[Nat.zero_add] at h1
 exact⟨_,wx C,rfl,h1.at (List.mem_range.2 (by omega)) hst⟩}
end
def Sd:Value→Value→Bool
 | .int k a,.int k' b=>decide (k=k')&&decide (a=b)
 | .bool a,.bool b=>decide (a=b)
 | .string a,.string b=>decide (a=b)
 | .pointer p,.pointer q=>decide (p=q)
 | .slice p n c,.slice q m d=>decide (p=q)&&decide (n=m)&&decide (c=d)
 | .map p,.map q=>decide (p=q)
 | .nilFunc,.nilFunc=>true
 | .nilIface,.nilIface=>true
 | _,_=>false
def zH:List Value→List Value→Bool
 | [],[]=>true
 | a :: l,b :: r=>Sd a b&&zH l r
 | _,_=>false
def Sk (a b:Value):Bool:=
 match a,b with
 | .func (.func f) xs cs,.func (.func g) ys ds=>decide (f=g)&&zH xs.toList ys.toList&&zH cs.toList ds.toList
 | x,y=>Sd x y
def vO:List Value→List Value→Bool
 | [],[]=>true
 | a :: l,b :: r=>Sk a b&&vO l r
 | _,_=>false
def LD (a b:Value):Bool:=
 match a,b with
 | .agg xs,.agg ys=>vO xs.toList ys.toList
 | .tuple xs,.tuple ys=>vO xs.toList ys.toList
 | x,y=>Sk x y
def Dj:List (Value×Value)→List (Value×Value)→Bool
 | [],[]=>true
 | (k,v) :: l,(k',v') :: r=>LD k k'&&LD v v'&&Dj l r
 | _,_=>false
def zY:ai→ai→Bool
 | [],[]=>true
 | .map es :: l,.map es' :: r=>Dj es es'&&zY l r
 | .aq cs v o t :: l,.aq cs' v' o' t' :: r=>vO cs cs'&&decide (v=v')&&decide (o=o')&&decide (t=t')&&zY l r
 | _,_=>false
def Tv:fX→fX→Bool
 | .val a,.val b=>LD a b
 | .nz cs n,.nz cs' n'=>vO cs cs'&&decide (n=n')
 | .dL,.dL=>true
 | _,_=>false
def Ui:gu→gu→Bool
 | .sl a,.sl b=>Tv a b
 | .ep a b,.ep c d=>decide (a=c)&&decide (b=d)
 | _,_=>false
theorem uN {a b:Value} (h:Sd a b=true):a=b:=by
 unfold Sd at h
 split at h<;>simp_all
theorem mV:∀ {a b:List Value},zH a b=true→a=b
 | [],[],_=>rfl
 | a :: l,b :: r,h=>by
   simp only[zH,Bool.and_eq_true] at h
   rw[uN h.1,mV h.2]
 | [],_ :: _,h=>by simp [zH] at h
 | _ :: _,[],h=>by simp [zH] at h
theorem uL {a b:Value} (h:Sk a b=true):a=b:=by{
unfold Sk at h
split at h
·simp only[Bool.and_eq_true,decide_eq_true_eq] at h
 rw[h.1.1,Array.toList_inj.1 (mV h.1.2),Array.toList_inj.1 (mV h.2)]
·exact uN h}
theorem jh:∀ {a b:List Value},vO a b=true→a=b
 | [],[],_=>rfl
 | a :: l,b :: r,h=>by
   simp only[vO,Bool.and_eq_true] at h
   rw[uL h.1,jh h.2]
 | [],_ :: _,h=>by simp [vO] at h
 | _ :: _,[],h=>by simp [vO] at h
theorem jW {a b:Value} (h:LD a b=true):a=b:=by{
unfold LD at h
split at h
·rw[Array.toList_inj.1 (jh h)]
·rw[Array.toList_inj.1 (jh h)]
·exact uL h}
theorem sY:∀ {a b:List (Value×Value)},Dj a b=true→a=b
 | [],[],_=>rfl
 | (k,v) :: l,(k',v') :: r,h=>by
   simp only[Dj,Bool.and_eq_true] at h
   rw[jW h.1.1,jW h.1.2,sY h.2]
 | [],_ :: _,h=>by simp [Dj] at h
 | _ :: _,[],h=>by simp [Dj] at h
theorem ig:∀ {a b:ai},zY a b=true→a=b
 | [],[],_=>rfl
 | .map es :: l,.map es' :: r,h=>by
   simp only[zY,Bool.and_eq_true] at h
   rw[sY h.1,ig h.2]
 | .map _ :: _,.aq .. :: _,h=>by simp [zY] at h
 | .aq .. :: _,.map _ :: _,h=>by simp [zY] at h
 | .aq cs v o t :: l,.aq cs' v' o' t' :: r,h=>by
   simp only[zY,Bool.and_eq_true,decide_eq_true_eq] at h
   obtain⟨⟨⟨⟨h1,rfl⟩,rfl⟩,rfl⟩,h2⟩:=h
   rw[jh h1,ig h2]
 | [],_ :: _,h=>by simp [zY] at h
 | _ :: _,[],h=>by simp [zY] at h
theorem Dt {a b:fX} (h:Tv a b=true):a=b:=by{
unfold Tv at h
split at h
·rw[jW h]
·simp only[Bool.and_eq_true,decide_eq_true_eq] at h
 rw[jh h.1,h.2]
·rfl
·cases h}
theorem Dl {a b:gu} (h:Ui a b=true):a=b:=by{
unfold Ui at h
split at h
·rw[Dt h]
·simp only[Bool.and_eq_true,decide_eq_true_eq] at h
 rw[h.1,h.2]
·cases h}
def qV (o:Oper):Bool:=
 match o.op with
 | .box _ _=>true
 | .alloc _=>true
 | .makeSlice _ _ _=>true
 | .store _ _ _=>true
 | .makeMap _ _=>true
 | .buildSlice _ _ _=>true
 | .mapUpdate _ _ _ _=>true
 | .mapEntry _ _ _=>true
 | .entryStore _ _ _ _=>true
 | .call c=>match c.callee with
   | .builtin .append=>true
   | .builtin _=>false
   | _=>true
 | _=>false
theorem E9 {N:Env} {call:FuncId→List Value→ai→Option (Value×ai)} {nm:FuncId→Bool} {all:Array Oper} {o:Oper} {s:St} {r:gu} {h':ai} (hm:qV o=false) (h:rE N call nm all o s=some (r,h')):h'=s.h:=by{
unfold rE at h
unfold qV at hm
split at h
·cases h
·cases h;rfl
·split at h
 all_goals first
  | (rename_i ho;rw[ho] at hm;cases hm;done)
  | skip
 ·rename_i c ho
  rw[ho] at hm
  simp only at hm
  split at h
  ·rename_i hc
   rw[hc] at hm
   cases hm
  ·cases hv:qU N s o.op with
   | none=>simp [hv] at h
   | some v=>
     simp only[hv,Option.map_some,Option.some.injEq,Prod.mk.injEq] at h
     exact h.2.symm
  ·rename_i cal c1 c2
   exfalso
   generalize c.callee=q at *
   cases q with
   | builtin b=>exact c2 b rfl
   | value f=>cases hm
   | invoke a b=>cases hm
 ·split at h
  ·cases h;rfl
  ·split at h
   ·split at h
    ·cases h
    ·cases h;rfl
   ·cases h}
section
variable (N:Env) (call:FuncId→List Value→ai→Option (Value×ai)) (nm:FuncId→Bool) (ops:Array Oper) (L:List (List Nat)) (act:List Nat) (fr:Fr)
def QL:Nat→List Oper→List gu→List ai→ai→Option (List gu×List ai)
 | _,[],resL,hs,_=>some (resL,hs)
 | i,o :: r,resL,hs,h=>match rE N call nm ops o (fj ops L resL fr h i) with
   | some (rs,h')=>QL (i+1) r (resL++[rs]) (if act.contains i then hs++[h'] else hs) h'
   | none=>none
def vE (resL:List gu) (hs:List ai) (i:Nat) (o:Oper):List Nat→Bool
 | []=>true
 | k :: l=>(!fZ L act i k||(match rE N call nm ops o (fj ops L resL fr (tq hs k) i) with
   | some (r,h')=>Ui r (jq resL i)&&(if qV o then zY h' (tq hs (if i∈act then k+1 else k)) else !act.contains i)
   | none=>false))&&vE resL hs i o l
def vI (resL:List gu) (hs:List ai):Nat→List Oper→Bool
 | _,[]=>true
 | i,o :: l=>vE N call nm ops L act fr resL hs i o (List.range (act.length+1))&&vI resL hs (i+1) l
end
def oy (P:Nat→Bool) (g:Fr):Fr→Fr
 | []=>[]
 | (x,_) :: r=>if P x then (match aW g x with
   | .dL=>oy P g r
   | v=>(x,v) :: oy P g r) else oy P g r
def Q9 (ops:Array Oper) (resL:List gu) (fr:Fr):Fr:=
 oy (fun _=>true) (iR ops resL (List.range ops.size)) (iR ops resL (List.range ops.size))++oy (fun x=>!(dstsOf ops).contains x) fr fr
def JS (N:Env) (call:FuncId→List Value→ai→Option (Value×ai)) (nm:FuncId→Bool) (ops:Array Oper) (L:List (List Nat)) (fr:Fr):Nat→List Oper→List gu→ai→Option (List Nat)
 | _,[],_,_=>some []
 | i,o :: r,resL,h=>match rE N call nm ops o (fj ops L resL fr h i) with
   | some (rs,h')=>match JS N call nm ops L fr (i+1) r (resL++[rs]) h' with
     | some l=>some (if qV o then (if zY h h' then l else i :: l) else l)
     | none=>none
   | none=>none
def TO (N:Env) (call:FuncId→List Value→ai→Option (Value×ai)) (nm:FuncId→Bool) (ops:Array Oper) (s:St):Option St:=
 match JS N call nm ops (Bc ops) s.fr 0 ops.toList [] s.h with
 | none=>none
 | some act=>match QL N call nm ops (Bc ops) act s.fr 0 ops.toList [] [s.h] s.h with
   | some (resL,hs)=>
     if vj ops (Bc ops) act&&(act.all fun a=>decide (a<ops.size))&&zZ ops resL&&zY s.h (tq hs 0)&&vI N call nm ops (Bc ops) act s.fr resL hs 0 ops.toList then
      some ⟨Q9 ops resL s.fr,[],tq hs act.length⟩ else none
   | none=>none
section
variable {N:Env} {call:FuncId→List Value→ai→Option (Value×ai)} {nm:FuncId→Bool} {ops:Array Oper} {L:List (List Nat)} {act:List Nat} {fr:Fr} {resL:List gu} {hs:List ai}
theorem tW (hC:gE N call) (hn:rA N nm) {i:Nat} {o:Oper}:∀ {l:List Nat},vE N call nm ops L act fr resL hs i o l=true→fO N ops L act resL hs fr i o l
 | [],_=>trivial
 | k :: l,h=>by
   simp only[vE,Bool.and_eq_true,Bool.or_eq_true,Bool.not_eq_true'] at h
   refine⟨fun hst=>?_,tW hC hn h.2⟩
   rcases h.1 with h1|h1
   ·rw[hst] at h1
    cases h1
   ·split at h1
    ·rename_i r h' hr
     simp only[Bool.and_eq_true] at h1
     rw[← Dl h1.1]
     have h2:=h1.2
     split at h2
     ·rw[← ig h2]
      exact FC hC hn hr
     ·rename_i hmt
      have e:=E9 (by simpa using hmt) hr
      have hni:¬ i∈act:=by simpa using h2
      rw[if_neg hni]
      have e':h'=tq hs k:=e
      rw[e'] at hr
      exact FC hC hn hr
    ·cases h1
theorem uX (hC:gE N call) (hn:rA N nm):∀ {l:List Oper} {i:Nat},vI N call nm ops L act fr resL hs i l=true→eZ N ops L act resL hs fr i l
 | [],_,_=>trivial
 | o :: l,i,h=>by
   simp only[vI,Bool.and_eq_true] at h
   exact⟨tW hC hn h.1,uX hC hn h.2⟩
theorem gT.append {fr:Fr}:∀ {a b:Fr},gT ops resL fr a→gT ops resL fr b→gT ops resL fr (a++b)
 | [],_,_,h=>h
 | (_,_) :: _,_,⟨h1,h2⟩,h=>⟨h1,gT.append h2 h⟩
theorem MF:∀ {l:Fr},gT ops resL fr (oy (fun _=>true) (iR ops resL (List.range ops.size)) l)
 | []=>trivial
 | (x,_) :: r=>by
   simp only[oy,if_true]
   split
   ·exact MF
   ·rename_i h
    exact⟨.inr ⟨rfl,h⟩,MF⟩
theorem H5:∀ {l:Fr},gT ops resL fr (oy (fun x=>!(dstsOf ops).contains x) fr l)
 | []=>trivial
 | (x,_) :: r=>by
   simp only[oy]
   split
   ·rename_i hx
    split
    ·exact H5
    ·exact⟨.inl ⟨by simpa using hx,rfl⟩,H5⟩
   ·exact H5
theorem Nz (hm:N.P.follows .mixedOrders=true) (hC:gE N call) (hn:rA N nm):Mc N (TO N call nm):=by{
intro id ops s s1 h
unfold TO at h
split at h
·cases h
·rename_i act hact
 split at h
 ·rename_i resL hs hrun
  split at h
  ·rename_i hc
   simp only[Bool.and_eq_true] at hc
   obtain⟨⟨⟨⟨h1,h0⟩,h2⟩,h3⟩,h4⟩:=hc
   cases h
   exact oD hm h1 h0 h2 (ig h3) (uX hC hn h4) (gT.append MF H5)
  ·cases h
 ·cases h}
end
def FP (n:Nat):Value→Bool
 | .pointer (some ⟨id,_,some _⟩)=>decide (id<n)
 | .slice (some ⟨id,_,some _⟩) _ _=>decide (id<n)
 | .map (some id)=>decide (id<n)
 | v=>bf v
def Ph (n:Nat):Value→Bool
 | .tuple cs=>cs.toList.all (FP n)
 | .agg cs=>cs.toList.all (FP n)
 | v=>FP n v
theorem mG {n:Nat} {v:Value} (h:FP n v=true):dx n v:=by{
unfold FP at h
split at h
·exact .ptr (decide_eq_true_eq.mp h)
·exact .slice (decide_eq_true_eq.mp h)
·exact .map (decide_eq_true_eq.mp h)
·exact .bf h}
theorem pD {n:Nat} {v:Value} (h:Ph n v=true):dx n v:=by{
unfold Ph at h
split at h
·exact .DB fun i u hu=>mG (List.all_eq_true.1 h u (Array.mem_toList_iff.2 (Array.mem_of_getElem? hu)))
·exact .agg fun i u hu=>mG (List.all_eq_true.1 h u (Array.mem_toList_iff.2 (Array.mem_of_getElem? hu)))
·exact mG h}
def O8 (n:Nat):ax→Bool
 | .aq cells _ _ _=>cells.all (Ph n)
 | .map es=>es.all fun p=>Ph n p.2
theorem zM {n:Nat} {o:ax} (h:O8 n o=true):O4 n o:=by{
cases o with
| aq cells v o t=>exact fun v hv=>pD (List.all_eq_true.1 h v hv)
| map es=>exact fun p hp=>pD (List.all_eq_true.1 h p hp)}
def yz (n:Nat):ai→ai→Bool
 | [],_=>true
 | _ :: _,[]=>false
 | o :: h,o' :: r=>(zY [o] [o']||O8 n o')&&yz n h r
theorem pO {n:Nat}:∀ {h h':ai},yz n h h'=true→h.length≤h'.length∧∀ (i:Nat) (o:ax),(h'.take h.length)[i]? = some o→h[i]? = some o∨O4 n o
 | [],h',_=>⟨Nat.zero_le _,fun i o hi=>by simp at hi⟩
 | _ :: _,[],h=>by simp [yz] at h
 | o :: h,o' :: r,hk=>by
   simp only[yz,Bool.and_eq_true,Bool.or_eq_true] at hk
   obtain⟨h1,h2⟩:=pO hk.2
   refine⟨by simp only[List.length_cons];omega,fun i q hi=>?_⟩
   cases i with
   | zero=>
     simp only[List.length_cons,List.take_succ_cons,List.getElem?_cons_zero,Option.some.injEq] at hi
     subst hi
     rcases hk.1 with h3|h3
     ·have:=ig h3
      simp only[List.cons.injEq,and_true] at this
      exact .inl (by rw[this];rfl)
     ·exact .inr (zM h3)
   | succ i=>
     simp only[List.length_cons,List.take_succ_cons,List.getElem?_cons_succ] at hi ⊢
     exact h2 i q hi
def Td (h:ai) (r:Value) (h':ai):ai:=if Ph h.length r&&yz h.length h h' then h'.take h.length else h'
theorem Ck {N:Env} {f:FuncId} {args:List Value} {h h':ai} {r:Value} (e:Ev N (.call f args h r h')):Ev N (.call f args h r (Td h r h')):=by{
unfold Td
split
·rename_i hc
 rw[Bool.and_eq_true] at hc
 obtain⟨h1,h2⟩:=pO hc.2
 have hl:(h'.take h.length).length=h.length:=by rw[List.length_take];omega
 refine .NF (g:=h'.drop h.length) (by rw[List.take_append_drop];exact e) (by rw[hl];exact pD hc.1) (by rw[hl];exact Nat.le_refl _) (by rw[hl];exact h2)
·exact e}
def Ef (N:Env) (nm:FuncId→Bool) (fuel:Nat) (call:FuncId→List Value→ai→Option (Value×ai)) (f:FuncId) (args:List Value) (h:ai):Option (Value×ai):=
 match N.P.funcs[f]? with
 | some fn=>match fn.body with
   | some c=>match N.mr f args h with
    | some p=>some p
    | none=>if ei fn.ntmps c=true∧args.length≤fn.ntmps then (match kN N call nm (TO N call nm) fuel c ⟨jJ args fn.ntmps,[],h⟩ with
     | some (.exit _,_)=>none
     | some (_,s1)=>match sP N s1 fn.results.toList with
       | some rs=>some (cN rs,Td h (cN rs) s1.h)
       | none=>none
     | none=>none) else none
   | none=>none
 | none=>none
theorem mO {N:Env} {nm:FuncId→Bool} (hm:N.P.follows .mixedOrders=true) (hn:rA N nm) {fuel:Nat} {call:FuncId→List Value→ai→Option (Value×ai)} (hC:gE N call):gE N (Ef N nm fuel call):=fun f a h r h' e=>by
 unfold Ef at e
 split at e
 ·rename_i fn hf
  split at e
  ·rename_i c hb
   split at e
   ·rename_i p hp
    cases e
    exact⟨⟨fn,hf,by rw[hb];rfl⟩,.Ma hp⟩
   split at e
   ·rename_i hd
    split at e
    ·cases e
    ·rename_i ex s1 h3 h2
     split at e
     ·rename_i rs hr
      cases e
      refine⟨⟨fn,hf,by rw[hb];rfl⟩,Ck (.call hf hb hd.1 hd.2 (xx (Nz hm hC hn) hC hn h2) ?_ hr)⟩
      cases ex with
      | normal=>exact .inl rfl
      | ret=>exact .inr rfl
      | exit id=>exact (h3 _ rfl).elim
     ·cases e
    ·cases e
   ·cases e
  ·cases e
 ·cases e
def nM (N:Env) (nm:FuncId→Bool) (fuel:Nat):Nat→FuncId→List Value→ai→Option (Value×ai)
 | 0,_,_,_=>none
 | d+1,f,args,h=>Ef N nm fuel (nM N nm fuel d) f args h
theorem lG {N:Env} {nm:FuncId→Bool} (hm:N.P.follows .mixedOrders=true) (hn:rA N nm) {fuel:Nat}:∀ d,gE N (nM N nm fuel d)
 | 0=>fun f a h r h' e=>by cases e
 | d+1=>mO hm hn (lG hm hn d)
structure FY where
 f:FuncId
 args:List Value
 h:ai
 r:Value
 h':ai
def CM:List Value→List Value→Bool
 | [],[]=>true
 | a :: l,b :: r=>LD a b&&CM l r
 | _,_=>false
theorem tu:∀ {a b:List Value},CM a b=true→a=b
 | [],[],_=>rfl
 | a :: l,b :: r,h=>by
   simp only[CM,Bool.and_eq_true] at h
   rw[jW h.1,tu h.2]
 | [],_ :: _,h=>by simp [CM] at h
 | _ :: _,[],h=>by simp [CM] at h
def xz (call:FuncId→List Value→ai→Option (Value×ai)):List FY→FuncId→List Value→ai→Option (Value×ai)
 | [],f,args,h=>call f args h
 | m :: l,f,args,h=>if f=m.f then (if CM args m.args&&zY h m.h then some (m.r,m.h') else xz call l f args h) else xz call l f args h
def Eh (N:Env) (m:FY):Prop:=(∃ fn,N.P.funcs[m.f]? = some fn∧fn.body.isNone=false)∧Ev N (.call m.f m.args m.h m.r m.h')
theorem xd {N:Env} {call:FuncId→List Value→ai→Option (Value×ai)} (hC:gE N call):∀ {l:List FY},(∀ m∈l,Eh N m)→gE N (xz call l)
 | [],_=>hC
 | m :: l,hl=>fun f args h r h' e=>by
   have ih:=xd hC fun x hx=>hl x (List.mem_cons_of_mem _ hx)
   simp only[xz] at e
   split at e
   ·rename_i hf
    split at e
    ·rename_i hq
     rw[Bool.and_eq_true] at hq
     cases e
     subst hf
     rw[tu hq.1,ig hq.2]
     exact hl m List.mem_cons_self
    ·exact ih _ _ _ _ _ e
   ·exact ih _ _ _ _ _ e
def zV (m:FY) (o:Option (Value×ai)):Bool:=match o with
 | some (r,h')=>LD r m.r&&zY h' m.h'
 | none=>false
theorem s5 {N:Env} {call:FuncId→List Value→ai→Option (Value×ai)} (hC:gE N call) {m:FY} (h:zV m (call m.f m.args m.h)=true):Eh N m:=by{
unfold zV at h
split at h
·rename_i r h' e
 rw[Bool.and_eq_true] at h
 rw[jW h.1,ig h.2] at e
 exact hC _ _ _ _ _ e
·cases h}
def vw (ops:Array Oper) (L:List (List Nat)) (resL:List gu) (fr0:Fr) (h:ai) (i:Nat):St:=⟨fr0++iR ops resL (fE L i),xv ops resL (fE L i),h⟩
inductive aQ (N:Env) (ops:Array Oper) (L:List (List Nat)) (resL:List gu) (fr0:Fr) (h:ai):Nat→List Oper→Prop
 | nil (i:Nat):aQ N ops L resL fr0 h i []
 | cons {i:Nat} {o:Oper} {l:List Oper} {r:gu}:One N ops o (vw ops L resL fr0 h i) r h→jq resL i=r→aQ N ops L resL fr0 h (i+1) l→aQ N ops L resL fr0 h i (o :: l)
section
variable {N:Env} {ops:Array Oper} {L:List (List Nat)} {resL:List gu}
theorem aQ.ok {fr:Fr} {h:ai}:∀ {l:List Oper} {i:Nat},aQ N ops L resL (g8 (dstsOf ops) fr) h i l→eZ N ops L [] resL [h] fr i l
 | [],_,_=>trivial
 | o :: l,i,.cons h1 h2 h3=>by
   refine⟨?_,h3.ok⟩
   subst h2
   exact⟨fun _=>h1,trivial⟩
theorem CX {id:Nat} {s:St} {Q:AX→St→Prop} {h:ai} (L:List (List Nat)) (resL:List gu) (fr0:Fr) (frF:Fr) (hm:N.P.follows .mixedOrders=true) (hc:vj ops L []=true) (ht:zZ ops resL=true) (h0:s.h=h) (hb:g8 (dstsOf ops) s.fr=fr0) (hS:aQ N ops L resL fr0 h 0 ops.toList) (hF:gT ops resL s.fr frF) (k:Q .normal ⟨frF,[],h⟩):CW N (.region id ops true) s Q:=by{
subst hb
unfold CW
exact⟨_,_,oD (hs:=[h]) hm hc rfl ht h0 hS.ok hF,k⟩}
theorem bg {all:Array Oper} {o:Oper} {s:St} {h:ai} {c:Call} {f:FuncId} {cap args:List Value} {fn:Func} {v:Value} (hh:s.h=h) (hw:aE all o s=some true) (ho:o.op = .call c) (hc:fp s c.callee=some (f,cap)) (ha:tL s c.args.toList=some args) (hf:N.P.funcs[f]? = some fn) (hnm:(fn.name == "runtime.NumGoroutine")=false) (hb:fn.body.isNone=false) (k:FW N f (args++cap) h fun r h'=>r=v∧h'=h):One N all o s (.sl (.val v)) h:=by{
unfold FW at k
obtain⟨r,h',k1,rfl,rfl⟩:=k
exact .call hw ho hc ha hf hnm hb (hh▸k1)}
def Nf (N:Env) (all:Array Oper) (o:Oper) (s:St):Option (gu×ai):=
 match aE all o s with
 | none=>none
 | some false=>some (.sl (.val (.tuple #[])),s.h)
 | some true=>match o.op,o.dst with
   | .box t x,some _=>(hZ N s (.box t x)).map fun p=>(.sl (.box p.2),s.h)
   | .alloc t,some _=>(hZ N s (.alloc t)).map fun p=>(.sl (.box p.2),s.h)
   | .buildSlice t l ps,some _=>(jr N s (.buildSlice t l ps)).map fun p=>(.sl (.nz p.2.1 p.2.2),s.h)
   | op,d=>match qU N s op with
     | some v=>some (.sl (.val v),s.h)
     | none=>match wY N s op,d with
       | some (sl,off),some d=>if sl=d then none else some (.ep sl off,s.h)
       | _,_=>none
theorem zz {all:Array Oper} {o:Oper} {s:St} {r:gu} {h:ai} (hs:Nf N all o s=some (r,h)):One N all o s r h:=by{
unfold Nf at hs
split at hs
·cases hs
·rename_i hw
 cases hs
 exact .skip hw
·rename_i hw
 split at hs
 ·rename_i t x d ho hd
  cases hb:hZ N s (.box t x) with
  | none=>simp [hb] at hs
  | some p=>
    simp only[hb,Option.map_some,Option.some.injEq,Prod.mk.injEq] at hs
    obtain⟨rfl,rfl⟩:=hs
    exact .box hw hd (by rw[ho];exact hb)
 ·rename_i t d ho hd
  cases hb:hZ N s (.alloc t) with
  | none=>simp [hb] at hs
  | some p=>
    simp only[hb,Option.map_some,Option.some.injEq,Prod.mk.injEq] at hs
    obtain⟨rfl,rfl⟩:=hs
    exact .box hw hd (by rw[ho];exact hb)
 ·rename_i t l ps d ho hd
  cases hb:jr N s (.buildSlice t l ps) with
  | none=>simp [hb] at hs
  | some p=>
    simp only[hb,Option.map_some,Option.some.injEq,Prod.mk.injEq] at hs
    obtain⟨rfl,rfl⟩:=hs
    exact .nz hw hd (by rw[ho];exact hb)
 ·split at hs
  ·rename_i v hv
   cases hs
   exact .val hw hv
  ·split at hs
   ·rename_i sl off d he hd
    split at hs
    ·cases hs
    ·rename_i hne
     cases hs
     exact .eA hw hd he hne
   ·cases hs}
end
attribute [push_cast] Nf vw fE iR xv bH jq Option.getD_some Option.getD_none
def xu (P:Program):Nat→List Field→Option Nat
 | o,[]=>some o
 | o,f :: r=>if f.offset=o then xu P (o+P.cellsOf f.type) r else none
def pJ (P:Program) (ts:List TypeId) (t:TypeId):Bool:=
 match P.underlying t with
 | some .bool=>true
 | some (.int _)=>true
 | some .string=>true
 | some (.struct fs)=>decide (xu P 0 fs.toList=some (P.cellsOf t))&&fs.toList.all fun f=>ts.contains f.type
 | some (.array n e)=>decide (P.cellsOf t=n*P.cellsOf e)&&ts.contains e
 | some (.slice e)=>decide (0<P.cellsOf e)&&ts.contains e
 | _=>false
def tQ (c:Nat) (R:List Value→Prop):Nat→List Value→Prop
 | 0,vs=>vs=[]
 | m+1,vs=>∃ a b,vs=a++b∧a.length=c∧R a∧tQ c R m b
def wh (P:Program) (R:TypeId→List Value→Prop):List Field→List Value→Prop
 | [],vs=>vs=[]
 | f :: r,vs=>∃ a b,vs=a++b∧a.length=P.cellsOf f.type∧R f.type a∧wh P R r b
def gv (P:Program) (h:ai):Nat→TypeId→List Value→Prop
 | 0,_,_=>False
 | n+1,t,vs=>match P.underlying t with
   | some .bool=>∃ b,vs=[.bool b]
   | some (.int k)=>∃ i,vs=[.int k i]∧(Lit.int k i).wf=true
   | some .string=>∃ s:ByteArray,vs=[.string s]∧s.size≤reachBytes
   | some (.struct fs)=>wh P (gv P h n) fs.toList vs
   | some (.array m e)=>tQ (P.cellsOf e) (gv P h n e) m vs
   | some (.slice e)=>vs=[.slice none 0 0]∨vs=[.slice (some ⟨0,0,none⟩) 0 0] ∨
    ∃ id len c cells,vs=[.slice (some ⟨id,0,some 0⟩) len c]∧len*P.bytesOf e≤reachBytes∧h[id]? = some (.aq cells 0 false e)∧tQ (P.cellsOf e) (gv P h n e) len cells
   | _=>False
theorem tQ.mono {c:Nat} {R R':List Value→Prop} (k:∀ vs,R vs→R' vs):∀ {m:Nat} {vs:List Value},tQ c R m vs→tQ c R' m vs
 | 0,_,h=>h
 | _+1,_,⟨a,b,h1,h2,h3,h4⟩=>⟨a,b,h1,h2,k _ h3,tQ.mono k h4⟩
theorem wh.mono {P:Program} {R R':TypeId→List Value→Prop} (k:∀ t vs,R t vs→R' t vs):∀ {l:List Field} {vs:List Value},wh P R l vs→wh P R' l vs
 | [],_,h=>h
 | _ :: _,_,⟨a,b,h1,h2,h3,h4⟩=>⟨a,b,h1,h2,k _ _ h3,wh.mono k h4⟩
theorem I6 {h h':ai} (hp:h <+: h') {i:Nat} {x:ax} (hx:h[i]? = some x):h'[i]? = some x:=by{
obtain⟨t,rfl⟩:=hp
rw[List.getElem?_append_left (List.getElem?_eq_some_iff.1 hx).1]
exact hx}
theorem gv.mono {P:Program} {h h':ai} (hp:h <+: h'):∀ {n:Nat} {t:TypeId} {vs:List Value},gv P h n t vs→gv P h' n t vs
 | 0,_,_,k=>k
 | n+1,t,vs,k=>by
   unfold gv at k ⊢
   split at k
   ·exact k
   ·exact k
   ·exact k
   ·exact k.mono fun t vs h=>gv.mono hp h
   ·exact k.mono fun vs h=>gv.mono hp h
   ·rcases k with k|k|⟨id,len,c,cells,k1,k2,k3,k4⟩
    ·exact .inl k
    ·exact .inr (.inl k)
    ·exact .inr (.inr ⟨id,len,c,cells,k1,k2,I6 hp k3,k4.mono fun vs h=>gv.mono hp h⟩)
   ·exact k
section
variable {P:Program} {W:World} {μ μ':Mu} {h h':ai}
def mq (h:ai):Prop:=∀ (id:Nat) (o:ax),h[id]? = some o→o.own=false
theorem dD.JF (hx:eM μ μ'):∀ {a a':List Value},dD P μ a a'→dD P μ' a a'
 | [],[],_=>trivial
 | _ :: _,_ :: _,⟨h1,h2⟩=>⟨h1.mono hx,dD.JF hx h2⟩
 | [],_ :: _,k=>k.elim
 | _ :: _,[],k=>k.elim
theorem bZ.RW (H:bZ P μ h W) (hn:mq h) {cells:List Value} {m:M} (hc:∀ (j:Nat) (v:Value),cells[j]? = some v→∃ v',W.cell? ⟨m.block,m.base+j,none⟩=some v'∧VR P μ v v') (h1:cells.all one=true) (hb:m.block<W.heap.size) : bZ P (μ++[[m]]) (h++[.aq cells 0 false m.et]) W∧mq (h++[.aq cells 0 false m.et])∧eM μ (μ++[[m]])∧fH (μ++[[m]]) h.length 0=some m:=by{
have hx:eM μ (μ++[[m]]):=fun id l hl=>⟨[],by rw[List.getElem?_append_left (List.getElem?_eq_some_iff.1 hl).1,List.append_nil];exact hl⟩
have hnew:mq (h++[.aq cells 0 false m.et]):=by
 intro id o ho
 rcases gd ho with ⟨_,ho'⟩ | ⟨rfl,rfl⟩
 ·exact hn _ _ ho'
 ·rfl
refine⟨⟨by simp [H.len],?_,?_⟩,hnew,hx,?_⟩
·intro id o ho
 rcases gd ho with ⟨hi,ho'⟩ | ⟨rfl,rfl⟩
 ·obtain⟨q,hq⟩:=H.ob _ _ ho'
  exact⟨q,hq.mono hx (List.getElem?_append_left (by rw[H.len];exact hi)) (Nat.le_refl _) rfl⟩
 ·refine⟨m,⟨[m],by rw[← H.len];simp,rfl,rfl⟩,rfl,fun j v hj=>?_,h1,hb,fun e=>by cases e⟩
  obtain⟨v',k1,k2⟩:=hc j v hj
  exact⟨v',k1,k2.mono hx⟩
·intro id1 id2 o1 o2 m1 m2 _ g1 _ ho
 have:=hnew _ _ g1
 rw[ho] at this
 cases this
·unfold fH
 rw[← H.len]
 simp}
def dV (P:Program) (W:World) (R:ai→List Value→Prop) (cs:List Value):Prop:=
 ∀ μ h,bZ P μ h W→mq h→∃ μ' h' vs,h <+: h'∧eM μ μ'∧bZ P μ' h' W∧mq h'∧dD P μ' vs cs∧vs.all one=true∧R h' vs
def AV (R:ai→List Value→Prop):Prop:=∀ (h h':ai) (vs:List Value),h <+: h'→R h vs→R h' vs
theorem dV.nil {R:ai→List Value→Prop} (hR:∀ h,R h []):dV P W R []:=fun μ h H hn=>⟨μ,h,[],List.prefix_refl _,eM.refl _,H,hn,trivial,rfl,hR h⟩
theorem dV.pure {R:ai→List Value→Prop} {v v':Value} (hv:∀ μ,VR P μ v v') (h1:one v=true) (hR:∀ h,R h [v]):dV P W R [v']:=
 fun μ h H hn=>⟨μ,h,[v],List.prefix_refl _,eM.refl _,H,hn,⟨hv μ,trivial⟩,by simp [h1],hR h⟩
theorem dV.append {R1 R2 R:ai→List Value→Prop} (g1:AV R1) {c1 c2:List Value} (k1:dV P W R1 c1) (k2:dV P W R2 c2) (hR:∀ h a b,a.length=c1.length→R1 h a→R2 h b→R h (a++b)):dV P W R (c1++c2):=by{
intro μ h H hn
obtain⟨μ1,h1,a,p1,x1,H1,n1,v1,o1,r1⟩:=k1 μ h H hn
obtain⟨μ2,h2,b,p2,x2,H2,n2,v2,o2,r2⟩:=k2 μ1 h1 H1 n1
refine⟨μ2,h2,a++b,p1.trans p2,x1.trans x2,H2,n2,(v1.JF x2).append v2,by rw[List.all_append,o1,o2];rfl,hR h2 a b v1.length (g1 _ _ _ p2 r1) r2⟩}
theorem dV.es {R:ai→List Value→Prop} (g:AV R) {c:Nat}:∀ {l:List (List Value)},(∀ cs∈l,cs.length=c∧dV P W R cs)→dV P W (fun h vs=>tQ c (R h) l.length vs) l.flatten
 | [],_=>dV.nil fun _=>rfl
 | cs :: l,k=>by
   rw[List.flatten_cons]
   have hk:=k cs List.mem_cons_self
   exact dV.append (R1:=R) (R2:=fun h vs=>tQ c (R h) l.length vs) g hk.2 (dV.es g fun cs h=>k cs (List.mem_cons_of_mem _ h)) fun h a b ha h1 h2=>⟨a,b,rfl,ha.trans hk.1,h1,h2⟩
theorem Ey {P:Program}:∀ {l:List Field} {o n:Nat},xu P o l=some n→o≤n
 | [],o,n,h=>by
   simp only[xu,Option.some.injEq] at h
   omega
 | f :: l,o,n,h=>by
   simp only[xu] at h
   split at h
   ·have:=Ey h
    omega
   ·cases h
theorem dV.fs {R:ai→TypeId→List Value→Prop} (g:∀ t,AV fun h vs=>R h t vs) {cs:List Value}:∀ {l:List Field} {o:Nat},xu P o l=some cs.length →
 (∀ f∈l,dV P W (fun h vs=>R h f.type vs) ((cs.drop f.offset).take (P.cellsOf f.type)))→dV P W (fun h vs=>wh P (R h) l vs) (cs.drop o)
 | [],o,hc,_=>by
   simp only[xu,Option.some.injEq] at hc
   rw[List.drop_of_length_le (by omega)]
   exact dV.nil fun _=>rfl
 | f :: l,o,hc,k=>by
   simp only[xu] at hc
   split at hc
   ·rename_i ho
    have h1:=k f List.mem_cons_self
    rw[ho] at h1
    have h2:=dV.fs g hc fun f' hf=>k f' (List.mem_cons_of_mem _ hf)
    have hle:o+P.cellsOf f.type≤cs.length:=Ey hc
    have e:cs.drop o=(cs.drop o).take (P.cellsOf f.type)++cs.drop (o+P.cellsOf f.type):=by
     rw[← List.drop_drop,List.take_append_drop]
    rw[e]
    refine dV.append (R1:=fun h vs=>R h f.type vs) (R2:=fun h vs=>wh P (R h) l vs) (g f.type) h1 h2 fun h a b ha k1 k2=>⟨a,b,rfl,?_,k1,k2⟩
    rw[ha,List.length_take,List.length_drop]
    omega
   ·cases hc
theorem ko {H:Type}:∀ {ts:List TypeId} {ds:List (DataW H)},(DataW.weightsEach P ts ds).all (fun b=>decide (b≤reachBytes))=true→∀ (i:Nat) (t:TypeId) (d:DataW H),ts[i]? = some t→ds[i]? = some d→(d.weights P t).all (fun b=>decide (b≤reachBytes))=true
 | [],_,_,i,t,d,h,_=>by simp at h
 | _ :: _,[],_,i,t,d,_,h=>by simp at h
 | t :: ts,d :: ds,k,i,t',d',h1,h2=>by
   unfold DataW.weightsEach at k
   rw[List.all_append,Bool.and_eq_true] at k
   cases i with
   | zero=>
     simp only[List.getElem?_cons_zero,Option.some.injEq] at h1 h2
     subst h1
     subst h2
     exact k.1
   | succ i=>exact ko k.2 i t' d' (by simpa using h1) (by simpa using h2)
theorem lf {H:Type} {e:TypeId}:∀ {ds:List (DataW H)},(DataW.weightsAll P e ds).all (fun b=>decide (b≤reachBytes))=true→∀ d∈ds,(d.weights P e).all (fun b=>decide (b≤reachBytes))=true
 | [],_,d,h=>by cases h
 | d :: ds,k,d',h=>by
   unfold DataW.weightsAll at k
   rw[List.all_append,Bool.and_eq_true] at k
   rcases List.mem_cons.1 h with rfl|h
   ·exact k.1
   ·exact lf k.2 d' h
theorem chunks_flatten {c:Nat}:∀ {m:Nat} {cs:List Value},cs.length=m*c→((List.range m).map fun i=>(cs.drop (i*c)).take c).flatten=cs
 | 0,cs,h=>by
   rw[Nat.zero_mul] at h
   simp [List.eq_nil_of_length_eq_zero h]
 | m+1,cs,h=>by
   rw[Nat.succ_mul] at h
   have ih:=chunks_flatten (c:=c) (m:=m) (cs:=cs.drop c) (by rw[List.length_drop];omega)
   rw[List.range_succ_eq_map,List.map_cons,List.map_map,List.flatten_cons,Nat.zero_mul,List.drop_zero]
   have e:((fun i=>(cs.drop (i*c)).take c) ∘ Nat.succ)=fun i=>((cs.drop c).drop (i*c)).take c:=by
    funext i
    simp only[Function.comp,List.drop_drop,Nat.succ_mul]
    rw[Nat.add_comm]
   rw[e,ih,List.take_append_drop]
theorem mj {b c:Nat}:∀ {l:List (List Value)} {o:Nat},(∀ (i:Nat) (cs:List Value),l[i]? = some cs→cs.length=c∧∀ r,r<c→W.cell? ⟨b,o+i*c+r,none⟩=cs[r]?) →
 ∀ (j:Nat) (v:Value),l.flatten[j]? = some v→W.cell? ⟨b,o+j,none⟩=some v
 | [],o,_,j,v,h=>by simp at h
 | cs :: l,o,k,j,v,h=>by
   obtain⟨h1,h2⟩:=k 0 cs rfl
   rw[List.flatten_cons] at h
   rcases Nat.lt_or_ge j cs.length with hj|hj
   ·rw[List.getElem?_append_left hj] at h
    have:=h2 j (by omega)
    rw[Nat.zero_mul,Nat.add_zero] at this
    rw[this,h]
   ·rw[List.getElem?_append_right hj] at h
    have ih:=mj (b:=b) (c:=c) (l:=l) (o:=o+c) (fun i cs' hi=>by
     obtain⟨q1,q2⟩:=k (i+1) cs' (by simpa using hi)
     refine⟨q1,fun r hr=>?_⟩
     rw[← q2 r hr,Nat.succ_mul]
     congr 2
     omega) (j-cs.length) v h
    rw[← ih]
    congr 2
    omega
theorem wG {n:Nat} {t:TypeId}:AV fun h vs=>gv P h n t vs:=fun _ _ _ hp k=>k.mono hp
theorem kA {H:Type} {enc:TypeId×Value→H} {held:Bool} {ts:List TypeId} (hcl:ts.all (pJ P ts)=true):∀ (n:Nat) (t:TypeId) (cs:List Value) (x:DataW H×List MemPlace),t∈ts →
 DataW.trod enc P W 0 (fun _=>true) held n t cs=some x→(x.1.weights P t).all (fun b=>decide (b≤reachBytes))=true→dV P W (fun h vs=>gv P h n t vs) cs
 | 0,t,cs,x,_,h,_=>by simp [DataW.trod] at h
 | n+1,t,cs,x,ht,h,hw=>by
   have hk:=List.all_eq_true.1 hcl t ht
   unfold pJ at hk
   split at hk
   ·rename_i hu
    obtain⟨b,rfl,_⟩:=DataW.trod_bool hu h
    exact dV.pure (v:=.bool b) (fun _=>.pure rfl) rfl fun h=>by unfold gv;rw[hu];exact⟨b,rfl⟩
   ·rename_i k hu
    obtain⟨i,rfl,_,hwf⟩:=DataW.trod_int hu h
    exact dV.pure (v:=.int k i) (fun _=>.pure rfl) rfl fun h=>by unfold gv;rw[hu];exact⟨i,rfl,hwf⟩
   ·rename_i hu
    obtain⟨s,rfl,rfl,_⟩:=DataW.trod_string hu h
    refine dV.pure (v:=.string s) (fun _=>.pure rfl) rfl fun h=>?_
    unfold gv
    rw[hu]
    refine⟨s,rfl,?_⟩
    unfold DataW.weights at hw
    simpa using hw
   ·rename_i fs hu
    rw[Bool.and_eq_true,decide_eq_true_eq,List.all_eq_true] at hk
    obtain⟨xs,n',hn',rfl,hlen,hxl,hf⟩:=DataW.trod_struct hu h
    obtain rfl:n'=n:=by omega
    unfold DataW.weights at hw
    rw[hu] at hw
    simp only at hw
    have key:=dV.fs (P:=P) (W:=W) (R:=fun h t vs=>gv P h n' t vs) (fun t=>wG) (cs:=cs) (l:=fs.toList) (o:=0) (by rw[hlen];exact hk.1) (fun f hfm=>by
     obtain⟨i,hi,rfl⟩:=List.mem_iff_getElem.1 hfm
     have hfi:fs[i]? = some fs.toList[i]:=by simp
     have h1:=hf i _ hfi
     have hix:i<xs.length:=by rw[hxl];simpa using hi
     rw[List.getElem?_eq_getElem hix] at h1
     refine kA hcl n' _ _ _ (by simpa using hk.2 _ (List.getElem_mem hi)) h1 ?_
     exact ko hw i _ _ (by rw[List.getElem?_map,List.getElem?_eq_getElem hi];rfl) (by simp [hix]))
    rw[List.drop_zero] at key
    intro μ h H hn
    obtain⟨μ',h',vs,a1,a2,a3,a4,a5,a6,a7⟩:=key μ h H hn
    exact⟨μ',h',vs,a1,a2,a3,a4,a5,a6,by unfold gv;rw[hu];exact a7⟩
   ·rename_i m e hu
    rw[Bool.and_eq_true,decide_eq_true_eq] at hk
    obtain⟨xs,n',hn',rfl,hlen,hxl,hf⟩:=DataW.trod_array hu h
    obtain rfl:n'=n:=by omega
    unfold DataW.weights at hw
    rw[hu] at hw
    simp only at hw
    have hcs:cs.length=m*P.cellsOf e:=hlen.trans hk.1
    have key:=dV.es (P:=P) (W:=W) (R:=fun h vs=>gv P h n' e vs) wG (c:=P.cellsOf e) (l:=(List.range m).map fun i=>(cs.drop (i*P.cellsOf e)).take (P.cellsOf e)) (fun cs' hm=>by
     rw[List.mem_map] at hm
     obtain⟨i,hi,rfl⟩:=hm
     rw[List.mem_range] at hi
     have h1:=hf i hi
     have hix:i<xs.length:=by rw[hxl];exact hi
     rw[List.getElem?_eq_getElem hix] at h1
     refine⟨?_,kA hcl n' _ _ _ (by simpa using hk.2) h1 (lf hw _ (List.mem_map.2 ⟨_,List.getElem_mem hix,rfl⟩))⟩
     rw[List.length_take,List.length_drop,hcs]
     have:(i+1)*P.cellsOf e≤m*P.cellsOf e:=Nat.mul_le_mul_right _ hi
     rw[Nat.succ_mul] at this
     omega)
    rw[chunks_flatten hcs,List.length_map,List.length_range] at key
    intro μ h H hn
    obtain⟨μ',h',vs,a1,a2,a3,a4,a5,a6,a7⟩:=key μ h H hn
    exact⟨μ',h',vs,a1,a2,a3,a4,a5,a6,by unfold gv;rw[hu];exact a7⟩
   ·rename_i e hu
    rw[Bool.and_eq_true,decide_eq_true_eq] at hk
    rcases DataW.trod_slice hu h with ⟨rfl,_⟩ | ⟨a,len,cap,elems,rest,n',hn',rfl,rfl,_,hlc,hcm,hel,hf,hsp,_⟩
    ·exact dV.pure (v:=.slice none 0 0) (fun _=>.pure rfl) rfl fun h=>by unfold gv;rw[hu];exact .inl rfl
    obtain rfl:n'=n:=by omega
    obtain⟨hrl,hr⟩:=hsp rfl
    unfold DataW.weights at hw
    rw[hu] at hw
    simp only[List.all_cons,List.all_append,Bool.and_eq_true,decide_eq_true_eq,List.length_map] at hw
    obtain⟨hw1,hw2,_⟩:=hw
    by_cases hcap:cap=0
    ·subst hcap
     obtain rfl:len=0:=by omega
     exact dV.pure (v:=.slice (some ⟨0,0,none⟩) 0 0) (fun _=>.fk) rfl fun h=>by unfold gv;rw[hu];exact .inr (.inl rfl)
    have hcell:∃ cs',W.cells? 0 (a.add 0) (P.cellsOf e)=some cs':=by
     by_cases hl0:0<len
     ·have:=hf 0 hl0
      rw[List.getElem?_eq_getElem (by omega),Nat.zero_mul,Option.bind_eq_some_iff] at this
      obtain⟨cs',h1,_⟩:=this
      exact⟨cs',h1⟩
     ·have:=hr 0 (by omega)
      obtain rfl:len=0:=by omega
      rw[List.getElem?_eq_getElem (by omega),Nat.zero_add,Nat.zero_mul,Option.bind_eq_some_iff] at this
      obtain⟨cs',h1,_⟩:=this
      exact⟨cs',h1⟩
    obtain⟨hspot,hblk⟩:a.spot=none∧a.block<W.heap.size:=by
     obtain⟨cs',h1⟩:=hcell
     obtain⟨_,h2,h3⟩:=World.cells?_some h1
     have h4:=h3 0 hk.1
     rw[List.getElem?_eq_getElem (by omega)] at h4
     obtain⟨ab,ao,asp⟩:=a
     cases asp with
     | none=>
       refine⟨rfl,?_⟩
       rcases Nat.lt_or_ge ab W.heap.size with h5|h5
       ·exact h5
       ·simp [World.cell?,Addr.add,Array.getElem?_eq_none h5] at h4
     | some sp=>
       exfalso
       unfold World.cell? at h4
       split at h4
       ·simp [Addr.add] at h4
       ·cases h4
    obtain⟨ab,ao,asp⟩:=a
    simp only at hspot hblk
    subst hspot
    have hget:∀ i,i<len→∃ cs',W.cells? 0 ⟨ab,ao+i*P.cellsOf e,none⟩ (P.cellsOf e)=some cs'∧∃ y∈elems,DataW.trod enc P W 0 (fun _=>true) held n' e cs'=some y:=fun i hi=>by
     have:=hf i hi
     rw[List.getElem?_eq_getElem (by omega),Option.bind_eq_some_iff] at this
     obtain⟨cs',h1,h2⟩:=this
     rw[Addr.add_lit] at h1
     exact⟨cs',h1,_,List.getElem_mem _,h2⟩
    have key:=dV.es (P:=P) (W:=W) (R:=fun h vs=>gv P h n' e vs) wG (c:=P.cellsOf e) (l:=(List.range len).map fun i=>(W.cells? 0 ⟨ab,ao+i*P.cellsOf e,none⟩ (P.cellsOf e)).getD []) (fun cs' hm=>by
     rw[List.mem_map] at hm
     obtain⟨i,hi,rfl⟩:=hm
     rw[List.mem_range] at hi
     obtain⟨cs',h1,y,hy,h2⟩:=hget i hi
     rw[h1]
     exact⟨(World.cells?_some h1).2.1,kA hcl n' _ _ _ (by simpa using hk.2) h2 (lf hw2 _ (List.mem_map.2 ⟨_,hy,rfl⟩))⟩)
    rw[List.length_map,List.length_range] at key
    intro μ h H hn
    obtain⟨μ',h',vs,a1,a2,a3,a4,a5,a6,a7⟩:=key μ h H hn
    have hfl:=mj (W:=W) (b:=ab) (c:=P.cellsOf e) (l:=(List.range len).map fun i=>(W.cells? 0 ⟨ab,ao+i*P.cellsOf e,none⟩ (P.cellsOf e)).getD []) (o:=ao) (fun i cs' hi=>by
     rw[List.getElem?_map] at hi
     have hil:i<len:=by
      rcases Nat.lt_or_ge i len with h5|h5
      ·exact h5
      ·simp [List.getElem?_eq_none (l:=List.range len) (by simpa using h5)] at hi
     rw[List.getElem?_eq_getElem (by simpa using hil),Option.map_some,List.getElem_range,Option.some.injEq] at hi
     subst hi
     obtain⟨cs',h1,_⟩:=hget i hil
     rw[h1]
     obtain⟨_,q1,q2⟩:=World.cells?_some h1
     refine⟨q1,fun r hr=>?_⟩
     have:=q2 r hr
     rwa [Addr.add_lit] at this)
    obtain⟨b1,b2,b3,b4⟩:=a3.RW a4 (cells:=vs) (m:=⟨ab,ao,cap*P.cellsOf e,e⟩) (fun j v hj=>by
     obtain⟨v',k1,k2⟩:=a5.get hj
     exact⟨v',hfl j v' k1,k2⟩) a6 hblk
    refine⟨_,_,[.slice (some ⟨h'.length,0,some 0⟩) len len],a1.trans ⟨_,rfl⟩,a2.trans b3,b1,b2,⟨?_,trivial⟩,rfl,?_⟩
    ·have hv:=VR.slice (P:=P) (c:=len) (len:=len) (cap:=cap) (off:=0) b4 hlc hcm (by simp)
     simpa using hv
    ·unfold gv
     rw[hu]
     refine .inr (.inr ⟨h'.length,len,len,vs,rfl,?_,by simp,a7.mono fun vs k=>k.mono ⟨_,rfl⟩⟩)
     have:len*P.bytesOf e≤(elems.length+rest.length)*P.bytesOf e:=Nat.mul_le_mul_right _ (by omega)
     omega
   ·cases hk
end
def D5 (P:Nat→Prop):List Nat→Prop
 | []=>True
 | a :: l=>P a∧D5 P l
theorem D5.mem {P:Nat→Prop}:∀ {l:List Nat},D5 P l→∀ k∈l,P k
 | [],_,k,h=>by cases h
 | a :: l,⟨h1,h2⟩,k,h=>by
   rcases List.mem_cons.1 h with rfl|h
   ·exact h1
   ·exact D5.mem h2 k h
def Vg (L:List (List Nat)) (act:List Nat) (i:Nat):List Nat:=(List.range (act.length+1)).filter (fZ L act i)
def Nb (act:List Nat) (i k:Nat):Nat:=if act.contains i then k+1 else k
inductive az (N:Env) (ops:Array Oper) (L:List (List Nat)) (act:List Nat) (resL:List gu) (hs:List ai) (fr0:Fr):Nat→List Oper→Prop
 | nil (i:Nat):az N ops L act resL hs fr0 i []
 | cons {i:Nat} {o:Oper} {l:List Oper} {r:gu} (ks:List Nat):Vg L act i=ks→D5 (fun k=>One N ops o (vw ops L resL fr0 (tq hs k) i) r (tq hs (Nb act i k))) ks→jq resL i=r→az N ops L act resL hs fr0 (i+1) l→az N ops L act resL hs fr0 i (o :: l)
section
variable {N:Env} {ops:Array Oper} {L:List (List Nat)} {act:List Nat} {resL:List gu} {hs:List ai}
theorem fO.of {fr:Fr} {i:Nat} {o:Oper}:∀ {l:List Nat},(∀ k∈l,fZ L act i k=true→One N ops o (fj ops L resL fr (tq hs k) i) (jq resL i) (tq hs (if i∈act then k+1 else k)))→fO N ops L act resL hs fr i o l
 | [],_=>trivial
 | k :: l,h=>⟨h k List.mem_cons_self,fO.of fun k' hk=>h k' (List.mem_cons_of_mem _ hk)⟩
theorem az.ok {fr:Fr}:∀ {l:List Oper} {i:Nat},az N ops L act resL hs (g8 (dstsOf ops) fr) i l→eZ N ops L act resL hs fr i l
 | [],_,_=>trivial
 | o :: l,i,.cons ks h0 h1 h2 h3=>by
   refine⟨fO.of fun k hk hb=>?_,h3.ok⟩
   have:=h1.mem k (by rw[← h0];exact List.mem_filter.2 ⟨hk,hb⟩)
   subst h2
   unfold Nb at this
   simp only[List.contains_iff_mem] at this
   exact this
theorem CH {id:Nat} {s:St} {Q:AX→St→Prop} (L:List (List Nat)) (act:List Nat) (hs:List ai) (resL:List gu) (fr0:Fr) (frF:Fr) (hE:ai) (hm:N.P.follows .mixedOrders=true) (hc:vj ops L act=true) (ha:act.all (fun a=>decide (a<ops.size))=true) (ht:zZ ops resL=true) (h0:s.h=tq hs 0) (hl:tq hs act.length=hE) (hb:g8 (dstsOf ops) s.fr=fr0) (hS:az N ops L act resL hs fr0 0 ops.toList) (hF:gT ops resL s.fr frF) (k:Q .normal ⟨frF,[],hE⟩):CW N (.region id ops true) s Q:=by{
subst hb
subst hl
unfold CW
exact⟨_,_,oD (hs:=hs) hm hc ha ht h0 hS.ok hF,k⟩}
end
attribute [push_cast] tq Nb
end Go.Proofs.YtmdmimkbpikmoaaGreat.Am
namespace Go.Proofs.YtmdmimkbpikmoaaGreat.Am
open Go.RowKit Go.MapKept
inductive Sh where
 | sI (k:IntKind)
 | xA
 | mN
 | nj
 deriving DecidableEq
def Sh.sz:Sh→Nat
 | .nj=>4
 | _=>1
def Sh.ok:Sh→List Value→Bool
 | .sI k,[.int k' _]=>decide (k=k')
 | .xA,[.bool _]=>true
 | .mN,[.string _]=>true
 | .nj,[.int .u64 _,.int .u64 _,.int .u64 _,.int .u64 _]=>true
 | _,_=>false
def mU:List Sh→List Value→Bool
 | [],l=>l.isEmpty
 | s :: r,l=>s.ok (l.take s.sz)&&mU r (l.drop s.sz)
def Sh.val:Sh→List Value→Value
 | .nj,l=>.agg l.toArray
 | _,l=>l.headD .nilFunc
def Cc (P:Program) (t:TypeId):Option Sh:=
 match P.underlying t with
 | some (.int k)=>some (.sI k)
 | some .bool=>some .xA
 | some .string=>some .mN
 | some (.array 4 e)=>match P.underlying e,P.info? t,P.info? e with
   | some (.int .u64),some i,some j=>if i.size=4∧j.size=1 then some .nj else none
   | _,_,_=>none
 | _=>none
def mw (P:Program):List Field→Nat→List Sh→Bool
 | [],_,[]=>true
 | f :: fs,off,s :: r=>decide (Cc P f.type=some s)&&decide (f.offset=off)&&(f.name != "_")&&mw P fs (off+s.sz) r
 | _,_,_=>false
def fP (P:Program) (t:TypeId) (l:List Sh):Bool:=
 match P.underlying t with
 | some (.struct fs)=>mw P fs.toList 0 l && !P.stoodInHeld t && !P.eqGuardType P.depth t
 | _=>false
theorem vz (n m:ByteArray):(n == m)=decide (n=m):=by{
cases n with
| mk a=>
cases m with
| mk b=>
have h:((⟨a⟩:ByteArray) == ⟨b⟩)=(a == b):=rfl
rw[h]
by_cases e:a=b
·subst e
 simp
·rw[decide_eq_false (fun k=>e (by injection k)),beq_eq_false_iff_ne]
 exact e}
section
variable {P:Program} {w:World}
theorem mC {t:TypeId} {s:Sh} (h:Cc P t=some s):(∃ k,s = .sI k∧P.underlying t=some (.int k))∨(s = .xA∧P.underlying t=some .bool)∨(s = .mN∧P.underlying t=some .string) ∨ (s = .nj∧∃ e i j,P.underlying t=some (.array 4 e)∧P.underlying e=some (.int .u64)∧P.info? t=some i∧P.info? e=some j∧i.size=4∧j.size=1):=by{
unfold Cc at h
split at h
·rename_i k hu
 cases h
 exact .inl ⟨k,rfl,hu⟩
·rename_i hu
 cases h
 exact .inr (.inl ⟨rfl,hu⟩)
·rename_i hu
 cases h
 exact .inr (.inr (.inl ⟨rfl,hu⟩))
·rename_i e hu
 split at h
 ·rename_i i j he hi hj
  split at h
  ·rename_i hq
   cases h
   exact .inr (.inr (.inr ⟨rfl,e,i,j,hu,he,hi,hj,hq.1,hq.2⟩))
  ·cases h
 ·cases h
·cases h}
theorem Sh.rX {s:Sh} {l:List Value} (h:s.ok l=true):l.length=s.sz:=by
 unfold Sh.ok at h
 split at h<;>first|rfl|cases h
theorem mF {l:List Value} (h:Sh.nj.ok l=true):∃ a b c d,l=[.int .u64 a,.int .u64 b,.int .u64 c,.int .u64 d]:=by{
unfold Sh.ok at h
split at h<;>first|cases h|skip
all_goals first|exact⟨_,_,_,_,rfl⟩ | (rename_i hq;cases hq;done) | (rename_i h1 h2;cases h1;done) | skip}
theorem yT {k:IntKind} {l:List Value} (h:(Sh.sI k).ok l=true):∃ a,l=[.int k a]:=by{
match l,h with
| [.int k' a],h=>
  have:k=k':=by simpa [Sh.ok] using h
  exact⟨a,by rw[this]⟩}
theorem xT {l:List Value} (h:Sh.xA.ok l=true):∃ a,l=[.bool a]:=by
 match l,h with
 | [.bool a],_=>exact⟨a,rfl⟩
theorem xW {l:List Value} (h:Sh.mN.ok l=true):∃ a,l=[.string a]:=by
 match l,h with
 | [.string a],_=>exact⟨a,rfl⟩
theorem j3 {t:TypeId} {d:TypeDesc} (hu:P.underlying t=some d) (hd:d = .bool∨d = .string∨∃ k,d = .int k):P.plainKey t=true:=by{
unfold Program.plainKey
rw[hu]
rcases hd with rfl|rfl|⟨k,rfl⟩<;>rfl}
theorem xr {l:List Value} {xs:Array Value} {off:Nat} (h:(xs.toList.drop off).take l.length=l):∀ (j:Nat) (v:Value),l[j]? = some v→xs[off+j]? = some v:=fun j v hj=>by
 have hlt:=(List.getElem?_eq_some_iff.1 hj).1
 have:((xs.toList.drop off).take l.length)[j]? = some v:=by rw[h];exact hj
 rw[List.getElem?_take_of_lt hlt,List.getElem?_drop] at this
 simpa using this
theorem wt {t:TypeId} {s:Sh} (hs:Cc P t=some s) {xs:Array Value} {off:Nat} (hok:s.ok ((xs.toList.drop off).take s.sz)=true):(part t xs off).run P w = .ok (s.val ((xs.toList.drop off).take s.sz)) w:=by{
have hlen:=Sh.rX hok
have hget:=xr (l:=(xs.toList.drop off).take s.sz) (xs:=xs) (off:=off) (by rw[hlen])
rcases mC hs with ⟨k,rfl,hu⟩ | ⟨rfl,hu⟩ | ⟨rfl,hu⟩ | ⟨rfl,e,i,j,hu,he,hi,hj,hsz,_⟩
·obtain⟨a,ha⟩:=yT hok
 rw[ha] at hget ⊢
 have:=hget 0 _ rfl
 exact run_part_plain w (j3 hu (.inr (.inr ⟨k,rfl⟩))) this
·obtain⟨a,ha⟩:=xT hok
 rw[ha] at hget ⊢
 have:=hget 0 _ rfl
 exact run_part_plain w (j3 hu (.inl rfl)) this
·obtain⟨a,ha⟩:=xW hok
 rw[ha] at hget ⊢
 have:=hget 0 _ rfl
 exact run_part_plain w (j3 hu (.inr (.inl rfl))) this
·simp only[part,jb hu,o7,Sem.run_bind,Result.andThen_ok,if_true,bV hi,hsz,Sem.run_pure,Sh.val]
 congr 2
 apply Array.toList_inj.1
 simp [Array.toList_extract,Sh.sz,List.extract_eq_take_drop]}
theorem OK (a b c d a' b' c' d':Int):jy [.int .u64 a,.int .u64 b,.int .u64 c,.int .u64 d] [.int .u64 a',.int .u64 b',.int .u64 c',.int .u64 d']=(decide (a=a')&&(decide (b=b')&&(decide (c=c')&&decide (d=d')))):=by
 simp only[jy,mZ,Bool.and_true]
theorem Bl (d:Nat) {e:TypeId} (hu:P.underlying e=some (.int .u64)) (xs ys:Array Value) (f g:Nat→Int):∀ (is:List Nat),(∀ i∈is,xs[i]? = some (.int .u64 (f i))∧ys[i]? = some (.int .u64 (g i))) →
 (Op.eqItems (d+1) e 1 xs ys is).run P w = .ok (is.all fun i=>decide (f i=g i)) w
 | [],_=>by simp [Op.eqItems]
 | i :: is,h=>by
   obtain⟨h1,h2⟩:=h i List.mem_cons_self
   have ih:=Bl d hu xs ys f g is fun j hj=>h j (List.mem_cons_of_mem _ hj)
   have p1:(part e xs (i*1)).run P w = .ok (.int .u64 (f i)) w:=run_part_plain w (j3 hu (.inr (.inr ⟨_,rfl⟩))) (by rw[Nat.mul_one];exact h1)
   have p2:(part e ys (i*1)).run P w = .ok (.int .u64 (g i)) w:=run_part_plain w (j3 hu (.inr (.inr ⟨_,rfl⟩))) (by rw[Nat.mul_one];exact h2)
   simp only[Op.eqItems,Sem.run_bind,p1,p2,Result.andThen_ok,run_equalIn_int w d _ _ _ _ _ hu,List.all_cons]
   by_cases he:f i=g i
   ·simp only[he,beq_self_eq_true,Bool.not_true,Bool.false_eq_true,if_false,decide_true,Bool.true_and]
    exact ih
   ·simp [he]
theorem Fz (d:Nat) {t e:TypeId} {j:TypeInfo} (hu:P.underlying t=some (.array 4 e)) (he:P.underlying e=some (.int .u64)) (hj:P.info? e=some j) (hs:j.size=1) (a b c q a' b' c' q':Int) : (Op.equalIn (d+2) t (.agg #[.int .u64 a,.int .u64 b,.int .u64 c,.int .u64 q]) (.agg #[.int .u64 a',.int .u64 b',.int .u64 c',.int .u64 q'])).run P w = .ok (jy [.int .u64 a,.int .u64 b,.int .u64 c,.int .u64 q] [.int .u64 a',.int .u64 b',.int .u64 c',.int .u64 q']) w:=by{
have hc:P.cellsOf e=1:=by simp [Program.cellsOf,hj,hs]
rw[run_equalIn_array w (d+1) _ _ hu hj,hc,OK]
rw[Bl d he _ _ (fun i=>[a,b,c,q].getD i 0) (fun i=>[a',b',c',q'].getD i 0)]
·simp only[show List.range 4=[0,1,2,3] from rfl,List.all_cons,List.all_nil,Bool.and_true,List.getD_cons_zero,List.getD_cons_succ]
·intro i hi
 have:i=0∨i=1∨i=2∨i=3:=by simp at hi;omega
 rcases this with rfl|rfl|rfl|rfl<;>exact⟨rfl,rfl⟩}
theorem J4 (d:Nat) {t:TypeId} {s:Sh} (hs:Cc P t=some s) {l m:List Value} (hl:s.ok l=true) (hm:s.ok m=true):(Op.equalIn (d+2) t (s.val l) (s.val m)).run P w = .ok (jy l m) w:=by{
rcases mC hs with ⟨k,rfl,hu⟩ | ⟨rfl,hu⟩ | ⟨rfl,hu⟩ | ⟨rfl,e,i,j,hu,he,hi,hj,hsz,hjs⟩
·obtain⟨a,rfl⟩:=yT hl
 obtain⟨b,rfl⟩:=yT hm
 show (Op.equalIn (d+1+1) t (.int k a) (.int k b)).run P w=_
 rw[run_equalIn_int w (d+1) _ _ _ _ _ hu]
 simp only[jy,mZ,Bool.and_true,Bool.beq_eq_decide_eq]
·obtain⟨a,rfl⟩:=xT hl
 obtain⟨b,rfl⟩:=xT hm
 show (Op.equalIn (d+1+1) t (.bool a) (.bool b)).run P w=_
 rw[run_equalIn_bool' w (d+1) _ _ _ hu]
 simp only[jy,mZ,Bool.and_true]
 cases a<;>cases b<;>rfl
·obtain⟨a,rfl⟩:=xW hl
 obtain⟨b,rfl⟩:=xW hm
 have:(Op.equalIn (d+1+1) t (.string a) (.string b)).run P w = .ok (a == b) w:=by simp [Op.equalIn,run_underlying hu]
 show (Op.equalIn (d+1+1) t (.string a) (.string b)).run P w=_
 rw[this,vz]
 simp only[jy,mZ,Bool.and_true]
·obtain⟨a,b,c,q,rfl⟩:=mF hl
 obtain⟨a',b',c',q',rfl⟩:=mF hm
 exact Fz d hu he hj hjs a b c q a' b' c' q'}
theorem mL {l1 l2 m1 m2:List Value} (h:l1.length=m1.length):jy (l1++l2) (m1++m2)=(jy l1 m1&&jy l2 m2):=by{
induction l1 generalizing m1 with
| nil=>cases m1 with
  | nil=>simp [jy]
  | cons=>simp at h
| cons x l ih=>cases m1 with
  | nil=>simp at h
  | cons y m=>simp only[List.cons_append,jy,ih (by simpa using h),Bool.and_assoc]}
theorem uC (d:Nat) (xs ys:Array Value):∀ (fs:List Field) (off:Nat) (l:List Sh),mw P fs off l=true→mU l (xs.toList.drop off)=true→mU l (ys.toList.drop off)=true →
 (Op.eqFields (d+2) xs ys fs).run P w = .ok (jy (xs.toList.drop off) (ys.toList.drop off)) w
 | [],off,[],_,hx,hy=>by
   simp only[mU,List.isEmpty_iff] at hx hy
   rw[hx,hy]
   simp [Op.eqFields,jy]
 | [],_,_ :: _,h,_,_=>by simp [mw] at h
 | _ :: _,_,[],h,_,_=>by simp [mw] at h
 | f :: fs,off,s :: r,h,hx,hy=>by
   simp only[mw,Bool.and_eq_true,decide_eq_true_eq] at h
   obtain⟨⟨⟨h1,h2⟩,h3⟩,h4⟩:=h
   simp only[mU,Bool.and_eq_true,List.drop_drop] at hx hy
   have ih:=uC d xs ys fs (off+s.sz) r h4 hx.2 hy.2
   have hn:f.name ≠ "_":=by simpa using h3
   have hlx:=Sh.rX hx.1
   have hly:=Sh.rX hy.1
   simp only[Op.eqFields,ne_eq,hn,not_false_eq_true,if_true,Sem.run_bind,h2,wt h1 hx.1,wt h1 hy.1,Result.andThen_ok,J4 d h1 hx.1 hy.1]
   have e1:xs.toList.drop off=(xs.toList.drop off).take s.sz++xs.toList.drop (off+s.sz):=by rw[← List.drop_drop,List.take_append_drop]
   have e2:ys.toList.drop off=(ys.toList.drop off).take s.sz++ys.toList.drop (off+s.sz):=by rw[← List.drop_drop,List.take_append_drop]
   have e3:jy (xs.toList.drop off) (ys.toList.drop off)=(jy ((xs.toList.drop off).take s.sz) ((ys.toList.drop off).take s.sz)&&jy (xs.toList.drop (off+s.sz)) (ys.toList.drop (off+s.sz))):=by
    conv=>lhs;rw[e1,e2]
    exact mL (by rw[hlx,hly])
   rw[e3]
   generalize jy ((xs.toList.drop off).take s.sz) ((ys.toList.drop off).take s.sz)=q
   cases q with
   | false=>simp
   | true=>
     simp only[Bool.not_true,Bool.false_eq_true,if_false,Bool.true_and]
     exact ih
theorem iY {t:TypeId} {l:List Sh} (h:fP P t l=true):P.underlying t=some (.struct (P.fieldsOf t))∧mw P (P.fieldsOf t).toList 0 l=true∧P.stoodInHeld t=false∧P.eqGuardType P.depth t=false:=by{
unfold fP at h
split at h
·rename_i fs hu
 simp only[Bool.and_eq_true,Bool.not_eq_true'] at h
 have e:P.fieldsOf t=fs:=by simp [Program.fieldsOf,hu]
 rw[e]
 exact⟨hu,h.1.1,h.1.2,h.2⟩
·cases h}
theorem sf {t:TypeId} {l:List Sh} (h:fP P t l=true) (d:Nat) {xs ys:Array Value} (hx:mU l xs.toList=true) (hy:mU l ys.toList=true):(Op.equalIn (d+3) t (.agg xs) (.agg ys)).run P w = .ok (jy xs.toList ys.toList) w:=by{
obtain⟨hu,hf,hs,_⟩:=iY h
rw[run_equalIn_struct w (d+2) t xs ys hu hs]
have:=uC (w:=w) d xs ys _ 0 l hf (by simpa using hx) (by simpa using hy)
simpa using this}
theorem yL {t:TypeId} {l:List Sh} (h:fP P t l=true):DW P t (mU l):=fun xs ys hx hy=>⟨(iY h).2.2.2,fun w=>sf h 9997 hx hy⟩
def PG:Value→Bool
 | .int _ _=>true
 | .bool _=>true
 | .string _=>true
 | _=>false
theorem Es {v:Value} (h:PG v=true):bf v=true:=by
 cases v<;>first|rfl|simp [PG] at h
theorem LK {s:Sh} {l:List Value} (h:s.ok l=true):l.all PG=true:=by{
cases s with
| sI k=>obtain⟨a,rfl⟩:=yT h;rfl
| xA=>obtain⟨a,rfl⟩:=xT h;rfl
| mN=>obtain⟨a,rfl⟩:=xW h;rfl
| nj=>obtain⟨a,b,c,d,rfl⟩:=mF h;rfl}
theorem vm:∀ {l:List Sh} {xs:List Value},mU l xs=true→xs.all PG=true
 | [],xs,h=>by
   simp only[mU,List.isEmpty_iff] at h
   rw[h]
   rfl
 | s :: r,xs,h=>by
   simp only[mU,Bool.and_eq_true] at h
   have:=vm h.2
   rw[← List.take_append_drop s.sz xs,List.all_append,this,Bool.and_true]
   exact LK h.1
theorem xt {l:List Sh} {xs:List Value} (h:mU l xs=true):xs.all bf=true:=by{
have:=vm h
rw[List.all_eq_true] at this ⊢
exact fun v hv=>Es (this v hv)}
theorem yP {μ:Mu}:∀ {l l':List Value},l.all bf=true→dD P μ l l'→l'=l
 | [],[],_,_=>rfl
 | v :: l,v' :: l',h,⟨h1,h2⟩=>by
   simp only[List.all_cons,Bool.and_eq_true] at h
   rw[h1.dM h.1,yP h.2 h2]
 | [],_ :: _,_,h=>h.elim
 | _ :: _,[],_,h=>h.elim
theorem jl {t:TypeId} {l:List Sh} (h:fP P t l=true):DW P t (mU l)∧∀ xs ys:List Value,∀ μ:Mu,dD P μ xs ys→mU l xs=true→ys=xs:=⟨yL h,fun xs ys μ hv hc=>yP (xt hc) hv⟩
def xm (l:List Sh):Value→Bool
 | .agg xs=>mU l xs.toList
 | _=>false
theorem kY {l:List Sh} {v:Value} (h:xm l v=true):∃ xs,v = .agg xs∧mU l xs.toList=true:=by{
unfold xm at h
split at h
·exact⟨_,rfl,h⟩
·cases h}
theorem Qi {s:Sh} {l m:List Value} (hl:s.ok l=true) (hm:s.ok m=true) (h:jy l m=true):l=m:=by{
cases s with
| sI k=>
  obtain⟨a,rfl⟩:=yT hl
  obtain⟨b,rfl⟩:=yT hm
  simp only[jy,mZ,Bool.and_true,decide_eq_true_eq] at h
  rw[h]
| xA=>
  obtain⟨a,rfl⟩:=xT hl
  obtain⟨b,rfl⟩:=xT hm
  simp only[jy,mZ,Bool.and_true,decide_eq_true_eq] at h
  rw[h]
| mN=>
  obtain⟨a,rfl⟩:=xW hl
  obtain⟨b,rfl⟩:=xW hm
  simp only[jy,mZ,Bool.and_true,decide_eq_true_eq] at h
  rw[h]
| nj=>
  obtain⟨a,b,c,d,rfl⟩:=mF hl
  obtain⟨a',b',c',d',rfl⟩:=mF hm
  simp only[OK,Bool.and_eq_true,decide_eq_true_eq] at h
  obtain⟨rfl,rfl,rfl,rfl⟩:=h
  rfl}
theorem Ii {s:Sh} {l:List Value} (hl:s.ok l=true):jy l l=true:=by{
cases s with
| sI k=>obtain⟨a,rfl⟩:=yT hl;simp [jy,mZ]
| xA=>obtain⟨a,rfl⟩:=xT hl;simp [jy,mZ]
| mN=>obtain⟨a,rfl⟩:=xW hl;simp [jy,mZ]
| nj=>obtain⟨a,b,c,d,rfl⟩:=mF hl;simp [jy,mZ]}
theorem Em:∀ {l:List Sh} {xs ys:List Value},mU l xs=true→mU l ys=true→jy xs ys=true→xs=ys
 | [],xs,ys,h1,h2,_=>by
   simp only[mU,List.isEmpty_iff] at h1 h2
   rw[h1,h2]
 | s :: r,xs,ys,h1,h2,h=>by
   simp only[mU,Bool.and_eq_true] at h1 h2
   rw[← List.take_append_drop s.sz xs,← List.take_append_drop s.sz ys,mL (by rw[Sh.rX h1.1,Sh.rX h2.1]),Bool.and_eq_true] at h
   rw[← List.take_append_drop s.sz xs,← List.take_append_drop s.sz ys,Qi h1.1 h2.1 h.1,Em h1.2 h2.2 h.2]
theorem xk:∀ {l:List Sh} {xs:List Value},mU l xs=true→jy xs xs=true
 | [],xs,h1=>by
   simp only[mU,List.isEmpty_iff] at h1
   rw[h1]
   rfl
 | s :: r,xs,h1=>by
   simp only[mU,Bool.and_eq_true] at h1
   have:=mL (l1:=xs.take s.sz) (l2:=xs.drop s.sz) (m1:=xs.take s.sz) (m2:=xs.drop s.sz) rfl
   rw[List.take_append_drop] at this
   rw[this,Ii h1.1,xk h1.2]
   rfl
theorem CK (em:Bool) (d:Nat) {t:TypeId} {s:Sh} (hs:Cc P t=some s) {l:List Value} (hl:s.ok l=true):(Instr.checkKey em (d+2) t (s.val l)).run P w = .ok () w:=by{
rcases mC hs with ⟨k,rfl,hu⟩ | ⟨rfl,hu⟩ | ⟨rfl,hu⟩ | ⟨rfl,e,i,j,hu,he,hi,hj,hsz,hjs⟩
·obtain⟨a,rfl⟩:=yT hl
 exact run_checkKey (d:=.int k) hu (by simp [IsKey,Sh.val]) em (d+1)
·obtain⟨a,rfl⟩:=xT hl
 exact run_checkKey (d:=.bool) hu (by simp [IsKey,Sh.val]) em (d+1)
·obtain⟨a,rfl⟩:=xW hl
 exact run_checkKey (d:=.string) hu (by simp [IsKey,Sh.val]) em (d+1)
·obtain⟨a,b,c,q,rfl⟩:=mF hl
 show (Instr.checkKey em (d+1+1) t (.agg #[.int .u64 a,.int .u64 b,.int .u64 c,.int .u64 q])).run P w=_
 have ck:∀ n:Int,(Instr.checkKey em (d+1) e (.int .u64 n)).run P w = .ok () w:=fun n=>run_checkKey (d:=.int .u64) he (by simp [IsKey]) em d
 have pt:∀ (i:Nat) (v:Value),(#[Value.int .u64 a,.int .u64 b,.int .u64 c,.int .u64 q]:Array Value)[i]? = some v→(part e #[.int .u64 a,.int .u64 b,.int .u64 c,.int .u64 q] i).run P w = .ok v w:=fun i v h=>run_part_plain w (j3 he (.inr (.inr ⟨_,rfl⟩))) h
 have p0:=pt 0 _ rfl
 have p1:=pt 1 _ rfl
 have p2:=pt 2 _ rfl
 have p3:=pt 3 _ rfl
 unfold Instr.checkKey
 simp only[Sem.run_bind,run_underlying hu,Result.andThen_ok]
 simp only[Std.Legacy.Range.forIn_eq_forIn_range',Std.Legacy.Range.size,Nat.sub_zero,Nat.add_one_sub_one,Nat.div_one]
 simp [List.range',bV hj,hjs,p0,p1,p2,p3,ck,Result.andThen]}
theorem ss (em:Bool) (d:Nat) (xs:Array Value):∀ (fs:List Field) (off:Nat) (l:List Sh),mw P fs off l=true→mU l (xs.toList.drop off)=true →
 (forIn fs PUnit.unit fun f _=>(do
  if f.name ≠ "_" then Instr.checkKey em (d+2) f.type (← part f.type xs f.offset)
  pure (ForInStep.yield PUnit.unit):Sem (ForInStep PUnit))).run P w = .ok PUnit.unit w
 | [],off,l,_,_=>by simp
 | f :: fs,off,[],h,_=>by simp [mw] at h
 | f :: fs,off,s :: r,h,hx=>by
   simp only[mw,Bool.and_eq_true,decide_eq_true_eq] at h
   obtain⟨⟨⟨h1,h2⟩,h3⟩,h4⟩:=h
   simp only[mU,Bool.and_eq_true,List.drop_drop] at hx
   have ih:=ss em d xs fs (off+s.sz) r h4 hx.2
   have hn:f.name ≠ "_":=by simpa using h3
   rw[List.forIn_cons]
   simp only[ne_eq,hn,not_false_eq_true,if_true,Sem.run_bind,h2,wt h1 hx.1,Result.andThen_ok,CK em d h1 hx.1,Sem.run_pure]
   exact ih
theorem rH {t:TypeId} {l:List Sh} (h:fP P t l=true):rW P t (xm l) where
 pure:=fun v hv=>by
  obtain⟨xs,rfl,hx⟩:=kY hv
  exact xt hx
 eq:=fun a b ha hb he=>by
  obtain⟨xs,rfl,hx⟩:=kY ha
  obtain⟨ys,rfl,hy⟩:=kY hb
  rw[Array.toList_inj.1 (Em hx hy he)]
 refl:=fun a ha=>by
  obtain⟨xs,rfl,hx⟩:=kY ha
  exact xk hx
 check:=fun em v w hv=>by
  obtain⟨xs,rfl,hx⟩:=kY hv
  obtain⟨hu,hf,_,_⟩:=iY h
  rw[show (10000:Nat)=9997+2+1 from rfl]
  unfold Instr.checkKey
  simp only[Sem.run_bind,run_underlying hu,Result.andThen_ok]
  rw[← Array.forIn_toList]
  have:=ss (w:=w) em 9997 xs _ 0 l hf (by simpa using hx)
  simp only[Sem.run_bind] at this ⊢
  rw[this]
  rfl
 find:=fun v es w hv hes=>by
  obtain⟨xs,rfl,hx⟩:=kY hv
  rw[run_findKey_eq w (by rw[(iY h).1])]
  have key:∀ (m:List MapEntry) (i:Nat),(∀ e∈m,xm l e.key=true)→(Instr.findAsking t (.agg xs) m i).run P w = .ok (gw (.agg xs) m i) w:=by
   intro m
   induction m with
   | nil=>intro i _;simp [Instr.findAsking,gw]
   | cons e m ih=>
     intro i hl
     obtain⟨ys,hm,hy⟩:=kY (hl e List.mem_cons_self)
     have ih':=ih (i+1) fun x hx=>hl x (List.mem_cons_of_mem _ hx)
     have hq:(Op.equal t (.agg xs) (.agg ys)).run P w = .ok (jy xs.toList ys.toList) w:=sf h 9997 hx hy
     simp only[Instr.findAsking,gw,Sem.run_bind,hm,hq,Result.andThen_ok,qA]
     split
     ·simp
     ·exact ih'
  exact key es 0 hes
 stays:=fun v w hv=>by
  obtain⟨xs,rfl,hx⟩:=kY hv
  have hp:=vm hx
  have:Instr.sameBits 10000 (.agg xs) (.agg xs)=true:=by
   rw[show (10000:Nat)=9999+1 from rfl]
   simp only[Instr.sameBits,beq_self_eq_true,Bool.true_and,List.all_eq_true]
   intro p hq
   obtain⟨i,hi⟩:=List.getElem?_of_mem hq
   rw[List.getElem?_zip_eq_some] at hi
   have e:p.1=p.2:=Option.some.inj (hi.1.symm.trans hi.2)
   have hpp:=List.all_eq_true.1 hp p.1 (List.mem_of_getElem? hi.1)
   obtain⟨x,y⟩:=p
   simp only at e hpp
   subst e
   cases x<;>first|(simp [PG] at hpp;done) | (simp [Instr.sameBits];done) | (simp only[Instr.sameBits];rw[vz];simp)
  simp [Instr.keyThatStays,this]
end
def nU:Value→Bool
 | .int .i64 _=>true
 | _=>false
def eP:Value→Bool
 | .string _=>true
 | _=>false
theorem iD {v:Value} (h:nU v=true):∃ n,v = .int .i64 n:=by{
unfold nU at h
split at h
·exact⟨_,rfl⟩
·cases h}
theorem iB {v:Value} (h:eP v=true):∃ b,v = .string b:=by{
unfold eP at h
split at h
·exact⟨_,rfl⟩
·cases h}
theorem HJ {P:Program} {t:TypeId} (hu:P.underlying t=some .string):rW P t eP where
 pure:=fun v h=>by obtain⟨n,rfl⟩:=iB h;rfl
 eq:=fun a b ha hb h=>by
  obtain⟨n,rfl⟩:=iB ha
  obtain⟨m,rfl⟩:=iB hb
  simp only[qA,mZ,decide_eq_true_eq] at h
  rw[h]
 refl:=fun a ha=>by obtain⟨n,rfl⟩:=iB ha;simp [qA,mZ]
 check:=fun em v w h=>by
  obtain⟨n,rfl⟩:=iB h
  exact run_checkKey (d:=.string) hu (by simp [IsKey]) em 9999
 find:=fun v es w h hes=>by
  obtain⟨n,rfl⟩:=iB h
  refine run_findKey (d:=.string) hu ?_
  have key:∀ (l:List MapEntry) (i:Nat),(∀ e∈l,eP e.key=true)→Instr.findNow .string (.string n) l i=some (gw (.string n) l i):=by
   intro l
   induction l with
   | nil=>intro i _;rfl
   | cons e l ih=>
     intro i hl
     obtain⟨m,hm⟩:=iB (hl e List.mem_cons_self)
     have ih':=ih (i+1) fun x hx=>hl x (List.mem_cons_of_mem _ hx)
     simp only[Instr.findNow,gw,hm,Instr.sameNow,qA,mZ,if_true]
     rw[vz]
     by_cases hnm:n=m
     ·rw[decide_eq_true hnm]
      simp
     ·rw[decide_eq_false hnm]
      exact ih'
  exact key es 0 hes
 stays:=fun v w h=>by
  obtain⟨n,rfl⟩:=iB h
  exact run_keyThatStays (d:=.string) (by simp [IsKey])
theorem IS {P:Program} {t:TypeId} (hu:P.underlying t=some (.int .i64)):rW P t nU where
 pure:=fun v h=>by obtain⟨n,rfl⟩:=iD h;rfl
 eq:=fun a b ha hb h=>by
  obtain⟨n,rfl⟩:=iD ha
  obtain⟨m,rfl⟩:=iD hb
  simp only[qA,mZ,decide_eq_true_eq] at h
  rw[h]
 refl:=fun a ha=>by obtain⟨n,rfl⟩:=iD ha;simp [qA,mZ]
 check:=fun em v w h=>by
  obtain⟨n,rfl⟩:=iD h
  exact run_checkKey (d:=.int .i64) hu (by simp [IsKey]) em 9999
 find:=fun v es w h hes=>by
  obtain⟨n,rfl⟩:=iD h
  refine run_findKey (d:=.int .i64) hu ?_
  have key:∀ (l:List MapEntry) (i:Nat),(∀ e∈l,nU e.key=true)→Instr.findNow (.int .i64) (.int .i64 n) l i=some (gw (.int .i64 n) l i):=by
   intro l
   induction l with
   | nil=>intro i _;rfl
   | cons e l ih=>
     intro i hl
     obtain⟨m,hm⟩:=iD (hl e List.mem_cons_self)
     have ih':=ih (i+1) fun x hx=>hl x (List.mem_cons_of_mem _ hx)
     simp only[Instr.findNow,gw,hm,Instr.sameNow,qA,mZ,if_true]
     by_cases hnm:n=m
     ·simp [hnm]
     ·have hb:(n == m)=false:=by simpa using hnm
      rw[hb,decide_eq_false hnm]
      exact ih'
  exact key es 0 hes
 stays:=fun v w h=>by
  obtain⟨n,rfl⟩:=iD h
  exact run_keyThatStays (d:=.int .i64) (by simp [IsKey])
attribute [push_cast] mU Sh.ok Sh.sz xm nU eP
end Go.Proofs.YtmdmimkbpikmoaaGreat.Am
namespace Go.Proofs.YtmdmimkbpikmoaaGreat
set_option maxRecDepth 20000
open Go.RowKit Am Ty
def k8:List Sh:=[.sI .i64,.sI .i64,.sI .i64]
def kQ:List Sh:=[.xA,.mN,.nj,.mN]
def DK:List Sh:=[.sI .i64,.mN,.nj,.mN,.mN]
def sa:List Sh:=[.mN,.nj]
def sX:List Sh:=[.mN,.mN]
theorem F0:fP Tryz.prog 70 k8=true:=by kernel_rfl
theorem LO:fP Tryz.prog 154 kQ=true:=by kernel_rfl
theorem Ik:fP Tryz.prog 103 kQ=true:=by kernel_rfl
theorem Nw:fP Tryz.prog 56 DK=true:=by kernel_rfl
theorem Cb:fP Tryz.prog 112 sa=true:=by kernel_rfl
theorem Cr:fP Tryz.prog 114 sX=true:=by kernel_rfl
def jx:TypeId→Option (Value→Bool):=fun t=>if t=3 then some nU else if t=9 then some eP else if t=70 then some (xm k8) else if t=154 then some (xm kQ) else none
theorem tA:∀ kt kd,jx kt=some kd→rW Tryz.prog kt kd:=fun kt kd h=>by
 unfold jx at h
 split at h
 ·rename_i e;subst e;cases h;exact IS kr
 split at h
 ·rename_i e;subst e;cases h;exact HJ kr
 split at h
 ·rename_i e;subst e;cases h;exact rH F0
 split at h
 ·rename_i e;subst e;cases h;exact rH LO
 ·cases h
def u7:TypeId→Option (List Value→Bool):=fun t=>if t=70 then some (mU k8) else if t=56 then some (mU DK) else if t=103 then some (mU kQ) else if t=112 then some (mU sa) else if t=114 then some (mU sX) else none
theorem AJ:∀ t chk,u7 t=some chk→DW Tryz.prog t chk∧∀ l l':List Value,∀ μ:Mu,dD Tryz.prog μ l l'→chk l=true→l'=l:=fun t chk h=>by
 unfold u7 at h
 split at h
 ·rename_i e;subst e;cases h;exact jl F0
 split at h
 ·rename_i e;subst e;cases h;exact jl Nw
 split at h
 ·rename_i e;subst e;cases h;exact jl Ik
 split at h
 ·rename_i e;subst e;cases h;exact jl Cb
 split at h
 ·rename_i e;subst e;cases h;exact jl Cr
 ·cases h
attribute [push_cast] k8 kQ DK sa sX
def mQ (a b c d:Int) (n:Nat):Bool:=(if n / 64=0 then a else if n / 64=1 then b else if n / 64=2 then c else d).toNat.testBit (n % 64)
def bP (has:Nat→Bool):Nat→List (Fin 256)
 | 0=>[]
 | k+1=>if h:k<256 then (if has k then bP has k++[⟨k,h⟩] else bP has k) else bP has k
def iW (l:List (Nat×Nat)) (b:Nat):List (Nat×Nat):=
 match l.getLast? with
 | some (lo,hi)=>if hi+1=b then l.dropLast++[(lo,b)] else l++[(b,b)]
 | none=>[(b,b)]
def b7 (bs:List (Fin 256)):List (Nat×Nat):=bs.foldl (fun l b=>iW l b.1) []
def df (l:List (Nat×Nat)):List Value:=l.flatMap fun r=>[.int .i64 r.1,.int .i64 r.2]
def uY (w:Int):Bool:=decide (0≤w)&&decide (w<18446744073709551616)
def iS (h:ai):List Value→Option (Value×ai)
 | [.agg cs]=>match cs.toList with
   | [.int .u64 a,.int .u64 b,.int .u64 c,.int .u64 d]=>if uY a&&uY b&&uY c&&uY d then
    (if (b7 (bP (mQ a b c d) 256)).isEmpty then some (.slice none 0 0,h)
    else some (.slice (some ⟨h.length,0,some 0⟩) (b7 (bP (mQ a b c d) 256)).length (b7 (bP (mQ a b c d) 256)).length,h++[ax.aq (df (b7 (bP (mQ a b c d) 256))) 0 true 214])) else none
   | _=>none
 | _=>none
def qy (h:ai):List Value→Option (Value×ai)
 | [.pointer (some ⟨id,0,some av⟩)]=>match h[id]? with
   | some (.aq [.pointer p,x] v true et)=>if v=av then (if et=228 then (match p with
     | none=>some (.tuple #[],h.set id (ax.aq [.pointer (some ⟨id,0,some av⟩),x] av true et))
     | some a=>if a=⟨id,0,some av⟩ then some (.tuple #[],h) else none) else none) else none
   | _=>none
 | _=>none
def kj:FuncId→List Value→ai→Option (Value×ai):=fun f args h=>if f=205 then qy h args else if f=175 then iS h args else none
structure a8 where
 a:Int
 b:Int
 c:Int
 d:Int
 deriving DecidableEq
structure be where
 nt:Int
 set:a8
 deriving DecidableEq
structure dG where
 lhs:Int
 rhs:List be
 deriving DecidableEq
structure fu where
 fx:Int
 start:Int
 rules:List dG
 deriving DecidableEq
def sd:List Value→Bool
 | [.int .u64 _,.int .u64 _,.int .u64 _,.int .u64 _]=>true
 | _=>false
def s7:List Value→Bool
 | [.int .i64 _,.int .u64 _,.int .u64 _,.int .u64 _,.int .u64 _]=>true
 | _=>false
noncomputable def env:Env:=⟨Tryz.prog,fun t=>if t=54 then some sd else if t=65 then some s7 else u7 t,jx,kj⟩
@[push_cast] theorem Qa:env.P=Tryz.prog:=rfl
@[push_cast] theorem Se:env.JK 54=some sd:=rfl
@[push_cast] theorem PZ:env.JK 65=some s7:=rfl
abbrev i64 (n:Int):Value:=.int .i64 n
abbrev u64 (n:Int):Value:=.int .u64 n
def a8.cells (s:a8):List Value:=[.int .u64 s.a,.int .u64 s.b,.int .u64 s.c,.int .u64 s.d]
def be.cells (s:be):List Value:=[.int .i64 s.nt,.int .u64 s.set.a,.int .u64 s.set.b,.int .u64 s.set.c,.int .u64 s.set.d]
def bT (h:ai) (v:Value) (n:Nat) (cells:List Value) (et:TypeId) (b:Nat):Prop:=
 n*b≤140737488355328∧(((v = .slice none 0 0∨v = .slice (some ⟨0,0,none⟩) 0 0)∧n=0∧cells=[])∨∃ id av own c,v = .slice (some ⟨id,0,some av⟩) n c∧h[id]? = some (.aq cells av own et))
section
variable {h h':ai} {v:Value} {n b:Nat} {cells:List Value} {et:TypeId}
theorem bT.at (hs:bT h v n cells et b) (hn:0<n):∃ id av own c,v = .slice (some ⟨id,0,some av⟩) n c∧h[id]? = some (.aq cells av own et):=by{
rcases hs.2 with ⟨_,h0,_⟩ | hs
·omega
·exact hs}
theorem bT.form (hs:bT h v n cells et b):∃ p c,v = .slice p n c:=by{
rcases hs.2 with ⟨rfl|rfl,rfl,_⟩ | ⟨_,_,_,c,rfl,_⟩
·exact⟨_,_,rfl⟩
·exact⟨_,_,rfl⟩
·exact⟨_,c,rfl⟩}
theorem af {α:Type} {l l':List α} (hp:l <+: l') {i:Nat} {x:α} (hx:l[i]? = some x):l'[i]? = some x:=by{
obtain⟨t,rfl⟩:=hp
have:i<l.length:=(List.getElem?_eq_some_iff.1 hx).1
rw[List.getElem?_append_left this]
exact hx}
theorem bT.mono (hs:bT h v n cells et b) (hp:h <+: h'):bT h' v n cells et b:=by{
refine⟨hs.1,?_⟩
rcases hs.2 with hs|⟨id,av,own,c,h1,h2⟩
·exact .inl hs
·exact .inr ⟨id,av,own,c,h1,af hp h2⟩}
end
def s9 (h:ai) (v:Value) (l:List Int):Prop:=bT h v l.length (l.map i64) 3 8
def rr (h:ai) (v:Value) (l:List Bool):Prop:=bT h v l.length (l.map .bool) 4 1
def Gl (h:ai) (v:Value) (l:List a8):Prop:=bT h v l.length (l.flatMap a8.cells) 54 32
def ll (h:ai) (v:Value) (l:List be):Prop:=bT h v l.length (l.flatMap be.cells) 65 40
def gI (h:ai) (v:Value) (l:List dG):Prop:=
 ∃ us:List Value,us.length=l.length∧bT h v l.length ((l.zip us).flatMap fun p=>[i64 p.1.lhs,p.2]) 63 32∧∀ (i:Nat) (r:dG) (u:Value),l[i]? = some r→us[i]? = some u→ll h u r.rhs
def zp (h:ai) (v:Value) (g:fu):Prop:=∃ u,v = .agg #[i64 g.fx,i64 g.start,u]∧gI h u g.rules
theorem bI {α:Type} {f:α→List Value} {k:Nat} (hf:∀ x,(f x).length=k):∀ (l:List α) (i:Nat) (x:α),l[i]? = some x→js (l.flatMap f) (i*k) k=some (f x)
 | [],i,x,h=>by simp at h
 | y :: l,0,x,h=>by
   simp only[List.getElem?_cons_zero,Option.some.injEq] at h
   subst h
   simp only[js,uD,List.flatMap_cons,Nat.zero_mul,Nat.zero_add,List.drop_zero,List.length_append,hf]
   rw[if_pos om,List.take_left' (hf y)]
 | y :: l,i+1,x,h=>by
   have ih:=bI hf l i x (by simpa using h)
   simp only[js,uD,List.flatMap_cons,List.length_append,hf] at ih ⊢
   rw[Nat.succ_mul]
   split at ih
   ·rename_i hle
    rw[if_pos om]
    rw[show i*k+k=(f y).length+i*k from by rw[hf];omega,List.drop_length_add_append]
    exact ih
   ·cases ih
theorem s9.get {h:ai} {v:Value} {l:List Int} {i:Nat} (hi:i<l.length):(l.map i64)[i]? = some (i64 l[i]):=by simp [hi]
theorem rr.get {l:List Bool} {i:Nat} (hi:i<l.length):(l.map Value.bool)[i]? = some (.bool l[i]):=by simp [hi]
theorem Fm {l:List be} {i:Nat} (hi:i<l.length):js (l.flatMap be.cells) (i*5) 5=some l[i].cells:=bI (f:=be.cells) (fun _=>rfl) l i l[i] (by simp [hi])
theorem Gh {l:List a8} {i:Nat} (hi:i<l.length):js (l.flatMap a8.cells) (i*4) 4=some l[i].cells:=bI (f:=a8.cells) (fun _=>rfl) l i l[i] (by simp [hi])
theorem C9 {l:List dG} {us:List Value} (hl:us.length=l.length) {i:Nat} (hi:i<l.length) :
 js ((l.zip us).flatMap fun p=>[i64 p.1.lhs,p.2]) (i*2) 2=some [i64 l[i].lhs,us[i]'(hl▸hi)]:=by
 refine bI (f:=fun p:dG×Value=>[i64 p.1.lhs,p.2]) (fun _=>rfl) (l.zip us) i (l[i],us[i]'(hl▸hi)) ?_
 simp [List.getElem?_zip_eq_some,hi,hl▸hi]
theorem gI.at {h:ai} {v:Value} {l:List dG} (hr:gI h v l) {i:Nat} (hi:i<l.length) : ∃ id av own c cells p n c',v = .slice (some ⟨id,0,some av⟩) l.length c∧h[id]? = some (.aq cells av own 63)∧n=l[i].rhs.length ∧ js cells (i*2) 2=some [i64 l[i].lhs,.slice p n c']∧ll h (.slice p n c') l[i].rhs:=by{
obtain⟨us,hl,hs,hu⟩:=hr
obtain⟨id,av,own,c,rfl,hid⟩:=hs.at om
have hi':i<us.length:=hl▸hi
have hS:=hu i l[i] us[i] (by simp [hi]) (by simp [hi'])
obtain⟨p,c',hp⟩:=hS.form
refine⟨id,av,own,c,_,p,l[i].rhs.length,c',rfl,hid,rfl,?_,?_⟩
·rw[← hp]
 exact C9 hl hi
·rw[← hp]
 exact hS}
theorem gI.form {h:ai} {v:Value} {l:List dG} (hr:gI h v l):∃ p c,v = .slice p l.length c:=by
 obtain⟨_,_,hs,_⟩:=hr
 exact hs.form
theorem gI.le {h:ai} {v:Value} {l:List dG} (hr:gI h v l):l.length≤140737488355328:=by{
obtain⟨_,_,hs,_⟩:=hr
have:=hs.1
omega}
theorem ll.le {h:ai} {v:Value} {l:List be} (hr:ll h v l):l.length≤140737488355328:=by
 have:=hr.1
 omega
theorem gI.mono {h h':ai} {v:Value} {l:List dG} (hr:gI h v l) (hp:h <+: h'):gI h' v l:=by
 obtain⟨us,hl,hs,hu⟩:=hr
 exact⟨us,hl,hs.mono hp,fun i r u h1 h2=>(hu i r u h1 h2).mono hp⟩
theorem zp.mono {h h':ai} {v:Value} {g:fu} (hr:zp h v g) (hp:h <+: h'):zp h' v g:=by
 obtain⟨u,rfl,hu⟩:=hr
 exact⟨u,rfl,hu.mono hp⟩
theorem ll.at {h:ai} {v:Value} {l:List be} (hr:ll h v l) {i:Nat} (hi:i<l.length) :
 ∃ id av own c cells,v = .slice (some ⟨id,0,some av⟩) l.length c∧h[id]? = some (.aq cells av own 65)∧js cells (i*5) 5=some [i64 l[i].nt,u64 l[i].set.a,u64 l[i].set.b,u64 l[i].set.c,u64 l[i].set.d]:=by
 obtain⟨id,av,own,c,rfl,hid⟩:=bT.at hr om
 exact⟨id,av,own,c,_,rfl,hid,Fm hi⟩
theorem s9.at {h:ai} {v:Value} {l:List Int} (hr:s9 h v l) {i:Nat} (hi:i<l.length) :
 ∃ id av own c cells,v = .slice (some ⟨id,0,some av⟩) l.length c∧h[id]? = some (.aq cells av own 3)∧cells[i]? = some (i64 l[i]):=by
 obtain⟨id,av,own,c,rfl,hid⟩:=bT.at hr om
 exact⟨id,av,own,c,_,rfl,hid,by simp [hi]⟩
theorem rr.at {h:ai} {v:Value} {l:List Bool} (hr:rr h v l) {i:Nat} (hi:i<l.length) :
 ∃ id av own c cells,v = .slice (some ⟨id,0,some av⟩) l.length c∧h[id]? = some (.aq cells av own 4)∧cells[i]? = some (.bool l[i]):=by
 obtain⟨id,av,own,c,rfl,hid⟩:=bT.at hr om
 exact⟨id,av,own,c,_,rfl,hid,by simp [hi]⟩
theorem Gl.at {h:ai} {v:Value} {l:List a8} (hr:Gl h v l) {i:Nat} (hi:i<l.length) :
 ∃ id av own c cells,v = .slice (some ⟨id,0,some av⟩) l.length c∧h[id]? = some (.aq cells av own 54)∧js cells (i*4) 4=some [u64 l[i].a,u64 l[i].b,u64 l[i].c,u64 l[i].d]:=by
 obtain⟨id,av,own,c,rfl,hid⟩:=bT.at hr om
 exact⟨id,av,own,c,_,rfl,hid,Gh hi⟩
def TH (n k:Nat) (F:Nat→Fr) (H:Nat→ai) (I:Nat→Prop) (Q:AX→St→Prop):AX→St→Prop
 | .normal,s=>k<n∧bD (F (k+1)) s.fr∧s.h=H (k+1)∧I (k+1)
 | e,s=>Q e s
theorem dC {N:Env} {c:Code} {s:St} {Q:AX→St→Prop} (n:Nat) (F:Nat→Fr) (H:Nat→ai) (I:Nat→Prop) (h0:bD (F 0) s.fr) (hh:s.h=H 0) (hI:I 0) (hs:∀ k,k≤n→I k→CW N c ⟨F k,[],H k⟩ (TH n k F H I Q)):CW N (.loop c) s Q:=by{
refine rm (fun m s=>∃ k,m=n-k∧k≤n∧bD (F k) s.fr∧s.h=H k∧I k) n ⟨0,rfl,Nat.zero_le _,h0,hh,hI⟩ ?_
rintro m s ⟨k,rfl,hk,hf,hh,hI⟩
refine aA _ hf ?_
rw[hh]
refine (hs k hk hI).mono fun e s' hq=>?_
cases e with
| normal=>
  obtain⟨h1,h2,h3,h4⟩:=hq
  exact⟨n-(k+1),by omega,k+1,rfl,by omega,h2,h3,h4⟩
| exit id=>exact hq
| ret=>exact hq}
theorem aU {k n:Nat} (h:k<n):decide ((k:Int)<(n:Int))=true:=by simp [h]
theorem aT {k n:Nat} (h:¬ k<n):decide ((k:Int)<(n:Int))=false:=by simp;omega
theorem cz {k n:Nat} (h:k<n):(0≤(k:Int)∧(k:Int)<(n:Int))=True:=by simp;omega
theorem inc {k:Nat} {n:Nat} (h:k<n) (hn:n≤140737488355328):IntKind.i64.wrap ((k:Int)+1)=(k:Int)+1:=ay om om
end Go.Proofs.YtmdmimkbpikmoaaGreat
