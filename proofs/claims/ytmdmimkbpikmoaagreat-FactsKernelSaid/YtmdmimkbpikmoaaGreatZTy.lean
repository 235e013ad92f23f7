/- Several texts, one behind the other. -/
import Derived.Test.YtmdmimkbpikmoaaGreatZAm9
import Derived.Test.YtmdmimkbpikmoaaGreatProg
import Derived.KernelRfl
import Derived.Deep.Slices
import Derived.ProofKit
import Derived.OpenShut
import GoSem.ClaimJoined
import Derived.DeepKeys
import Derived.WideKeyRuns
import Derived.MapKept
set_option linter.unusedSimpArgs false
set_option linter.unusedVariables false
set_option maxHeartbeats 8000000
namespace Go.Proofs.YtmdmimkbpikmoaaGreat
theorem om {P:Prop} (h:P:=by omega):P:=h
theorem kr {P:Prop} (h:P:=by kernel_rfl):P:=h
end Go.Proofs.YtmdmimkbpikmoaaGreat
namespace Go.Proofs.YtmdmimkbpikmoaaGreat.Ty
open Go.RowKit Go.Proofs.YtmdmimkbpikmoaaGreat.Am
theorem V4:aq Tryz.prog 1=some ⟨false,1,8,some (.nilFunc)⟩:=kr
theorem V7:aq Tryz.prog 2=some ⟨false,1,8,some (.int .i64 0)⟩:=kr
theorem NY:aq Tryz.prog 3=some ⟨false,1,8,some (.int .i64 0)⟩:=kr
theorem VI:aq Tryz.prog 4=some ⟨false,1,1,some (.bool false)⟩:=kr
theorem OS:aq Tryz.prog 5=some ⟨false,1,1,some (.int .u8 0)⟩:=kr
theorem HB:aq Tryz.prog 9=some ⟨false,1,16,some (.string ⟨#[]⟩)⟩:=kr
theorem Uu:aq Tryz.prog 12=some ⟨false,1,8,some (.int .u64 0)⟩:=kr
theorem T2:aq Tryz.prog 20=some ⟨false,1,16,some (.nilIface)⟩:=kr
theorem UW:aq Tryz.prog 21=some ⟨false,1,4,some (.int .i32 0)⟩:=kr
theorem TZ:aq Tryz.prog 22=some ⟨false,1,24,some (.slice none 0 0)⟩:=kr
theorem Uh:aq Tryz.prog 23=some ⟨false,1,24,some (.slice none 0 0)⟩:=kr
theorem Ux:aq Tryz.prog 24=some ⟨false,1,24,some (.slice none 0 0)⟩:=kr
theorem TW:aq Tryz.prog 25=some ⟨false,1,24,some (.slice none 0 0)⟩:=kr
theorem Uf:aq Tryz.prog 26=some ⟨false,1,24,some (.slice none 0 0)⟩:=kr
theorem Uc:aq Tryz.prog 27=some ⟨true,7,152,some (.agg #[.string ⟨#[]⟩,.string ⟨#[]⟩,.slice none 0 0,.slice none 0 0,.slice none 0 0,.slice none 0 0,.slice none 0 0])⟩:=kr
theorem Mg:an Tryz.prog 27 0=some (0,9):=kr
theorem LC:an Tryz.prog 27 1=some (1,9):=kr
theorem Lw:an Tryz.prog 27 2=some (2,22):=kr
theorem OC:an Tryz.prog 27 3=some (3,23):=kr
theorem Ly:an Tryz.prog 27 4=some (4,24):=kr
theorem Nf:an Tryz.prog 27 5=some (5,25):=kr
theorem Oj:an Tryz.prog 27 6=some (6,26):=kr
theorem Uy:placesOf Tryz.prog 27=some [(0,1),(1,1),(2,1),(3,1),(4,1),(5,1),(6,1)]:=kr
theorem Uj:aq Tryz.prog 28=some ⟨true,7,152,some (.agg #[.string ⟨#[]⟩,.string ⟨#[]⟩,.slice none 0 0,.slice none 0 0,.slice none 0 0,.slice none 0 0,.slice none 0 0])⟩:=kr
theorem Mr:an Tryz.prog 28 0=some (0,9):=kr
theorem Oc:an Tryz.prog 28 1=some (1,9):=kr
theorem L8:an Tryz.prog 28 2=some (2,22):=kr
theorem Oe:an Tryz.prog 28 3=some (3,23):=kr
theorem N9:an Tryz.prog 28 4=some (4,24):=kr
theorem MF:an Tryz.prog 28 5=some (5,25):=kr
theorem Lt:an Tryz.prog 28 6=some (6,26):=kr
theorem TR:placesOf Tryz.prog 28=some [(0,1),(1,1),(2,1),(3,1),(4,1),(5,1),(6,1)]:=kr
theorem U8:aq Tryz.prog 29=some ⟨false,1,8,some (.nilFunc)⟩:=kr
theorem TB:aq Tryz.prog 30=some ⟨false,1,8,some (.nilFunc)⟩:=kr
theorem UD:aq Tryz.prog 31=some ⟨false,1,8,some (.nilFunc)⟩:=kr
theorem UI:aq Tryz.prog 32=some ⟨false,1,24,some (.slice none 0 0)⟩:=kr
theorem TQ:aq Tryz.prog 33=some ⟨true,3,40,some (.agg #[.int .i64 0,.int .i64 0,.slice none 0 0])⟩:=kr
theorem LN:an Tryz.prog 33 0=some (0,3):=kr
theorem L9:an Tryz.prog 33 1=some (1,3):=kr
theorem Ln:an Tryz.prog 33 2=some (2,32):=kr
theorem Vm:placesOf Tryz.prog 33=some [(0,1),(1,1),(2,1)]:=kr
theorem T5:aq Tryz.prog 34=some ⟨true,3,40,some (.agg #[.int .i64 0,.int .i64 0,.slice none 0 0])⟩:=kr
theorem Lf:an Tryz.prog 34 0=some (0,3):=kr
theorem Nt:an Tryz.prog 34 1=some (1,3):=kr
theorem Of:an Tryz.prog 34 2=some (2,32):=kr
theorem UQ:placesOf Tryz.prog 34=some [(0,1),(1,1),(2,1)]:=kr
theorem Va:aq Tryz.prog 35=some ⟨false,1,24,some (.slice none 0 0)⟩:=kr
theorem TY:aq Tryz.prog 36=some ⟨false,1,24,some (.slice none 0 0)⟩:=kr
theorem Vr:aq Tryz.prog 37=some ⟨false,1,24,some (.slice none 0 0)⟩:=kr
theorem UM:aq Tryz.prog 38=some ⟨false,1,24,some (.slice none 0 0)⟩:=kr
theorem Q1:aq Tryz.prog 39=some ⟨false,1,24,some (.slice none 0 0)⟩:=kr
theorem TV:aq Tryz.prog 40=some ⟨true,3,72,some (.agg #[.slice none 0 0,.slice none 0 0,.slice none 0 0])⟩:=kr
theorem LA:an Tryz.prog 40 0=some (0,37):=kr
theorem NK:an Tryz.prog 40 1=some (1,38):=kr
theorem Le:an Tryz.prog 40 2=some (2,39):=kr
theorem TH:placesOf Tryz.prog 40=some [(0,1),(1,1),(2,1)]:=kr
theorem UL:aq Tryz.prog 41=some ⟨true,3,72,some (.agg #[.slice none 0 0,.slice none 0 0,.slice none 0 0])⟩:=kr
theorem MI:an Tryz.prog 41 0=some (0,37):=kr
theorem Lv:an Tryz.prog 41 1=some (1,38):=kr
theorem MP:an Tryz.prog 41 2=some (2,39):=kr
theorem U6:placesOf Tryz.prog 41=some [(0,1),(1,1),(2,1)]:=kr
theorem Vq:aq Tryz.prog 42=some ⟨true,15,312,some (.agg #[.string ⟨#[]⟩,.string ⟨#[]⟩,.slice none 0 0,.slice none 0 0,.slice none 0 0,.slice none 0 0,.slice none 0 0,.int .i64 0,.int .i64 0,.slice none 0 0,.slice none 0 0,.slice none 0 0,.slice none 0 0,.slice none 0 0,.slice none 0 0])⟩:=kr
theorem NQ:an Tryz.prog 42 0=some (0,28):=kr
theorem NH:an Tryz.prog 42 1=some (7,34):=kr
theorem LD:an Tryz.prog 42 2=some (10,35):=kr
theorem MC:an Tryz.prog 42 3=some (11,36):=kr
theorem NR:an Tryz.prog 42 4=some (12,41):=kr
theorem UF:placesOf Tryz.prog 42=some [(0,7),(7,3),(10,1),(11,1),(12,3)]:=kr
theorem UC:aq Tryz.prog 43=some ⟨true,15,312,some (.agg #[.string ⟨#[]⟩,.string ⟨#[]⟩,.slice none 0 0,.slice none 0 0,.slice none 0 0,.slice none 0 0,.slice none 0 0,.int .i64 0,.int .i64 0,.slice none 0 0,.slice none 0 0,.slice none 0 0,.slice none 0 0,.slice none 0 0,.slice none 0 0])⟩:=kr
theorem Nq:an Tryz.prog 43 0=some (0,28):=kr
theorem Mj:an Tryz.prog 43 1=some (7,34):=kr
theorem L6:an Tryz.prog 43 2=some (10,35):=kr
theorem LX:an Tryz.prog 43 3=some (11,36):=kr
theorem N0:an Tryz.prog 43 4=some (12,41):=kr
theorem US:placesOf Tryz.prog 43=some [(0,7),(7,3),(10,1),(11,1),(12,3)]:=kr
theorem Uq:aq Tryz.prog 44=some ⟨false,1,8,some (.int .i64 0)⟩:=kr
theorem Vk:aq Tryz.prog 46=some ⟨false,1,8,some (.nilFunc)⟩:=kr
theorem Vf:aq Tryz.prog 47=some ⟨false,1,8,some (.nilFunc)⟩:=kr
theorem TO:aq Tryz.prog 48=some ⟨false,1,8,some (.nilFunc)⟩:=kr
theorem Ug:aq Tryz.prog 49=some ⟨false,1,24,some (.slice none 0 0)⟩:=kr
theorem Vj:aq Tryz.prog 50=some ⟨true,5,72,some (.agg #[.bool false,.string ⟨#[]⟩,.string ⟨#[]⟩,.bool false,.slice none 0 0])⟩:=kr
theorem Lq:an Tryz.prog 50 0=some (0,4):=kr
theorem MH:an Tryz.prog 50 1=some (1,9):=kr
theorem LO:an Tryz.prog 50 2=some (2,9):=kr
theorem OA:an Tryz.prog 50 3=some (3,4):=kr
theorem NN:an Tryz.prog 50 4=some (4,49):=kr
theorem U5:placesOf Tryz.prog 50=some [(0,1),(1,1),(2,1),(3,1),(4,1)]:=kr
theorem SO:aq Tryz.prog 51=some ⟨true,5,72,some (.agg #[.bool false,.string ⟨#[]⟩,.string ⟨#[]⟩,.bool false,.slice none 0 0])⟩:=kr
theorem LF:an Tryz.prog 51 0=some (0,4):=kr
theorem Ng:an Tryz.prog 51 1=some (1,9):=kr
theorem NE:an Tryz.prog 51 2=some (2,9):=kr
theorem L7:an Tryz.prog 51 3=some (3,4):=kr
theorem L5:an Tryz.prog 51 4=some (4,49):=kr
theorem UH:placesOf Tryz.prog 51=some [(0,1),(1,1),(2,1),(3,1),(4,1)]:=kr
theorem TJ:aq Tryz.prog 52=some ⟨false,1,8,some (.int .u64 0)⟩:=kr
theorem T3:aq Tryz.prog 53=some ⟨true,4,32,some (.agg #[.int .u64 0,.int .u64 0,.int .u64 0,.int .u64 0])⟩:=kr
theorem Rb:aq Tryz.prog 54=some ⟨true,4,32,some (.agg #[.int .u64 0,.int .u64 0,.int .u64 0,.int .u64 0])⟩:=kr
theorem T0:aq Tryz.prog 55=some ⟨true,8,88,some (.agg #[.int .i64 0,.string ⟨#[]⟩,.int .u64 0,.int .u64 0,.int .u64 0,.int .u64 0,.string ⟨#[]⟩,.string ⟨#[]⟩])⟩:=kr
theorem Ol:an Tryz.prog 55 0=some (0,3):=kr
theorem Ml:an Tryz.prog 55 1=some (1,9):=kr
theorem Nn:an Tryz.prog 55 2=some (2,54):=kr
theorem LU:an Tryz.prog 55 3=some (6,9):=kr
theorem Nz:an Tryz.prog 55 4=some (7,9):=kr
theorem TD:placesOf Tryz.prog 55=some [(0,1),(1,1),(2,4),(6,1),(7,1)]:=kr
theorem Jd:aq Tryz.prog 56=some ⟨true,8,88,some (.agg #[.int .i64 0,.string ⟨#[]⟩,.int .u64 0,.int .u64 0,.int .u64 0,.int .u64 0,.string ⟨#[]⟩,.string ⟨#[]⟩])⟩:=kr
theorem LV:an Tryz.prog 56 0=some (0,3):=kr
theorem ME:an Tryz.prog 56 1=some (1,9):=kr
theorem M7:an Tryz.prog 56 2=some (2,54):=kr
theorem MU:an Tryz.prog 56 3=some (6,9):=kr
theorem Mz:an Tryz.prog 56 4=some (7,9):=kr
theorem Uk:placesOf Tryz.prog 56=some [(0,1),(1,1),(2,4),(6,1),(7,1)]:=kr
theorem U2:aq Tryz.prog 57=some ⟨false,1,8,some (.nilFunc)⟩:=kr
theorem TK:aq Tryz.prog 58=some ⟨false,1,8,some (.nilFunc)⟩:=kr
theorem T8:aq Tryz.prog 59=some ⟨false,1,8,some (.nilFunc)⟩:=kr
theorem TT:aq Tryz.prog 60=some ⟨false,1,8,some (.nilFunc)⟩:=kr
theorem TC:aq Tryz.prog 61=some ⟨false,1,24,some (.slice none 0 0)⟩:=kr
theorem Ud:aq Tryz.prog 62=some ⟨true,2,32,some (.agg #[.int .i64 0,.slice none 0 0])⟩:=kr
theorem LK:an Tryz.prog 62 0=some (0,3):=kr
theorem Nw:an Tryz.prog 62 1=some (1,61):=kr
theorem U0:placesOf Tryz.prog 62=some [(0,1),(1,1)]:=kr
theorem RN:aq Tryz.prog 63=some ⟨true,2,32,some (.agg #[.int .i64 0,.slice none 0 0])⟩:=kr
theorem NC:an Tryz.prog 63 0=some (0,3):=kr
theorem NV:an Tryz.prog 63 1=some (1,61):=kr
theorem TN:placesOf Tryz.prog 63=some [(0,1),(1,1)]:=kr
theorem UE:aq Tryz.prog 64=some ⟨true,5,40,some (.agg #[.int .i64 0,.int .u64 0,.int .u64 0,.int .u64 0,.int .u64 0])⟩:=kr
theorem MT:an Tryz.prog 64 0=some (0,3):=kr
theorem MD:an Tryz.prog 64 1=some (1,54):=kr
theorem TG:placesOf Tryz.prog 64=some [(0,1),(1,4)]:=kr
theorem zp:aq Tryz.prog 65=some ⟨true,5,40,some (.agg #[.int .i64 0,.int .u64 0,.int .u64 0,.int .u64 0,.int .u64 0])⟩:=kr
theorem MM:an Tryz.prog 65 0=some (0,3):=kr
theorem Ow:an Tryz.prog 65 1=some (1,54):=kr
theorem Us:placesOf Tryz.prog 65=some [(0,1),(1,4)]:=kr
theorem Vt:aq Tryz.prog 66=some ⟨true,4,48,some (.agg #[.int .i64 0,.int .i64 0,.int .i64 0,.slice none 0 0])⟩:=kr
theorem Me:an Tryz.prog 66 0=some (0,3):=kr
theorem NZ:an Tryz.prog 66 1=some (1,3):=kr
theorem Li:an Tryz.prog 66 2=some (2,3):=kr
theorem Mf:an Tryz.prog 66 3=some (3,39):=kr
theorem Vz:placesOf Tryz.prog 66=some [(0,1),(1,1),(2,1),(3,1)]:=kr
theorem QC:aq Tryz.prog 67=some ⟨true,4,48,some (.agg #[.int .i64 0,.int .i64 0,.int .i64 0,.slice none 0 0])⟩:=kr
theorem Mi:an Tryz.prog 67 0=some (0,3):=kr
theorem MQ:an Tryz.prog 67 1=some (1,3):=kr
theorem M4:an Tryz.prog 67 2=some (2,3):=kr
theorem Ma:an Tryz.prog 67 3=some (3,39):=kr
theorem Vw:placesOf Tryz.prog 67=some [(0,1),(1,1),(2,1),(3,1)]:=kr
theorem Un:aq Tryz.prog 68=some ⟨false,1,8,some (.nilFunc)⟩:=kr
theorem Vg:aq Tryz.prog 69=some ⟨true,3,24,some (.agg #[.int .i64 0,.int .i64 0,.int .i64 0])⟩:=kr
theorem Nd:an Tryz.prog 69 0=some (0,3):=kr
theorem Ox:an Tryz.prog 69 1=some (1,3):=kr
theorem Mx:an Tryz.prog 69 2=some (2,3):=kr
theorem T6:placesOf Tryz.prog 69=some [(0,1),(1,1),(2,1)]:=kr
theorem Lu:aq Tryz.prog 70=some ⟨true,3,24,some (.agg #[.int .i64 0,.int .i64 0,.int .i64 0])⟩:=kr
theorem LQ:an Tryz.prog 70 0=some (0,3):=kr
theorem Nv:an Tryz.prog 70 1=some (1,3):=kr
theorem Lg:an Tryz.prog 70 2=some (2,3):=kr
theorem UX:placesOf Tryz.prog 70=some [(0,1),(1,1),(2,1)]:=kr
theorem TF:aq Tryz.prog 71=some ⟨false,1,8,some (.nilFunc)⟩:=kr
theorem Uv:aq Tryz.prog 72=some ⟨false,1,8,some (.nilFunc)⟩:=kr
theorem UA:aq Tryz.prog 73=some ⟨false,1,8,some (.nilFunc)⟩:=kr
theorem UT:aq Tryz.prog 74=some ⟨false,1,24,some (.slice none 0 0)⟩:=kr
theorem Vc:aq Tryz.prog 76=some ⟨false,1,8,some (.nilFunc)⟩:=kr
theorem U3:aq Tryz.prog 78=some ⟨false,1,8,some (.nilFunc)⟩:=kr
theorem TE:aq Tryz.prog 79=some ⟨false,1,8,some (.nilFunc)⟩:=kr
theorem Qy:aq Tryz.prog 80=some ⟨false,1,24,some (.slice none 0 0)⟩:=kr
theorem Vp:aq Tryz.prog 81=some ⟨true,2,32,some (.agg #[.int .i64 0,.slice none 0 0])⟩:=kr
theorem Nk:an Tryz.prog 81 0=some (0,3):=kr
theorem LM:an Tryz.prog 81 1=some (1,36):=kr
theorem Ve:placesOf Tryz.prog 81=some [(0,1),(1,1)]:=kr
theorem RD:aq Tryz.prog 82=some ⟨true,2,32,some (.agg #[.int .i64 0,.slice none 0 0])⟩:=kr
theorem Mm:an Tryz.prog 82 0=some (0,3):=kr
theorem LJ:an Tryz.prog 82 1=some (1,36):=kr
theorem Vd:placesOf Tryz.prog 82=some [(0,1),(1,1)]:=kr
theorem Ul:aq Tryz.prog 83=some ⟨false,1,24,some (.slice none 0 0)⟩:=kr
theorem Ur:aq Tryz.prog 84=some ⟨true,2,40,some (.agg #[.string ⟨#[]⟩,.slice none 0 0])⟩:=kr
theorem NI:an Tryz.prog 84 0=some (0,9):=kr
theorem MX:an Tryz.prog 84 1=some (1,83):=kr
theorem T9:placesOf Tryz.prog 84=some [(0,1),(1,1)]:=kr
theorem PS:aq Tryz.prog 85=some ⟨true,2,40,some (.agg #[.string ⟨#[]⟩,.slice none 0 0])⟩:=kr
theorem Lk:an Tryz.prog 85 0=some (0,9):=kr
theorem MG:an Tryz.prog 85 1=some (1,83):=kr
theorem T4:placesOf Tryz.prog 85=some [(0,1),(1,1)]:=kr
theorem Vy:aq Tryz.prog 86=some ⟨false,1,8,some (.nilFunc)⟩:=kr
theorem UK:aq Tryz.prog 88=some ⟨false,1,8,some (.nilFunc)⟩:=kr
theorem U1:aq Tryz.prog 89=some ⟨false,1,8,some (.pointer none)⟩:=kr
theorem Ub:aq Tryz.prog 90=some ⟨false,1,8,some (.map none)⟩:=kr
theorem Ua:aq Tryz.prog 91=some ⟨false,1,8,some (.map none)⟩:=kr
theorem Vb:aq Tryz.prog 92=some ⟨false,1,24,some (.slice none 0 0)⟩:=kr
theorem TM:aq Tryz.prog 93=some ⟨true,19,360,some (.agg #[.string ⟨#[]⟩,.string ⟨#[]⟩,.slice none 0 0,.slice none 0 0,.slice none 0 0,.slice none 0 0,.slice none 0 0,.int .i64 0,.int .i64 0,.slice none 0 0,.slice none 0 0,.slice none 0 0,.slice none 0 0,.slice none 0 0,.slice none 0 0,.map none,.map none,.slice none 0 0,.int .i64 0])⟩:=kr
theorem LP:an Tryz.prog 93 0=some (0,43):=kr
theorem MY:an Tryz.prog 93 1=some (15,90):=kr
theorem Oq:an Tryz.prog 93 2=some (16,91):=kr
theorem Mb:an Tryz.prog 93 3=some (17,92):=kr
theorem Mw:an Tryz.prog 93 4=some (18,3):=kr
theorem U7:placesOf Tryz.prog 93=some [(0,15),(15,1),(16,1),(17,1),(18,1)]:=kr
theorem T7:aq Tryz.prog 94=some ⟨true,19,360,some (.agg #[.string ⟨#[]⟩,.string ⟨#[]⟩,.slice none 0 0,.slice none 0 0,.slice none 0 0,.slice none 0 0,.slice none 0 0,.int .i64 0,.int .i64 0,.slice none 0 0,.slice none 0 0,.slice none 0 0,.slice none 0 0,.slice none 0 0,.slice none 0 0,.map none,.map none,.slice none 0 0,.int .i64 0])⟩:=kr
theorem Ms:an Tryz.prog 94 0=some (0,43):=kr
theorem NA:an Tryz.prog 94 1=some (15,90):=kr
theorem Oo:an Tryz.prog 94 2=some (16,91):=kr
theorem Oh:an Tryz.prog 94 3=some (17,92):=kr
theorem Mq:an Tryz.prog 94 4=some (18,3):=kr
theorem TU:placesOf Tryz.prog 94=some [(0,15),(15,1),(16,1),(17,1),(18,1)]:=kr
theorem Up:aq Tryz.prog 95=some ⟨false,1,8,some (.pointer none)⟩:=kr
theorem U4:aq Tryz.prog 96=some ⟨false,1,8,some (.nilFunc)⟩:=kr
theorem TA:aq Tryz.prog 97=some ⟨false,1,24,some (.slice none 0 0)⟩:=kr
theorem UY:aq Tryz.prog 98=some ⟨false,1,8,some (.nilFunc)⟩:=kr
theorem Ue:aq Tryz.prog 99=some ⟨true,10,208,some (.agg #[.string ⟨#[]⟩,.string ⟨#[]⟩,.slice none 0 0,.slice none 0 0,.slice none 0 0,.slice none 0 0,.slice none 0 0,.slice none 0 0,.slice none 0 0,.int .i64 0])⟩:=kr
theorem Mk:an Tryz.prog 99 0=some (0,28):=kr
theorem Nr:an Tryz.prog 99 1=some (7,36):=kr
theorem LG:an Tryz.prog 99 2=some (8,97):=kr
theorem Nb:an Tryz.prog 99 3=some (9,3):=kr
theorem UO:placesOf Tryz.prog 99=some [(0,7),(7,1),(8,1),(9,1)]:=kr
theorem Tk:aq Tryz.prog 100=some ⟨true,10,208,some (.agg #[.string ⟨#[]⟩,.string ⟨#[]⟩,.slice none 0 0,.slice none 0 0,.slice none 0 0,.slice none 0 0,.slice none 0 0,.slice none 0 0,.slice none 0 0,.int .i64 0])⟩:=kr
theorem IB:an Tryz.prog 100 0=some (0,28):=kr
theorem H5:an Tryz.prog 100 1=some (7,36):=kr
theorem HP:an Tryz.prog 100 2=some (8,97):=kr
theorem JO:an Tryz.prog 100 3=some (9,3):=kr
theorem Pd:placesOf Tryz.prog 100=some [(0,7),(7,1),(8,1),(9,1)]:=kr
theorem RX:aq Tryz.prog 101=some ⟨false,1,8,some (.nilFunc)⟩:=kr
theorem Ri:aq Tryz.prog 102=some ⟨true,7,72,some (.agg #[.bool false,.string ⟨#[]⟩,.int .u64 0,.int .u64 0,.int .u64 0,.int .u64 0,.string ⟨#[]⟩])⟩:=kr
theorem Jt:an Tryz.prog 102 0=some (0,4):=kr
theorem Ka:an Tryz.prog 102 1=some (1,9):=kr
theorem Kn:an Tryz.prog 102 2=some (2,54):=kr
theorem IX:an Tryz.prog 102 3=some (6,9):=kr
theorem PO:placesOf Tryz.prog 102=some [(0,1),(1,1),(2,4),(6,1)]:=kr
theorem RY:aq Tryz.prog 103=some ⟨true,7,72,some (.agg #[.bool false,.string ⟨#[]⟩,.int .u64 0,.int .u64 0,.int .u64 0,.int .u64 0,.string ⟨#[]⟩])⟩:=kr
theorem Iu:an Tryz.prog 103 0=some (0,4):=kr
theorem Ih:an Tryz.prog 103 1=some (1,9):=kr
theorem Ib:an Tryz.prog 103 2=some (2,54):=kr
theorem ID:an Tryz.prog 103 3=some (6,9):=kr
theorem Q7:placesOf Tryz.prog 103=some [(0,1),(1,1),(2,4),(6,1)]:=kr
theorem O6:aq Tryz.prog 104=some ⟨false,1,8,some (.nilFunc)⟩:=kr
theorem SX:aq Tryz.prog 105=some ⟨false,1,8,some (.pointer none)⟩:=kr
theorem RR:aq Tryz.prog 106=some ⟨false,1,8,some (.nilFunc)⟩:=kr
theorem O9:aq Tryz.prog 107=some ⟨false,1,8,some (.nilFunc)⟩:=kr
theorem Rr:aq Tryz.prog 108=some ⟨false,1,8,some (.nilFunc)⟩:=kr
theorem Te:aq Tryz.prog 109=some ⟨false,1,8,some (.nilFunc)⟩:=kr
theorem RK:aq Tryz.prog 110=some ⟨false,1,8,some (.nilFunc)⟩:=kr
theorem Qx:aq Tryz.prog 111=some ⟨true,5,48,some (.agg #[.string ⟨#[]⟩,.int .u64 0,.int .u64 0,.int .u64 0,.int .u64 0])⟩:=kr
theorem JA:an Tryz.prog 111 0=some (0,9):=kr
theorem Kk:an Tryz.prog 111 1=some (1,54):=kr
theorem Rg:placesOf Tryz.prog 111=some [(0,1),(1,4)]:=kr
theorem Kx:aq Tryz.prog 112=some ⟨true,5,48,some (.agg #[.string ⟨#[]⟩,.int .u64 0,.int .u64 0,.int .u64 0,.int .u64 0])⟩:=kr
theorem I0:an Tryz.prog 112 0=some (0,9):=kr
theorem If:an Tryz.prog 112 1=some (1,54):=kr
theorem Pp:placesOf Tryz.prog 112=some [(0,1),(1,4)]:=kr
theorem S7:aq Tryz.prog 113=some ⟨true,2,32,some (.agg #[.string ⟨#[]⟩,.string ⟨#[]⟩])⟩:=kr
theorem I5:an Tryz.prog 113 0=some (0,9):=kr
theorem Ks:an Tryz.prog 113 1=some (1,9):=kr
theorem Sq:placesOf Tryz.prog 113=some [(0,1),(1,1)]:=kr
theorem Kz:aq Tryz.prog 114=some ⟨true,2,32,some (.agg #[.string ⟨#[]⟩,.string ⟨#[]⟩])⟩:=kr
theorem IE:an Tryz.prog 114 0=some (0,9):=kr
theorem JV:an Tryz.prog 114 1=some (1,9):=kr
theorem Ru:placesOf Tryz.prog 114=some [(0,1),(1,1)]:=kr
theorem Qv:aq Tryz.prog 115=some ⟨false,1,8,some (.nilFunc)⟩:=kr
theorem PX:aq Tryz.prog 116=some ⟨false,1,8,some (.nilFunc)⟩:=kr
theorem Sc:aq Tryz.prog 117=some ⟨false,1,8,some (.nilFunc)⟩:=kr
theorem QS:aq Tryz.prog 118=some ⟨false,1,8,some (.nilFunc)⟩:=kr
theorem Pn:aq Tryz.prog 119=some ⟨false,1,8,some (.nilFunc)⟩:=kr
theorem Pz:aq Tryz.prog 120=some ⟨false,1,8,some (.nilFunc)⟩:=kr
theorem P9:aq Tryz.prog 121=some ⟨false,1,8,some (.nilFunc)⟩:=kr
theorem QU:aq Tryz.prog 122=some ⟨false,1,8,some (.nilFunc)⟩:=kr
theorem Rj:aq Tryz.prog 124=some ⟨false,1,8,some (.nilFunc)⟩:=kr
theorem Qf:aq Tryz.prog 125=some ⟨false,1,8,some (.nilFunc)⟩:=kr
theorem RL:aq Tryz.prog 127=some ⟨false,1,8,some (.nilFunc)⟩:=kr
theorem PC:aq Tryz.prog 128=some ⟨false,1,8,some (.nilFunc)⟩:=kr
theorem Sf:aq Tryz.prog 129=some ⟨false,1,8,some (.nilFunc)⟩:=kr
theorem Sl:aq Tryz.prog 130=some ⟨false,1,8,some (.nilFunc)⟩:=kr
theorem Sk:aq Tryz.prog 131=some ⟨false,1,8,some (.nilFunc)⟩:=kr
theorem QL:aq Tryz.prog 132=some ⟨false,1,24,some (.slice none 0 0)⟩:=kr
theorem QQ:aq Tryz.prog 133=some ⟨false,1,8,some (.nilFunc)⟩:=kr
theorem QN:aq Tryz.prog 134=some ⟨false,1,8,some (.nilFunc)⟩:=kr
theorem QM:aq Tryz.prog 135=some ⟨true,4,56,some (.agg #[.int .i64 0,.string ⟨#[]⟩,.int .i64 0,.slice none 0 0])⟩:=kr
theorem H3:an Tryz.prog 135 0=some (0,3):=kr
theorem IA:an Tryz.prog 135 1=some (1,9):=kr
theorem JF:an Tryz.prog 135 2=some (2,3):=kr
theorem Jr:an Tryz.prog 135 3=some (3,83):=kr
theorem Qe:placesOf Tryz.prog 135=some [(0,1),(1,1),(2,1),(3,1)]:=kr
theorem KT:aq Tryz.prog 136=some ⟨true,4,56,some (.agg #[.int .i64 0,.string ⟨#[]⟩,.int .i64 0,.slice none 0 0])⟩:=kr
theorem HT:an Tryz.prog 136 0=some (0,3):=kr
theorem Iw:an Tryz.prog 136 1=some (1,9):=kr
theorem JL:an Tryz.prog 136 2=some (2,3):=kr
theorem JP:an Tryz.prog 136 3=some (3,83):=kr
theorem Rt:placesOf Tryz.prog 136=some [(0,1),(1,1),(2,1),(3,1)]:=kr
theorem Rx:aq Tryz.prog 137=some ⟨false,1,8,some (.pointer none)⟩:=kr
theorem SC:aq Tryz.prog 138=some ⟨false,1,8,some (.nilFunc)⟩:=kr
theorem OZ:aq Tryz.prog 139=some ⟨false,1,8,some (.nilFunc)⟩:=kr
theorem Pt:aq Tryz.prog 140=some ⟨false,1,8,some (.nilFunc)⟩:=kr
theorem Sg:aq Tryz.prog 141=some ⟨false,1,8,some (.nilFunc)⟩:=kr
theorem Qm:aq Tryz.prog 142=some ⟨false,1,8,some (.nilFunc)⟩:=kr
theorem RU:aq Tryz.prog 143=some ⟨false,1,24,some (.slice none 0 0)⟩:=kr
theorem Q9:aq Tryz.prog 144=some ⟨false,1,8,some (.nilFunc)⟩:=kr
theorem PL:aq Tryz.prog 145=some ⟨false,1,8,some (.nilFunc)⟩:=kr
theorem Qo:aq Tryz.prog 146=some ⟨false,1,8,some (.nilFunc)⟩:=kr
theorem PQ:aq Tryz.prog 147=some ⟨false,1,8,some (.nilFunc)⟩:=kr
theorem Rw:aq Tryz.prog 148=some ⟨false,1,8,some (.nilFunc)⟩:=kr
theorem Sv:aq Tryz.prog 149=some ⟨false,1,8,some (.nilFunc)⟩:=kr
theorem QK:aq Tryz.prog 150=some ⟨false,1,8,some (.nilFunc)⟩:=kr
theorem QJ:aq Tryz.prog 151=some ⟨false,1,8,some (.nilFunc)⟩:=kr
theorem O3:aq Tryz.prog 152=some ⟨false,1,8,some (.nilFunc)⟩:=kr
theorem Si:aq Tryz.prog 153=some ⟨true,7,72,some (.agg #[.bool false,.string ⟨#[]⟩,.int .u64 0,.int .u64 0,.int .u64 0,.int .u64 0,.string ⟨#[]⟩])⟩:=kr
theorem Ik:an Tryz.prog 153 0=some (0,4):=kr
theorem JC:an Tryz.prog 153 1=some (1,9):=kr
theorem Ii:an Tryz.prog 153 2=some (2,54):=kr
theorem Jv:an Tryz.prog 153 3=some (6,9):=kr
theorem Q4:placesOf Tryz.prog 153=some [(0,1),(1,1),(2,4),(6,1)]:=kr
theorem Ku:aq Tryz.prog 154=some ⟨true,7,72,some (.agg #[.bool false,.string ⟨#[]⟩,.int .u64 0,.int .u64 0,.int .u64 0,.int .u64 0,.string ⟨#[]⟩])⟩:=kr
theorem Jg:an Tryz.prog 154 0=some (0,4):=kr
theorem Kh:an Tryz.prog 154 1=some (1,9):=kr
theorem JZ:an Tryz.prog 154 2=some (2,54):=kr
theorem HH:an Tryz.prog 154 3=some (6,9):=kr
theorem Po:placesOf Tryz.prog 154=some [(0,1),(1,1),(2,4),(6,1)]:=kr
theorem PW:aq Tryz.prog 155=some ⟨false,1,8,some (.nilFunc)⟩:=kr
theorem Sd:aq Tryz.prog 157=some ⟨false,1,8,some (.nilFunc)⟩:=kr
theorem RP:aq Tryz.prog 158=some ⟨false,1,8,some (.nilFunc)⟩:=kr
theorem Qd:aq Tryz.prog 159=some ⟨false,1,8,some (.nilFunc)⟩:=kr
theorem Q2:aq Tryz.prog 160=some ⟨false,1,8,some (.nilFunc)⟩:=kr
theorem Ph:aq Tryz.prog 161=some ⟨false,1,8,some (.nilFunc)⟩:=kr
theorem Q8:aq Tryz.prog 162=some ⟨false,1,8,some (.nilFunc)⟩:=kr
theorem QE:aq Tryz.prog 163=some ⟨false,1,8,some (.nilFunc)⟩:=kr
theorem SM:aq Tryz.prog 164=some ⟨false,1,8,some (.pointer none)⟩:=kr
theorem QV:aq Tryz.prog 165=some ⟨false,1,8,some (.map none)⟩:=kr
theorem Ta:aq Tryz.prog 166=some ⟨false,1,8,some (.nilFunc)⟩:=kr
theorem Ps:aq Tryz.prog 167=some ⟨false,1,8,some (.nilFunc)⟩:=kr
theorem Rh:aq Tryz.prog 168=some ⟨false,1,8,some (.nilFunc)⟩:=kr
theorem QB:aq Tryz.prog 169=some ⟨false,1,8,some (.nilFunc)⟩:=kr
theorem Sn:aq Tryz.prog 170=some ⟨false,1,24,some (.slice none 0 0)⟩:=kr
theorem Pm:aq Tryz.prog 172=some ⟨false,1,8,some (.nilFunc)⟩:=kr
theorem QI:aq Tryz.prog 173=some ⟨false,1,8,some (.nilFunc)⟩:=kr
theorem RB:aq Tryz.prog 174=some ⟨false,1,8,some (.nilFunc)⟩:=kr
theorem Rl:aq Tryz.prog 175=some ⟨false,1,8,some (.nilFunc)⟩:=kr
theorem O0:aq Tryz.prog 176=some ⟨false,1,8,some (.nilFunc)⟩:=kr
theorem QO:aq Tryz.prog 177=some ⟨false,1,8,some (.nilFunc)⟩:=kr
theorem QD:aq Tryz.prog 178=some ⟨false,1,24,some (.slice none 0 0)⟩:=kr
theorem Qw:aq Tryz.prog 180=some ⟨false,1,8,some (.nilFunc)⟩:=kr
theorem P8:aq Tryz.prog 181=some ⟨false,1,8,some (.nilFunc)⟩:=kr
theorem P4:aq Tryz.prog 182=some ⟨false,1,8,some (.nilFunc)⟩:=kr
theorem Rd:aq Tryz.prog 183=some ⟨false,1,8,some (.nilFunc)⟩:=kr
theorem Pl:aq Tryz.prog 184=some ⟨false,1,8,some (.nilFunc)⟩:=kr
theorem PH:aq Tryz.prog 185=some ⟨false,1,8,some (.nilFunc)⟩:=kr
theorem QF:aq Tryz.prog 186=some ⟨false,1,8,some (.nilFunc)⟩:=kr
theorem O4:aq Tryz.prog 187=some ⟨false,1,8,some (.nilFunc)⟩:=kr
theorem Re:aq Tryz.prog 188=some ⟨false,1,8,some (.nilFunc)⟩:=kr
theorem Qs:aq Tryz.prog 189=some ⟨true,9,184,some (.agg #[.string ⟨#[]⟩,.string ⟨#[]⟩,.slice none 0 0,.slice none 0 0,.slice none 0 0,.slice none 0 0,.slice none 0 0,.slice none 0 0,.map none])⟩:=kr
theorem Jl:an Tryz.prog 189 0=some (0,28):=kr
theorem JW:an Tryz.prog 189 1=some (7,36):=kr
theorem HS:an Tryz.prog 189 2=some (8,90):=kr
theorem PF:placesOf Tryz.prog 189=some [(0,7),(7,1),(8,1)]:=kr
theorem P0:aq Tryz.prog 190=some ⟨true,9,184,some (.agg #[.string ⟨#[]⟩,.string ⟨#[]⟩,.slice none 0 0,.slice none 0 0,.slice none 0 0,.slice none 0 0,.slice none 0 0,.slice none 0 0,.map none])⟩:=kr
theorem JK:an Tryz.prog 190 0=some (0,28):=kr
theorem Kb:an Tryz.prog 190 1=some (7,36):=kr
theorem Kj:an Tryz.prog 190 2=some (8,90):=kr
theorem Qt:placesOf Tryz.prog 190=some [(0,7),(7,1),(8,1)]:=kr
theorem SV:aq Tryz.prog 191=some ⟨false,1,8,some (.nilFunc)⟩:=kr
theorem Rk:aq Tryz.prog 192=some ⟨false,1,8,some (.nilFunc)⟩:=kr
theorem Su:aq Tryz.prog 193=some ⟨false,1,8,some (.nilFunc)⟩:=kr
theorem Tb:aq Tryz.prog 194=some ⟨false,1,8,some (.nilFunc)⟩:=kr
theorem PT:aq Tryz.prog 195=some ⟨false,1,8,some (.nilFunc)⟩:=kr
theorem Pb:aq Tryz.prog 196=some ⟨false,1,8,some (.pointer none)⟩:=kr
theorem Se:aq Tryz.prog 197=some ⟨false,1,8,some (.pointer none)⟩:=kr
theorem PE:aq Tryz.prog 198=some ⟨false,1,8,some (.int .u64 0)⟩:=kr
theorem Ql:aq Tryz.prog 199=some ⟨false,1,8,some (.nilFunc)⟩:=kr
theorem Pj:aq Tryz.prog 200=some ⟨false,1,8,some (.nilFunc)⟩:=kr
theorem Sm:aq Tryz.prog 201=some ⟨false,1,8,some (.map none)⟩:=kr
theorem R5:aq Tryz.prog 202=some ⟨true,2,16,some (.agg #[.int .i64 0,.int .i64 0])⟩:=kr
theorem HQ:an Tryz.prog 202 0=some (0,3):=kr
theorem IV:an Tryz.prog 202 1=some (1,3):=kr
theorem P7:placesOf Tryz.prog 202=some [(0,1),(1,1)]:=kr
theorem Qr:aq Tryz.prog 203=some ⟨true,2,16,some (.agg #[.int .i64 0,.int .i64 0])⟩:=kr
theorem Jn:an Tryz.prog 203 0=some (0,3):=kr
theorem IY:an Tryz.prog 203 1=some (1,3):=kr
theorem PN:placesOf Tryz.prog 203=some [(0,1),(1,1)]:=kr
theorem Ry:aq Tryz.prog 204=some ⟨false,1,8,some (.nilFunc)⟩:=kr
theorem Qg:aq Tryz.prog 205=some ⟨false,1,8,some (.nilFunc)⟩:=kr
theorem SD:aq Tryz.prog 206=some ⟨false,1,8,some (.nilFunc)⟩:=kr
theorem Qp:aq Tryz.prog 207=some ⟨false,1,8,some (.nilFunc)⟩:=kr
theorem S4:aq Tryz.prog 208=some ⟨false,1,8,some (.nilFunc)⟩:=kr
theorem RF:aq Tryz.prog 209=some ⟨false,1,8,some (.nilFunc)⟩:=kr
theorem Tg:aq Tryz.prog 210=some ⟨false,1,24,some (.slice none 0 0)⟩:=kr
theorem Sz:aq Tryz.prog 211=some ⟨false,1,8,some (.nilFunc)⟩:=kr
theorem RT:aq Tryz.prog 212=some ⟨false,1,8,some (.nilFunc)⟩:=kr
theorem P6:aq Tryz.prog 213=some ⟨true,2,16,some (.agg #[.int .i64 0,.int .i64 0])⟩:=kr
theorem H8:an Tryz.prog 213 0=some (0,3):=kr
theorem Io:an Tryz.prog 213 1=some (1,3):=kr
theorem SA:placesOf Tryz.prog 213=some [(0,1),(1,1)]:=kr
theorem P1:aq Tryz.prog 214=some ⟨true,2,16,some (.agg #[.int .i64 0,.int .i64 0])⟩:=kr
theorem Iq:an Tryz.prog 214 0=some (0,3):=kr
theorem Jc:an Tryz.prog 214 1=some (1,3):=kr
theorem PM:placesOf Tryz.prog 214=some [(0,1),(1,1)]:=kr
theorem Pf:aq Tryz.prog 215=some ⟨false,1,8,some (.nilFunc)⟩:=kr
theorem PZ:aq Tryz.prog 216=some ⟨false,1,8,some (.nilFunc)⟩:=kr
theorem PA:aq Tryz.prog 217=some ⟨false,1,8,some (.nilFunc)⟩:=kr
theorem RO:aq Tryz.prog 218=some ⟨false,1,8,some (.nilFunc)⟩:=kr
theorem Ro:aq Tryz.prog 219=some ⟨false,1,8,some (.nilFunc)⟩:=kr
theorem RW:aq Tryz.prog 220=some ⟨false,1,8,some (.nilFunc)⟩:=kr
theorem Qi:aq Tryz.prog 221=some ⟨false,1,8,some (.nilFunc)⟩:=kr
theorem QZ:aq Tryz.prog 222=some ⟨false,1,8,some (.nilFunc)⟩:=kr
theorem PD:aq Tryz.prog 223=some ⟨false,1,8,some (.nilFunc)⟩:=kr
theorem Sp:aq Tryz.prog 224=some ⟨false,1,8,some (.nilFunc)⟩:=kr
theorem Qq:aq Tryz.prog 225=some ⟨false,1,8,some (.nilFunc)⟩:=kr
theorem Pg:aq Tryz.prog 226=some ⟨false,1,8,some (.pointer none)⟩:=kr
theorem O8:aq Tryz.prog 227=some ⟨true,2,32,some (.agg #[.pointer none,.slice none 0 0])⟩:=kr
theorem JD:an Tryz.prog 227 0=some (0,226):=kr
theorem J2:an Tryz.prog 227 1=some (1,178):=kr
theorem Sj:placesOf Tryz.prog 227=some [(0,1),(1,1)]:=kr
theorem OT:aq Tryz.prog 228=some ⟨true,2,32,some (.agg #[.pointer none,.slice none 0 0])⟩:=kr
theorem H7:an Tryz.prog 228 0=some (0,226):=kr
theorem Ko:an Tryz.prog 228 1=some (1,178):=kr
theorem Qb:placesOf Tryz.prog 228=some [(0,1),(1,1)]:=kr
theorem RQ:aq Tryz.prog 229=some ⟨false,1,16,some (.nilIface)⟩:=kr
theorem PR:aq Tryz.prog 230=some ⟨false,1,16,some (.nilIface)⟩:=kr
theorem SH:aq Tryz.prog 231=some ⟨false,1,8,some (.nilFunc)⟩:=kr
theorem SY:aq Tryz.prog 233=some ⟨false,1,8,some (.nilFunc)⟩:=kr
theorem Tc:aq Tryz.prog 234=some ⟨false,1,8,some (.nilFunc)⟩:=kr
theorem PJ:aq Tryz.prog 235=some ⟨false,1,8,some (.nilFunc)⟩:=kr
theorem SP:aq Tryz.prog 236=some ⟨false,1,8,some (.int .i64 0)⟩:=kr
theorem Qj:aq Tryz.prog 238=some ⟨false,1,8,some (.nilFunc)⟩:=kr
theorem QH:aq Tryz.prog 239=some ⟨false,1,8,some (.nilFunc)⟩:=kr
theorem R9:aq Tryz.prog 240=some ⟨false,1,8,some (.nilFunc)⟩:=kr
theorem Ss:aq Tryz.prog 241=some ⟨false,1,8,some (.nilFunc)⟩:=kr
theorem Rm:aq Tryz.prog 242=some ⟨false,1,8,some (.nilFunc)⟩:=kr
theorem Td:aq Tryz.prog 243=some ⟨false,1,4,some (.int .u32 0)⟩:=kr
theorem Qn:aq Tryz.prog 244=some ⟨false,1,8,some (.nilFunc)⟩:=kr
theorem Rn:aq Tryz.prog 245=some ⟨false,1,8,some (.nilFunc)⟩:=kr
theorem OY:aq Tryz.prog 246=some ⟨false,1,8,some (.nilFunc)⟩:=kr
theorem Q5:aq Tryz.prog 247=some ⟨false,1,8,some (.nilFunc)⟩:=kr
theorem Rp:aq Tryz.prog 248=some ⟨false,1,8,some (.nilFunc)⟩:=kr
theorem Pu:aq Tryz.prog 249=some ⟨false,1,8,some (.nilFunc)⟩:=kr
theorem Tj:aq Tryz.prog 251=some ⟨false,1,8,some (.nilFunc)⟩:=kr
theorem O2:aq Tryz.prog 252=some ⟨false,1,8,some (.nilFunc)⟩:=kr
theorem Tf:aq Tryz.prog 253=some ⟨false,1,8,some (.nilFunc)⟩:=kr
theorem QX:aq Tryz.prog 254=some ⟨false,1,8,some (.nilFunc)⟩:=kr
theorem Pa:aq Tryz.prog 255=some ⟨false,1,8,some (.pointer none)⟩:=kr
theorem Rc:aq Tryz.prog 256=some ⟨false,1,8,some (.int .u64 0)⟩:=kr
theorem S8:aq Tryz.prog 257=some ⟨false,1,8,some (.nilFunc)⟩:=kr
theorem QA:aq Tryz.prog 258=some ⟨false,1,8,some (.nilFunc)⟩:=kr
theorem QR:aq Tryz.prog 259=some ⟨false,1,8,some (.nilFunc)⟩:=kr
theorem OV:aq Tryz.prog 260=some ⟨false,1,8,some (.nilFunc)⟩:=kr
theorem Sa:aq Tryz.prog 261=some ⟨false,1,8,some (.nilFunc)⟩:=kr
theorem RG:aq Tryz.prog 262=some ⟨false,1,8,some (.nilFunc)⟩:=kr
theorem Pe:aq Tryz.prog 265=some ⟨false,1,8,some (.pointer none)⟩:=kr
theorem QG:aq Tryz.prog 266=some ⟨false,1,8,some (.nilFunc)⟩:=kr
theorem RV:aq Tryz.prog 272=some ⟨false,1,8,some (.nilFunc)⟩:=kr
theorem mixed:Tryz.prog.follows .mixedOrders=true:=kr
attribute [push_cast] V4 V7 NY VI OS HB Uu T2 UW TZ Uh Ux TW Uf Uc Uj U8 TB UD UI TQ T5 Va TY Vr UM Q1 TV UL Vq UC Uq Vk Vf TO Ug Vj SO TJ T3 Rb T0 Jd U2 TK T8 TT TC Ud RN UE zp Vt QC Un Vg Lu TF Uv UA UT Vc U3 TE Qy Vp RD Ul Ur PS Vy UK U1 Ub Ua Vb TM T7 Up U4 TA UY Ue Tk RX Ri RY O6 SX RR O9 Rr Te RK Qx Kx S7 Kz Qv PX Sc QS Pn Pz P9 QU Rj Qf RL PC Sf Sl Sk QL QQ QN QM KT Rx SC OZ Pt Sg Qm RU Q9 PL Qo PQ Rw Sv QK QJ O3 Si Ku PW Sd RP Qd Q2 Ph Q8 QE SM QV Ta Ps Rh QB Sn Pm QI RB Rl O0 QO QD Qw P8 P4 Rd Pl PH QF O4 Re Qs P0 SV Rk Su Tb PT Pb Se PE Ql Pj Sm R5 Qr Ry Qg SD Qp S4 RF Tg Sz RT P6 P1 Pf PZ PA RO Ro RW Qi QZ PD Sp Qq Pg O8 OT RQ PR SH SY Tc PJ SP Qj QH R9 Ss Rm Td Qn Rn OY Q5 Rp Pu Tj O2 Tf QX Pa Rc S8 QA QR OV Sa RG Pe QG RV Mg LC Lw OC Ly Nf Oj Uy Mr Oc L8 Oe N9 MF Lt TR LN L9 Ln Vm Lf Nt Of UQ LA NK Le TH MI Lv MP U6 NQ NH LD MC NR UF Nq Mj L6 LX N0 US Lq MH LO OA NN U5 LF Ng NE L7 L5 UH Ol Ml Nn LU Nz TD LV ME M7 MU Mz Uk LK Nw U0 NC NV TN MT MD TG MM Ow Us Me NZ Li Mf Vz Mi MQ M4 Ma Vw Nd Ox Mx T6 LQ Nv Lg UX Nk LM Ve Mm LJ Vd NI MX T9 Lk MG T4 LP MY Oq Mb Mw U7 Ms NA Oo Oh Mq TU Mk Nr LG Nb UO IB H5 HP JO Pd Jt Ka Kn IX PO Iu Ih Ib ID Q7 JA Kk Rg I0 If Pp I5 Ks Sq IE JV Ru H3 IA JF Jr Qe HT Iw JL JP Rt Ik JC Ii Jv Q4 Jg Kh JZ HH Po Jl JW HS PF JK Kb Kj Qt HQ IV P7 Jn IY PN H8 Io SA Iq Jc PM JD J2 Sj H7 Ko Qb Tryz.underlying1 Tryz.underlying2 Tryz.underlying3 Tryz.underlying4 Tryz.underlying5 Tryz.underlying9 Tryz.underlying12 Tryz.underlying20 Tryz.underlying21 Tryz.underlying22 Tryz.underlying23 Tryz.underlying24 Tryz.underlying25 Tryz.underlying26 Tryz.underlying27 Tryz.underlying28 Tryz.underlying29 Tryz.underlying30 Tryz.underlying31 Tryz.underlying32 Tryz.underlying33 Tryz.underlying34 Tryz.underlying35 Tryz.underlying36 Tryz.underlying37 Tryz.underlying38 Tryz.underlying39 Tryz.underlying40 Tryz.underlying41 Tryz.underlying42 Tryz.underlying43 Tryz.underlying44 Tryz.underlying46 Tryz.underlying47 Tryz.underlying48 Tryz.underlying49 Tryz.underlying50 Tryz.underlying51 Tryz.underlying52 Tryz.underlying53 Tryz.underlying54 Tryz.underlying55 Tryz.underlying56 Tryz.underlying57 Tryz.underlying58 Tryz.underlying59 Tryz.underlying60 Tryz.underlying61 Tryz.underlying62 Tryz.underlying63 Tryz.underlying64 Tryz.underlying65 Tryz.underlying66 Tryz.underlying67 Tryz.underlying68 Tryz.underlying69 Tryz.underlying70 Tryz.underlying71 Tryz.underlying72 Tryz.underlying73 Tryz.underlying74 Tryz.underlying76 Tryz.underlying78 Tryz.underlying79 Tryz.underlying80 Tryz.underlying81 Tryz.underlying82 Tryz.underlying83 Tryz.underlying84 Tryz.underlying85 Tryz.underlying86 Tryz.underlying88 Tryz.underlying89 Tryz.underlying90 Tryz.underlying91 Tryz.underlying92 Tryz.underlying93 Tryz.underlying94 Tryz.underlying95 Tryz.underlying96 Tryz.underlying97 Tryz.underlying98 Tryz.underlying99 Tryz.underlying100 Tryz.underlying101 Tryz.underlying102 Tryz.underlying103 Tryz.underlying104 Tryz.underlying105 Tryz.underlying106 Tryz.underlying107 Tryz.underlying108 Tryz.underlying109 Tryz.underlying110 Tryz.underlying111 Tryz.underlying112 Tryz.underlying113 Tryz.underlying114 Tryz.underlying115 Tryz.underlying116 Tryz.underlying117 Tryz.underlying118 Tryz.underlying119 Tryz.underlying120 Tryz.underlying121 Tryz.underlying122 Tryz.underlying124 Tryz.underlying125 Tryz.underlying127 Tryz.underlying128 Tryz.underlying129 Tryz.underlying130 Tryz.underlying131 Tryz.underlying132 Tryz.underlying133 Tryz.underlying134 Tryz.underlying135 Tryz.underlying136 Tryz.underlying137 Tryz.underlying138 Tryz.underlying139 Tryz.underlying140 Tryz.underlying141 Tryz.underlying142 Tryz.underlying143 Tryz.underlying144 Tryz.underlying145 Tryz.underlying146 Tryz.underlying147 Tryz.underlying148 Tryz.underlying149 Tryz.underlying150 Tryz.underlying151 Tryz.underlying152 Tryz.underlying153 Tryz.underlying154 Tryz.underlying155 Tryz.underlying157 Tryz.underlying158 Tryz.underlying159 Tryz.underlying160 Tryz.underlying161 Tryz.underlying162 Tryz.underlying163 Tryz.underlying164 Tryz.underlying165 Tryz.underlying166 Tryz.underlying167 Tryz.underlying168 Tryz.underlying169 Tryz.underlying170 Tryz.underlying172 Tryz.underlying173 Tryz.underlying174 Tryz.underlying175 Tryz.underlying176 Tryz.underlying177 Tryz.underlying178 Tryz.underlying180 Tryz.underlying181 Tryz.underlying182 Tryz.underlying183 Tryz.underlying184 Tryz.underlying185 Tryz.underlying186 Tryz.underlying187 Tryz.underlying188 Tryz.underlying189 Tryz.underlying190 Tryz.underlying191 Tryz.underlying192 Tryz.underlying193 Tryz.underlying194 Tryz.underlying195 Tryz.underlying196 Tryz.underlying197 Tryz.underlying198 Tryz.underlying199 Tryz.underlying200 Tryz.underlying201 Tryz.underlying202 Tryz.underlying203 Tryz.underlying204 Tryz.underlying205 Tryz.underlying206 Tryz.underlying207 Tryz.underlying208 Tryz.underlying209 Tryz.underlying210 Tryz.underlying211 Tryz.underlying212 Tryz.underlying213 Tryz.underlying214 Tryz.underlying215 Tryz.underlying216 Tryz.underlying217 Tryz.underlying218 Tryz.underlying219 Tryz.underlying220 Tryz.underlying221 Tryz.underlying222 Tryz.underlying223 Tryz.underlying224 Tryz.underlying225 Tryz.underlying226 Tryz.underlying227 Tryz.underlying228 Tryz.underlying229 Tryz.underlying230 Tryz.underlying231 Tryz.underlying233 Tryz.underlying234 Tryz.underlying235 Tryz.underlying236 Tryz.underlying238 Tryz.underlying239 Tryz.underlying240 Tryz.underlying241 Tryz.underlying242 Tryz.underlying243 Tryz.underlying244 Tryz.underlying245 Tryz.underlying246 Tryz.underlying247 Tryz.underlying248 Tryz.underlying249 Tryz.underlying251 Tryz.underlying252 Tryz.underlying253 Tryz.underlying254 Tryz.underlying255 Tryz.underlying256 Tryz.underlying257 Tryz.underlying258 Tryz.underlying259 Tryz.underlying260 Tryz.underlying261 Tryz.underlying262 Tryz.underlying265 Tryz.underlying266 Tryz.underlying272
end Go.Proofs.YtmdmimkbpikmoaaGreat.Ty
namespace Go.Proofs.YtmdmimkbpikmoaaGreat
open Go.RowKit Am Ty
theorem zu {R P:Prop} (k:R) (h:R→P:=by intro z0;(repeat (first|apply zs|apply zr|apply zn|apply zq|apply zb|apply zo|apply zk|apply zl));exact z0):P:=h k
theorem zh {P:Prop} (h:P:=by repeat (first|exact trivial|(refine⟨.inl ⟨by decide,rfl⟩,?_⟩) | (refine⟨.inr ⟨rfl,by simp⟩,?_⟩))):P:=h
theorem fe {N:Am.Env} {f:FuncId} {fn:Func} {c:Code} {args:List Value} {h:ah} {K:Value→ah→Prop} (hf:N.P.funcs[f]? = some fn) (k:CW N c ⟨uV args,[],h⟩ (PB N fn K)) (hb:fn.body=some c:=by rfl) (hd:ef fn.ntmps c=true:=by kernel_rfl) (hl:decide (args.length≤fn.ntmps)=true:=by kernel_rfl):FW N f args h K:=Gi hf hb hd (of_decide_eq_true hl) k
theorem zj {N:Am.Env} {all:Array Oper} {o:Oper} {r:List Oper} {s:St} {K:St→Prop} {f:FuncId} {cap args:List Value} {fn:Func} (hf:N.P.funcs[f]? = some fn) (k:FW N f (args++cap) s.h fun v h'=>OW N all r ({ s with h:=h' }.a9 o.dst (.val v)) K) (h:Cq all o s=some (f,cap,args):=by simp only[push_cast,env,Nat.reduceEqDiff,reduceIte]<;>exact rfl) (hnm:(fn.name == "runtime.NumGoroutine")=false:=by kernel_rfl) (hb:fn.body.isNone=false:=by kernel_rfl):OW N all (o :: r) s K:=zc h hf hnm hb k
theorem tP {P:Prop}  (h:P:=by simp only[push_cast,env,Nat.reduceEqDiff,reduceIte,Nat.reduceAdd,Nat.reduceMul,Nat.reduceLeDiff,reduceCtorEq,Nat.reduceSub,Int.reduceToNat]<;>first|exact rfl|exact .inl rfl|exact .inr rfl):P:=h
theorem Tz {A P:Prop} (z1:A) (h:A→P:=by intro z1;simp only[push_cast,env,Nat.reduceEqDiff,reduceIte,Nat.reduceAdd,Nat.reduceMul,Nat.reduceLeDiff,reduceCtorEq,Nat.reduceSub,Int.reduceToNat,z1]<;>first|exact rfl|exact .inl rfl|exact .inr rfl):P:=h z1
theorem VT {A B P:Prop} (z1:A) (z2:B) (h:A→B→P:=by intro z1 z2;simp only[push_cast,env,Nat.reduceEqDiff,reduceIte,Nat.reduceAdd,Nat.reduceMul,Nat.reduceLeDiff,reduceCtorEq,Nat.reduceSub,Int.reduceToNat,z1,z2]<;>first|exact rfl|exact .inl rfl|exact .inr rfl):P:=h z1 z2
theorem Rv {A B C P:Prop} (z1:A) (z2:B) (z3:C) (h:A→B→C→P:=by intro z1 z2 z3;simp only[push_cast,env,Nat.reduceEqDiff,reduceIte,Nat.reduceAdd,Nat.reduceMul,Nat.reduceLeDiff,reduceCtorEq,Nat.reduceSub,Int.reduceToNat,z1,z2,z3]<;>first|exact rfl|exact .inl rfl|exact .inr rfl):P:=h z1 z2 z3
theorem VM {A B C D P:Prop} (z1:A) (z2:B) (z3:C) (z4:D) (h:A→B→C→D→P:=by intro z1 z2 z3 z4;simp only[push_cast,env,Nat.reduceEqDiff,reduceIte,Nat.reduceAdd,Nat.reduceMul,Nat.reduceLeDiff,reduceCtorEq,Nat.reduceSub,Int.reduceToNat,z1,z2,z3,z4]<;>first|exact rfl|exact .inl rfl|exact .inr rfl):P:=h z1 z2 z3 z4
theorem Wq {A B C D E P:Prop} (z1:A) (z2:B) (z3:C) (z4:D) (z5:E) (h:A→B→C→D→E→P:=by intro z1 z2 z3 z4 z5;simp only[push_cast,env,Nat.reduceEqDiff,reduceIte,Nat.reduceAdd,Nat.reduceMul,Nat.reduceLeDiff,reduceCtorEq,Nat.reduceSub,Int.reduceToNat,z1,z2,z3,z4,z5]<;>first|exact rfl|exact .inl rfl|exact .inr rfl):P:=h z1 z2 z3 z4 z5
theorem Wn {A B C D E F P:Prop} (z1:A) (z2:B) (z3:C) (z4:D) (z5:E) (z6:F) (h:A→B→C→D→E→F→P:=by intro z1 z2 z3 z4 z5 z6;simp only[push_cast,env,Nat.reduceEqDiff,reduceIte,Nat.reduceAdd,Nat.reduceMul,Nat.reduceLeDiff,reduceCtorEq,Nat.reduceSub,Int.reduceToNat,z1,z2,z3,z4,z5,z6]<;>first|exact rfl|exact .inl rfl|exact .inr rfl):P:=h z1 z2 z3 z4 z5 z6
theorem Wp {A B C D E F G P:Prop} (z1:A) (z2:B) (z3:C) (z4:D) (z5:E) (z6:F) (z7:G) (h:A→B→C→D→E→F→G→P:=by intro z1 z2 z3 z4 z5 z6 z7;simp only[push_cast,env,Nat.reduceEqDiff,reduceIte,Nat.reduceAdd,Nat.reduceMul,Nat.reduceLeDiff,reduceCtorEq,Nat.reduceSub,Int.reduceToNat,z1,z2,z3,z4,z5,z6,z7]<;>first|exact rfl|exact .inl rfl|exact .inr rfl):P:=h z1 z2 z3 z4 z5 z6 z7
theorem Wk {A B C D E F G H P:Prop} (z1:A) (z2:B) (z3:C) (z4:D) (z5:E) (z6:F) (z7:G) (z8:H) (h:A→B→C→D→E→F→G→H→P:=by intro z1 z2 z3 z4 z5 z6 z7 z8;simp only[push_cast,env,Nat.reduceEqDiff,reduceIte,Nat.reduceAdd,Nat.reduceMul,Nat.reduceLeDiff,reduceCtorEq,Nat.reduceSub,Int.reduceToNat,z1,z2,z3,z4,z5,z6,z7,z8]<;>first|exact rfl|exact .inl rfl|exact .inr rfl):P:=h z1 z2 z3 z4 z5 z6 z7 z8
theorem Wi {A B C D E F G H I P:Prop} (z1:A) (z2:B) (z3:C) (z4:D) (z5:E) (z6:F) (z7:G) (z8:H) (z9:I) (h:A→B→C→D→E→F→G→H→I→P:=by intro z1 z2 z3 z4 z5 z6 z7 z8 z9;simp only[push_cast,env,Nat.reduceEqDiff,reduceIte,Nat.reduceAdd,Nat.reduceMul,Nat.reduceLeDiff,reduceCtorEq,Nat.reduceSub,Int.reduceToNat,z1,z2,z3,z4,z5,z6,z7,z8,z9]<;>first|exact rfl|exact .inl rfl|exact .inr rfl):P:=h z1 z2 z3 z4 z5 z6 z7 z8 z9
theorem Wv {P:Prop}  (h:P:=by (repeat (first|exact aV.nil _|(apply aV.cons;(·apply zz;simp only[push_cast,env,Nat.reduceEqDiff,reduceIte,Nat.reduceAdd,Nat.reduceMul,Nat.reduceLeDiff,reduceCtorEq,Nat.reduceSub,Int.reduceToNat]<;>exact rfl);(·rfl))))):P:=h
theorem Wz {R P:Prop}  (k:R) (h:R→P:=by intro  z0;(repeat (first|exact aV.nil _|(apply aV.cons;(·apply zz;simp only[push_cast,env,Nat.reduceEqDiff,reduceIte,Nat.reduceAdd,Nat.reduceMul,Nat.reduceLeDiff,reduceCtorEq,Nat.reduceSub,Int.reduceToNat]<;>exact rfl);(·rfl))));exact z0):P:=h  k
theorem CY {A P:Prop} (z1:A) (h:A→P:=by intro z1;(repeat (first|exact aV.nil _|(apply aV.cons;(·apply zz;simp only[push_cast,env,Nat.reduceEqDiff,reduceIte,Nat.reduceAdd,Nat.reduceMul,Nat.reduceLeDiff,reduceCtorEq,Nat.reduceSub,Int.reduceToNat,z1]<;>exact rfl);(·rfl))))):P:=h z1
theorem Wr {A R P:Prop} (z1:A) (k:R) (h:A→R→P:=by intro z1 z0;(repeat (first|exact aV.nil _|(apply aV.cons;(·apply zz;simp only[push_cast,env,Nat.reduceEqDiff,reduceIte,Nat.reduceAdd,Nat.reduceMul,Nat.reduceLeDiff,reduceCtorEq,Nat.reduceSub,Int.reduceToNat,z1]<;>exact rfl);(·rfl))));exact z0):P:=h z1 k
theorem rV {A B P:Prop} (z1:A) (z2:B) (h:A→B→P:=by intro z1 z2;(repeat (first|exact aV.nil _|(apply aV.cons;(·apply zz;simp only[push_cast,env,Nat.reduceEqDiff,reduceIte,Nat.reduceAdd,Nat.reduceMul,Nat.reduceLeDiff,reduceCtorEq,Nat.reduceSub,Int.reduceToNat,z1,z2]<;>exact rfl);(·rfl))))):P:=h z1 z2
theorem Wy {A B R P:Prop} (z1:A) (z2:B) (k:R) (h:A→B→R→P:=by intro z1 z2 z0;(repeat (first|exact aV.nil _|(apply aV.cons;(·apply zz;simp only[push_cast,env,Nat.reduceEqDiff,reduceIte,Nat.reduceAdd,Nat.reduceMul,Nat.reduceLeDiff,reduceCtorEq,Nat.reduceSub,Int.reduceToNat,z1,z2]<;>exact rfl);(·rfl))));exact z0):P:=h z1 z2 k
theorem VL {A B C P:Prop} (z1:A) (z2:B) (z3:C) (h:A→B→C→P:=by intro z1 z2 z3;(repeat (first|exact aV.nil _|(apply aV.cons;(·apply zz;simp only[push_cast,env,Nat.reduceEqDiff,reduceIte,Nat.reduceAdd,Nat.reduceMul,Nat.reduceLeDiff,reduceCtorEq,Nat.reduceSub,Int.reduceToNat,z1,z2,z3]<;>exact rfl);(·rfl))))):P:=h z1 z2 z3
theorem Ws {A B C R P:Prop} (z1:A) (z2:B) (z3:C) (k:R) (h:A→B→C→R→P:=by intro z1 z2 z3 z0;(repeat (first|exact aV.nil _|(apply aV.cons;(·apply zz;simp only[push_cast,env,Nat.reduceEqDiff,reduceIte,Nat.reduceAdd,Nat.reduceMul,Nat.reduceLeDiff,reduceCtorEq,Nat.reduceSub,Int.reduceToNat,z1,z2,z3]<;>exact rfl);(·rfl))));exact z0):P:=h z1 z2 z3 k
theorem Wl {A B C D P:Prop} (z1:A) (z2:B) (z3:C) (z4:D) (h:A→B→C→D→P:=by intro z1 z2 z3 z4;(repeat (first|exact aV.nil _|(apply aV.cons;(·apply zz;simp only[push_cast,env,Nat.reduceEqDiff,reduceIte,Nat.reduceAdd,Nat.reduceMul,Nat.reduceLeDiff,reduceCtorEq,Nat.reduceSub,Int.reduceToNat,z1,z2,z3,z4]<;>exact rfl);(·rfl))))):P:=h z1 z2 z3 z4
theorem Wu {A B C D R P:Prop} (z1:A) (z2:B) (z3:C) (z4:D) (k:R) (h:A→B→C→D→R→P:=by intro z1 z2 z3 z4 z0;(repeat (first|exact aV.nil _|(apply aV.cons;(·apply zz;simp only[push_cast,env,Nat.reduceEqDiff,reduceIte,Nat.reduceAdd,Nat.reduceMul,Nat.reduceLeDiff,reduceCtorEq,Nat.reduceSub,Int.reduceToNat,z1,z2,z3,z4]<;>exact rfl);(·rfl))));exact z0):P:=h z1 z2 z3 z4 k
theorem Wj {A B C D E P:Prop} (z1:A) (z2:B) (z3:C) (z4:D) (z5:E) (h:A→B→C→D→E→P:=by intro z1 z2 z3 z4 z5;(repeat (first|exact aV.nil _|(apply aV.cons;(·apply zz;simp only[push_cast,env,Nat.reduceEqDiff,reduceIte,Nat.reduceAdd,Nat.reduceMul,Nat.reduceLeDiff,reduceCtorEq,Nat.reduceSub,Int.reduceToNat,z1,z2,z3,z4,z5]<;>exact rfl);(·rfl))))):P:=h z1 z2 z3 z4 z5
theorem Wx {A B C D E R P:Prop} (z1:A) (z2:B) (z3:C) (z4:D) (z5:E) (k:R) (h:A→B→C→D→E→R→P:=by intro z1 z2 z3 z4 z5 z0;(repeat (first|exact aV.nil _|(apply aV.cons;(·apply zz;simp only[push_cast,env,Nat.reduceEqDiff,reduceIte,Nat.reduceAdd,Nat.reduceMul,Nat.reduceLeDiff,reduceCtorEq,Nat.reduceSub,Int.reduceToNat,z1,z2,z3,z4,z5]<;>exact rfl);(·rfl))));exact z0):P:=h z1 z2 z3 z4 z5 k
theorem Wt {A B C D E F P:Prop} (z1:A) (z2:B) (z3:C) (z4:D) (z5:E) (z6:F) (h:A→B→C→D→E→F→P:=by intro z1 z2 z3 z4 z5 z6;(repeat (first|exact aV.nil _|(apply aV.cons;(·apply zz;simp only[push_cast,env,Nat.reduceEqDiff,reduceIte,Nat.reduceAdd,Nat.reduceMul,Nat.reduceLeDiff,reduceCtorEq,Nat.reduceSub,Int.reduceToNat,z1,z2,z3,z4,z5,z6]<;>exact rfl);(·rfl))))):P:=h z1 z2 z3 z4 z5 z6
theorem VK {A B C D E F R P:Prop} (z1:A) (z2:B) (z3:C) (z4:D) (z5:E) (z6:F) (k:R) (h:A→B→C→D→E→F→R→P:=by intro z1 z2 z3 z4 z5 z6 z0;(repeat (first|exact aV.nil _|(apply aV.cons;(·apply zz;simp only[push_cast,env,Nat.reduceEqDiff,reduceIte,Nat.reduceAdd,Nat.reduceMul,Nat.reduceLeDiff,reduceCtorEq,Nat.reduceSub,Int.reduceToNat,z1,z2,z3,z4,z5,z6]<;>exact rfl);(·rfl))));exact z0):P:=h z1 z2 z3 z4 z5 z6 k
theorem Wh {A B C D E F G P:Prop} (z1:A) (z2:B) (z3:C) (z4:D) (z5:E) (z6:F) (z7:G) (h:A→B→C→D→E→F→G→P:=by intro z1 z2 z3 z4 z5 z6 z7;(repeat (first|exact aV.nil _|(apply aV.cons;(·apply zz;simp only[push_cast,env,Nat.reduceEqDiff,reduceIte,Nat.reduceAdd,Nat.reduceMul,Nat.reduceLeDiff,reduceCtorEq,Nat.reduceSub,Int.reduceToNat,z1,z2,z3,z4,z5,z6,z7]<;>exact rfl);(·rfl))))):P:=h z1 z2 z3 z4 z5 z6 z7
theorem zJ {A B C D E F G R P:Prop} (z1:A) (z2:B) (z3:C) (z4:D) (z5:E) (z6:F) (z7:G) (k:R) (h:A→B→C→D→E→F→G→R→P:=by intro z1 z2 z3 z4 z5 z6 z7 z0;(repeat (first|exact aV.nil _|(apply aV.cons;(·apply zz;simp only[push_cast,env,Nat.reduceEqDiff,reduceIte,Nat.reduceAdd,Nat.reduceMul,Nat.reduceLeDiff,reduceCtorEq,Nat.reduceSub,Int.reduceToNat,z1,z2,z3,z4,z5,z6,z7]<;>exact rfl);(·rfl))));exact z0):P:=h z1 z2 z3 z4 z5 z6 z7 k
theorem Wo {A B C D E F G H P:Prop} (z1:A) (z2:B) (z3:C) (z4:D) (z5:E) (z6:F) (z7:G) (z8:H) (h:A→B→C→D→E→F→G→H→P:=by intro z1 z2 z3 z4 z5 z6 z7 z8;(repeat (first|exact aV.nil _|(apply aV.cons;(·apply zz;simp only[push_cast,env,Nat.reduceEqDiff,reduceIte,Nat.reduceAdd,Nat.reduceMul,Nat.reduceLeDiff,reduceCtorEq,Nat.reduceSub,Int.reduceToNat,z1,z2,z3,z4,z5,z6,z7,z8]<;>exact rfl);(·rfl))))):P:=h z1 z2 z3 z4 z5 z6 z7 z8
theorem KN {A B C D E F G H R P:Prop} (z1:A) (z2:B) (z3:C) (z4:D) (z5:E) (z6:F) (z7:G) (z8:H) (k:R) (h:A→B→C→D→E→F→G→H→R→P:=by intro z1 z2 z3 z4 z5 z6 z7 z8 z0;(repeat (first|exact aV.nil _|(apply aV.cons;(·apply zz;simp only[push_cast,env,Nat.reduceEqDiff,reduceIte,Nat.reduceAdd,Nat.reduceMul,Nat.reduceLeDiff,reduceCtorEq,Nat.reduceSub,Int.reduceToNat,z1,z2,z3,z4,z5,z6,z7,z8]<;>exact rfl);(·rfl))));exact z0):P:=h z1 z2 z3 z4 z5 z6 z7 z8 k
theorem Ww {A B C D E F G H I P:Prop} (z1:A) (z2:B) (z3:C) (z4:D) (z5:E) (z6:F) (z7:G) (z8:H) (z9:I) (h:A→B→C→D→E→F→G→H→I→P:=by intro z1 z2 z3 z4 z5 z6 z7 z8 z9;(repeat (first|exact aV.nil _|(apply aV.cons;(·apply zz;simp only[push_cast,env,Nat.reduceEqDiff,reduceIte,Nat.reduceAdd,Nat.reduceMul,Nat.reduceLeDiff,reduceCtorEq,Nat.reduceSub,Int.reduceToNat,z1,z2,z3,z4,z5,z6,z7,z8,z9]<;>exact rfl);(·rfl))))):P:=h z1 z2 z3 z4 z5 z6 z7 z8 z9
theorem Wm {A B C D E F G H I R P:Prop} (z1:A) (z2:B) (z3:C) (z4:D) (z5:E) (z6:F) (z7:G) (z8:H) (z9:I) (k:R) (h:A→B→C→D→E→F→G→H→I→R→P:=by intro z1 z2 z3 z4 z5 z6 z7 z8 z9 z0;(repeat (first|exact aV.nil _|(apply aV.cons;(·apply zz;simp only[push_cast,env,Nat.reduceEqDiff,reduceIte,Nat.reduceAdd,Nat.reduceMul,Nat.reduceLeDiff,reduceCtorEq,Nat.reduceSub,Int.reduceToNat,z1,z2,z3,z4,z5,z6,z7,z8,z9]<;>exact rfl);(·rfl))));exact z0):P:=h z1 z2 z3 z4 z5 z6 z7 z8 z9 k
abbrev zU:Value:=.int .u64 0
abbrev zE:Value:=.string ⟨#[]⟩
abbrev zN:Value:=.slice none 0 0
end Go.Proofs.YtmdmimkbpikmoaaGreat
namespace Go.Proofs.YtmdmimkbpikmoaaGreat.Am
open Go.RowKit
section
variable (N:Env) (call:FuncId→List Value→ah→Option (Value×ah)) (nm:FuncId→Bool) (dr:Array Oper→St→Option St)
def newObj (s:St) (d:Option Nat) (t:TypeId) (cs:List Value) (v:Addr→Value):St:={ s with h:=s.h++[av.aA cs 0 true t] }.a9 d (.val (v ⟨s.h.length,0,some 0⟩))
def MO (s:St) (d:Option Nat) (x y:Operand) (t t2:TypeId):Option St:=
 match N.P.underlying t with
 | some (.slice e)=>match aq N.P e with
   | some ti=>if t2=t∧0<ti.size∧(ti.zero.map fun z=>z.cells.size)=some ti.size then (match cd s s.h ti.size y with
     | some (cs,m)=>match ev s x with
       | some (.slice none 0 0)=>if 0<m∧m*ti.bytes≤140737488355328∧m≤140737488355328 then some ({ s with h:=s.h++[av.aA cs 0 true e] }.a9 d (.val (.slice (some ⟨s.h.length,0,some 0⟩) m m))) else none
       | some (.slice (some ⟨id,0,some ar⟩) n _)=>match s.h[id]? with
         | some (.aA cells ver' true et)=>if ver'=ar∧et=e∧n*ti.size≤cells.length∧(n+m)*ti.bytes≤140737488355328∧n+m≤140737488355328 then
          some ({ s with h:=s.h.set id (av.aA (cells.take (n*ti.size)++cs) (ar+1) true e) }.a9 d (.val (.slice (some ⟨id,0,some (ar+1)⟩) (n+m) (n+m)))) else none
         | _=>none
       | _=>none
     | none=>none) else none
   | none=>none
 | _=>none
def NM (s:St) (d:Option Nat) (x y:Operand) (t t2:TypeId):Option St:=
 match N.P.underlying t,ev s x,ev s y with
 | some (.slice e),some (.slice p n c),some (.slice q 0 c')=>match aq N.P e with
   | some _=>if t2=t then some (s.a9 d (.val (.slice p n c))) else none
   | none=>none
 | _,_,_=>none
def Ti (s:St) (t:TypeId) (a x:Operand):Option St:=
 match aq N.P t,ev s a,ev s x with
 | some ti,some (.pointer (some ⟨id,off,some ar⟩)),some v=>match s.h[id]?,dO ti.size v with
   | some (.aA cells ver' true et),some vs=>if ver'=ar then (ll cells off vs).map fun cells'=>{ s with h:=s.h.set id (av.aA cells' ar true et) } else none
   | _,_=>none
 | _,_,_=>none
def DD (s:St) (t:TypeId) (x:Operand):Option (Nat×List (Value×Value)×(Value→Bool)×TypeId):=
 match N.P.underlying t,ev s x with
 | some (.map kt et),some (.map (some id))=>match N.keys kt,s.h[id]? with
   | some kd,some (.map es)=>if eG kd es then some (id,es,kd,et) else none
   | _,_=>none
 | _,_=>none
def PG (s:St) (t:TypeId) (x i y:Operand):Option St:=
 match DD N s t x,ev s i,ev s y with
 | some (id,es,kd,_),some k,some v=>if kd k then some { s with h:=s.h.set id (av.map (iU es k v)) } else none
 | _,_,_=>none
def R6 (s:St) (d:Option Nat) (t:TypeId) (x i:Operand):Option St:=
 match DD N s t x,ev s i with
 | some (id,es,kd,et),some k=>match zeroOf N.P et with
   | some z=>if kd k then some ({ s with h:=s.h.set id (av.map (oJ es k z).2.2) }.a9 d (.val (.tuple #[(oJ es k z).1,.int .i64 (oJ es k z).2.1]))) else none
   | none=>none
 | _,_=>none
def RA (s:St) (x i y:Operand):Option St:=
 match ev s x,ev s i,ev s y with
 | some (.map (some id)),some (.int .i64 (.ofNat j)),some v=>match s.h[id]? with
   | some (.map es)=>match es[j]? with
     | some (k,_)=>some { s with h:=s.h.set id (av.map (es.set j (k,v))) }
     | none=>none
   | _=>none
 | _,_,_=>none
def Fo (all:Array Oper) (o:Oper) (s:St):Option St:=
 match aF all o s with
 | none=>none
 | some false=>some (s.a9 o.dst (.val (.tuple #[])))
 | some true=>match o.op with
   | .box t x=>(iA N s (.box t x)).map fun p=>newObj s o.dst p.1 p.2 fun a=>.pointer (some a)
   | .alloc t=>(iA N s (.alloc t)).map fun p=>newObj s o.dst p.1 p.2 fun a=>.pointer (some a)
   | .buildSlice t l ps=>(jw N s (.buildSlice t l ps)).map fun p=>newObj s o.dst p.1 p.2.1 fun a=>.slice (some a) p.2.2 p.2.2
   | .makeSlice t l c=>(zL N s (.makeSlice t l c)).map fun p=>newObj s o.dst p.1 p.2.1 fun a=>.slice (some a) p.2.2 p.2.2
   | .store t a x=>if o.dst=none then Ti N s t a x else none
   | .range t x=>match N.P.underlying t,ev s x,o.dst with
     | some (.map _ _),some (.map (some id)),some d=>match s.h[id]? with
       | some (.map es)=>some (s.put d (.nn id es.length []))
       | _=>none
     | some .string,some (.string b),some d=>some (s.put d (.xf b 0))
     | _,_,_=>none
   | .next (.tmp x) false=>match aW s.fr x with
     | .nn m n seen=>match s.h[m]? with
       | some (.map es)=>if es.length=n then (match (List.range n).filter fun j=>!seen.contains j with
         | []=>some (s.a9 o.dst (.val (.tuple #[.bool false])))
         | [i]=>match es[i]? with
           | some (k,v)=>if fT k then some ({ s with fr:=fP s.fr x (.nn m n (seen++[i])) }.a9 o.dst (.val (.tuple #[.bool true,k,v]))) else none
           | none=>none
         | _=>none) else none
       | _=>none
     | _=>none
   | .next (.tmp x) true=>match aW s.fr x with
     | .xf b p=>if p<b.size then some ({ s with fr:=fP s.fr x (.xf b (p+(Utf8.decode b p).2)) }.a9 o.dst (.val (.tuple #[.bool true,.int .i64 p,.int .i32 (Utf8.decode b p).1])))
       else some (s.a9 o.dst (.val (.tuple #[.bool false])))
     | _=>none
   | .makeMap t none=>match N.P.underlying t with
     | some (.map _ _)=>some ({ s with h:=s.h++[av.map []] }.a9 o.dst (.val (.map (some s.h.length))))
     | _=>none
   | .mapUpdate t x i y=>if o.dst=none then PG N s t x i y else none
   | .mapEntry t x i=>R6 N s o.dst t x i
   | .entryStore _ x i y=>if o.dst=none then RA s x i y else none
   | .call c=>match c.callee with
     | .builtin .append=>match c.args.toList,c.argTypes.toList with
       | [x,y],[t,t2]=>match NM N s o.dst x y t t2 with
         | some s1=>some s1
         | none=>MO N s o.dst x y t t2
       | _,_=>none
     | .builtin _=>(rz N s o.op).map fun v=>s.a9 o.dst (.val v)
     | cal=>match fH s cal,tT s c.args.toList with
       | some (f,cap),some args=>if nm f then (match call f (args++cap) s.h with
         | some (v,h')=>some ({ s with h:=h' }.a9 o.dst (.val v))
         | none=>none) else none
       | _,_=>none
   | _=>(rz N s o.op).map fun v=>s.a9 o.dst (.val v)
def HM (all:Array Oper):List Oper→St→Option St
 | [],s=>some s
 | o :: r,s=>match Fo N call nm all o s with
   | some s1=>HM all r s1
   | none=>none
def kU:Nat→Code→St→Option (AX×St)
 | 0,_,_=>none
 | n+1,c,s=>match c with
   | .skip=>some (.normal,s)
   | .label _=>some (.normal,s)
   | .exit id=>some (.exit id,s)
   | .ret=>some (.ret,s)
   | .seq a b=>match kU n a s with
     | some (.normal,s1)=>kU n b s1
     | r=>r
   | .cond c x y=>match ev s c with
     | some (.bool true)=>kU n x s
     | some (.bool false)=>kU n y s
     | _=>none
   | .block id c=>match kU n c s with
     | some (e,s1)=>some (e.inBlock id,s1)
     | none=>none
   | .scope c=>kU n c s
   | .loop c=>match kU n c s with
     | some (.normal,s1)=>kU n (.loop c) s1
     | r=>r
   | .region _ ops false=>match HM N call nm ops ops.toList { s with eH:=[] } with
     | some s1=>some (.normal,s1)
     | none=>none
   | .region _ ops true=>match dr ops s with
     | some s1=>some (.normal,s1)
     | none=>none
   | _=>none
end
section
variable {N:Env} {call:FuncId→List Value→ah→Option (Value×ah)} {nm:FuncId→Bool}
def jm (N:Env) (call:FuncId→List Value→ah→Option (Value×ah)):Prop:=∀ f a h r h',call f a h=some (r,h')→(∃ fn,N.P.funcs[f]? = some fn∧fn.body.isNone=false)∧Ev N (.call f a h r h')
def sB (N:Env) (nm:FuncId→Bool):Prop:=∀ f fn,nm f=true→N.P.funcs[f]? = some fn→(fn.name == "runtime.NumGoroutine")=false
theorem zZ {all:Array Oper} {o:Oper} {r:List Oper} {s s1 s2:St} {x y:Operand} {t t2:TypeId} {c:Call} (hw:aF all o s=some true) (ho:o.op = .call c) (hc:c.callee = .builtin .append) (hx:c.args.toList=[x,y]) (ht:c.argTypes.toList=[t,t2]) (h:MO N s o.dst x y t t2=some s1) (k:Ev N (.ops all r s1 s2)):Ev N (.ops all (o :: r) s s2):=by{
have ho':o.op = .call { callee:=.builtin .append,args:=#[x,y],argTypes:=#[t,t2] }:=by
 rw[ho]
 cases c with
 | mk cal a ty=>
   simp only at hc hx ht
   subst hc
   rw[show a=#[x,y] from Array.toList_inj.1 hx,show ty=#[t,t2] from Array.toList_inj.1 ht]
unfold MO at h
split at h
·rename_i e hu
 split at h
 ·rename_i ti hti
  split at h
  ·rename_i hq
   obtain⟨q1,q2,q3⟩:=hq
   split at h
   ·rename_i cs m hi
    split at h
    ·rename_i hv
     split at h
     ·rename_i hm
      cases h
      exact .oF hw ho' hu q1 hti q2 q3 hv hi hm.1 hm.2.1 hm.2.2 k
     ·cases h
    ·rename_i id ar n cp hv
     split at h
     ·rename_i cells ver' et hid
      split at h
      ·rename_i hm
       obtain⟨rfl,rfl,m1,m2,m3⟩:=hm
       cases h
       exact .uR hw ho' hu q1 hti q2 q3 hv hid m1 hi m2 m3 k
      ·cases h
     ·cases h
    ·cases h
   ·cases h
  ·cases h
 ·cases h
·cases h}
theorem AD {all:Array Oper} {o:Oper} {r:List Oper} {s s1 s2:St} {x y:Operand} {t t2:TypeId} {c:Call} (hw:aF all o s=some true) (ho:o.op = .call c) (hc:c.callee = .builtin .append) (hx:c.args.toList=[x,y]) (ht:c.argTypes.toList=[t,t2]) (h:NM N s o.dst x y t t2=some s1) (k:Ev N (.ops all r s1 s2)):Ev N (.ops all (o :: r) s s2):=by{
have ho':o.op = .call { callee:=.builtin .append,args:=#[x,y],argTypes:=#[t,t2] }:=by
 rw[ho]
 cases c with
 | mk cal a ty=>
   simp only at hc hx ht
   subst hc
   rw[show a=#[x,y] from Array.toList_inj.1 hx,show ty=#[t,t2] from Array.toList_inj.1 ht]
unfold NM at h
split at h
·rename_i e p n c1 q c2 hu h1 h2
 split at h
 ·rename_i ti hti
  split at h
  ·rename_i he
   cases h
   exact .s9 hw ho' hu he hti h1 h2 k
  ·cases h
 ·cases h
·cases h}
theorem sj {all:Array Oper} {o:Oper} {r:List Oper} {s s1 s2:St} (hw:aF all o s=some true) (h:((iA N s o.op).map fun p=>newObj s o.dst p.1 p.2 fun a=>.pointer (some a))=some s1) (k:Ev N (.ops all r s1 s2)):Ev N (.ops all (o :: r) s s2):=by{
cases hb:iA N s o.op with
| none=>simp [hb] at h
| some p=>
  simp only[hb,Option.map_some,Option.some.injEq] at h
  subst h
  exact .pE hw hb k}
theorem l8 {s:St} {t:TypeId} {x:Operand} {id:Nat} {es:List (Value×Value)} {kd:Value→Bool} {et:TypeId} (h:DD N s t x=some (id,es,kd,et)) : ∃ kt,N.P.underlying t=some (.map kt et)∧N.keys kt=some kd∧ev s x=some (.map (some id))∧s.h[id]? = some (.map es)∧eG kd es=true:=by{
unfold DD at h
split at h
·rename_i kt et' id' hu hx
 split at h
 ·rename_i kd' es' hk hid
  split at h
  ·rename_i hm
   cases h
   exact⟨kt,hu,hk,hx,hid,hm⟩
  ·cases h
 ·cases h
·cases h}
theorem yN (hC:jm N call) (hn:sB N nm) {all:Array Oper} {o:Oper} {r:List Oper} {s s1 s2:St} (h:Fo N call nm all o s=some s1) (k:Ev N (.ops all r s1 s2)):Ev N (.ops all (o :: r) s s2):=by{
unfold Fo at h
split at h
·cases h
·rename_i hw
 cases h
 exact .pa hw k
·rename_i hw
 split at h
 ·rename_i t x ho
  exact sj hw (by rw[ho];exact h) k
 ·rename_i t ho
  exact sj hw (by rw[ho];exact h) k
 ·rename_i t l ps ho
  cases hb:jw N s (.buildSlice t l ps) with
  | none=>simp [hb] at h
  | some p=>
    simp only[hb,Option.map_some,Option.some.injEq] at h
    subst h
    exact .o6 hw (by rw[ho];exact hb) k
 ·rename_i t l c ho
  cases hb:zL N s (.makeSlice t l c) with
  | none=>simp [hb] at h
  | some p=>
    simp only[hb,Option.map_some,Option.some.injEq] at h
    subst h
    exact .DS hw (by rw[ho];exact hb) k
 ·rename_i t a x ho
  split at h
  ·rename_i hd
   unfold Ti at h
   split at h
   ·rename_i ti id off ar v ht ha hx
    split at h
    ·rename_i cells ver' et vs hid hv
     split at h
     ·rename_i hver
      subst hver
      cases hq:Am.ll cells off vs with
      | none=>simp [hq] at h
      | some cells'=>
        simp only[hq,Option.map_some,Option.some.injEq] at h
        subst h
        exact .pz hw ho ht ha hid hx hv hq hd k
     ·cases h
    ·cases h
   ·cases h
  ·cases h
 ·rename_i t x ho
  split at h
  ·rename_i kt et id d hu hx hd
   split at h
   ·rename_i es hid
    cases h
    exact .mj hw hd ho hu hx hid k
   ·cases h
  ·rename_i b d hu hx hd
   cases h
   exact .j7 hw hd ho hu hx k
  ·cases h
 ·rename_i x ho
  split at h
  ·rename_i m n seen hx
   split at h
   ·rename_i es hid
    split at h
    ·rename_i hl
     split at h
     ·rename_i hf
      cases h
      exact .rv hw ho hx hid hl hf k
     ·rename_i i hf
      split at h
      ·rename_i kk vv hkv
       split at h
       ·rename_i hp
        cases h
        exact .qZ hw ho hx hid hl hf hkv hp k
       ·cases h
      ·cases h
     ·cases h
    ·cases h
   ·cases h
  ·cases h
 ·rename_i x ho
  split at h
  ·rename_i b p hx
   split at h
   ·rename_i hp
    cases h
    exact .nL hw ho hx hp rfl k
   ·rename_i hp
    cases h
    exact .nQ hw ho hx (by omega) k
  ·cases h
 ·rename_i t ho
  split at h
  ·rename_i kt et hu
   cases h
   exact .uJ hw ho hu k
  ·cases h
 ·rename_i t x i y ho
  split at h
  ·rename_i hd
   unfold PG at h
   split at h
   ·rename_i id es kd et kk v hm hk hv
    split at h
    ·rename_i hkk
     cases h
     obtain⟨kt,hu,hkd,hx,hid,hmk⟩:=l8 hm
     exact .um hw ho hu hkd hx hid hk hv hkk hmk hd k
    ·cases h
   ·cases h
  ·cases h
 ·rename_i t x i ho
  unfold R6 at h
  split at h
  ·rename_i id es kd et kk hm hk
   split at h
   ·rename_i z hz
    split at h
    ·rename_i hkk
     cases h
     obtain⟨kt,hu,hkd,hx,hid,hmk⟩:=l8 hm
     exact .zC hw ho hu hkd hz hx hid hk hkk hmk rfl k
    ·cases h
   ·cases h
  ·cases h
 ·rename_i t x i y ho
  split at h
  ·rename_i hd
   unfold RA at h
   split at h
   ·rename_i id j v hx hi hv
    split at h
    ·rename_i es hid
     split at h
     ·rename_i kk u hj
      cases h
      exact .xM hw ho hx hid hi hv hj hd k
     ·cases h
    ·cases h
   ·cases h
  ·cases h
 ·rename_i c ho
  split at h
  ·rename_i hc
   split at h
   ·rename_i x y t t2 hx ht
    split at h
    ·rename_i s3 h3
     cases h
     exact AD hw ho hc hx ht h3 k
    ·exact zZ hw ho hc hx ht h k
   ·cases h
  ·rename_i b hb
   cases hv:rz N s o.op with
   | none=>simp [hv] at h
   | some v=>
     simp only[hv,Option.map_some,Option.some.injEq] at h
     subst h
     exact .rP hw hv k
  ·split at h
   ·rename_i f cap args hcal hargs
    split at h
    ·rename_i hnm
     split at h
     ·rename_i v h' hcall
      cases h
      obtain⟨⟨fn,h1,h2⟩,h3⟩:=hC _ _ _ _ _ hcall
      exact .oM hw ho hcal hargs h1 (hn _ _ hnm h1) h2 h3 k
     ·cases h
    ·cases h
   ·cases h
 ·cases hv:rz N s o.op with
  | none=>simp [hv] at h
  | some v=>
    simp only[hv,Option.map_some,Option.some.injEq] at h
    subst h
    exact .rP hw hv k}
theorem rM (hC:jm N call) (hn:sB N nm) {all:Array Oper}:∀ {l:List Oper} {s s1:St},HM N call nm all l s=some s1→Ev N (.ops all l s s1)
 | [],s,s1,h=>by
   cases h
   exact .nil all s
 | o :: r,s,s1,h=>by
   simp only[HM] at h
   split at h
   ·rename_i s2 h2
    exact yN hC hn h2 (rM hC hn h)
   ·cases h
def LY (N:Env) (dr:Array Oper→St→Option St):Prop:=∀ id ops s s1,dr ops s=some s1→Ev N (.code (.region id ops true) s .normal s1)
theorem cY {dr:Array Oper→St→Option St} (hm:LY N dr) (hC:jm N call) (hn:sB N nm):∀ {n:Nat} {c:Code} {s s1:St} {e:AX},kU N call nm dr n c s=some (e,s1)→Ev N (.code c s e s1)∧∀ b,c = .loop b→Ev N (.iter b s e s1)
 | 0,_,_,_,_,h=>by cases h
 | n+1,c,s,s1,e,h=>by
   unfold kU at h
   split at h
   ·cases h;exact⟨.skip _,fun b hb=>by cases hb⟩
   ·cases h;exact⟨.label _ _,fun b hb=>by cases hb⟩
   ·cases h;exact⟨.exit _ _,fun b hb=>by cases hb⟩
   ·cases h;exact⟨.ret _,fun b hb=>by cases hb⟩
   ·refine⟨?_,fun b hb=>by cases hb⟩
    split at h
    ·rename_i s2 h2
     exact .NB (cY hm hC hn h2).1 (cY hm hC hn h).1
    ·rename_i h2
     exact .IR (cY hm hC hn h).1 (by rintro rfl;exact h2 _ h)
   ·refine⟨?_,fun b hb=>by cases hb⟩
    split at h
    ·rename_i hc
     exact .cond hc (cY hm hC hn h).1
    ·rename_i hc
     exact .cond hc (cY hm hC hn h).1
    ·cases h
   ·refine⟨?_,fun b hb=>by cases hb⟩
    split at h
    ·rename_i e s2 h2
     cases h
     exact .block (cY hm hC hn h2).1
    ·cases h
   ·exact⟨.scope (cY hm hC hn h).1,fun b hb=>by cases hb⟩
   ·rename_i c
    have key:Ev N (.iter c s e s1):=by
     split at h
     ·rename_i s2 h2
      exact .GI (cY hm hC hn h2).1 ((cY hm hC hn h).2 _ rfl)
     ·rename_i h2
      exact .Bh (cY hm hC hn h).1 (by rintro rfl;exact h2 _ h)
    exact⟨.loop key,fun b hb=>by cases hb;exact key⟩
   ·refine⟨?_,fun b hb=>by cases hb⟩
    split at h
    ·rename_i s2 h2
     cases h
     exact .region (rM hC hn h2)
    ·cases h
   ·refine⟨?_,fun b hb=>by cases hb⟩
    split at h
    ·rename_i s2 h2
     cases h
     exact hm _ _ _ _ h2
    ·cases h
   ·cases h
theorem za {dr:Array Oper→St→Option St} (hm:LY N dr) (hC:jm N call) (hn:sB N nm) {n:Nat} {c:Code} {s s1:St} {e:AX} (h:kU N call nm dr n c s=some (e,s1)):Ev N (.code c s e s1):=(cY hm hC hn h).1
end
structure fL (s0 s:St):Prop where
 h:s0.h=s.h
 f:∀ t,aW s0.fr t = .dH∨aW s.fr t=aW s0.fr t
 e:∀ t p,gn s0.eH t=some p→gn s.eH t=some p
 n:∀ t,aW s0.fr t≠.dH→gn s.eH t=gn s0.eH t
section
variable {N:Env} {s0 s:St}
theorem fL.fg (H:fL s0 s) {t:Nat} {sl:gu} (h:aW s0.fr t=sl) (hn:sl≠.dH):aW s.fr t=sl:=by{
rcases H.f t with h1|h1
·exact (hn (h.symm.trans h1)).elim
·exact h1.trans h}
theorem aY (H:fL s0 s) {x:Operand} {v:Value} (h:ev s0 x=some v):ev s x=some v:=by{
cases x with
| tmp t=>
  simp only[ev] at h ⊢
  split at h
  ·rename_i u hu
   rw[H.fg hu (by simp)]
   exact h
  ·cases h
| const k=>exact h
| func f=>exact h
| global g=>exact h}
theorem jZ (H:fL s0 s) {x:Operand} {p:Nat×Nat} (h:pF s0 x=some p):pF s x=some p:=by{
cases x with
| tmp t=>
  simp only[pF] at h ⊢
  split at h
  ·rename_i q hq
   rw[H.e _ _ hq]
   exact h
  ·cases h
  ·rename_i hq
   split at h
   ·rename_i cs hb
    rw[H.n t (by rw[hb];simp),hq,H.fg hb (by simp)]
    exact h
   ·cases h
| const k=>exact h
| func f=>exact h
| global g=>exact h}
theorem E3 (H:fL s0 s) {x:Operand} {v:Value} (h:ev s0 x=some v):pF s x=pF s0 x:=by{
cases x with
| tmp t=>
  simp only[ev] at h
  split at h
  ·rename_i u hu
   simp only[pF,H.n t (by rw[hu];simp),H.fg hu (by simp),hu]
  ·cases h
| const k=>rfl
| func f=>rfl
| global g=>rfl}
theorem oj (H:fL s0 s):∀ {l:List Operand} {v:List Value},tT s0 l=some v→tT s l=some v
 | [],_,h=>h
 | x :: r,v,h=>by
   simp only[tT] at h ⊢
   split at h
   ·rename_i a b h1 h2
    rw[aY H h1,oj H h2]
    exact h
   ·cases h
theorem kN (H:fL s0 s):∀ {l:List (Nat×Operand)} {v:List (Nat×Value)},iD s0 l=some v→iD s l=some v
 | [],_,h=>h
 | (i,x) :: r,v,h=>by
   simp only[iD] at h ⊢
   split at h
   ·rename_i a b h1 h2
    rw[aY H h1,kN H h2]
    exact h
   ·cases h
theorem nB (H:fL s0 s) {d:Int} {x:Option Operand} {v:Int} (h:F3 s0 d x=some v):F3 s d x=some v:=by{
cases x with
| none=>exact h
| some x=>
  simp only[F3] at h ⊢
  split at h
  ·rename_i k n h1
   rw[aY H h1]
   exact h
  ·cases h}
theorem zB (H:fL s0 s) {t:Nat} {cs:List Value} (h:aW s0.fr t = .box cs):aW s.fr t = .box cs:=H.fg h (by simp)
theorem Ad (H:fL s0 s) {t:TypeId} {a:Operand} {v:Value} (h:pQ N s0 t a=some v):pQ N s t a=some v:=by{
unfold pQ at h ⊢
split at h
·cases h
·rename_i ti hti
 split at h
 ·rename_i sl off hp
  rw[jZ H hp]
  simp only
  split at h
  ·rename_i cs hb
   rw[zB H hb]
   exact h
  ·cases h
 ·rename_i hp
  split at h
  ·rename_i ad he
   rw[E3 H he,hp,aY H he,← H.h]
   exact h
  ·cases h}
theorem qQ (H:fL s0 s) {t:TypeId} {x:Operand} {f:Nat} {v:Value} (h:gi N s0 t x f=some v):gi N s t x f=some v:=by{
unfold gi at h ⊢
split at h
·rename_i h1 h2
 rw[h1,aY H h2]
 exact h
·cases h}
theorem qK (H:fL s0 s) {t:TypeId} {x i:Operand} {v:Value} (h:gv N s0 t x i=some v):gv N s t x i=some v:=by{
unfold gv at h ⊢
split at h
·rename_i h1 h2 h3
 rw[h1,aY H h2,aY H h3]
 exact h
·rename_i h1 h2 h3
 rw[h1,aY H h2,aY H h3]
 exact h
·cases h}
theorem yH (H:fL s0 s) {t:TypeId} {x:Operand} {f:Nat} {v:Value} (h:mZ N s0 t x f=some v):mZ N s t x f=some v:=by{
unfold mZ at h ⊢
split at h
·rename_i h1 h2
 rw[h1,aY H h2]
 exact h
·cases h}
theorem xG (H:fL s0 s) {t:TypeId} {x i:Operand} {v:Value} (h:lG N s0 t x i=some v):lG N s t x i=some v:=by{
unfold lG at h ⊢
split at h
·rename_i h1 h2 h3
 rw[h1,aY H h2,aY H h3]
 exact h
·rename_i h1 h2 h3
 rw[h1,aY H h2,aY H h3]
 exact h
·cases h}
theorem zf (H:fL s0 s) {t:TypeId} {x:Operand} {lo hi:Option Operand} {v:Value} (h:mK N s0 t x lo hi=some v):mK N s t x lo hi=some v:=by{
unfold mK at h ⊢
split at h
·rename_i h1 h2
 rw[h1,aY H h2]
 simp only
 split at h
 ·rename_i h3 h4 h5
  rw[h3,nB H h4,nB H h5,← H.h]
  exact h
 ·cases h
·rename_i h1 h2
 rw[h1,aY H h2]
 simp only
 split at h
 ·rename_i h3 h4
  rw[nB H h3,nB H h4]
  exact h
 ·cases h
·cases h}
theorem ye (H:fL s0 s) {t:TypeId} {ps:Array (Nat×Operand)} {v:Value} (h:mS N s0 t ps=some v):mS N s t ps=some v:=by{
unfold mS at h ⊢
split at h
·rename_i h1 h2
 rw[h1,kN H h2]
 exact h
·cases h}
theorem tY (H:fL s0 s) {b:Builtin} {args:Array Operand} {tys:Array TypeId} {v:Value} (h:jl N s0 b args tys=some v):jl N s b args tys=some v:=by{
unfold jl at h ⊢
cases he:tT s0 args.toList with
| none=>rw[he] at h;split at h<;>simp_all
| some l=>rw[he] at h;rw[oj H he];exact h}
theorem rK (H:fL s0 s) {c z:Operand} {t want:Bool} {u:Value} (h:j9 s0 c t want z=some u):j9 s c t want z=some u:=by{
cases z with
| tmp r=>
  simp only[j9] at h ⊢
  split at h
  ·rename_i v hv
   rw[H.fg hv (by simp)]
   exact h
  ·rename_i d w q v hv
   rw[H.fg hv (by simp)]
   exact h
  ·cases h
| const k=>exact h
| func f=>exact h
| global g=>exact h}
theorem yK {c z:Operand} {t want:Bool} {u:Value} (h:ev s z=some u):j9 s c t want z=some u:=by{
cases z with
| tmp r=>
  simp only[ev] at h
  split at h
  ·rename_i v hv
   simp only[j9,hv]
   exact h
  ·cases h
| const k=>exact h
| func f=>exact h
| global g=>exact h}
theorem Aq (H:fL s0 s) {c x y:Operand} {t:Bool} {v:Value} (h:tD s0 c t x y=some v):tD s c t x y=some v:=by{
unfold tD at h ⊢
split at h
·rename_i a b h1 h2
 rw[rK H h1,rK H h2]
 exact h
·cases t with
 | true=>
   simp only at h
   have h1:=aY H h
   rw[yK (c:=c) (t:=true) (want:=true) h1]
   split
   ·rename_i a b h2 h3
    cases h2
    rfl
   ·exact h1
 | false=>
   simp only at h
   have h1:=aY H h
   rw[yK (c:=c) (t:=false) (want:=false) h1]
   split
   ·rename_i a b h2 h3
    cases h3
    rfl
   ·exact h1}
theorem Ae (H:fL s0 s) {m:Value}:mapOf s m=mapOf s0 m:=by
 unfold mapOf
 rw[H.h]
theorem Ak (H:fL s0 s) {t:TypeId} {x i:Operand} {ok:Bool} {v:Value} (h:tK N s0 t x i ok=some v):tK N s t x i ok=some v:=by{
unfold tK at h ⊢
split at h
·rename_i h1 h2 h3
 rw[h1,aY H h2,aY H h3]
 simp only[Ae H]
 exact h
·cases h}
theorem CL (H:fL s0 s) {x:Operand} {v:Value} (h:AM s0 x=some v):AM s x=some v:=by{
unfold AM at h ⊢
split at h
·split at h
 ·rename_i h1
  simp only[H.fg h1 (by simp),← H.h]
  exact h
 ·cases h
·cases h}
theorem Gy (H:fL s0 s) {o:Op} {v:Value} (h:rz N s0 o=some v):rz N s o=some v:=by{
unfold rz at h ⊢
split at h
·exact aY H h
·exact aY H h
·split at h
 ·rename_i t hc
  simp only[aY H hc]
  exact Aq H h
 ·cases h
·exact ye H h
·exact Ad H h
·split at h
 ·rename_i h1 h2
  simp only[aY H h1,aY H h2]
  exact h
 ·cases h
·split at h
 ·rename_i h1
  simp only[aY H h1]
  exact h
 ·cases h
·split at h
 ·rename_i h1
  simp only[aY H h1,← H.h]
  exact h
 ·cases h
·exact qQ H h
·exact qK H h
·exact yH H h
·exact xG H h
·exact zf H h
·exact Ak H h
·split at h
 ·rename_i h1
  simp only[aY H h1]
  exact h
 ·cases h
·split at h
 ·rename_i h1
  cases he:tT s0 _ with
  | none=>rw[he] at h;cases h
  | some l=>
    rw[he] at h
    simp only[h1,if_true,oj H he]
    exact h
 ·cases h
·split at h
 ·rename_i b hb
  try simp only[hb]
  exact tY H h
 ·cases h
·split at h
 ·rename_i h1
  simp only[aY H h1]
  exact h
 ·rename_i h1
  simp only[aY H h1]
  exact h
 ·cases h
·exact CL H h
·cases h}
theorem F8 (H:fL s0 s) {o:Op} {p:Nat×Nat} (h:xx N s0 o=some p):xx N s o=some p:=by{
unfold xx at h ⊢
split at h
·split at h
 ·rename_i h1 h2
  simp only[h1,jZ H h2]
  exact h
 ·cases h
·split at h
 ·rename_i h1 h2 h3
  simp only[h1,jZ H h2,aY H h3]
  exact h
 ·cases h
·exact jZ H h
·exact jZ H h
·cases h}
theorem bd (H:fL s0 s) {all:Array Oper} {o:Oper} {b:Bool} (h:aF all o s0=some b):aF all o s=some b:=by{
unfold aF at h ⊢
split at h
·rename_i hg
 try simp only[hg]
 exact h
·rename_i j want hg
 try simp only[hg]
 split at h
 ·rename_i hj
  try simp only[hj]
  exact h
 ·rename_i q hj
  try simp only[hj]
  split at h
  ·rename_i hd
   try simp only[hd]
   exact h
  ·rename_i d hd
   try simp only[hd]
   split at h
   ·rename_i c hc
    rw[H.fg hc (by simp)]
    exact h
   ·rename_i c hc
    rw[H.fg hc (by simp)]
    exact h
   ·cases h}
theorem vD (H:fL s0 s) {o:Op} {p:TypeId×List Value} (h:iA N s0 o=some p):iA N s o=some p:=by{
unfold iA at h ⊢
split at h
·exact h
·split at h
 ·rename_i h1 h2
  simp only[h1,aY H h2]
  exact h
 ·cases h
·cases h}
theorem uH (H:fL s0 s) {o:Op} {p:TypeId×List Value×Nat} (h:jw N s0 o=some p):jw N s o=some p:=by{
unfold jw at h ⊢
split at h
·split at h
 ·rename_i h0
  try simp only[h0]
  split at h
  ·rename_i h1 h2
   simp only[h1,kN H h2]
   exact h
  ·cases h
 ·cases h
·cases h}
theorem yY (H:fL s0 s) {o:Op} {p:TypeId×List Value×Nat} (h:zL N s0 o=some p):zL N s o=some p:=by{
unfold zL at h ⊢
split at h
·split at h
 ·rename_i h0 h1 h2
  simp only[h0,aY H h1,aY H h2]
  exact h
 ·cases h
·cases h}
theorem qf (H:fL s0 s) {h0:ah} {sz:Nat} {y:Operand} {p:List Value×Nat} (h:cd s0 h0 sz y=some p):cd s h0 sz y=some p:=by{
unfold cd at h ⊢
split at h
·split at h
 ·rename_i hb
  simp only[H.fg hb (by simp)]
  exact h
 ·rename_i hb
  simp only[H.fg hb (by simp)]
  exact h
 ·cases h
·cases h}
theorem w8 (H:fL s0 s) {c:Callee} {p:FuncId×List Value} (h:fH s0 c=some p):fH s c=some p:=by{
unfold fH at h ⊢
split at h
·split at h
 ·rename_i h1
  simp only[aY H h1]
  exact h
 ·cases h
·cases h}
inductive gD where
 | sl (v:gu)
 | ep (sl off:Nat)
def wC (s:St) (d:Option Nat) (r:gD) (h:ah):St:=
 match d,r with
 | some d,.sl v=>⟨fP s.fr d v,eX s.eH d,h⟩
 | some d,.ep sl off=>⟨fP s.fr d .dH,(d,([],(sl,off))) :: eX s.eH d,h⟩
 | none,_=>⟨s.fr,s.eH,h⟩
inductive One (N:Env) (all:Array Oper) (o:Oper) (s:St):gD→ah→Prop
 | skip:aF all o s=some false→One N all o s (.sl (.val (.tuple #[]))) s.h
 | val {v:Value}:aF all o s=some true→rz N s o.op=some v→One N all o s (.sl (.val v)) s.h
 | eH {d sl off:Nat}:aF all o s=some true→o.dst=some d→xx N s o.op=some (sl,off)→sl≠d→One N all o s (.ep sl off) s.h
 | mx {d n:Nat} {t:TypeId} {cs:List Value}:aF all o s=some true→o.dst=some d→jw N s o.op=some (t,cs,n)→One N all o s (.sl (.mx cs n)) s.h
 | box {d:Nat} {t:TypeId} {cs:List Value}:aF all o s=some true→o.dst=some d→iA N s o.op=some (t,cs)→One N all o s (.sl (.box cs)) s.h
 | Vx {d n:Nat} {t:TypeId} {cs:List Value}:aF all o s=some true→o.dst=some d→zL N s o.op=some (t,cs,n)→One N all o s (.sl (.Eo (.aA cs 0 true t) n)) s.h
 | NW {d:Nat} {t kt et:TypeId}:aF all o s=some true→o.dst=some d→o.op = .makeMap t none→N.P.underlying t=some (.map kt et)→One N all o s (.sl (.Eo (.map []) 0)) s.h
 | cg {d id:Nat} {t kt et:TypeId} {x:Operand} {es:List (Value×Value)}:aF all o s=some true→o.dst=some d→o.op = .range t x→N.P.underlying t=some (.map kt et)→ev s x=some (.map (some id))→s.h[id]? = some (.map es)→One N all o s (.sl (.nn id es.length [])) s.h
 | Lp {d:Nat} {t:TypeId} {x:Operand} {b:ByteArray}:aF all o s=some true→o.dst=some d→o.op = .range t x→N.P.underlying t=some .string→ev s x=some (.string b)→One N all o s (.sl (.xf b 0)) s.h
 | GR {t:TypeId} {cs:List Value}:aF all o s=some true→iA N s o.op=some (t,cs)→One N all o s (.sl (.val (.pointer (some ⟨s.h.length,0,some 0⟩)))) (s.h++[av.aA cs 0 true t])
 | Fv {n:Nat} {t:TypeId} {cs:List Value}:aF all o s=some true→jw N s o.op=some (t,cs,n)→One N all o s (.sl (.val (.slice (some ⟨s.h.length,0,some 0⟩) n n))) (s.h++[av.aA cs 0 true t])
 | mk {n:Nat} {t:TypeId} {cs:List Value}:aF all o s=some true→zL N s o.op=some (t,cs,n)→One N all o s (.sl (.val (.slice (some ⟨s.h.length,0,some 0⟩) n n))) (s.h++[av.aA cs 0 true t])
 | jP {t et:TypeId} {a x:Operand} {ti:TI} {id off ar:Nat} {cells vs cells':List Value} {v:Value} {r:gD}:aF all o s=some true →
  o.op = .store t a x→aq N.P t=some ti→ev s a=some (.pointer (some ⟨id,off,some ar⟩))→s.h[id]? = some (.aA cells ar true et)→ev s x=some v→dO ti.size v=some vs →
  ll cells off vs=some cells'→o.dst=none→One N all o s r (s.h.set id (av.aA cells' ar true et))
 | map {t kt et:TypeId}:aF all o s=some true→o.op = .makeMap t none→N.P.underlying t=some (.map kt et)→One N all o s (.sl (.val (.map (some s.h.length)))) (s.h++[av.map []])
 | Cb {t kt et:TypeId} {x i y:Operand} {id:Nat} {es:List (Value×Value)} {kd:Value→Bool} {k v:Value} {r:gD}:aF all o s=some true →
  o.op = .mapUpdate t x i y→N.P.underlying t=some (.map kt et)→N.keys kt=some kd→ev s x=some (.map (some id))→s.h[id]? = some (.map es)→ev s i=some k→ev s y=some v→kd k=true→eG kd es=true→o.dst=none →
  One N all o s r (s.h.set id (av.map (iU es k v)))
 | yG {t kt et:TypeId} {x i:Operand} {id j:Nat} {es es':List (Value×Value)} {kd:Value→Bool} {k z v:Value}:aF all o s=some true →
  o.op = .mapEntry t x i→N.P.underlying t=some (.map kt et)→N.keys kt=some kd→zeroOf N.P et=some z→ev s x=some (.map (some id))→s.h[id]? = some (.map es)→ev s i=some k→kd k=true→eG kd es=true→oJ es k z=(v,j,es') →
  One N all o s (.sl (.val (.tuple #[v,.int .i64 j]))) (s.h.set id (av.map es'))
 | OQ {t:TypeId} {x y i:Operand} {id j:Nat} {es:List (Value×Value)} {k u v:Value} {r:gD}:aF all o s=some true →
  o.op = .entryStore t x i y→ev s x=some (.map (some id))→s.h[id]? = some (.map es)→ev s i=some (.int .i64 j)→ev s y=some v→es[j]? = some (k,u)→o.dst=none →
  One N all o s r (s.h.set id (av.map (es.set j (k,v))))
 | y5 {x y:Operand} {t t2 e:TypeId} {ti:TI} {cs:List Value} {m:Nat}:aF all o s=some true →
  o.op = .call { callee:=.builtin .append,args:=#[x,y],argTypes:=#[t,t2] }→N.P.underlying t=some (.slice e)→t2=t→aq N.P e=some ti→0<ti.size →
  (ti.zero.map fun z=>z.cells.size)=some ti.size→ev s x=some (.slice none 0 0)→cd s s.h ti.size y=some (cs,m)→0<m→m*ti.bytes≤140737488355328→m≤140737488355328 →
  One N all o s (.sl (.val (.slice (some ⟨s.h.length,0,some 0⟩) m m))) (s.h++[av.aA cs 0 true e])
 | KF {x y:Operand} {t t2 e:TypeId} {ti:TI} {cs cells:List Value} {m n c id ar:Nat}:aF all o s=some true →
  o.op = .call { callee:=.builtin .append,args:=#[x,y],argTypes:=#[t,t2] }→N.P.underlying t=some (.slice e)→t2=t→aq N.P e=some ti→0<ti.size →
  (ti.zero.map fun z=>z.cells.size)=some ti.size→ev s x=some (.slice (some ⟨id,0,some ar⟩) n c)→s.h[id]? = some (.aA cells ar true e)→n*ti.size≤cells.length →
  cd s s.h ti.size y=some (cs,m)→(n+m)*ti.bytes≤140737488355328→n+m≤140737488355328 →
  One N all o s (.sl (.val (.slice (some ⟨id,0,some (ar+1)⟩) (n+m) (n+m)))) (s.h.set id (av.aA (cells.take (n*ti.size)++cs) (ar+1) true e))
 | Fg {x y:Operand} {t t2 e:TypeId} {ti:TI} {b:ByteArray}:aF all o s=some true →
  o.op = .call { callee:=.builtin .append,args:=#[x,y],argTypes:=#[t,t2] }→N.P.underlying t=some (.slice e)→N.P.underlying t2=some .string→aq N.P e=some ti→ti.size=1→ti.bytes=1→ti.zero=some (.int .u8 0) →
  ev s x=some (.slice none 0 0)→ev s y=some (.string b)→0<b.size→b.size≤140737488355328 →
  One N all o s (.sl (.val (.slice (some ⟨s.h.length,0,some 0⟩) b.size b.size))) (s.h++[av.aA (bL b) 0 true e])
 | ML {x y:Operand} {t t2 e:TypeId} {ti:TI} {cells:List Value} {n c id ar:Nat} {b:ByteArray}:aF all o s=some true →
  o.op = .call { callee:=.builtin .append,args:=#[x,y],argTypes:=#[t,t2] }→N.P.underlying t=some (.slice e)→N.P.underlying t2=some .string→aq N.P e=some ti→ti.size=1→ti.bytes=1→ti.zero=some (.int .u8 0) →
  ev s x=some (.slice (some ⟨id,0,some ar⟩) n c)→s.h[id]? = some (.aA cells ar true e)→n≤cells.length→ev s y=some (.string b)→n+b.size≤140737488355328 →
  One N all o s (.sl (.val (.slice (some ⟨id,0,some (ar+1)⟩) (n+b.size) (n+b.size)))) (s.h.set id (av.aA (cells.take n++bL b) (ar+1) true e))
 | Vh {t t2 e:TypeId} {ti:TI} {x:Operand} {b:ByteArray}:aF all o s=some true→o.op = .convert t t2 x→N.P.underlying t=some .string→N.P.underlying t2=some (.slice e)→N.P.underlying e=some (.int .u8) →
  aq N.P e=some ti→ti.size=1→ev s x=some (.string b)→b.size≤140737488355328 →
  One N all o s (.sl (.val (.slice (some ⟨s.h.length,0,some 0⟩) b.size b.size))) (s.h++[av.aA (bL b) 0 false e])
 | Km {t t2 e:TypeId} {ti:TI} {x y:Operand} {b:ByteArray} {id ar:Nat} {cells:List Value}:aF all o s=some true→o.op = .call { callee:=.builtin .unsafeString,args:=#[x,y],argTypes:=#[t,t2] } →
  N.P.underlying t=some (.pointer e)→aq N.P e=some ti→ti.size=1→ev s x=some (.pointer (some ⟨id,0,some ar⟩))→s.h[id]? = some (.aA cells ar true e)→ev s y=some (.int .i64 b.size)→0<b.size→b.size≤140737488355328→cells.take b.size=bL b →
  One N all o s (.sl (.val (.string b))) (s.h.set id (av.aA cells ar false e))
 | call {c:Call} {f:FuncId} {cap args:List Value} {fn:Func} {v:Value} {h':ah}:aF all o s=some true →
  o.op = .call c→fH s c.callee=some (f,cap)→tT s c.args.toList=some args→N.P.funcs[f]? = some fn→(fn.name == "runtime.NumGoroutine")=false→fn.body.isNone=false →
  Ev N (.call f (args++cap) s.h v h')→One N all o s (.sl (.val v)) h'
theorem dW {d:Option Nat} {v:Value} {h:ah}:({ s with h:=h }).a9 d (.val v)=wC s d (.sl (.val v)) h:=by
 cases d<;>rfl
theorem One.ev {all:Array Oper} {o:Oper} {r:gD} {h':ah} (k:One N all o s r h'):Ev N (.ops all [o] s (wC s o.dst r h')):=by{
cases k with
| skip hw=>exact .pa hw (by rw[← dW];exact .nil _ _)
| val hw hv=>exact .rP hw hv (by rw[← dW];exact .nil _ _)
| eH hw hd he hne=>exact .xE hw hd he hne (by rw[hd];exact .nil _ _)
| mx hw hd hb=>exact .xI hw hd hb (by rw[hd];exact .nil _ _)
| box hw hd hb=>exact .uL hw hd hb (by rw[hd];exact .nil _ _)
| Vx hw hd hb=>exact .BV hw hd hb (by rw[hd];exact .nil _ _)
| NW hw hd ho hu=>exact .xv hw hd ho hu (by rw[hd];exact .nil _ _)
| cg hw hd ho hu hx hid=>exact .mj hw hd ho hu hx hid (by rw[hd];exact .nil _ _)
| Lp hw hd ho hu hx=>exact .j7 hw hd ho hu hx (by rw[hd];exact .nil _ _)
| GR hw hb=>exact .pE hw hb (by rw[← dW];exact .nil _ _)
| Fv hw hb=>exact .o6 hw hb (by rw[← dW];exact .nil _ _)
| mk hw hb=>exact .DS hw hb (by rw[← dW];exact .nil _ _)
| jP hw ho ht ha hid hx hv hq hd=>exact .pz hw ho ht ha hid hx hv hq hd (by rw[hd];exact .nil _ _)
| map hw ho hu=>exact .uJ hw ho hu (by rw[← dW];exact .nil _ _)
| Cb hw ho hu hkd hx hid hk hv hkk hmk hd=>exact .um hw ho hu hkd hx hid hk hv hkk hmk hd (by rw[hd];exact .nil _ _)
| yG hw ho hu hkd hz hx hid hk hkk hmk hm=>exact .zC hw ho hu hkd hz hx hid hk hkk hmk hm (by rw[← dW];exact .nil _ _)
| OQ hw ho hx hid hi hv hj hd=>exact .xM hw ho hx hid hi hv hj hd (by rw[hd];exact .nil _ _)
| y5 hw ho hu h2 ht h3 h4 hx hi h5 h6 h7=>exact .oF hw ho hu h2 ht h3 h4 hx hi h5 h6 h7 (by rw[← dW];exact .nil _ _)
| KF hw ho hu h2 ht h3 h4 hx hid h8 hi h5 h6=>exact .uR hw ho hu h2 ht h3 h4 hx hid h8 hi h5 h6 (by rw[← dW];exact .nil _ _)
| Fg hw ho hu h2 ht h3 h4 h5 hx hy h6 h7=>exact .qX hw ho hu h2 ht h3 h4 h5 hx hy h6 h7 (by rw[← dW];exact .nil _ _)
| ML hw ho hu h2 ht h3 h4 h5 hx hid h8 hy h6=>exact .rW hw ho hu h2 ht h3 h4 h5 hx hid h8 hy h6 (by rw[← dW];exact .nil _ _)
| Vh hw ho hu h2 h3 ht h4 hx h5=>exact .zA hw ho hu h2 h3 ht h4 hx h5 (by rw[← dW];exact .nil _ _)
| Km hw ho hu ht h1 hx hid hy h2 h3 h4=>exact .xn hw ho hu ht h1 hx hid hy h2 h3 h4 (by rw[← dW];exact .nil _ _)
| call hw ho hc ha hf hn hb he=>exact .oM hw ho hc ha hf hn hb he (by rw[← dW];exact .nil _ _)}
theorem One.mono (H:fL s0 s) {all:Array Oper} {o:Oper} {r:gD} {h':ah} (k:One N all o s0 r h'):One N all o s r h':=by{
have e:=H.h
cases k with
| skip hw=>rw[e];exact .skip (bd H hw)
| val hw hv=>rw[e];exact .val (bd H hw) (Gy H hv)
| eH hw hd he hne=>rw[e];exact .eH (bd H hw) hd (F8 H he) hne
| mx hw hd hb=>rw[e];exact .mx (bd H hw) hd (uH H hb)
| box hw hd hb=>rw[e];exact .box (bd H hw) hd (vD H hb)
| Vx hw hd hb=>rw[e];exact .Vx (bd H hw) hd (yY H hb)
| NW hw hd ho hu=>rw[e];exact .NW (bd H hw) hd ho hu
| cg hw hd ho hu hx hid=>rw[e] at hid ⊢;exact .cg (bd H hw) hd ho hu (aY H hx) hid
| Lp hw hd ho hu hx=>rw[e];exact .Lp (bd H hw) hd ho hu (aY H hx)
| GR hw hb=>rw[e];exact .GR (bd H hw) (vD H hb)
| Fv hw hb=>rw[e];exact .Fv (bd H hw) (uH H hb)
| mk hw hb=>rw[e];exact .mk (bd H hw) (yY H hb)
| jP hw ho ht ha hid hx hv hq hd=>rw[e] at hid ⊢;exact .jP (bd H hw) ho ht (aY H ha) hid (aY H hx) hv hq hd
| map hw ho hu=>rw[e];exact .map (bd H hw) ho hu
| Cb hw ho hu hkd hx hid hk hv hkk hmk hd=>rw[e] at hid ⊢;exact .Cb (bd H hw) ho hu hkd (aY H hx) hid (aY H hk) (aY H hv) hkk hmk hd
| yG hw ho hu hkd hz hx hid hk hkk hmk hm=>rw[e] at hid ⊢;exact .yG (bd H hw) ho hu hkd hz (aY H hx) hid (aY H hk) hkk hmk hm
| OQ hw ho hx hid hi hv hj hd=>rw[e] at hid ⊢;exact .OQ (bd H hw) ho (aY H hx) hid (aY H hi) (aY H hv) hj hd
| y5 hw ho hu h2 ht h3 h4 hx hi h5 h6 h7=>rw[e] at hi ⊢;exact .y5 (bd H hw) ho hu h2 ht h3 h4 (aY H hx) (qf H hi) h5 h6 h7
| KF hw ho hu h2 ht h3 h4 hx hid h8 hi h5 h6=>rw[e] at hi hid ⊢;exact .KF (bd H hw) ho hu h2 ht h3 h4 (aY H hx) hid h8 (qf H hi) h5 h6
| Fg hw ho hu h2 ht h3 h4 h5 hx hy h6 h7=>rw[e];exact .Fg (bd H hw) ho hu h2 ht h3 h4 h5 (aY H hx) (aY H hy) h6 h7
| ML hw ho hu h2 ht h3 h4 h5 hx hid h8 hy h6=>rw[e] at hid ⊢;exact .ML (bd H hw) ho hu h2 ht h3 h4 h5 (aY H hx) hid h8 (aY H hy) h6
| Vh hw ho hu h2 h3 ht h4 hx h5=>rw[e];exact .Vh (bd H hw) ho hu h2 h3 ht h4 (aY H hx) h5
| Km hw ho hu ht h1 hx hid hy h2 h3 h4=>rw[e] at hid ⊢;exact .Km (bd H hw) ho hu ht h1 (aY H hx) hid (aY H hy) h2 h3 h4
| call hw ho hc ha hf hn hb he=>exact .call (bd H hw) ho (w8 H hc) (oj H ha) hf hn hb (e▸he)}
end
def bF (ops:Array Oper) (j:Nat):Option Nat:=match ops[j]? with|some o=>o.dst|none=>none
def fK (L:List (List Nat)) (i:Nat):List Nat:=(L[i]?).getD []
def B7 (ops:Array Oper):List (List Nat):=
 ops.toList.foldl (fun L o=>L++[(o.after.toList.foldl (fun acc e=>if Region.binds .any e then (e.on :: fK L e.on).foldl (fun acc j=>if acc.contains j then acc else j :: acc) acc else acc) [])]) []
def wF (ops:Array Oper) (L:List (List Nat)) (act:List Nat):Bool:=
 ((List.range ops.size).all fun i=>match ops[i]? with
   | some o=>(o.after.toList.all fun e=>!Region.binds .any e||decide (e.on<i))&&((fK L i).all fun j=>o.after.toList.any fun e=>Region.binds .any e&&(decide (e.on=j)||(fK L e.on).contains j))
   | none=>true) &&
 ((List.range ops.size).all fun i=>(List.range i).all fun j=>match bF ops i,bF ops j with
   | some d,some d'=>!decide (d=d')
   | _,_=>true) &&
 ((List.range act.length).all fun j=>(List.range j).all fun i=>(fK L (act.getD j 0)).contains (act.getD i 0))
def gm (L:List (List Nat)) (act:List Nat) (i k:Nat):Bool:=
 (List.range act.length).all fun j=>(!(fK L i).contains (act.getD j 0)||decide (j<k))&&(!(fK L (act.getD j 0)).contains i||decide (k≤j))&&(!decide (act.getD j 0=i)||decide (k=j))
section
variable {N:Env} {ops:Array Oper} {L:List (List Nat)} {act:List Nat} {s0:St} {res:Nat→gD} {Hs:Nat→ah}
structure tw (ops:Array Oper) (L:List (List Nat)) (act:List Nat):Prop where
 low:∀ i o,ops[i]? = some o→∀ e∈o.after,Region.binds .any e=true→e.on<i
 M9:∀ i j,j∈fK L i→i<ops.size→∃ o,ops[i]? = some o∧∃ e∈o.after,Region.binds .any e=true∧(e.on=j∨j∈fK L e.on)
 dst:∀ i j d,bF ops i=some d→bF ops j=some d→i=j
 act:∀ i j,i<j→j<act.length→act.getD i 0∈fK L (act.getD j 0)
theorem tG {j d:Nat} (h:bF ops j=some d):j<ops.size:=by{
unfold bF at h
split at h
·rename_i o ho
 exact (Array.getElem?_eq_some_iff.1 ho).1
·cases h}
theorem uK (h:wF ops L act=true):tw ops L act:=by{
unfold wF at h
simp only[Bool.and_eq_true,List.all_eq_true,List.mem_range] at h
obtain⟨⟨h1,h2⟩,h3⟩:=h
have hd:∀ i j d,j<i→bF ops i=some d→bF ops j=some d→False:=fun i j d hij hi hj=>by
 have:=h2 i (tG hi) j hij
 rw[hi,hj] at this
 simp at this
refine⟨fun i o ho e he hb=>?_,fun i j hj hi=>?_,fun i j d hi hj=>?_,fun i j hij hj=>?_⟩
·have:=h1 i (Array.getElem?_eq_some_iff.1 ho).1
 rw[ho] at this
 simp only[Bool.and_eq_true,List.all_eq_true] at this
 have:=this.1 e (by simpa using he)
 simpa [hb] using this
·have:=h1 i hi
 rw[Array.getElem?_eq_getElem hi] at this ⊢
 simp only[Bool.and_eq_true,List.all_eq_true,List.any_eq_true,Bool.or_eq_true,decide_eq_true_eq,List.contains_iff_mem] at this
 obtain⟨e,he,hb,hc⟩:=this.2 j hj
 exact⟨_,rfl,e,by simpa using he,hb,hc⟩
·rcases Nat.lt_trichotomy i j with h|h|h
 ·exact (hd j i d h hj hi).elim
 ·exact h
 ·exact (hd i j d h hi hj).elim
·exact List.contains_iff_mem.1 (h3 j hj i hij)}
structure wx (N:Env) (ops:Array Oper) (act:List Nat) (s0:St) (res:Nat→gD) (Hs:Nat→ah) (S:Array Bool) (t:St):Prop where
 size:S.size=ops.size
 closed:∀ j o,ops[j]? = some o→S.getD j false=true→∀ e∈o.after,Region.binds .any e=true→S.getD e.on false=true
 pre:∃ k,k≤act.length∧t.h=Hs k∧∀ j,j<act.length→(S.getD (act.getD j 0) false=true↔j<k)
 out:∀ x,(∀ j,bF ops j≠some x)→aW t.fr x=aW s0.fr x∧gn t.eH x=none
 qJ:∀ j d v,bF ops j=some d→S.getD j false=true→res j = .sl v→aW t.fr d=v∧gn t.eH d=none
 Dj:∀ j d sl off,bF ops j=some d→S.getD j false=true→res j = .ep sl off→gn t.eH d=some ([],(sl,off))
 ON:∀ q∈t.eH,∀ j,bF ops j≠some q.2.2.1
theorem jK (C:tw ops L act) {S:Array Bool} (hsz:S.size=ops.size) (hcl:∀ j o,ops[j]? = some o→S.getD j false=true→∀ e∈o.after,Region.binds .any e=true→S.getD e.on false=true) : ∀ (i j:Nat),i<ops.size→(∀ o,ops[i]? = some o→∀ e∈o.after,Region.binds .any e=true→S.getD e.on false=true)→j∈fK L i→S.getD j false=true:=by{
intro i
induction i using Nat.strongRecOn with
| _ i ih=>
  intro j hi hr hj
  obtain⟨o,ho,e,he,hb,h⟩:=C.M9 i j hj hi
  have h1:=hr o ho e he hb
  rcases h with rfl|h
  ·exact h1
  ·have hlt:=C.low i o ho e he hb
   exact ih e.on hlt j (by omega) (fun o' ho' e' he' hb'=>hcl e.on o' ho' h1 e' he' hb') h}
theorem fZ:∀ (e:C9) (d:Nat),gn (eX e d) d=none
 | [],d=>rfl
 | (k,(g,(s,o))) :: r,d=>by
   simp only[eX]
   split
   ·exact fZ r d
   ·split
    ·exact fZ r d
    ·rename_i h _
     simp only[gn,if_neg h]
     exact fZ r d
theorem gw:∀ {e:C9} {d x:Nat},(∀ q∈e,q.2.2.1≠d)→x≠d→gn (eX e d) x=gn e x
 | [],d,x,_,_=>rfl
 | (k,(g,(s,o))) :: r,d,x,h,hx=>by
   have hr:=gw (e:=r) (d:=d) (x:=x) (fun q hq=>h q (List.mem_cons_of_mem _ hq)) hx
   have hs:s≠d:=h (k,(g,(s,o))) List.mem_cons_self
   simp only[eX]
   split
   ·rename_i hk
    simp only[gn]
    rw[if_neg (by omega)]
    exact hr
   ·try rw[if_neg hs]
    simp only[gn]
    split
    ·rfl
    ·exact hr
theorem kb {q:Nat×(List Key×(Nat×Nat))} {d:Nat}:∀ {e:C9},q∈eX e d→q∈e
 | [],h=>h
 | (k,(g,(s,o))) :: r,h=>by
   simp only[eX] at h
   split at h
   ·exact List.mem_cons_of_mem _ (kb h)
   ·split at h
    ·exact List.mem_cons_of_mem _ (kb h)
    ·rcases List.mem_cons.1 h with h|h
     ·exact h▸List.mem_cons_self
     ·exact List.mem_cons_of_mem _ (kb h)
structure View (ops:Array Oper) (L:List (List Nat)) (s0:St) (res:Nat→gD) (i:Nat) (V:St):Prop where
 f:∀ x,aW V.fr x = .dH∨((∀ j,bF ops j≠some x)∧aW s0.fr x=aW V.fr x)∨∃ j,bF ops j=some x∧j∈fK L i∧res j = .sl (aW V.fr x)
 e:∀ x p,gn V.eH x=some p→∃ j sl off,bF ops j=some x∧j∈fK L i∧res j = .ep sl off∧p=([],(sl,off))
 n:∀ x,aW V.fr x≠.dH→gn V.eH x=none
theorem View.sub (C:tw ops L act) {S:Array Bool} {t V:St} {i:Nat} (I:wx N ops act s0 res Hs S t) (hi:i<ops.size) (hr:∀ o,ops[i]? = some o→∀ e∈o.after,Region.binds .any e=true→S.getD e.on false=true) (hV:View ops L s0 res i V) (hh:V.h=t.h):fL V t:=by{
have hin:∀ j,j∈fK L i→S.getD j false=true:=fun j hj=>jK C I.size I.closed i j hi hr hj
refine⟨hh,fun x=>?_,fun x p hp=>?_,fun x hx=>?_⟩
·rcases hV.f x with h|⟨h,h2⟩ | ⟨j,h,h2,h3⟩
 ·exact .inl h
 ·exact .inr ((I.out x h).1.trans h2)
 ·exact .inr (I.qJ j x _ h (hin j h2) h3).1
·obtain⟨j,sl,off,h,h2,h3,rfl⟩:=hV.e x p hp
 exact I.Dj j x sl off h (hin j h2) h3
·rw[hV.n x hx]
 rcases hV.f x with h|⟨h,h2⟩ | ⟨j,h,h2,h3⟩
 ·exact (hx h).elim
 ·exact (I.out x h).2
 ·exact (I.qJ j x _ h (hin j h2) h3).2}
theorem eM {S:Array Bool} {i j:Nat} (hi:i<S.size):((S.setIfInBounds i true).getD j false=true)↔(j=i∨S.getD j false=true):=by{
by_cases h:i=j
·subst h
 simp [hi]
·rw[getD_set_ne false h]
 exact⟨.inr,fun h'=>h'.resolve_left fun e=>h e.symm⟩}
theorem wx.step (C:tw ops L act) (hT:∀ j sl off,res j = .ep sl off→∀ i,bF ops i≠some sl) {S:Array Bool} {t:St} {i:Nat} {o:Oper} (hstep:∀ o k,ops[i]? = some o→k≤act.length→gm L act i k=true→∃ V,View ops L s0 res i V∧V.h=Hs k∧One N ops o V (res i) (Hs (if i∈act then k+1 else k))) (I:wx N ops act s0 res Hs S t) (hi:i∈Region.ready .any ops S) (ho:ops[i]? = some o) : ∃ s',Ev N (.ops ops [o] t s')∧wx N ops act s0 res Hs (S.setIfInBounds i true) s':=by{
obtain⟨hun,oi,hoi,hall⟩:=mem_ready.1 hi
obtain rfl:oi=o:=Option.some.inj (hoi.symm.trans ho)
have hlt:i<ops.size:=(Array.getElem?_eq_some_iff.1 ho).1
have hltS:i<S.size:=by rw[I.size];exact hlt
have hnot:¬ S.getD i false=true:=by
 have h1:=getD_both hun
 rw[h1]
 simp
have hr:∀ o,ops[i]? = some o→∀ e∈o.after,Region.binds .any e=true→S.getD e.on false=true:=fun o' ho' e he hb=>by
 obtain rfl:oi=o':=Option.some.inj (ho.symm.trans ho')
 exact hall e he hb
have hin:∀ j,j∈fK L i→S.getD j false=true:=fun j hj=>jK C I.size I.closed i j hlt hr hj
obtain⟨k,hk,hh,hpre⟩:=I.pre
have hst:gm L act i k=true:=by
 unfold gm
 rw[List.all_eq_true]
 intro j hj
 rw[List.mem_range] at hj
 simp only[Bool.and_eq_true,Bool.or_eq_true,Bool.not_eq_true',decide_eq_true_eq,decide_eq_false_iff_not]
 refine⟨⟨?_,?_⟩,?_⟩
 ·by_cases h:act.getD j 0∈fK L i
  ·exact .inr ((hpre j hj).1 (hin _ h))
  ·exact .inl (by simpa using h)
 ·by_cases h:i∈fK L (act.getD j 0)
  ·refine .inr (Nat.le_of_not_lt fun hjk=>?_)
   have h1:=(hpre j hj).2 hjk
   have hal:act.getD j 0<ops.size:=by
    rcases Nat.lt_or_ge (act.getD j 0) ops.size with h2|h2
    ·exact h2
    ·have:S.size≤act.getD j 0:=by rw[I.size];exact h2
     rw[Array.getD_eq_getD_getElem?,Array.getElem?_eq_none this] at h1
     cases h1
   exact hnot (jK C I.size I.closed _ i hal (fun o' ho' e he hb=>I.closed _ o' ho' h1 e he hb) h)
  ·exact .inl (by simpa using h)
 ·by_cases h:act.getD j 0=i
  ·refine .inr (Nat.le_antisymm (Nat.le_of_not_lt fun hjk=>?_) (Nat.le_of_not_lt fun hkj=>?_))
   ·exact hnot (h▸(hpre j hj).2 hjk)
   ·have h1:=C.act k j hkj hj
    rw[h] at h1
    have:=(hpre k (by omega)).1 (hin _ h1)
    omega
  ·exact .inl h
obtain⟨V,hV,hVh,hone⟩:=hstep oi k ho hk hst
have hsub:=hV.sub C I hlt hr (hVh.trans hh.symm)
refine⟨_,(hone.mono hsub).ev,?_⟩
have hset:∀ j,((S.setIfInBounds i true).getD j false=true)↔(j=i∨S.getD j false=true):=fun j=>eM hltS
have hpre':∃ k',k'≤act.length∧Hs (if i∈act then k+1 else k)=Hs k'∧∀ j,j<act.length→((S.setIfInBounds i true).getD (act.getD j 0) false=true↔j<k'):=by
 have hst':∀ j,j<act.length→act.getD j 0=i→k=j:=fun j hj h=>by
  unfold gm at hst
  rw[List.all_eq_true] at hst
  have:=hst j (List.mem_range.2 hj)
  simp only[Bool.and_eq_true,Bool.or_eq_true,Bool.not_eq_true',decide_eq_true_eq,decide_eq_false_iff_not] at this
  exact this.2.resolve_left fun hn=>hn h
 by_cases hia:i∈act
 ·rw[if_pos hia]
  obtain⟨j0,hj0,hji⟩:=List.mem_iff_getElem.1 hia
  have hg:act.getD j0 0=i:=by simp [hj0,hji]
  have hk0:=hst' j0 hj0 hg
  refine⟨k+1,by omega,rfl,fun j hj=>?_⟩
  rw[hset]
  constructor
  ·rintro (h|h)
   ·have:=hst' j hj h
    omega
   ·have:=(hpre j hj).1 h
    omega
  ·intro h
   rcases Nat.lt_or_ge j k with h1|h1
   ·exact .inr ((hpre j hj).2 h1)
   ·obtain rfl:j=j0:=by omega
    exact .inl hg
 ·rw[if_neg hia]
  refine⟨k,hk,rfl,fun j hj=>?_⟩
  rw[hset]
  constructor
  ·rintro (h|h)
   ·exact (hia (by rw[← h];simp [hj])).elim
   ·exact (hpre j hj).1 h
  ·exact fun h=>.inr ((hpre j hj).2 h)
have hcl':∀ j o,ops[j]? = some o→(S.setIfInBounds i true).getD j false=true→∀ e∈o.after,Region.binds .any e=true→(S.setIfInBounds i true).getD e.on false=true:=fun j o hj hl e he hb=>by
 rw[hset]
 rcases (hset j).1 hl with rfl|h
 ·exact .inr (hr o hj e he hb)
 ·exact .inr (I.closed j o hj h e he hb)
cases hd:oi.dst with
| none=>
  have hda:bF ops i=none:=by simp [bF,ho,hd]
  have hne:∀ j d,bF ops j=some d→j≠i:=fun j d h e=>by rw[e,hda] at h;cases h
  exact⟨by simp [I.size],hcl',hpre',I.out,fun j d v hj hl=>I.qJ j d v hj (((hset j).1 hl).resolve_left (hne j d hj)),fun j d sl off hj hl=>I.Dj j d sl off hj (((hset j).1 hl).resolve_left (hne j d hj)),I.ON⟩
| some d=>
  have hda:bF ops i=some d:=by simp [bF,ho,hd]
  have hdn:∀ q∈t.eH,q.2.2.1≠d:=fun q hq e=>I.ON q hq i (by rw[e];exact hda)
  have hdne:∀ j d',j≠i→bF ops j=some d'→d'≠d:=fun j d' hj h e=>hj (C.dst j i d (e▸h) hda)
  cases hres:res i with
  | sl v=>
    refine⟨by simp [I.size],hcl',hpre',fun x hx=>?_,fun j d' v' hj hl hv=>?_,fun j d' sl off hj hl hv=>?_,fun q hq=>I.ON q (kb hq)⟩
    ·have hxd:x≠d:=fun e=>hx i (e▸hda)
     simp only[wC,bw]
     rw[if_neg (fun e=>hxd e.symm),gw hdn hxd]
     exact I.out x hx
    ·simp only[wC,bw]
     by_cases hji:j=i
     ·subst hji
      obtain rfl:d=d':=Option.some.inj (hda.symm.trans hj)
      rw[if_pos rfl,fZ]
      rw[hres] at hv
      cases hv
      exact⟨rfl,rfl⟩
     ·have:=hdne j d' hji hj
      rw[if_neg (fun e=>this e.symm),gw hdn this]
      exact I.qJ j d' v' hj (((hset j).1 hl).resolve_left hji) hv
    ·by_cases hji:j=i
     ·subst hji
      rw[hres] at hv
      cases hv
     ·have:=hdne j d' hji hj
      simp only[wC]
      rw[gw hdn this]
      exact I.Dj j d' sl off hj (((hset j).1 hl).resolve_left hji) hv
  | ep sl0 off0=>
    refine⟨by simp [I.size],hcl',hpre',fun x hx=>?_,fun j d' v' hj hl hv=>?_,fun j d' sl off hj hl hv=>?_,fun q hq=>?_⟩
    ·have hxd:x≠d:=fun e=>hx i (e▸hda)
     simp only[wC,bw,gn]
     rw[if_neg (fun e=>hxd e.symm),if_neg (fun e=>hxd e.symm),gw hdn hxd]
     exact I.out x hx
    ·by_cases hji:j=i
     ·subst hji
      rw[hres] at hv
      cases hv
     ·have:=hdne j d' hji hj
      simp only[wC,bw,gn]
      rw[if_neg (fun e=>this e.symm),if_neg (fun e=>this e.symm),gw hdn this]
      exact I.qJ j d' v' hj (((hset j).1 hl).resolve_left hji) hv
    ·by_cases hji:j=i
     ·subst hji
      obtain rfl:d=d':=Option.some.inj (hda.symm.trans hj)
      simp only[wC,gn,if_true]
      rw[hres] at hv
      cases hv
      rfl
     ·have:=hdne j d' hji hj
      simp only[wC,gn]
      rw[if_neg (fun e=>this e.symm),gw hdn this]
      exact I.Dj j d' sl off hj (((hset j).1 hl).resolve_left hji) hv
    ·rcases List.mem_cons.1 hq with rfl|hq
     ·exact fun j=>hT i sl0 off0 hres j
     ·exact I.ON q (kb hq)}
theorem GV {id:Nat} {s:St} {frF:Fr} (hm:N.P.follows .mixedOrders=true) (C:tw ops L act) (hT:∀ j sl off,res j = .ep sl off→∀ i,bF ops i≠some sl) (hstep:∀ i o k,ops[i]? = some o→k≤act.length→gm L act i k=true→∃ V,View ops L s res i V∧V.h=Hs k∧One N ops o V (res i) (Hs (if i∈act then k+1 else k))) (hact:∀ a∈act,a<ops.size) (h0:s.h=Hs 0) (hF:∀ p∈frF,((∀ j,bF ops j≠some p.1)∧aW s.fr p.1=p.2)∨∃ j,bF ops j=some p.1∧res j = .sl p.2) : Ev N (.code (.region id ops true) s .normal ⟨frF,[],Hs act.length⟩):=by{
classical
refine .vS (wx N ops act s res Hs) (fun S t i=>match ops[i]? with
 | some o=>if h:∃ s',Ev N (.ops ops [o] t s')∧wx N ops act s res Hs (S.setIfInBounds i true) s' then h.choose else t
 | none=>t) hm ?_ ?_ ?_ ?_ rfl
·refine⟨by simp,fun j o _ hl=>?_,⟨0,Nat.zero_le _,h0,fun j _=>?_⟩,fun x _=>⟨rfl,rfl⟩,fun j d v _ hl=>?_,fun j d sl off _ hl=>?_,fun q hq=>by cases hq⟩
 ·rw[getD_replicate_false] at hl
  cases hl
 ·rw[getD_replicate_false]
  simp
 ·rw[getD_replicate_false] at hl
  cases hl
 ·rw[getD_replicate_false] at hl
  cases hl
·intro S t i o I hi ho
 simp only[ho]
 have h:=I.step C hT (hstep i) hi ho
 rw[dif_pos h]
 exact h.choose_spec.1
·intro S t i o I hi ho
 simp only[ho]
 have h:=I.step C hT (hstep i) hi ho
 rw[dif_pos h]
 exact h.choose_spec.2
·intro S t I hr
 have hall:∀ i,i<ops.size→S.getD i false=true:=by
  intro i
  induction i using Nat.strongRecOn with
  | _ i ih=>
    intro hi
    cases hb:S.getD i false with
    | true=>rfl
    | false=>
      have:i∈Region.ready .any ops S:=mem_ready.2 ⟨getD_in (by rw[I.size];exact hi) hb,ops[i],Array.getElem?_eq_getElem hi,fun e he hbi=>by
       have hlow:=C.low i _ (Array.getElem?_eq_getElem hi) e he hbi
       exact ih e.on hlow (by omega)⟩
      rw[hr] at this
      cases this
 refine⟨fun p hp=>?_,?_⟩
 ·rcases hF p hp with ⟨h1,h2⟩ | ⟨j,h1,h2⟩
  ·exact (I.out p.1 h1).1.trans h2
  ·exact (I.qJ j p.1 p.2 h1 (hall j (tG h1)) h2).1
 ·obtain⟨k,hk,hh,hpre⟩:=I.pre
  have:k=act.length:=by
   rcases Nat.lt_or_ge k act.length with h|h
   ·have:=(hpre k h).1 (hall _ (hact _ (by simp [h])))
    omega
   ·omega
  rw[hh,this]}
end
def dstsOf (ops:Array Oper):List Nat:=ops.toList.filterMap (·.dst)
def jx (resL:List gD) (j:Nat):gD:=(resL[j]?).getD (.sl .dH)
def sP (hs:List ah) (k:Nat):ah:=(hs[k]?).getD []
def iT (ops:Array Oper) (resL:List gD):List Nat→Fr
 | []=>[]
 | j :: l=>match bF ops j,resL[j]? with
   | some d,some (.sl v)=>(d,v) :: iT ops resL l
   | _,_=>iT ops resL l
def yI (ops:Array Oper) (resL:List gD):List Nat→C9
 | []=>[]
 | j :: l=>match bF ops j,resL[j]? with
   | some d,some (.ep sl off)=>(d,([],(sl,off))) :: yI ops resL l
   | _,_=>yI ops resL l
def iq (ds:List Nat):Fr→Fr
 | []=>[]
 | (k,v) :: r=>if ds.contains k then iq ds r else (k,v) :: iq ds r
def fC (ops:Array Oper) (L:List (List Nat)) (resL:List gD) (fr:Fr) (h:ah) (i:Nat):St:=⟨iq (dstsOf ops) fr++iT ops resL (fK L i),yI ops resL (fK L i),h⟩
section
variable {N:Env} {ops:Array Oper} {L:List (List Nat)} {act:List Nat} {resL:List gD}
theorem iw {j d:Nat} (h:bF ops j=some d):d∈dstsOf ops:=by{
unfold bF at h
split at h
·rename_i o ho
 unfold dstsOf
 rw[List.mem_filterMap]
 exact⟨o,Array.mem_toList_iff.2 (Array.mem_of_getElem? ho),h⟩
·cases h}
theorem jr {x:Nat}:∀ {l:List Nat},aW (iT ops resL l) x = .dH∨∃ j,bF ops j=some x∧j∈l∧resL[j]? = some (.sl (aW (iT ops resL l) x))
 | []=>.inl rfl
 | j :: l=>by
   have ih:=jr (x:=x) (l:=l)
   have ih':aW (iT ops resL l) x = .dH∨∃ j',bF ops j'=some x∧j'∈j :: l∧resL[j']? = some (.sl (aW (iT ops resL l) x)):=by
    rcases ih with h|⟨j',h1,h2,h3⟩
    ·exact .inl h
    ·exact .inr ⟨j',h1,List.mem_cons_of_mem _ h2,h3⟩
   simp only[iT]
   split
   ·rename_i d v hd hr
    simp only[aW]
    split
    ·rename_i hx
     subst hx
     exact .inr ⟨j,hd,List.mem_cons_self,hr⟩
    ·exact ih'
   ·exact ih'
theorem pd {x:Nat} {p:List Key×(Nat×Nat)}:∀ {l:List Nat},gn (yI ops resL l) x=some p→∃ j sl off,bF ops j=some x∧j∈l∧resL[j]? = some (.ep sl off)∧p=([],(sl,off))
 | [],h=>by cases h
 | j :: l,h=>by
   have ih:gn (yI ops resL l) x=some p→∃ j' sl off,bF ops j'=some x∧j'∈j :: l∧resL[j']? = some (.ep sl off)∧p=([],(sl,off)):=fun h=>by
    obtain⟨j',sl,off,h1,h2,h3⟩:=pd h
    exact⟨j',sl,off,h1,List.mem_cons_of_mem _ h2,h3⟩
   simp only[yI] at h
   split at h
   ·rename_i d sl off hd hr
    simp only[gn] at h
    split at h
    ·rename_i hx
     subst hx
     cases h
     exact⟨j,sl,off,hd,List.mem_cons_self,hr,rfl⟩
    ·exact ih h
   ·exact ih h
theorem o8 {ds:List Nat} {B:Fr} {x:Nat} (hx:x∈ds):∀ {fr:Fr},aW (iq ds fr++B) x=aW B x
 | []=>rfl
 | (k,v) :: r=>by
   simp only[iq]
   split
   ·exact o8 hx
   ·rename_i hk
    have:k≠x:=fun e=>hk (by rw[e];simpa using hx)
    simp only[List.cons_append,aW,if_neg this]
    exact o8 hx
theorem ng {ds:List Nat} {B:Fr} {x:Nat} (hx:x∉ds) (hB:aW B x = .dH):∀ {fr:Fr},aW (iq ds fr++B) x=aW fr x
 | []=>hB
 | (k,v) :: r=>by
   simp only[iq]
   split
   ·rename_i hk
    have:k≠x:=fun e=>hx (by rw[← e];simpa using hk)
    simp only[aW,if_neg this]
    exact ng hx hB
   ·simp only[List.cons_append,aW]
    split
    ·rfl
    ·exact ng hx hB
theorem j3 {j:Nat} {r:gD} (h:resL[j]? = some r):jx resL j=r:=by simp [jx,h]
theorem xu (C:tw ops L act) {s0:St} {h:ah} {i:Nat}:View ops L s0 (jx resL) i (fC ops L resL s0.fr h i):=by{
have hf:∀ x,aW (fC ops L resL s0.fr h i).fr x = .dH∨((∀ j,bF ops j≠some x)∧aW s0.fr x=aW (fC ops L resL s0.fr h i).fr x)∨∃ j,bF ops j=some x∧j∈fK L i∧jx resL j = .sl (aW (fC ops L resL s0.fr h i).fr x):=by
 intro x
 by_cases hx:x∈dstsOf ops
 ·simp only[fC,o8 hx]
  rcases jr (ops:=ops) (resL:=resL) (x:=x) (l:=fK L i) with h|⟨j,h1,h2,h3⟩
  ·exact .inl h
  ·exact .inr (.inr ⟨j,h1,h2,j3 h3⟩)
 ·have hB:aW (iT ops resL (fK L i)) x = .dH:=by
   rcases jr (ops:=ops) (resL:=resL) (x:=x) (l:=fK L i) with h|⟨j,h1,_⟩
   ·exact h
   ·exact (hx (iw h1)).elim
  refine .inr (.inl ⟨fun j hj=>hx (iw hj),?_⟩)
  simp only[fC,ng hx hB]
refine⟨hf,fun x p hp=>?_,fun x hx=>?_⟩
·obtain⟨j,sl,off,h1,h2,h3,h4⟩:=pd hp
 exact⟨j,sl,off,h1,h2,j3 h3,h4⟩
·cases he:gn (fC ops L resL s0.fr h i).eH x with
 | none=>rfl
 | some p=>
   obtain⟨j,sl,off,h1,h2,h3,_⟩:=pd he
   rcases hf x with h|⟨h,_⟩ | ⟨j',k1,k2,k3⟩
   ·exact (hx h).elim
   ·exact (h j h1).elim
   ·obtain rfl:=C.dst j j' x h1 k1
    rw[j3 h3] at k3
    cases k3}
def Mt (all:Array Oper) (d:Nat):Bool:=all.any fun o=>match o.op with
 | .call c=>match c.callee with
   | .builtin .append=>match c.args.toList with
     | [_,.tmp y]=>y == d
     | _=>false
   | _=>false
 | _=>false
def su (N:Env) (call:FuncId→List Value→ah→Option (Value×ah)) (nm:FuncId→Bool) (all:Array Oper) (o:Oper) (s:St):Option (gD×ah):=
 match aF all o s with
 | none=>none
 | some false=>some (.sl (.val (.tuple #[])),s.h)
 | some true=>match o.op with
   | .box t x=>(iA N s (.box t x)).map fun p=>(.sl (.val (.pointer (some ⟨s.h.length,0,some 0⟩))),s.h++[av.aA p.2 0 true p.1])
   | .alloc t=>(iA N s (.alloc t)).map fun p=>(.sl (.val (.pointer (some ⟨s.h.length,0,some 0⟩))),s.h++[av.aA p.2 0 true p.1])
   | .buildSlice t l ps=>match o.dst with
     | some d=>if Mt all d then (jw N s (.buildSlice t l ps)).map fun p=>(.sl (.mx p.2.1 p.2.2),s.h)
       else (jw N s (.buildSlice t l ps)).map fun p=>(.sl (.val (.slice (some ⟨s.h.length,0,some 0⟩) p.2.2 p.2.2)),s.h++[av.aA p.2.1 0 true p.1])
     | none=>none
   | .makeSlice t l c=>(zL N s (.makeSlice t l c)).map fun p=>(.sl (.val (.slice (some ⟨s.h.length,0,some 0⟩) p.2.2 p.2.2)),s.h++[av.aA p.2.1 0 true p.1])
   | .store t a x=>match o.dst with
     | none=>match aq N.P t,ev s a,ev s x with
       | some ti,some (.pointer (some ⟨id,off,some ar⟩)),some v=>match s.h[id]?,dO ti.size v with
         | some (.aA cells ver' true et),some vs=>if ver'=ar then (ll cells off vs).map fun cells'=>(.sl .dH,s.h.set id (av.aA cells' ar true et)) else none
         | _,_=>none
       | _,_,_=>none
     | some _=>none
   | .makeMap t none=>match N.P.underlying t with
     | some (.map _ _)=>some (.sl (.val (.map (some s.h.length))),s.h++[av.map []])
     | _=>none
   | .mapUpdate t x i y=>match o.dst with
     | none=>match DD N s t x,ev s i,ev s y with
       | some (id,es,kd,_),some k,some v=>if kd k then some (.sl .dH,s.h.set id (av.map (iU es k v))) else none
       | _,_,_=>none
     | some _=>none
   | .mapEntry t x i=>match DD N s t x,ev s i with
     | some (id,es,kd,et),some k=>match zeroOf N.P et with
       | some z=>if kd k then some (.sl (.val (.tuple #[(oJ es k z).1,.int .i64 (oJ es k z).2.1])),s.h.set id (av.map (oJ es k z).2.2)) else none
       | none=>none
     | _,_=>none
   | .entryStore _ x i y=>match o.dst with
     | none=>match ev s x,ev s i,ev s y with
       | some (.map (some id)),some (.int .i64 (.ofNat j)),some v=>match s.h[id]? with
         | some (.map es)=>match es[j]? with
           | some (k,_)=>some (.sl .dH,s.h.set id (av.map (es.set j (k,v))))
           | none=>none
         | _=>none
       | _,_,_=>none
     | some _=>none
   | .call c=>match c.callee with
     | .builtin .append=>match c.args.toList,c.argTypes.toList with
       | [x,y],[t,t2]=>match N.P.underlying t with
         | some (.slice e)=>match aq N.P e with
           | some ti=>if t2=t∧0<ti.size∧(ti.zero.map fun z=>z.cells.size)=some ti.size then (match cd s s.h ti.size y with
             | some (cs,m)=>match ev s x with
               | some (.slice none 0 0)=>if 0<m∧m*ti.bytes≤140737488355328∧m≤140737488355328 then some (.sl (.val (.slice (some ⟨s.h.length,0,some 0⟩) m m)),s.h++[av.aA cs 0 true e]) else none
               | some (.slice (some ⟨id,0,some ar⟩) n _)=>match s.h[id]? with
                 | some (.aA cells ver' true et)=>if ver'=ar∧et=e∧n*ti.size≤cells.length∧(n+m)*ti.bytes≤140737488355328∧n+m≤140737488355328 then
                  some (.sl (.val (.slice (some ⟨id,0,some (ar+1)⟩) (n+m) (n+m))),s.h.set id (av.aA (cells.take (n*ti.size)++cs) (ar+1) true e)) else none
                 | _=>none
               | _=>none
             | none=>none) else none
           | none=>none
         | _=>none
       | _,_=>none
     | .builtin _=>(rz N s o.op).map fun v=>(.sl (.val v),s.h)
     | cal=>match fH s cal,tT s c.args.toList with
       | some (f,cap),some args=>if nm f then (match call f (args++cap) s.h with
         | some (v,h')=>some (.sl (.val v),h')
         | none=>none) else none
       | _,_=>none
   | _=>match rz N s o.op with
     | some v=>some (.sl (.val v),s.h)
     | none=>match xx N s o.op,o.dst with
       | some (sl,off),some d=>if sl=d then none else some (.ep sl off,s.h)
       | _,_=>none
variable {call:FuncId→List Value→ah→Option (Value×ah)} {nm:FuncId→Bool}
theorem Gn (hC:jm N call) (hn:sB N nm) {all:Array Oper} {o:Oper} {s:St} {r:gD} {h':ah} (h:su N call nm all o s=some (r,h')):One N all o s r h':=by{
unfold su at h
split at h
·cases h
·rename_i hw
 cases h
 exact .skip hw
·rename_i hw
 split at h
 ·rename_i t x ho
  cases hb:iA N s (.box t x) with
  | none=>simp [hb] at h
  | some p=>
    simp only[hb,Option.map_some,Option.some.injEq,Prod.mk.injEq] at h
    obtain⟨rfl,rfl⟩:=h
    exact .GR hw (by rw[ho];exact hb)
 ·rename_i t ho
  cases hb:iA N s (.alloc t) with
  | none=>simp [hb] at h
  | some p=>
    simp only[hb,Option.map_some,Option.some.injEq,Prod.mk.injEq] at h
    obtain⟨rfl,rfl⟩:=h
    exact .GR hw (by rw[ho];exact hb)
 ·rename_i t l ps ho
  split at h
  ·rename_i d hd
   split at h
   ·cases hb:jw N s (.buildSlice t l ps) with
    | none=>simp [hb] at h
    | some p=>
      simp only[hb,Option.map_some,Option.some.injEq,Prod.mk.injEq] at h
      obtain⟨rfl,rfl⟩:=h
      exact .mx hw hd (by rw[ho];exact hb)
   ·cases hb:jw N s (.buildSlice t l ps) with
    | none=>simp [hb] at h
    | some p=>
      simp only[hb,Option.map_some,Option.some.injEq,Prod.mk.injEq] at h
      obtain⟨rfl,rfl⟩:=h
      exact .Fv hw (by rw[ho];exact hb)
  ·cases h
 ·rename_i t l c ho
  cases hb:zL N s (.makeSlice t l c) with
  | none=>simp [hb] at h
  | some p=>
    simp only[hb,Option.map_some,Option.some.injEq,Prod.mk.injEq] at h
    obtain⟨rfl,rfl⟩:=h
    exact .mk hw (by rw[ho];exact hb)
 ·rename_i t a x ho
  split at h
  ·rename_i hd
   split at h
   ·rename_i ti id off ar v ht ha hx
    split at h
    ·rename_i cells ver' et vs hid hv
     split at h
     ·rename_i hver
      subst hver
      cases hq:Am.ll cells off vs with
      | none=>simp [hq] at h
      | some cells'=>
        simp only[hq,Option.map_some,Option.some.injEq,Prod.mk.injEq] at h
        obtain⟨rfl,rfl⟩:=h
        exact .jP hw ho ht ha hid hx hv hq hd
     ·cases h
    ·cases h
   ·cases h
  ·cases h
 ·rename_i t ho
  split at h
  ·rename_i kt et hu
   cases h
   exact .map hw ho hu
  ·cases h
 ·rename_i t x i y ho
  split at h
  ·rename_i hd
   split at h
   ·rename_i id es kd et k v hm hk hv
    split at h
    ·rename_i hkk
     cases h
     obtain⟨kt,hu,hkd,hx,hid,hmk⟩:=l8 hm
     exact .Cb hw ho hu hkd hx hid hk hv hkk hmk hd
    ·cases h
   ·cases h
  ·cases h
 ·rename_i t x i ho
  split at h
  ·rename_i id es kd et k hm hk
   split at h
   ·rename_i z hz
    split at h
    ·rename_i hkk
     cases h
     obtain⟨kt,hu,hkd,hx,hid,hmk⟩:=l8 hm
     exact .yG hw ho hu hkd hz hx hid hk hkk hmk rfl
    ·cases h
   ·cases h
  ·cases h
 ·rename_i t x i y ho
  split at h
  ·rename_i hd
   split at h
   ·rename_i id j v hx hi hv
    split at h
    ·rename_i es hid
     split at h
     ·rename_i k u hj
      cases h
      exact .OQ hw ho hx hid hi hv hj hd
     ·cases h
    ·cases h
   ·cases h
  ·cases h
 ·rename_i c ho
  split at h
  ·rename_i hc
   split at h
   ·rename_i x y t t2 hx ht
    have ho':o.op = .call { callee:=.builtin .append,args:=#[x,y],argTypes:=#[t,t2] }:=by
     rw[ho]
     cases c with
     | mk cal a ty=>
       simp only at hc hx ht
       subst hc
       rw[show a=#[x,y] from Array.toList_inj.1 hx,show ty=#[t,t2] from Array.toList_inj.1 ht]
    split at h
    ·rename_i e hu
     split at h
     ·rename_i ti hti
      split at h
      ·rename_i hq
       obtain⟨q1,q2,q3⟩:=hq
       split at h
       ·rename_i cs m hi
        split at h
        ·rename_i hv
         split at h
         ·rename_i hm
          cases h
          exact .y5 hw ho' hu q1 hti q2 q3 hv hi hm.1 hm.2.1 hm.2.2
         ·cases h
        ·rename_i id ar n cp hv
         split at h
         ·rename_i cells ver' et hid
          split at h
          ·rename_i hm
           obtain⟨rfl,rfl,m1,m2,m3⟩:=hm
           cases h
           exact .KF hw ho' hu q1 hti q2 q3 hv hid m1 hi m2 m3
          ·cases h
         ·cases h
        ·cases h
       ·cases h
      ·cases h
     ·cases h
    ·cases h
   ·cases h
  ·rename_i b hb
   cases hv:rz N s o.op with
   | none=>simp [hv] at h
   | some v=>
     simp only[hv,Option.map_some,Option.some.injEq,Prod.mk.injEq] at h
     obtain⟨rfl,rfl⟩:=h
     exact .val hw hv
  ·split at h
   ·rename_i f cap args hcal hargs
    split at h
    ·rename_i hnm
     split at h
     ·rename_i v h' hcall
      cases h
      obtain⟨⟨fn,h1,h2⟩,h3⟩:=hC _ _ _ _ _ hcall
      exact .call hw ho hcal hargs h1 (hn _ _ hnm h1) h2 h3
     ·cases h
    ·cases h
   ·cases h
 ·split at h
  ·rename_i v hv
   cases h
   exact .val hw hv
  ·split at h
   ·rename_i sl off d he hd
    split at h
    ·cases h
    ·rename_i hne
     cases h
     exact .eH hw hd he hne
   ·cases h}
def fY (N:Env) (ops:Array Oper) (L:List (List Nat)) (act:List Nat) (resL:List gD) (hs:List ah) (fr:Fr) (i:Nat) (o:Oper):List Nat→Prop
 | []=>True
 | k :: l=>(gm L act i k=true→One N ops o (fC ops L resL fr (sP hs k) i) (jx resL i) (sP hs (if i∈act then k+1 else k)))∧fY N ops L act resL hs fr i o l
def fm (N:Env) (ops:Array Oper) (L:List (List Nat)) (act:List Nat) (resL:List gD) (hs:List ah) (fr:Fr):Nat→List Oper→Prop
 | _,[]=>True
 | i,o :: l=>fY N ops L act resL hs fr i o (List.range (act.length+1))∧fm N ops L act resL hs fr (i+1) l
theorem fY.at {hs:List ah} {fr:Fr} {i:Nat} {o:Oper}:∀ {l:List Nat} {k:Nat},fY N ops L act resL hs fr i o l→k∈l→gm L act i k=true →
 One N ops o (fC ops L resL fr (sP hs k) i) (jx resL i) (sP hs (if i∈act then k+1 else k))
 | [],_,_,h=>by cases h
 | k' :: l,k,⟨h1,h2⟩,h=>by
   rcases List.mem_cons.1 h with rfl|h
   ·exact h1
   ·exact fY.at h2 h
theorem fm.at {hs:List ah} {fr:Fr}:∀ {l:List Oper} {i j:Nat} {o:Oper},fm N ops L act resL hs fr i l→l[j]? = some o→fY N ops L act resL hs fr (i+j) o (List.range (act.length+1))
 | [],_,_,_,_,h=>by simp at h
 | o' :: l,i,0,o,⟨h1,_⟩,h=>by
   simp only[List.getElem?_cons_zero,Option.some.injEq] at h
   exact h▸h1
 | o' :: l,i,j+1,o,⟨_,h2⟩,h=>by
   have:=fm.at h2 (by simpa using h)
   rwa [show i+1+j=i+(j+1) by omega] at this
def A7 (ops:Array Oper) (resL:List gD):Bool:=resL.all fun r=>match r with
 | .ep sl _=>!(dstsOf ops).contains sl
 | _=>true
def ia (ops:Array Oper) (resL:List gD) (fr:Fr):Fr→Prop
 | []=>True
 | (x,v) :: r=>((x∉dstsOf ops∧aW fr x=v)∨aW (iT ops resL (List.range ops.size)) x=v∧v≠.dH)∧ia ops resL fr r
theorem ia.at {fr:Fr}:∀ {frF:Fr} {p:Nat×gu},ia ops resL fr frF→p∈frF→((∀ j,bF ops j≠some p.1)∧aW fr p.1=p.2)∨∃ j,bF ops j=some p.1∧jx resL j = .sl p.2
 | [],p,_,h=>by cases h
 | (x,v) :: r,p,⟨h1,h2⟩,h=>by
   rcases List.mem_cons.1 h with rfl|h
   ·rcases h1 with ⟨h3,h4⟩ | ⟨h3,h4⟩
    ·exact .inl ⟨fun j hj=>h3 (iw hj),h4⟩
    ·rcases jr (ops:=ops) (resL:=resL) (x:=x) (l:=List.range ops.size) with h|⟨j,k1,_,k3⟩
     ·exact (h4 (h3.symm.trans h)).elim
     ·exact .inr ⟨j,k1,by rw[j3 k3,h3]⟩
   ·exact ia.at h2 h
theorem oW {id:Nat} {s:St} {hs:List ah} {frF:Fr} (hm:N.P.follows .mixedOrders=true) (hc:wF ops L act=true) (ha:act.all (fun a=>decide (a<ops.size))=true) (ht:A7 ops resL=true) (h0:s.h=sP hs 0) (hS:fm N ops L act resL hs s.fr 0 ops.toList) (hF:ia ops resL s.fr frF):Ev N (.code (.region id ops true) s .normal ⟨frF,[],sP hs act.length⟩):=by{
have C:=uK hc
refine GV (res:=jx resL) (Hs:=sP hs) hm C ?_ ?_ (fun a h=>by simpa using List.all_eq_true.1 ha a h) h0 fun p hp=>hF.at hp
·intro j sl off hr i hi
 unfold jx at hr
 cases hj:resL[j]? with
 | none=>simp [hj] at hr
 | some r=>
   simp only[hj,Option.getD_some] at hr
   have:=List.all_eq_true.1 ht r (List.mem_of_getElem? hj)
   rw[hr] at this
   simp only[Bool.not_eq_true',List.contains_eq_mem,decide_eq_false_iff_not] at this
   exact this (iw hi)
·intro i o k ho hk hst
 have h1:=fm.at (j:=i) hS (by simpa using ho)
 rw[Nat.zero_add] at h1
 exact⟨_,xu C,rfl,h1.at (List.mem_range.2 (by omega)) hst⟩}
end
def Tr:Value→Value→Bool
 | .int k a,.int k' b=>decide (k=k')&&decide (a=b)
 | .bool a,.bool b=>decide (a=b)
 | .string a,.string b=>decide (a=b)
 | .pointer p,.pointer q=>decide (p=q)
 | .slice p n c,.slice q m d=>decide (p=q)&&decide (n=m)&&decide (c=d)
 | .map p,.map q=>decide (p=q)
 | .nilFunc,.nilFunc=>true
 | .nilIface,.nilIface=>true
 | _,_=>false
def AN:List Value→List Value→Bool
 | [],[]=>true
 | a :: l,b :: r=>Tr a b&&AN l r
 | _,_=>false
def Tv (a b:Value):Bool:=
 match a,b with
 | .func (.func f) xs cs,.func (.func g) ys ds=>decide (f=g)&&AN xs.toList ys.toList&&AN cs.toList ds.toList
 | x,y=>Tr x y
def xk:List Value→List Value→Bool
 | [],[]=>true
 | a :: l,b :: r=>Tv a b&&xk l r
 | _,_=>false
def Rz (a b:Value):Bool:=
 match a,b with
 | .agg xs,.agg ys=>xk xs.toList ys.toList
 | .tuple xs,.tuple ys=>xk xs.toList ys.toList
 | x,y=>Tv x y
def DE:List (Value×Value)→List (Value×Value)→Bool
 | [],[]=>true
 | (k,v) :: l,(k',v') :: r=>Rz k k'&&Rz v v'&&DE l r
 | _,_=>false
def DJ:ah→ah→Bool
 | [],[]=>true
 | .map es :: l,.map es' :: r=>DE es es'&&DJ l r
 | .aA cs v o t :: l,.aA cs' v' o' t' :: r=>xk cs cs'&&decide (v=v')&&decide (o=o')&&decide (t=t')&&DJ l r
 | _,_=>false
def Um:gu→gu→Bool
 | .val a,.val b=>Rz a b
 | .mx cs n,.mx cs' n'=>xk cs cs'&&decide (n=n')
 | .dH,.dH=>true
 | _,_=>false
def Ui:gD→gD→Bool
 | .sl a,.sl b=>Um a b
 | .ep a b,.ep c d=>decide (a=c)&&decide (b=d)
 | _,_=>false
theorem u0 {a b:Value} (h:Tr a b=true):a=b:=by
 unfold Tr at h
 split at h<;>simp_all
theorem nf:∀ {a b:List Value},AN a b=true→a=b
 | [],[],_=>rfl
 | a :: l,b :: r,h=>by
   simp only[AN,Bool.and_eq_true] at h
   rw[u0 h.1,nf h.2]
 | [],_ :: _,h=>by simp [AN] at h
 | _ :: _,[],h=>by simp [AN] at h
theorem uG {a b:Value} (h:Tv a b=true):a=b:=by{
unfold Tv at h
split at h
·simp only[Bool.and_eq_true,decide_eq_true_eq] at h
 rw[h.1.1,Array.toList_inj.1 (nf h.1.2),Array.toList_inj.1 (nf h.2)]
·exact u0 h}
theorem jq:∀ {a b:List Value},xk a b=true→a=b
 | [],[],_=>rfl
 | a :: l,b :: r,h=>by
   simp only[xk,Bool.and_eq_true] at h
   rw[uG h.1,jq h.2]
 | [],_ :: _,h=>by simp [xk] at h
 | _ :: _,[],h=>by simp [xk] at h
theorem pK {a b:Value} (h:Rz a b=true):a=b:=by{
unfold Rz at h
split at h
·rw[Array.toList_inj.1 (jq h)]
·rw[Array.toList_inj.1 (jq h)]
·exact uG h}
theorem th:∀ {a b:List (Value×Value)},DE a b=true→a=b
 | [],[],_=>rfl
 | (k,v) :: l,(k',v') :: r,h=>by
   simp only[DE,Bool.and_eq_true] at h
   rw[pK h.1.1,pK h.1.2,th h.2]
 | [],_ :: _,h=>by simp [DE] at h
 | _ :: _,[],h=>by simp [DE] at h
theorem ki:∀ {a b:ah},DJ a b=true→a=b
 | [],[],_=>rfl
 | .map es :: l,.map es' :: r,h=>by
   simp only[DJ,Bool.and_eq_true] at h
   rw[th h.1,ki h.2]
 | .map _ :: _,.aA .. :: _,h=>by simp [DJ] at h
 | .aA .. :: _,.map _ :: _,h=>by simp [DJ] at h
 | .aA cs v o t :: l,.aA cs' v' o' t' :: r,h=>by
   simp only[DJ,Bool.and_eq_true,decide_eq_true_eq] at h
   obtain⟨⟨⟨⟨h1,rfl⟩,rfl⟩,rfl⟩,h2⟩:=h
   rw[jq h1,ki h2]
 | [],_ :: _,h=>by simp [DJ] at h
 | _ :: _,[],h=>by simp [DJ] at h
theorem El {a b:gu} (h:Um a b=true):a=b:=by{
unfold Um at h
split at h
·rw[pK h]
·simp only[Bool.and_eq_true,decide_eq_true_eq] at h
 rw[jq h.1,h.2]
·rfl
·cases h}
theorem Cx {a b:gD} (h:Ui a b=true):a=b:=by{
unfold Ui at h
split at h
·rw[El h]
·simp only[Bool.and_eq_true,decide_eq_true_eq] at h
 rw[h.1,h.2]
·cases h}
def rH (o:Oper):Bool:=
 match o.op with
 | .box _ _=>true
 | .alloc _=>true
 | .makeSlice _ _ _=>true
 | .store _ _ _=>true
 | .makeMap _ _=>true
 | .buildSlice _ _ _=>true
 | .mapUpdate _ _ _ _=>true
 | .mapEntry _ _ _=>true
 | .entryStore _ _ _ _=>true
 | .call c=>match c.callee with
   | .builtin .append=>true
   | .builtin _=>false
   | _=>true
 | _=>false
theorem FQ {N:Env} {call:FuncId→List Value→ah→Option (Value×ah)} {nm:FuncId→Bool} {all:Array Oper} {o:Oper} {s:St} {r:gD} {h':ah} (hm:rH o=false) (h:su N call nm all o s=some (r,h')):h'=s.h:=by{
unfold su at h
unfold rH at hm
split at h
·cases h
·cases h;rfl
·split at h
 all_goals first
  | (rename_i ho;rw[ho] at hm;cases hm;done)
  | skip
 ·rename_i c ho
  rw[ho] at hm
  simp only at hm
  split at h
  ·rename_i hc
   rw[hc] at hm
   cases hm
  ·cases hv:rz N s o.op with
   | none=>simp [hv] at h
   | some v=>
     simp only[hv,Option.map_some,Option.some.injEq,Prod.mk.injEq] at h
     exact h.2.symm
  ·rename_i cal c1 c2
   exfalso
   generalize c.callee=q at *
   cases q with
   | builtin b=>exact c2 b rfl
   | value f=>cases hm
   | invoke a b=>cases hm
 ·split at h
  ·cases h;rfl
  ·split at h
   ·split at h
    ·cases h
    ·cases h;rfl
   ·cases h}
section
variable (N:Env) (call:FuncId→List Value→ah→Option (Value×ah)) (nm:FuncId→Bool) (ops:Array Oper) (L:List (List Nat)) (act:List Nat) (fr:Fr)
def Qk:Nat→List Oper→List gD→List ah→ah→Option (List gD×List ah)
 | _,[],resL,hs,_=>some (resL,hs)
 | i,o :: r,resL,hs,h=>match su N call nm ops o (fC ops L resL fr h i) with
   | some (rs,h')=>Qk (i+1) r (resL++[rs]) (if act.contains i then hs++[h'] else hs) h'
   | none=>none
def wZ (resL:List gD) (hs:List ah) (i:Nat) (o:Oper):List Nat→Bool
 | []=>true
 | k :: l=>(!gm L act i k||(match su N call nm ops o (fC ops L resL fr (sP hs k) i) with
   | some (r,h')=>Ui r (jx resL i)&&(if rH o then DJ h' (sP hs (if i∈act then k+1 else k)) else !act.contains i)
   | none=>false))&&wZ resL hs i o l
def vT (resL:List gD) (hs:List ah):Nat→List Oper→Bool
 | _,[]=>true
 | i,o :: l=>wZ N call nm ops L act fr resL hs i o (List.range (act.length+1))&&vT resL hs (i+1) l
end
def oE (P:Nat→Bool) (g:Fr):Fr→Fr
 | []=>[]
 | (x,_) :: r=>if P x then (match aW g x with
   | .dH=>oE P g r
   | v=>(x,v) :: oE P g r) else oE P g r
def Rq (ops:Array Oper) (resL:List gD) (fr:Fr):Fr:=
 oE (fun _=>true) (iT ops resL (List.range ops.size)) (iT ops resL (List.range ops.size))++oE (fun x=>!(dstsOf ops).contains x) fr fr
def KR (N:Env) (call:FuncId→List Value→ah→Option (Value×ah)) (nm:FuncId→Bool) (ops:Array Oper) (L:List (List Nat)) (fr:Fr):Nat→List Oper→List gD→ah→Option (List Nat)
 | _,[],_,_=>some []
 | i,o :: r,resL,h=>match su N call nm ops o (fC ops L resL fr h i) with
   | some (rs,h')=>match KR N call nm ops L fr (i+1) r (resL++[rs]) h' with
     | some l=>some (if rH o then (if DJ h h' then l else i :: l) else l)
     | none=>none
   | none=>none
def TP (N:Env) (call:FuncId→List Value→ah→Option (Value×ah)) (nm:FuncId→Bool) (ops:Array Oper) (s:St):Option St:=
 match KR N call nm ops (B7 ops) s.fr 0 ops.toList [] s.h with
 | none=>none
 | some act=>match Qk N call nm ops (B7 ops) act s.fr 0 ops.toList [] [s.h] s.h with
   | some (resL,hs)=>
     if wF ops (B7 ops) act&&(act.all fun a=>decide (a<ops.size))&&A7 ops resL&&DJ s.h (sP hs 0)&&vT N call nm ops (B7 ops) act s.fr resL hs 0 ops.toList then
      some ⟨Rq ops resL s.fr,[],sP hs act.length⟩ else none
   | none=>none
section
variable {N:Env} {call:FuncId→List Value→ah→Option (Value×ah)} {nm:FuncId→Bool} {ops:Array Oper} {L:List (List Nat)} {act:List Nat} {fr:Fr} {resL:List gD} {hs:List ah}
theorem uD (hC:jm N call) (hn:sB N nm) {i:Nat} {o:Oper}:∀ {l:List Nat},wZ N call nm ops L act fr resL hs i o l=true→fY N ops L act resL hs fr i o l
 | [],_=>trivial
 | k :: l,h=>by
   simp only[wZ,Bool.and_eq_true,Bool.or_eq_true,Bool.not_eq_true'] at h
   refine⟨fun hst=>?_,uD hC hn h.2⟩
   rcases h.1 with h1|h1
   ·rw[hst] at h1
    cases h1
   ·split at h1
    ·rename_i r h' hr
     simp only[Bool.and_eq_true] at h1
     rw[← Cx h1.1]
     have h2:=h1.2
     split at h2
     ·rw[← ki h2]
      exact Gn hC hn hr
     ·rename_i hmt
      have e:=FQ (by simpa using hmt) hr
      have hni:¬ i∈act:=by simpa using h2
      rw[if_neg hni]
      have e':h'=sP hs k:=e
      rw[e'] at hr
      exact Gn hC hn hr
    ·cases h1
theorem vq (hC:jm N call) (hn:sB N nm):∀ {l:List Oper} {i:Nat},vT N call nm ops L act fr resL hs i l=true→fm N ops L act resL hs fr i l
 | [],_,_=>trivial
 | o :: l,i,h=>by
   simp only[vT,Bool.and_eq_true] at h
   exact⟨uD hC hn h.1,vq hC hn h.2⟩
theorem ia.append {fr:Fr}:∀ {a b:Fr},ia ops resL fr a→ia ops resL fr b→ia ops resL fr (a++b)
 | [],_,_,h=>h
 | (_,_) :: _,_,⟨h1,h2⟩,h=>⟨h1,ia.append h2 h⟩
theorem Ll:∀ {l:Fr},ia ops resL fr (oE (fun _=>true) (iT ops resL (List.range ops.size)) l)
 | []=>trivial
 | (x,_) :: r=>by
   simp only[oE,if_true]
   split
   ·exact Ll
   ·rename_i h
    exact⟨.inr ⟨rfl,h⟩,Ll⟩
theorem Ic:∀ {l:Fr},ia ops resL fr (oE (fun x=>!(dstsOf ops).contains x) fr l)
 | []=>trivial
 | (x,_) :: r=>by
   simp only[oE]
   split
   ·rename_i hx
    split
    ·exact Ic
    ·exact⟨.inl ⟨by simpa using hx,rfl⟩,Ic⟩
   ·exact Ic
theorem LZ (hm:N.P.follows .mixedOrders=true) (hC:jm N call) (hn:sB N nm):LY N (TP N call nm):=by{
intro id ops s s1 h
unfold TP at h
split at h
·cases h
·rename_i act hact
 split at h
 ·rename_i resL hs hrun
  split at h
  ·rename_i hc
   simp only[Bool.and_eq_true] at hc
   obtain⟨⟨⟨⟨h1,h0⟩,h2⟩,h3⟩,h4⟩:=hc
   cases h
   exact oW hm h1 h0 h2 (ki h3) (vq hC hn h4) (ia.append Ll Ic)
  ·cases h
 ·cases h}
end
def EN (n:Nat):Value→Bool
 | .pointer (some ⟨id,_,some _⟩)=>decide (id<n)
 | .slice (some ⟨id,_,some _⟩) _ _=>decide (id<n)
 | .map (some id)=>decide (id<n)
 | v=>be v
def O7 (n:Nat):Value→Bool
 | .tuple cs=>cs.toList.all (EN n)
 | .agg cs=>cs.toList.all (EN n)
 | v=>EN n v
theorem ni {n:Nat} {v:Value} (h:EN n v=true):dv n v:=by{
unfold EN at h
split at h
·exact .ptr (decide_eq_true_eq.mp h)
·exact .slice (decide_eq_true_eq.mp h)
·exact .map (decide_eq_true_eq.mp h)
·exact .be h}
theorem oU {n:Nat} {v:Value} (h:O7 n v=true):dv n v:=by{
unfold O7 at h
split at h
·exact .En fun i u hu=>ni (List.all_eq_true.1 h u (Array.mem_toList_iff.2 (Array.mem_of_getElem? hu)))
·exact .agg fun i u hu=>ni (List.all_eq_true.1 h u (Array.mem_toList_iff.2 (Array.mem_of_getElem? hu)))
·exact ni h}
def RC (n:Nat):av→Bool
 | .aA cells _ _ _=>cells.all (O7 n)
 | .map es=>es.all fun p=>O7 n p.2
theorem AW {n:Nat} {o:av} (h:RC n o=true):Rf n o:=by{
cases o with
| aA cells v o t=>exact fun v hv=>oU (List.all_eq_true.1 h v hv)
| map es=>exact fun p hp=>oU (List.all_eq_true.1 h p hp)}
def xS (n:Nat):ah→ah→Bool
 | [],_=>true
 | _ :: _,[]=>false
 | o :: h,o' :: r=>(DJ [o] [o']||RC n o')&&xS n h r
theorem qA {n:Nat}:∀ {h h':ah},xS n h h'=true→h.length≤h'.length∧∀ (i:Nat) (o:av),(h'.take h.length)[i]? = some o→h[i]? = some o∨Rf n o
 | [],h',_=>⟨Nat.zero_le _,fun i o hi=>by simp at hi⟩
 | _ :: _,[],h=>by simp [xS] at h
 | o :: h,o' :: r,hk=>by
   simp only[xS,Bool.and_eq_true,Bool.or_eq_true] at hk
   obtain⟨h1,h2⟩:=qA hk.2
   refine⟨by simp only[List.length_cons];omega,fun i q hi=>?_⟩
   cases i with
   | zero=>
     simp only[List.length_cons,List.take_succ_cons,List.getElem?_cons_zero,Option.some.injEq] at hi
     subst hi
     rcases hk.1 with h3|h3
     ·have:=ki h3
      simp only[List.cons.injEq,and_true] at this
      exact .inl (by rw[this];rfl)
     ·exact .inr (AW h3)
   | succ i=>
     simp only[List.length_cons,List.take_succ_cons,List.getElem?_cons_succ] at hi ⊢
     exact h2 i q hi
def TS (h:ah) (r:Value) (h':ah):ah:=if O7 h.length r&&xS h.length h h' then h'.take h.length else h'
theorem DY {N:Env} {f:FuncId} {args:List Value} {h h':ah} {r:Value} (e:Ev N (.call f args h r h')):Ev N (.call f args h r (TS h r h')):=by{
unfold TS
split
·rename_i hc
 rw[Bool.and_eq_true] at hc
 obtain⟨h1,h2⟩:=qA hc.2
 have hl:(h'.take h.length).length=h.length:=by rw[List.length_take];omega
 refine .OG (g:=h'.drop h.length) (by rw[List.take_append_drop];exact e) (by rw[hl];exact oU hc.1) (by rw[hl];exact Nat.le_refl _) (by rw[hl];exact h2)
·exact e}
def MV (N:Env) (nm:FuncId→Bool) (fuel:Nat) (call:FuncId→List Value→ah→Option (Value×ah)) (f:FuncId) (args:List Value) (h:ah):Option (Value×ah):=
 match N.P.funcs[f]? with
 | some fn=>match fn.body with
   | some c=>match N.mA f args h with
    | some p=>some p
    | none=>if ef fn.ntmps c=true∧args.length≤fn.ntmps then (match kU N call nm (TP N call nm) fuel c ⟨jS args fn.ntmps,[],h⟩ with
     | some (.exit _,_)=>none
     | some (_,s1)=>match tx N s1 fn.results.toList with
       | some rs=>some (cI rs,TS h (cI rs) s1.h)
       | none=>none
     | none=>none) else none
   | none=>none
 | none=>none
theorem zX {N:Env} {nm:FuncId→Bool} (hm:N.P.follows .mixedOrders=true) (hn:sB N nm) {fuel:Nat} {call:FuncId→List Value→ah→Option (Value×ah)} (hC:jm N call):jm N (MV N nm fuel call):=fun f a h r h' e=>by
 unfold MV at e
 split at e
 ·rename_i fn hf
  split at e
  ·rename_i c hb
   split at e
   ·rename_i p hp
    cases e
    exact⟨⟨fn,hf,by rw[hb];rfl⟩,.NG hp⟩
   split at e
   ·rename_i hd
    split at e
    ·cases e
    ·rename_i ex s1 h3 h2
     split at e
     ·rename_i rs hr
      cases e
      refine⟨⟨fn,hf,by rw[hb];rfl⟩,DY (.call hf hb hd.1 hd.2 (za (LZ hm hC hn) hC hn h2) ?_ hr)⟩
      cases ex with
      | normal=>exact .inl rfl
      | ret=>exact .inr rfl
      | exit id=>exact (h3 _ rfl).elim
     ·cases e
    ·cases e
   ·cases e
  ·cases e
 ·cases e
def Bl (N:Env) (nm:FuncId→Bool) (fuel:Nat):Nat→FuncId→List Value→ah→Option (Value×ah)
 | 0,_,_,_=>none
 | d+1,f,args,h=>MV N nm fuel (Bl N nm fuel d) f args h
theorem qD {N:Env} {nm:FuncId→Bool} (hm:N.P.follows .mixedOrders=true) (hn:sB N nm) {fuel:Nat}:∀ d,jm N (Bl N nm fuel d)
 | 0=>fun f a h r h' e=>by cases e
 | d+1=>zX hm hn (qD hm hn d)
def vw (ops:Array Oper) (L:List (List Nat)) (resL:List gD) (fr0:Fr) (h:ah) (i:Nat):St:=⟨fr0++iT ops resL (fK L i),yI ops resL (fK L i),h⟩
inductive aV (N:Env) (ops:Array Oper) (L:List (List Nat)) (resL:List gD) (fr0:Fr) (h:ah):Nat→List Oper→Prop
 | nil (i:Nat):aV N ops L resL fr0 h i []
 | cons {i:Nat} {o:Oper} {l:List Oper} {r:gD}:One N ops o (vw ops L resL fr0 h i) r h→jx resL i=r→aV N ops L resL fr0 h (i+1) l→aV N ops L resL fr0 h i (o :: l)
section
variable {N:Env} {ops:Array Oper} {L:List (List Nat)} {resL:List gD}
theorem aV.ok {fr:Fr} {h:ah}:∀ {l:List Oper} {i:Nat},aV N ops L resL (iq (dstsOf ops) fr) h i l→fm N ops L [] resL [h] fr i l
 | [],_,_=>trivial
 | o :: l,i,.cons h1 h2 h3=>by
   refine⟨?_,h3.ok⟩
   subst h2
   exact⟨fun _=>h1,trivial⟩
theorem CK {id:Nat} {s:St} {Q:AX→St→Prop} {h:ah} (L:List (List Nat)) (resL:List gD) (fr0:Fr) (frF:Fr) (hm:N.P.follows .mixedOrders=true) (hc:wF ops L []=true) (ht:A7 ops resL=true) (h0:s.h=h) (hb:iq (dstsOf ops) s.fr=fr0) (hS:aV N ops L resL fr0 h 0 ops.toList) (hF:ia ops resL s.fr frF) (k:Q .normal ⟨frF,[],h⟩):CW N (.region id ops true) s Q:=by{
subst hb
unfold CW
exact⟨_,_,oW (hs:=[h]) hm hc rfl ht h0 hS.ok hF,k⟩}
theorem bi {all:Array Oper} {o:Oper} {s:St} {h:ah} {c:Call} {f:FuncId} {cap args:List Value} {fn:Func} {v:Value} (hh:s.h=h) (hw:aF all o s=some true) (ho:o.op = .call c) (hc:fH s c.callee=some (f,cap)) (ha:tT s c.args.toList=some args) (hf:N.P.funcs[f]? = some fn) (hnm:(fn.name == "runtime.NumGoroutine")=false) (hb:fn.body.isNone=false) (k:FW N f (args++cap) h fun r h'=>r=v∧h'=h):One N all o s (.sl (.val v)) h:=by{
unfold FW at k
obtain⟨r,h',k1,rfl,rfl⟩:=k
exact .call hw ho hc ha hf hnm hb (hh▸k1)}
def Lz (N:Env) (all:Array Oper) (o:Oper) (s:St):Option (gD×ah):=
 match aF all o s with
 | none=>none
 | some false=>some (.sl (.val (.tuple #[])),s.h)
 | some true=>match o.op,o.dst with
   | .box t x,some _=>(iA N s (.box t x)).map fun p=>(.sl (.box p.2),s.h)
   | .alloc t,some _=>(iA N s (.alloc t)).map fun p=>(.sl (.box p.2),s.h)
   | .buildSlice t l ps,some _=>(jw N s (.buildSlice t l ps)).map fun p=>(.sl (.mx p.2.1 p.2.2),s.h)
   | op,d=>match rz N s op with
     | some v=>some (.sl (.val v),s.h)
     | none=>match xx N s op,d with
       | some (sl,off),some d=>if sl=d then none else some (.ep sl off,s.h)
       | _,_=>none
theorem zz {all:Array Oper} {o:Oper} {s:St} {r:gD} {h:ah} (hs:Lz N all o s=some (r,h)):One N all o s r h:=by{
unfold Lz at hs
split at hs
·cases hs
·rename_i hw
 cases hs
 exact .skip hw
·rename_i hw
 split at hs
 ·rename_i t x d ho hd
  cases hb:iA N s (.box t x) with
  | none=>simp [hb] at hs
  | some p=>
    simp only[hb,Option.map_some,Option.some.injEq,Prod.mk.injEq] at hs
    obtain⟨rfl,rfl⟩:=hs
    exact .box hw hd (by rw[ho];exact hb)
 ·rename_i t d ho hd
  cases hb:iA N s (.alloc t) with
  | none=>simp [hb] at hs
  | some p=>
    simp only[hb,Option.map_some,Option.some.injEq,Prod.mk.injEq] at hs
    obtain⟨rfl,rfl⟩:=hs
    exact .box hw hd (by rw[ho];exact hb)
 ·rename_i t l ps d ho hd
  cases hb:jw N s (.buildSlice t l ps) with
  | none=>simp [hb] at hs
  | some p=>
    simp only[hb,Option.map_some,Option.some.injEq,Prod.mk.injEq] at hs
    obtain⟨rfl,rfl⟩:=hs
    exact .mx hw hd (by rw[ho];exact hb)
 ·split at hs
  ·rename_i v hv
   cases hs
   exact .val hw hv
  ·split at hs
   ·rename_i sl off d he hd
    split at hs
    ·cases hs
    ·rename_i hne
     cases hs
     exact .eH hw hd he hne
   ·cases hs}
end
attribute [push_cast] Lz vw fK iT yI bF jx Option.getD_some Option.getD_none
def yM (P:Program):Nat→List Field→Option Nat
 | o,[]=>some o
 | o,f :: r=>if f.offset=o then yM P (o+P.cellsOf f.type) r else none
def qy (P:Program) (ts:List TypeId) (t:TypeId):Bool:=
 match P.underlying t with
 | some .bool=>true
 | some (.int _)=>true
 | some .string=>true
 | some (.struct fs)=>decide (yM P 0 fs.toList=some (P.cellsOf t))&&fs.toList.all fun f=>ts.contains f.type
 | some (.array n e)=>decide (P.cellsOf t=n*P.cellsOf e)&&ts.contains e
 | some (.slice e)=>decide (0<P.cellsOf e)&&ts.contains e
 | _=>false
def ui (c:Nat) (R:List Value→Prop):Nat→List Value→Prop
 | 0,vs=>vs=[]
 | m+1,vs=>∃ a b,vs=a++b∧a.length=c∧R a∧ui c R m b
def wQ (P:Program) (R:TypeId→List Value→Prop):List Field→List Value→Prop
 | [],vs=>vs=[]
 | f :: r,vs=>∃ a b,vs=a++b∧a.length=P.cellsOf f.type∧R f.type a∧wQ P R r b
def gL (P:Program) (h:ah):Nat→TypeId→List Value→Prop
 | 0,_,_=>False
 | n+1,t,vs=>match P.underlying t with
   | some .bool=>∃ b,vs=[.bool b]
   | some (.int k)=>∃ i,vs=[.int k i]∧(Lit.int k i).wf=true
   | some .string=>∃ s:ByteArray,vs=[.string s]∧s.size≤reachBytes
   | some (.struct fs)=>wQ P (gL P h n) fs.toList vs
   | some (.array m e)=>ui (P.cellsOf e) (gL P h n e) m vs
   | some (.slice e)=>vs=[.slice none 0 0]∨vs=[.slice (some ⟨0,0,none⟩) 0 0] ∨
    ∃ id len c cells,vs=[.slice (some ⟨id,0,some 0⟩) len c]∧len*P.bytesOf e≤reachBytes∧h[id]? = some (.aA cells 0 false e)∧ui (P.cellsOf e) (gL P h n e) len cells
   | _=>False
theorem ui.mono {c:Nat} {R R':List Value→Prop} (k:∀ vs,R vs→R' vs):∀ {m:Nat} {vs:List Value},ui c R m vs→ui c R' m vs
 | 0,_,h=>h
 | _+1,_,⟨a,b,h1,h2,h3,h4⟩=>⟨a,b,h1,h2,k _ h3,ui.mono k h4⟩
theorem wQ.mono {P:Program} {R R':TypeId→List Value→Prop} (k:∀ t vs,R t vs→R' t vs):∀ {l:List Field} {vs:List Value},wQ P R l vs→wQ P R' l vs
 | [],_,h=>h
 | _ :: _,_,⟨a,b,h1,h2,h3,h4⟩=>⟨a,b,h1,h2,k _ _ h3,wQ.mono k h4⟩
theorem Jh {h h':ah} (hp:h <+: h') {i:Nat} {x:av} (hx:h[i]? = some x):h'[i]? = some x:=by{
obtain⟨t,rfl⟩:=hp
rw[List.getElem?_append_left (List.getElem?_eq_some_iff.1 hx).1]
exact hx}
theorem gL.mono {P:Program} {h h':ah} (hp:h <+: h'):∀ {n:Nat} {t:TypeId} {vs:List Value},gL P h n t vs→gL P h' n t vs
 | 0,_,_,k=>k
 | n+1,t,vs,k=>by
   unfold gL at k ⊢
   split at k
   ·exact k
   ·exact k
   ·exact k
   ·exact k.mono fun t vs h=>gL.mono hp h
   ·exact k.mono fun vs h=>gL.mono hp h
   ·rcases k with k|k|⟨id,len,c,cells,k1,k2,k3,k4⟩
    ·exact .inl k
    ·exact .inr (.inl k)
    ·exact .inr (.inr ⟨id,len,c,cells,k1,k2,Jh hp k3,k4.mono fun vs h=>gL.mono hp h⟩)
   ·exact k
section
variable {P:Program} {W:World} {μ μ':Mu} {h h':ah}
def mF (h:ah):Prop:=∀ (id:Nat) (o:av),h[id]? = some o→o.own=false
theorem dE.Ld (hx:eU μ μ'):∀ {a a':List Value},dE P μ a a'→dE P μ' a a'
 | [],[],_=>trivial
 | _ :: _,_ :: _,⟨h1,h2⟩=>⟨h1.mono hx,dE.Ld hx h2⟩
 | [],_ :: _,k=>k.elim
 | _ :: _,[],k=>k.elim
theorem b8.Sx (H:b8 P μ h W) (hn:mF h) {cells:List Value} {m:M} (hc:∀ (j:Nat) (v:Value),cells[j]? = some v→∃ v',W.cell? ⟨m.block,m.base+j,none⟩=some v'∧VR P μ v v') (h1:cells.all one=true) (hb:m.block<W.heap.size) : b8 P (μ++[[m]]) (h++[.aA cells 0 false m.et]) W∧mF (h++[.aA cells 0 false m.et])∧eU μ (μ++[[m]])∧fQ (μ++[[m]]) h.length 0=some m:=by{
have hx:eU μ (μ++[[m]]):=fun id l hl=>⟨[],by rw[List.getElem?_append_left (List.getElem?_eq_some_iff.1 hl).1,List.append_nil];exact hl⟩
have hnew:mF (h++[.aA cells 0 false m.et]):=by
 intro id o ho
 rcases gj ho with ⟨_,ho'⟩ | ⟨rfl,rfl⟩
 ·exact hn _ _ ho'
 ·rfl
refine⟨⟨by simp [H.len],?_,?_⟩,hnew,hx,?_⟩
·intro id o ho
 rcases gj ho with ⟨hi,ho'⟩ | ⟨rfl,rfl⟩
 ·obtain⟨q,hq⟩:=H.ob _ _ ho'
  exact⟨q,hq.mono hx (List.getElem?_append_left (by rw[H.len];exact hi)) (Nat.le_refl _) rfl⟩
 ·refine⟨m,⟨[m],by rw[← H.len];simp,rfl,rfl⟩,rfl,fun j v hj=>?_,h1,hb,fun e=>by cases e⟩
  obtain⟨v',k1,k2⟩:=hc j v hj
  exact⟨v',k1,k2.mono hx⟩
·intro id1 id2 o1 o2 m1 m2 _ g1 _ ho
 have:=hnew _ _ g1
 rw[ho] at this
 cases this
·unfold fQ
 rw[← H.len]
 simp}
def dS (P:Program) (W:World) (R:ah→List Value→Prop) (cs:List Value):Prop:=
 ∀ μ h,b8 P μ h W→mF h→∃ μ' h' vs,h <+: h'∧eU μ μ'∧b8 P μ' h' W∧mF h'∧dE P μ' vs cs∧vs.all one=true∧R h' vs
def Cg (R:ah→List Value→Prop):Prop:=∀ (h h':ah) (vs:List Value),h <+: h'→R h vs→R h' vs
theorem dS.nil {R:ah→List Value→Prop} (hR:∀ h,R h []):dS P W R []:=fun μ h H hn=>⟨μ,h,[],List.prefix_refl _,eU.refl _,H,hn,trivial,rfl,hR h⟩
theorem dS.pure {R:ah→List Value→Prop} {v v':Value} (hv:∀ μ,VR P μ v v') (h1:one v=true) (hR:∀ h,R h [v]):dS P W R [v']:=
 fun μ h H hn=>⟨μ,h,[v],List.prefix_refl _,eU.refl _,H,hn,⟨hv μ,trivial⟩,by simp [h1],hR h⟩
theorem dS.append {R1 R2 R:ah→List Value→Prop} (g1:Cg R1) {c1 c2:List Value} (k1:dS P W R1 c1) (k2:dS P W R2 c2) (hR:∀ h a b,a.length=c1.length→R1 h a→R2 h b→R h (a++b)):dS P W R (c1++c2):=by{
intro μ h H hn
obtain⟨μ1,h1,a,p1,x1,H1,n1,v1,o1,r1⟩:=k1 μ h H hn
obtain⟨μ2,h2,b,p2,x2,H2,n2,v2,o2,r2⟩:=k2 μ1 h1 H1 n1
refine⟨μ2,h2,a++b,p1.trans p2,x1.trans x2,H2,n2,(v1.Ld x2).append v2,by rw[List.all_append,o1,o2];rfl,hR h2 a b v1.length (g1 _ _ _ p2 r1) r2⟩}
theorem dS.es {R:ah→List Value→Prop} (g:Cg R) {c:Nat}:∀ {l:List (List Value)},(∀ cs∈l,cs.length=c∧dS P W R cs)→dS P W (fun h vs=>ui c (R h) l.length vs) l.flatten
 | [],_=>dS.nil fun _=>rfl
 | cs :: l,k=>by
   rw[List.flatten_cons]
   have hk:=k cs List.mem_cons_self
   exact dS.append (R1:=R) (R2:=fun h vs=>ui c (R h) l.length vs) g hk.2 (dS.es g fun cs h=>k cs (List.mem_cons_of_mem _ h)) fun h a b ha h1 h2=>⟨a,b,rfl,ha.trans hk.1,h1,h2⟩
theorem GX {P:Program}:∀ {l:List Field} {o n:Nat},yM P o l=some n→o≤n
 | [],o,n,h=>by
   simp only[yM,Option.some.injEq] at h
   omega
 | f :: l,o,n,h=>by
   simp only[yM] at h
   split at h
   ·have:=GX h
    omega
   ·cases h
theorem dS.fs {R:ah→TypeId→List Value→Prop} (g:∀ t,Cg fun h vs=>R h t vs) {cs:List Value}:∀ {l:List Field} {o:Nat},yM P o l=some cs.length →
 (∀ f∈l,dS P W (fun h vs=>R h f.type vs) ((cs.drop f.offset).take (P.cellsOf f.type)))→dS P W (fun h vs=>wQ P (R h) l vs) (cs.drop o)
 | [],o,hc,_=>by
   simp only[yM,Option.some.injEq] at hc
   rw[List.drop_of_length_le (by omega)]
   exact dS.nil fun _=>rfl
 | f :: l,o,hc,k=>by
   simp only[yM] at hc
   split at hc
   ·rename_i ho
    have h1:=k f List.mem_cons_self
    rw[ho] at h1
    have h2:=dS.fs g hc fun f' hf=>k f' (List.mem_cons_of_mem _ hf)
    have hle:o+P.cellsOf f.type≤cs.length:=GX hc
    have e:cs.drop o=(cs.drop o).take (P.cellsOf f.type)++cs.drop (o+P.cellsOf f.type):=by
     rw[← List.drop_drop,List.take_append_drop]
    rw[e]
    refine dS.append (R1:=fun h vs=>R h f.type vs) (R2:=fun h vs=>wQ P (R h) l vs) (g f.type) h1 h2 fun h a b ha k1 k2=>⟨a,b,rfl,?_,k1,k2⟩
    rw[ha,List.length_take,List.length_drop]
    omega
   ·cases hc
theorem ky {H:Type}:∀ {ts:List TypeId} {ds:List (DataW H)},(DataW.weightsEach P ts ds).all (fun b=>decide (b≤reachBytes))=true→∀ (i:Nat) (t:TypeId) (d:DataW H),ts[i]? = some t→ds[i]? = some d→(d.weights P t).all (fun b=>decide (b≤reachBytes))=true
 | [],_,_,i,t,d,h,_=>by simp at h
 | _ :: _,[],_,i,t,d,_,h=>by simp at h
 | t :: ts,d :: ds,k,i,t',d',h1,h2=>by
   unfold DataW.weightsEach at k
   rw[List.all_append,Bool.and_eq_true] at k
   cases i with
   | zero=>
     simp only[List.getElem?_cons_zero,Option.some.injEq] at h1 h2
     subst h1
     subst h2
     exact k.1
   | succ i=>exact ky k.2 i t' d' (by simpa using h1) (by simpa using h2)
theorem lQ {H:Type} {e:TypeId}:∀ {ds:List (DataW H)},(DataW.weightsAll P e ds).all (fun b=>decide (b≤reachBytes))=true→∀ d∈ds,(d.weights P e).all (fun b=>decide (b≤reachBytes))=true
 | [],_,d,h=>by cases h
 | d :: ds,k,d',h=>by
   unfold DataW.weightsAll at k
   rw[List.all_append,Bool.and_eq_true] at k
   rcases List.mem_cons.1 h with rfl|h
   ·exact k.1
   ·exact lQ k.2 d' h
theorem chunks_flatten {c:Nat}:∀ {m:Nat} {cs:List Value},cs.length=m*c→((List.range m).map fun i=>(cs.drop (i*c)).take c).flatten=cs
 | 0,cs,h=>by
   rw[Nat.zero_mul] at h
   simp [List.eq_nil_of_length_eq_zero h]
 | m+1,cs,h=>by
   rw[Nat.succ_mul] at h
   have ih:=chunks_flatten (c:=c) (m:=m) (cs:=cs.drop c) (by rw[List.length_drop];omega)
   rw[List.range_succ_eq_map,List.map_cons,List.map_map,List.flatten_cons,Nat.zero_mul,List.drop_zero]
   have e:((fun i=>(cs.drop (i*c)).take c) ∘ Nat.succ)=fun i=>((cs.drop c).drop (i*c)).take c:=by
    funext i
    simp only[Function.comp,List.drop_drop,Nat.succ_mul]
    rw[Nat.add_comm]
   rw[e,ih,List.take_append_drop]
theorem mz {b c:Nat}:∀ {l:List (List Value)} {o:Nat},(∀ (i:Nat) (cs:List Value),l[i]? = some cs→cs.length=c∧∀ r,r<c→W.cell? ⟨b,o+i*c+r,none⟩=cs[r]?) →
 ∀ (j:Nat) (v:Value),l.flatten[j]? = some v→W.cell? ⟨b,o+j,none⟩=some v
 | [],o,_,j,v,h=>by simp at h
 | cs :: l,o,k,j,v,h=>by
   obtain⟨h1,h2⟩:=k 0 cs rfl
   rw[List.flatten_cons] at h
   rcases Nat.lt_or_ge j cs.length with hj|hj
   ·rw[List.getElem?_append_left hj] at h
    have:=h2 j (by omega)
    rw[Nat.zero_mul,Nat.add_zero] at this
    rw[this,h]
   ·rw[List.getElem?_append_right hj] at h
    have ih:=mz (b:=b) (c:=c) (l:=l) (o:=o+c) (fun i cs' hi=>by
     obtain⟨q1,q2⟩:=k (i+1) cs' (by simpa using hi)
     refine⟨q1,fun r hr=>?_⟩
     rw[← q2 r hr,Nat.succ_mul]
     congr 2
     omega) (j-cs.length) v h
    rw[← ih]
    congr 2
    omega
theorem vW {n:Nat} {t:TypeId}:Cg fun h vs=>gL P h n t vs:=fun _ _ _ hp k=>k.mono hp
theorem kJ {H:Type} {enc:TypeId×Value→H} {held:Bool} {ts:List TypeId} (hcl:ts.all (qy P ts)=true):∀ (n:Nat) (t:TypeId) (cs:List Value) (x:DataW H×List MemPlace),t∈ts →
 DataW.trod enc P W 0 (fun _=>true) held n t cs=some x→(x.1.weights P t).all (fun b=>decide (b≤reachBytes))=true→dS P W (fun h vs=>gL P h n t vs) cs
 | 0,t,cs,x,_,h,_=>by simp [DataW.trod] at h
 | n+1,t,cs,x,ht,h,hw=>by
   have hk:=List.all_eq_true.1 hcl t ht
   unfold qy at hk
   split at hk
   ·rename_i hu
    obtain⟨b,rfl,_⟩:=DataW.trod_bool hu h
    exact dS.pure (v:=.bool b) (fun _=>.pure rfl) rfl fun h=>by unfold gL;rw[hu];exact⟨b,rfl⟩
   ·rename_i k hu
    obtain⟨i,rfl,_,hwf⟩:=DataW.trod_int hu h
    exact dS.pure (v:=.int k i) (fun _=>.pure rfl) rfl fun h=>by unfold gL;rw[hu];exact⟨i,rfl,hwf⟩
   ·rename_i hu
    obtain⟨s,rfl,rfl,_⟩:=DataW.trod_string hu h
    refine dS.pure (v:=.string s) (fun _=>.pure rfl) rfl fun h=>?_
    unfold gL
    rw[hu]
    refine⟨s,rfl,?_⟩
    unfold DataW.weights at hw
    simpa using hw
   ·rename_i fs hu
    rw[Bool.and_eq_true,decide_eq_true_eq,List.all_eq_true] at hk
    obtain⟨xs,n',hn',rfl,hlen,hxl,hf⟩:=DataW.trod_struct hu h
    obtain rfl:n'=n:=by omega
    unfold DataW.weights at hw
    rw[hu] at hw
    simp only at hw
    have key:=dS.fs (P:=P) (W:=W) (R:=fun h t vs=>gL P h n' t vs) (fun t=>vW) (cs:=cs) (l:=fs.toList) (o:=0) (by rw[hlen];exact hk.1) (fun f hfm=>by
     obtain⟨i,hi,rfl⟩:=List.mem_iff_getElem.1 hfm
     have hfi:fs[i]? = some fs.toList[i]:=by simp
     have h1:=hf i _ hfi
     have hix:i<xs.length:=by rw[hxl];simpa using hi
     rw[List.getElem?_eq_getElem hix] at h1
     refine kJ hcl n' _ _ _ (by simpa using hk.2 _ (List.getElem_mem hi)) h1 ?_
     exact ky hw i _ _ (by rw[List.getElem?_map,List.getElem?_eq_getElem hi];rfl) (by simp [hix]))
    rw[List.drop_zero] at key
    intro μ h H hn
    obtain⟨μ',h',vs,a1,a2,a3,a4,a5,a6,a7⟩:=key μ h H hn
    exact⟨μ',h',vs,a1,a2,a3,a4,a5,a6,by unfold gL;rw[hu];exact a7⟩
   ·rename_i m e hu
    rw[Bool.and_eq_true,decide_eq_true_eq] at hk
    obtain⟨xs,n',hn',rfl,hlen,hxl,hf⟩:=DataW.trod_array hu h
    obtain rfl:n'=n:=by omega
    unfold DataW.weights at hw
    rw[hu] at hw
    simp only at hw
    have hcs:cs.length=m*P.cellsOf e:=hlen.trans hk.1
    have key:=dS.es (P:=P) (W:=W) (R:=fun h vs=>gL P h n' e vs) vW (c:=P.cellsOf e) (l:=(List.range m).map fun i=>(cs.drop (i*P.cellsOf e)).take (P.cellsOf e)) (fun cs' hm=>by
     rw[List.mem_map] at hm
     obtain⟨i,hi,rfl⟩:=hm
     rw[List.mem_range] at hi
     have h1:=hf i hi
     have hix:i<xs.length:=by rw[hxl];exact hi
     rw[List.getElem?_eq_getElem hix] at h1
     refine⟨?_,kJ hcl n' _ _ _ (by simpa using hk.2) h1 (lQ hw _ (List.mem_map.2 ⟨_,List.getElem_mem hix,rfl⟩))⟩
     rw[List.length_take,List.length_drop,hcs]
     have:(i+1)*P.cellsOf e≤m*P.cellsOf e:=Nat.mul_le_mul_right _ hi
     rw[Nat.succ_mul] at this
     omega)
    rw[chunks_flatten hcs,List.length_map,List.length_range] at key
    intro μ h H hn
    obtain⟨μ',h',vs,a1,a2,a3,a4,a5,a6,a7⟩:=key μ h H hn
    exact⟨μ',h',vs,a1,a2,a3,a4,a5,a6,by unfold gL;rw[hu];exact a7⟩
   ·rename_i e hu
    rw[Bool.and_eq_true,decide_eq_true_eq] at hk
    rcases DataW.trod_slice hu h with ⟨rfl,_⟩ | ⟨a,len,cap,elems,rest,n',hn',rfl,rfl,_,hlc,hcm,hel,hf,hsp,_⟩
    ·exact dS.pure (v:=.slice none 0 0) (fun _=>.pure rfl) rfl fun h=>by unfold gL;rw[hu];exact .inl rfl
    obtain rfl:n'=n:=by omega
    obtain⟨hrl,hr⟩:=hsp rfl
    unfold DataW.weights at hw
    rw[hu] at hw
    simp only[List.all_cons,List.all_append,Bool.and_eq_true,decide_eq_true_eq,List.length_map] at hw
    obtain⟨hw1,hw2,_⟩:=hw
    by_cases hcap:cap=0
    ·subst hcap
     obtain rfl:len=0:=by omega
     exact dS.pure (v:=.slice (some ⟨0,0,none⟩) 0 0) (fun _=>.fA) rfl fun h=>by unfold gL;rw[hu];exact .inr (.inl rfl)
    have hcell:∃ cs',W.cells? 0 (a.add 0) (P.cellsOf e)=some cs':=by
     by_cases hl0:0<len
     ·have:=hf 0 hl0
      rw[List.getElem?_eq_getElem (by omega),Nat.zero_mul,Option.bind_eq_some_iff] at this
      obtain⟨cs',h1,_⟩:=this
      exact⟨cs',h1⟩
     ·have:=hr 0 (by omega)
      obtain rfl:len=0:=by omega
      rw[List.getElem?_eq_getElem (by omega),Nat.zero_add,Nat.zero_mul,Option.bind_eq_some_iff] at this
      obtain⟨cs',h1,_⟩:=this
      exact⟨cs',h1⟩
    obtain⟨hspot,hblk⟩:a.spot=none∧a.block<W.heap.size:=by
     obtain⟨cs',h1⟩:=hcell
     obtain⟨_,h2,h3⟩:=World.cells?_some h1
     have h4:=h3 0 hk.1
     rw[List.getElem?_eq_getElem (by omega)] at h4
     obtain⟨ab,ao,asp⟩:=a
     cases asp with
     | none=>
       refine⟨rfl,?_⟩
       rcases Nat.lt_or_ge ab W.heap.size with h5|h5
       ·exact h5
       ·simp [World.cell?,Addr.add,Array.getElem?_eq_none h5] at h4
     | some sp=>
       exfalso
       unfold World.cell? at h4
       split at h4
       ·simp [Addr.add] at h4
       ·cases h4
    obtain⟨ab,ao,asp⟩:=a
    simp only at hspot hblk
    subst hspot
    have hget:∀ i,i<len→∃ cs',W.cells? 0 ⟨ab,ao+i*P.cellsOf e,none⟩ (P.cellsOf e)=some cs'∧∃ y∈elems,DataW.trod enc P W 0 (fun _=>true) held n' e cs'=some y:=fun i hi=>by
     have:=hf i hi
     rw[List.getElem?_eq_getElem (by omega),Option.bind_eq_some_iff] at this
     obtain⟨cs',h1,h2⟩:=this
     rw[Addr.add_lit] at h1
     exact⟨cs',h1,_,List.getElem_mem _,h2⟩
    have key:=dS.es (P:=P) (W:=W) (R:=fun h vs=>gL P h n' e vs) vW (c:=P.cellsOf e) (l:=(List.range len).map fun i=>(W.cells? 0 ⟨ab,ao+i*P.cellsOf e,none⟩ (P.cellsOf e)).getD []) (fun cs' hm=>by
     rw[List.mem_map] at hm
     obtain⟨i,hi,rfl⟩:=hm
     rw[List.mem_range] at hi
     obtain⟨cs',h1,y,hy,h2⟩:=hget i hi
     rw[h1]
     exact⟨(World.cells?_some h1).2.1,kJ hcl n' _ _ _ (by simpa using hk.2) h2 (lQ hw2 _ (List.mem_map.2 ⟨_,hy,rfl⟩))⟩)
    rw[List.length_map,List.length_range] at key
    intro μ h H hn
    obtain⟨μ',h',vs,a1,a2,a3,a4,a5,a6,a7⟩:=key μ h H hn
    have hfl:=mz (W:=W) (b:=ab) (c:=P.cellsOf e) (l:=(List.range len).map fun i=>(W.cells? 0 ⟨ab,ao+i*P.cellsOf e,none⟩ (P.cellsOf e)).getD []) (o:=ao) (fun i cs' hi=>by
     rw[List.getElem?_map] at hi
     have hil:i<len:=by
      rcases Nat.lt_or_ge i len with h5|h5
      ·exact h5
      ·simp [List.getElem?_eq_none (l:=List.range len) (by simpa using h5)] at hi
     rw[List.getElem?_eq_getElem (by simpa using hil),Option.map_some,List.getElem_range,Option.some.injEq] at hi
     subst hi
     obtain⟨cs',h1,_⟩:=hget i hil
     rw[h1]
     obtain⟨_,q1,q2⟩:=World.cells?_some h1
     refine⟨q1,fun r hr=>?_⟩
     have:=q2 r hr
     rwa [Addr.add_lit] at this)
    obtain⟨b1,b2,b3,b4⟩:=a3.Sx a4 (cells:=vs) (m:=⟨ab,ao,cap*P.cellsOf e,e⟩) (fun j v hj=>by
     obtain⟨v',k1,k2⟩:=a5.get hj
     exact⟨v',hfl j v' k1,k2⟩) a6 hblk
    refine⟨_,_,[.slice (some ⟨h'.length,0,some 0⟩) len len],a1.trans ⟨_,rfl⟩,a2.trans b3,b1,b2,⟨?_,trivial⟩,rfl,?_⟩
    ·have hv:=VR.slice (P:=P) (c:=len) (len:=len) (cap:=cap) (off:=0) b4 hlc hcm (by simp)
     simpa using hv
    ·unfold gL
     rw[hu]
     refine .inr (.inr ⟨h'.length,len,len,vs,rfl,?_,by simp,a7.mono fun vs k=>k.mono ⟨_,rfl⟩⟩)
     have:len*P.bytesOf e≤(elems.length+rest.length)*P.bytesOf e:=Nat.mul_le_mul_right _ (by omega)
     omega
   ·cases hk
end
def Ew (P:Nat→Prop):List Nat→Prop
 | []=>True
 | a :: l=>P a∧Ew P l
theorem Ew.mem {P:Nat→Prop}:∀ {l:List Nat},Ew P l→∀ k∈l,P k
 | [],_,k,h=>by cases h
 | a :: l,⟨h1,h2⟩,k,h=>by
   rcases List.mem_cons.1 h with rfl|h
   ·exact h1
   ·exact Ew.mem h2 k h
def VX (L:List (List Nat)) (act:List Nat) (i:Nat):List Nat:=(List.range (act.length+1)).filter (gm L act i)
def Ns (act:List Nat) (i k:Nat):Nat:=if act.contains i then k+1 else k
inductive ay (N:Env) (ops:Array Oper) (L:List (List Nat)) (act:List Nat) (resL:List gD) (hs:List ah) (fr0:Fr):Nat→List Oper→Prop
 | nil (i:Nat):ay N ops L act resL hs fr0 i []
 | cons {i:Nat} {o:Oper} {l:List Oper} {r:gD} (ks:List Nat):VX L act i=ks→Ew (fun k=>One N ops o (vw ops L resL fr0 (sP hs k) i) r (sP hs (Ns act i k))) ks→jx resL i=r→ay N ops L act resL hs fr0 (i+1) l→ay N ops L act resL hs fr0 i (o :: l)
section
variable {N:Env} {ops:Array Oper} {L:List (List Nat)} {act:List Nat} {resL:List gD} {hs:List ah}
theorem fY.of {fr:Fr} {i:Nat} {o:Oper}:∀ {l:List Nat},(∀ k∈l,gm L act i k=true→One N ops o (fC ops L resL fr (sP hs k) i) (jx resL i) (sP hs (if i∈act then k+1 else k)))→fY N ops L act resL hs fr i o l
 | [],_=>trivial
 | k :: l,h=>⟨h k List.mem_cons_self,fY.of fun k' hk=>h k' (List.mem_cons_of_mem _ hk)⟩
theorem ay.ok {fr:Fr}:∀ {l:List Oper} {i:Nat},ay N ops L act resL hs (iq (dstsOf ops) fr) i l→fm N ops L act resL hs fr i l
 | [],_,_=>trivial
 | o :: l,i,.cons ks h0 h1 h2 h3=>by
   refine⟨fY.of fun k hk hb=>?_,h3.ok⟩
   have:=h1.mem k (by rw[← h0];exact List.mem_filter.2 ⟨hk,hb⟩)
   subst h2
   unfold Ns at this
   simp only[List.contains_iff_mem] at this
   exact this
theorem oP {id:Nat} {s:St} {Q:AX→St→Prop} (L:List (List Nat)) (act:List Nat) (hs:List ah) (resL:List gD) (fr0:Fr) (frF:Fr) (hE:ah) (hm:N.P.follows .mixedOrders=true) (hc:wF ops L act=true) (ha:act.all (fun a=>decide (a<ops.size))=true) (ht:A7 ops resL=true) (h0:s.h=sP hs 0) (hl:sP hs act.length=hE) (hb:iq (dstsOf ops) s.fr=fr0) (hS:ay N ops L act resL hs fr0 0 ops.toList) (hF:ia ops resL s.fr frF) (k:Q .normal ⟨frF,[],hE⟩):CW N (.region id ops true) s Q:=by{
subst hb
subst hl
unfold CW
exact⟨_,_,oW (hs:=hs) hm hc ha ht h0 hS.ok hF,k⟩}
end
attribute [push_cast] sP Ns
end Go.Proofs.YtmdmimkbpikmoaaGreat.Am
namespace Go.Proofs.YtmdmimkbpikmoaaGreat.Am
open Go.RowKit Go.MapKept
inductive Sh where
 | sV (k:IntKind)
 | yP
 | mL
 | ol
 deriving DecidableEq
def Sh.sz:Sh→Nat
 | .ol=>4
 | _=>1
def Sh.ok:Sh→List Value→Bool
 | .sV k,[.int k' _]=>decide (k=k')
 | .yP,[.bool _]=>true
 | .mL,[.string _]=>true
 | .ol,[.int .u64 _,.int .u64 _,.int .u64 _,.int .u64 _]=>true
 | _,_=>false
def mO:List Sh→List Value→Bool
 | [],l=>l.isEmpty
 | s :: r,l=>s.ok (l.take s.sz)&&mO r (l.drop s.sz)
def Sh.val:Sh→List Value→Value
 | .ol,l=>.agg l.toArray
 | _,l=>l.headD .nilFunc
def Cv (P:Program) (t:TypeId):Option Sh:=
 match P.underlying t with
 | some (.int k)=>some (.sV k)
 | some .bool=>some .yP
 | some .string=>some .mL
 | some (.array 4 e)=>match P.underlying e,P.info? t,P.info? e with
   | some (.int .u64),some i,some j=>if i.size=4∧j.size=1 then some .ol else none
   | _,_,_=>none
 | _=>none
def mG (P:Program):List Field→Nat→List Sh→Bool
 | [],_,[]=>true
 | f :: fs,off,s :: r=>decide (Cv P f.type=some s)&&decide (f.offset=off)&&(f.name != "_")&&mG P fs (off+s.sz) r
 | _,_,_=>false
def gd (P:Program) (t:TypeId) (l:List Sh):Bool:=
 match P.underlying t with
 | some (.struct fs)=>mG P fs.toList 0 l && !P.stoodInHeld t && !P.eqGuardType P.depth t
 | _=>false
theorem v5 (n m:ByteArray):(n == m)=decide (n=m):=by{
cases n with
| mk a=>
cases m with
| mk b=>
have h:((⟨a⟩:ByteArray) == ⟨b⟩)=(a == b):=rfl
rw[h]
by_cases e:a=b
·subst e
 simp
·rw[decide_eq_false (fun k=>e (by injection k)),beq_eq_false_iff_ne]
 exact e}
section
variable {P:Program} {w:World}
theorem mQ {t:TypeId} {s:Sh} (h:Cv P t=some s):(∃ k,s = .sV k∧P.underlying t=some (.int k))∨(s = .yP∧P.underlying t=some .bool)∨(s = .mL∧P.underlying t=some .string) ∨ (s = .ol∧∃ e i j,P.underlying t=some (.array 4 e)∧P.underlying e=some (.int .u64)∧P.info? t=some i∧P.info? e=some j∧i.size=4∧j.size=1):=by{
unfold Cv at h
split at h
·rename_i k hu
 cases h
 exact .inl ⟨k,rfl,hu⟩
·rename_i hu
 cases h
 exact .inr (.inl ⟨rfl,hu⟩)
·rename_i hu
 cases h
 exact .inr (.inr (.inl ⟨rfl,hu⟩))
·rename_i e hu
 split at h
 ·rename_i i j he hi hj
  split at h
  ·rename_i hq
   cases h
   exact .inr (.inr (.inr ⟨rfl,e,i,j,hu,he,hi,hj,hq.1,hq.2⟩))
  ·cases h
 ·cases h
·cases h}
theorem Sh.sW {s:Sh} {l:List Value} (h:s.ok l=true):l.length=s.sz:=by
 unfold Sh.ok at h
 split at h<;>first|rfl|cases h
theorem mY {l:List Value} (h:Sh.ol.ok l=true):∃ a b c d,l=[.int .u64 a,.int .u64 b,.int .u64 c,.int .u64 d]:=by{
unfold Sh.ok at h
split at h<;>first|cases h|skip
all_goals first|exact⟨_,_,_,_,rfl⟩ | (rename_i hq;cases hq;done) | (rename_i h1 h2;cases h1;done) | skip}
theorem xW {k:IntKind} {l:List Value} (h:(Sh.sV k).ok l=true):∃ a,l=[.int k a]:=by{
match l,h with
| [.int k' a],h=>
  have:k=k':=by simpa [Sh.ok] using h
  exact⟨a,by rw[this]⟩}
theorem xH {l:List Value} (h:Sh.yP.ok l=true):∃ a,l=[.bool a]:=by
 match l,h with
 | [.bool a],_=>exact⟨a,rfl⟩
theorem yL {l:List Value} (h:Sh.mL.ok l=true):∃ a,l=[.string a]:=by
 match l,h with
 | [.string a],_=>exact⟨a,rfl⟩
theorem j6 {t:TypeId} {d:TypeDesc} (hu:P.underlying t=some d) (hd:d = .bool∨d = .string∨∃ k,d = .int k):P.plainKey t=true:=by{
unfold Program.plainKey
rw[hu]
rcases hd with rfl|rfl|⟨k,rfl⟩<;>rfl}
theorem xC {l:List Value} {xs:Array Value} {off:Nat} (h:(xs.toList.drop off).take l.length=l):∀ (j:Nat) (v:Value),l[j]? = some v→xs[off+j]? = some v:=fun j v hj=>by
 have hlt:=(List.getElem?_eq_some_iff.1 hj).1
 have:((xs.toList.drop off).take l.length)[j]? = some v:=by rw[h];exact hj
 rw[List.getElem?_take_of_lt hlt,List.getElem?_drop] at this
 simpa using this
theorem wU {t:TypeId} {s:Sh} (hs:Cv P t=some s) {xs:Array Value} {off:Nat} (hok:s.ok ((xs.toList.drop off).take s.sz)=true):(part t xs off).run P w = .ok (s.val ((xs.toList.drop off).take s.sz)) w:=by{
have hlen:=Sh.sW hok
have hget:=xC (l:=(xs.toList.drop off).take s.sz) (xs:=xs) (off:=off) (by rw[hlen])
rcases mQ hs with ⟨k,rfl,hu⟩ | ⟨rfl,hu⟩ | ⟨rfl,hu⟩ | ⟨rfl,e,i,j,hu,he,hi,hj,hsz,_⟩
·obtain⟨a,ha⟩:=xW hok
 rw[ha] at hget ⊢
 have:=hget 0 _ rfl
 exact run_part_plain w (j6 hu (.inr (.inr ⟨k,rfl⟩))) this
·obtain⟨a,ha⟩:=xH hok
 rw[ha] at hget ⊢
 have:=hget 0 _ rfl
 exact run_part_plain w (j6 hu (.inl rfl)) this
·obtain⟨a,ha⟩:=yL hok
 rw[ha] at hget ⊢
 have:=hget 0 _ rfl
 exact run_part_plain w (j6 hu (.inr (.inl rfl))) this
·simp only[part,jg hu,oY,Sem.run_bind,Result.andThen_ok,if_true,bW hi,hsz,Sem.run_pure,Sh.val]
 congr 2
 apply Array.toList_inj.1
 simp [Array.toList_extract,Sh.sz,List.extract_eq_take_drop]}
theorem Q6 (a b c d a' b' c' d':Int):jD [.int .u64 a,.int .u64 b,.int .u64 c,.int .u64 d] [.int .u64 a',.int .u64 b',.int .u64 c',.int .u64 d']=(decide (a=a')&&(decide (b=b')&&(decide (c=c')&&decide (d=d')))):=by
 simp only[jD,np,Bool.and_true]
theorem BW (d:Nat) {e:TypeId} (hu:P.underlying e=some (.int .u64)) (xs ys:Array Value) (f g:Nat→Int):∀ (is:List Nat),(∀ i∈is,xs[i]? = some (.int .u64 (f i))∧ys[i]? = some (.int .u64 (g i))) →
 (Op.eqItems (d+1) e 1 xs ys is).run P w = .ok (is.all fun i=>decide (f i=g i)) w
 | [],_=>by simp [Op.eqItems]
 | i :: is,h=>by
   obtain⟨h1,h2⟩:=h i List.mem_cons_self
   have ih:=BW d hu xs ys f g is fun j hj=>h j (List.mem_cons_of_mem _ hj)
   have p1:(part e xs (i*1)).run P w = .ok (.int .u64 (f i)) w:=run_part_plain w (j6 hu (.inr (.inr ⟨_,rfl⟩))) (by rw[Nat.mul_one];exact h1)
   have p2:(part e ys (i*1)).run P w = .ok (.int .u64 (g i)) w:=run_part_plain w (j6 hu (.inr (.inr ⟨_,rfl⟩))) (by rw[Nat.mul_one];exact h2)
   simp only[Op.eqItems,Sem.run_bind,p1,p2,Result.andThen_ok,run_equalIn_int w d _ _ _ _ _ hu,List.all_cons]
   by_cases he:f i=g i
   ·simp only[he,beq_self_eq_true,Bool.not_true,Bool.false_eq_true,if_false,decide_true,Bool.true_and]
    exact ih
   ·simp [he]
theorem Fs (d:Nat) {t e:TypeId} {j:TypeInfo} (hu:P.underlying t=some (.array 4 e)) (he:P.underlying e=some (.int .u64)) (hj:P.info? e=some j) (hs:j.size=1) (a b c q a' b' c' q':Int) : (Op.equalIn (d+2) t (.agg #[.int .u64 a,.int .u64 b,.int .u64 c,.int .u64 q]) (.agg #[.int .u64 a',.int .u64 b',.int .u64 c',.int .u64 q'])).run P w = .ok (jD [.int .u64 a,.int .u64 b,.int .u64 c,.int .u64 q] [.int .u64 a',.int .u64 b',.int .u64 c',.int .u64 q']) w:=by{
have hc:P.cellsOf e=1:=by simp [Program.cellsOf,hj,hs]
rw[run_equalIn_array w (d+1) _ _ hu hj,hc,Q6]
rw[BW d he _ _ (fun i=>[a,b,c,q].getD i 0) (fun i=>[a',b',c',q'].getD i 0)]
·simp only[show List.range 4=[0,1,2,3] from rfl,List.all_cons,List.all_nil,Bool.and_true,List.getD_cons_zero,List.getD_cons_succ]
·intro i hi
 have:i=0∨i=1∨i=2∨i=3:=by simp at hi;omega
 rcases this with rfl|rfl|rfl|rfl<;>exact⟨rfl,rfl⟩}
theorem NF (d:Nat) {t:TypeId} {s:Sh} (hs:Cv P t=some s) {l m:List Value} (hl:s.ok l=true) (hm:s.ok m=true):(Op.equalIn (d+2) t (s.val l) (s.val m)).run P w = .ok (jD l m) w:=by{
rcases mQ hs with ⟨k,rfl,hu⟩ | ⟨rfl,hu⟩ | ⟨rfl,hu⟩ | ⟨rfl,e,i,j,hu,he,hi,hj,hsz,hjs⟩
·obtain⟨a,rfl⟩:=xW hl
 obtain⟨b,rfl⟩:=xW hm
 show (Op.equalIn (d+1+1) t (.int k a) (.int k b)).run P w=_
 rw[run_equalIn_int w (d+1) _ _ _ _ _ hu]
 simp only[jD,np,Bool.and_true,Bool.beq_eq_decide_eq]
·obtain⟨a,rfl⟩:=xH hl
 obtain⟨b,rfl⟩:=xH hm
 show (Op.equalIn (d+1+1) t (.bool a) (.bool b)).run P w=_
 rw[run_equalIn_bool' w (d+1) _ _ _ hu]
 simp only[jD,np,Bool.and_true]
 cases a<;>cases b<;>rfl
·obtain⟨a,rfl⟩:=yL hl
 obtain⟨b,rfl⟩:=yL hm
 have:(Op.equalIn (d+1+1) t (.string a) (.string b)).run P w = .ok (a == b) w:=by simp [Op.equalIn,run_underlying hu]
 show (Op.equalIn (d+1+1) t (.string a) (.string b)).run P w=_
 rw[this,v5]
 simp only[jD,np,Bool.and_true]
·obtain⟨a,b,c,q,rfl⟩:=mY hl
 obtain⟨a',b',c',q',rfl⟩:=mY hm
 exact Fs d hu he hj hjs a b c q a' b' c' q'}
theorem mX {l1 l2 m1 m2:List Value} (h:l1.length=m1.length):jD (l1++l2) (m1++m2)=(jD l1 m1&&jD l2 m2):=by{
induction l1 generalizing m1 with
| nil=>cases m1 with
  | nil=>simp [jD]
  | cons=>simp at h
| cons x l ih=>cases m1 with
  | nil=>simp at h
  | cons y m=>simp only[List.cons_append,jD,ih (by simpa using h),Bool.and_assoc]}
theorem uW (d:Nat) (xs ys:Array Value):∀ (fs:List Field) (off:Nat) (l:List Sh),mG P fs off l=true→mO l (xs.toList.drop off)=true→mO l (ys.toList.drop off)=true →
 (Op.eqFields (d+2) xs ys fs).run P w = .ok (jD (xs.toList.drop off) (ys.toList.drop off)) w
 | [],off,[],_,hx,hy=>by
   simp only[mO,List.isEmpty_iff] at hx hy
   rw[hx,hy]
   simp [Op.eqFields,jD]
 | [],_,_ :: _,h,_,_=>by simp [mG] at h
 | _ :: _,_,[],h,_,_=>by simp [mG] at h
 | f :: fs,off,s :: r,h,hx,hy=>by
   simp only[mG,Bool.and_eq_true,decide_eq_true_eq] at h
   obtain⟨⟨⟨h1,h2⟩,h3⟩,h4⟩:=h
   simp only[mO,Bool.and_eq_true,List.drop_drop] at hx hy
   have ih:=uW d xs ys fs (off+s.sz) r h4 hx.2 hy.2
   have hn:f.name ≠ "_":=by simpa using h3
   have hlx:=Sh.sW hx.1
   have hly:=Sh.sW hy.1
   simp only[Op.eqFields,ne_eq,hn,not_false_eq_true,if_true,Sem.run_bind,h2,wU h1 hx.1,wU h1 hy.1,Result.andThen_ok,NF d h1 hx.1 hy.1]
   have e1:xs.toList.drop off=(xs.toList.drop off).take s.sz++xs.toList.drop (off+s.sz):=by rw[← List.drop_drop,List.take_append_drop]
   have e2:ys.toList.drop off=(ys.toList.drop off).take s.sz++ys.toList.drop (off+s.sz):=by rw[← List.drop_drop,List.take_append_drop]
   have e3:jD (xs.toList.drop off) (ys.toList.drop off)=(jD ((xs.toList.drop off).take s.sz) ((ys.toList.drop off).take s.sz)&&jD (xs.toList.drop (off+s.sz)) (ys.toList.drop (off+s.sz))):=by
    conv=>lhs;rw[e1,e2]
    exact mX (by rw[hlx,hly])
   rw[e3]
   generalize jD ((xs.toList.drop off).take s.sz) ((ys.toList.drop off).take s.sz)=q
   cases q with
   | false=>simp
   | true=>
     simp only[Bool.not_true,Bool.false_eq_true,if_false,Bool.true_and]
     exact ih
theorem iV {t:TypeId} {l:List Sh} (h:gd P t l=true):P.underlying t=some (.struct (P.fieldsOf t))∧mG P (P.fieldsOf t).toList 0 l=true∧P.stoodInHeld t=false∧P.eqGuardType P.depth t=false:=by{
unfold gd at h
split at h
·rename_i fs hu
 simp only[Bool.and_eq_true,Bool.not_eq_true'] at h
 have e:P.fieldsOf t=fs:=by simp [Program.fieldsOf,hu]
 rw[e]
 exact⟨hu,h.1.1,h.1.2,h.2⟩
·cases h}
theorem sw {t:TypeId} {l:List Sh} (h:gd P t l=true) (d:Nat) {xs ys:Array Value} (hx:mO l xs.toList=true) (hy:mO l ys.toList=true):(Op.equalIn (d+3) t (.agg xs) (.agg ys)).run P w = .ok (jD xs.toList ys.toList) w:=by{
obtain⟨hu,hf,hs,_⟩:=iV h
rw[run_equalIn_struct w (d+2) t xs ys hu hs]
have:=uW (w:=w) d xs ys _ 0 l hf (by simpa using hx) (by simpa using hy)
simpa using this}
theorem x6 {t:TypeId} {l:List Sh} (h:gd P t l=true):Ez P t (mO l):=fun xs ys hx hy=>⟨(iV h).2.2.2,fun w=>sw h 9997 hx hy⟩
def Sr:Value→Bool
 | .int _ _=>true
 | .bool _=>true
 | .string _=>true
 | _=>false
theorem EG {v:Value} (h:Sr v=true):be v=true:=by
 cases v<;>first|rfl|simp [Sr] at h
theorem Lj {s:Sh} {l:List Value} (h:s.ok l=true):l.all Sr=true:=by{
cases s with
| sV k=>obtain⟨a,rfl⟩:=xW h;rfl
| yP=>obtain⟨a,rfl⟩:=xH h;rfl
| mL=>obtain⟨a,rfl⟩:=yL h;rfl
| ol=>obtain⟨a,b,c,d,rfl⟩:=mY h;rfl}
theorem wg:∀ {l:List Sh} {xs:List Value},mO l xs=true→xs.all Sr=true
 | [],xs,h=>by
   simp only[mO,List.isEmpty_iff] at h
   rw[h]
   rfl
 | s :: r,xs,h=>by
   simp only[mO,Bool.and_eq_true] at h
   have:=wg h.2
   rw[← List.take_append_drop s.sz xs,List.all_append,this,Bool.and_true]
   exact Lj h.1
theorem yE {l:List Sh} {xs:List Value} (h:mO l xs=true):xs.all be=true:=by{
have:=wg h
rw[List.all_eq_true] at this ⊢
exact fun v hv=>EG (this v hv)}
theorem x7 {μ:Mu}:∀ {l l':List Value},l.all be=true→dE P μ l l'→l'=l
 | [],[],_,_=>rfl
 | v :: l,v' :: l',h,⟨h1,h2⟩=>by
   simp only[List.all_cons,Bool.and_eq_true] at h
   rw[h1.dM h.1,x7 h.2 h2]
 | [],_ :: _,_,h=>h.elim
 | _ :: _,[],_,h=>h.elim
theorem jt {t:TypeId} {l:List Sh} (h:gd P t l=true):Ez P t (mO l)∧∀ xs ys:List Value,∀ μ:Mu,dE P μ xs ys→mO l xs=true→ys=xs:=⟨x6 h,fun xs ys μ hv hc=>x7 (yE hc) hv⟩
def yX (l:List Sh):Value→Bool
 | .agg xs=>mO l xs.toList
 | _=>false
theorem lP {l:List Sh} {v:Value} (h:yX l v=true):∃ xs,v = .agg xs∧mO l xs.toList=true:=by{
unfold yX at h
split at h
·exact⟨_,rfl,h⟩
·cases h}
theorem S5 {s:Sh} {l m:List Value} (hl:s.ok l=true) (hm:s.ok m=true) (h:jD l m=true):l=m:=by{
cases s with
| sV k=>
  obtain⟨a,rfl⟩:=xW hl
  obtain⟨b,rfl⟩:=xW hm
  simp only[jD,np,Bool.and_true,decide_eq_true_eq] at h
  rw[h]
| yP=>
  obtain⟨a,rfl⟩:=xH hl
  obtain⟨b,rfl⟩:=xH hm
  simp only[jD,np,Bool.and_true,decide_eq_true_eq] at h
  rw[h]
| mL=>
  obtain⟨a,rfl⟩:=yL hl
  obtain⟨b,rfl⟩:=yL hm
  simp only[jD,np,Bool.and_true,decide_eq_true_eq] at h
  rw[h]
| ol=>
  obtain⟨a,b,c,d,rfl⟩:=mY hl
  obtain⟨a',b',c',d',rfl⟩:=mY hm
  simp only[Q6,Bool.and_eq_true,decide_eq_true_eq] at h
  obtain⟨rfl,rfl,rfl,rfl⟩:=h
  rfl}
theorem It {s:Sh} {l:List Value} (hl:s.ok l=true):jD l l=true:=by{
cases s with
| sV k=>obtain⟨a,rfl⟩:=xW hl;simp [jD,np]
| yP=>obtain⟨a,rfl⟩:=xH hl;simp [jD,np]
| mL=>obtain⟨a,rfl⟩:=yL hl;simp [jD,np]
| ol=>obtain⟨a,b,c,d,rfl⟩:=mY hl;simp [jD,np]}
theorem Gj:∀ {l:List Sh} {xs ys:List Value},mO l xs=true→mO l ys=true→jD xs ys=true→xs=ys
 | [],xs,ys,h1,h2,_=>by
   simp only[mO,List.isEmpty_iff] at h1 h2
   rw[h1,h2]
 | s :: r,xs,ys,h1,h2,h=>by
   simp only[mO,Bool.and_eq_true] at h1 h2
   rw[← List.take_append_drop s.sz xs,← List.take_append_drop s.sz ys,mX (by rw[Sh.sW h1.1,Sh.sW h2.1]),Bool.and_eq_true] at h
   rw[← List.take_append_drop s.sz xs,← List.take_append_drop s.sz ys,S5 h1.1 h2.1 h.1,Gj h1.2 h2.2 h.2]
theorem yq:∀ {l:List Sh} {xs:List Value},mO l xs=true→jD xs xs=true
 | [],xs,h1=>by
   simp only[mO,List.isEmpty_iff] at h1
   rw[h1]
   rfl
 | s :: r,xs,h1=>by
   simp only[mO,Bool.and_eq_true] at h1
   have:=mX (l1:=xs.take s.sz) (l2:=xs.drop s.sz) (m1:=xs.take s.sz) (m2:=xs.drop s.sz) rfl
   rw[List.take_append_drop] at this
   rw[this,It h1.1,yq h1.2]
   rfl
theorem CN (em:Bool) (d:Nat) {t:TypeId} {s:Sh} (hs:Cv P t=some s) {l:List Value} (hl:s.ok l=true):(Instr.checkKey em (d+2) t (s.val l)).run P w = .ok () w:=by{
rcases mQ hs with ⟨k,rfl,hu⟩ | ⟨rfl,hu⟩ | ⟨rfl,hu⟩ | ⟨rfl,e,i,j,hu,he,hi,hj,hsz,hjs⟩
·obtain⟨a,rfl⟩:=xW hl
 exact run_checkKey (d:=.int k) hu (by simp [IsKey,Sh.val]) em (d+1)
·obtain⟨a,rfl⟩:=xH hl
 exact run_checkKey (d:=.bool) hu (by simp [IsKey,Sh.val]) em (d+1)
·obtain⟨a,rfl⟩:=yL hl
 exact run_checkKey (d:=.string) hu (by simp [IsKey,Sh.val]) em (d+1)
·obtain⟨a,b,c,q,rfl⟩:=mY hl
 show (Instr.checkKey em (d+1+1) t (.agg #[.int .u64 a,.int .u64 b,.int .u64 c,.int .u64 q])).run P w=_
 have ck:∀ n:Int,(Instr.checkKey em (d+1) e (.int .u64 n)).run P w = .ok () w:=fun n=>run_checkKey (d:=.int .u64) he (by simp [IsKey]) em d
 have pt:∀ (i:Nat) (v:Value),(#[Value.int .u64 a,.int .u64 b,.int .u64 c,.int .u64 q]:Array Value)[i]? = some v→(part e #[.int .u64 a,.int .u64 b,.int .u64 c,.int .u64 q] i).run P w = .ok v w:=fun i v h=>run_part_plain w (j6 he (.inr (.inr ⟨_,rfl⟩))) h
 have p0:=pt 0 _ rfl
 have p1:=pt 1 _ rfl
 have p2:=pt 2 _ rfl
 have p3:=pt 3 _ rfl
 unfold Instr.checkKey
 simp only[Sem.run_bind,run_underlying hu,Result.andThen_ok]
 simp only[Std.Legacy.Range.forIn_eq_forIn_range',Std.Legacy.Range.size,Nat.sub_zero,Nat.add_one_sub_one,Nat.div_one]
 simp [List.range',bW hj,hjs,p0,p1,p2,p3,ck,Result.andThen]}
theorem tO (em:Bool) (d:Nat) (xs:Array Value):∀ (fs:List Field) (off:Nat) (l:List Sh),mG P fs off l=true→mO l (xs.toList.drop off)=true →
 (forIn fs PUnit.unit fun f _=>(do
  if f.name ≠ "_" then Instr.checkKey em (d+2) f.type (← part f.type xs f.offset)
  pure (ForInStep.yield PUnit.unit):Sem (ForInStep PUnit))).run P w = .ok PUnit.unit w
 | [],off,l,_,_=>by simp
 | f :: fs,off,[],h,_=>by simp [mG] at h
 | f :: fs,off,s :: r,h,hx=>by
   simp only[mG,Bool.and_eq_true,decide_eq_true_eq] at h
   obtain⟨⟨⟨h1,h2⟩,h3⟩,h4⟩:=h
   simp only[mO,Bool.and_eq_true,List.drop_drop] at hx
   have ih:=tO em d xs fs (off+s.sz) r h4 hx.2
   have hn:f.name ≠ "_":=by simpa using h3
   rw[List.forIn_cons]
   simp only[ne_eq,hn,not_false_eq_true,if_true,Sem.run_bind,h2,wU h1 hx.1,Result.andThen_ok,CN em d h1 hx.1,Sem.run_pure]
   exact ih
theorem tE {t:TypeId} {l:List Sh} (h:gd P t l=true):rN P t (yX l) where
 pure:=fun v hv=>by
  obtain⟨xs,rfl,hx⟩:=lP hv
  exact yE hx
 eq:=fun a b ha hb he=>by
  obtain⟨xs,rfl,hx⟩:=lP ha
  obtain⟨ys,rfl,hy⟩:=lP hb
  rw[Array.toList_inj.1 (Gj hx hy he)]
 refl:=fun a ha=>by
  obtain⟨xs,rfl,hx⟩:=lP ha
  exact yq hx
 check:=fun em v w hv=>by
  obtain⟨xs,rfl,hx⟩:=lP hv
  obtain⟨hu,hf,_,_⟩:=iV h
  rw[show (10000:Nat)=9997+2+1 from rfl]
  unfold Instr.checkKey
  simp only[Sem.run_bind,run_underlying hu,Result.andThen_ok]
  rw[← Array.forIn_toList]
  have:=tO (w:=w) em 9997 xs _ 0 l hf (by simpa using hx)
  simp only[Sem.run_bind] at this ⊢
  rw[this]
  rfl
 find:=fun v es w hv hes=>by
  obtain⟨xs,rfl,hx⟩:=lP hv
  rw[run_findKey_eq w (by rw[(iV h).1])]
  have key:∀ (m:List MapEntry) (i:Nat),(∀ e∈m,yX l e.key=true)→(Instr.findAsking t (.agg xs) m i).run P w = .ok (gT (.agg xs) m i) w:=by
   intro m
   induction m with
   | nil=>intro i _;simp [Instr.findAsking,gT]
   | cons e m ih=>
     intro i hl
     obtain⟨ys,hm,hy⟩:=lP (hl e List.mem_cons_self)
     have ih':=ih (i+1) fun x hx=>hl x (List.mem_cons_of_mem _ hx)
     have hq:(Op.equal t (.agg xs) (.agg ys)).run P w = .ok (jD xs.toList ys.toList) w:=sw h 9997 hx hy
     simp only[Instr.findAsking,gT,Sem.run_bind,hm,hq,Result.andThen_ok,pX]
     split
     ·simp
     ·exact ih'
  exact key es 0 hes
 stays:=fun v w hv=>by
  obtain⟨xs,rfl,hx⟩:=lP hv
  have hp:=wg hx
  have:Instr.sameBits 10000 (.agg xs) (.agg xs)=true:=by
   rw[show (10000:Nat)=9999+1 from rfl]
   simp only[Instr.sameBits,beq_self_eq_true,Bool.true_and,List.all_eq_true]
   intro p hq
   obtain⟨i,hi⟩:=List.getElem?_of_mem hq
   rw[List.getElem?_zip_eq_some] at hi
   have e:p.1=p.2:=Option.some.inj (hi.1.symm.trans hi.2)
   have hpp:=List.all_eq_true.1 hp p.1 (List.mem_of_getElem? hi.1)
   obtain⟨x,y⟩:=p
   simp only at e hpp
   subst e
   cases x<;>first|(simp [Sr] at hpp;done) | (simp [Instr.sameBits];done) | (simp only[Instr.sameBits];rw[v5];simp)
  simp [Instr.keyThatStays,this]
end
def oy:Value→Bool
 | .int .i64 _=>true
 | _=>false
def eZ:Value→Bool
 | .string _=>true
 | _=>false
theorem iJ {v:Value} (h:oy v=true):∃ n,v = .int .i64 n:=by{
unfold oy at h
split at h
·exact⟨_,rfl⟩
·cases h}
theorem iM {v:Value} (h:eZ v=true):∃ b,v = .string b:=by{
unfold eZ at h
split at h
·exact⟨_,rfl⟩
·cases h}
theorem I8 {P:Program} {t:TypeId} (hu:P.underlying t=some .string):rN P t eZ where
 pure:=fun v h=>by obtain⟨n,rfl⟩:=iM h;rfl
 eq:=fun a b ha hb h=>by
  obtain⟨n,rfl⟩:=iM ha
  obtain⟨m,rfl⟩:=iM hb
  simp only[pX,np,decide_eq_true_eq] at h
  rw[h]
 refl:=fun a ha=>by obtain⟨n,rfl⟩:=iM ha;simp [pX,np]
 check:=fun em v w h=>by
  obtain⟨n,rfl⟩:=iM h
  exact run_checkKey (d:=.string) hu (by simp [IsKey]) em 9999
 find:=fun v es w h hes=>by
  obtain⟨n,rfl⟩:=iM h
  refine run_findKey (d:=.string) hu ?_
  have key:∀ (l:List MapEntry) (i:Nat),(∀ e∈l,eZ e.key=true)→Instr.findNow .string (.string n) l i=some (gT (.string n) l i):=by
   intro l
   induction l with
   | nil=>intro i _;rfl
   | cons e l ih=>
     intro i hl
     obtain⟨m,hm⟩:=iM (hl e List.mem_cons_self)
     have ih':=ih (i+1) fun x hx=>hl x (List.mem_cons_of_mem _ hx)
     simp only[Instr.findNow,gT,hm,Instr.sameNow,pX,np,if_true]
     rw[v5]
     by_cases hnm:n=m
     ·rw[decide_eq_true hnm]
      simp
     ·rw[decide_eq_false hnm]
      exact ih'
  exact key es 0 hes
 stays:=fun v w h=>by
  obtain⟨n,rfl⟩:=iM h
  exact run_keyThatStays (d:=.string) (by simp [IsKey])
theorem Ie {P:Program} {t:TypeId} (hu:P.underlying t=some (.int .i64)):rN P t oy where
 pure:=fun v h=>by obtain⟨n,rfl⟩:=iJ h;rfl
 eq:=fun a b ha hb h=>by
  obtain⟨n,rfl⟩:=iJ ha
  obtain⟨m,rfl⟩:=iJ hb
  simp only[pX,np,decide_eq_true_eq] at h
  rw[h]
 refl:=fun a ha=>by obtain⟨n,rfl⟩:=iJ ha;simp [pX,np]
 check:=fun em v w h=>by
  obtain⟨n,rfl⟩:=iJ h
  exact run_checkKey (d:=.int .i64) hu (by simp [IsKey]) em 9999
 find:=fun v es w h hes=>by
  obtain⟨n,rfl⟩:=iJ h
  refine run_findKey (d:=.int .i64) hu ?_
  have key:∀ (l:List MapEntry) (i:Nat),(∀ e∈l,oy e.key=true)→Instr.findNow (.int .i64) (.int .i64 n) l i=some (gT (.int .i64 n) l i):=by
   intro l
   induction l with
   | nil=>intro i _;rfl
   | cons e l ih=>
     intro i hl
     obtain⟨m,hm⟩:=iJ (hl e List.mem_cons_self)
     have ih':=ih (i+1) fun x hx=>hl x (List.mem_cons_of_mem _ hx)
     simp only[Instr.findNow,gT,hm,Instr.sameNow,pX,np,if_true]
     by_cases hnm:n=m
     ·simp [hnm]
     ·have hb:(n == m)=false:=by simpa using hnm
      rw[hb,decide_eq_false hnm]
      exact ih'
  exact key es 0 hes
 stays:=fun v w h=>by
  obtain⟨n,rfl⟩:=iJ h
  exact run_keyThatStays (d:=.int .i64) (by simp [IsKey])
attribute [push_cast] mO Sh.ok Sh.sz yX oy eZ
end Go.Proofs.YtmdmimkbpikmoaaGreat.Am
namespace Go.Proofs.YtmdmimkbpikmoaaGreat
set_option maxRecDepth 20000
open Go.RowKit Am Ty
def lA:List Sh:=[.sV .i64,.sV .i64,.sV .i64]
def k9:List Sh:=[.yP,.mL,.ol,.mL]
def FO:List Sh:=[.sV .i64,.mL,.ol,.mL,.mL]
def tC:List Sh:=[.mL,.ol]
def rX:List Sh:=[.mL,.mL]
theorem Fq:gd Tryz.prog 70 lA=true:=by kernel_rfl
theorem Ni:gd Tryz.prog 154 k9=true:=by kernel_rfl
theorem I6:gd Tryz.prog 103 k9=true:=by kernel_rfl
theorem NX:gd Tryz.prog 56 FO=true:=by kernel_rfl
theorem CO:gd Tryz.prog 112 tC=true:=by kernel_rfl
theorem DT:gd Tryz.prog 114 rX=true:=by kernel_rfl
def jB:TypeId→Option (Value→Bool):=fun t=>if t=3 then some oy else if t=9 then some eZ else if t=70 then some (yX lA) else if t=154 then some (yX k9) else none
theorem sT:∀ kt kd,jB kt=some kd→rN Tryz.prog kt kd:=fun kt kd h=>by
 unfold jB at h
 split at h
 ·rename_i e;subst e;cases h;exact Ie kr
 split at h
 ·rename_i e;subst e;cases h;exact I8 kr
 split at h
 ·rename_i e;subst e;cases h;exact tE Fq
 split at h
 ·rename_i e;subst e;cases h;exact tE Ni
 ·cases h
def wy:TypeId→Option (List Value→Bool):=fun t=>if t=70 then some (mO lA) else if t=56 then some (mO FO) else if t=103 then some (mO k9) else if t=112 then some (mO tC) else if t=114 then some (mO rX) else none
theorem AJ:∀ t chk,wy t=some chk→Ez Tryz.prog t chk∧∀ l l':List Value,∀ μ:Mu,dE Tryz.prog μ l l'→chk l=true→l'=l:=fun t chk h=>by
 unfold wy at h
 split at h
 ·rename_i e;subst e;cases h;exact jt Fq
 split at h
 ·rename_i e;subst e;cases h;exact jt NX
 split at h
 ·rename_i e;subst e;cases h;exact jt I6
 split at h
 ·rename_i e;subst e;cases h;exact jt CO
 split at h
 ·rename_i e;subst e;cases h;exact jt DT
 ·cases h
attribute [push_cast] lA k9 FO tC rX
def nc (a b c d:Int) (n:Nat):Bool:=(if n / 64=0 then a else if n / 64=1 then b else if n / 64=2 then c else d).toNat.testBit (n % 64)
def bQ (has:Nat→Bool):Nat→List (Fin 256)
 | 0=>[]
 | k+1=>if h:k<256 then (if has k then bQ has k++[⟨k,h⟩] else bQ has k) else bQ has k
def jd (l:List (Nat×Nat)) (b:Nat):List (Nat×Nat):=
 match l.getLast? with
 | some (lo,hi)=>if hi+1=b then l.dropLast++[(lo,b)] else l++[(b,b)]
 | none=>[(b,b)]
def b9 (bs:List (Fin 256)):List (Nat×Nat):=bs.foldl (fun l b=>jd l b.1) []
def dt (l:List (Nat×Nat)):List Value:=l.flatMap fun r=>[.int .i64 r.1,.int .i64 r.2]
def uq (w:Int):Bool:=decide (0≤w)&&decide (w<18446744073709551616)
def ja (h:ah):List Value→Option (Value×ah)
 | [.agg cs]=>match cs.toList with
   | [.int .u64 a,.int .u64 b,.int .u64 c,.int .u64 d]=>if uq a&&uq b&&uq c&&uq d then
    (if (b9 (bQ (nc a b c d) 256)).isEmpty then some (.slice none 0 0,h)
    else some (.slice (some ⟨h.length,0,some 0⟩) (b9 (bQ (nc a b c d) 256)).length (b9 (bQ (nc a b c d) 256)).length,h++[av.aA (dt (b9 (bQ (nc a b c d) 256))) 0 true 214])) else none
   | _=>none
 | _=>none
def qi (h:ah):List Value→Option (Value×ah)
 | [.pointer (some ⟨id,0,some ar⟩)]=>match h[id]? with
   | some (.aA [.pointer p,x] v true et)=>if v=ar then (if et=228 then (match p with
     | none=>some (.tuple #[],h.set id (av.aA [.pointer (some ⟨id,0,some ar⟩),x] ar true et))
     | some a=>if a=⟨id,0,some ar⟩ then some (.tuple #[],h) else none) else none) else none
   | _=>none
 | _=>none
def kR:FuncId→List Value→ah→Option (Value×ah):=fun f args h=>if f=205 then qi h args else if f=175 then ja h args else none
structure aX where
 a:Int
 b:Int
 c:Int
 d:Int
 deriving DecidableEq
structure aT where
 nt:Int
 set:aX
 deriving DecidableEq
structure ch where
 lhs:Int
 rhs:List aT
 deriving DecidableEq
structure ca where
 cK:Int
 start:Int
 rules:List ch
 deriving DecidableEq
def tI:List Value→Bool
 | [.int .u64 _,.int .u64 _,.int .u64 _,.int .u64 _]=>true
 | _=>false
def tJ:List Value→Bool
 | [.int .i64 _,.int .u64 _,.int .u64 _,.int .u64 _,.int .u64 _]=>true
 | _=>false
noncomputable def env:Env:=⟨Tryz.prog,fun t=>if t=54 then some tI else if t=65 then some tJ else wy t,jB,kR⟩
@[push_cast] theorem PU:env.P=Tryz.prog:=rfl
@[push_cast] theorem Tu:env.KU 54=some tI:=rfl
@[push_cast] theorem QP:env.KU 65=some tJ:=rfl
abbrev i64 (n:Int):Value:=.int .i64 n
abbrev u64 (n:Int):Value:=.int .u64 n
def aX.cells (s:aX):List Value:=[.int .u64 s.a,.int .u64 s.b,.int .u64 s.c,.int .u64 s.d]
def aT.cells (s:aT):List Value:=[.int .i64 s.nt,.int .u64 s.set.a,.int .u64 s.set.b,.int .u64 s.set.c,.int .u64 s.set.d]
def bT (h:ah) (v:Value) (n:Nat) (cells:List Value) (et:TypeId) (b:Nat):Prop:=
 n*b≤140737488355328∧(((v = .slice none 0 0∨v = .slice (some ⟨0,0,none⟩) 0 0)∧n=0∧cells=[])∨∃ id ar own c,v = .slice (some ⟨id,0,some ar⟩) n c∧h[id]? = some (.aA cells ar own et))
section
variable {h h':ah} {v:Value} {n b:Nat} {cells:List Value} {et:TypeId}
theorem bT.at (hs:bT h v n cells et b) (hn:0<n):∃ id ar own c,v = .slice (some ⟨id,0,some ar⟩) n c∧h[id]? = some (.aA cells ar own et):=by{
rcases hs.2 with ⟨_,h0,_⟩ | hs
·omega
·exact hs}
theorem bT.form (hs:bT h v n cells et b):∃ p c,v = .slice p n c:=by{
rcases hs.2 with ⟨rfl|rfl,rfl,_⟩ | ⟨_,_,_,c,rfl,_⟩
·exact⟨_,_,rfl⟩
·exact⟨_,_,rfl⟩
·exact⟨_,c,rfl⟩}
theorem ag {α:Type} {l l':List α} (hp:l <+: l') {i:Nat} {x:α} (hx:l[i]? = some x):l'[i]? = some x:=by{
obtain⟨t,rfl⟩:=hp
have:i<l.length:=(List.getElem?_eq_some_iff.1 hx).1
rw[List.getElem?_append_left this]
exact hx}
theorem bT.mono (hs:bT h v n cells et b) (hp:h <+: h'):bT h' v n cells et b:=by{
refine⟨hs.1,?_⟩
rcases hs.2 with hs|⟨id,ar,own,c,h1,h2⟩
·exact .inl hs
·exact .inr ⟨id,ar,own,c,h1,ag hp h2⟩}
end
def tH (h:ah) (v:Value) (l:List Int):Prop:=bT h v l.length (l.map i64) 3 8
def kD (h:ah) (v:Value) (l:List Bool):Prop:=bT h v l.length (l.map .bool) 4 1
def GA (h:ah) (v:Value) (l:List aX):Prop:=bT h v l.length (l.flatMap aX.cells) 54 32
def jI (h:ah) (v:Value) (l:List aT):Prop:=bT h v l.length (l.flatMap aT.cells) 65 40
def fW (h:ah) (v:Value) (l:List ch):Prop:=
 ∃ us:List Value,us.length=l.length∧bT h v l.length ((l.zip us).flatMap fun p=>[i64 p.1.lhs,p.2]) 63 32∧∀ (i:Nat) (r:ch) (u:Value),l[i]? = some r→us[i]? = some u→jI h u r.rhs
def jQ (h:ah) (v:Value) (g:ca):Prop:=∃ u,v = .agg #[i64 g.cK,i64 g.start,u]∧fW h u g.rules
theorem bS {α:Type} {f:α→List Value} {k:Nat} (hf:∀ x,(f x).length=k):∀ (l:List α) (i:Nat) (x:α),l[i]? = some x→jU (l.flatMap f) (i*k) k=some (f x)
 | [],i,x,h=>by simp at h
 | y :: l,0,x,h=>by
   simp only[List.getElem?_cons_zero,Option.some.injEq] at h
   subst h
   simp only[jU,vt,List.flatMap_cons,Nat.zero_mul,Nat.zero_add,List.drop_zero,List.length_append,hf]
   rw[if_pos om,List.take_left' (hf y)]
 | y :: l,i+1,x,h=>by
   have ih:=bS hf l i x (by simpa using h)
   simp only[jU,vt,List.flatMap_cons,List.length_append,hf] at ih ⊢
   rw[Nat.succ_mul]
   split at ih
   ·rename_i hle
    rw[if_pos om]
    rw[show i*k+k=(f y).length+i*k from by rw[hf];omega,List.drop_length_add_append]
    exact ih
   ·cases ih
theorem tH.get {h:ah} {v:Value} {l:List Int} {i:Nat} (hi:i<l.length):(l.map i64)[i]? = some (i64 l[i]):=by simp [hi]
theorem kD.get {l:List Bool} {i:Nat} (hi:i<l.length):(l.map Value.bool)[i]? = some (.bool l[i]):=by simp [hi]
theorem Ex {l:List aT} {i:Nat} (hi:i<l.length):jU (l.flatMap aT.cells) (i*5) 5=some l[i].cells:=bS (f:=aT.cells) (fun _=>rfl) l i l[i] (by simp [hi])
theorem FM {l:List aX} {i:Nat} (hi:i<l.length):jU (l.flatMap aX.cells) (i*4) 4=some l[i].cells:=bS (f:=aX.cells) (fun _=>rfl) l i l[i] (by simp [hi])
theorem Ei {l:List ch} {us:List Value} (hl:us.length=l.length) {i:Nat} (hi:i<l.length) :
 jU ((l.zip us).flatMap fun p=>[i64 p.1.lhs,p.2]) (i*2) 2=some [i64 l[i].lhs,us[i]'(hl▸hi)]:=by
 refine bS (f:=fun p:ch×Value=>[i64 p.1.lhs,p.2]) (fun _=>rfl) (l.zip us) i (l[i],us[i]'(hl▸hi)) ?_
 simp [List.getElem?_zip_eq_some,hi,hl▸hi]
theorem fW.at {h:ah} {v:Value} {l:List ch} (hr:fW h v l) {i:Nat} (hi:i<l.length) : ∃ id ar own c cells p n c',v = .slice (some ⟨id,0,some ar⟩) l.length c∧h[id]? = some (.aA cells ar own 63)∧n=l[i].rhs.length ∧ jU cells (i*2) 2=some [i64 l[i].lhs,.slice p n c']∧jI h (.slice p n c') l[i].rhs:=by{
obtain⟨us,hl,hs,hu⟩:=hr
obtain⟨id,ar,own,c,rfl,hid⟩:=hs.at om
have hi':i<us.length:=hl▸hi
have hS:=hu i l[i] us[i] (by simp [hi]) (by simp [hi'])
obtain⟨p,c',hp⟩:=hS.form
refine⟨id,ar,own,c,_,p,l[i].rhs.length,c',rfl,hid,rfl,?_,?_⟩
·rw[← hp]
 exact Ei hl hi
·rw[← hp]
 exact hS}
theorem fW.form {h:ah} {v:Value} {l:List ch} (hr:fW h v l):∃ p c,v = .slice p l.length c:=by
 obtain⟨_,_,hs,_⟩:=hr
 exact hs.form
theorem fW.le {h:ah} {v:Value} {l:List ch} (hr:fW h v l):l.length≤140737488355328:=by{
obtain⟨_,_,hs,_⟩:=hr
have:=hs.1
omega}
theorem jI.le {h:ah} {v:Value} {l:List aT} (hr:jI h v l):l.length≤140737488355328:=by
 have:=hr.1
 omega
theorem fW.mono {h h':ah} {v:Value} {l:List ch} (hr:fW h v l) (hp:h <+: h'):fW h' v l:=by
 obtain⟨us,hl,hs,hu⟩:=hr
 exact⟨us,hl,hs.mono hp,fun i r u h1 h2=>(hu i r u h1 h2).mono hp⟩
theorem jQ.mono {h h':ah} {v:Value} {g:ca} (hr:jQ h v g) (hp:h <+: h'):jQ h' v g:=by
 obtain⟨u,rfl,hu⟩:=hr
 exact⟨u,rfl,hu.mono hp⟩
theorem jI.at {h:ah} {v:Value} {l:List aT} (hr:jI h v l) {i:Nat} (hi:i<l.length) :
 ∃ id ar own c cells,v = .slice (some ⟨id,0,some ar⟩) l.length c∧h[id]? = some (.aA cells ar own 65)∧jU cells (i*5) 5=some [i64 l[i].nt,u64 l[i].set.a,u64 l[i].set.b,u64 l[i].set.c,u64 l[i].set.d]:=by
 obtain⟨id,ar,own,c,rfl,hid⟩:=bT.at hr om
 exact⟨id,ar,own,c,_,rfl,hid,Ex hi⟩
theorem tH.at {h:ah} {v:Value} {l:List Int} (hr:tH h v l) {i:Nat} (hi:i<l.length) :
 ∃ id ar own c cells,v = .slice (some ⟨id,0,some ar⟩) l.length c∧h[id]? = some (.aA cells ar own 3)∧cells[i]? = some (i64 l[i]):=by
 obtain⟨id,ar,own,c,rfl,hid⟩:=bT.at hr om
 exact⟨id,ar,own,c,_,rfl,hid,by simp [hi]⟩
theorem kD.at {h:ah} {v:Value} {l:List Bool} (hr:kD h v l) {i:Nat} (hi:i<l.length) :
 ∃ id ar own c cells,v = .slice (some ⟨id,0,some ar⟩) l.length c∧h[id]? = some (.aA cells ar own 4)∧cells[i]? = some (.bool l[i]):=by
 obtain⟨id,ar,own,c,rfl,hid⟩:=bT.at hr om
 exact⟨id,ar,own,c,_,rfl,hid,by simp [hi]⟩
theorem GA.at {h:ah} {v:Value} {l:List aX} (hr:GA h v l) {i:Nat} (hi:i<l.length) :
 ∃ id ar own c cells,v = .slice (some ⟨id,0,some ar⟩) l.length c∧h[id]? = some (.aA cells ar own 54)∧jU cells (i*4) 4=some [u64 l[i].a,u64 l[i].b,u64 l[i].c,u64 l[i].d]:=by
 obtain⟨id,ar,own,c,rfl,hid⟩:=bT.at hr om
 exact⟨id,ar,own,c,_,rfl,hid,FM hi⟩
def TL (n k:Nat) (F:Nat→Fr) (H:Nat→ah) (I:Nat→Prop) (Q:AX→St→Prop):AX→St→Prop
 | .normal,s=>k<n∧bA (F (k+1)) s.fr∧s.h=H (k+1)∧I (k+1)
 | e,s=>Q e s
theorem cO {N:Env} {c:Code} {s:St} {Q:AX→St→Prop} (n:Nat) (F:Nat→Fr) (H:Nat→ah) (I:Nat→Prop) (h0:bA (F 0) s.fr) (hh:s.h=H 0) (hI:I 0) (hs:∀ k,k≤n→I k→CW N c ⟨F k,[],H k⟩ (TL n k F H I Q)):CW N (.loop c) s Q:=by{
refine rr (fun m s=>∃ k,m=n-k∧k≤n∧bA (F k) s.fr∧s.h=H k∧I k) n ⟨0,rfl,Nat.zero_le _,h0,hh,hI⟩ ?_
rintro m s ⟨k,rfl,hk,hf,hh,hI⟩
refine aB _ hf ?_
rw[hh]
refine (hs k hk hI).mono fun e s' hq=>?_
cases e with
| normal=>
  obtain⟨h1,h2,h3,h4⟩:=hq
  exact⟨n-(k+1),by omega,k+1,rfl,by omega,h2,h3,h4⟩
| exit id=>exact hq
| ret=>exact hq}
theorem aS {k n:Nat} (h:k<n):decide ((k:Int)<(n:Int))=true:=by simp [h]
theorem aP {k n:Nat} (h:¬ k<n):decide ((k:Int)<(n:Int))=false:=by simp;omega
theorem cg {k n:Nat} (h:k<n):(0≤(k:Int)∧(k:Int)<(n:Int))=True:=by simp;omega
theorem inc {k:Nat} {n:Nat} (h:k<n) (hn:n≤140737488355328):IntKind.i64.wrap ((k:Int)+1)=(k:Int)+1:=ax om om
end Go.Proofs.YtmdmimkbpikmoaaGreat
