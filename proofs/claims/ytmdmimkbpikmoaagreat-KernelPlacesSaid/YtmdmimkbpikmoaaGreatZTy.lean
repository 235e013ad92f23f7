/- Several texts, one behind the other. -/
import Derived.Test.YtmdmimkbpikmoaaGreatZAm9
import Derived.Test.YtmdmimkbpikmoaaGreatProg
import Derived.KernelRfl
import Derived.Deep.Slices
import Derived.ProofKit
import Derived.OpenShut
import GoSem.ClaimJoined
import Derived.DeepKeys
import Derived.WideKeyRuns
import Derived.MapKept
namespace Go.Proofs.YtmdmimkbpikmoaaGreat.Ty
open Go.RowKit Go.Proofs.YtmdmimkbpikmoaaGreat.Am
theorem ti1:Qf Tryz.prog 1=some ⟨false,1,8,some (.nilFunc)⟩:=by kernel_rfl
theorem ti2:Qf Tryz.prog 2=some ⟨false,1,8,some (.int .i64 0)⟩:=by kernel_rfl
theorem ti3:Qf Tryz.prog 3=some ⟨false,1,8,some (.int .i64 0)⟩:=by kernel_rfl
theorem ti4:Qf Tryz.prog 4=some ⟨false,1,1,some (.bool false)⟩:=by kernel_rfl
theorem ti5:Qf Tryz.prog 5=some ⟨false,1,1,some (.int .u8 0)⟩:=by kernel_rfl
theorem ti9:Qf Tryz.prog 9=some ⟨false,1,16,some (.string ⟨#[]⟩)⟩:=by kernel_rfl
theorem ti12:Qf Tryz.prog 12=some ⟨false,1,8,some (.int .u64 0)⟩:=by kernel_rfl
theorem ti20:Qf Tryz.prog 20=some ⟨false,1,16,some (.nilIface)⟩:=by kernel_rfl
theorem ti21:Qf Tryz.prog 21=some ⟨false,1,4,some (.int .i32 0)⟩:=by kernel_rfl
theorem ti22:Qf Tryz.prog 22=some ⟨false,1,24,some (.slice none 0 0)⟩:=by kernel_rfl
theorem ti23:Qf Tryz.prog 23=some ⟨false,1,24,some (.slice none 0 0)⟩:=by kernel_rfl
theorem ti24:Qf Tryz.prog 24=some ⟨false,1,24,some (.slice none 0 0)⟩:=by kernel_rfl
theorem ti25:Qf Tryz.prog 25=some ⟨false,1,24,some (.slice none 0 0)⟩:=by kernel_rfl
theorem ti26:Qf Tryz.prog 26=some ⟨false,1,24,some (.slice none 0 0)⟩:=by kernel_rfl
theorem ti27:Qf Tryz.prog 27=some ⟨true,7,152,some (.agg #[.string ⟨#[]⟩,.string ⟨#[]⟩,.slice none 0 0,.slice none 0 0,.slice none 0 0,.slice none 0 0,.slice none 0 0])⟩:=by kernel_rfl
theorem Xdi:Qe Tryz.prog 27 0=some (0,9):=by kernel_rfl
theorem Xb6:Qe Tryz.prog 27 1=some (1,9):=by kernel_rfl
theorem Xdc:Qe Tryz.prog 27 2=some (2,22):=by kernel_rfl
theorem Xcl:Qe Tryz.prog 27 3=some (3,23):=by kernel_rfl
theorem Xbz:Qe Tryz.prog 27 4=some (4,24):=by kernel_rfl
theorem Xd3:Qe Tryz.prog 27 5=some (5,25):=by kernel_rfl
theorem Xa9:Qe Tryz.prog 27 6=some (6,26):=by kernel_rfl
theorem pl27:Qw Tryz.prog 27=some [(0,1),(1,1),(2,1),(3,1),(4,1),(5,1),(6,1)]:=by kernel_rfl
theorem ti28:Qf Tryz.prog 28=some ⟨true,7,152,some (.agg #[.string ⟨#[]⟩,.string ⟨#[]⟩,.slice none 0 0,.slice none 0 0,.slice none 0 0,.slice none 0 0,.slice none 0 0])⟩:=by kernel_rfl
theorem Xd7:Qe Tryz.prog 28 0=some (0,9):=by kernel_rfl
theorem Xbf:Qe Tryz.prog 28 1=some (1,9):=by kernel_rfl
theorem Xc0:Qe Tryz.prog 28 2=some (2,22):=by kernel_rfl
theorem Xd5:Qe Tryz.prog 28 3=some (3,23):=by kernel_rfl
theorem Xbe:Qe Tryz.prog 28 4=some (4,24):=by kernel_rfl
theorem Xcq:Qe Tryz.prog 28 5=some (5,25):=by kernel_rfl
theorem Xdy:Qe Tryz.prog 28 6=some (6,26):=by kernel_rfl
theorem pl28:Qw Tryz.prog 28=some [(0,1),(1,1),(2,1),(3,1),(4,1),(5,1),(6,1)]:=by kernel_rfl
theorem ti29:Qf Tryz.prog 29=some ⟨false,1,8,some (.nilFunc)⟩:=by kernel_rfl
theorem ti30:Qf Tryz.prog 30=some ⟨false,1,8,some (.nilFunc)⟩:=by kernel_rfl
theorem ti31:Qf Tryz.prog 31=some ⟨false,1,8,some (.nilFunc)⟩:=by kernel_rfl
theorem ti32:Qf Tryz.prog 32=some ⟨false,1,24,some (.slice none 0 0)⟩:=by kernel_rfl
theorem ti33:Qf Tryz.prog 33=some ⟨true,3,40,some (.agg #[.int .i64 0,.int .i64 0,.slice none 0 0])⟩:=by kernel_rfl
theorem Xds:Qe Tryz.prog 33 0=some (0,3):=by kernel_rfl
theorem Xcs:Qe Tryz.prog 33 1=some (1,3):=by kernel_rfl
theorem Xbd:Qe Tryz.prog 33 2=some (2,32):=by kernel_rfl
theorem pl33:Qw Tryz.prog 33=some [(0,1),(1,1),(2,1)]:=by kernel_rfl
theorem ti34:Qf Tryz.prog 34=some ⟨true,3,40,some (.agg #[.int .i64 0,.int .i64 0,.slice none 0 0])⟩:=by kernel_rfl
theorem Xcz:Qe Tryz.prog 34 0=some (0,3):=by kernel_rfl
theorem Xdd:Qe Tryz.prog 34 1=some (1,3):=by kernel_rfl
theorem Xcp:Qe Tryz.prog 34 2=some (2,32):=by kernel_rfl
theorem pl34:Qw Tryz.prog 34=some [(0,1),(1,1),(2,1)]:=by kernel_rfl
theorem ti35:Qf Tryz.prog 35=some ⟨false,1,24,some (.slice none 0 0)⟩:=by kernel_rfl
theorem ti36:Qf Tryz.prog 36=some ⟨false,1,24,some (.slice none 0 0)⟩:=by kernel_rfl
theorem ti37:Qf Tryz.prog 37=some ⟨false,1,24,some (.slice none 0 0)⟩:=by kernel_rfl
theorem ti38:Qf Tryz.prog 38=some ⟨false,1,24,some (.slice none 0 0)⟩:=by kernel_rfl
theorem ti39:Qf Tryz.prog 39=some ⟨false,1,24,some (.slice none 0 0)⟩:=by kernel_rfl
theorem ti40:Qf Tryz.prog 40=some ⟨true,3,72,some (.agg #[.slice none 0 0,.slice none 0 0,.slice none 0 0])⟩:=by kernel_rfl
theorem Xb0:Qe Tryz.prog 40 0=some (0,37):=by kernel_rfl
theorem Xa5:Qe Tryz.prog 40 1=some (1,38):=by kernel_rfl
theorem Xc2:Qe Tryz.prog 40 2=some (2,39):=by kernel_rfl
theorem pl40:Qw Tryz.prog 40=some [(0,1),(1,1),(2,1)]:=by kernel_rfl
theorem ti41:Qf Tryz.prog 41=some ⟨true,3,72,some (.agg #[.slice none 0 0,.slice none 0 0,.slice none 0 0])⟩:=by kernel_rfl
theorem Xde:Qe Tryz.prog 41 0=some (0,37):=by kernel_rfl
theorem Xbu:Qe Tryz.prog 41 1=some (1,38):=by kernel_rfl
theorem Xbg:Qe Tryz.prog 41 2=some (2,39):=by kernel_rfl
theorem pl41:Qw Tryz.prog 41=some [(0,1),(1,1),(2,1)]:=by kernel_rfl
theorem ti42:Qf Tryz.prog 42=some ⟨true,15,312,some (.agg #[.string ⟨#[]⟩,.string ⟨#[]⟩,.slice none 0 0,.slice none 0 0,.slice none 0 0,.slice none 0 0,.slice none 0 0,.int .i64 0,.int .i64 0,.slice none 0 0,.slice none 0 0,.slice none 0 0,.slice none 0 0,.slice none 0 0,.slice none 0 0])⟩:=by kernel_rfl
theorem Xba:Qe Tryz.prog 42 0=some (0,28):=by kernel_rfl
theorem Xdj:Qe Tryz.prog 42 1=some (7,34):=by kernel_rfl
theorem Xaz:Qe Tryz.prog 42 2=some (10,35):=by kernel_rfl
theorem Xbx:Qe Tryz.prog 42 3=some (11,36):=by kernel_rfl
theorem Xao:Qe Tryz.prog 42 4=some (12,41):=by kernel_rfl
theorem pl42:Qw Tryz.prog 42=some [(0,7),(7,3),(10,1),(11,1),(12,3)]:=by kernel_rfl
theorem ti43:Qf Tryz.prog 43=some ⟨true,15,312,some (.agg #[.string ⟨#[]⟩,.string ⟨#[]⟩,.slice none 0 0,.slice none 0 0,.slice none 0 0,.slice none 0 0,.slice none 0 0,.int .i64 0,.int .i64 0,.slice none 0 0,.slice none 0 0,.slice none 0 0,.slice none 0 0,.slice none 0 0,.slice none 0 0])⟩:=by kernel_rfl
theorem Xbw:Qe Tryz.prog 43 0=some (0,28):=by kernel_rfl
theorem Xc8:Qe Tryz.prog 43 1=some (7,34):=by kernel_rfl
theorem Xa8:Qe Tryz.prog 43 2=some (10,35):=by kernel_rfl
theorem Xa0:Qe Tryz.prog 43 3=some (11,36):=by kernel_rfl
theorem Xcw:Qe Tryz.prog 43 4=some (12,41):=by kernel_rfl
theorem pl43:Qw Tryz.prog 43=some [(0,7),(7,3),(10,1),(11,1),(12,3)]:=by kernel_rfl
theorem ti44:Qf Tryz.prog 44=some ⟨false,1,8,some (.int .i64 0)⟩:=by kernel_rfl
theorem ti46:Qf Tryz.prog 46=some ⟨false,1,8,some (.nilFunc)⟩:=by kernel_rfl
theorem ti47:Qf Tryz.prog 47=some ⟨false,1,8,some (.nilFunc)⟩:=by kernel_rfl
theorem ti48:Qf Tryz.prog 48=some ⟨false,1,8,some (.nilFunc)⟩:=by kernel_rfl
theorem ti49:Qf Tryz.prog 49=some ⟨false,1,24,some (.slice none 0 0)⟩:=by kernel_rfl
theorem ti50:Qf Tryz.prog 50=some ⟨true,5,72,some (.agg #[.bool false,.string ⟨#[]⟩,.string ⟨#[]⟩,.bool false,.slice none 0 0])⟩:=by kernel_rfl
theorem Xd9:Qe Tryz.prog 50 0=some (0,4):=by kernel_rfl
theorem Xbb:Qe Tryz.prog 50 1=some (1,9):=by kernel_rfl
theorem Xb3:Qe Tryz.prog 50 2=some (2,9):=by kernel_rfl
theorem Xb7:Qe Tryz.prog 50 3=some (3,4):=by kernel_rfl
theorem Xb2:Qe Tryz.prog 50 4=some (4,49):=by kernel_rfl
theorem pl50:Qw Tryz.prog 50=some [(0,1),(1,1),(2,1),(3,1),(4,1)]:=by kernel_rfl
theorem ti51:Qf Tryz.prog 51=some ⟨true,5,72,some (.agg #[.bool false,.string ⟨#[]⟩,.string ⟨#[]⟩,.bool false,.slice none 0 0])⟩:=by kernel_rfl
theorem Xcg:Qe Tryz.prog 51 0=some (0,4):=by kernel_rfl
theorem Xdb:Qe Tryz.prog 51 1=some (1,9):=by kernel_rfl
theorem Xd6:Qe Tryz.prog 51 2=some (2,9):=by kernel_rfl
theorem Xc7:Qe Tryz.prog 51 3=some (3,4):=by kernel_rfl
theorem Xa7:Qe Tryz.prog 51 4=some (4,49):=by kernel_rfl
theorem pl51:Qw Tryz.prog 51=some [(0,1),(1,1),(2,1),(3,1),(4,1)]:=by kernel_rfl
theorem ti52:Qf Tryz.prog 52=some ⟨false,1,8,some (.int .u64 0)⟩:=by kernel_rfl
theorem ti53:Qf Tryz.prog 53=some ⟨true,4,32,some (.agg #[.int .u64 0,.int .u64 0,.int .u64 0,.int .u64 0])⟩:=by kernel_rfl
theorem ti54:Qf Tryz.prog 54=some ⟨true,4,32,some (.agg #[.int .u64 0,.int .u64 0,.int .u64 0,.int .u64 0])⟩:=by kernel_rfl
theorem ti55:Qf Tryz.prog 55=some ⟨true,8,88,some (.agg #[.int .i64 0,.string ⟨#[]⟩,.int .u64 0,.int .u64 0,.int .u64 0,.int .u64 0,.string ⟨#[]⟩,.string ⟨#[]⟩])⟩:=by kernel_rfl
theorem Xb5:Qe Tryz.prog 55 0=some (0,3):=by kernel_rfl
theorem Xa3:Qe Tryz.prog 55 1=some (1,9):=by kernel_rfl
theorem Xat:Qe Tryz.prog 55 2=some (2,54):=by kernel_rfl
theorem Xbr:Qe Tryz.prog 55 3=some (6,9):=by kernel_rfl
theorem Xc5:Qe Tryz.prog 55 4=some (7,9):=by kernel_rfl
theorem pl55:Qw Tryz.prog 55=some [(0,1),(1,1),(2,4),(6,1),(7,1)]:=by kernel_rfl
theorem ti56:Qf Tryz.prog 56=some ⟨true,8,88,some (.agg #[.int .i64 0,.string ⟨#[]⟩,.int .u64 0,.int .u64 0,.int .u64 0,.int .u64 0,.string ⟨#[]⟩,.string ⟨#[]⟩])⟩:=by kernel_rfl
theorem Xd1:Qe Tryz.prog 56 0=some (0,3):=by kernel_rfl
theorem Xbp:Qe Tryz.prog 56 1=some (1,9):=by kernel_rfl
theorem Xaw:Qe Tryz.prog 56 2=some (2,54):=by kernel_rfl
theorem Xdg:Qe Tryz.prog 56 3=some (6,9):=by kernel_rfl
theorem Xax:Qe Tryz.prog 56 4=some (7,9):=by kernel_rfl
theorem pl56:Qw Tryz.prog 56=some [(0,1),(1,1),(2,4),(6,1),(7,1)]:=by kernel_rfl
theorem ti57:Qf Tryz.prog 57=some ⟨false,1,8,some (.nilFunc)⟩:=by kernel_rfl
theorem ti58:Qf Tryz.prog 58=some ⟨false,1,8,some (.nilFunc)⟩:=by kernel_rfl
theorem ti59:Qf Tryz.prog 59=some ⟨false,1,8,some (.nilFunc)⟩:=by kernel_rfl
theorem ti60:Qf Tryz.prog 60=some ⟨false,1,8,some (.nilFunc)⟩:=by kernel_rfl
theorem ti61:Qf Tryz.prog 61=some ⟨false,1,24,some (.slice none 0 0)⟩:=by kernel_rfl
theorem ti62:Qf Tryz.prog 62=some ⟨true,2,32,some (.agg #[.int .i64 0,.slice none 0 0])⟩:=by kernel_rfl
theorem Xa2:Qe Tryz.prog 62 0=some (0,3):=by kernel_rfl
theorem Xd0:Qe Tryz.prog 62 1=some (1,61):=by kernel_rfl
theorem pl62:Qw Tryz.prog 62=some [(0,1),(1,1)]:=by kernel_rfl
theorem ti63:Qf Tryz.prog 63=some ⟨true,2,32,some (.agg #[.int .i64 0,.slice none 0 0])⟩:=by kernel_rfl
theorem Xbl:Qe Tryz.prog 63 0=some (0,3):=by kernel_rfl
theorem Xbh:Qe Tryz.prog 63 1=some (1,61):=by kernel_rfl
theorem pl63:Qw Tryz.prog 63=some [(0,1),(1,1)]:=by kernel_rfl
theorem ti64:Qf Tryz.prog 64=some ⟨true,5,40,some (.agg #[.int .i64 0,.int .u64 0,.int .u64 0,.int .u64 0,.int .u64 0])⟩:=by kernel_rfl
theorem Xay:Qe Tryz.prog 64 0=some (0,3):=by kernel_rfl
theorem Xdf:Qe Tryz.prog 64 1=some (1,54):=by kernel_rfl
theorem pl64:Qw Tryz.prog 64=some [(0,1),(1,4)]:=by kernel_rfl
theorem ti65:Qf Tryz.prog 65=some ⟨true,5,40,some (.agg #[.int .i64 0,.int .u64 0,.int .u64 0,.int .u64 0,.int .u64 0])⟩:=by kernel_rfl
theorem Xby:Qe Tryz.prog 65 0=some (0,3):=by kernel_rfl
theorem Xdk:Qe Tryz.prog 65 1=some (1,54):=by kernel_rfl
theorem pl65:Qw Tryz.prog 65=some [(0,1),(1,4)]:=by kernel_rfl
theorem ti66:Qf Tryz.prog 66=some ⟨true,4,48,some (.agg #[.int .i64 0,.int .i64 0,.int .i64 0,.slice none 0 0])⟩:=by kernel_rfl
theorem Xbm:Qe Tryz.prog 66 0=some (0,3):=by kernel_rfl
theorem Xav:Qe Tryz.prog 66 1=some (1,3):=by kernel_rfl
theorem Xce:Qe Tryz.prog 66 2=some (2,3):=by kernel_rfl
theorem Xdu:Qe Tryz.prog 66 3=some (3,39):=by kernel_rfl
theorem pl66:Qw Tryz.prog 66=some [(0,1),(1,1),(2,1),(3,1)]:=by kernel_rfl
theorem ti67:Qf Tryz.prog 67=some ⟨true,4,48,some (.agg #[.int .i64 0,.int .i64 0,.int .i64 0,.slice none 0 0])⟩:=by kernel_rfl
theorem Xcd:Qe Tryz.prog 67 0=some (0,3):=by kernel_rfl
theorem Xci:Qe Tryz.prog 67 1=some (1,3):=by kernel_rfl
theorem Xdo:Qe Tryz.prog 67 2=some (2,3):=by kernel_rfl
theorem Xaq:Qe Tryz.prog 67 3=some (3,39):=by kernel_rfl
theorem pl67:Qw Tryz.prog 67=some [(0,1),(1,1),(2,1),(3,1)]:=by kernel_rfl
theorem ti68:Qf Tryz.prog 68=some ⟨false,1,8,some (.nilFunc)⟩:=by kernel_rfl
theorem ti69:Qf Tryz.prog 69=some ⟨true,3,24,some (.agg #[.int .i64 0,.int .i64 0,.int .i64 0])⟩:=by kernel_rfl
theorem Xck:Qe Tryz.prog 69 0=some (0,3):=by kernel_rfl
theorem Xdh:Qe Tryz.prog 69 1=some (1,3):=by kernel_rfl
theorem Xca:Qe Tryz.prog 69 2=some (2,3):=by kernel_rfl
theorem pl69:Qw Tryz.prog 69=some [(0,1),(1,1),(2,1)]:=by kernel_rfl
theorem ti70:Qf Tryz.prog 70=some ⟨true,3,24,some (.agg #[.int .i64 0,.int .i64 0,.int .i64 0])⟩:=by kernel_rfl
theorem Xdx:Qe Tryz.prog 70 0=some (0,3):=by kernel_rfl
theorem Xcr:Qe Tryz.prog 70 1=some (1,3):=by kernel_rfl
theorem Xcx:Qe Tryz.prog 70 2=some (2,3):=by kernel_rfl
theorem pl70:Qw Tryz.prog 70=some [(0,1),(1,1),(2,1)]:=by kernel_rfl
theorem ti71:Qf Tryz.prog 71=some ⟨false,1,8,some (.nilFunc)⟩:=by kernel_rfl
theorem ti72:Qf Tryz.prog 72=some ⟨false,1,8,some (.nilFunc)⟩:=by kernel_rfl
theorem ti73:Qf Tryz.prog 73=some ⟨false,1,8,some (.nilFunc)⟩:=by kernel_rfl
theorem ti74:Qf Tryz.prog 74=some ⟨false,1,24,some (.slice none 0 0)⟩:=by kernel_rfl
theorem ti76:Qf Tryz.prog 76=some ⟨false,1,8,some (.nilFunc)⟩:=by kernel_rfl
theorem ti78:Qf Tryz.prog 78=some ⟨false,1,8,some (.nilFunc)⟩:=by kernel_rfl
theorem ti79:Qf Tryz.prog 79=some ⟨false,1,8,some (.nilFunc)⟩:=by kernel_rfl
theorem ti80:Qf Tryz.prog 80=some ⟨false,1,24,some (.slice none 0 0)⟩:=by kernel_rfl
theorem ti81:Qf Tryz.prog 81=some ⟨true,2,32,some (.agg #[.int .i64 0,.slice none 0 0])⟩:=by kernel_rfl
theorem Xcb:Qe Tryz.prog 81 0=some (0,3):=by kernel_rfl
theorem Xbt:Qe Tryz.prog 81 1=some (1,36):=by kernel_rfl
theorem pl81:Qw Tryz.prog 81=some [(0,1),(1,1)]:=by kernel_rfl
theorem ti82:Qf Tryz.prog 82=some ⟨true,2,32,some (.agg #[.int .i64 0,.slice none 0 0])⟩:=by kernel_rfl
theorem Xb8:Qe Tryz.prog 82 0=some (0,3):=by kernel_rfl
theorem Xdp:Qe Tryz.prog 82 1=some (1,36):=by kernel_rfl
theorem pl82:Qw Tryz.prog 82=some [(0,1),(1,1)]:=by kernel_rfl
theorem ti83:Qf Tryz.prog 83=some ⟨false,1,24,some (.slice none 0 0)⟩:=by kernel_rfl
theorem ti84:Qf Tryz.prog 84=some ⟨true,2,40,some (.agg #[.string ⟨#[]⟩,.slice none 0 0])⟩:=by kernel_rfl
theorem Xcm:Qe Tryz.prog 84 0=some (0,9):=by kernel_rfl
theorem Xch:Qe Tryz.prog 84 1=some (1,83):=by kernel_rfl
theorem pl84:Qw Tryz.prog 84=some [(0,1),(1,1)]:=by kernel_rfl
theorem ti85:Qf Tryz.prog 85=some ⟨true,2,40,some (.agg #[.string ⟨#[]⟩,.slice none 0 0])⟩:=by kernel_rfl
theorem Xd8:Qe Tryz.prog 85 0=some (0,9):=by kernel_rfl
theorem Xbq:Qe Tryz.prog 85 1=some (1,83):=by kernel_rfl
theorem pl85:Qw Tryz.prog 85=some [(0,1),(1,1)]:=by kernel_rfl
theorem ti86:Qf Tryz.prog 86=some ⟨false,1,8,some (.nilFunc)⟩:=by kernel_rfl
theorem ti88:Qf Tryz.prog 88=some ⟨false,1,8,some (.nilFunc)⟩:=by kernel_rfl
theorem ti89:Qf Tryz.prog 89=some ⟨false,1,8,some (.pointer none)⟩:=by kernel_rfl
theorem ti90:Qf Tryz.prog 90=some ⟨false,1,8,some (.map none)⟩:=by kernel_rfl
theorem ti91:Qf Tryz.prog 91=some ⟨false,1,8,some (.map none)⟩:=by kernel_rfl
theorem ti92:Qf Tryz.prog 92=some ⟨false,1,24,some (.slice none 0 0)⟩:=by kernel_rfl
theorem ti93:Qf Tryz.prog 93=some ⟨true,19,360,some (.agg #[.string ⟨#[]⟩,.string ⟨#[]⟩,.slice none 0 0,.slice none 0 0,.slice none 0 0,.slice none 0 0,.slice none 0 0,.int .i64 0,.int .i64 0,.slice none 0 0,.slice none 0 0,.slice none 0 0,.slice none 0 0,.slice none 0 0,.slice none 0 0,.map none,.map none,.slice none 0 0,.int .i64 0])⟩:=by kernel_rfl
theorem Xar:Qe Tryz.prog 93 0=some (0,43):=by kernel_rfl
theorem Xda:Qe Tryz.prog 93 1=some (15,90):=by kernel_rfl
theorem Xb1:Qe Tryz.prog 93 2=some (16,91):=by kernel_rfl
theorem Xcu:Qe Tryz.prog 93 3=some (17,92):=by kernel_rfl
theorem Xa1:Qe Tryz.prog 93 4=some (18,3):=by kernel_rfl
theorem pl93:Qw Tryz.prog 93=some [(0,15),(15,1),(16,1),(17,1),(18,1)]:=by kernel_rfl
theorem ti94:Qf Tryz.prog 94=some ⟨true,19,360,some (.agg #[.string ⟨#[]⟩,.string ⟨#[]⟩,.slice none 0 0,.slice none 0 0,.slice none 0 0,.slice none 0 0,.slice none 0 0,.int .i64 0,.int .i64 0,.slice none 0 0,.slice none 0 0,.slice none 0 0,.slice none 0 0,.slice none 0 0,.slice none 0 0,.map none,.map none,.slice none 0 0,.int .i64 0])⟩:=by kernel_rfl
theorem Xcn:Qe Tryz.prog 94 0=some (0,43):=by kernel_rfl
theorem Xbi:Qe Tryz.prog 94 1=some (15,90):=by kernel_rfl
theorem Xdq:Qe Tryz.prog 94 2=some (16,91):=by kernel_rfl
theorem Xdm:Qe Tryz.prog 94 3=some (17,92):=by kernel_rfl
theorem Xdr:Qe Tryz.prog 94 4=some (18,3):=by kernel_rfl
theorem pl94:Qw Tryz.prog 94=some [(0,15),(15,1),(16,1),(17,1),(18,1)]:=by kernel_rfl
theorem ti95:Qf Tryz.prog 95=some ⟨false,1,8,some (.pointer none)⟩:=by kernel_rfl
theorem ti96:Qf Tryz.prog 96=some ⟨false,1,8,some (.nilFunc)⟩:=by kernel_rfl
theorem ti97:Qf Tryz.prog 97=some ⟨false,1,24,some (.slice none 0 0)⟩:=by kernel_rfl
theorem ti98:Qf Tryz.prog 98=some ⟨false,1,8,some (.nilFunc)⟩:=by kernel_rfl
theorem ti99:Qf Tryz.prog 99=some ⟨true,10,208,some (.agg #[.string ⟨#[]⟩,.string ⟨#[]⟩,.slice none 0 0,.slice none 0 0,.slice none 0 0,.slice none 0 0,.slice none 0 0,.slice none 0 0,.slice none 0 0,.int .i64 0])⟩:=by kernel_rfl
theorem Xbv:Qe Tryz.prog 99 0=some (0,28):=by kernel_rfl
theorem Xd2:Qe Tryz.prog 99 1=some (7,36):=by kernel_rfl
theorem Xc3:Qe Tryz.prog 99 2=some (8,97):=by kernel_rfl
theorem Xdl:Qe Tryz.prog 99 3=some (9,3):=by kernel_rfl
theorem pl99:Qw Tryz.prog 99=some [(0,7),(7,1),(8,1),(9,1)]:=by kernel_rfl
theorem Xic:Qf Tryz.prog 100=some ⟨true,10,208,some (.agg #[.string ⟨#[]⟩,.string ⟨#[]⟩,.slice none 0 0,.slice none 0 0,.slice none 0 0,.slice none 0 0,.slice none 0 0,.slice none 0 0,.slice none 0 0,.int .i64 0])⟩:=by kernel_rfl
theorem Qwm:Qe Tryz.prog 100 0=some (0,28):=by kernel_rfl
theorem Qyb:Qe Tryz.prog 100 1=some (7,36):=by kernel_rfl
theorem Qxq:Qe Tryz.prog 100 2=some (8,97):=by kernel_rfl
theorem Xaa:Qe Tryz.prog 100 3=some (9,3):=by kernel_rfl
theorem Xfw:Qw Tryz.prog 100=some [(0,7),(7,1),(8,1),(9,1)]:=by kernel_rfl
theorem Xgq:Qf Tryz.prog 101=some ⟨false,1,8,some (.nilFunc)⟩:=by kernel_rfl
theorem Xfa:Qf Tryz.prog 102=some ⟨true,7,72,some (.agg #[.bool false,.string ⟨#[]⟩,.int .u64 0,.int .u64 0,.int .u64 0,.int .u64 0,.string ⟨#[]⟩])⟩:=by kernel_rfl
theorem Qxr:Qe Tryz.prog 102 0=some (0,4):=by kernel_rfl
theorem Qyj:Qe Tryz.prog 102 1=some (1,9):=by kernel_rfl
theorem Qyn:Qe Tryz.prog 102 2=some (2,54):=by kernel_rfl
theorem Qw2:Qe Tryz.prog 102 3=some (6,9):=by kernel_rfl
theorem Xfj:Qw Tryz.prog 102=some [(0,1),(1,1),(2,4),(6,1)]:=by kernel_rfl
theorem Xeb:Qf Tryz.prog 103=some ⟨true,7,72,some (.agg #[.bool false,.string ⟨#[]⟩,.int .u64 0,.int .u64 0,.int .u64 0,.int .u64 0,.string ⟨#[]⟩])⟩:=by kernel_rfl
theorem Qz7:Qe Tryz.prog 103 0=some (0,4):=by kernel_rfl
theorem Qyp:Qe Tryz.prog 103 1=some (1,9):=by kernel_rfl
theorem Qza:Qe Tryz.prog 103 2=some (2,54):=by kernel_rfl
theorem Qwi:Qe Tryz.prog 103 3=some (6,9):=by kernel_rfl
theorem Xiu:Qw Tryz.prog 103=some [(0,1),(1,1),(2,4),(6,1)]:=by kernel_rfl
theorem Xfk:Qf Tryz.prog 104=some ⟨false,1,8,some (.nilFunc)⟩:=by kernel_rfl
theorem Xfr:Qf Tryz.prog 105=some ⟨false,1,8,some (.pointer none)⟩:=by kernel_rfl
theorem Xi9:Qf Tryz.prog 106=some ⟨false,1,8,some (.nilFunc)⟩:=by kernel_rfl
theorem Xi4:Qf Tryz.prog 107=some ⟨false,1,8,some (.nilFunc)⟩:=by kernel_rfl
theorem Xh9:Qf Tryz.prog 108=some ⟨false,1,8,some (.nilFunc)⟩:=by kernel_rfl
theorem Xg1:Qf Tryz.prog 109=some ⟨false,1,8,some (.nilFunc)⟩:=by kernel_rfl
theorem Xew:Qf Tryz.prog 110=some ⟨false,1,8,some (.nilFunc)⟩:=by kernel_rfl
theorem Xgh:Qf Tryz.prog 111=some ⟨true,5,48,some (.agg #[.string ⟨#[]⟩,.int .u64 0,.int .u64 0,.int .u64 0,.int .u64 0])⟩:=by kernel_rfl
theorem Qyr:Qe Tryz.prog 111 0=some (0,9):=by kernel_rfl
theorem Qy4:Qe Tryz.prog 111 1=some (1,54):=by kernel_rfl
theorem Xe1:Qw Tryz.prog 111=some [(0,1),(1,4)]:=by kernel_rfl
theorem Xad:Qf Tryz.prog 112=some ⟨true,5,48,some (.agg #[.string ⟨#[]⟩,.int .u64 0,.int .u64 0,.int .u64 0,.int .u64 0])⟩:=by kernel_rfl
theorem Qwv:Qe Tryz.prog 112 0=some (0,9):=by kernel_rfl
theorem Qxn:Qe Tryz.prog 112 1=some (1,54):=by kernel_rfl
theorem Xji:Qw Tryz.prog 112=some [(0,1),(1,4)]:=by kernel_rfl
theorem Xgp:Qf Tryz.prog 113=some ⟨true,2,32,some (.agg #[.string ⟨#[]⟩,.string ⟨#[]⟩])⟩:=by kernel_rfl
theorem Qyf:Qe Tryz.prog 113 0=some (0,9):=by kernel_rfl
theorem Qzb:Qe Tryz.prog 113 1=some (1,9):=by kernel_rfl
theorem Xga:Qw Tryz.prog 113=some [(0,1),(1,1)]:=by kernel_rfl
theorem Xan:Qf Tryz.prog 114=some ⟨true,2,32,some (.agg #[.string ⟨#[]⟩,.string ⟨#[]⟩])⟩:=by kernel_rfl
theorem Qy8:Qe Tryz.prog 114 0=some (0,9):=by kernel_rfl
theorem Qz5:Qe Tryz.prog 114 1=some (1,9):=by kernel_rfl
theorem Xir:Qw Tryz.prog 114=some [(0,1),(1,1)]:=by kernel_rfl
theorem Xe0:Qf Tryz.prog 115=some ⟨false,1,8,some (.nilFunc)⟩:=by kernel_rfl
theorem Xjg:Qf Tryz.prog 116=some ⟨false,1,8,some (.nilFunc)⟩:=by kernel_rfl
theorem Xhb:Qf Tryz.prog 117=some ⟨false,1,8,some (.nilFunc)⟩:=by kernel_rfl
theorem Xhk:Qf Tryz.prog 118=some ⟨false,1,8,some (.nilFunc)⟩:=by kernel_rfl
theorem Xh5:Qf Tryz.prog 119=some ⟨false,1,8,some (.nilFunc)⟩:=by kernel_rfl
theorem Xhh:Qf Tryz.prog 120=some ⟨false,1,8,some (.nilFunc)⟩:=by kernel_rfl
theorem Xgw:Qf Tryz.prog 121=some ⟨false,1,8,some (.nilFunc)⟩:=by kernel_rfl
theorem Xhg:Qf Tryz.prog 122=some ⟨false,1,8,some (.nilFunc)⟩:=by kernel_rfl
theorem Xh4:Qf Tryz.prog 124=some ⟨false,1,8,some (.nilFunc)⟩:=by kernel_rfl
theorem Xi5:Qf Tryz.prog 125=some ⟨false,1,8,some (.nilFunc)⟩:=by kernel_rfl
theorem Xet:Qf Tryz.prog 127=some ⟨false,1,8,some (.nilFunc)⟩:=by kernel_rfl
theorem Xih:Qf Tryz.prog 128=some ⟨false,1,8,some (.nilFunc)⟩:=by kernel_rfl
theorem Xfg:Qf Tryz.prog 129=some ⟨false,1,8,some (.nilFunc)⟩:=by kernel_rfl
theorem Xhq:Qf Tryz.prog 130=some ⟨false,1,8,some (.nilFunc)⟩:=by kernel_rfl
theorem Xeg:Qf Tryz.prog 131=some ⟨false,1,8,some (.nilFunc)⟩:=by kernel_rfl
theorem Xej:Qf Tryz.prog 132=some ⟨false,1,24,some (.slice none 0 0)⟩:=by kernel_rfl
theorem Xe4:Qf Tryz.prog 133=some ⟨false,1,8,some (.nilFunc)⟩:=by kernel_rfl
theorem Xjb:Qf Tryz.prog 134=some ⟨false,1,8,some (.nilFunc)⟩:=by kernel_rfl
theorem Xfq:Qf Tryz.prog 135=some ⟨true,4,56,some (.agg #[.int .i64 0,.string ⟨#[]⟩,.int .i64 0,.slice none 0 0])⟩:=by kernel_rfl
theorem Qzq:Qe Tryz.prog 135 0=some (0,3):=by kernel_rfl
theorem Qyv:Qe Tryz.prog 135 1=some (1,9):=by kernel_rfl
theorem Qx3:Qe Tryz.prog 135 2=some (2,3):=by kernel_rfl
theorem Qx7:Qe Tryz.prog 135 3=some (3,83):=by kernel_rfl
theorem Xf5:Qw Tryz.prog 135=some [(0,1),(1,1),(2,1),(3,1)]:=by kernel_rfl
theorem Xal:Qf Tryz.prog 136=some ⟨true,4,56,some (.agg #[.int .i64 0,.string ⟨#[]⟩,.int .i64 0,.slice none 0 0])⟩:=by kernel_rfl
theorem Qwt:Qe Tryz.prog 136 0=some (0,3):=by kernel_rfl
theorem Qzv:Qe Tryz.prog 136 1=some (1,9):=by kernel_rfl
theorem Qx5:Qe Tryz.prog 136 2=some (2,3):=by kernel_rfl
theorem Qze:Qe Tryz.prog 136 3=some (3,83):=by kernel_rfl
theorem Xin:Qw Tryz.prog 136=some [(0,1),(1,1),(2,1),(3,1)]:=by kernel_rfl
theorem Xi2:Qf Tryz.prog 137=some ⟨false,1,8,some (.pointer none)⟩:=by kernel_rfl
theorem Xey:Qf Tryz.prog 138=some ⟨false,1,8,some (.nilFunc)⟩:=by kernel_rfl
theorem Xhz:Qf Tryz.prog 139=some ⟨false,1,8,some (.nilFunc)⟩:=by kernel_rfl
theorem Xgf:Qf Tryz.prog 140=some ⟨false,1,8,some (.nilFunc)⟩:=by kernel_rfl
theorem Xev:Qf Tryz.prog 141=some ⟨false,1,8,some (.nilFunc)⟩:=by kernel_rfl
theorem Xhw:Qf Tryz.prog 142=some ⟨false,1,8,some (.nilFunc)⟩:=by kernel_rfl
theorem Xg7:Qf Tryz.prog 143=some ⟨false,1,24,some (.slice none 0 0)⟩:=by kernel_rfl
theorem Xiv:Qf Tryz.prog 144=some ⟨false,1,8,some (.nilFunc)⟩:=by kernel_rfl
theorem Xg9:Qf Tryz.prog 145=some ⟨false,1,8,some (.nilFunc)⟩:=by kernel_rfl
theorem Xhf:Qf Tryz.prog 146=some ⟨false,1,8,some (.nilFunc)⟩:=by kernel_rfl
theorem Xgd:Qf Tryz.prog 147=some ⟨false,1,8,some (.nilFunc)⟩:=by kernel_rfl
theorem Xjc:Qf Tryz.prog 148=some ⟨false,1,8,some (.nilFunc)⟩:=by kernel_rfl
theorem Xix:Qf Tryz.prog 149=some ⟨false,1,8,some (.nilFunc)⟩:=by kernel_rfl
theorem Xg6:Qf Tryz.prog 150=some ⟨false,1,8,some (.nilFunc)⟩:=by kernel_rfl
theorem Xhe:Qf Tryz.prog 151=some ⟨false,1,8,some (.nilFunc)⟩:=by kernel_rfl
theorem Xh6:Qf Tryz.prog 152=some ⟨false,1,8,some (.nilFunc)⟩:=by kernel_rfl
theorem Xed:Qf Tryz.prog 153=some ⟨true,7,72,some (.agg #[.bool false,.string ⟨#[]⟩,.int .u64 0,.int .u64 0,.int .u64 0,.int .u64 0,.string ⟨#[]⟩])⟩:=by kernel_rfl
theorem Qw4:Qe Tryz.prog 153 0=some (0,4):=by kernel_rfl
theorem Qwg:Qe Tryz.prog 153 1=some (1,9):=by kernel_rfl
theorem Qwl:Qe Tryz.prog 153 2=some (2,54):=by kernel_rfl
theorem Qyo:Qe Tryz.prog 153 3=some (6,9):=by kernel_rfl
theorem Xi0:Qw Tryz.prog 153=some [(0,1),(1,1),(2,4),(6,1)]:=by kernel_rfl
theorem Xam:Qf Tryz.prog 154=some ⟨true,7,72,some (.agg #[.bool false,.string ⟨#[]⟩,.int .u64 0,.int .u64 0,.int .u64 0,.int .u64 0,.string ⟨#[]⟩])⟩:=by kernel_rfl
theorem Qzp:Qe Tryz.prog 154 0=some (0,4):=by kernel_rfl
theorem Qxh:Qe Tryz.prog 154 1=some (1,9):=by kernel_rfl
theorem Qz3:Qe Tryz.prog 154 2=some (2,54):=by kernel_rfl
theorem Qzk:Qe Tryz.prog 154 3=some (6,9):=by kernel_rfl
theorem Xjf:Qw Tryz.prog 154=some [(0,1),(1,1),(2,4),(6,1)]:=by kernel_rfl
theorem Xec:Qf Tryz.prog 155=some ⟨false,1,8,some (.nilFunc)⟩:=by kernel_rfl
theorem Xig:Qf Tryz.prog 157=some ⟨false,1,8,some (.nilFunc)⟩:=by kernel_rfl
theorem Xhi:Qf Tryz.prog 158=some ⟨false,1,8,some (.nilFunc)⟩:=by kernel_rfl
theorem Xei:Qf Tryz.prog 159=some ⟨false,1,8,some (.nilFunc)⟩:=by kernel_rfl
theorem Xik:Qf Tryz.prog 160=some ⟨false,1,8,some (.nilFunc)⟩:=by kernel_rfl
theorem Xgk:Qf Tryz.prog 161=some ⟨false,1,8,some (.nilFunc)⟩:=by kernel_rfl
theorem Xjd:Qf Tryz.prog 162=some ⟨false,1,8,some (.nilFunc)⟩:=by kernel_rfl
theorem Xe3:Qf Tryz.prog 163=some ⟨false,1,8,some (.nilFunc)⟩:=by kernel_rfl
theorem Xha:Qf Tryz.prog 164=some ⟨false,1,8,some (.pointer none)⟩:=by kernel_rfl
theorem Xez:Qf Tryz.prog 165=some ⟨false,1,8,some (.map none)⟩:=by kernel_rfl
theorem Xhs:Qf Tryz.prog 166=some ⟨false,1,8,some (.nilFunc)⟩:=by kernel_rfl
theorem Xgc:Qf Tryz.prog 167=some ⟨false,1,8,some (.nilFunc)⟩:=by kernel_rfl
theorem Xfd:Qf Tryz.prog 168=some ⟨false,1,8,some (.nilFunc)⟩:=by kernel_rfl
theorem Xf1:Qf Tryz.prog 169=some ⟨false,1,8,some (.nilFunc)⟩:=by kernel_rfl
theorem Xhl:Qf Tryz.prog 170=some ⟨false,1,24,some (.slice none 0 0)⟩:=by kernel_rfl
theorem Xf3:Qf Tryz.prog 172=some ⟨false,1,8,some (.nilFunc)⟩:=by kernel_rfl
theorem Xeo:Qf Tryz.prog 173=some ⟨false,1,8,some (.nilFunc)⟩:=by kernel_rfl
theorem Xhv:Qf Tryz.prog 174=some ⟨false,1,8,some (.nilFunc)⟩:=by kernel_rfl
theorem Xhd:Qf Tryz.prog 175=some ⟨false,1,8,some (.nilFunc)⟩:=by kernel_rfl
theorem Xiq:Qf Tryz.prog 176=some ⟨false,1,8,some (.nilFunc)⟩:=by kernel_rfl
theorem Xg8:Qf Tryz.prog 177=some ⟨false,1,8,some (.nilFunc)⟩:=by kernel_rfl
theorem Xfe:Qf Tryz.prog 178=some ⟨false,1,24,some (.slice none 0 0)⟩:=by kernel_rfl
theorem Xgn:Qf Tryz.prog 180=some ⟨false,1,8,some (.nilFunc)⟩:=by kernel_rfl
theorem Xgm:Qf Tryz.prog 181=some ⟨false,1,8,some (.nilFunc)⟩:=by kernel_rfl
theorem Xfo:Qf Tryz.prog 182=some ⟨false,1,8,some (.nilFunc)⟩:=by kernel_rfl
theorem Xia:Qf Tryz.prog 183=some ⟨false,1,8,some (.nilFunc)⟩:=by kernel_rfl
theorem Xfp:Qf Tryz.prog 184=some ⟨false,1,8,some (.nilFunc)⟩:=by kernel_rfl
theorem Xfu:Qf Tryz.prog 185=some ⟨false,1,8,some (.nilFunc)⟩:=by kernel_rfl
theorem Xgs:Qf Tryz.prog 186=some ⟨false,1,8,some (.nilFunc)⟩:=by kernel_rfl
theorem Xhu:Qf Tryz.prog 187=some ⟨false,1,8,some (.nilFunc)⟩:=by kernel_rfl
theorem Xel:Qf Tryz.prog 188=some ⟨false,1,8,some (.nilFunc)⟩:=by kernel_rfl
theorem Xhr:Qf Tryz.prog 189=some ⟨true,9,184,some (.agg #[.string ⟨#[]⟩,.string ⟨#[]⟩,.slice none 0 0,.slice none 0 0,.slice none 0 0,.slice none 0 0,.slice none 0 0,.slice none 0 0,.map none])⟩:=by kernel_rfl
theorem Qx1:Qe Tryz.prog 189 0=some (0,28):=by kernel_rfl
theorem Qwr:Qe Tryz.prog 189 1=some (7,36):=by kernel_rfl
theorem Qxe:Qe Tryz.prog 189 2=some (8,90):=by kernel_rfl
theorem Xgr:Qw Tryz.prog 189=some [(0,7),(7,1),(8,1)]:=by kernel_rfl
theorem Xh7:Qf Tryz.prog 190=some ⟨true,9,184,some (.agg #[.string ⟨#[]⟩,.string ⟨#[]⟩,.slice none 0 0,.slice none 0 0,.slice none 0 0,.slice none 0 0,.slice none 0 0,.slice none 0 0,.map none])⟩:=by kernel_rfl
theorem Qz0:Qe Tryz.prog 190 0=some (0,28):=by kernel_rfl
theorem Qxj:Qe Tryz.prog 190 1=some (7,36):=by kernel_rfl
theorem Qyd:Qe Tryz.prog 190 2=some (8,90):=by kernel_rfl
theorem Xfi:Qw Tryz.prog 190=some [(0,7),(7,1),(8,1)]:=by kernel_rfl
theorem Xeq:Qf Tryz.prog 191=some ⟨false,1,8,some (.nilFunc)⟩:=by kernel_rfl
theorem Xer:Qf Tryz.prog 192=some ⟨false,1,8,some (.nilFunc)⟩:=by kernel_rfl
theorem Xft:Qf Tryz.prog 193=some ⟨false,1,8,some (.nilFunc)⟩:=by kernel_rfl
theorem Xgt:Qf Tryz.prog 194=some ⟨false,1,8,some (.nilFunc)⟩:=by kernel_rfl
theorem Xep:Qf Tryz.prog 195=some ⟨false,1,8,some (.nilFunc)⟩:=by kernel_rfl
theorem Xf2:Qf Tryz.prog 196=some ⟨false,1,8,some (.pointer none)⟩:=by kernel_rfl
theorem Xex:Qf Tryz.prog 197=some ⟨false,1,8,some (.pointer none)⟩:=by kernel_rfl
theorem Xiw:Qf Tryz.prog 198=some ⟨false,1,8,some (.int .u64 0)⟩:=by kernel_rfl
theorem Xfn:Qf Tryz.prog 199=some ⟨false,1,8,some (.nilFunc)⟩:=by kernel_rfl
theorem Xiz:Qf Tryz.prog 200=some ⟨false,1,8,some (.nilFunc)⟩:=by kernel_rfl
theorem Xg4:Qf Tryz.prog 201=some ⟨false,1,8,some (.map none)⟩:=by kernel_rfl
theorem Xgg:Qf Tryz.prog 202=some ⟨true,2,16,some (.agg #[.int .i64 0,.int .i64 0])⟩:=by kernel_rfl
theorem Xab:Qe Tryz.prog 202 0=some (0,3):=by kernel_rfl
theorem Qya:Qe Tryz.prog 202 1=some (1,3):=by kernel_rfl
theorem Xfx:Qw Tryz.prog 202=some [(0,1),(1,1)]:=by kernel_rfl
theorem Xfm:Qf Tryz.prog 203=some ⟨true,2,16,some (.agg #[.int .i64 0,.int .i64 0])⟩:=by kernel_rfl
theorem Qx8:Qe Tryz.prog 203 0=some (0,3):=by kernel_rfl
theorem Qx0:Qe Tryz.prog 203 1=some (1,3):=by kernel_rfl
theorem Xgy:Qw Tryz.prog 203=some [(0,1),(1,1)]:=by kernel_rfl
theorem Xf6:Qf Tryz.prog 204=some ⟨false,1,8,some (.nilFunc)⟩:=by kernel_rfl
theorem Xhx:Qf Tryz.prog 205=some ⟨false,1,8,some (.nilFunc)⟩:=by kernel_rfl
theorem Xi1:Qf Tryz.prog 206=some ⟨false,1,8,some (.nilFunc)⟩:=by kernel_rfl
theorem Xe2:Qf Tryz.prog 207=some ⟨false,1,8,some (.nilFunc)⟩:=by kernel_rfl
theorem Xfb:Qf Tryz.prog 208=some ⟨false,1,8,some (.nilFunc)⟩:=by kernel_rfl
theorem Xf7:Qf Tryz.prog 209=some ⟨false,1,8,some (.nilFunc)⟩:=by kernel_rfl
theorem Xgo:Qf Tryz.prog 210=some ⟨false,1,24,some (.slice none 0 0)⟩:=by kernel_rfl
theorem Xgl:Qf Tryz.prog 211=some ⟨false,1,8,some (.nilFunc)⟩:=by kernel_rfl
theorem Xg2:Qf Tryz.prog 212=some ⟨false,1,8,some (.nilFunc)⟩:=by kernel_rfl
theorem Xf4:Qf Tryz.prog 213=some ⟨true,2,16,some (.agg #[.int .i64 0,.int .i64 0])⟩:=by kernel_rfl
theorem Qw9:Qe Tryz.prog 213 0=some (0,3):=by kernel_rfl
theorem Qyz:Qe Tryz.prog 213 1=some (1,3):=by kernel_rfl
theorem Xem:Qw Tryz.prog 213=some [(0,1),(1,1)]:=by kernel_rfl
theorem Xf0:Qf Tryz.prog 214=some ⟨true,2,16,some (.agg #[.int .i64 0,.int .i64 0])⟩:=by kernel_rfl
theorem Qxl:Qe Tryz.prog 214 0=some (0,3):=by kernel_rfl
theorem Qxu:Qe Tryz.prog 214 1=some (1,3):=by kernel_rfl
theorem Xe7:Qw Tryz.prog 214=some [(0,1),(1,1)]:=by kernel_rfl
theorem Xip:Qf Tryz.prog 215=some ⟨false,1,8,some (.nilFunc)⟩:=by kernel_rfl
theorem Xfz:Qf Tryz.prog 216=some ⟨false,1,8,some (.nilFunc)⟩:=by kernel_rfl
theorem Xfs:Qf Tryz.prog 217=some ⟨false,1,8,some (.nilFunc)⟩:=by kernel_rfl
theorem Xgj:Qf Tryz.prog 218=some ⟨false,1,8,some (.nilFunc)⟩:=by kernel_rfl
theorem Xhy:Qf Tryz.prog 219=some ⟨false,1,8,some (.nilFunc)⟩:=by kernel_rfl
theorem Xgz:Qf Tryz.prog 220=some ⟨false,1,8,some (.nilFunc)⟩:=by kernel_rfl
theorem Xg0:Qf Tryz.prog 221=some ⟨false,1,8,some (.nilFunc)⟩:=by kernel_rfl
theorem Xgb:Qf Tryz.prog 222=some ⟨false,1,8,some (.nilFunc)⟩:=by kernel_rfl
theorem Xi7:Qf Tryz.prog 223=some ⟨false,1,8,some (.nilFunc)⟩:=by kernel_rfl
theorem Xek:Qf Tryz.prog 224=some ⟨false,1,8,some (.nilFunc)⟩:=by kernel_rfl
theorem Xjk:Qf Tryz.prog 225=some ⟨false,1,8,some (.nilFunc)⟩:=by kernel_rfl
theorem Xi8:Qf Tryz.prog 226=some ⟨false,1,8,some (.pointer none)⟩:=by kernel_rfl
theorem Xe6:Qf Tryz.prog 227=some ⟨true,2,32,some (.agg #[.pointer none,.slice none 0 0])⟩:=by kernel_rfl
theorem Qyg:Qe Tryz.prog 227 0=some (0,226):=by kernel_rfl
theorem Qy5:Qe Tryz.prog 227 1=some (1,178):=by kernel_rfl
theorem Xgv:Qw Tryz.prog 227=some [(0,1),(1,1)]:=by kernel_rfl
theorem Xjj:Qf Tryz.prog 228=some ⟨true,2,32,some (.agg #[.pointer none,.slice none 0 0])⟩:=by kernel_rfl
theorem Qyl:Qe Tryz.prog 228 0=some (0,226):=by kernel_rfl
theorem Qwq:Qe Tryz.prog 228 1=some (1,178):=by kernel_rfl
theorem Xee:Qw Tryz.prog 228=some [(0,1),(1,1)]:=by kernel_rfl
theorem Xg5:Qf Tryz.prog 229=some ⟨false,1,16,some (.nilIface)⟩:=by kernel_rfl
theorem Xhj:Qf Tryz.prog 230=some ⟨false,1,16,some (.nilIface)⟩:=by kernel_rfl
theorem Xe5:Qf Tryz.prog 231=some ⟨false,1,8,some (.nilFunc)⟩:=by kernel_rfl
theorem Xio:Qf Tryz.prog 233=some ⟨false,1,8,some (.nilFunc)⟩:=by kernel_rfl
theorem Xil:Qf Tryz.prog 234=some ⟨false,1,8,some (.nilFunc)⟩:=by kernel_rfl
theorem Xf9:Qf Tryz.prog 235=some ⟨false,1,8,some (.nilFunc)⟩:=by kernel_rfl
theorem Xen:Qf Tryz.prog 236=some ⟨false,1,8,some (.int .i64 0)⟩:=by kernel_rfl
theorem Xhn:Qf Tryz.prog 238=some ⟨false,1,8,some (.nilFunc)⟩:=by kernel_rfl
theorem Xij:Qf Tryz.prog 239=some ⟨false,1,8,some (.nilFunc)⟩:=by kernel_rfl
theorem Xi3:Qf Tryz.prog 240=some ⟨false,1,8,some (.nilFunc)⟩:=by kernel_rfl
theorem Xit:Qf Tryz.prog 241=some ⟨false,1,8,some (.nilFunc)⟩:=by kernel_rfl
theorem Xib:Qf Tryz.prog 242=some ⟨false,1,8,some (.nilFunc)⟩:=by kernel_rfl
theorem Xh8:Qf Tryz.prog 243=some ⟨false,1,4,some (.int .u32 0)⟩:=by kernel_rfl
theorem Xiy:Qf Tryz.prog 244=some ⟨false,1,8,some (.nilFunc)⟩:=by kernel_rfl
theorem Xh0:Qf Tryz.prog 245=some ⟨false,1,8,some (.nilFunc)⟩:=by kernel_rfl
theorem Xhp:Qf Tryz.prog 246=some ⟨false,1,8,some (.nilFunc)⟩:=by kernel_rfl
theorem Xf8:Qf Tryz.prog 247=some ⟨false,1,8,some (.nilFunc)⟩:=by kernel_rfl
theorem Xfh:Qf Tryz.prog 248=some ⟨false,1,8,some (.nilFunc)⟩:=by kernel_rfl
theorem Xe9:Qf Tryz.prog 249=some ⟨false,1,8,some (.nilFunc)⟩:=by kernel_rfl
theorem Xjh:Qf Tryz.prog 251=some ⟨false,1,8,some (.nilFunc)⟩:=by kernel_rfl
theorem Xfc:Qf Tryz.prog 252=some ⟨false,1,8,some (.nilFunc)⟩:=by kernel_rfl
theorem Xg3:Qf Tryz.prog 253=some ⟨false,1,8,some (.nilFunc)⟩:=by kernel_rfl
theorem Xja:Qf Tryz.prog 254=some ⟨false,1,8,some (.nilFunc)⟩:=by kernel_rfl
theorem Xhc:Qf Tryz.prog 255=some ⟨false,1,8,some (.pointer none)⟩:=by kernel_rfl
theorem Xi6:Qf Tryz.prog 256=some ⟨false,1,8,some (.int .u64 0)⟩:=by kernel_rfl
theorem Xgi:Qf Tryz.prog 257=some ⟨false,1,8,some (.nilFunc)⟩:=by kernel_rfl
theorem Xh2:Qf Tryz.prog 258=some ⟨false,1,8,some (.nilFunc)⟩:=by kernel_rfl
theorem Xfy:Qf Tryz.prog 259=some ⟨false,1,8,some (.nilFunc)⟩:=by kernel_rfl
theorem Xfv:Qf Tryz.prog 260=some ⟨false,1,8,some (.nilFunc)⟩:=by kernel_rfl
theorem Xes:Qf Tryz.prog 261=some ⟨false,1,8,some (.nilFunc)⟩:=by kernel_rfl
theorem Xgu:Qf Tryz.prog 262=some ⟨false,1,8,some (.nilFunc)⟩:=by kernel_rfl
theorem Xef:Qf Tryz.prog 265=some ⟨false,1,8,some (.pointer none)⟩:=by kernel_rfl
theorem Xif:Qf Tryz.prog 266=some ⟨false,1,8,some (.nilFunc)⟩:=by kernel_rfl
theorem Xfl:Qf Tryz.prog 272=some ⟨false,1,8,some (.nilFunc)⟩:=by kernel_rfl
theorem Qq:Tryz.prog.follows .mixedOrders=true:=by kernel_rfl
attribute [push_cast] ti1 ti2 ti3 ti4 ti5 ti9 ti12 ti20 ti21 ti22 ti23 ti24 ti25 ti26 ti27 ti28 ti29 ti30 ti31 ti32 ti33 ti34 ti35 ti36 ti37 ti38 ti39 ti40 ti41 ti42 ti43 ti44 ti46 ti47 ti48 ti49 ti50 ti51 ti52 ti53 ti54 ti55 ti56 ti57 ti58 ti59 ti60 ti61 ti62 ti63 ti64 ti65 ti66 ti67 ti68 ti69 ti70 ti71 ti72 ti73 ti74 ti76 ti78 ti79 ti80 ti81 ti82 ti83 ti84 ti85 ti86 ti88 ti89 ti90 ti91 ti92 ti93 ti94 ti95 ti96 ti97 ti98 ti99 Xic Xgq Xfa Xeb Xfk Xfr Xi9 Xi4 Xh9 Xg1 Xew Xgh Xad Xgp Xan Xe0 Xjg Xhb Xhk Xh5 Xhh Xgw Xhg Xh4 Xi5 Xet Xih Xfg Xhq Xeg Xej Xe4 Xjb Xfq Xal Xi2 Xey Xhz Xgf Xev Xhw Xg7 Xiv Xg9 Xhf Xgd Xjc Xix Xg6 Xhe Xh6 Xed Xam Xec Xig Xhi Xei Xik Xgk Xjd Xe3 Xha Xez Xhs Xgc Xfd Xf1 Xhl Xf3 Xeo Xhv Xhd Xiq Xg8 Xfe Xgn Xgm Xfo Xia Xfp Xfu Xgs Xhu Xel Xhr Xh7 Xeq Xer Xft Xgt Xep Xf2 Xex Xiw Xfn Xiz Xg4 Xgg Xfm Xf6 Xhx Xi1 Xe2 Xfb Xf7 Xgo Xgl Xg2 Xf4 Xf0 Xip Xfz Xfs Xgj Xhy Xgz Xg0 Xgb Xi7 Xek Xjk Xi8 Xe6 Xjj Xg5 Xhj Xe5 Xio Xil Xf9 Xen Xhn Xij Xi3 Xit Xib Xh8 Xiy Xh0 Xhp Xf8 Xfh Xe9 Xjh Xfc Xg3 Xja Xhc Xi6 Xgi Xh2 Xfy Xfv Xes Xgu Xef Xif Xfl Xdi Xb6 Xdc Xcl Xbz Xd3 Xa9 pl27 Xd7 Xbf Xc0 Xd5 Xbe Xcq Xdy pl28 Xds Xcs Xbd pl33 Xcz Xdd Xcp pl34 Xb0 Xa5 Xc2 pl40 Xde Xbu Xbg pl41 Xba Xdj Xaz Xbx Xao pl42 Xbw Xc8 Xa8 Xa0 Xcw pl43 Xd9 Xbb Xb3 Xb7 Xb2 pl50 Xcg Xdb Xd6 Xc7 Xa7 pl51 Xb5 Xa3 Xat Xbr Xc5 pl55 Xd1 Xbp Xaw Xdg Xax pl56 Xa2 Xd0 pl62 Xbl Xbh pl63 Xay Xdf pl64 Xby Xdk pl65 Xbm Xav Xce Xdu pl66 Xcd Xci Xdo Xaq pl67 Xck Xdh Xca pl69 Xdx Xcr Xcx pl70 Xcb Xbt pl81 Xb8 Xdp pl82 Xcm Xch pl84 Xd8 Xbq pl85 Xar Xda Xb1 Xcu Xa1 pl93 Xcn Xbi Xdq Xdm Xdr pl94 Xbv Xd2 Xc3 Xdl pl99 Qwm Qyb Qxq Xaa Xfw Qxr Qyj Qyn Qw2 Xfj Qz7 Qyp Qza Qwi Xiu Qyr Qy4 Xe1 Qwv Qxn Xji Qyf Qzb Xga Qy8 Qz5 Xir Qzq Qyv Qx3 Qx7 Xf5 Qwt Qzv Qx5 Qze Xin Qw4 Qwg Qwl Qyo Xi0 Qzp Qxh Qz3 Qzk Xjf Qx1 Qwr Qxe Xgr Qz0 Qxj Qyd Xfi Xab Qya Xfx Qx8 Qx0 Xgy Qw9 Qyz Xem Qxl Qxu Xe7 Qyg Qy5 Xgv Qyl Qwq Xee Tryz.underlying1 Tryz.underlying2 Tryz.underlying3 Tryz.underlying4 Tryz.underlying5 Tryz.underlying9 Tryz.underlying12 Tryz.underlying20 Tryz.underlying21 Tryz.underlying22 Tryz.underlying23 Tryz.underlying24 Tryz.underlying25 Tryz.underlying26 Tryz.underlying27 Tryz.underlying28 Tryz.underlying29 Tryz.underlying30 Tryz.underlying31 Tryz.underlying32 Tryz.underlying33 Tryz.underlying34 Tryz.underlying35 Tryz.underlying36 Tryz.underlying37 Tryz.underlying38 Tryz.underlying39 Tryz.underlying40 Tryz.underlying41 Tryz.underlying42 Tryz.underlying43 Tryz.underlying44 Tryz.underlying46 Tryz.underlying47 Tryz.underlying48 Tryz.underlying49 Tryz.underlying50 Tryz.underlying51 Tryz.underlying52 Tryz.underlying53 Tryz.underlying54 Tryz.underlying55 Tryz.underlying56 Tryz.underlying57 Tryz.underlying58 Tryz.underlying59 Tryz.underlying60 Tryz.underlying61 Tryz.underlying62 Tryz.underlying63 Tryz.underlying64 Tryz.underlying65 Tryz.underlying66 Tryz.underlying67 Tryz.underlying68 Tryz.underlying69 Tryz.underlying70 Tryz.underlying71 Tryz.underlying72 Tryz.underlying73 Tryz.underlying74 Tryz.underlying76 Tryz.underlying78 Tryz.underlying79 Tryz.underlying80 Tryz.underlying81 Tryz.underlying82 Tryz.underlying83 Tryz.underlying84 Tryz.underlying85 Tryz.underlying86 Tryz.underlying88 Tryz.underlying89 Tryz.underlying90 Tryz.underlying91 Tryz.underlying92 Tryz.underlying93 Tryz.underlying94 Tryz.underlying95 Tryz.underlying96 Tryz.underlying97 Tryz.underlying98 Tryz.underlying99 Tryz.underlying100 Tryz.underlying101 Tryz.underlying102 Tryz.underlying103 Tryz.underlying104 Tryz.underlying105 Tryz.underlying106 Tryz.underlying107 Tryz.underlying108 Tryz.underlying109 Tryz.underlying110 Tryz.underlying111 Tryz.underlying112 Tryz.underlying113 Tryz.underlying114 Tryz.underlying115 Tryz.underlying116 Tryz.underlying117 Tryz.underlying118 Tryz.underlying119 Tryz.underlying120 Tryz.underlying121 Tryz.underlying122 Tryz.underlying124 Tryz.underlying125 Tryz.underlying127 Tryz.underlying128 Tryz.underlying129 Tryz.underlying130 Tryz.underlying131 Tryz.underlying132 Tryz.underlying133 Tryz.underlying134 Tryz.underlying135 Tryz.underlying136 Tryz.underlying137 Tryz.underlying138 Tryz.underlying139 Tryz.underlying140 Tryz.underlying141 Tryz.underlying142 Tryz.underlying143 Tryz.underlying144 Tryz.underlying145 Tryz.underlying146 Tryz.underlying147 Tryz.underlying148 Tryz.underlying149 Tryz.underlying150 Tryz.underlying151 Tryz.underlying152 Tryz.underlying153 Tryz.underlying154 Tryz.underlying155 Tryz.underlying157 Tryz.underlying158 Tryz.underlying159 Tryz.underlying160 Tryz.underlying161 Tryz.underlying162 Tryz.underlying163 Tryz.underlying164 Tryz.underlying165 Tryz.underlying166 Tryz.underlying167 Tryz.underlying168 Tryz.underlying169 Tryz.underlying170 Tryz.underlying172 Tryz.underlying173 Tryz.underlying174 Tryz.underlying175 Tryz.underlying176 Tryz.underlying177 Tryz.underlying178 Tryz.underlying180 Tryz.underlying181 Tryz.underlying182 Tryz.underlying183 Tryz.underlying184 Tryz.underlying185 Tryz.underlying186 Tryz.underlying187 Tryz.underlying188 Tryz.underlying189 Tryz.underlying190 Tryz.underlying191 Tryz.underlying192 Tryz.underlying193 Tryz.underlying194 Tryz.underlying195 Tryz.underlying196 Tryz.underlying197 Tryz.underlying198 Tryz.underlying199 Tryz.underlying200 Tryz.underlying201 Tryz.underlying202 Tryz.underlying203 Tryz.underlying204 Tryz.underlying205 Tryz.underlying206 Tryz.underlying207 Tryz.underlying208 Tryz.underlying209 Tryz.underlying210 Tryz.underlying211 Tryz.underlying212 Tryz.underlying213 Tryz.underlying214 Tryz.underlying215 Tryz.underlying216 Tryz.underlying217 Tryz.underlying218 Tryz.underlying219 Tryz.underlying220 Tryz.underlying221 Tryz.underlying222 Tryz.underlying223 Tryz.underlying224 Tryz.underlying225 Tryz.underlying226 Tryz.underlying227 Tryz.underlying228 Tryz.underlying229 Tryz.underlying230 Tryz.underlying231 Tryz.underlying233 Tryz.underlying234 Tryz.underlying235 Tryz.underlying236 Tryz.underlying238 Tryz.underlying239 Tryz.underlying240 Tryz.underlying241 Tryz.underlying242 Tryz.underlying243 Tryz.underlying244 Tryz.underlying245 Tryz.underlying246 Tryz.underlying247 Tryz.underlying248 Tryz.underlying249 Tryz.underlying251 Tryz.underlying252 Tryz.underlying253 Tryz.underlying254 Tryz.underlying255 Tryz.underlying256 Tryz.underlying257 Tryz.underlying258 Tryz.underlying259 Tryz.underlying260 Tryz.underlying261 Tryz.underlying262 Tryz.underlying265 Tryz.underlying266 Tryz.underlying272
end Go.Proofs.YtmdmimkbpikmoaaGreat.Ty
namespace Go.Proofs.YtmdmimkbpikmoaaGreat
open Go.RowKit Am Ty
theorem om {P:Prop} (h:P:=by omega):P:=h
theorem kr {P:Prop} (h:P:=by kernel_rfl):P:=h
theorem zu {R P:Prop} (k:R) (h:R→P:=by intro z0;(repeat (first|apply zs|apply zr|apply zn|apply zq|apply zb|apply zo|apply zk|apply zl));exact z0):P:=h k
theorem zh {P:Prop} (h:P:=by repeat (first|exact trivial|(refine⟨.inl ⟨by decide,rfl⟩,?_⟩) | (refine⟨.inr ⟨rfl,by simp⟩,?_⟩))):P:=h
theorem fe {N:Am.Env} {f:FuncId} {fn:Func} {c:Code} {args:List Value} {h:Heap} {K:Value→Heap→Prop} (hf:N.P.funcs[f]? = some fn) (k:CW N c ⟨Qj0 args,[],h⟩ (retK N fn K)) (hb:fn.body=some c:=by rfl) (hd:Zh fn.ntmps c=true:=by kernel_rfl) (hl:decide (args.length≤fn.ntmps)=true:=by kernel_rfl):FW N f args h K:=Qtc hf hb hd (of_decide_eq_true hl) k
theorem zj {N:Am.Env} {all:Array Oper} {o:Oper} {r:List Oper} {s:St} {K:St→Prop} {f:FuncId} {cap args:List Value} {fn:Func} (hf:N.P.funcs[f]? = some fn) (k:FW N f (args++cap) s.h fun v h'=>OW N all r ({ s with h:=h' }.putO o.dst (.val v)) K) (h:Qp5 all o s=some (f,cap,args):=by simp only[push_cast,env,Nat.reduceEqDiff,reduceIte]<;>exact rfl) (hnm:(fn.name == "runtime.NumGoroutine")=false:=by kernel_rfl) (hb:fn.body.isNone=false:=by kernel_rfl):OW N all (o :: r) s K:=zc h hf hnm hb k
theorem zp0 {P:Prop}  (h:P:=by simp only[push_cast,env,Nat.reduceEqDiff,reduceIte,Nat.reduceAdd,Nat.reduceMul,Nat.reduceLeDiff,reduceCtorEq,Nat.reduceSub,Int.reduceToNat]<;>first|exact rfl|exact .inl rfl|exact .inr rfl):P:=h
theorem zp1 {A P:Prop} (z1:A) (h:A→P:=by intro z1;simp only[push_cast,env,Nat.reduceEqDiff,reduceIte,Nat.reduceAdd,Nat.reduceMul,Nat.reduceLeDiff,reduceCtorEq,Nat.reduceSub,Int.reduceToNat,z1]<;>first|exact rfl|exact .inl rfl|exact .inr rfl):P:=h z1
theorem zp2 {A B P:Prop} (z1:A) (z2:B) (h:A→B→P:=by intro z1 z2;simp only[push_cast,env,Nat.reduceEqDiff,reduceIte,Nat.reduceAdd,Nat.reduceMul,Nat.reduceLeDiff,reduceCtorEq,Nat.reduceSub,Int.reduceToNat,z1,z2]<;>first|exact rfl|exact .inl rfl|exact .inr rfl):P:=h z1 z2
theorem zp3 {A B C P:Prop} (z1:A) (z2:B) (z3:C) (h:A→B→C→P:=by intro z1 z2 z3;simp only[push_cast,env,Nat.reduceEqDiff,reduceIte,Nat.reduceAdd,Nat.reduceMul,Nat.reduceLeDiff,reduceCtorEq,Nat.reduceSub,Int.reduceToNat,z1,z2,z3]<;>first|exact rfl|exact .inl rfl|exact .inr rfl):P:=h z1 z2 z3
theorem zp4 {A B C D P:Prop} (z1:A) (z2:B) (z3:C) (z4:D) (h:A→B→C→D→P:=by intro z1 z2 z3 z4;simp only[push_cast,env,Nat.reduceEqDiff,reduceIte,Nat.reduceAdd,Nat.reduceMul,Nat.reduceLeDiff,reduceCtorEq,Nat.reduceSub,Int.reduceToNat,z1,z2,z3,z4]<;>first|exact rfl|exact .inl rfl|exact .inr rfl):P:=h z1 z2 z3 z4
theorem zp5 {A B C D E P:Prop} (z1:A) (z2:B) (z3:C) (z4:D) (z5:E) (h:A→B→C→D→E→P:=by intro z1 z2 z3 z4 z5;simp only[push_cast,env,Nat.reduceEqDiff,reduceIte,Nat.reduceAdd,Nat.reduceMul,Nat.reduceLeDiff,reduceCtorEq,Nat.reduceSub,Int.reduceToNat,z1,z2,z3,z4,z5]<;>first|exact rfl|exact .inl rfl|exact .inr rfl):P:=h z1 z2 z3 z4 z5
theorem zp6 {A B C D E F P:Prop} (z1:A) (z2:B) (z3:C) (z4:D) (z5:E) (z6:F) (h:A→B→C→D→E→F→P:=by intro z1 z2 z3 z4 z5 z6;simp only[push_cast,env,Nat.reduceEqDiff,reduceIte,Nat.reduceAdd,Nat.reduceMul,Nat.reduceLeDiff,reduceCtorEq,Nat.reduceSub,Int.reduceToNat,z1,z2,z3,z4,z5,z6]<;>first|exact rfl|exact .inl rfl|exact .inr rfl):P:=h z1 z2 z3 z4 z5 z6
theorem zp7 {A B C D E F G P:Prop} (z1:A) (z2:B) (z3:C) (z4:D) (z5:E) (z6:F) (z7:G) (h:A→B→C→D→E→F→G→P:=by intro z1 z2 z3 z4 z5 z6 z7;simp only[push_cast,env,Nat.reduceEqDiff,reduceIte,Nat.reduceAdd,Nat.reduceMul,Nat.reduceLeDiff,reduceCtorEq,Nat.reduceSub,Int.reduceToNat,z1,z2,z3,z4,z5,z6,z7]<;>first|exact rfl|exact .inl rfl|exact .inr rfl):P:=h z1 z2 z3 z4 z5 z6 z7
theorem zp8 {A B C D E F G H P:Prop} (z1:A) (z2:B) (z3:C) (z4:D) (z5:E) (z6:F) (z7:G) (z8:H) (h:A→B→C→D→E→F→G→H→P:=by intro z1 z2 z3 z4 z5 z6 z7 z8;simp only[push_cast,env,Nat.reduceEqDiff,reduceIte,Nat.reduceAdd,Nat.reduceMul,Nat.reduceLeDiff,reduceCtorEq,Nat.reduceSub,Int.reduceToNat,z1,z2,z3,z4,z5,z6,z7,z8]<;>first|exact rfl|exact .inl rfl|exact .inr rfl):P:=h z1 z2 z3 z4 z5 z6 z7 z8
theorem zp9 {A B C D E F G H I P:Prop} (z1:A) (z2:B) (z3:C) (z4:D) (z5:E) (z6:F) (z7:G) (z8:H) (z9:I) (h:A→B→C→D→E→F→G→H→I→P:=by intro z1 z2 z3 z4 z5 z6 z7 z8 z9;simp only[push_cast,env,Nat.reduceEqDiff,reduceIte,Nat.reduceAdd,Nat.reduceMul,Nat.reduceLeDiff,reduceCtorEq,Nat.reduceSub,Int.reduceToNat,z1,z2,z3,z4,z5,z6,z7,z8,z9]<;>first|exact rfl|exact .inl rfl|exact .inr rfl):P:=h z1 z2 z3 z4 z5 z6 z7 z8 z9
theorem zk0 {P:Prop}  (h:P:=by (repeat (first|exact Steps0.nil _|(apply Steps0.cons;(·apply zz;simp only[push_cast,env,Nat.reduceEqDiff,reduceIte,Nat.reduceAdd,Nat.reduceMul,Nat.reduceLeDiff,reduceCtorEq,Nat.reduceSub,Int.reduceToNat]<;>exact rfl);(·rfl))))):P:=h
theorem zl0 {R P:Prop}  (k:R) (h:R→P:=by intro  z0;(repeat (first|exact Steps0.nil _|(apply Steps0.cons;(·apply zz;simp only[push_cast,env,Nat.reduceEqDiff,reduceIte,Nat.reduceAdd,Nat.reduceMul,Nat.reduceLeDiff,reduceCtorEq,Nat.reduceSub,Int.reduceToNat]<;>exact rfl);(·rfl))));exact z0):P:=h  k
theorem zk1 {A P:Prop} (z1:A) (h:A→P:=by intro z1;(repeat (first|exact Steps0.nil _|(apply Steps0.cons;(·apply zz;simp only[push_cast,env,Nat.reduceEqDiff,reduceIte,Nat.reduceAdd,Nat.reduceMul,Nat.reduceLeDiff,reduceCtorEq,Nat.reduceSub,Int.reduceToNat,z1]<;>exact rfl);(·rfl))))):P:=h z1
theorem zl1 {A R P:Prop} (z1:A) (k:R) (h:A→R→P:=by intro z1 z0;(repeat (first|exact Steps0.nil _|(apply Steps0.cons;(·apply zz;simp only[push_cast,env,Nat.reduceEqDiff,reduceIte,Nat.reduceAdd,Nat.reduceMul,Nat.reduceLeDiff,reduceCtorEq,Nat.reduceSub,Int.reduceToNat,z1]<;>exact rfl);(·rfl))));exact z0):P:=h z1 k
theorem zk2 {A B P:Prop} (z1:A) (z2:B) (h:A→B→P:=by intro z1 z2;(repeat (first|exact Steps0.nil _|(apply Steps0.cons;(·apply zz;simp only[push_cast,env,Nat.reduceEqDiff,reduceIte,Nat.reduceAdd,Nat.reduceMul,Nat.reduceLeDiff,reduceCtorEq,Nat.reduceSub,Int.reduceToNat,z1,z2]<;>exact rfl);(·rfl))))):P:=h z1 z2
theorem zl2 {A B R P:Prop} (z1:A) (z2:B) (k:R) (h:A→B→R→P:=by intro z1 z2 z0;(repeat (first|exact Steps0.nil _|(apply Steps0.cons;(·apply zz;simp only[push_cast,env,Nat.reduceEqDiff,reduceIte,Nat.reduceAdd,Nat.reduceMul,Nat.reduceLeDiff,reduceCtorEq,Nat.reduceSub,Int.reduceToNat,z1,z2]<;>exact rfl);(·rfl))));exact z0):P:=h z1 z2 k
theorem zk3 {A B C P:Prop} (z1:A) (z2:B) (z3:C) (h:A→B→C→P:=by intro z1 z2 z3;(repeat (first|exact Steps0.nil _|(apply Steps0.cons;(·apply zz;simp only[push_cast,env,Nat.reduceEqDiff,reduceIte,Nat.reduceAdd,Nat.reduceMul,Nat.reduceLeDiff,reduceCtorEq,Nat.reduceSub,Int.reduceToNat,z1,z2,z3]<;>exact rfl);(·rfl))))):P:=h z1 z2 z3
theorem zl3 {A B C R P:Prop} (z1:A) (z2:B) (z3:C) (k:R) (h:A→B→C→R→P:=by intro z1 z2 z3 z0;(repeat (first|exact Steps0.nil _|(apply Steps0.cons;(·apply zz;simp only[push_cast,env,Nat.reduceEqDiff,reduceIte,Nat.reduceAdd,Nat.reduceMul,Nat.reduceLeDiff,reduceCtorEq,Nat.reduceSub,Int.reduceToNat,z1,z2,z3]<;>exact rfl);(·rfl))));exact z0):P:=h z1 z2 z3 k
theorem zk4 {A B C D P:Prop} (z1:A) (z2:B) (z3:C) (z4:D) (h:A→B→C→D→P:=by intro z1 z2 z3 z4;(repeat (first|exact Steps0.nil _|(apply Steps0.cons;(·apply zz;simp only[push_cast,env,Nat.reduceEqDiff,reduceIte,Nat.reduceAdd,Nat.reduceMul,Nat.reduceLeDiff,reduceCtorEq,Nat.reduceSub,Int.reduceToNat,z1,z2,z3,z4]<;>exact rfl);(·rfl))))):P:=h z1 z2 z3 z4
theorem zl4 {A B C D R P:Prop} (z1:A) (z2:B) (z3:C) (z4:D) (k:R) (h:A→B→C→D→R→P:=by intro z1 z2 z3 z4 z0;(repeat (first|exact Steps0.nil _|(apply Steps0.cons;(·apply zz;simp only[push_cast,env,Nat.reduceEqDiff,reduceIte,Nat.reduceAdd,Nat.reduceMul,Nat.reduceLeDiff,reduceCtorEq,Nat.reduceSub,Int.reduceToNat,z1,z2,z3,z4]<;>exact rfl);(·rfl))));exact z0):P:=h z1 z2 z3 z4 k
theorem zk5 {A B C D E P:Prop} (z1:A) (z2:B) (z3:C) (z4:D) (z5:E) (h:A→B→C→D→E→P:=by intro z1 z2 z3 z4 z5;(repeat (first|exact Steps0.nil _|(apply Steps0.cons;(·apply zz;simp only[push_cast,env,Nat.reduceEqDiff,reduceIte,Nat.reduceAdd,Nat.reduceMul,Nat.reduceLeDiff,reduceCtorEq,Nat.reduceSub,Int.reduceToNat,z1,z2,z3,z4,z5]<;>exact rfl);(·rfl))))):P:=h z1 z2 z3 z4 z5
theorem zl5 {A B C D E R P:Prop} (z1:A) (z2:B) (z3:C) (z4:D) (z5:E) (k:R) (h:A→B→C→D→E→R→P:=by intro z1 z2 z3 z4 z5 z0;(repeat (first|exact Steps0.nil _|(apply Steps0.cons;(·apply zz;simp only[push_cast,env,Nat.reduceEqDiff,reduceIte,Nat.reduceAdd,Nat.reduceMul,Nat.reduceLeDiff,reduceCtorEq,Nat.reduceSub,Int.reduceToNat,z1,z2,z3,z4,z5]<;>exact rfl);(·rfl))));exact z0):P:=h z1 z2 z3 z4 z5 k
theorem zk6 {A B C D E F P:Prop} (z1:A) (z2:B) (z3:C) (z4:D) (z5:E) (z6:F) (h:A→B→C→D→E→F→P:=by intro z1 z2 z3 z4 z5 z6;(repeat (first|exact Steps0.nil _|(apply Steps0.cons;(·apply zz;simp only[push_cast,env,Nat.reduceEqDiff,reduceIte,Nat.reduceAdd,Nat.reduceMul,Nat.reduceLeDiff,reduceCtorEq,Nat.reduceSub,Int.reduceToNat,z1,z2,z3,z4,z5,z6]<;>exact rfl);(·rfl))))):P:=h z1 z2 z3 z4 z5 z6
theorem zl6 {A B C D E F R P:Prop} (z1:A) (z2:B) (z3:C) (z4:D) (z5:E) (z6:F) (k:R) (h:A→B→C→D→E→F→R→P:=by intro z1 z2 z3 z4 z5 z6 z0;(repeat (first|exact Steps0.nil _|(apply Steps0.cons;(·apply zz;simp only[push_cast,env,Nat.reduceEqDiff,reduceIte,Nat.reduceAdd,Nat.reduceMul,Nat.reduceLeDiff,reduceCtorEq,Nat.reduceSub,Int.reduceToNat,z1,z2,z3,z4,z5,z6]<;>exact rfl);(·rfl))));exact z0):P:=h z1 z2 z3 z4 z5 z6 k
theorem zk7 {A B C D E F G P:Prop} (z1:A) (z2:B) (z3:C) (z4:D) (z5:E) (z6:F) (z7:G) (h:A→B→C→D→E→F→G→P:=by intro z1 z2 z3 z4 z5 z6 z7;(repeat (first|exact Steps0.nil _|(apply Steps0.cons;(·apply zz;simp only[push_cast,env,Nat.reduceEqDiff,reduceIte,Nat.reduceAdd,Nat.reduceMul,Nat.reduceLeDiff,reduceCtorEq,Nat.reduceSub,Int.reduceToNat,z1,z2,z3,z4,z5,z6,z7]<;>exact rfl);(·rfl))))):P:=h z1 z2 z3 z4 z5 z6 z7
theorem zl7 {A B C D E F G R P:Prop} (z1:A) (z2:B) (z3:C) (z4:D) (z5:E) (z6:F) (z7:G) (k:R) (h:A→B→C→D→E→F→G→R→P:=by intro z1 z2 z3 z4 z5 z6 z7 z0;(repeat (first|exact Steps0.nil _|(apply Steps0.cons;(·apply zz;simp only[push_cast,env,Nat.reduceEqDiff,reduceIte,Nat.reduceAdd,Nat.reduceMul,Nat.reduceLeDiff,reduceCtorEq,Nat.reduceSub,Int.reduceToNat,z1,z2,z3,z4,z5,z6,z7]<;>exact rfl);(·rfl))));exact z0):P:=h z1 z2 z3 z4 z5 z6 z7 k
theorem zk8 {A B C D E F G H P:Prop} (z1:A) (z2:B) (z3:C) (z4:D) (z5:E) (z6:F) (z7:G) (z8:H) (h:A→B→C→D→E→F→G→H→P:=by intro z1 z2 z3 z4 z5 z6 z7 z8;(repeat (first|exact Steps0.nil _|(apply Steps0.cons;(·apply zz;simp only[push_cast,env,Nat.reduceEqDiff,reduceIte,Nat.reduceAdd,Nat.reduceMul,Nat.reduceLeDiff,reduceCtorEq,Nat.reduceSub,Int.reduceToNat,z1,z2,z3,z4,z5,z6,z7,z8]<;>exact rfl);(·rfl))))):P:=h z1 z2 z3 z4 z5 z6 z7 z8
theorem zl8 {A B C D E F G H R P:Prop} (z1:A) (z2:B) (z3:C) (z4:D) (z5:E) (z6:F) (z7:G) (z8:H) (k:R) (h:A→B→C→D→E→F→G→H→R→P:=by intro z1 z2 z3 z4 z5 z6 z7 z8 z0;(repeat (first|exact Steps0.nil _|(apply Steps0.cons;(·apply zz;simp only[push_cast,env,Nat.reduceEqDiff,reduceIte,Nat.reduceAdd,Nat.reduceMul,Nat.reduceLeDiff,reduceCtorEq,Nat.reduceSub,Int.reduceToNat,z1,z2,z3,z4,z5,z6,z7,z8]<;>exact rfl);(·rfl))));exact z0):P:=h z1 z2 z3 z4 z5 z6 z7 z8 k
theorem zk9 {A B C D E F G H I P:Prop} (z1:A) (z2:B) (z3:C) (z4:D) (z5:E) (z6:F) (z7:G) (z8:H) (z9:I) (h:A→B→C→D→E→F→G→H→I→P:=by intro z1 z2 z3 z4 z5 z6 z7 z8 z9;(repeat (first|exact Steps0.nil _|(apply Steps0.cons;(·apply zz;simp only[push_cast,env,Nat.reduceEqDiff,reduceIte,Nat.reduceAdd,Nat.reduceMul,Nat.reduceLeDiff,reduceCtorEq,Nat.reduceSub,Int.reduceToNat,z1,z2,z3,z4,z5,z6,z7,z8,z9]<;>exact rfl);(·rfl))))):P:=h z1 z2 z3 z4 z5 z6 z7 z8 z9
theorem zl9 {A B C D E F G H I R P:Prop} (z1:A) (z2:B) (z3:C) (z4:D) (z5:E) (z6:F) (z7:G) (z8:H) (z9:I) (k:R) (h:A→B→C→D→E→F→G→H→I→R→P:=by intro z1 z2 z3 z4 z5 z6 z7 z8 z9 z0;(repeat (first|exact Steps0.nil _|(apply Steps0.cons;(·apply zz;simp only[push_cast,env,Nat.reduceEqDiff,reduceIte,Nat.reduceAdd,Nat.reduceMul,Nat.reduceLeDiff,reduceCtorEq,Nat.reduceSub,Int.reduceToNat,z1,z2,z3,z4,z5,z6,z7,z8,z9]<;>exact rfl);(·rfl))));exact z0):P:=h z1 z2 z3 z4 z5 z6 z7 z8 z9 k
abbrev zU:Value:=.int .u64 0
abbrev zE:Value:=.string ⟨#[]⟩
abbrev zN:Value:=.slice none 0 0
end Go.Proofs.YtmdmimkbpikmoaaGreat
namespace Go.Proofs.YtmdmimkbpikmoaaGreat.Am
set_option linter.unusedSimpArgs false
set_option linter.unusedVariables false
open Go.RowKit
section
variable (N:Env) (call:FuncId→List Value→Heap→Option (Value×Heap)) (nm:FuncId→Bool) (dr:Array Oper→St→Option St)
def Qhw (s:St) (d:Option Nat) (t:TypeId) (cs:List Value) (v:Addr→Value):St:={ s with h:=s.h++[HObj.arr cs 0 true t] }.putO d (.val (v ⟨s.h.length,0,some 0⟩))
def appX (s:St) (d:Option Nat) (x y:Operand) (t t2:TypeId):Option St:=
 match N.P.underlying t with
 | some (.slice e)=>match Qf N.P e with
   | some ti=>if t2=t∧0<ti.size∧(ti.zero.map fun z=>z.cells.size)=some ti.size then (match Xz s s.h ti.size y with
     | some (cs,m)=>match ev s x with
       | some (.slice none 0 0)=>if 0<m∧m*ti.bytes≤140737488355328∧m≤140737488355328 then some ({ s with h:=s.h++[HObj.arr cs 0 true e] }.putO d (.val (.slice (some ⟨s.h.length,0,some 0⟩) m m))) else none
       | some (.slice (some ⟨id,0,some ver⟩) n _)=>match s.h[id]? with
         | some (.arr cells ver' true et)=>if ver'=ver∧et=e∧n*ti.size≤cells.length∧(n+m)*ti.bytes≤140737488355328∧n+m≤140737488355328 then
          some ({ s with h:=s.h.set id (HObj.arr (cells.take (n*ti.size)++cs) (ver+1) true e) }.putO d (.val (.slice (some ⟨id,0,some (ver+1)⟩) (n+m) (n+m)))) else none
         | _=>none
       | _=>none
     | none=>none) else none
   | none=>none
 | _=>none
def appZ (s:St) (d:Option Nat) (x y:Operand) (t t2:TypeId):Option St:=
 match N.P.underlying t,ev s x,ev s y with
 | some (.slice e),some (.slice p n c),some (.slice q 0 c')=>match Qf N.P e with
   | some _=>if t2=t then some (s.putO d (.val (.slice p n c))) else none
   | none=>none
 | _,_,_=>none
def stoX (s:St) (t:TypeId) (a x:Operand):Option St:=
 match Qf N.P t,ev s a,ev s x with
 | some ti,some (.pointer (some ⟨id,off,some ver⟩)),some v=>match s.h[id]?,Zg ti.size v with
   | some (.arr cells ver' true et),some vs=>if ver'=ver then (wrC cells off vs).map fun cells'=>{ s with h:=s.h.set id (HObj.arr cells' ver true et) } else none
   | _,_=>none
 | _,_,_=>none
def mapX (s:St) (t:TypeId) (x:Operand):Option (Nat×List (Value×Value)×(Value→Bool)×TypeId):=
 match N.P.underlying t,ev s x with
 | some (.map kt et),some (.map (some id))=>match N.keys kt,s.h[id]? with
   | some kd,some (.map es)=>if Zm kd es then some (id,es,kd,et) else none
   | _,_=>none
 | _,_=>none
def updX (s:St) (t:TypeId) (x i y:Operand):Option St:=
 match mapX N s t x,ev s i,ev s y with
 | some (id,es,kd,_),some k,some v=>if kd k then some { s with h:=s.h.set id (HObj.map (mput es k v)) } else none
 | _,_,_=>none
def entX (s:St) (d:Option Nat) (t:TypeId) (x i:Operand):Option St:=
 match mapX N s t x,ev s i with
 | some (id,es,kd,et),some k=>match Qb4 N.P et with
   | some z=>if kd k then some ({ s with h:=s.h.set id (HObj.map (ment es k z).2.2) }.putO d (.val (.tuple #[(ment es k z).1,.int .i64 (ment es k z).2.1]))) else none
   | none=>none
 | _,_=>none
def estX (s:St) (x i y:Operand):Option St:=
 match ev s x,ev s i,ev s y with
 | some (.map (some id)),some (.int .i64 (.ofNat j)),some v=>match s.h[id]? with
   | some (.map es)=>match es[j]? with
     | some (k,_)=>some { s with h:=s.h.set id (HObj.map (es.set j (k,v))) }
     | none=>none
   | _=>none
 | _,_,_=>none
def Qva (all:Array Oper) (o:Oper) (s:St):Option St:=
 match Ql all o s with
 | none=>none
 | some false=>some (s.putO o.dst (.val (.tuple #[])))
 | some true=>match o.op with
   | .box t x=>(boxC N s (.box t x)).map fun p=>Qhw s o.dst p.1 p.2 fun a=>.pointer (some a)
   | .alloc t=>(boxC N s (.alloc t)).map fun p=>Qhw s o.dst p.1 p.2 fun a=>.pointer (some a)
   | .buildSlice t l ps=>(bslC N s (.buildSlice t l ps)).map fun p=>Qhw s o.dst p.1 p.2.1 fun a=>.slice (some a) p.2.2 p.2.2
   | .makeSlice t l c=>(mkC N s (.makeSlice t l c)).map fun p=>Qhw s o.dst p.1 p.2.1 fun a=>.slice (some a) p.2.2 p.2.2
   | .store t a x=>if o.dst=none then stoX N s t a x else none
   | .range t x=>match N.P.underlying t,ev s x,o.dst with
     | some (.map _ _),some (.map (some id)),some d=>match s.h[id]? with
       | some (.map es)=>some (s.put d (.itr id es.length []))
       | _=>none
     | some .string,some (.string b),some d=>some (s.put d (.sit b 0))
     | _,_,_=>none
   | .next (.tmp x) false=>match fget s.fr x with
     | .itr m n seen=>match s.h[m]? with
       | some (.map es)=>if es.length=n then (match (List.range n).filter fun j=>!seen.contains j with
         | []=>some (s.putO o.dst (.val (.tuple #[.bool false])))
         | [i]=>match es[i]? with
           | some (k,v)=>if Jl k then some ({ s with fr:=fput s.fr x (.itr m n (seen++[i])) }.putO o.dst (.val (.tuple #[.bool true,k,v]))) else none
           | none=>none
         | _=>none) else none
       | _=>none
     | _=>none
   | .next (.tmp x) true=>match fget s.fr x with
     | .sit b p=>if p<b.size then some ({ s with fr:=fput s.fr x (.sit b (p+(Utf8.decode b p).2)) }.putO o.dst (.val (.tuple #[.bool true,.int .i64 p,.int .i32 (Utf8.decode b p).1])))
       else some (s.putO o.dst (.val (.tuple #[.bool false])))
     | _=>none
   | .makeMap t none=>match N.P.underlying t with
     | some (.map _ _)=>some ({ s with h:=s.h++[HObj.map []] }.putO o.dst (.val (.map (some s.h.length))))
     | _=>none
   | .mapUpdate t x i y=>if o.dst=none then updX N s t x i y else none
   | .mapEntry t x i=>entX N s o.dst t x i
   | .entryStore _ x i y=>if o.dst=none then estX s x i y else none
   | .call c=>match c.callee with
     | .builtin .append=>match c.args.toList,c.argTypes.toList with
       | [x,y],[t,t2]=>match appZ N s o.dst x y t t2 with
         | some s1=>some s1
         | none=>appX N s o.dst x y t t2
       | _,_=>none
     | .builtin _=>(vop N s o.op).map fun v=>s.putO o.dst (.val v)
     | cal=>match Ji s cal,evs s c.args.toList with
       | some (f,cap),some args=>if nm f then (match call f (args++cap) s.h with
         | some (v,h')=>some ({ s with h:=h' }.putO o.dst (.val v))
         | none=>none) else none
       | _,_=>none
   | _=>(vop N s o.op).map fun v=>s.putO o.dst (.val v)
def opsX (all:Array Oper):List Oper→St→Option St
 | [],s=>some s
 | o :: r,s=>match Qva N call nm all o s with
   | some s1=>opsX all r s1
   | none=>none
def Qc4:Nat→Code→St→Option (AX×St)
 | 0,_,_=>none
 | n+1,c,s=>match c with
   | .skip=>some (.normal,s)
   | .label _=>some (.normal,s)
   | .exit id=>some (.exit id,s)
   | .ret=>some (.ret,s)
   | .seq a b=>match Qc4 n a s with
     | some (.normal,s1)=>Qc4 n b s1
     | r=>r
   | .cond c x y=>match ev s c with
     | some (.bool true)=>Qc4 n x s
     | some (.bool false)=>Qc4 n y s
     | _=>none
   | .block id c=>match Qc4 n c s with
     | some (e,s1)=>some (e.inBlock id,s1)
     | none=>none
   | .scope c=>Qc4 n c s
   | .loop c=>match Qc4 n c s with
     | some (.normal,s1)=>Qc4 n (.loop c) s1
     | r=>r
   | .region _ ops false=>match opsX N call nm ops ops.toList { s with eph:=[] } with
     | some s1=>some (.normal,s1)
     | none=>none
   | .region _ ops true=>match dr ops s with
     | some s1=>some (.normal,s1)
     | none=>none
   | _=>none
end
section
variable {N:Env} {call:FuncId→List Value→Heap→Option (Value×Heap)} {nm:FuncId→Bool}
def CallOK (N:Env) (call:FuncId→List Value→Heap→Option (Value×Heap)):Prop:=∀ f a h r h',call f a h=some (r,h')→(∃ fn,N.P.funcs[f]? = some fn∧fn.body.isNone=false)∧Ev N (.call f a h r h')
def NmOK (N:Env) (nm:FuncId→Bool):Prop:=∀ f fn,nm f=true→N.P.funcs[f]? = some fn→(fn.name == "runtime.NumGoroutine")=false
theorem Qo2 {all:Array Oper} {o:Oper} {r:List Oper} {s s1 s2:St} {x y:Operand} {t t2:TypeId} {c:Call} (hw:Ql all o s=some true) (ho:o.op = .call c) (hc:c.callee = .builtin .append)
 (hx:c.args.toList=[x,y]) (ht:c.argTypes.toList=[t,t2]) (h:appX N s o.dst x y t t2=some s1) (k:Ev N (.ops all r s1 s2)):Ev N (.ops all (o :: r) s s2):=by
 have ho':o.op = .call { callee:=.builtin .append,args:=#[x,y],argTypes:=#[t,t2] }:=by
  rw[ho]
  cases c with
  | mk cal a ty=>
    simp only at hc hx ht
    subst hc
    rw[show a=#[x,y] from Array.toList_inj.1 hx,show ty=#[t,t2] from Array.toList_inj.1 ht]
 unfold appX at h
 split at h
 ·rename_i e hu
  split at h
  ·rename_i ti hti
   split at h
   ·rename_i hq
    obtain⟨q1,q2,q3⟩:=hq
    split at h
    ·rename_i cs m hi
     split at h
     ·rename_i hv
      split at h
      ·rename_i hm
       cases h
       exact .opApp0 hw ho' hu q1 hti q2 q3 hv hi hm.1 hm.2.1 hm.2.2 k
      ·cases h
     ·rename_i id ver n cp hv
      split at h
      ·rename_i cells ver' et hid
       split at h
       ·rename_i hm
        obtain⟨rfl,rfl,m1,m2,m3⟩:=hm
        cases h
        exact .opApp hw ho' hu q1 hti q2 q3 hv hid m1 hi m2 m3 k
       ·cases h
      ·cases h
     ·cases h
    ·cases h
   ·cases h
  ·cases h
 ·cases h
theorem Qpb {all:Array Oper} {o:Oper} {r:List Oper} {s s1 s2:St} {x y:Operand} {t t2:TypeId} {c:Call} (hw:Ql all o s=some true) (ho:o.op = .call c) (hc:c.callee = .builtin .append)
 (hx:c.args.toList=[x,y]) (ht:c.argTypes.toList=[t,t2]) (h:appZ N s o.dst x y t t2=some s1) (k:Ev N (.ops all r s1 s2)):Ev N (.ops all (o :: r) s s2):=by
 have ho':o.op = .call { callee:=.builtin .append,args:=#[x,y],argTypes:=#[t,t2] }:=by
  rw[ho]
  cases c with
  | mk cal a ty=>
    simp only at hc hx ht
    subst hc
    rw[show a=#[x,y] from Array.toList_inj.1 hx,show ty=#[t,t2] from Array.toList_inj.1 ht]
 unfold appZ at h
 split at h
 ·rename_i e p n c1 q c2 hu h1 h2
  split at h
  ·rename_i ti hti
   split at h
   ·rename_i he
    cases h
    exact .opAppZ hw ho' hu he hti h1 h2 k
   ·cases h
  ·cases h
 ·cases h
theorem Qhl {all:Array Oper} {o:Oper} {r:List Oper} {s s1 s2:St} (hw:Ql all o s=some true) (h:((boxC N s o.op).map fun p=>Qhw s o.dst p.1 p.2 fun a=>.pointer (some a))=some s1) (k:Ev N (.ops all r s1 s2)):Ev N (.ops all (o :: r) s s2):=by
 cases hb:boxC N s o.op with
 | none=>simp [hb] at h
 | some p=>
   simp only[hb,Option.map_some,Option.some.injEq] at h
   subst h
   exact .opBoxH hw hb k
theorem Qdw {s:St} {t:TypeId} {x:Operand} {id:Nat} {es:List (Value×Value)} {kd:Value→Bool} {et:TypeId} (h:mapX N s t x=some (id,es,kd,et)) :
 ∃ kt,N.P.underlying t=some (.map kt et)∧N.keys kt=some kd∧ev s x=some (.map (some id))∧s.h[id]? = some (.map es)∧Zm kd es=true:=by
 unfold mapX at h
 split at h
 ·rename_i kt et' id' hu hx
  split at h
  ·rename_i kd' es' hk hid
   split at h
   ·rename_i hm
    cases h
    exact⟨kt,hu,hk,hx,hid,hm⟩
   ·cases h
  ·cases h
 ·cases h
theorem Qnt (hC:CallOK N call) (hn:NmOK N nm) {all:Array Oper} {o:Oper} {r:List Oper} {s s1 s2:St} (h:Qva N call nm all o s=some s1) (k:Ev N (.ops all r s1 s2)):Ev N (.ops all (o :: r) s s2):=by
 unfold Qva at h
 split at h
 ·cases h
 ·rename_i hw
  cases h
  exact .opSkip hw k
 ·rename_i hw
  split at h
  ·rename_i t x ho
   exact Qhl hw (by rw[ho];exact h) k
  ·rename_i t ho
   exact Qhl hw (by rw[ho];exact h) k
  ·rename_i t l ps ho
   cases hb:bslC N s (.buildSlice t l ps) with
   | none=>simp [hb] at h
   | some p=>
     simp only[hb,Option.map_some,Option.some.injEq] at h
     subst h
     exact .opBslH hw (by rw[ho];exact hb) k
  ·rename_i t l c ho
   cases hb:mkC N s (.makeSlice t l c) with
   | none=>simp [hb] at h
   | some p=>
     simp only[hb,Option.map_some,Option.some.injEq] at h
     subst h
     exact .opMk hw (by rw[ho];exact hb) k
  ·rename_i t a x ho
   split at h
   ·rename_i hd
    unfold stoX at h
    split at h
    ·rename_i ti id off ver v ht ha hx
     split at h
     ·rename_i cells ver' et vs hid hv
      split at h
      ·rename_i hver
       subst hver
       cases hq:Am.wrC cells off vs with
       | none=>simp [hq] at h
       | some cells'=>
         simp only[hq,Option.map_some,Option.some.injEq] at h
         subst h
         exact .opStoH hw ho ht ha hid hx hv hq hd k
      ·cases h
     ·cases h
    ·cases h
   ·cases h
  ·rename_i t x ho
   split at h
   ·rename_i kt et id d hu hx hd
    split at h
    ·rename_i es hid
     cases h
     exact .opRange hw hd ho hu hx hid k
    ·cases h
   ·rename_i b d hu hx hd
    cases h
    exact .opRangeS hw hd ho hu hx k
   ·cases h
  ·rename_i x ho
   split at h
   ·rename_i m n seen hx
    split at h
    ·rename_i es hid
     split at h
     ·rename_i hl
      split at h
      ·rename_i hf
       cases h
       exact .opNext0 hw ho hx hid hl hf k
      ·rename_i i hf
       split at h
       ·rename_i kk vv hkv
        split at h
        ·rename_i hp
         cases h
         exact .opNext1 hw ho hx hid hl hf hkv hp k
        ·cases h
       ·cases h
      ·cases h
     ·cases h
    ·cases h
   ·cases h
  ·rename_i x ho
   split at h
   ·rename_i b p hx
    split at h
    ·rename_i hp
     cases h
     exact .opNextS hw ho hx hp rfl k
    ·rename_i hp
     cases h
     exact .opNextE hw ho hx (by omega) k
   ·cases h
  ·rename_i t ho
   split at h
   ·rename_i kt et hu
    cases h
    exact .opMap hw ho hu k
   ·cases h
  ·rename_i t x i y ho
   split at h
   ·rename_i hd
    unfold updX at h
    split at h
    ·rename_i id es kd et kk v hm hk hv
     split at h
     ·rename_i hkk
      cases h
      obtain⟨kt,hu,hkd,hx,hid,hmk⟩:=Qdw hm
      exact .opUpd hw ho hu hkd hx hid hk hv hkk hmk hd k
     ·cases h
    ·cases h
   ·cases h
  ·rename_i t x i ho
   unfold entX at h
   split at h
   ·rename_i id es kd et kk hm hk
    split at h
    ·rename_i z hz
     split at h
     ·rename_i hkk
      cases h
      obtain⟨kt,hu,hkd,hx,hid,hmk⟩:=Qdw hm
      exact .opEnt hw ho hu hkd hz hx hid hk hkk hmk rfl k
     ·cases h
    ·cases h
   ·cases h
  ·rename_i t x i y ho
   split at h
   ·rename_i hd
    unfold estX at h
    split at h
    ·rename_i id j v hx hi hv
     split at h
     ·rename_i es hid
      split at h
      ·rename_i kk u hj
       cases h
       exact .opEst hw ho hx hid hi hv hj hd k
      ·cases h
     ·cases h
    ·cases h
   ·cases h
  ·rename_i c ho
   split at h
   ·rename_i hc
    split at h
    ·rename_i x y t t2 hx ht
     split at h
     ·rename_i s3 h3
      cases h
      exact Qpb hw ho hc hx ht h3 k
     ·exact Qo2 hw ho hc hx ht h k
    ·cases h
   ·rename_i b hb
    cases hv:vop N s o.op with
    | none=>simp [hv] at h
    | some v=>
      simp only[hv,Option.map_some,Option.some.injEq] at h
      subst h
      exact .opVal hw hv k
   ·split at h
    ·rename_i f cap args hcal hargs
     split at h
     ·rename_i hnm
      split at h
      ·rename_i v h' hcall
       cases h
       obtain⟨⟨fn,h1,h2⟩,h3⟩:=hC _ _ _ _ _ hcall
       exact .opCall hw ho hcal hargs h1 (hn _ _ hnm h1) h2 h3 k
      ·cases h
     ·cases h
    ·cases h
  ·cases hv:vop N s o.op with
   | none=>simp [hv] at h
   | some v=>
     simp only[hv,Option.map_some,Option.some.injEq] at h
     subst h
     exact .opVal hw hv k
theorem Qiw (hC:CallOK N call) (hn:NmOK N nm) {all:Array Oper}:∀ {l:List Oper} {s s1:St},opsX N call nm all l s=some s1→Ev N (.ops all l s s1)
 | [],s,s1,h=>by
   cases h
   exact .nil all s
 | o :: r,s,s1,h=>by
   simp only[opsX] at h
   split at h
   ·rename_i s2 h2
    exact Qnt hC hn h2 (Qiw hC hn h)
   ·cases h
def DrOK (N:Env) (dr:Array Oper→St→Option St):Prop:=∀ id ops s s1,dr ops s=some s1→Ev N (.code (.region id ops true) s .normal s1)
theorem Yh {dr:Array Oper→St→Option St} (hm:DrOK N dr) (hC:CallOK N call) (hn:NmOK N nm):∀ {n:Nat} {c:Code} {s s1:St} {e:AX},Qc4 N call nm dr n c s=some (e,s1)→Ev N (.code c s e s1)∧∀ b,c = .loop b→Ev N (.iter b s e s1)
 | 0,_,_,_,_,h=>by cases h
 | n+1,c,s,s1,e,h=>by
   unfold Qc4 at h
   split at h
   ·cases h;exact⟨.skip _,fun b hb=>by cases hb⟩
   ·cases h;exact⟨.label _ _,fun b hb=>by cases hb⟩
   ·cases h;exact⟨.exit _ _,fun b hb=>by cases hb⟩
   ·cases h;exact⟨.ret _,fun b hb=>by cases hb⟩
   ·refine⟨?_,fun b hb=>by cases hb⟩
    split at h
    ·rename_i s2 h2
     exact .seqN (Yh hm hC hn h2).1 (Yh hm hC hn h).1
    ·rename_i h2
     exact .seqX (Yh hm hC hn h).1 (by rintro rfl;exact h2 _ h)
   ·refine⟨?_,fun b hb=>by cases hb⟩
    split at h
    ·rename_i hc
     exact .cond hc (Yh hm hC hn h).1
    ·rename_i hc
     exact .cond hc (Yh hm hC hn h).1
    ·cases h
   ·refine⟨?_,fun b hb=>by cases hb⟩
    split at h
    ·rename_i e s2 h2
     cases h
     exact .block (Yh hm hC hn h2).1
    ·cases h
   ·exact⟨.scope (Yh hm hC hn h).1,fun b hb=>by cases hb⟩
   ·rename_i c
    have key:Ev N (.iter c s e s1):=by
     split at h
     ·rename_i s2 h2
      exact .iterN (Yh hm hC hn h2).1 ((Yh hm hC hn h).2 _ rfl)
     ·rename_i h2
      exact .iterX (Yh hm hC hn h).1 (by rintro rfl;exact h2 _ h)
    exact⟨.loop key,fun b hb=>by cases hb;exact key⟩
   ·refine⟨?_,fun b hb=>by cases hb⟩
    split at h
    ·rename_i s2 h2
     cases h
     exact .region (Qiw hC hn h2)
    ·cases h
   ·refine⟨?_,fun b hb=>by cases hb⟩
    split at h
    ·rename_i s2 h2
     cases h
     exact hm _ _ _ _ h2
    ·cases h
   ·cases h
theorem Qmj {dr:Array Oper→St→Option St} (hm:DrOK N dr) (hC:CallOK N call) (hn:NmOK N nm) {n:Nat} {c:Code} {s s1:St} {e:AX} (h:Qc4 N call nm dr n c s=some (e,s1)):Ev N (.code c s e s1):=(Yh hm hC hn h).1
end
structure SubS (s0 s:St):Prop where
 h:s0.h=s.h
 f:∀ t,fget s0.fr t = .unk∨fget s.fr t=fget s0.fr t
 e:∀ t p,eget s0.eph t=some p→eget s.eph t=some p
 n:∀ t,fget s0.fr t≠.unk→eget s.eph t=eget s0.eph t
section
variable {N:Env} {s0 s:St}
theorem SubS.fg (H:SubS s0 s) {t:Nat} {sl:Slot} (h:fget s0.fr t=sl) (hn:sl≠.unk):fget s.fr t=sl:=by
 rcases H.f t with h1|h1
 ·exact (hn (h.symm.trans h1)).elim
 ·exact h1.trans h
theorem Qx (H:SubS s0 s) {x:Operand} {v:Value} (h:ev s0 x=some v):ev s x=some v:=by
 cases x with
 | tmp t=>
   simp only[ev] at h ⊢
   split at h
   ·rename_i u hu
    rw[H.fg hu (by simp)]
    exact h
   ·cases h
 | const k=>exact h
 | func f=>exact h
 | global g=>exact h
theorem Qcd (H:SubS s0 s) {x:Operand} {p:Nat×Nat} (h:plc s0 x=some p):plc s x=some p:=by
 cases x with
 | tmp t=>
   simp only[plc] at h ⊢
   split at h
   ·rename_i q hq
    rw[H.e _ _ hq]
    exact h
   ·cases h
   ·rename_i hq
    split at h
    ·rename_i cs hb
     rw[H.n t (by rw[hb];simp),hq,H.fg hb (by simp)]
     exact h
    ·cases h
 | const k=>exact h
 | func f=>exact h
 | global g=>exact h
theorem Qu9 (H:SubS s0 s) {x:Operand} {v:Value} (h:ev s0 x=some v):plc s x=plc s0 x:=by
 cases x with
 | tmp t=>
   simp only[ev] at h
   split at h
   ·rename_i u hu
    simp only[plc,H.n t (by rw[hu];simp),H.fg hu (by simp),hu]
   ·cases h
 | const k=>rfl
 | func f=>rfl
 | global g=>rfl
theorem Qfp (H:SubS s0 s):∀ {l:List Operand} {v:List Value},evs s0 l=some v→evs s l=some v
 | [],_,h=>h
 | x :: r,v,h=>by
   simp only[evs] at h ⊢
   split at h
   ·rename_i a b h1 h2
    rw[Qx H h1,Qfp H h2]
    exact h
   ·cases h
theorem Qc0 (H:SubS s0 s):∀ {l:List (Nat×Operand)} {v:List (Nat×Value)},Qay s0 l=some v→Qay s l=some v
 | [],_,h=>h
 | (i,x) :: r,v,h=>by
   simp only[Qay] at h ⊢
   split at h
   ·rename_i a b h1 h2
    rw[Qx H h1,Qc0 H h2]
    exact h
   ·cases h
theorem Qe5 (H:SubS s0 s) {d:Int} {x:Option Operand} {v:Int} (h:evo s0 d x=some v):evo s d x=some v:=by
 cases x with
 | none=>exact h
 | some x=>
   simp only[evo] at h ⊢
   split at h
   ·rename_i k n h1
    rw[Qx H h1]
    exact h
   ·cases h
theorem Qnw (H:SubS s0 s) {t:Nat} {cs:List Value} (h:fget s0.fr t = .box cs):fget s.fr t = .box cs:=H.fg h (by simp)
theorem Qoj (H:SubS s0 s) {t:TypeId} {a:Operand} {v:Value} (h:Qgk N s0 t a=some v):Qgk N s t a=some v:=by
 unfold Qgk at h ⊢
 split at h
 ·cases h
 ·rename_i ti hti
  split at h
  ·rename_i sl off hp
   rw[Qcd H hp]
   simp only
   split at h
   ·rename_i cs hb
    rw[Qnw H hb]
    exact h
   ·cases h
  ·rename_i hp
   split at h
   ·rename_i ad he
    rw[Qu9 H he,hp,Qx H he,← H.h]
    exact h
   ·cases h
theorem Qg4 (H:SubS s0 s) {t:TypeId} {x:Operand} {f:Nat} {v:Value} (h:Ju N s0 t x f=some v):Ju N s t x f=some v:=by
 unfold Ju at h ⊢
 split at h
 ·rename_i h1 h2
  rw[h1,Qx H h2]
  exact h
 ·cases h
theorem Qg5 (H:SubS s0 s) {t:TypeId} {x i:Operand} {v:Value} (h:Js N s0 t x i=some v):Js N s t x i=some v:=by
 unfold Js at h ⊢
 split at h
 ·rename_i h1 h2 h3
  rw[h1,Qx H h2,Qx H h3]
  exact h
 ·rename_i h1 h2 h3
  rw[h1,Qx H h2,Qx H h3]
  exact h
 ·cases h
theorem Qnk (H:SubS s0 s) {t:TypeId} {x:Operand} {f:Nat} {v:Value} (h:Qej N s0 t x f=some v):Qej N s t x f=some v:=by
 unfold Qej at h ⊢
 split at h
 ·rename_i h1 h2
  rw[h1,Qx H h2]
  exact h
 ·cases h
theorem Qnn (H:SubS s0 s) {t:TypeId} {x i:Operand} {v:Value} (h:Qdg N s0 t x i=some v):Qdg N s t x i=some v:=by
 unfold Qdg at h ⊢
 split at h
 ·rename_i h1 h2 h3
  rw[h1,Qx H h2,Qx H h3]
  exact h
 ·rename_i h1 h2 h3
  rw[h1,Qx H h2,Qx H h3]
  exact h
 ·cases h
theorem Qnj (H:SubS s0 s) {t:TypeId} {x:Operand} {lo hi:Option Operand} {v:Value} (h:Qeh N s0 t x lo hi=some v):Qeh N s t x lo hi=some v:=by
 unfold Qeh at h ⊢
 split at h
 ·rename_i h1 h2
  rw[h1,Qx H h2]
  simp only
  split at h
  ·rename_i h3 h4 h5
   rw[h3,Qe5 H h4,Qe5 H h5,← H.h]
   exact h
  ·cases h
 ·rename_i h1 h2
  rw[h1,Qx H h2]
  simp only
  split at h
  ·rename_i h3 h4
   rw[Qe5 H h3,Qe5 H h4]
   exact h
  ·cases h
 ·cases h
theorem Qmq (H:SubS s0 s) {t:TypeId} {ps:Array (Nat×Operand)} {v:Value} (h:Qel N s0 t ps=some v):Qel N s t ps=some v:=by
 unfold Qel at h ⊢
 split at h
 ·rename_i h1 h2
  rw[h1,Qc0 H h2]
  exact h
 ·cases h
theorem Qi5 (H:SubS s0 s) {b:Builtin} {args:Array Operand} {tys:Array TypeId} {v:Value} (h:Qbr N s0 b args tys=some v):Qbr N s b args tys=some v:=by
 unfold Qbr at h ⊢
 cases he:evs s0 args.toList with
 | none=>rw[he] at h;split at h<;>simp_all
 | some l=>rw[he] at h;rw[Qfp H he];exact h
theorem Qhp (H:SubS s0 s) {c z:Operand} {t want:Bool} {u:Value} (h:Qb7 s0 c t want z=some u):Qb7 s c t want z=some u:=by
 cases z with
 | tmp r=>
   simp only[Qb7] at h ⊢
   split at h
   ·rename_i v hv
    rw[H.fg hv (by simp)]
    exact h
   ·rename_i d w q v hv
    rw[H.fg hv (by simp)]
    exact h
   ·cases h
 | const k=>exact h
 | func f=>exact h
 | global g=>exact h
theorem Qnz {c z:Operand} {t want:Bool} {u:Value} (h:ev s z=some u):Qb7 s c t want z=some u:=by
 cases z with
 | tmp r=>
   simp only[ev] at h
   split at h
   ·rename_i v hv
    simp only[Qb7,hv]
    exact h
   ·cases h
 | const k=>exact h
 | func f=>exact h
 | global g=>exact h
theorem Qn1 (H:SubS s0 s) {c x y:Operand} {t:Bool} {v:Value} (h:Qih s0 c t x y=some v):Qih s c t x y=some v:=by
 unfold Qih at h ⊢
 split at h
 ·rename_i a b h1 h2
  rw[Qhp H h1,Qhp H h2]
  exact h
 ·cases t with
  | true=>
    simp only at h
    have h1:=Qx H h
    rw[Qnz (c:=c) (t:=true) (want:=true) h1]
    split
    ·rename_i a b h2 h3
     cases h2
     rfl
    ·exact h1
  | false=>
    simp only at h
    have h1:=Qx H h
    rw[Qnz (c:=c) (t:=false) (want:=false) h1]
    split
    ·rename_i a b h2 h3
     cases h3
     rfl
    ·exact h1
theorem Qoq (H:SubS s0 s) {m:Value}:Qi2 s m=Qi2 s0 m:=by
 unfold Qi2
 rw[H.h]
theorem Qn8 (H:SubS s0 s) {t:TypeId} {x i:Operand} {ok:Bool} {v:Value} (h:Qim N s0 t x i ok=some v):Qim N s t x i ok=some v:=by
 unfold Qim at h ⊢
 split at h
 ·rename_i h1 h2 h3
  rw[h1,Qx H h2,Qx H h3]
  simp only[Qoq H]
  exact h
 ·cases h
theorem Qq7 (H:SubS s0 s) {x:Operand} {v:Value} (h:entV s0 x=some v):entV s x=some v:=by
 unfold entV at h ⊢
 split at h
 ·split at h
  ·rename_i h1
   simp only[H.fg h1 (by simp),← H.h]
   exact h
  ·cases h
 ·cases h
theorem Qsz (H:SubS s0 s) {o:Op} {v:Value} (h:vop N s0 o=some v):vop N s o=some v:=by
 unfold vop at h ⊢
 split at h
 ·exact Qx H h
 ·exact Qx H h
 ·split at h
  ·rename_i t hc
   simp only[Qx H hc]
   exact Qn1 H h
  ·cases h
 ·exact Qmq H h
 ·exact Qoj H h
 ·split at h
  ·rename_i h1 h2
   simp only[Qx H h1,Qx H h2]
   exact h
  ·cases h
 ·split at h
  ·rename_i h1
   simp only[Qx H h1]
   exact h
  ·cases h
 ·split at h
  ·rename_i h1
   simp only[Qx H h1,← H.h]
   exact h
  ·cases h
 ·exact Qg4 H h
 ·exact Qg5 H h
 ·exact Qnk H h
 ·exact Qnn H h
 ·exact Qnj H h
 ·exact Qn8 H h
 ·split at h
  ·rename_i h1
   simp only[Qx H h1]
   exact h
  ·cases h
 ·split at h
  ·rename_i h1
   cases he:evs s0 _ with
   | none=>rw[he] at h;cases h
   | some l=>
     rw[he] at h
     simp only[h1,if_true,Qfp H he]
     exact h
  ·cases h
 ·split at h
  ·rename_i b hb
   try simp only[hb]
   exact Qi5 H h
  ·cases h
 ·split at h
  ·rename_i h1
   simp only[Qx H h1]
   exact h
  ·rename_i h1
   simp only[Qx H h1]
   exact h
  ·cases h
 ·exact Qq7 H h
 ·cases h
theorem Qu6 (H:SubS s0 s) {o:Op} {p:Nat×Nat} (h:epl N s0 o=some p):epl N s o=some p:=by
 unfold epl at h ⊢
 split at h
 ·split at h
  ·rename_i h1 h2
   simp only[h1,Qcd H h2]
   exact h
  ·cases h
 ·split at h
  ·rename_i h1 h2 h3
   simp only[h1,Qcd H h2,Qx H h3]
   exact h
  ·cases h
 ·exact Qcd H h
 ·exact Qcd H h
 ·cases h
theorem Qz (H:SubS s0 s) {all:Array Oper} {o:Oper} {b:Bool} (h:Ql all o s0=some b):Ql all o s=some b:=by
 unfold Ql at h ⊢
 split at h
 ·rename_i hg
  try simp only[hg]
  exact h
 ·rename_i j want hg
  try simp only[hg]
  split at h
  ·rename_i hj
   try simp only[hj]
   exact h
  ·rename_i q hj
   try simp only[hj]
   split at h
   ·rename_i hd
    try simp only[hd]
    exact h
   ·rename_i d hd
    try simp only[hd]
    split at h
    ·rename_i c hc
     rw[H.fg hc (by simp)]
     exact h
    ·rename_i c hc
     rw[H.fg hc (by simp)]
     exact h
    ·cases h
theorem Qkc (H:SubS s0 s) {o:Op} {p:TypeId×List Value} (h:boxC N s0 o=some p):boxC N s o=some p:=by
 unfold boxC at h ⊢
 split at h
 ·exact h
 ·split at h
  ·rename_i h1 h2
   simp only[h1,Qx H h2]
   exact h
  ·cases h
 ·cases h
theorem Qjf (H:SubS s0 s) {o:Op} {p:TypeId×List Value×Nat} (h:bslC N s0 o=some p):bslC N s o=some p:=by
 unfold bslC at h ⊢
 split at h
 ·split at h
  ·rename_i h0
   try simp only[h0]
   split at h
   ·rename_i h1 h2
    simp only[h1,Qc0 H h2]
    exact h
   ·cases h
  ·cases h
 ·cases h
theorem Qmz (H:SubS s0 s) {o:Op} {p:TypeId×List Value×Nat} (h:mkC N s0 o=some p):mkC N s o=some p:=by
 unfold mkC at h ⊢
 split at h
 ·split at h
  ·rename_i h0 h1 h2
   simp only[h0,Qx H h1,Qx H h2]
   exact h
  ·cases h
 ·cases h
theorem Qgz (H:SubS s0 s) {h0:Heap} {sz:Nat} {y:Operand} {p:List Value×Nat} (h:Xz s0 h0 sz y=some p):Xz s h0 sz y=some p:=by
 unfold Xz at h ⊢
 split at h
 ·split at h
  ·rename_i hb
   simp only[H.fg hb (by simp)]
   exact h
  ·rename_i hb
   simp only[H.fg hb (by simp)]
   exact h
  ·cases h
 ·cases h
theorem Qkm (H:SubS s0 s) {c:Callee} {p:FuncId×List Value} (h:Ji s0 c=some p):Ji s c=some p:=by
 unfold Ji at h ⊢
 split at h
 ·split at h
  ·rename_i h1
   simp only[Qx H h1]
   exact h
  ·cases h
 ·cases h
inductive Res where
 | sl (v:Slot)
 | ep (sl off:Nat)
def updR (s:St) (d:Option Nat) (r:Res) (h:Heap):St:=
 match d,r with
 | some d,.sl v=>⟨fput s.fr d v,Zt s.eph d,h⟩
 | some d,.ep sl off=>⟨fput s.fr d .unk,(d,([],(sl,off))) :: Zt s.eph d,h⟩
 | none,_=>⟨s.fr,s.eph,h⟩
inductive One (N:Env) (all:Array Oper) (o:Oper) (s:St):Res→Heap→Prop
 | skip:Ql all o s=some false→One N all o s (.sl (.val (.tuple #[]))) s.h
 | val {v:Value}:Ql all o s=some true→vop N s o.op=some v→One N all o s (.sl (.val v)) s.h
 | eph {d sl off:Nat}:Ql all o s=some true→o.dst=some d→epl N s o.op=some (sl,off)→sl≠d→One N all o s (.ep sl off) s.h
 | bsl {d n:Nat} {t:TypeId} {cs:List Value}:Ql all o s=some true→o.dst=some d→bslC N s o.op=some (t,cs,n)→One N all o s (.sl (.bsl cs n)) s.h
 | box {d:Nat} {t:TypeId} {cs:List Value}:Ql all o s=some true→o.dst=some d→boxC N s o.op=some (t,cs)→One N all o s (.sl (.box cs)) s.h
 | mkP {d n:Nat} {t:TypeId} {cs:List Value}:Ql all o s=some true→o.dst=some d→mkC N s o.op=some (t,cs,n)→One N all o s (.sl (.prv (.arr cs 0 true t) n)) s.h
 | mapP {d:Nat} {t kt et:TypeId}:Ql all o s=some true→o.dst=some d→o.op = .makeMap t none→N.P.underlying t=some (.map kt et)→One N all o s (.sl (.prv (.map []) 0)) s.h
 | rng {d id:Nat} {t kt et:TypeId} {x:Operand} {es:List (Value×Value)}:Ql all o s=some true→o.dst=some d→o.op = .range t x→N.P.underlying t=some (.map kt et)→ev s x=some (.map (some id))→s.h[id]? = some (.map es)→One N all o s (.sl (.itr id es.length [])) s.h
 | rngS {d:Nat} {t:TypeId} {x:Operand} {b:ByteArray}:Ql all o s=some true→o.dst=some d→o.op = .range t x→N.P.underlying t=some .string→ev s x=some (.string b)→One N all o s (.sl (.sit b 0)) s.h
 | boxH {t:TypeId} {cs:List Value}:Ql all o s=some true→boxC N s o.op=some (t,cs)→One N all o s (.sl (.val (.pointer (some ⟨s.h.length,0,some 0⟩)))) (s.h++[HObj.arr cs 0 true t])
 | bslH {n:Nat} {t:TypeId} {cs:List Value}:Ql all o s=some true→bslC N s o.op=some (t,cs,n)→One N all o s (.sl (.val (.slice (some ⟨s.h.length,0,some 0⟩) n n))) (s.h++[HObj.arr cs 0 true t])
 | mk {n:Nat} {t:TypeId} {cs:List Value}:Ql all o s=some true→mkC N s o.op=some (t,cs,n)→One N all o s (.sl (.val (.slice (some ⟨s.h.length,0,some 0⟩) n n))) (s.h++[HObj.arr cs 0 true t])
 | stoH {t et:TypeId} {a x:Operand} {ti:TI} {id off ver:Nat} {cells vs cells':List Value} {v:Value} {r:Res}:Ql all o s=some true →
  o.op = .store t a x→Qf N.P t=some ti→ev s a=some (.pointer (some ⟨id,off,some ver⟩))→s.h[id]? = some (.arr cells ver true et)→ev s x=some v→Zg ti.size v=some vs →
  wrC cells off vs=some cells'→o.dst=none→One N all o s r (s.h.set id (HObj.arr cells' ver true et))
 | map {t kt et:TypeId}:Ql all o s=some true→o.op = .makeMap t none→N.P.underlying t=some (.map kt et)→One N all o s (.sl (.val (.map (some s.h.length)))) (s.h++[HObj.map []])
 | upd {t kt et:TypeId} {x i y:Operand} {id:Nat} {es:List (Value×Value)} {kd:Value→Bool} {k v:Value} {r:Res}:Ql all o s=some true →
  o.op = .mapUpdate t x i y→N.P.underlying t=some (.map kt et)→N.keys kt=some kd→ev s x=some (.map (some id))→s.h[id]? = some (.map es)→ev s i=some k→ev s y=some v→kd k=true→Zm kd es=true→o.dst=none →
  One N all o s r (s.h.set id (HObj.map (mput es k v)))
 | ent {t kt et:TypeId} {x i:Operand} {id j:Nat} {es es':List (Value×Value)} {kd:Value→Bool} {k z v:Value}:Ql all o s=some true →
  o.op = .mapEntry t x i→N.P.underlying t=some (.map kt et)→N.keys kt=some kd→Qb4 N.P et=some z→ev s x=some (.map (some id))→s.h[id]? = some (.map es)→ev s i=some k→kd k=true→Zm kd es=true→ment es k z=(v,j,es') →
  One N all o s (.sl (.val (.tuple #[v,.int .i64 j]))) (s.h.set id (HObj.map es'))
 | est {t:TypeId} {x y i:Operand} {id j:Nat} {es:List (Value×Value)} {k u v:Value} {r:Res}:Ql all o s=some true →
  o.op = .entryStore t x i y→ev s x=some (.map (some id))→s.h[id]? = some (.map es)→ev s i=some (.int .i64 j)→ev s y=some v→es[j]? = some (k,u)→o.dst=none →
  One N all o s r (s.h.set id (HObj.map (es.set j (k,v))))
 | app0 {x y:Operand} {t t2 e:TypeId} {ti:TI} {cs:List Value} {m:Nat}:Ql all o s=some true →
  o.op = .call { callee:=.builtin .append,args:=#[x,y],argTypes:=#[t,t2] }→N.P.underlying t=some (.slice e)→t2=t→Qf N.P e=some ti→0<ti.size →
  (ti.zero.map fun z=>z.cells.size)=some ti.size→ev s x=some (.slice none 0 0)→Xz s s.h ti.size y=some (cs,m)→0<m→m*ti.bytes≤140737488355328→m≤140737488355328 →
  One N all o s (.sl (.val (.slice (some ⟨s.h.length,0,some 0⟩) m m))) (s.h++[HObj.arr cs 0 true e])
 | app {x y:Operand} {t t2 e:TypeId} {ti:TI} {cs cells:List Value} {m n c id ver:Nat}:Ql all o s=some true →
  o.op = .call { callee:=.builtin .append,args:=#[x,y],argTypes:=#[t,t2] }→N.P.underlying t=some (.slice e)→t2=t→Qf N.P e=some ti→0<ti.size →
  (ti.zero.map fun z=>z.cells.size)=some ti.size→ev s x=some (.slice (some ⟨id,0,some ver⟩) n c)→s.h[id]? = some (.arr cells ver true e)→n*ti.size≤cells.length →
  Xz s s.h ti.size y=some (cs,m)→(n+m)*ti.bytes≤140737488355328→n+m≤140737488355328 →
  One N all o s (.sl (.val (.slice (some ⟨id,0,some (ver+1)⟩) (n+m) (n+m)))) (s.h.set id (HObj.arr (cells.take (n*ti.size)++cs) (ver+1) true e))
 | appS0 {x y:Operand} {t t2 e:TypeId} {ti:TI} {b:ByteArray}:Ql all o s=some true →
  o.op = .call { callee:=.builtin .append,args:=#[x,y],argTypes:=#[t,t2] }→N.P.underlying t=some (.slice e)→N.P.underlying t2=some .string→Qf N.P e=some ti→ti.size=1→ti.bytes=1→ti.zero=some (.int .u8 0) →
  ev s x=some (.slice none 0 0)→ev s y=some (.string b)→0<b.size→b.size≤140737488355328 →
  One N all o s (.sl (.val (.slice (some ⟨s.h.length,0,some 0⟩) b.size b.size))) (s.h++[HObj.arr (Xn b) 0 true e])
 | appS {x y:Operand} {t t2 e:TypeId} {ti:TI} {cells:List Value} {n c id ver:Nat} {b:ByteArray}:Ql all o s=some true →
  o.op = .call { callee:=.builtin .append,args:=#[x,y],argTypes:=#[t,t2] }→N.P.underlying t=some (.slice e)→N.P.underlying t2=some .string→Qf N.P e=some ti→ti.size=1→ti.bytes=1→ti.zero=some (.int .u8 0) →
  ev s x=some (.slice (some ⟨id,0,some ver⟩) n c)→s.h[id]? = some (.arr cells ver true e)→n≤cells.length→ev s y=some (.string b)→n+b.size≤140737488355328 →
  One N all o s (.sl (.val (.slice (some ⟨id,0,some (ver+1)⟩) (n+b.size) (n+b.size)))) (s.h.set id (HObj.arr (cells.take n++Xn b) (ver+1) true e))
 | stB {t t2 e:TypeId} {ti:TI} {x:Operand} {b:ByteArray}:Ql all o s=some true→o.op = .convert t t2 x→N.P.underlying t=some .string→N.P.underlying t2=some (.slice e)→N.P.underlying e=some (.int .u8) →
  Qf N.P e=some ti→ti.size=1→ev s x=some (.string b)→b.size≤140737488355328 →
  One N all o s (.sl (.val (.slice (some ⟨s.h.length,0,some 0⟩) b.size b.size))) (s.h++[HObj.arr (Xn b) 0 false e])
 | ustr {t t2 e:TypeId} {ti:TI} {x y:Operand} {b:ByteArray} {id ver:Nat} {cells:List Value}:Ql all o s=some true→o.op = .call { callee:=.builtin .unsafeString,args:=#[x,y],argTypes:=#[t,t2] } →
  N.P.underlying t=some (.pointer e)→Qf N.P e=some ti→ti.size=1→ev s x=some (.pointer (some ⟨id,0,some ver⟩))→s.h[id]? = some (.arr cells ver true e)→ev s y=some (.int .i64 b.size)→0<b.size→b.size≤140737488355328→cells.take b.size=Xn b →
  One N all o s (.sl (.val (.string b))) (s.h.set id (HObj.arr cells ver false e))
 | call {c:Call} {f:FuncId} {cap args:List Value} {fn:Func} {v:Value} {h':Heap}:Ql all o s=some true →
  o.op = .call c→Ji s c.callee=some (f,cap)→evs s c.args.toList=some args→N.P.funcs[f]? = some fn→(fn.name == "runtime.NumGoroutine")=false→fn.body.isNone=false →
  Ev N (.call f (args++cap) s.h v h')→One N all o s (.sl (.val v)) h'
theorem Yz {d:Option Nat} {v:Value} {h:Heap}:({ s with h:=h }).putO d (.val v)=updR s d (.sl (.val v)) h:=by
 cases d<;>rfl
theorem One.ev {all:Array Oper} {o:Oper} {r:Res} {h':Heap} (k:One N all o s r h'):Ev N (.ops all [o] s (updR s o.dst r h')):=by
 cases k with
 | skip hw=>exact .opSkip hw (by rw[← Yz];exact .nil _ _)
 | val hw hv=>exact .opVal hw hv (by rw[← Yz];exact .nil _ _)
 | eph hw hd he hne=>exact .opEph hw hd he hne (by rw[hd];exact .nil _ _)
 | bsl hw hd hb=>exact .opBsl hw hd hb (by rw[hd];exact .nil _ _)
 | box hw hd hb=>exact .opBox hw hd hb (by rw[hd];exact .nil _ _)
 | mkP hw hd hb=>exact .opMkP hw hd hb (by rw[hd];exact .nil _ _)
 | mapP hw hd ho hu=>exact .opMapP hw hd ho hu (by rw[hd];exact .nil _ _)
 | rng hw hd ho hu hx hid=>exact .opRange hw hd ho hu hx hid (by rw[hd];exact .nil _ _)
 | rngS hw hd ho hu hx=>exact .opRangeS hw hd ho hu hx (by rw[hd];exact .nil _ _)
 | boxH hw hb=>exact .opBoxH hw hb (by rw[← Yz];exact .nil _ _)
 | bslH hw hb=>exact .opBslH hw hb (by rw[← Yz];exact .nil _ _)
 | mk hw hb=>exact .opMk hw hb (by rw[← Yz];exact .nil _ _)
 | stoH hw ho ht ha hid hx hv hq hd=>exact .opStoH hw ho ht ha hid hx hv hq hd (by rw[hd];exact .nil _ _)
 | map hw ho hu=>exact .opMap hw ho hu (by rw[← Yz];exact .nil _ _)
 | upd hw ho hu hkd hx hid hk hv hkk hmk hd=>exact .opUpd hw ho hu hkd hx hid hk hv hkk hmk hd (by rw[hd];exact .nil _ _)
 | ent hw ho hu hkd hz hx hid hk hkk hmk hm=>exact .opEnt hw ho hu hkd hz hx hid hk hkk hmk hm (by rw[← Yz];exact .nil _ _)
 | est hw ho hx hid hi hv hj hd=>exact .opEst hw ho hx hid hi hv hj hd (by rw[hd];exact .nil _ _)
 | app0 hw ho hu h2 ht h3 h4 hx hi h5 h6 h7=>exact .opApp0 hw ho hu h2 ht h3 h4 hx hi h5 h6 h7 (by rw[← Yz];exact .nil _ _)
 | app hw ho hu h2 ht h3 h4 hx hid h8 hi h5 h6=>exact .opApp hw ho hu h2 ht h3 h4 hx hid h8 hi h5 h6 (by rw[← Yz];exact .nil _ _)
 | appS0 hw ho hu h2 ht h3 h4 h5 hx hy h6 h7=>exact .opAppS0 hw ho hu h2 ht h3 h4 h5 hx hy h6 h7 (by rw[← Yz];exact .nil _ _)
 | appS hw ho hu h2 ht h3 h4 h5 hx hid h8 hy h6=>exact .opAppS hw ho hu h2 ht h3 h4 h5 hx hid h8 hy h6 (by rw[← Yz];exact .nil _ _)
 | stB hw ho hu h2 h3 ht h4 hx h5=>exact .opStB hw ho hu h2 h3 ht h4 hx h5 (by rw[← Yz];exact .nil _ _)
 | ustr hw ho hu ht h1 hx hid hy h2 h3 h4=>exact .opUStr hw ho hu ht h1 hx hid hy h2 h3 h4 (by rw[← Yz];exact .nil _ _)
 | call hw ho hc ha hf hn hb he=>exact .opCall hw ho hc ha hf hn hb he (by rw[← Yz];exact .nil _ _)
theorem One.mono (H:SubS s0 s) {all:Array Oper} {o:Oper} {r:Res} {h':Heap} (k:One N all o s0 r h'):One N all o s r h':=by
 have e:=H.h
 cases k with
 | skip hw=>rw[e];exact .skip (Qz H hw)
 | val hw hv=>rw[e];exact .val (Qz H hw) (Qsz H hv)
 | eph hw hd he hne=>rw[e];exact .eph (Qz H hw) hd (Qu6 H he) hne
 | bsl hw hd hb=>rw[e];exact .bsl (Qz H hw) hd (Qjf H hb)
 | box hw hd hb=>rw[e];exact .box (Qz H hw) hd (Qkc H hb)
 | mkP hw hd hb=>rw[e];exact .mkP (Qz H hw) hd (Qmz H hb)
 | mapP hw hd ho hu=>rw[e];exact .mapP (Qz H hw) hd ho hu
 | rng hw hd ho hu hx hid=>rw[e] at hid ⊢;exact .rng (Qz H hw) hd ho hu (Qx H hx) hid
 | rngS hw hd ho hu hx=>rw[e];exact .rngS (Qz H hw) hd ho hu (Qx H hx)
 | boxH hw hb=>rw[e];exact .boxH (Qz H hw) (Qkc H hb)
 | bslH hw hb=>rw[e];exact .bslH (Qz H hw) (Qjf H hb)
 | mk hw hb=>rw[e];exact .mk (Qz H hw) (Qmz H hb)
 | stoH hw ho ht ha hid hx hv hq hd=>rw[e] at hid ⊢;exact .stoH (Qz H hw) ho ht (Qx H ha) hid (Qx H hx) hv hq hd
 | map hw ho hu=>rw[e];exact .map (Qz H hw) ho hu
 | upd hw ho hu hkd hx hid hk hv hkk hmk hd=>rw[e] at hid ⊢;exact .upd (Qz H hw) ho hu hkd (Qx H hx) hid (Qx H hk) (Qx H hv) hkk hmk hd
 | ent hw ho hu hkd hz hx hid hk hkk hmk hm=>rw[e] at hid ⊢;exact .ent (Qz H hw) ho hu hkd hz (Qx H hx) hid (Qx H hk) hkk hmk hm
 | est hw ho hx hid hi hv hj hd=>rw[e] at hid ⊢;exact .est (Qz H hw) ho (Qx H hx) hid (Qx H hi) (Qx H hv) hj hd
 | app0 hw ho hu h2 ht h3 h4 hx hi h5 h6 h7=>rw[e] at hi ⊢;exact .app0 (Qz H hw) ho hu h2 ht h3 h4 (Qx H hx) (Qgz H hi) h5 h6 h7
 | app hw ho hu h2 ht h3 h4 hx hid h8 hi h5 h6=>rw[e] at hi hid ⊢;exact .app (Qz H hw) ho hu h2 ht h3 h4 (Qx H hx) hid h8 (Qgz H hi) h5 h6
 | appS0 hw ho hu h2 ht h3 h4 h5 hx hy h6 h7=>rw[e];exact .appS0 (Qz H hw) ho hu h2 ht h3 h4 h5 (Qx H hx) (Qx H hy) h6 h7
 | appS hw ho hu h2 ht h3 h4 h5 hx hid h8 hy h6=>rw[e] at hid ⊢;exact .appS (Qz H hw) ho hu h2 ht h3 h4 h5 (Qx H hx) hid h8 (Qx H hy) h6
 | stB hw ho hu h2 h3 ht h4 hx h5=>rw[e];exact .stB (Qz H hw) ho hu h2 h3 ht h4 (Qx H hx) h5
 | ustr hw ho hu ht h1 hx hid hy h2 h3 h4=>rw[e] at hid ⊢;exact .ustr (Qz H hw) ho hu ht h1 (Qx H hx) hid (Qx H hy) h2 h3 h4
 | call hw ho hc ha hf hn hb he=>exact .call (Qz H hw) ho (Qkm H hc) (Qfp H ha) hf hn hb (e▸he)
end
def Xr (ops:Array Oper) (j:Nat):Option Nat:=match ops[j]? with|some o=>o.dst|none=>none
def ancs (L:List (List Nat)) (i:Nat):List Nat:=(L[i]?).getD []
def Qpl (ops:Array Oper):List (List Nat):=
 ops.toList.foldl (fun L o=>L++[(o.after.toList.foldl (fun acc e=>if Region.binds .any e then (e.on :: ancs L e.on).foldl (fun acc j=>if acc.contains j then acc else j :: acc) acc else acc) [])]) []
def ordB (ops:Array Oper) (L:List (List Nat)) (act:List Nat):Bool:=
 ((List.range ops.size).all fun i=>match ops[i]? with
   | some o=>(o.after.toList.all fun e=>!Region.binds .any e||decide (e.on<i))&&((ancs L i).all fun j=>o.after.toList.any fun e=>Region.binds .any e&&(decide (e.on=j)||(ancs L e.on).contains j))
   | none=>true) &&
 ((List.range ops.size).all fun i=>(List.range i).all fun j=>match Xr ops i,Xr ops j with
   | some d,some d'=>!decide (d=d')
   | _,_=>true) &&
 ((List.range act.length).all fun j=>(List.range j).all fun i=>(ancs L (act.getD j 0)).contains (act.getD i 0))
def Qap (L:List (List Nat)) (act:List Nat) (i k:Nat):Bool:=
 (List.range act.length).all fun j=>(!(ancs L i).contains (act.getD j 0)||decide (j<k))&&(!(ancs L (act.getD j 0)).contains i||decide (k≤j))&&(!decide (act.getD j 0=i)||decide (k=j))
section
variable {N:Env} {ops:Array Oper} {L:List (List Nat)} {act:List Nat} {s0:St} {res:Nat→Res} {Hs:Nat→Heap}
structure Cert (ops:Array Oper) (L:List (List Nat)) (act:List Nat):Prop where
 low:∀ i o,ops[i]? = some o→∀ e∈o.after,Region.binds .any e=true→e.on<i
 anc:∀ i j,j∈ancs L i→i<ops.size→∃ o,ops[i]? = some o∧∃ e∈o.after,Region.binds .any e=true∧(e.on=j∨j∈ancs L e.on)
 dst:∀ i j d,Xr ops i=some d→Xr ops j=some d→i=j
 act:∀ i j,i<j→j<act.length→act.getD i 0∈ancs L (act.getD j 0)
theorem Qiy {j d:Nat} (h:Xr ops j=some d):j<ops.size:=by
 unfold Xr at h
 split at h
 ·rename_i o ho
  exact (Array.getElem?_eq_some_iff.1 ho).1
 ·cases h
theorem Qjl (h:ordB ops L act=true):Cert ops L act:=by
 unfold ordB at h
 simp only[Bool.and_eq_true,List.all_eq_true,List.mem_range] at h
 obtain⟨⟨h1,h2⟩,h3⟩:=h
 have hd:∀ i j d,j<i→Xr ops i=some d→Xr ops j=some d→False:=fun i j d hij hi hj=>by
  have:=h2 i (Qiy hi) j hij
  rw[hi,hj] at this
  simp at this
 refine⟨fun i o ho e he hb=>?_,fun i j hj hi=>?_,fun i j d hi hj=>?_,fun i j hij hj=>?_⟩
 ·have:=h1 i (Array.getElem?_eq_some_iff.1 ho).1
  rw[ho] at this
  simp only[Bool.and_eq_true,List.all_eq_true] at this
  have:=this.1 e (by simpa using he)
  simpa [hb] using this
 ·have:=h1 i hi
  rw[Array.getElem?_eq_getElem hi] at this ⊢
  simp only[Bool.and_eq_true,List.all_eq_true,List.any_eq_true,Bool.or_eq_true,decide_eq_true_eq,List.contains_iff_mem] at this
  obtain⟨e,he,hb,hc⟩:=this.2 j hj
  exact⟨_,rfl,e,by simpa using he,hb,hc⟩
 ·rcases Nat.lt_trichotomy i j with h|h|h
  ·exact (hd j i d h hj hi).elim
  ·exact h
  ·exact (hd i j d h hi hj).elim
 ·exact List.contains_iff_mem.1 (h3 j hj i hij)
structure OInv (N:Env) (ops:Array Oper) (act:List Nat) (s0:St) (res:Nat→Res) (Hs:Nat→Heap) (S:Array Bool) (t:St):Prop where
 size:S.size=ops.size
 closed:∀ j o,ops[j]? = some o→S.getD j false=true→∀ e∈o.after,Region.binds .any e=true→S.getD e.on false=true
 pre:∃ k,k≤act.length∧t.h=Hs k∧∀ j,j<act.length→(S.getD (act.getD j 0) false=true↔j<k)
 out:∀ x,(∀ j,Xr ops j≠some x)→fget t.fr x=fget s0.fr x∧eget t.eph x=none
 gotS:∀ j d v,Xr ops j=some d→S.getD j false=true→res j = .sl v→fget t.fr d=v∧eget t.eph d=none
 gotE:∀ j d sl off,Xr ops j=some d→S.getD j false=true→res j = .ep sl off→eget t.eph d=some ([],(sl,off))
 tgt:∀ q∈t.eph,∀ j,Xr ops j≠some q.2.2.1
theorem Qeg (C:Cert ops L act) {S:Array Bool} (hsz:S.size=ops.size) (hcl:∀ j o,ops[j]? = some o→S.getD j false=true→∀ e∈o.after,Region.binds .any e=true→S.getD e.on false=true) :
 ∀ (i j:Nat),i<ops.size→(∀ o,ops[i]? = some o→∀ e∈o.after,Region.binds .any e=true→S.getD e.on false=true)→j∈ancs L i→S.getD j false=true:=by
 intro i
 induction i using Nat.strongRecOn with
 | _ i ih=>
   intro j hi hr hj
   obtain⟨o,ho,e,he,hb,h⟩:=C.anc i j hj hi
   have h1:=hr o ho e he hb
   rcases h with rfl|h
   ·exact h1
   ·have hlt:=C.low i o ho e he hb
    exact ih e.on hlt j (by omega) (fun o' ho' e' he' hb'=>hcl e.on o' ho' h1 e' he' hb') h
theorem Jp:∀ (e:Eph) (d:Nat),eget (Zt e d) d=none
 | [],d=>rfl
 | (k,(g,(s,o))) :: r,d=>by
   simp only[Zt]
   split
   ·exact Jp r d
   ·split
    ·exact Jp r d
    ·rename_i h _
     simp only[eget,if_neg h]
     exact Jp r d
theorem Jr:∀ {e:Eph} {d x:Nat},(∀ q∈e,q.2.2.1≠d)→x≠d→eget (Zt e d) x=eget e x
 | [],d,x,_,_=>rfl
 | (k,(g,(s,o))) :: r,d,x,h,hx=>by
   have hr:=Jr (e:=r) (d:=d) (x:=x) (fun q hq=>h q (List.mem_cons_of_mem _ hq)) hx
   have hs:s≠d:=h (k,(g,(s,o))) List.mem_cons_self
   simp only[Zt]
   split
   ·rename_i hk
    simp only[eget]
    rw[if_neg (by omega)]
    exact hr
   ·try rw[if_neg hs]
    simp only[eget]
    split
    ·rfl
    ·exact hr
theorem Qb8 {q:Nat×(List Key×(Nat×Nat))} {d:Nat}:∀ {e:Eph},q∈Zt e d→q∈e
 | [],h=>h
 | (k,(g,(s,o))) :: r,h=>by
   simp only[Zt] at h
   split at h
   ·exact List.mem_cons_of_mem _ (Qb8 h)
   ·split at h
    ·exact List.mem_cons_of_mem _ (Qb8 h)
    ·rcases List.mem_cons.1 h with h|h
     ·exact h▸List.mem_cons_self
     ·exact List.mem_cons_of_mem _ (Qb8 h)
structure View (ops:Array Oper) (L:List (List Nat)) (s0:St) (res:Nat→Res) (i:Nat) (V:St):Prop where
 f:∀ x,fget V.fr x = .unk∨((∀ j,Xr ops j≠some x)∧fget s0.fr x=fget V.fr x)∨∃ j,Xr ops j=some x∧j∈ancs L i∧res j = .sl (fget V.fr x)
 e:∀ x p,eget V.eph x=some p→∃ j sl off,Xr ops j=some x∧j∈ancs L i∧res j = .ep sl off∧p=([],(sl,off))
 n:∀ x,fget V.fr x≠.unk→eget V.eph x=none
theorem View.sub (C:Cert ops L act) {S:Array Bool} {t V:St} {i:Nat} (I:OInv N ops act s0 res Hs S t) (hi:i<ops.size) (hr:∀ o,ops[i]? = some o→∀ e∈o.after,Region.binds .any e=true→S.getD e.on false=true)
 (hV:View ops L s0 res i V) (hh:V.h=t.h):SubS V t:=by
 have hin:∀ j,j∈ancs L i→S.getD j false=true:=fun j hj=>Qeg C I.size I.closed i j hi hr hj
 refine⟨hh,fun x=>?_,fun x p hp=>?_,fun x hx=>?_⟩
 ·rcases hV.f x with h|⟨h,h2⟩ | ⟨j,h,h2,h3⟩
  ·exact .inl h
  ·exact .inr ((I.out x h).1.trans h2)
  ·exact .inr (I.gotS j x _ h (hin j h2) h3).1
 ·obtain⟨j,sl,off,h,h2,h3,rfl⟩:=hV.e x p hp
  exact I.gotE j x sl off h (hin j h2) h3
 ·rw[hV.n x hx]
  rcases hV.f x with h|⟨h,h2⟩ | ⟨j,h,h2,h3⟩
  ·exact (hx h).elim
  ·exact (I.out x h).2
  ·exact (I.gotS j x _ h (hin j h2) h3).2
theorem Qae {S:Array Bool} {i j:Nat} (hi:i<S.size):((S.setIfInBounds i true).getD j false=true)↔(j=i∨S.getD j false=true):=by
 by_cases h:i=j
 ·subst h
  simp [hi]
 ·rw[getD_set_ne false h]
  exact⟨.inr,fun h'=>h'.resolve_left fun e=>h e.symm⟩
theorem OInv.step (C:Cert ops L act) (hT:∀ j sl off,res j = .ep sl off→∀ i,Xr ops i≠some sl)
 {S:Array Bool} {t:St} {i:Nat} {o:Oper} (hstep:∀ o k,ops[i]? = some o→k≤act.length→Qap L act i k=true→∃ V,View ops L s0 res i V∧V.h=Hs k∧One N ops o V (res i) (Hs (if i∈act then k+1 else k)))
 (I:OInv N ops act s0 res Hs S t) (hi:i∈Region.ready .any ops S) (ho:ops[i]? = some o) :
 ∃ s',Ev N (.ops ops [o] t s')∧OInv N ops act s0 res Hs (S.setIfInBounds i true) s':=by
 obtain⟨hun,oi,hoi,hall⟩:=mem_ready.1 hi
 obtain rfl:oi=o:=Option.some.inj (hoi.symm.trans ho)
 have hlt:i<ops.size:=(Array.getElem?_eq_some_iff.1 ho).1
 have hltS:i<S.size:=by rw[I.size];exact hlt
 have hnot:¬ S.getD i false=true:=by
  have h1:=getD_both hun
  rw[h1]
  simp
 have hr:∀ o,ops[i]? = some o→∀ e∈o.after,Region.binds .any e=true→S.getD e.on false=true:=fun o' ho' e he hb=>by
  obtain rfl:oi=o':=Option.some.inj (ho.symm.trans ho')
  exact hall e he hb
 have hin:∀ j,j∈ancs L i→S.getD j false=true:=fun j hj=>Qeg C I.size I.closed i j hlt hr hj
 obtain⟨k,hk,hh,hpre⟩:=I.pre
 have hst:Qap L act i k=true:=by
  unfold Qap
  rw[List.all_eq_true]
  intro j hj
  rw[List.mem_range] at hj
  simp only[Bool.and_eq_true,Bool.or_eq_true,Bool.not_eq_true',decide_eq_true_eq,decide_eq_false_iff_not]
  refine⟨⟨?_,?_⟩,?_⟩
  ·by_cases h:act.getD j 0∈ancs L i
   ·exact .inr ((hpre j hj).1 (hin _ h))
   ·exact .inl (by simpa using h)
  ·by_cases h:i∈ancs L (act.getD j 0)
   ·refine .inr (Nat.le_of_not_lt fun hjk=>?_)
    have h1:=(hpre j hj).2 hjk
    have hal:act.getD j 0<ops.size:=by
     rcases Nat.lt_or_ge (act.getD j 0) ops.size with h2|h2
     ·exact h2
     ·have:S.size≤act.getD j 0:=by rw[I.size];exact h2
      rw[Array.getD_eq_getD_getElem?,Array.getElem?_eq_none this] at h1
      cases h1
    exact hnot (Qeg C I.size I.closed _ i hal (fun o' ho' e he hb=>I.closed _ o' ho' h1 e he hb) h)
   ·exact .inl (by simpa using h)
  ·by_cases h:act.getD j 0=i
   ·refine .inr (Nat.le_antisymm (Nat.le_of_not_lt fun hjk=>?_) (Nat.le_of_not_lt fun hkj=>?_))
    ·exact hnot (h▸(hpre j hj).2 hjk)
    ·have h1:=C.act k j hkj hj
     rw[h] at h1
     have:=(hpre k (by omega)).1 (hin _ h1)
     omega
   ·exact .inl h
 obtain⟨V,hV,hVh,hone⟩:=hstep oi k ho hk hst
 have hsub:=hV.sub C I hlt hr (hVh.trans hh.symm)
 refine⟨_,(hone.mono hsub).ev,?_⟩
 have hset:∀ j,((S.setIfInBounds i true).getD j false=true)↔(j=i∨S.getD j false=true):=fun j=>Qae hltS
 have hpre':∃ k',k'≤act.length∧Hs (if i∈act then k+1 else k)=Hs k'∧∀ j,j<act.length→((S.setIfInBounds i true).getD (act.getD j 0) false=true↔j<k'):=by
  have hst':∀ j,j<act.length→act.getD j 0=i→k=j:=fun j hj h=>by
   unfold Qap at hst
   rw[List.all_eq_true] at hst
   have:=hst j (List.mem_range.2 hj)
   simp only[Bool.and_eq_true,Bool.or_eq_true,Bool.not_eq_true',decide_eq_true_eq,decide_eq_false_iff_not] at this
   exact this.2.resolve_left fun hn=>hn h
  by_cases hia:i∈act
  ·rw[if_pos hia]
   obtain⟨j0,hj0,hji⟩:=List.mem_iff_getElem.1 hia
   have hg:act.getD j0 0=i:=by simp [hj0,hji]
   have hk0:=hst' j0 hj0 hg
   refine⟨k+1,by omega,rfl,fun j hj=>?_⟩
   rw[hset]
   constructor
   ·rintro (h|h)
    ·have:=hst' j hj h
     omega
    ·have:=(hpre j hj).1 h
     omega
   ·intro h
    rcases Nat.lt_or_ge j k with h1|h1
    ·exact .inr ((hpre j hj).2 h1)
    ·obtain rfl:j=j0:=by omega
     exact .inl hg
  ·rw[if_neg hia]
   refine⟨k,hk,rfl,fun j hj=>?_⟩
   rw[hset]
   constructor
   ·rintro (h|h)
    ·exact (hia (by rw[← h];simp [hj])).elim
    ·exact (hpre j hj).1 h
   ·exact fun h=>.inr ((hpre j hj).2 h)
 have hcl':∀ j o,ops[j]? = some o→(S.setIfInBounds i true).getD j false=true→∀ e∈o.after,Region.binds .any e=true→(S.setIfInBounds i true).getD e.on false=true:=fun j o hj hl e he hb=>by
  rw[hset]
  rcases (hset j).1 hl with rfl|h
  ·exact .inr (hr o hj e he hb)
  ·exact .inr (I.closed j o hj h e he hb)
 cases hd:oi.dst with
 | none=>
   have hda:Xr ops i=none:=by simp [Xr,ho,hd]
   have hne:∀ j d,Xr ops j=some d→j≠i:=fun j d h e=>by rw[e,hda] at h;cases h
   exact⟨by simp [I.size],hcl',hpre',I.out,fun j d v hj hl=>I.gotS j d v hj (((hset j).1 hl).resolve_left (hne j d hj)),fun j d sl off hj hl=>I.gotE j d sl off hj (((hset j).1 hl).resolve_left (hne j d hj)),I.tgt⟩
 | some d=>
   have hda:Xr ops i=some d:=by simp [Xr,ho,hd]
   have hdn:∀ q∈t.eph,q.2.2.1≠d:=fun q hq e=>I.tgt q hq i (by rw[e];exact hda)
   have hdne:∀ j d',j≠i→Xr ops j=some d'→d'≠d:=fun j d' hj h e=>hj (C.dst j i d (e▸h) hda)
   cases hres:res i with
   | sl v=>
     refine⟨by simp [I.size],hcl',hpre',fun x hx=>?_,fun j d' v' hj hl hv=>?_,fun j d' sl off hj hl hv=>?_,fun q hq=>I.tgt q (Qb8 hq)⟩
     ·have hxd:x≠d:=fun e=>hx i (e▸hda)
      simp only[updR,Xl]
      rw[if_neg (fun e=>hxd e.symm),Jr hdn hxd]
      exact I.out x hx
     ·simp only[updR,Xl]
      by_cases hji:j=i
      ·subst hji
       obtain rfl:d=d':=Option.some.inj (hda.symm.trans hj)
       rw[if_pos rfl,Jp]
       rw[hres] at hv
       cases hv
       exact⟨rfl,rfl⟩
      ·have:=hdne j d' hji hj
       rw[if_neg (fun e=>this e.symm),Jr hdn this]
       exact I.gotS j d' v' hj (((hset j).1 hl).resolve_left hji) hv
     ·by_cases hji:j=i
      ·subst hji
       rw[hres] at hv
       cases hv
      ·have:=hdne j d' hji hj
       simp only[updR]
       rw[Jr hdn this]
       exact I.gotE j d' sl off hj (((hset j).1 hl).resolve_left hji) hv
   | ep sl0 off0=>
     refine⟨by simp [I.size],hcl',hpre',fun x hx=>?_,fun j d' v' hj hl hv=>?_,fun j d' sl off hj hl hv=>?_,fun q hq=>?_⟩
     ·have hxd:x≠d:=fun e=>hx i (e▸hda)
      simp only[updR,Xl,eget]
      rw[if_neg (fun e=>hxd e.symm),if_neg (fun e=>hxd e.symm),Jr hdn hxd]
      exact I.out x hx
     ·by_cases hji:j=i
      ·subst hji
       rw[hres] at hv
       cases hv
      ·have:=hdne j d' hji hj
       simp only[updR,Xl,eget]
       rw[if_neg (fun e=>this e.symm),if_neg (fun e=>this e.symm),Jr hdn this]
       exact I.gotS j d' v' hj (((hset j).1 hl).resolve_left hji) hv
     ·by_cases hji:j=i
      ·subst hji
       obtain rfl:d=d':=Option.some.inj (hda.symm.trans hj)
       simp only[updR,eget,if_true]
       rw[hres] at hv
       cases hv
       rfl
      ·have:=hdne j d' hji hj
       simp only[updR,eget]
       rw[if_neg (fun e=>this e.symm),Jr hdn this]
       exact I.gotE j d' sl off hj (((hset j).1 hl).resolve_left hji) hv
     ·rcases List.mem_cons.1 hq with rfl|hq
      ·exact fun j=>hT i sl0 off0 hres j
      ·exact I.tgt q (Qb8 hq)
theorem Qu8 {id:Nat} {s:St} {frF:Fr} (hm:N.P.follows .mixedOrders=true) (C:Cert ops L act) (hT:∀ j sl off,res j = .ep sl off→∀ i,Xr ops i≠some sl)
 (hstep:∀ i o k,ops[i]? = some o→k≤act.length→Qap L act i k=true→∃ V,View ops L s res i V∧V.h=Hs k∧One N ops o V (res i) (Hs (if i∈act then k+1 else k)))
 (hact:∀ a∈act,a<ops.size) (h0:s.h=Hs 0) (hF:∀ p∈frF,((∀ j,Xr ops j≠some p.1)∧fget s.fr p.1=p.2)∨∃ j,Xr ops j=some p.1∧res j = .sl p.2) :
 Ev N (.code (.region id ops true) s .normal ⟨frF,[],Hs act.length⟩):=by
 classical
 refine .regionO (OInv N ops act s res Hs) (fun S t i=>match ops[i]? with
  | some o=>if h:∃ s',Ev N (.ops ops [o] t s')∧OInv N ops act s res Hs (S.setIfInBounds i true) s' then h.choose else t
  | none=>t) hm ?_ ?_ ?_ ?_ rfl
 ·refine⟨by simp,fun j o _ hl=>?_,⟨0,Nat.zero_le _,h0,fun j _=>?_⟩,fun x _=>⟨rfl,rfl⟩,fun j d v _ hl=>?_,fun j d sl off _ hl=>?_,fun q hq=>by cases hq⟩
  ·rw[getD_replicate_false] at hl
   cases hl
  ·rw[getD_replicate_false]
   simp
  ·rw[getD_replicate_false] at hl
   cases hl
  ·rw[getD_replicate_false] at hl
   cases hl
 ·intro S t i o I hi ho
  simp only[ho]
  have h:=I.step C hT (hstep i) hi ho
  rw[dif_pos h]
  exact h.choose_spec.1
 ·intro S t i o I hi ho
  simp only[ho]
  have h:=I.step C hT (hstep i) hi ho
  rw[dif_pos h]
  exact h.choose_spec.2
 ·intro S t I hr
  have hall:∀ i,i<ops.size→S.getD i false=true:=by
   intro i
   induction i using Nat.strongRecOn with
   | _ i ih=>
     intro hi
     cases hb:S.getD i false with
     | true=>rfl
     | false=>
       have:i∈Region.ready .any ops S:=mem_ready.2 ⟨getD_in (by rw[I.size];exact hi) hb,ops[i],Array.getElem?_eq_getElem hi,fun e he hbi=>by
        have hlow:=C.low i _ (Array.getElem?_eq_getElem hi) e he hbi
        exact ih e.on hlow (by omega)⟩
       rw[hr] at this
       cases this
  refine⟨fun p hp=>?_,?_⟩
  ·rcases hF p hp with ⟨h1,h2⟩ | ⟨j,h1,h2⟩
   ·exact (I.out p.1 h1).1.trans h2
   ·exact (I.gotS j p.1 p.2 h1 (hall j (Qiy h1)) h2).1
  ·obtain⟨k,hk,hh,hpre⟩:=I.pre
   have:k=act.length:=by
    rcases Nat.lt_or_ge k act.length with h|h
    ·have:=(hpre k h).1 (hall _ (hact _ (by simp [h])))
     omega
    ·omega
   rw[hh,this]
end
def Jk (ops:Array Oper):List Nat:=ops.toList.filterMap (·.dst)
def resF (resL:List Res) (j:Nat):Res:=(resL[j]?).getD (.sl .unk)
def hpF (hs:List Heap) (k:Nat):Heap:=(hs[k]?).getD []
def Qbb (ops:Array Oper) (resL:List Res):List Nat→Fr
 | []=>[]
 | j :: l=>match Xr ops j,resL[j]? with
   | some d,some (.sl v)=>(d,v) :: Qbb ops resL l
   | _,_=>Qbb ops resL l
def ancE (ops:Array Oper) (resL:List Res):List Nat→Eph
 | []=>[]
 | j :: l=>match Xr ops j,resL[j]? with
   | some d,some (.ep sl off)=>(d,([],(sl,off))) :: ancE ops resL l
   | _,_=>ancE ops resL l
def Qat (ds:List Nat):Fr→Fr
 | []=>[]
 | (k,v) :: r=>if ds.contains k then Qat ds r else (k,v) :: Qat ds r
def Jd (ops:Array Oper) (L:List (List Nat)) (resL:List Res) (fr:Fr) (h:Heap) (i:Nat):St:=⟨Qat (Jk ops) fr++Qbb ops resL (ancs L i),ancE ops resL (ancs L i),h⟩
section
variable {N:Env} {ops:Array Oper} {L:List (List Nat)} {act:List Nat} {resL:List Res}
theorem Qao {j d:Nat} (h:Xr ops j=some d):d∈Jk ops:=by
 unfold Xr at h
 split at h
 ·rename_i o ho
  unfold Jk
  rw[List.mem_filterMap]
  exact⟨o,Array.mem_toList_iff.2 (Array.mem_of_getElem? ho),h⟩
 ·cases h
theorem Qbp {x:Nat}:∀ {l:List Nat},fget (Qbb ops resL l) x = .unk∨∃ j,Xr ops j=some x∧j∈l∧resL[j]? = some (.sl (fget (Qbb ops resL l) x))
 | []=>.inl rfl
 | j :: l=>by
   have ih:=Qbp (x:=x) (l:=l)
   have ih':fget (Qbb ops resL l) x = .unk∨∃ j',Xr ops j'=some x∧j'∈j :: l∧resL[j']? = some (.sl (fget (Qbb ops resL l) x)):=by
    rcases ih with h|⟨j',h1,h2,h3⟩
    ·exact .inl h
    ·exact .inr ⟨j',h1,List.mem_cons_of_mem _ h2,h3⟩
   simp only[Qbb]
   split
   ·rename_i d v hd hr
    simp only[fget]
    split
    ·rename_i hx
     subst hx
     exact .inr ⟨j,hd,List.mem_cons_self,hr⟩
    ·exact ih'
   ·exact ih'
theorem Qf2 {x:Nat} {p:List Key×(Nat×Nat)}:∀ {l:List Nat},eget (ancE ops resL l) x=some p→∃ j sl off,Xr ops j=some x∧j∈l∧resL[j]? = some (.ep sl off)∧p=([],(sl,off))
 | [],h=>by cases h
 | j :: l,h=>by
   have ih:eget (ancE ops resL l) x=some p→∃ j' sl off,Xr ops j'=some x∧j'∈j :: l∧resL[j']? = some (.ep sl off)∧p=([],(sl,off)):=fun h=>by
    obtain⟨j',sl,off,h1,h2,h3⟩:=Qf2 h
    exact⟨j',sl,off,h1,List.mem_cons_of_mem _ h2,h3⟩
   simp only[ancE] at h
   split at h
   ·rename_i d sl off hd hr
    simp only[eget] at h
    split at h
    ·rename_i hx
     subst hx
     cases h
     exact⟨j,sl,off,hd,List.mem_cons_self,hr,rfl⟩
    ·exact ih h
   ·exact ih h
theorem Qf4 {ds:List Nat} {B:Fr} {x:Nat} (hx:x∈ds):∀ {fr:Fr},fget (Qat ds fr++B) x=fget B x
 | []=>rfl
 | (k,v) :: r=>by
   simp only[Qat]
   split
   ·exact Qf4 hx
   ·rename_i hk
    have:k≠x:=fun e=>hk (by rw[e];simpa using hx)
    simp only[List.cons_append,fget,if_neg this]
    exact Qf4 hx
theorem Qei {ds:List Nat} {B:Fr} {x:Nat} (hx:x∉ds) (hB:fget B x = .unk):∀ {fr:Fr},fget (Qat ds fr++B) x=fget fr x
 | []=>hB
 | (k,v) :: r=>by
   simp only[Qat]
   split
   ·rename_i hk
    have:k≠x:=fun e=>hx (by rw[← e];simpa using hk)
    simp only[fget,if_neg this]
    exact Qei hx hB
   ·simp only[List.cons_append,fget]
    split
    ·rfl
    ·exact Qei hx hB
theorem Qcc {j:Nat} {r:Res} (h:resL[j]? = some r):resF resL j=r:=by simp [resF,h]
theorem Qk6 (C:Cert ops L act) {s0:St} {h:Heap} {i:Nat}:View ops L s0 (resF resL) i (Jd ops L resL s0.fr h i):=by
 have hf:∀ x,fget (Jd ops L resL s0.fr h i).fr x = .unk∨((∀ j,Xr ops j≠some x)∧fget s0.fr x=fget (Jd ops L resL s0.fr h i).fr x)∨∃ j,Xr ops j=some x∧j∈ancs L i∧resF resL j = .sl (fget (Jd ops L resL s0.fr h i).fr x):=by
  intro x
  by_cases hx:x∈Jk ops
  ·simp only[Jd,Qf4 hx]
   rcases Qbp (ops:=ops) (resL:=resL) (x:=x) (l:=ancs L i) with h|⟨j,h1,h2,h3⟩
   ·exact .inl h
   ·exact .inr (.inr ⟨j,h1,h2,Qcc h3⟩)
  ·have hB:fget (Qbb ops resL (ancs L i)) x = .unk:=by
    rcases Qbp (ops:=ops) (resL:=resL) (x:=x) (l:=ancs L i) with h|⟨j,h1,_⟩
    ·exact h
    ·exact (hx (Qao h1)).elim
   refine .inr (.inl ⟨fun j hj=>hx (Qao hj),?_⟩)
   simp only[Jd,Qei hx hB]
 refine⟨hf,fun x p hp=>?_,fun x hx=>?_⟩
 ·obtain⟨j,sl,off,h1,h2,h3,h4⟩:=Qf2 hp
  exact⟨j,sl,off,h1,h2,Qcc h3,h4⟩
 ·cases he:eget (Jd ops L resL s0.fr h i).eph x with
  | none=>rfl
  | some p=>
    obtain⟨j,sl,off,h1,h2,h3,_⟩:=Qf2 he
    rcases hf x with h|⟨h,_⟩ | ⟨j',k1,k2,k3⟩
    ·exact (hx h).elim
    ·exact (h j h1).elim
    ·obtain rfl:=C.dst j j' x h1 k1
     rw[Qcc h3] at k3
     cases k3
def Xc4 (all:Array Oper) (d:Nat):Bool:=all.any fun o=>match o.op with
 | .call c=>match c.callee with
   | .builtin .append=>match c.args.toList with
     | [_,.tmp y]=>y == d
     | _=>false
   | _=>false
 | _=>false
def Qhv (N:Env) (call:FuncId→List Value→Heap→Option (Value×Heap)) (nm:FuncId→Bool) (all:Array Oper) (o:Oper) (s:St):Option (Res×Heap):=
 match Ql all o s with
 | none=>none
 | some false=>some (.sl (.val (.tuple #[])),s.h)
 | some true=>match o.op with
   | .box t x=>(boxC N s (.box t x)).map fun p=>(.sl (.val (.pointer (some ⟨s.h.length,0,some 0⟩))),s.h++[HObj.arr p.2 0 true p.1])
   | .alloc t=>(boxC N s (.alloc t)).map fun p=>(.sl (.val (.pointer (some ⟨s.h.length,0,some 0⟩))),s.h++[HObj.arr p.2 0 true p.1])
   | .buildSlice t l ps=>match o.dst with
     | some d=>if Xc4 all d then (bslC N s (.buildSlice t l ps)).map fun p=>(.sl (.bsl p.2.1 p.2.2),s.h)
       else (bslC N s (.buildSlice t l ps)).map fun p=>(.sl (.val (.slice (some ⟨s.h.length,0,some 0⟩) p.2.2 p.2.2)),s.h++[HObj.arr p.2.1 0 true p.1])
     | none=>none
   | .makeSlice t l c=>(mkC N s (.makeSlice t l c)).map fun p=>(.sl (.val (.slice (some ⟨s.h.length,0,some 0⟩) p.2.2 p.2.2)),s.h++[HObj.arr p.2.1 0 true p.1])
   | .store t a x=>match o.dst with
     | none=>match Qf N.P t,ev s a,ev s x with
       | some ti,some (.pointer (some ⟨id,off,some ver⟩)),some v=>match s.h[id]?,Zg ti.size v with
         | some (.arr cells ver' true et),some vs=>if ver'=ver then (wrC cells off vs).map fun cells'=>(.sl .unk,s.h.set id (HObj.arr cells' ver true et)) else none
         | _,_=>none
       | _,_,_=>none
     | some _=>none
   | .makeMap t none=>match N.P.underlying t with
     | some (.map _ _)=>some (.sl (.val (.map (some s.h.length))),s.h++[HObj.map []])
     | _=>none
   | .mapUpdate t x i y=>match o.dst with
     | none=>match mapX N s t x,ev s i,ev s y with
       | some (id,es,kd,_),some k,some v=>if kd k then some (.sl .unk,s.h.set id (HObj.map (mput es k v))) else none
       | _,_,_=>none
     | some _=>none
   | .mapEntry t x i=>match mapX N s t x,ev s i with
     | some (id,es,kd,et),some k=>match Qb4 N.P et with
       | some z=>if kd k then some (.sl (.val (.tuple #[(ment es k z).1,.int .i64 (ment es k z).2.1])),s.h.set id (HObj.map (ment es k z).2.2)) else none
       | none=>none
     | _,_=>none
   | .entryStore _ x i y=>match o.dst with
     | none=>match ev s x,ev s i,ev s y with
       | some (.map (some id)),some (.int .i64 (.ofNat j)),some v=>match s.h[id]? with
         | some (.map es)=>match es[j]? with
           | some (k,_)=>some (.sl .unk,s.h.set id (HObj.map (es.set j (k,v))))
           | none=>none
         | _=>none
       | _,_,_=>none
     | some _=>none
   | .call c=>match c.callee with
     | .builtin .append=>match c.args.toList,c.argTypes.toList with
       | [x,y],[t,t2]=>match N.P.underlying t with
         | some (.slice e)=>match Qf N.P e with
           | some ti=>if t2=t∧0<ti.size∧(ti.zero.map fun z=>z.cells.size)=some ti.size then (match Xz s s.h ti.size y with
             | some (cs,m)=>match ev s x with
               | some (.slice none 0 0)=>if 0<m∧m*ti.bytes≤140737488355328∧m≤140737488355328 then some (.sl (.val (.slice (some ⟨s.h.length,0,some 0⟩) m m)),s.h++[HObj.arr cs 0 true e]) else none
               | some (.slice (some ⟨id,0,some ver⟩) n _)=>match s.h[id]? with
                 | some (.arr cells ver' true et)=>if ver'=ver∧et=e∧n*ti.size≤cells.length∧(n+m)*ti.bytes≤140737488355328∧n+m≤140737488355328 then
                  some (.sl (.val (.slice (some ⟨id,0,some (ver+1)⟩) (n+m) (n+m))),s.h.set id (HObj.arr (cells.take (n*ti.size)++cs) (ver+1) true e)) else none
                 | _=>none
               | _=>none
             | none=>none) else none
           | none=>none
         | _=>none
       | _,_=>none
     | .builtin _=>(vop N s o.op).map fun v=>(.sl (.val v),s.h)
     | cal=>match Ji s cal,evs s c.args.toList with
       | some (f,cap),some args=>if nm f then (match call f (args++cap) s.h with
         | some (v,h')=>some (.sl (.val v),h')
         | none=>none) else none
       | _,_=>none
   | _=>match vop N s o.op with
     | some v=>some (.sl (.val v),s.h)
     | none=>match epl N s o.op,o.dst with
       | some (sl,off),some d=>if sl=d then none else some (.ep sl off,s.h)
       | _,_=>none
variable {call:FuncId→List Value→Heap→Option (Value×Heap)} {nm:FuncId→Bool}
theorem Qus (hC:CallOK N call) (hn:NmOK N nm) {all:Array Oper} {o:Oper} {s:St} {r:Res} {h':Heap} (h:Qhv N call nm all o s=some (r,h')):One N all o s r h':=by
 unfold Qhv at h
 split at h
 ·cases h
 ·rename_i hw
  cases h
  exact .skip hw
 ·rename_i hw
  split at h
  ·rename_i t x ho
   cases hb:boxC N s (.box t x) with
   | none=>simp [hb] at h
   | some p=>
     simp only[hb,Option.map_some,Option.some.injEq,Prod.mk.injEq] at h
     obtain⟨rfl,rfl⟩:=h
     exact .boxH hw (by rw[ho];exact hb)
  ·rename_i t ho
   cases hb:boxC N s (.alloc t) with
   | none=>simp [hb] at h
   | some p=>
     simp only[hb,Option.map_some,Option.some.injEq,Prod.mk.injEq] at h
     obtain⟨rfl,rfl⟩:=h
     exact .boxH hw (by rw[ho];exact hb)
  ·rename_i t l ps ho
   split at h
   ·rename_i d hd
    split at h
    ·cases hb:bslC N s (.buildSlice t l ps) with
     | none=>simp [hb] at h
     | some p=>
       simp only[hb,Option.map_some,Option.some.injEq,Prod.mk.injEq] at h
       obtain⟨rfl,rfl⟩:=h
       exact .bsl hw hd (by rw[ho];exact hb)
    ·cases hb:bslC N s (.buildSlice t l ps) with
     | none=>simp [hb] at h
     | some p=>
       simp only[hb,Option.map_some,Option.some.injEq,Prod.mk.injEq] at h
       obtain⟨rfl,rfl⟩:=h
       exact .bslH hw (by rw[ho];exact hb)
   ·cases h
  ·rename_i t l c ho
   cases hb:mkC N s (.makeSlice t l c) with
   | none=>simp [hb] at h
   | some p=>
     simp only[hb,Option.map_some,Option.some.injEq,Prod.mk.injEq] at h
     obtain⟨rfl,rfl⟩:=h
     exact .mk hw (by rw[ho];exact hb)
  ·rename_i t a x ho
   split at h
   ·rename_i hd
    split at h
    ·rename_i ti id off ver v ht ha hx
     split at h
     ·rename_i cells ver' et vs hid hv
      split at h
      ·rename_i hver
       subst hver
       cases hq:Am.wrC cells off vs with
       | none=>simp [hq] at h
       | some cells'=>
         simp only[hq,Option.map_some,Option.some.injEq,Prod.mk.injEq] at h
         obtain⟨rfl,rfl⟩:=h
         exact .stoH hw ho ht ha hid hx hv hq hd
      ·cases h
     ·cases h
    ·cases h
   ·cases h
  ·rename_i t ho
   split at h
   ·rename_i kt et hu
    cases h
    exact .map hw ho hu
   ·cases h
  ·rename_i t x i y ho
   split at h
   ·rename_i hd
    split at h
    ·rename_i id es kd et k v hm hk hv
     split at h
     ·rename_i hkk
      cases h
      obtain⟨kt,hu,hkd,hx,hid,hmk⟩:=Qdw hm
      exact .upd hw ho hu hkd hx hid hk hv hkk hmk hd
     ·cases h
    ·cases h
   ·cases h
  ·rename_i t x i ho
   split at h
   ·rename_i id es kd et k hm hk
    split at h
    ·rename_i z hz
     split at h
     ·rename_i hkk
      cases h
      obtain⟨kt,hu,hkd,hx,hid,hmk⟩:=Qdw hm
      exact .ent hw ho hu hkd hz hx hid hk hkk hmk rfl
     ·cases h
    ·cases h
   ·cases h
  ·rename_i t x i y ho
   split at h
   ·rename_i hd
    split at h
    ·rename_i id j v hx hi hv
     split at h
     ·rename_i es hid
      split at h
      ·rename_i k u hj
       cases h
       exact .est hw ho hx hid hi hv hj hd
      ·cases h
     ·cases h
    ·cases h
   ·cases h
  ·rename_i c ho
   split at h
   ·rename_i hc
    split at h
    ·rename_i x y t t2 hx ht
     have ho':o.op = .call { callee:=.builtin .append,args:=#[x,y],argTypes:=#[t,t2] }:=by
      rw[ho]
      cases c with
      | mk cal a ty=>
        simp only at hc hx ht
        subst hc
        rw[show a=#[x,y] from Array.toList_inj.1 hx,show ty=#[t,t2] from Array.toList_inj.1 ht]
     split at h
     ·rename_i e hu
      split at h
      ·rename_i ti hti
       split at h
       ·rename_i hq
        obtain⟨q1,q2,q3⟩:=hq
        split at h
        ·rename_i cs m hi
         split at h
         ·rename_i hv
          split at h
          ·rename_i hm
           cases h
           exact .app0 hw ho' hu q1 hti q2 q3 hv hi hm.1 hm.2.1 hm.2.2
          ·cases h
         ·rename_i id ver n cp hv
          split at h
          ·rename_i cells ver' et hid
           split at h
           ·rename_i hm
            obtain⟨rfl,rfl,m1,m2,m3⟩:=hm
            cases h
            exact .app hw ho' hu q1 hti q2 q3 hv hid m1 hi m2 m3
           ·cases h
          ·cases h
         ·cases h
        ·cases h
       ·cases h
      ·cases h
     ·cases h
    ·cases h
   ·rename_i b hb
    cases hv:vop N s o.op with
    | none=>simp [hv] at h
    | some v=>
      simp only[hv,Option.map_some,Option.some.injEq,Prod.mk.injEq] at h
      obtain⟨rfl,rfl⟩:=h
      exact .val hw hv
   ·split at h
    ·rename_i f cap args hcal hargs
     split at h
     ·rename_i hnm
      split at h
      ·rename_i v h' hcall
       cases h
       obtain⟨⟨fn,h1,h2⟩,h3⟩:=hC _ _ _ _ _ hcall
       exact .call hw ho hcal hargs h1 (hn _ _ hnm h1) h2 h3
      ·cases h
     ·cases h
    ·cases h
  ·split at h
   ·rename_i v hv
    cases h
    exact .val hw hv
   ·split at h
    ·rename_i sl off d he hd
     split at h
     ·cases h
     ·rename_i hne
      cases h
      exact .eph hw hd he hne
    ·cases h
def StageOK (N:Env) (ops:Array Oper) (L:List (List Nat)) (act:List Nat) (resL:List Res) (hs:List Heap) (fr:Fr) (i:Nat) (o:Oper):List Nat→Prop
 | []=>True
 | k :: l=>(Qap L act i k=true→One N ops o (Jd ops L resL fr (hpF hs k) i) (resF resL i) (hpF hs (if i∈act then k+1 else k)))∧StageOK N ops L act resL hs fr i o l
def StepsOK (N:Env) (ops:Array Oper) (L:List (List Nat)) (act:List Nat) (resL:List Res) (hs:List Heap) (fr:Fr):Nat→List Oper→Prop
 | _,[]=>True
 | i,o :: l=>StageOK N ops L act resL hs fr i o (List.range (act.length+1))∧StepsOK N ops L act resL hs fr (i+1) l
theorem StageOK.at {hs:List Heap} {fr:Fr} {i:Nat} {o:Oper}:∀ {l:List Nat} {k:Nat},StageOK N ops L act resL hs fr i o l→k∈l→Qap L act i k=true →
 One N ops o (Jd ops L resL fr (hpF hs k) i) (resF resL i) (hpF hs (if i∈act then k+1 else k))
 | [],_,_,h=>by cases h
 | k' :: l,k,⟨h1,h2⟩,h=>by
   rcases List.mem_cons.1 h with rfl|h
   ·exact h1
   ·exact StageOK.at h2 h
theorem StepsOK.at {hs:List Heap} {fr:Fr}:∀ {l:List Oper} {i j:Nat} {o:Oper},StepsOK N ops L act resL hs fr i l→l[j]? = some o→StageOK N ops L act resL hs fr (i+j) o (List.range (act.length+1))
 | [],_,_,_,_,h=>by simp at h
 | o' :: l,i,0,o,⟨h1,_⟩,h=>by
   simp only[List.getElem?_cons_zero,Option.some.injEq] at h
   exact h▸h1
 | o' :: l,i,j+1,o,⟨_,h2⟩,h=>by
   have:=StepsOK.at h2 (by simpa using h)
   rwa [show i+1+j=i+(j+1) by omega] at this
def tgtB (ops:Array Oper) (resL:List Res):Bool:=resL.all fun r=>match r with
 | .ep sl _=>!(Jk ops).contains sl
 | _=>true
def FinOK (ops:Array Oper) (resL:List Res) (fr:Fr):Fr→Prop
 | []=>True
 | (x,v) :: r=>((x∉Jk ops∧fget fr x=v)∨fget (Qbb ops resL (List.range ops.size)) x=v∧v≠.unk)∧FinOK ops resL fr r
theorem FinOK.at {fr:Fr}:∀ {frF:Fr} {p:Nat×Slot},FinOK ops resL fr frF→p∈frF→((∀ j,Xr ops j≠some p.1)∧fget fr p.1=p.2)∨∃ j,Xr ops j=some p.1∧resF resL j = .sl p.2
 | [],p,_,h=>by cases h
 | (x,v) :: r,p,⟨h1,h2⟩,h=>by
   rcases List.mem_cons.1 h with rfl|h
   ·rcases h1 with ⟨h3,h4⟩ | ⟨h3,h4⟩
    ·exact .inl ⟨fun j hj=>h3 (Qao hj),h4⟩
    ·rcases Qbp (ops:=ops) (resL:=resL) (x:=x) (l:=List.range ops.size) with h|⟨j,k1,_,k3⟩
     ·exact (h4 (h3.symm.trans h)).elim
     ·exact .inr ⟨j,k1,by rw[Qcc k3,h3]⟩
   ·exact FinOK.at h2 h
theorem Qgc {id:Nat} {s:St} {hs:List Heap} {frF:Fr} (hm:N.P.follows .mixedOrders=true) (hc:ordB ops L act=true) (ha:act.all (fun a=>decide (a<ops.size))=true) (ht:tgtB ops resL=true) (h0:s.h=hpF hs 0)
 (hS:StepsOK N ops L act resL hs s.fr 0 ops.toList) (hF:FinOK ops resL s.fr frF):Ev N (.code (.region id ops true) s .normal ⟨frF,[],hpF hs act.length⟩):=by
 have C:=Qjl hc
 refine Qu8 (res:=resF resL) (Hs:=hpF hs) hm C ?_ ?_ (fun a h=>by simpa using List.all_eq_true.1 ha a h) h0 fun p hp=>hF.at hp
 ·intro j sl off hr i hi
  unfold resF at hr
  cases hj:resL[j]? with
  | none=>simp [hj] at hr
  | some r=>
    simp only[hj,Option.getD_some] at hr
    have:=List.all_eq_true.1 ht r (List.mem_of_getElem? hj)
    rw[hr] at this
    simp only[Bool.not_eq_true',List.contains_eq_mem,decide_eq_false_iff_not] at this
    exact this (Qao hi)
 ·intro i o k ho hk hst
  have h1:=StepsOK.at (j:=i) hS (by simpa using ho)
  rw[Nat.zero_add] at h1
  exact⟨_,Qk6 C,rfl,h1.at (List.mem_range.2 (by omega)) hst⟩
end
def eqB:Value→Value→Bool
 | .int k a,.int k' b=>decide (k=k')&&decide (a=b)
 | .bool a,.bool b=>decide (a=b)
 | .string a,.string b=>decide (a=b)
 | .pointer p,.pointer q=>decide (p=q)
 | .slice p n c,.slice q m d=>decide (p=q)&&decide (n=m)&&decide (c=d)
 | .map p,.map q=>decide (p=q)
 | .nilFunc,.nilFunc=>true
 | .nilIface,.nilIface=>true
 | _,_=>false
def eqBL:List Value→List Value→Bool
 | [],[]=>true
 | a :: l,b :: r=>eqB a b&&eqBL l r
 | _,_=>false
def eqP (a b:Value):Bool:=
 match a,b with
 | .func (.func f) xs cs,.func (.func g) ys ds=>decide (f=g)&&eqBL xs.toList ys.toList&&eqBL cs.toList ds.toList
 | x,y=>eqB x y
def eqPL:List Value→List Value→Bool
 | [],[]=>true
 | a :: l,b :: r=>eqP a b&&eqPL l r
 | _,_=>false
def eqV (a b:Value):Bool:=
 match a,b with
 | .agg xs,.agg ys=>eqPL xs.toList ys.toList
 | .tuple xs,.tuple ys=>eqPL xs.toList ys.toList
 | x,y=>eqP x y
def eqEL:List (Value×Value)→List (Value×Value)→Bool
 | [],[]=>true
 | (k,v) :: l,(k',v') :: r=>eqV k k'&&eqV v v'&&eqEL l r
 | _,_=>false
def eqH:Heap→Heap→Bool
 | [],[]=>true
 | .map es :: l,.map es' :: r=>eqEL es es'&&eqH l r
 | .arr cs v o t :: l,.arr cs' v' o' t' :: r=>eqPL cs cs'&&decide (v=v')&&decide (o=o')&&decide (t=t')&&eqH l r
 | _,_=>false
def eqS:Slot→Slot→Bool
 | .val a,.val b=>eqV a b
 | .bsl cs n,.bsl cs' n'=>eqPL cs cs'&&decide (n=n')
 | .unk,.unk=>true
 | _,_=>false
def eqR:Res→Res→Bool
 | .sl a,.sl b=>eqS a b
 | .ep a b,.ep c d=>decide (a=c)&&decide (b=d)
 | _,_=>false
theorem Qkd {a b:Value} (h:eqB a b=true):a=b:=by
 unfold eqB at h
 split at h<;>simp_all
theorem Qeu:∀ {a b:List Value},eqBL a b=true→a=b
 | [],[],_=>rfl
 | a :: l,b :: r,h=>by
   simp only[eqBL,Bool.and_eq_true] at h
   rw[Qkd h.1,Qeu h.2]
 | [],_ :: _,h=>by simp [eqBL] at h
 | _ :: _,[],h=>by simp [eqBL] at h
theorem Qjh {a b:Value} (h:eqP a b=true):a=b:=by
 unfold eqP at h
 split at h
 ·simp only[Bool.and_eq_true,decide_eq_true_eq] at h
  rw[h.1.1,Array.toList_inj.1 (Qeu h.1.2),Array.toList_inj.1 (Qeu h.2)]
 ·exact Qkd h
theorem Qbo:∀ {a b:List Value},eqPL a b=true→a=b
 | [],[],_=>rfl
 | a :: l,b :: r,h=>by
   simp only[eqPL,Bool.and_eq_true] at h
   rw[Qjh h.1,Qbo h.2]
 | [],_ :: _,h=>by simp [eqPL] at h
 | _ :: _,[],h=>by simp [eqPL] at h
theorem Qce {a b:Value} (h:eqV a b=true):a=b:=by
 unfold eqV at h
 split at h
 ·rw[Array.toList_inj.1 (Qbo h)]
 ·rw[Array.toList_inj.1 (Qbo h)]
 ·exact Qjh h
theorem Qix:∀ {a b:List (Value×Value)},eqEL a b=true→a=b
 | [],[],_=>rfl
 | (k,v) :: l,(k',v') :: r,h=>by
   simp only[eqEL,Bool.and_eq_true] at h
   rw[Qce h.1.1,Qce h.1.2,Qix h.2]
 | [],_ :: _,h=>by simp [eqEL] at h
 | _ :: _,[],h=>by simp [eqEL] at h
theorem Qam:∀ {a b:Heap},eqH a b=true→a=b
 | [],[],_=>rfl
 | .map es :: l,.map es' :: r,h=>by
   simp only[eqH,Bool.and_eq_true] at h
   rw[Qix h.1,Qam h.2]
 | .map _ :: _,.arr .. :: _,h=>by simp [eqH] at h
 | .arr .. :: _,.map _ :: _,h=>by simp [eqH] at h
 | .arr cs v o t :: l,.arr cs' v' o' t' :: r,h=>by
   simp only[eqH,Bool.and_eq_true,decide_eq_true_eq] at h
   obtain⟨⟨⟨⟨h1,rfl⟩,rfl⟩,rfl⟩,h2⟩:=h
   rw[Qbo h1,Qam h2]
 | [],_ :: _,h=>by simp [eqH] at h
 | _ :: _,[],h=>by simp [eqH] at h
theorem Qso {a b:Slot} (h:eqS a b=true):a=b:=by
 unfold eqS at h
 split at h
 ·rw[Qce h]
 ·simp only[Bool.and_eq_true,decide_eq_true_eq] at h
  rw[Qbo h.1,h.2]
 ·rfl
 ·cases h
theorem Qqv {a b:Res} (h:eqR a b=true):a=b:=by
 unfold eqR at h
 split at h
 ·rw[Qso h]
 ·simp only[Bool.and_eq_true,decide_eq_true_eq] at h
  rw[h.1,h.2]
 ·cases h
def Qhi (o:Oper):Bool:=
 match o.op with
 | .box _ _=>true
 | .alloc _=>true
 | .makeSlice _ _ _=>true
 | .store _ _ _=>true
 | .makeMap _ _=>true
 | .buildSlice _ _ _=>true
 | .mapUpdate _ _ _ _=>true
 | .mapEntry _ _ _=>true
 | .entryStore _ _ _ _=>true
 | .call c=>match c.callee with
   | .builtin .append=>true
   | .builtin _=>false
   | _=>true
 | _=>false
theorem Qvl {N:Env} {call:FuncId→List Value→Heap→Option (Value×Heap)} {nm:FuncId→Bool} {all:Array Oper} {o:Oper} {s:St} {r:Res} {h':Heap} (hm:Qhi o=false) (h:Qhv N call nm all o s=some (r,h')):h'=s.h:=by
 unfold Qhv at h
 unfold Qhi at hm
 split at h
 ·cases h
 ·cases h;rfl
 ·split at h
  all_goals first
   | (rename_i ho;rw[ho] at hm;cases hm;done)
   | skip
  ·rename_i c ho
   rw[ho] at hm
   simp only at hm
   split at h
   ·rename_i hc
    rw[hc] at hm
    cases hm
   ·cases hv:vop N s o.op with
    | none=>simp [hv] at h
    | some v=>
      simp only[hv,Option.map_some,Option.some.injEq,Prod.mk.injEq] at h
      exact h.2.symm
   ·rename_i cal c1 c2
    exfalso
    generalize c.callee=q at *
    cases q with
    | builtin b=>exact c2 b rfl
    | value f=>cases hm
    | invoke a b=>cases hm
  ·split at h
   ·cases h;rfl
   ·split at h
    ·split at h
     ·cases h
     ·cases h;rfl
    ·cases h
section
variable (N:Env) (call:FuncId→List Value→Heap→Option (Value×Heap)) (nm:FuncId→Bool) (ops:Array Oper) (L:List (List Nat)) (act:List Nat) (fr:Fr)
def runO:Nat→List Oper→List Res→List Heap→Heap→Option (List Res×List Heap)
 | _,[],resL,hs,_=>some (resL,hs)
 | i,o :: r,resL,hs,h=>match Qhv N call nm ops o (Jd ops L resL fr h i) with
   | some (rs,h')=>runO (i+1) r (resL++[rs]) (if act.contains i then hs++[h'] else hs) h'
   | none=>none
def Qkz (resL:List Res) (hs:List Heap) (i:Nat) (o:Oper):List Nat→Bool
 | []=>true
 | k :: l=>(!Qap L act i k||(match Qhv N call nm ops o (Jd ops L resL fr (hpF hs k) i) with
   | some (r,h')=>eqR r (resF resL i)&&(if Qhi o then eqH h' (hpF hs (if i∈act then k+1 else k)) else !act.contains i)
   | none=>false))&&Qkz resL hs i o l
def Qkq (resL:List Res) (hs:List Heap):Nat→List Oper→Bool
 | _,[]=>true
 | i,o :: l=>Qkz N call nm ops L act fr resL hs i o (List.range (act.length+1))&&Qkq resL hs (i+1) l
end
def Qfg (P:Nat→Bool) (g:Fr):Fr→Fr
 | []=>[]
 | (x,_) :: r=>if P x then (match fget g x with
   | .unk=>Qfg P g r
   | v=>(x,v) :: Qfg P g r) else Qfg P g r
def Xh1 (ops:Array Oper) (resL:List Res) (fr:Fr):Fr:=
 Qfg (fun _=>true) (Qbb ops resL (List.range ops.size)) (Qbb ops resL (List.range ops.size))++Qfg (fun x=>!(Jk ops).contains x) fr fr
def Xai (N:Env) (call:FuncId→List Value→Heap→Option (Value×Heap)) (nm:FuncId→Bool) (ops:Array Oper) (L:List (List Nat)) (fr:Fr):Nat→List Oper→List Res→Heap→Option (List Nat)
 | _,[],_,_=>some []
 | i,o :: r,resL,h=>match Qhv N call nm ops o (Jd ops L resL fr h i) with
   | some (rs,h')=>match Xai N call nm ops L fr (i+1) r (resL++[rs]) h' with
     | some l=>some (if Qhi o then (if eqH h h' then l else i :: l) else l)
     | none=>none
   | none=>none
def drX (N:Env) (call:FuncId→List Value→Heap→Option (Value×Heap)) (nm:FuncId→Bool) (ops:Array Oper) (s:St):Option St:=
 match Xai N call nm ops (Qpl ops) s.fr 0 ops.toList [] s.h with
 | none=>none
 | some act=>match runO N call nm ops (Qpl ops) act s.fr 0 ops.toList [] [s.h] s.h with
   | some (resL,hs)=>
     if ordB ops (Qpl ops) act&&(act.all fun a=>decide (a<ops.size))&&tgtB ops resL&&eqH s.h (hpF hs 0)&&Qkq N call nm ops (Qpl ops) act s.fr resL hs 0 ops.toList then
      some ⟨Xh1 ops resL s.fr,[],hpF hs act.length⟩ else none
   | none=>none
section
variable {N:Env} {call:FuncId→List Value→Heap→Option (Value×Heap)} {nm:FuncId→Bool} {ops:Array Oper} {L:List (List Nat)} {act:List Nat} {fr:Fr} {resL:List Res} {hs:List Heap}
theorem Qjd (hC:CallOK N call) (hn:NmOK N nm) {i:Nat} {o:Oper}:∀ {l:List Nat},Qkz N call nm ops L act fr resL hs i o l=true→StageOK N ops L act resL hs fr i o l
 | [],_=>trivial
 | k :: l,h=>by
   simp only[Qkz,Bool.and_eq_true,Bool.or_eq_true,Bool.not_eq_true'] at h
   refine⟨fun hst=>?_,Qjd hC hn h.2⟩
   rcases h.1 with h1|h1
   ·rw[hst] at h1
    cases h1
   ·split at h1
    ·rename_i r h' hr
     simp only[Bool.and_eq_true] at h1
     rw[← Qqv h1.1]
     have h2:=h1.2
     split at h2
     ·rw[← Qam h2]
      exact Qus hC hn hr
     ·rename_i hmt
      have e:=Qvl (by simpa using hmt) hr
      have hni:¬ i∈act:=by simpa using h2
      rw[if_neg hni]
      have e':h'=hpF hs k:=e
      rw[e'] at hr
      exact Qus hC hn hr
    ·cases h1
theorem Qkg (hC:CallOK N call) (hn:NmOK N nm):∀ {l:List Oper} {i:Nat},Qkq N call nm ops L act fr resL hs i l=true→StepsOK N ops L act resL hs fr i l
 | [],_,_=>trivial
 | o :: l,i,h=>by
   simp only[Qkq,Bool.and_eq_true] at h
   exact⟨Qjd hC hn h.1,Qkg hC hn h.2⟩
theorem FinOK.append {fr:Fr}:∀ {a b:Fr},FinOK ops resL fr a→FinOK ops resL fr b→FinOK ops resL fr (a++b)
 | [],_,_,h=>h
 | (_,_) :: _,_,⟨h1,h2⟩,h=>⟨h1,FinOK.append h2 h⟩
theorem fin1:∀ {l:Fr},FinOK ops resL fr (Qfg (fun _=>true) (Qbb ops resL (List.range ops.size)) l)
 | []=>trivial
 | (x,_) :: r=>by
   simp only[Qfg,if_true]
   split
   ·exact fin1
   ·rename_i h
    exact⟨.inr ⟨rfl,h⟩,fin1⟩
theorem fin2:∀ {l:Fr},FinOK ops resL fr (Qfg (fun x=>!(Jk ops).contains x) fr l)
 | []=>trivial
 | (x,_) :: r=>by
   simp only[Qfg]
   split
   ·rename_i hx
    split
    ·exact fin2
    ·exact⟨.inl ⟨by simpa using hx,rfl⟩,fin2⟩
   ·exact fin2
theorem Xas (hm:N.P.follows .mixedOrders=true) (hC:CallOK N call) (hn:NmOK N nm):DrOK N (drX N call nm):=by
 intro id ops s s1 h
 unfold drX at h
 split at h
 ·cases h
 ·rename_i act hact
  split at h
  ·rename_i resL hs hrun
   split at h
   ·rename_i hc
    simp only[Bool.and_eq_true] at hc
    obtain⟨⟨⟨⟨h1,h0⟩,h2⟩,h3⟩,h4⟩:=hc
    cases h
    exact Qgc hm h1 h0 h2 (Qam h3) (Qkg hC hn h4) (FinOK.append fin1 fin2)
   ·cases h
  ·cases h
end
def scB1 (n:Nat):Value→Bool
 | .pointer (some ⟨id,_,some _⟩)=>decide (id<n)
 | .slice (some ⟨id,_,some _⟩) _ _=>decide (id<n)
 | .map (some id)=>decide (id<n)
 | v=>pure1 v
def scB (n:Nat):Value→Bool
 | .tuple cs=>cs.toList.all (scB1 n)
 | .agg cs=>cs.toList.all (scB1 n)
 | v=>scB1 n v
theorem Qef {n:Nat} {v:Value} (h:scB1 n v=true):Scoped n v:=by
 unfold scB1 at h
 split at h
 ·exact .ptr (decide_eq_true_eq.mp h)
 ·exact .slice (decide_eq_true_eq.mp h)
 ·exact .map (decide_eq_true_eq.mp h)
 ·exact .pure1 h
theorem Qfr {n:Nat} {v:Value} (h:scB n v=true):Scoped n v:=by
 unfold scB at h
 split at h
 ·exact .tup fun i u hu=>Qef (List.all_eq_true.1 h u (Array.mem_toList_iff.2 (Array.mem_of_getElem? hu)))
 ·exact .agg fun i u hu=>Qef (List.all_eq_true.1 h u (Array.mem_toList_iff.2 (Array.mem_of_getElem? hu)))
 ·exact Qef h
def scOB (n:Nat):HObj→Bool
 | .arr cells _ _ _=>cells.all (scB n)
 | .map es=>es.all fun p=>scB n p.2
theorem Qop {n:Nat} {o:HObj} (h:scOB n o=true):ScO n o:=by
 cases o with
 | arr cells v o t=>exact fun v hv=>Qfr (List.all_eq_true.1 h v hv)
 | map es=>exact fun p hp=>Qfr (List.all_eq_true.1 h p hp)
def Qnr (n:Nat):Heap→Heap→Bool
 | [],_=>true
 | _ :: _,[]=>false
 | o :: h,o' :: r=>(eqH [o] [o']||scOB n o')&&Qnr n h r
theorem Qgs {n:Nat}:∀ {h h':Heap},Qnr n h h'=true→h.length≤h'.length∧∀ (i:Nat) (o:HObj),(h'.take h.length)[i]? = some o→h[i]? = some o∨ScO n o
 | [],h',_=>⟨Nat.zero_le _,fun i o hi=>by simp at hi⟩
 | _ :: _,[],h=>by simp [Qnr] at h
 | o :: h,o' :: r,hk=>by
   simp only[Qnr,Bool.and_eq_true,Bool.or_eq_true] at hk
   obtain⟨h1,h2⟩:=Qgs hk.2
   refine⟨by simp only[List.length_cons];omega,fun i q hi=>?_⟩
   cases i with
   | zero=>
     simp only[List.length_cons,List.take_succ_cons,List.getElem?_cons_zero,Option.some.injEq] at hi
     subst hi
     rcases hk.1 with h3|h3
     ·have:=Qam h3
      simp only[List.cons.injEq,and_true] at this
      exact .inl (by rw[this];rfl)
     ·exact .inr (Qop h3)
   | succ i=>
     simp only[List.length_cons,List.take_succ_cons,List.getElem?_cons_succ] at hi ⊢
     exact h2 i q hi
def gcX (h:Heap) (r:Value) (h':Heap):Heap:=if scB h.length r&&Qnr h.length h h' then h'.take h.length else h'
theorem Qrs {N:Env} {f:FuncId} {args:List Value} {h h':Heap} {r:Value} (e:Ev N (.call f args h r h')):Ev N (.call f args h r (gcX h r h')):=by
 unfold gcX
 split
 ·rename_i hc
  rw[Bool.and_eq_true] at hc
  obtain⟨h1,h2⟩:=Qgs hc.2
  have hl:(h'.take h.length).length=h.length:=by rw[List.length_take];omega
  refine .gc2 (g:=h'.drop h.length) (by rw[List.take_append_drop];exact e) (by rw[hl];exact Qfr hc.1) (by rw[hl];exact Nat.le_refl _) (by rw[hl];exact h2)
 ·exact e
def runF (N:Env) (nm:FuncId→Bool) (fuel:Nat) (call:FuncId→List Value→Heap→Option (Value×Heap)) (f:FuncId) (args:List Value) (h:Heap):Option (Value×Heap):=
 match N.P.funcs[f]? with
 | some fn=>match fn.body with
   | some c=>match N.prims f args h with
    | some p=>some p
    | none=>if Zh fn.ntmps c=true∧args.length≤fn.ntmps then (match Qc4 N call nm (drX N call nm) fuel c ⟨Qb1 args fn.ntmps,[],h⟩ with
     | some (.exit _,_)=>none
     | some (_,s1)=>match resA N s1 fn.results.toList with
       | some rs=>some (resV rs,gcX h (resV rs) s1.h)
       | none=>none
     | none=>none) else none
   | none=>none
 | none=>none
theorem Qem {N:Env} {nm:FuncId→Bool} (hm:N.P.follows .mixedOrders=true) (hn:NmOK N nm) {fuel:Nat} {call:FuncId→List Value→Heap→Option (Value×Heap)} (hC:CallOK N call):CallOK N (runF N nm fuel call):=fun f a h r h' e=>by
 unfold runF at e
 split at e
 ·rename_i fn hf
  split at e
  ·rename_i c hb
   split at e
   ·rename_i p hp
    cases e
    exact⟨⟨fn,hf,by rw[hb];rfl⟩,.prim hp⟩
   split at e
   ·rename_i hd
    split at e
    ·cases e
    ·rename_i ex s1 h3 h2
     split at e
     ·rename_i rs hr
      cases e
      refine⟨⟨fn,hf,by rw[hb];rfl⟩,Qrs (.call hf hb hd.1 hd.2 (Qmj (Xas hm hC hn) hC hn h2) ?_ hr)⟩
      cases ex with
      | normal=>exact .inl rfl
      | ret=>exact .inr rfl
      | exit id=>exact (h3 _ rfl).elim
     ·cases e
    ·cases e
   ·cases e
  ·cases e
 ·cases e
def Qe2 (N:Env) (nm:FuncId→Bool) (fuel:Nat):Nat→FuncId→List Value→Heap→Option (Value×Heap)
 | 0,_,_,_=>none
 | d+1,f,args,h=>runF N nm fuel (Qe2 N nm fuel d) f args h
theorem Qdi {N:Env} {nm:FuncId→Bool} (hm:N.P.follows .mixedOrders=true) (hn:NmOK N nm) {fuel:Nat}:∀ d,CallOK N (Qe2 N nm fuel d)
 | 0=>fun f a h r h' e=>by cases e
 | d+1=>Qem hm hn (Qdi hm hn d)
structure Ran where
 f:FuncId
 args:List Value
 h:Heap
 r:Value
 h':Heap
def eqVL:List Value→List Value→Bool
 | [],[]=>true
 | a :: l,b :: r=>eqV a b&&eqVL l r
 | _,_=>false
theorem Qhx:∀ {a b:List Value},eqVL a b=true→a=b
 | [],[],_=>rfl
 | a :: l,b :: r,h=>by
   simp only[eqVL,Bool.and_eq_true] at h
   rw[Qce h.1,Qhx h.2]
 | [],_ :: _,h=>by simp [eqVL] at h
 | _ :: _,[],h=>by simp [eqVL] at h
def Qmo (call:FuncId→List Value→Heap→Option (Value×Heap)):List Ran→FuncId→List Value→Heap→Option (Value×Heap)
 | [],f,args,h=>call f args h
 | m :: l,f,args,h=>if f=m.f then (if eqVL args m.args&&eqH h m.h then some (m.r,m.h') else Qmo call l f args h) else Qmo call l f args h
def RanOK (N:Env) (m:Ran):Prop:=(∃ fn,N.P.funcs[m.f]? = some fn∧fn.body.isNone=false)∧Ev N (.call m.f m.args m.h m.r m.h')
theorem Ql0 {N:Env} {call:FuncId→List Value→Heap→Option (Value×Heap)} (hC:CallOK N call):∀ {l:List Ran},(∀ m∈l,RanOK N m)→CallOK N (Qmo call l)
 | [],_=>hC
 | m :: l,hl=>fun f args h r h' e=>by
   have ih:=Ql0 hC fun x hx=>hl x (List.mem_cons_of_mem _ hx)
   simp only[Qmo] at e
   split at e
   ·rename_i hf
    split at e
    ·rename_i hq
     rw[Bool.and_eq_true] at hq
     cases e
     subst hf
     rw[Qhx hq.1,Qam hq.2]
     exact hl m List.mem_cons_self
    ·exact ih _ _ _ _ _ e
   ·exact ih _ _ _ _ _ e
def ranB (m:Ran) (o:Option (Value×Heap)):Bool:=match o with
 | some (r,h')=>eqV r m.r&&eqH h' m.h'
 | none=>false
theorem Qh6 {N:Env} {call:FuncId→List Value→Heap→Option (Value×Heap)} (hC:CallOK N call) {m:Ran} (h:ranB m (call m.f m.args m.h)=true):RanOK N m:=by
 unfold ranB at h
 split at h
 ·rename_i r h' e
  rw[Bool.and_eq_true] at h
  rw[Qce h.1,Qam h.2] at e
  exact hC _ _ _ _ _ e
 ·cases h
def vw (ops:Array Oper) (L:List (List Nat)) (resL:List Res) (fr0:Fr) (h:Heap) (i:Nat):St:=⟨fr0++Qbb ops resL (ancs L i),ancE ops resL (ancs L i),h⟩
inductive Steps0 (N:Env) (ops:Array Oper) (L:List (List Nat)) (resL:List Res) (fr0:Fr) (h:Heap):Nat→List Oper→Prop
 | nil (i:Nat):Steps0 N ops L resL fr0 h i []
 | cons {i:Nat} {o:Oper} {l:List Oper} {r:Res}:One N ops o (vw ops L resL fr0 h i) r h→resF resL i=r→Steps0 N ops L resL fr0 h (i+1) l→Steps0 N ops L resL fr0 h i (o :: l)
section
variable {N:Env} {ops:Array Oper} {L:List (List Nat)} {resL:List Res}
theorem Steps0.ok {fr:Fr} {h:Heap}:∀ {l:List Oper} {i:Nat},Steps0 N ops L resL (Qat (Jk ops) fr) h i l→StepsOK N ops L [] resL [h] fr i l
 | [],_,_=>trivial
 | o :: l,i,.cons h1 h2 h3=>by
   refine⟨?_,h3.ok⟩
   subst h2
   exact⟨fun _=>h1,trivial⟩
theorem Qra {id:Nat} {s:St} {Q:AX→St→Prop} {h:Heap} (L:List (List Nat)) (resL:List Res) (fr0:Fr) (frF:Fr) (hm:N.P.follows .mixedOrders=true) (hc:ordB ops L []=true) (ht:tgtB ops resL=true) (h0:s.h=h) (hb:Qat (Jk ops) s.fr=fr0)
 (hS:Steps0 N ops L resL fr0 h 0 ops.toList) (hF:FinOK ops resL s.fr frF) (k:Q .normal ⟨frF,[],h⟩):CW N (.region id ops true) s Q:=by
 subst hb
 unfold CW
 exact⟨_,_,Qgc (hs:=[h]) hm hc rfl ht h0 hS.ok hF,k⟩
theorem Xb {all:Array Oper} {o:Oper} {s:St} {h:Heap} {c:Call} {f:FuncId} {cap args:List Value} {fn:Func} {v:Value} (hh:s.h=h) (hw:Ql all o s=some true) (ho:o.op = .call c) (hc:Ji s c.callee=some (f,cap)) (ha:evs s c.args.toList=some args)
 (hf:N.P.funcs[f]? = some fn) (hnm:(fn.name == "runtime.NumGoroutine")=false) (hb:fn.body.isNone=false) (k:FW N f (args++cap) h fun r h'=>r=v∧h'=h):One N all o s (.sl (.val v)) h:=by
 unfold FW at k
 obtain⟨r,h',k1,rfl,rfl⟩:=k
 exact .call hw ho hc ha hf hnm hb (hh▸k1)
def stpZ (N:Env) (all:Array Oper) (o:Oper) (s:St):Option (Res×Heap):=
 match Ql all o s with
 | none=>none
 | some false=>some (.sl (.val (.tuple #[])),s.h)
 | some true=>match o.op,o.dst with
   | .box t x,some _=>(boxC N s (.box t x)).map fun p=>(.sl (.box p.2),s.h)
   | .alloc t,some _=>(boxC N s (.alloc t)).map fun p=>(.sl (.box p.2),s.h)
   | .buildSlice t l ps,some _=>(bslC N s (.buildSlice t l ps)).map fun p=>(.sl (.bsl p.2.1 p.2.2),s.h)
   | op,d=>match vop N s op with
     | some v=>some (.sl (.val v),s.h)
     | none=>match epl N s op,d with
       | some (sl,off),some d=>if sl=d then none else some (.ep sl off,s.h)
       | _,_=>none
theorem zz {all:Array Oper} {o:Oper} {s:St} {r:Res} {h:Heap} (hs:stpZ N all o s=some (r,h)):One N all o s r h:=by
 unfold stpZ at hs
 split at hs
 ·cases hs
 ·rename_i hw
  cases hs
  exact .skip hw
 ·rename_i hw
  split at hs
  ·rename_i t x d ho hd
   cases hb:boxC N s (.box t x) with
   | none=>simp [hb] at hs
   | some p=>
     simp only[hb,Option.map_some,Option.some.injEq,Prod.mk.injEq] at hs
     obtain⟨rfl,rfl⟩:=hs
     exact .box hw hd (by rw[ho];exact hb)
  ·rename_i t d ho hd
   cases hb:boxC N s (.alloc t) with
   | none=>simp [hb] at hs
   | some p=>
     simp only[hb,Option.map_some,Option.some.injEq,Prod.mk.injEq] at hs
     obtain⟨rfl,rfl⟩:=hs
     exact .box hw hd (by rw[ho];exact hb)
  ·rename_i t l ps d ho hd
   cases hb:bslC N s (.buildSlice t l ps) with
   | none=>simp [hb] at hs
   | some p=>
     simp only[hb,Option.map_some,Option.some.injEq,Prod.mk.injEq] at hs
     obtain⟨rfl,rfl⟩:=hs
     exact .bsl hw hd (by rw[ho];exact hb)
  ·split at hs
   ·rename_i v hv
    cases hs
    exact .val hw hv
   ·split at hs
    ·rename_i sl off d he hd
     split at hs
     ·cases hs
     ·rename_i hne
      cases hs
      exact .eph hw hd he hne
    ·cases hs
end
attribute [push_cast] stpZ vw ancs Qbb ancE Xr resF Option.getD_some Option.getD_none
def conB (P:Program):Nat→List Field→Option Nat
 | o,[]=>some o
 | o,f :: r=>if f.offset=o then conB P (o+P.cellsOf f.type) r else none
def Qgq (P:Program) (ts:List TypeId) (t:TypeId):Bool:=
 match P.underlying t with
 | some .bool=>true
 | some (.int _)=>true
 | some .string=>true
 | some (.struct fs)=>decide (conB P 0 fs.toList=some (P.cellsOf t))&&fs.toList.all fun f=>ts.contains f.type
 | some (.array n e)=>decide (P.cellsOf t=n*P.cellsOf e)&&ts.contains e
 | some (.slice e)=>decide (0<P.cellsOf e)&&ts.contains e
 | _=>false
def RdEs (c:Nat) (R:List Value→Prop):Nat→List Value→Prop
 | 0,vs=>vs=[]
 | m+1,vs=>∃ a b,vs=a++b∧a.length=c∧R a∧RdEs c R m b
def RdFs (P:Program) (R:TypeId→List Value→Prop):List Field→List Value→Prop
 | [],vs=>vs=[]
 | f :: r,vs=>∃ a b,vs=a++b∧a.length=P.cellsOf f.type∧R f.type a∧RdFs P R r b
def RdT (P:Program) (h:Heap):Nat→TypeId→List Value→Prop
 | 0,_,_=>False
 | n+1,t,vs=>match P.underlying t with
   | some .bool=>∃ b,vs=[.bool b]
   | some (.int k)=>∃ i,vs=[.int k i]∧(Lit.int k i).wf=true
   | some .string=>∃ s:ByteArray,vs=[.string s]∧s.size≤reachBytes
   | some (.struct fs)=>RdFs P (RdT P h n) fs.toList vs
   | some (.array m e)=>RdEs (P.cellsOf e) (RdT P h n e) m vs
   | some (.slice e)=>vs=[.slice none 0 0]∨vs=[.slice (some ⟨0,0,none⟩) 0 0] ∨
    ∃ id len c cells,vs=[.slice (some ⟨id,0,some 0⟩) len c]∧len*P.bytesOf e≤reachBytes∧h[id]? = some (.arr cells 0 false e)∧RdEs (P.cellsOf e) (RdT P h n e) len cells
   | _=>False
theorem RdEs.mono {c:Nat} {R R':List Value→Prop} (k:∀ vs,R vs→R' vs):∀ {m:Nat} {vs:List Value},RdEs c R m vs→RdEs c R' m vs
 | 0,_,h=>h
 | _+1,_,⟨a,b,h1,h2,h3,h4⟩=>⟨a,b,h1,h2,k _ h3,RdEs.mono k h4⟩
theorem RdFs.mono {P:Program} {R R':TypeId→List Value→Prop} (k:∀ t vs,R t vs→R' t vs):∀ {l:List Field} {vs:List Value},RdFs P R l vs→RdFs P R' l vs
 | [],_,h=>h
 | _ :: _,_,⟨a,b,h1,h2,h3,h4⟩=>⟨a,b,h1,h2,k _ _ h3,RdFs.mono k h4⟩
theorem Qyq {h h':Heap} (hp:h <+: h') {i:Nat} {x:HObj} (hx:h[i]? = some x):h'[i]? = some x:=by
 obtain⟨t,rfl⟩:=hp
 rw[List.getElem?_append_left (List.getElem?_eq_some_iff.1 hx).1]
 exact hx
theorem RdT.mono {P:Program} {h h':Heap} (hp:h <+: h'):∀ {n:Nat} {t:TypeId} {vs:List Value},RdT P h n t vs→RdT P h' n t vs
 | 0,_,_,k=>k
 | n+1,t,vs,k=>by
   unfold RdT at k ⊢
   split at k
   ·exact k
   ·exact k
   ·exact k
   ·exact k.mono fun t vs h=>RdT.mono hp h
   ·exact k.mono fun vs h=>RdT.mono hp h
   ·rcases k with k|k|⟨id,len,c,cells,k1,k2,k3,k4⟩
    ·exact .inl k
    ·exact .inr (.inl k)
    ·exact .inr (.inr ⟨id,len,c,cells,k1,k2,Qyq hp k3,k4.mono fun vs h=>RdT.mono hp h⟩)
   ·exact k
section
variable {P:Program} {W:World} {μ μ':Mu} {h h':Heap}
def Qeb (h:Heap):Prop:=∀ (id:Nat) (o:HObj),h[id]? = some o→o.own=false
theorem VRL.mono' (hx:Ext μ μ'):∀ {a a':List Value},VRL P μ a a'→VRL P μ' a a'
 | [],[],_=>trivial
 | _ :: _,_ :: _,⟨h1,h2⟩=>⟨h1.mono hx,VRL.mono' hx h2⟩
 | [],_ :: _,k=>k.elim
 | _ :: _,[],k=>k.elim
theorem HeapR.addRO (H:HeapR P μ h W) (hn:Qeb h) {cells:List Value} {m:M} (hc:∀ (j:Nat) (v:Value),cells[j]? = some v→∃ v',W.cell? ⟨m.block,m.base+j,none⟩=some v'∧VR P μ v v') (h1:cells.all one=true) (hb:m.block<W.heap.size) :
 HeapR P (μ++[[m]]) (h++[.arr cells 0 false m.et]) W∧Qeb (h++[.arr cells 0 false m.et])∧Ext μ (μ++[[m]])∧mAt (μ++[[m]]) h.length 0=some m:=by
 have hx:Ext μ (μ++[[m]]):=fun id l hl=>⟨[],by rw[List.getElem?_append_left (List.getElem?_eq_some_iff.1 hl).1,List.append_nil];exact hl⟩
 have hnew:Qeb (h++[.arr cells 0 false m.et]):=by
  intro id o ho
  rcases Jv ho with ⟨_,ho'⟩ | ⟨rfl,rfl⟩
  ·exact hn _ _ ho'
  ·rfl
 refine⟨⟨by simp [H.len],?_,?_⟩,hnew,hx,?_⟩
 ·intro id o ho
  rcases Jv ho with ⟨hi,ho'⟩ | ⟨rfl,rfl⟩
  ·obtain⟨q,hq⟩:=H.ob _ _ ho'
   exact⟨q,hq.mono hx (List.getElem?_append_left (by rw[H.len];exact hi)) (Nat.le_refl _) rfl⟩
  ·refine⟨m,⟨[m],by rw[← H.len];simp,rfl,rfl⟩,rfl,fun j v hj=>?_,h1,hb,fun e=>by cases e⟩
   obtain⟨v',k1,k2⟩:=hc j v hj
   exact⟨v',k1,k2.mono hx⟩
 ·intro id1 id2 o1 o2 m1 m2 _ g1 _ ho
  have:=hnew _ _ g1
  rw[ho] at this
  cases this
 ·unfold mAt
  rw[← H.len]
  simp
def Tells (P:Program) (W:World) (R:Heap→List Value→Prop) (cs:List Value):Prop:=
 ∀ μ h,HeapR P μ h W→Qeb h→∃ μ' h' vs,h <+: h'∧Ext μ μ'∧HeapR P μ' h' W∧Qeb h'∧VRL P μ' vs cs∧vs.all one=true∧R h' vs
def Grows (R:Heap→List Value→Prop):Prop:=∀ (h h':Heap) (vs:List Value),h <+: h'→R h vs→R h' vs
theorem Tells.nil {R:Heap→List Value→Prop} (hR:∀ h,R h []):Tells P W R []:=fun μ h H hn=>⟨μ,h,[],List.prefix_refl _,Ext.refl _,H,hn,trivial,rfl,hR h⟩
theorem Tells.pure {R:Heap→List Value→Prop} {v v':Value} (hv:∀ μ,VR P μ v v') (h1:one v=true) (hR:∀ h,R h [v]):Tells P W R [v']:=
 fun μ h H hn=>⟨μ,h,[v],List.prefix_refl _,Ext.refl _,H,hn,⟨hv μ,trivial⟩,by simp [h1],hR h⟩
theorem Tells.append {R1 R2 R:Heap→List Value→Prop} (g1:Grows R1) {c1 c2:List Value} (k1:Tells P W R1 c1) (k2:Tells P W R2 c2) (hR:∀ h a b,a.length=c1.length→R1 h a→R2 h b→R h (a++b)):Tells P W R (c1++c2):=by
 intro μ h H hn
 obtain⟨μ1,h1,a,p1,x1,H1,n1,v1,o1,r1⟩:=k1 μ h H hn
 obtain⟨μ2,h2,b,p2,x2,H2,n2,v2,o2,r2⟩:=k2 μ1 h1 H1 n1
 refine⟨μ2,h2,a++b,p1.trans p2,x1.trans x2,H2,n2,(v1.mono' x2).append v2,by rw[List.all_append,o1,o2];rfl,hR h2 a b v1.length (g1 _ _ _ p2 r1) r2⟩
theorem Tells.es {R:Heap→List Value→Prop} (g:Grows R) {c:Nat}:∀ {l:List (List Value)},(∀ cs∈l,cs.length=c∧Tells P W R cs)→Tells P W (fun h vs=>RdEs c (R h) l.length vs) l.flatten
 | [],_=>Tells.nil fun _=>rfl
 | cs :: l,k=>by
   rw[List.flatten_cons]
   have hk:=k cs List.mem_cons_self
   exact Tells.append (R1:=R) (R2:=fun h vs=>RdEs c (R h) l.length vs) g hk.2 (Tells.es g fun cs h=>k cs (List.mem_cons_of_mem _ h)) fun h a b ha h1 h2=>⟨a,b,rfl,ha.trans hk.1,h1,h2⟩
theorem Qt8 {P:Program}:∀ {l:List Field} {o n:Nat},conB P o l=some n→o≤n
 | [],o,n,h=>by
   simp only[conB,Option.some.injEq] at h
   omega
 | f :: l,o,n,h=>by
   simp only[conB] at h
   split at h
   ·have:=Qt8 h
    omega
   ·cases h
theorem Tells.fs {R:Heap→TypeId→List Value→Prop} (g:∀ t,Grows fun h vs=>R h t vs) {cs:List Value}:∀ {l:List Field} {o:Nat},conB P o l=some cs.length →
 (∀ f∈l,Tells P W (fun h vs=>R h f.type vs) ((cs.drop f.offset).take (P.cellsOf f.type)))→Tells P W (fun h vs=>RdFs P (R h) l vs) (cs.drop o)
 | [],o,hc,_=>by
   simp only[conB,Option.some.injEq] at hc
   rw[List.drop_of_length_le (by omega)]
   exact Tells.nil fun _=>rfl
 | f :: l,o,hc,k=>by
   simp only[conB] at hc
   split at hc
   ·rename_i ho
    have h1:=k f List.mem_cons_self
    rw[ho] at h1
    have h2:=Tells.fs g hc fun f' hf=>k f' (List.mem_cons_of_mem _ hf)
    have hle:o+P.cellsOf f.type≤cs.length:=Qt8 hc
    have e:cs.drop o=(cs.drop o).take (P.cellsOf f.type)++cs.drop (o+P.cellsOf f.type):=by
     rw[← List.drop_drop,List.take_append_drop]
    rw[e]
    refine Tells.append (R1:=fun h vs=>R h f.type vs) (R2:=fun h vs=>RdFs P (R h) l vs) (g f.type) h1 h2 fun h a b ha k1 k2=>⟨a,b,rfl,?_,k1,k2⟩
    rw[ha,List.length_take,List.length_drop]
    omega
   ·cases hc
theorem Qcp {H:Type}:∀ {ts:List TypeId} {ds:List (DataW H)},(DataW.weightsEach P ts ds).all (fun b=>decide (b≤reachBytes))=true→∀ (i:Nat) (t:TypeId) (d:DataW H),ts[i]? = some t→ds[i]? = some d→(d.weights P t).all (fun b=>decide (b≤reachBytes))=true
 | [],_,_,i,t,d,h,_=>by simp at h
 | _ :: _,[],_,i,t,d,_,h=>by simp at h
 | t :: ts,d :: ds,k,i,t',d',h1,h2=>by
   unfold DataW.weightsEach at k
   rw[List.all_append,Bool.and_eq_true] at k
   cases i with
   | zero=>
     simp only[List.getElem?_cons_zero,Option.some.injEq] at h1 h2
     subst h1
     subst h2
     exact k.1
   | succ i=>exact Qcp k.2 i t' d' (by simpa using h1) (by simpa using h2)
theorem Qdc {H:Type} {e:TypeId}:∀ {ds:List (DataW H)},(DataW.weightsAll P e ds).all (fun b=>decide (b≤reachBytes))=true→∀ d∈ds,(d.weights P e).all (fun b=>decide (b≤reachBytes))=true
 | [],_,d,h=>by cases h
 | d :: ds,k,d',h=>by
   unfold DataW.weightsAll at k
   rw[List.all_append,Bool.and_eq_true] at k
   rcases List.mem_cons.1 h with rfl|h
   ·exact k.1
   ·exact Qdc k.2 d' h
theorem Qdb {c:Nat}:∀ {m:Nat} {cs:List Value},cs.length=m*c→((List.range m).map fun i=>(cs.drop (i*c)).take c).flatten=cs
 | 0,cs,h=>by
   rw[Nat.zero_mul] at h
   simp [List.eq_nil_of_length_eq_zero h]
 | m+1,cs,h=>by
   rw[Nat.succ_mul] at h
   have ih:=Qdb (c:=c) (m:=m) (cs:=cs.drop c) (by rw[List.length_drop];omega)
   rw[List.range_succ_eq_map,List.map_cons,List.map_map,List.flatten_cons,Nat.zero_mul,List.drop_zero]
   have e:((fun i=>(cs.drop (i*c)).take c) ∘ Nat.succ)=fun i=>((cs.drop c).drop (i*c)).take c:=by
    funext i
    simp only[Function.comp,List.drop_drop,Nat.succ_mul]
    rw[Nat.add_comm]
   rw[e,ih,List.take_append_drop]
theorem Qed {b c:Nat}:∀ {l:List (List Value)} {o:Nat},(∀ (i:Nat) (cs:List Value),l[i]? = some cs→cs.length=c∧∀ r,r<c→W.cell? ⟨b,o+i*c+r,none⟩=cs[r]?) →
 ∀ (j:Nat) (v:Value),l.flatten[j]? = some v→W.cell? ⟨b,o+j,none⟩=some v
 | [],o,_,j,v,h=>by simp at h
 | cs :: l,o,k,j,v,h=>by
   obtain⟨h1,h2⟩:=k 0 cs rfl
   rw[List.flatten_cons] at h
   rcases Nat.lt_or_ge j cs.length with hj|hj
   ·rw[List.getElem?_append_left hj] at h
    have:=h2 j (by omega)
    rw[Nat.zero_mul,Nat.add_zero] at this
    rw[this,h]
   ·rw[List.getElem?_append_right hj] at h
    have ih:=Qed (b:=b) (c:=c) (l:=l) (o:=o+c) (fun i cs' hi=>by
     obtain⟨q1,q2⟩:=k (i+1) cs' (by simpa using hi)
     refine⟨q1,fun r hr=>?_⟩
     rw[← q2 r hr,Nat.succ_mul]
     congr 2
     omega) (j-cs.length) v h
    rw[← ih]
    congr 2
    omega
theorem Qll {n:Nat} {t:TypeId}:Grows fun h vs=>RdT P h n t vs:=fun _ _ _ hp k=>k.mono hp
theorem Qcm {H:Type} {enc:TypeId×Value→H} {held:Bool} {ts:List TypeId} (hcl:ts.all (Qgq P ts)=true):∀ (n:Nat) (t:TypeId) (cs:List Value) (x:DataW H×List MemPlace),t∈ts →
 DataW.trod enc P W 0 (fun _=>true) held n t cs=some x→(x.1.weights P t).all (fun b=>decide (b≤reachBytes))=true→Tells P W (fun h vs=>RdT P h n t vs) cs
 | 0,t,cs,x,_,h,_=>by simp [DataW.trod] at h
 | n+1,t,cs,x,ht,h,hw=>by
   have hk:=List.all_eq_true.1 hcl t ht
   unfold Qgq at hk
   split at hk
   ·rename_i hu
    obtain⟨b,rfl,_⟩:=DataW.trod_bool hu h
    exact Tells.pure (v:=.bool b) (fun _=>.pure rfl) rfl fun h=>by unfold RdT;rw[hu];exact⟨b,rfl⟩
   ·rename_i k hu
    obtain⟨i,rfl,_,hwf⟩:=DataW.trod_int hu h
    exact Tells.pure (v:=.int k i) (fun _=>.pure rfl) rfl fun h=>by unfold RdT;rw[hu];exact⟨i,rfl,hwf⟩
   ·rename_i hu
    obtain⟨s,rfl,rfl,_⟩:=DataW.trod_string hu h
    refine Tells.pure (v:=.string s) (fun _=>.pure rfl) rfl fun h=>?_
    unfold RdT
    rw[hu]
    refine⟨s,rfl,?_⟩
    unfold DataW.weights at hw
    simpa using hw
   ·rename_i fs hu
    rw[Bool.and_eq_true,decide_eq_true_eq,List.all_eq_true] at hk
    obtain⟨xs,n',hn',rfl,hlen,hxl,hf⟩:=DataW.trod_struct hu h
    obtain rfl:n'=n:=by omega
    unfold DataW.weights at hw
    rw[hu] at hw
    simp only at hw
    have key:=Tells.fs (P:=P) (W:=W) (R:=fun h t vs=>RdT P h n' t vs) (fun t=>Qll) (cs:=cs) (l:=fs.toList) (o:=0) (by rw[hlen];exact hk.1) (fun f hfm=>by
     obtain⟨i,hi,rfl⟩:=List.mem_iff_getElem.1 hfm
     have hfi:fs[i]? = some fs.toList[i]:=by simp
     have h1:=hf i _ hfi
     have hix:i<xs.length:=by rw[hxl];simpa using hi
     rw[List.getElem?_eq_getElem hix] at h1
     refine Qcm hcl n' _ _ _ (by simpa using hk.2 _ (List.getElem_mem hi)) h1 ?_
     exact Qcp hw i _ _ (by rw[List.getElem?_map,List.getElem?_eq_getElem hi];rfl) (by simp [hix]))
    rw[List.drop_zero] at key
    intro μ h H hn
    obtain⟨μ',h',vs,a1,a2,a3,a4,a5,a6,a7⟩:=key μ h H hn
    exact⟨μ',h',vs,a1,a2,a3,a4,a5,a6,by unfold RdT;rw[hu];exact a7⟩
   ·rename_i m e hu
    rw[Bool.and_eq_true,decide_eq_true_eq] at hk
    obtain⟨xs,n',hn',rfl,hlen,hxl,hf⟩:=DataW.trod_array hu h
    obtain rfl:n'=n:=by omega
    unfold DataW.weights at hw
    rw[hu] at hw
    simp only at hw
    have hcs:cs.length=m*P.cellsOf e:=hlen.trans hk.1
    have key:=Tells.es (P:=P) (W:=W) (R:=fun h vs=>RdT P h n' e vs) Qll (c:=P.cellsOf e) (l:=(List.range m).map fun i=>(cs.drop (i*P.cellsOf e)).take (P.cellsOf e)) (fun cs' hm=>by
     rw[List.mem_map] at hm
     obtain⟨i,hi,rfl⟩:=hm
     rw[List.mem_range] at hi
     have h1:=hf i hi
     have hix:i<xs.length:=by rw[hxl];exact hi
     rw[List.getElem?_eq_getElem hix] at h1
     refine⟨?_,Qcm hcl n' _ _ _ (by simpa using hk.2) h1 (Qdc hw _ (List.mem_map.2 ⟨_,List.getElem_mem hix,rfl⟩))⟩
     rw[List.length_take,List.length_drop,hcs]
     have:(i+1)*P.cellsOf e≤m*P.cellsOf e:=Nat.mul_le_mul_right _ hi
     rw[Nat.succ_mul] at this
     omega)
    rw[Qdb hcs,List.length_map,List.length_range] at key
    intro μ h H hn
    obtain⟨μ',h',vs,a1,a2,a3,a4,a5,a6,a7⟩:=key μ h H hn
    exact⟨μ',h',vs,a1,a2,a3,a4,a5,a6,by unfold RdT;rw[hu];exact a7⟩
   ·rename_i e hu
    rw[Bool.and_eq_true,decide_eq_true_eq] at hk
    rcases DataW.trod_slice hu h with ⟨rfl,_⟩ | ⟨a,len,cap,elems,rest,n',hn',rfl,rfl,_,hlc,hcm,hel,hf,hsp,_⟩
    ·exact Tells.pure (v:=.slice none 0 0) (fun _=>.pure rfl) rfl fun h=>by unfold RdT;rw[hu];exact .inl rfl
    obtain rfl:n'=n:=by omega
    obtain⟨hrl,hr⟩:=hsp rfl
    unfold DataW.weights at hw
    rw[hu] at hw
    simp only[List.all_cons,List.all_append,Bool.and_eq_true,decide_eq_true_eq,List.length_map] at hw
    obtain⟨hw1,hw2,_⟩:=hw
    by_cases hcap:cap=0
    ·subst hcap
     obtain rfl:len=0:=by omega
     exact Tells.pure (v:=.slice (some ⟨0,0,none⟩) 0 0) (fun _=>.sliceE) rfl fun h=>by unfold RdT;rw[hu];exact .inr (.inl rfl)
    have hcell:∃ cs',W.cells? 0 (a.add 0) (P.cellsOf e)=some cs':=by
     by_cases hl0:0<len
     ·have:=hf 0 hl0
      rw[List.getElem?_eq_getElem (by omega),Nat.zero_mul,Option.bind_eq_some_iff] at this
      obtain⟨cs',h1,_⟩:=this
      exact⟨cs',h1⟩
     ·have:=hr 0 (by omega)
      obtain rfl:len=0:=by omega
      rw[List.getElem?_eq_getElem (by omega),Nat.zero_add,Nat.zero_mul,Option.bind_eq_some_iff] at this
      obtain⟨cs',h1,_⟩:=this
      exact⟨cs',h1⟩
    obtain⟨hspot,hblk⟩:a.spot=none∧a.block<W.heap.size:=by
     obtain⟨cs',h1⟩:=hcell
     obtain⟨_,h2,h3⟩:=World.cells?_some h1
     have h4:=h3 0 hk.1
     rw[List.getElem?_eq_getElem (by omega)] at h4
     obtain⟨ab,ao,asp⟩:=a
     cases asp with
     | none=>
       refine⟨rfl,?_⟩
       rcases Nat.lt_or_ge ab W.heap.size with h5|h5
       ·exact h5
       ·simp [World.cell?,Addr.add,Array.getElem?_eq_none h5] at h4
     | some sp=>
       exfalso
       unfold World.cell? at h4
       split at h4
       ·simp [Addr.add] at h4
       ·cases h4
    obtain⟨ab,ao,asp⟩:=a
    simp only at hspot hblk
    subst hspot
    have hget:∀ i,i<len→∃ cs',W.cells? 0 ⟨ab,ao+i*P.cellsOf e,none⟩ (P.cellsOf e)=some cs'∧∃ y∈elems,DataW.trod enc P W 0 (fun _=>true) held n' e cs'=some y:=fun i hi=>by
     have:=hf i hi
     rw[List.getElem?_eq_getElem (by omega),Option.bind_eq_some_iff] at this
     obtain⟨cs',h1,h2⟩:=this
     rw[Addr.add_lit] at h1
     exact⟨cs',h1,_,List.getElem_mem _,h2⟩
    have key:=Tells.es (P:=P) (W:=W) (R:=fun h vs=>RdT P h n' e vs) Qll (c:=P.cellsOf e) (l:=(List.range len).map fun i=>(W.cells? 0 ⟨ab,ao+i*P.cellsOf e,none⟩ (P.cellsOf e)).getD []) (fun cs' hm=>by
     rw[List.mem_map] at hm
     obtain⟨i,hi,rfl⟩:=hm
     rw[List.mem_range] at hi
     obtain⟨cs',h1,y,hy,h2⟩:=hget i hi
     rw[h1]
     exact⟨(World.cells?_some h1).2.1,Qcm hcl n' _ _ _ (by simpa using hk.2) h2 (Qdc hw2 _ (List.mem_map.2 ⟨_,hy,rfl⟩))⟩)
    rw[List.length_map,List.length_range] at key
    intro μ h H hn
    obtain⟨μ',h',vs,a1,a2,a3,a4,a5,a6,a7⟩:=key μ h H hn
    have hfl:=Qed (W:=W) (b:=ab) (c:=P.cellsOf e) (l:=(List.range len).map fun i=>(W.cells? 0 ⟨ab,ao+i*P.cellsOf e,none⟩ (P.cellsOf e)).getD []) (o:=ao) (fun i cs' hi=>by
     rw[List.getElem?_map] at hi
     have hil:i<len:=by
      rcases Nat.lt_or_ge i len with h5|h5
      ·exact h5
      ·simp [List.getElem?_eq_none (l:=List.range len) (by simpa using h5)] at hi
     rw[List.getElem?_eq_getElem (by simpa using hil),Option.map_some,List.getElem_range,Option.some.injEq] at hi
     subst hi
     obtain⟨cs',h1,_⟩:=hget i hil
     rw[h1]
     obtain⟨_,q1,q2⟩:=World.cells?_some h1
     refine⟨q1,fun r hr=>?_⟩
     have:=q2 r hr
     rwa [Addr.add_lit] at this)
    obtain⟨b1,b2,b3,b4⟩:=a3.addRO a4 (cells:=vs) (m:=⟨ab,ao,cap*P.cellsOf e,e⟩) (fun j v hj=>by
     obtain⟨v',k1,k2⟩:=a5.get hj
     exact⟨v',hfl j v' k1,k2⟩) a6 hblk
    refine⟨_,_,[.slice (some ⟨h'.length,0,some 0⟩) len len],a1.trans ⟨_,rfl⟩,a2.trans b3,b1,b2,⟨?_,trivial⟩,rfl,?_⟩
    ·have hv:=VR.slice (P:=P) (c:=len) (len:=len) (cap:=cap) (off:=0) b4 hlc hcm (by simp)
     simpa using hv
    ·unfold RdT
     rw[hu]
     refine .inr (.inr ⟨h'.length,len,len,vs,rfl,?_,by simp,a7.mono fun vs k=>k.mono ⟨_,rfl⟩⟩)
     have:len*P.bytesOf e≤(elems.length+rest.length)*P.bytesOf e:=Nat.mul_le_mul_right _ (by omega)
     omega
   ·cases hk
end
def AllP (P:Nat→Prop):List Nat→Prop
 | []=>True
 | a :: l=>P a∧AllP P l
theorem AllP.mem {P:Nat→Prop}:∀ {l:List Nat},AllP P l→∀ k∈l,P k
 | [],_,k,h=>by cases h
 | a :: l,⟨h1,h2⟩,k,h=>by
   rcases List.mem_cons.1 h with rfl|h
   ·exact h1
   ·exact AllP.mem h2 k h
def stg (L:List (List Nat)) (act:List Nat) (i:Nat):List Nat:=(List.range (act.length+1)).filter (Qap L act i)
def nxtA (act:List Nat) (i k:Nat):Nat:=if act.contains i then k+1 else k
inductive StepsA (N:Env) (ops:Array Oper) (L:List (List Nat)) (act:List Nat) (resL:List Res) (hs:List Heap) (fr0:Fr):Nat→List Oper→Prop
 | nil (i:Nat):StepsA N ops L act resL hs fr0 i []
 | cons {i:Nat} {o:Oper} {l:List Oper} {r:Res} (ks:List Nat):stg L act i=ks→AllP (fun k=>One N ops o (vw ops L resL fr0 (hpF hs k) i) r (hpF hs (nxtA act i k))) ks→resF resL i=r→StepsA N ops L act resL hs fr0 (i+1) l→StepsA N ops L act resL hs fr0 i (o :: l)
section
variable {N:Env} {ops:Array Oper} {L:List (List Nat)} {act:List Nat} {resL:List Res} {hs:List Heap}
theorem StageOK.of {fr:Fr} {i:Nat} {o:Oper}:∀ {l:List Nat},(∀ k∈l,Qap L act i k=true→One N ops o (Jd ops L resL fr (hpF hs k) i) (resF resL i) (hpF hs (if i∈act then k+1 else k)))→StageOK N ops L act resL hs fr i o l
 | [],_=>trivial
 | k :: l,h=>⟨h k List.mem_cons_self,StageOK.of fun k' hk=>h k' (List.mem_cons_of_mem _ hk)⟩
theorem StepsA.ok {fr:Fr}:∀ {l:List Oper} {i:Nat},StepsA N ops L act resL hs (Qat (Jk ops) fr) i l→StepsOK N ops L act resL hs fr i l
 | [],_,_=>trivial
 | o :: l,i,.cons ks h0 h1 h2 h3=>by
   refine⟨StageOK.of fun k hk hb=>?_,h3.ok⟩
   have:=h1.mem k (by rw[← h0];exact List.mem_filter.2 ⟨hk,hb⟩)
   subst h2
   unfold nxtA at this
   simp only[List.contains_iff_mem] at this
   exact this
theorem Qqx {id:Nat} {s:St} {Q:AX→St→Prop} (L:List (List Nat)) (act:List Nat) (hs:List Heap) (resL:List Res) (fr0:Fr) (frF:Fr) (hE:Heap) (hm:N.P.follows .mixedOrders=true) (hc:ordB ops L act=true) (ha:act.all (fun a=>decide (a<ops.size))=true) (ht:tgtB ops resL=true)
 (h0:s.h=hpF hs 0) (hl:hpF hs act.length=hE) (hb:Qat (Jk ops) s.fr=fr0) (hS:StepsA N ops L act resL hs fr0 0 ops.toList) (hF:FinOK ops resL s.fr frF) (k:Q .normal ⟨frF,[],hE⟩):CW N (.region id ops true) s Q:=by
 subst hb
 subst hl
 unfold CW
 exact⟨_,_,Qgc (hs:=hs) hm hc ha ht h0 hS.ok hF,k⟩
end
attribute [push_cast] hpF nxtA
end Go.Proofs.YtmdmimkbpikmoaaGreat.Am
namespace Go.Proofs.YtmdmimkbpikmoaaGreat.Am
set_option linter.unusedSimpArgs false
set_option linter.unusedVariables false
open Go.RowKit Go.MapKept
inductive Sh where
 | intS (k:IntKind)
 | booS
 | strS
 | setS
 deriving DecidableEq
def Sh.sz:Sh→Nat
 | .setS=>4
 | _=>1
def Sh.ok:Sh→List Value→Bool
 | .intS k,[.int k' _]=>decide (k=k')
 | .booS,[.bool _]=>true
 | .strS,[.string _]=>true
 | .setS,[.int .u64 _,.int .u64 _,.int .u64 _,.int .u64 _]=>true
 | _,_=>false
def shs:List Sh→List Value→Bool
 | [],l=>l.isEmpty
 | s :: r,l=>s.ok (l.take s.sz)&&shs r (l.drop s.sz)
def Sh.val:Sh→List Value→Value
 | .setS,l=>.agg l.toArray
 | _,l=>l.headD .nilFunc
def shOf (P:Program) (t:TypeId):Option Sh:=
 match P.underlying t with
 | some (.int k)=>some (.intS k)
 | some .bool=>some .booS
 | some .string=>some .strS
 | some (.array 4 e)=>match P.underlying e,P.info? t,P.info? e with
   | some (.int .u64),some i,some j=>if i.size=4∧j.size=1 then some .setS else none
   | _,_,_=>none
 | _=>none
def Qec (P:Program):List Field→Nat→List Sh→Bool
 | [],_,[]=>true
 | f :: fs,off,s :: r=>decide (shOf P f.type=some s)&&decide (f.offset=off)&&(f.name != "_")&&Qec P fs (off+s.sz) r
 | _,_,_=>false
def Jn (P:Program) (t:TypeId) (l:List Sh):Bool:=
 match P.underlying t with
 | some (.struct fs)=>Qec P fs.toList 0 l && !P.stoodInHeld t && !P.eqGuardType P.depth t
 | _=>false
theorem Qkh (n m:ByteArray):(n == m)=decide (n=m):=by
 cases n with
 | mk a=>
 cases m with
 | mk b=>
 have h:((⟨a⟩:ByteArray) == ⟨b⟩)=(a == b):=rfl
 rw[h]
 by_cases e:a=b
 ·subst e
  simp
 ·rw[decide_eq_false (fun k=>e (by injection k)),beq_eq_false_iff_ne]
  exact e
section
variable {P:Program} {w:World}
theorem Qet {t:TypeId} {s:Sh} (h:shOf P t=some s):(∃ k,s = .intS k∧P.underlying t=some (.int k))∨(s = .booS∧P.underlying t=some .bool)∨(s = .strS∧P.underlying t=some .string) ∨
 (s = .setS∧∃ e i j,P.underlying t=some (.array 4 e)∧P.underlying e=some (.int .u64)∧P.info? t=some i∧P.info? e=some j∧i.size=4∧j.size=1):=by
 unfold shOf at h
 split at h
 ·rename_i k hu
  cases h
  exact .inl ⟨k,rfl,hu⟩
 ·rename_i hu
  cases h
  exact .inr (.inl ⟨rfl,hu⟩)
 ·rename_i hu
  cases h
  exact .inr (.inr (.inl ⟨rfl,hu⟩))
 ·rename_i e hu
  split at h
  ·rename_i i j he hi hj
   split at h
   ·rename_i hq
    cases h
    exact .inr (.inr (.inr ⟨rfl,e,i,j,hu,he,hi,hj,hq.1,hq.2⟩))
   ·cases h
  ·cases h
 ·cases h
theorem Sh.ok_len {s:Sh} {l:List Value} (h:s.ok l=true):l.length=s.sz:=by
 unfold Sh.ok at h
 split at h<;>first|rfl|cases h
theorem Qen {l:List Value} (h:Sh.setS.ok l=true):∃ a b c d,l=[.int .u64 a,.int .u64 b,.int .u64 c,.int .u64 d]:=by
 unfold Sh.ok at h
 split at h<;>first|cases h|skip
 all_goals first|exact⟨_,_,_,_,rfl⟩ | (rename_i hq;cases hq;done) | (rename_i h1 h2;cases h1;done) | skip
theorem Qnd {k:IntKind} {l:List Value} (h:(Sh.intS k).ok l=true):∃ a,l=[.int k a]:=by
 match l,h with
 | [.int k' a],h=>
   have:k=k':=by simpa [Sh.ok] using h
   exact⟨a,by rw[this]⟩
theorem Qm0 {l:List Value} (h:Sh.booS.ok l=true):∃ a,l=[.bool a]:=by
 match l,h with
 | [.bool a],_=>exact⟨a,rfl⟩
theorem Qml {l:List Value} (h:Sh.strS.ok l=true):∃ a,l=[.string a]:=by
 match l,h with
 | [.string a],_=>exact⟨a,rfl⟩
theorem Qca {t:TypeId} {d:TypeDesc} (hu:P.underlying t=some d) (hd:d = .bool∨d = .string∨∃ k,d = .int k):P.plainKey t=true:=by
 unfold Program.plainKey
 rw[hu]
 rcases hd with rfl|rfl|⟨k,rfl⟩<;>rfl
theorem Qmn {l:List Value} {xs:Array Value} {off:Nat} (h:(xs.toList.drop off).take l.length=l):∀ (j:Nat) (v:Value),l[j]? = some v→xs[off+j]? = some v:=fun j v hj=>by
 have hlt:=(List.getElem?_eq_some_iff.1 hj).1
 have:((xs.toList.drop off).take l.length)[j]? = some v:=by rw[h];exact hj
 rw[List.getElem?_take_of_lt hlt,List.getElem?_drop] at this
 simpa using this
theorem Qlc {t:TypeId} {s:Sh} (hs:shOf P t=some s) {xs:Array Value} {off:Nat} (hok:s.ok ((xs.toList.drop off).take s.sz)=true):(part t xs off).run P w = .ok (s.val ((xs.toList.drop off).take s.sz)) w:=by
 have hlen:=Sh.ok_len hok
 have hget:=Qmn (l:=(xs.toList.drop off).take s.sz) (xs:=xs) (off:=off) (by rw[hlen])
 rcases Qet hs with ⟨k,rfl,hu⟩ | ⟨rfl,hu⟩ | ⟨rfl,hu⟩ | ⟨rfl,e,i,j,hu,he,hi,hj,hsz,_⟩
 ·obtain⟨a,ha⟩:=Qnd hok
  rw[ha] at hget ⊢
  have:=hget 0 _ rfl
  exact run_part_plain w (Qca hu (.inr (.inr ⟨k,rfl⟩))) this
 ·obtain⟨a,ha⟩:=Qm0 hok
  rw[ha] at hget ⊢
  have:=hget 0 _ rfl
  exact run_part_plain w (Qca hu (.inl rfl)) this
 ·obtain⟨a,ha⟩:=Qml hok
  rw[ha] at hget ⊢
  have:=hget 0 _ rfl
  exact run_part_plain w (Qca hu (.inr (.inl rfl))) this
 ·simp only[part,Qbj hu,Qf3,Sem.run_bind,Result.andThen_ok,if_true,Xt hi,hsz,Sem.run_pure,Sh.val]
  congr 2
  apply Array.toList_inj.1
  simp [Array.toList_extract,Sh.sz,List.extract_eq_take_drop]
theorem eqL4 (a b c d a' b' c' d':Int):eqL [.int .u64 a,.int .u64 b,.int .u64 c,.int .u64 d] [.int .u64 a',.int .u64 b',.int .u64 c',.int .u64 d']=(decide (a=a')&&(decide (b=b')&&(decide (c=c')&&decide (d=d')))):=by
 simp only[eqL,eq1,Bool.and_true]
theorem Qqc (d:Nat) {e:TypeId} (hu:P.underlying e=some (.int .u64)) (xs ys:Array Value) (f g:Nat→Int):∀ (is:List Nat),(∀ i∈is,xs[i]? = some (.int .u64 (f i))∧ys[i]? = some (.int .u64 (g i))) →
 (Op.eqItems (d+1) e 1 xs ys is).run P w = .ok (is.all fun i=>decide (f i=g i)) w
 | [],_=>by simp [Op.eqItems]
 | i :: is,h=>by
   obtain⟨h1,h2⟩:=h i List.mem_cons_self
   have ih:=Qqc d hu xs ys f g is fun j hj=>h j (List.mem_cons_of_mem _ hj)
   have p1:(part e xs (i*1)).run P w = .ok (.int .u64 (f i)) w:=run_part_plain w (Qca hu (.inr (.inr ⟨_,rfl⟩))) (by rw[Nat.mul_one];exact h1)
   have p2:(part e ys (i*1)).run P w = .ok (.int .u64 (g i)) w:=run_part_plain w (Qca hu (.inr (.inr ⟨_,rfl⟩))) (by rw[Nat.mul_one];exact h2)
   simp only[Op.eqItems,Sem.run_bind,p1,p2,Result.andThen_ok,run_equalIn_int w d _ _ _ _ _ hu,List.all_cons]
   by_cases he:f i=g i
   ·simp only[he,beq_self_eq_true,Bool.not_true,Bool.false_eq_true,if_false,decide_true,Bool.true_and]
    exact ih
   ·simp [he]
theorem Qvw (d:Nat) {t e:TypeId} {j:TypeInfo} (hu:P.underlying t=some (.array 4 e)) (he:P.underlying e=some (.int .u64)) (hj:P.info? e=some j) (hs:j.size=1) (a b c q a' b' c' q':Int) :
 (Op.equalIn (d+2) t (.agg #[.int .u64 a,.int .u64 b,.int .u64 c,.int .u64 q]) (.agg #[.int .u64 a',.int .u64 b',.int .u64 c',.int .u64 q'])).run P w =
 .ok (eqL [.int .u64 a,.int .u64 b,.int .u64 c,.int .u64 q] [.int .u64 a',.int .u64 b',.int .u64 c',.int .u64 q']) w:=by
 have hc:P.cellsOf e=1:=by simp [Program.cellsOf,hj,hs]
 rw[run_equalIn_array w (d+1) _ _ hu hj,hc,eqL4]
 rw[Qqc d he _ _ (fun i=>[a,b,c,q].getD i 0) (fun i=>[a',b',c',q'].getD i 0)]
 ·simp only[show List.range 4=[0,1,2,3] from rfl,List.all_cons,List.all_nil,Bool.and_true,List.getD_cons_zero,List.getD_cons_succ]
 ·intro i hi
  have:i=0∨i=1∨i=2∨i=3:=by simp at hi;omega
  rcases this with rfl|rfl|rfl|rfl<;>exact⟨rfl,rfl⟩
theorem Xcc (d:Nat) {t:TypeId} {s:Sh} (hs:shOf P t=some s) {l m:List Value} (hl:s.ok l=true) (hm:s.ok m=true):(Op.equalIn (d+2) t (s.val l) (s.val m)).run P w = .ok (eqL l m) w:=by
 rcases Qet hs with ⟨k,rfl,hu⟩ | ⟨rfl,hu⟩ | ⟨rfl,hu⟩ | ⟨rfl,e,i,j,hu,he,hi,hj,hsz,hjs⟩
 ·obtain⟨a,rfl⟩:=Qnd hl
  obtain⟨b,rfl⟩:=Qnd hm
  show (Op.equalIn (d+1+1) t (.int k a) (.int k b)).run P w=_
  rw[run_equalIn_int w (d+1) _ _ _ _ _ hu]
  simp only[eqL,eq1,Bool.and_true,Bool.beq_eq_decide_eq]
 ·obtain⟨a,rfl⟩:=Qm0 hl
  obtain⟨b,rfl⟩:=Qm0 hm
  show (Op.equalIn (d+1+1) t (.bool a) (.bool b)).run P w=_
  rw[run_equalIn_bool' w (d+1) _ _ _ hu]
  simp only[eqL,eq1,Bool.and_true]
  cases a<;>cases b<;>rfl
 ·obtain⟨a,rfl⟩:=Qml hl
  obtain⟨b,rfl⟩:=Qml hm
  have:(Op.equalIn (d+1+1) t (.string a) (.string b)).run P w = .ok (a == b) w:=by simp [Op.equalIn,run_underlying hu]
  show (Op.equalIn (d+1+1) t (.string a) (.string b)).run P w=_
  rw[this,Qkh]
  simp only[eqL,eq1,Bool.and_true]
 ·obtain⟨a,b,c,q,rfl⟩:=Qen hl
  obtain⟨a',b',c',q',rfl⟩:=Qen hm
  exact Qvw d hu he hj hjs a b c q a' b' c' q'
theorem Qep {l1 l2 m1 m2:List Value} (h:l1.length=m1.length):eqL (l1++l2) (m1++m2)=(eqL l1 m1&&eqL l2 m2):=by
 induction l1 generalizing m1 with
 | nil=>cases m1 with
   | nil=>simp [eqL]
   | cons=>simp at h
 | cons x l ih=>cases m1 with
   | nil=>simp at h
   | cons y m=>simp only[List.cons_append,eqL,ih (by simpa using h),Bool.and_assoc]
theorem Qjs (d:Nat) (xs ys:Array Value):∀ (fs:List Field) (off:Nat) (l:List Sh),Qec P fs off l=true→shs l (xs.toList.drop off)=true→shs l (ys.toList.drop off)=true →
 (Op.eqFields (d+2) xs ys fs).run P w = .ok (eqL (xs.toList.drop off) (ys.toList.drop off)) w
 | [],off,[],_,hx,hy=>by
   simp only[shs,List.isEmpty_iff] at hx hy
   rw[hx,hy]
   simp [Op.eqFields,eqL]
 | [],_,_ :: _,h,_,_=>by simp [Qec] at h
 | _ :: _,_,[],h,_,_=>by simp [Qec] at h
 | f :: fs,off,s :: r,h,hx,hy=>by
   simp only[Qec,Bool.and_eq_true,decide_eq_true_eq] at h
   obtain⟨⟨⟨h1,h2⟩,h3⟩,h4⟩:=h
   simp only[shs,Bool.and_eq_true,List.drop_drop] at hx hy
   have ih:=Qjs d xs ys fs (off+s.sz) r h4 hx.2 hy.2
   have hn:f.name ≠ "_":=by simpa using h3
   have hlx:=Sh.ok_len hx.1
   have hly:=Sh.ok_len hy.1
   simp only[Op.eqFields,ne_eq,hn,not_false_eq_true,if_true,Sem.run_bind,h2,Qlc h1 hx.1,Qlc h1 hy.1,Result.andThen_ok,Xcc d h1 hx.1 hy.1]
   have e1:xs.toList.drop off=(xs.toList.drop off).take s.sz++xs.toList.drop (off+s.sz):=by rw[← List.drop_drop,List.take_append_drop]
   have e2:ys.toList.drop off=(ys.toList.drop off).take s.sz++ys.toList.drop (off+s.sz):=by rw[← List.drop_drop,List.take_append_drop]
   have e3:eqL (xs.toList.drop off) (ys.toList.drop off)=(eqL ((xs.toList.drop off).take s.sz) ((ys.toList.drop off).take s.sz)&&eqL (xs.toList.drop (off+s.sz)) (ys.toList.drop (off+s.sz))):=by
    conv=>lhs;rw[e1,e2]
    exact Qep (by rw[hlx,hly])
   rw[e3]
   generalize eqL ((xs.toList.drop off).take s.sz) ((ys.toList.drop off).take s.sz)=q
   cases q with
   | false=>simp
   | true=>
     simp only[Bool.not_true,Bool.false_eq_true,if_false,Bool.true_and]
     exact ih
theorem Qbf {t:TypeId} {l:List Sh} (h:Jn P t l=true):P.underlying t=some (.struct (P.fieldsOf t))∧Qec P (P.fieldsOf t).toList 0 l=true∧P.stoodInHeld t=false∧P.eqGuardType P.depth t=false:=by
 unfold Jn at h
 split at h
 ·rename_i fs hu
  simp only[Bool.and_eq_true,Bool.not_eq_true'] at h
  have e:P.fieldsOf t=fs:=by simp [Program.fieldsOf,hu]
  rw[e]
  exact⟨hu,h.1.1,h.1.2,h.2⟩
 ·cases h
theorem Qhj {t:TypeId} {l:List Sh} (h:Jn P t l=true) (d:Nat) {xs ys:Array Value} (hx:shs l xs.toList=true) (hy:shs l ys.toList=true):(Op.equalIn (d+3) t (.agg xs) (.agg ys)).run P w = .ok (eqL xs.toList ys.toList) w:=by
 obtain⟨hu,hf,hs,_⟩:=Qbf h
 rw[run_equalIn_struct w (d+2) t xs ys hu hs]
 have:=Qjs (w:=w) d xs ys _ 0 l hf (by simpa using hx) (by simpa using hy)
 simpa using this
theorem Qmi {t:TypeId} {l:List Sh} (h:Jn P t l=true):EqOK P t (shs l):=fun xs ys hx hy=>⟨(Qbf h).2.2.2,fun w=>Qhj h 9997 hx hy⟩
def bas:Value→Bool
 | .int _ _=>true
 | .bool _=>true
 | .string _=>true
 | _=>false
theorem Qtm {v:Value} (h:bas v=true):pure1 v=true:=by
 cases v<;>first|rfl|simp [bas] at h
theorem Xc6 {s:Sh} {l:List Value} (h:s.ok l=true):l.all bas=true:=by
 cases s with
 | intS k=>obtain⟨a,rfl⟩:=Qnd h;rfl
 | booS=>obtain⟨a,rfl⟩:=Qm0 h;rfl
 | strS=>obtain⟨a,rfl⟩:=Qml h;rfl
 | setS=>obtain⟨a,b,c,d,rfl⟩:=Qen h;rfl
theorem Qlf:∀ {l:List Sh} {xs:List Value},shs l xs=true→xs.all bas=true
 | [],xs,h=>by
   simp only[shs,List.isEmpty_iff] at h
   rw[h]
   rfl
 | s :: r,xs,h=>by
   simp only[shs,Bool.and_eq_true] at h
   have:=Qlf h.2
   rw[← List.take_append_drop s.sz xs,List.all_append,this,Bool.and_true]
   exact Xc6 h.1
theorem Qmx {l:List Sh} {xs:List Value} (h:shs l xs=true):xs.all pure1=true:=by
 have:=Qlf h
 rw[List.all_eq_true] at this ⊢
 exact fun v hv=>Qtm (this v hv)
theorem Ql8 {μ:Mu}:∀ {l l':List Value},l.all pure1=true→VRL P μ l l'→l'=l
 | [],[],_,_=>rfl
 | v :: l,v' :: l',h,⟨h1,h2⟩=>by
   simp only[List.all_cons,Bool.and_eq_true] at h
   rw[h1.of_pure1 h.1,Ql8 h.2 h2]
 | [],_ :: _,_,h=>h.elim
 | _ :: _,[],_,h=>h.elim
theorem Qbq {t:TypeId} {l:List Sh} (h:Jn P t l=true):EqOK P t (shs l)∧∀ xs ys:List Value,∀ μ:Mu,VRL P μ xs ys→shs l xs=true→ys=xs:=⟨Qmi h,fun xs ys μ hv hc=>Ql8 (Qmx hc) hv⟩
def kdS (l:List Sh):Value→Bool
 | .agg xs=>shs l xs.toList
 | _=>false
theorem Qdl {l:List Sh} {v:Value} (h:kdS l v=true):∃ xs,v = .agg xs∧shs l xs.toList=true:=by
 unfold kdS at h
 split at h
 ·exact⟨_,rfl,h⟩
 ·cases h
theorem Xh3 {s:Sh} {l m:List Value} (hl:s.ok l=true) (hm:s.ok m=true) (h:eqL l m=true):l=m:=by
 cases s with
 | intS k=>
   obtain⟨a,rfl⟩:=Qnd hl
   obtain⟨b,rfl⟩:=Qnd hm
   simp only[eqL,eq1,Bool.and_true,decide_eq_true_eq] at h
   rw[h]
 | booS=>
   obtain⟨a,rfl⟩:=Qm0 hl
   obtain⟨b,rfl⟩:=Qm0 hm
   simp only[eqL,eq1,Bool.and_true,decide_eq_true_eq] at h
   rw[h]
 | strS=>
   obtain⟨a,rfl⟩:=Qml hl
   obtain⟨b,rfl⟩:=Qml hm
   simp only[eqL,eq1,Bool.and_true,decide_eq_true_eq] at h
   rw[h]
 | setS=>
   obtain⟨a,b,c,d,rfl⟩:=Qen hl
   obtain⟨a',b',c',d',rfl⟩:=Qen hm
   simp only[eqL4,Bool.and_eq_true,decide_eq_true_eq] at h
   obtain⟨rfl,rfl,rfl,rfl⟩:=h
   rfl
theorem Qy2 {s:Sh} {l:List Value} (hl:s.ok l=true):eqL l l=true:=by
 cases s with
 | intS k=>obtain⟨a,rfl⟩:=Qnd hl;simp [eqL,eq1]
 | booS=>obtain⟨a,rfl⟩:=Qm0 hl;simp [eqL,eq1]
 | strS=>obtain⟨a,rfl⟩:=Qml hl;simp [eqL,eq1]
 | setS=>obtain⟨a,b,c,d,rfl⟩:=Qen hl;simp [eqL,eq1]
theorem Qsy:∀ {l:List Sh} {xs ys:List Value},shs l xs=true→shs l ys=true→eqL xs ys=true→xs=ys
 | [],xs,ys,h1,h2,_=>by
   simp only[shs,List.isEmpty_iff] at h1 h2
   rw[h1,h2]
 | s :: r,xs,ys,h1,h2,h=>by
   simp only[shs,Bool.and_eq_true] at h1 h2
   rw[← List.take_append_drop s.sz xs,← List.take_append_drop s.sz ys,Qep (by rw[Sh.ok_len h1.1,Sh.ok_len h2.1]),Bool.and_eq_true] at h
   rw[← List.take_append_drop s.sz xs,← List.take_append_drop s.sz ys,Xh3 h1.1 h2.1 h.1,Qsy h1.2 h2.2 h.2]
theorem Qny:∀ {l:List Sh} {xs:List Value},shs l xs=true→eqL xs xs=true
 | [],xs,h1=>by
   simp only[shs,List.isEmpty_iff] at h1
   rw[h1]
   rfl
 | s :: r,xs,h1=>by
   simp only[shs,Bool.and_eq_true] at h1
   have:=Qep (l1:=xs.take s.sz) (l2:=xs.drop s.sz) (m1:=xs.take s.sz) (m2:=xs.drop s.sz) rfl
   rw[List.take_append_drop] at this
   rw[this,Qy2 h1.1,Qny h1.2]
   rfl
theorem Qru (em:Bool) (d:Nat) {t:TypeId} {s:Sh} (hs:shOf P t=some s) {l:List Value} (hl:s.ok l=true):(Instr.checkKey em (d+2) t (s.val l)).run P w = .ok () w:=by
 rcases Qet hs with ⟨k,rfl,hu⟩ | ⟨rfl,hu⟩ | ⟨rfl,hu⟩ | ⟨rfl,e,i,j,hu,he,hi,hj,hsz,hjs⟩
 ·obtain⟨a,rfl⟩:=Qnd hl
  exact run_checkKey (d:=.int k) hu (by simp [IsKey,Sh.val]) em (d+1)
 ·obtain⟨a,rfl⟩:=Qm0 hl
  exact run_checkKey (d:=.bool) hu (by simp [IsKey,Sh.val]) em (d+1)
 ·obtain⟨a,rfl⟩:=Qml hl
  exact run_checkKey (d:=.string) hu (by simp [IsKey,Sh.val]) em (d+1)
 ·obtain⟨a,b,c,q,rfl⟩:=Qen hl
  show (Instr.checkKey em (d+1+1) t (.agg #[.int .u64 a,.int .u64 b,.int .u64 c,.int .u64 q])).run P w=_
  have ck:∀ n:Int,(Instr.checkKey em (d+1) e (.int .u64 n)).run P w = .ok () w:=fun n=>run_checkKey (d:=.int .u64) he (by simp [IsKey]) em d
  have pt:∀ (i:Nat) (v:Value),(#[Value.int .u64 a,.int .u64 b,.int .u64 c,.int .u64 q]:Array Value)[i]? = some v→(part e #[.int .u64 a,.int .u64 b,.int .u64 c,.int .u64 q] i).run P w = .ok v w:=fun i v h=>run_part_plain w (Qca he (.inr (.inr ⟨_,rfl⟩))) h
  have p0:=pt 0 _ rfl
  have p1:=pt 1 _ rfl
  have p2:=pt 2 _ rfl
  have p3:=pt 3 _ rfl
  unfold Instr.checkKey
  simp only[Sem.run_bind,run_underlying hu,Result.andThen_ok]
  simp only[Std.Legacy.Range.forIn_eq_forIn_range',Std.Legacy.Range.size,Nat.sub_zero,Nat.add_one_sub_one,Nat.div_one]
  simp [List.range',Xt hj,hjs,p0,p1,p2,p3,ck,Result.andThen]
theorem Qis (em:Bool) (d:Nat) (xs:Array Value):∀ (fs:List Field) (off:Nat) (l:List Sh),Qec P fs off l=true→shs l (xs.toList.drop off)=true →
 (forIn fs PUnit.unit fun f _=>(do
  if f.name ≠ "_" then Instr.checkKey em (d+2) f.type (← part f.type xs f.offset)
  pure (ForInStep.yield PUnit.unit):Sem (ForInStep PUnit))).run P w = .ok PUnit.unit w
 | [],off,l,_,_=>by simp
 | f :: fs,off,[],h,_=>by simp [Qec] at h
 | f :: fs,off,s :: r,h,hx=>by
   simp only[Qec,Bool.and_eq_true,decide_eq_true_eq] at h
   obtain⟨⟨⟨h1,h2⟩,h3⟩,h4⟩:=h
   simp only[shs,Bool.and_eq_true,List.drop_drop] at hx
   have ih:=Qis em d xs fs (off+s.sz) r h4 hx.2
   have hn:f.name ≠ "_":=by simpa using h3
   rw[List.forIn_cons]
   simp only[ne_eq,hn,not_false_eq_true,if_true,Sem.run_bind,h2,Qlc h1 hx.1,Result.andThen_ok,Qru em d h1 hx.1,Sem.run_pure]
   exact ih
theorem Qh1 {t:TypeId} {l:List Sh} (h:Jn P t l=true):KeyOK P t (kdS l) where
 pure:=fun v hv=>by
  obtain⟨xs,rfl,hx⟩:=Qdl hv
  exact Qmx hx
 eq:=fun a b ha hb he=>by
  obtain⟨xs,rfl,hx⟩:=Qdl ha
  obtain⟨ys,rfl,hy⟩:=Qdl hb
  rw[Array.toList_inj.1 (Qsy hx hy he)]
 refl:=fun a ha=>by
  obtain⟨xs,rfl,hx⟩:=Qdl ha
  exact Qny hx
 check:=fun em v w hv=>by
  obtain⟨xs,rfl,hx⟩:=Qdl hv
  obtain⟨hu,hf,_,_⟩:=Qbf h
  rw[show (10000:Nat)=9997+2+1 from rfl]
  unfold Instr.checkKey
  simp only[Sem.run_bind,run_underlying hu,Result.andThen_ok]
  rw[← Array.forIn_toList]
  have:=Qis (w:=w) em 9997 xs _ 0 l hf (by simpa using hx)
  simp only[Sem.run_bind] at this ⊢
  rw[this]
  rfl
 find:=fun v es w hv hes=>by
  obtain⟨xs,rfl,hx⟩:=Qdl hv
  rw[run_findKey_eq w (by rw[(Qbf h).1])]
  have key:∀ (m:List MapEntry) (i:Nat),(∀ e∈m,kdS l e.key=true)→(Instr.findAsking t (.agg xs) m i).run P w = .ok (Qai (.agg xs) m i) w:=by
   intro m
   induction m with
   | nil=>intro i _;simp [Instr.findAsking,Qai]
   | cons e m ih=>
     intro i hl
     obtain⟨ys,hm,hy⟩:=Qdl (hl e List.mem_cons_self)
     have ih':=ih (i+1) fun x hx=>hl x (List.mem_cons_of_mem _ hx)
     have hq:(Op.equal t (.agg xs) (.agg ys)).run P w = .ok (eqL xs.toList ys.toList) w:=Qhj h 9997 hx hy
     simp only[Instr.findAsking,Qai,Sem.run_bind,hm,hq,Result.andThen_ok,eqK]
     split
     ·simp
     ·exact ih'
  exact key es 0 hes
 stays:=fun v w hv=>by
  obtain⟨xs,rfl,hx⟩:=Qdl hv
  have hp:=Qlf hx
  have:Instr.sameBits 10000 (.agg xs) (.agg xs)=true:=by
   rw[show (10000:Nat)=9999+1 from rfl]
   simp only[Instr.sameBits,beq_self_eq_true,Bool.true_and,List.all_eq_true]
   intro p hq
   obtain⟨i,hi⟩:=List.getElem?_of_mem hq
   rw[List.getElem?_zip_eq_some] at hi
   have e:p.1=p.2:=Option.some.inj (hi.1.symm.trans hi.2)
   have hpp:=List.all_eq_true.1 hp p.1 (List.mem_of_getElem? hi.1)
   obtain⟨x,y⟩:=p
   simp only at e hpp
   subst e
   cases x<;>first|(simp [bas] at hpp;done) | (simp [Instr.sameBits];done) | (simp only[Instr.sameBits];rw[Qkh];simp)
  simp [Instr.keyThatStays,this]
end
def Qfl:Value→Bool
 | .int .i64 _=>true
 | _=>false
def Zr:Value→Bool
 | .string _=>true
 | _=>false
theorem Qa3 {v:Value} (h:Qfl v=true):∃ n,v = .int .i64 n:=by
 unfold Qfl at h
 split at h
 ·exact⟨_,rfl⟩
 ·cases h
theorem Qa2 {v:Value} (h:Zr v=true):∃ b,v = .string b:=by
 unfold Zr at h
 split at h
 ·exact⟨_,rfl⟩
 ·cases h
theorem Qz8 {P:Program} {t:TypeId} (hu:P.underlying t=some .string):KeyOK P t Zr where
 pure:=fun v h=>by obtain⟨n,rfl⟩:=Qa2 h;rfl
 eq:=fun a b ha hb h=>by
  obtain⟨n,rfl⟩:=Qa2 ha
  obtain⟨m,rfl⟩:=Qa2 hb
  simp only[eqK,eq1,decide_eq_true_eq] at h
  rw[h]
 refl:=fun a ha=>by obtain⟨n,rfl⟩:=Qa2 ha;simp [eqK,eq1]
 check:=fun em v w h=>by
  obtain⟨n,rfl⟩:=Qa2 h
  exact run_checkKey (d:=.string) hu (by simp [IsKey]) em 9999
 find:=fun v es w h hes=>by
  obtain⟨n,rfl⟩:=Qa2 h
  refine run_findKey (d:=.string) hu ?_
  have key:∀ (l:List MapEntry) (i:Nat),(∀ e∈l,Zr e.key=true)→Instr.findNow .string (.string n) l i=some (Qai (.string n) l i):=by
   intro l
   induction l with
   | nil=>intro i _;rfl
   | cons e l ih=>
     intro i hl
     obtain⟨m,hm⟩:=Qa2 (hl e List.mem_cons_self)
     have ih':=ih (i+1) fun x hx=>hl x (List.mem_cons_of_mem _ hx)
     simp only[Instr.findNow,Qai,hm,Instr.sameNow,eqK,eq1,if_true]
     rw[Qkh]
     by_cases hnm:n=m
     ·rw[decide_eq_true hnm]
      simp
     ·rw[decide_eq_false hnm]
      exact ih'
  exact key es 0 hes
 stays:=fun v w h=>by
  obtain⟨n,rfl⟩:=Qa2 h
  exact run_keyThatStays (d:=.string) (by simp [IsKey])
theorem Qzo {P:Program} {t:TypeId} (hu:P.underlying t=some (.int .i64)):KeyOK P t Qfl where
 pure:=fun v h=>by obtain⟨n,rfl⟩:=Qa3 h;rfl
 eq:=fun a b ha hb h=>by
  obtain⟨n,rfl⟩:=Qa3 ha
  obtain⟨m,rfl⟩:=Qa3 hb
  simp only[eqK,eq1,decide_eq_true_eq] at h
  rw[h]
 refl:=fun a ha=>by obtain⟨n,rfl⟩:=Qa3 ha;simp [eqK,eq1]
 check:=fun em v w h=>by
  obtain⟨n,rfl⟩:=Qa3 h
  exact run_checkKey (d:=.int .i64) hu (by simp [IsKey]) em 9999
 find:=fun v es w h hes=>by
  obtain⟨n,rfl⟩:=Qa3 h
  refine run_findKey (d:=.int .i64) hu ?_
  have key:∀ (l:List MapEntry) (i:Nat),(∀ e∈l,Qfl e.key=true)→Instr.findNow (.int .i64) (.int .i64 n) l i=some (Qai (.int .i64 n) l i):=by
   intro l
   induction l with
   | nil=>intro i _;rfl
   | cons e l ih=>
     intro i hl
     obtain⟨m,hm⟩:=Qa3 (hl e List.mem_cons_self)
     have ih':=ih (i+1) fun x hx=>hl x (List.mem_cons_of_mem _ hx)
     simp only[Instr.findNow,Qai,hm,Instr.sameNow,eqK,eq1,if_true]
     by_cases hnm:n=m
     ·simp [hnm]
     ·have hb:(n == m)=false:=by simpa using hnm
      rw[hb,decide_eq_false hnm]
      exact ih'
  exact key es 0 hes
 stays:=fun v w h=>by
  obtain⟨n,rfl⟩:=Qa3 h
  exact run_keyThatStays (d:=.int .i64) (by simp [IsKey])
attribute [push_cast] shs Sh.ok Sh.sz kdS Qfl Zr
end Go.Proofs.YtmdmimkbpikmoaaGreat.Am
namespace Go.Proofs.YtmdmimkbpikmoaaGreat
set_option linter.unusedSimpArgs false
set_option linter.unusedVariables false
set_option maxRecDepth 20000
open Go.RowKit Am Ty
def Qds:List Sh:=[.intS .i64,.intS .i64,.intS .i64]
def Qc2:List Sh:=[.booS,.strS,.setS,.strS]
def Qs2:List Sh:=[.intS .i64,.strS,.setS,.strS,.strS]
def Qij:List Sh:=[.strS,.setS]
def Qhs:List Sh:=[.strS,.strS]
theorem Qsw:Jn Tryz.prog 70 Qds=true:=by kernel_rfl
theorem Xbn:Jn Tryz.prog 154 Qc2=true:=by kernel_rfl
theorem Qxb:Jn Tryz.prog 103 Qc2=true:=by kernel_rfl
theorem Xa6:Jn Tryz.prog 56 Qs2=true:=by kernel_rfl
theorem Qrw:Jn Tryz.prog 112 Qij=true:=by kernel_rfl
theorem Qrv:Jn Tryz.prog 114 Qhs=true:=by kernel_rfl
def Qbw:TypeId→Option (Value→Bool):=fun t=>if t=3 then some Qfl else if t=9 then some Zr else if t=70 then some (kdS Qds) else if t=154 then some (kdS Qc2) else none
theorem Qig:∀ kt kd,Qbw kt=some kd→KeyOK Tryz.prog kt kd:=fun kt kd h=>by
 unfold Qbw at h
 split at h
 ·rename_i e;subst e;cases h;exact Qzo kr
 split at h
 ·rename_i e;subst e;cases h;exact Qz8 kr
 split at h
 ·rename_i e;subst e;cases h;exact Qh1 Qsw
 split at h
 ·rename_i e;subst e;cases h;exact Qh1 Xbn
 ·cases h
def Qkt:TypeId→Option (List Value→Bool):=fun t=>if t=70 then some (shs Qds) else if t=56 then some (shs Qs2) else if t=103 then some (shs Qc2) else if t=112 then some (shs Qij) else if t=114 then some (shs Qhs) else none
theorem Qon:∀ t chk,Qkt t=some chk→EqOK Tryz.prog t chk∧∀ l l':List Value,∀ μ:Mu,VRL Tryz.prog μ l l'→chk l=true→l'=l:=fun t chk h=>by
 unfold Qkt at h
 split at h
 ·rename_i e;subst e;cases h;exact Qbq Qsw
 split at h
 ·rename_i e;subst e;cases h;exact Qbq Xa6
 split at h
 ·rename_i e;subst e;cases h;exact Qbq Qxb
 split at h
 ·rename_i e;subst e;cases h;exact Qbq Qrw
 split at h
 ·rename_i e;subst e;cases h;exact Qbq Qrv
 ·cases h
attribute [push_cast] Qds Qc2 Qs2 Qij Qhs
def hasW (a b c d:Int) (n:Nat):Bool:=(if n / 64=0 then a else if n / 64=1 then b else if n / 64=2 then c else d).toNat.testBit (n % 64)
def Xp (has:Nat→Bool):Nat→List (Fin 256)
 | 0=>[]
 | k+1=>if h:k<256 then (if has k then Xp has k++[⟨k,h⟩] else Xp has k) else Xp has k
def Qbd (l:List (Nat×Nat)) (b:Nat):List (Nat×Nat):=
 match l.getLast? with
 | some (lo,hi)=>if hi+1=b then l.dropLast++[(lo,b)] else l++[(b,b)]
 | none=>[(b,b)]
def Xv (bs:List (Fin 256)):List (Nat×Nat):=bs.foldl (fun l b=>Qbd l b.1) []
def Yk (l:List (Nat×Nat)):List Value:=l.flatMap fun r=>[.int .i64 r.1,.int .i64 r.2]
def wwf (w:Int):Bool:=decide (0≤w)&&decide (w<18446744073709551616)
def Qbc (h:Heap):List Value→Option (Value×Heap)
 | [.agg cs]=>match cs.toList with
   | [.int .u64 a,.int .u64 b,.int .u64 c,.int .u64 d]=>if wwf a&&wwf b&&wwf c&&wwf d then
    (if (Xv (Xp (hasW a b c d) 256)).isEmpty then some (.slice none 0 0,h)
    else some (.slice (some ⟨h.length,0,some 0⟩) (Xv (Xp (hasW a b c d) 256)).length (Xv (Xp (hasW a b c d) 256)).length,h++[HObj.arr (Yk (Xv (Xp (hasW a b c d) 256))) 0 true 214])) else none
   | _=>none
 | _=>none
def Qg2 (h:Heap):List Value→Option (Value×Heap)
 | [.pointer (some ⟨id,0,some ver⟩)]=>match h[id]? with
   | some (.arr [.pointer p,x] v true et)=>if v=ver then (if et=228 then (match p with
     | none=>some (.tuple #[],h.set id (HObj.arr [.pointer (some ⟨id,0,some ver⟩),x] ver true et))
     | some a=>if a=⟨id,0,some ver⟩ then some (.tuple #[],h) else none) else none) else none
   | _=>none
 | _=>none
def Qcl:FuncId→List Value→Heap→Option (Value×Heap):=fun f args h=>if f=205 then Qg2 h args else if f=175 then Qbc h args else none
structure BSet where
 a:Int
 b:Int
 c:Int
 d:Int
 deriving DecidableEq
structure KSym where
 nt:Int
 set:BSet
 deriving DecidableEq
structure Rule where
 lhs:Int
 rhs:List KSym
 deriving DecidableEq
structure Gram where
 nts:Int
 start:Int
 rules:List Rule
 deriving DecidableEq
def Qiz:List Value→Bool
 | [.int .u64 _,.int .u64 _,.int .u64 _,.int .u64 _]=>true
 | _=>false
def Qh9:List Value→Bool
 | [.int .i64 _,.int .u64 _,.int .u64 _,.int .u64 _,.int .u64 _]=>true
 | _=>false
noncomputable def env:Env:=⟨Tryz.prog,fun t=>if t=54 then some Qiz else if t=65 then some Qh9 else Qkt t,Qbw,Qcl⟩
@[push_cast] theorem env_P:env.P=Tryz.prog:=rfl
@[push_cast] theorem env_eqs:env.eqs 54=some Qiz:=rfl
@[push_cast] theorem env_eqs2:env.eqs 65=some Qh9:=rfl
abbrev i64 (n:Int):Value:=.int .i64 n
abbrev u64 (n:Int):Value:=.int .u64 n
def BSet.cells (s:BSet):List Value:=[.int .u64 s.a,.int .u64 s.b,.int .u64 s.c,.int .u64 s.d]
def KSym.cells (s:KSym):List Value:=[.int .i64 s.nt,.int .u64 s.set.a,.int .u64 s.set.b,.int .u64 s.set.c,.int .u64 s.set.d]
def SlR (h:Heap) (v:Value) (n:Nat) (cells:List Value) (et:TypeId) (b:Nat):Prop:=
 n*b≤140737488355328∧(((v = .slice none 0 0∨v = .slice (some ⟨0,0,none⟩) 0 0)∧n=0∧cells=[])∨∃ id ver own c,v = .slice (some ⟨id,0,some ver⟩) n c∧h[id]? = some (.arr cells ver own et))
section
variable {h h':Heap} {v:Value} {n b:Nat} {cells:List Value} {et:TypeId}
theorem SlR.at (hs:SlR h v n cells et b) (hn:0<n):∃ id ver own c,v = .slice (some ⟨id,0,some ver⟩) n c∧h[id]? = some (.arr cells ver own et):=by
 rcases hs.2 with ⟨_,h0,_⟩ | hs
 ·omega
 ·exact hs
theorem SlR.form (hs:SlR h v n cells et b):∃ p c,v = .slice p n c:=by
 rcases hs.2 with ⟨rfl|rfl,rfl,_⟩ | ⟨_,_,_,c,rfl,_⟩
 ·exact⟨_,_,rfl⟩
 ·exact⟨_,_,rfl⟩
 ·exact⟨_,c,rfl⟩
theorem Qc {α:Type} {l l':List α} (hp:l <+: l') {i:Nat} {x:α} (hx:l[i]? = some x):l'[i]? = some x:=by
 obtain⟨t,rfl⟩:=hp
 have:i<l.length:=(List.getElem?_eq_some_iff.1 hx).1
 rw[List.getElem?_append_left this]
 exact hx
theorem SlR.mono (hs:SlR h v n cells et b) (hp:h <+: h'):SlR h' v n cells et b:=by
 refine⟨hs.1,?_⟩
 rcases hs.2 with hs|⟨id,ver,own,c,h1,h2⟩
 ·exact .inl hs
 ·exact .inr ⟨id,ver,own,c,h1,Qc hp h2⟩
end
def RdInts (h:Heap) (v:Value) (l:List Int):Prop:=SlR h v l.length (l.map i64) 3 8
def RdBools (h:Heap) (v:Value) (l:List Bool):Prop:=SlR h v l.length (l.map .bool) 4 1
def RdSets (h:Heap) (v:Value) (l:List BSet):Prop:=SlR h v l.length (l.flatMap BSet.cells) 54 32
def RdSyms (h:Heap) (v:Value) (l:List KSym):Prop:=SlR h v l.length (l.flatMap KSym.cells) 65 40
def RdRules (h:Heap) (v:Value) (l:List Rule):Prop:=
 ∃ us:List Value,us.length=l.length∧SlR h v l.length ((l.zip us).flatMap fun p=>[i64 p.1.lhs,p.2]) 63 32∧∀ (i:Nat) (r:Rule) (u:Value),l[i]? = some r→us[i]? = some u→RdSyms h u r.rhs
def RdGram (h:Heap) (v:Value) (g:Gram):Prop:=∃ u,v = .agg #[i64 g.nts,i64 g.start,u]∧RdRules h u g.rules
theorem Xs {α:Type} {f:α→List Value} {k:Nat} (hf:∀ x,(f x).length=k):∀ (l:List α) (i:Nat) (x:α),l[i]? = some x→rdH (l.flatMap f) (i*k) k=some (f x)
 | [],i,x,h=>by simp at h
 | y :: l,0,x,h=>by
   simp only[List.getElem?_cons_zero,Option.some.injEq] at h
   subst h
   simp only[rdH,rdC,List.flatMap_cons,Nat.zero_mul,Nat.zero_add,List.drop_zero,List.length_append,hf]
   rw[if_pos om,List.take_left' (hf y)]
 | y :: l,i+1,x,h=>by
   have ih:=Xs hf l i x (by simpa using h)
   simp only[rdH,rdC,List.flatMap_cons,List.length_append,hf] at ih ⊢
   rw[Nat.succ_mul]
   split at ih
   ·rename_i hle
    rw[if_pos om]
    rw[show i*k+k=(f y).length+i*k from by rw[hf];omega,List.drop_length_add_append]
    exact ih
   ·cases ih
theorem RdInts.get {h:Heap} {v:Value} {l:List Int} {i:Nat} (hi:i<l.length):(l.map i64)[i]? = some (i64 l[i]):=by simp [hi]
theorem RdBools.get {l:List Bool} {i:Nat} (hi:i<l.length):(l.map Value.bool)[i]? = some (.bool l[i]):=by simp [hi]
theorem Qu0 {l:List KSym} {i:Nat} (hi:i<l.length):rdH (l.flatMap KSym.cells) (i*5) 5=some l[i].cells:=Xs (f:=KSym.cells) (fun _=>rfl) l i l[i] (by simp [hi])
theorem Quk {l:List BSet} {i:Nat} (hi:i<l.length):rdH (l.flatMap BSet.cells) (i*4) 4=some l[i].cells:=Xs (f:=BSet.cells) (fun _=>rfl) l i l[i] (by simp [hi])
theorem Qrc {l:List Rule} {us:List Value} (hl:us.length=l.length) {i:Nat} (hi:i<l.length) :
 rdH ((l.zip us).flatMap fun p=>[i64 p.1.lhs,p.2]) (i*2) 2=some [i64 l[i].lhs,us[i]'(hl▸hi)]:=by
 refine Xs (f:=fun p:Rule×Value=>[i64 p.1.lhs,p.2]) (fun _=>rfl) (l.zip us) i (l[i],us[i]'(hl▸hi)) ?_
 simp [List.getElem?_zip_eq_some,hi,hl▸hi]
theorem RdRules.at {h:Heap} {v:Value} {l:List Rule} (hr:RdRules h v l) {i:Nat} (hi:i<l.length) :
 ∃ id ver own c cells p n c',v = .slice (some ⟨id,0,some ver⟩) l.length c∧h[id]? = some (.arr cells ver own 63)∧n=l[i].rhs.length ∧
   rdH cells (i*2) 2=some [i64 l[i].lhs,.slice p n c']∧RdSyms h (.slice p n c') l[i].rhs:=by
 obtain⟨us,hl,hs,hu⟩:=hr
 obtain⟨id,ver,own,c,rfl,hid⟩:=hs.at om
 have hi':i<us.length:=hl▸hi
 have hS:=hu i l[i] us[i] (by simp [hi]) (by simp [hi'])
 obtain⟨p,c',hp⟩:=hS.form
 refine⟨id,ver,own,c,_,p,l[i].rhs.length,c',rfl,hid,rfl,?_,?_⟩
 ·rw[← hp]
  exact Qrc hl hi
 ·rw[← hp]
  exact hS
theorem RdRules.form {h:Heap} {v:Value} {l:List Rule} (hr:RdRules h v l):∃ p c,v = .slice p l.length c:=by
 obtain⟨_,_,hs,_⟩:=hr
 exact hs.form
theorem RdRules.le {h:Heap} {v:Value} {l:List Rule} (hr:RdRules h v l):l.length≤140737488355328:=by
 obtain⟨_,_,hs,_⟩:=hr
 have:=hs.1
 omega
theorem RdSyms.le {h:Heap} {v:Value} {l:List KSym} (hr:RdSyms h v l):l.length≤140737488355328:=by
 have:=hr.1
 omega
theorem RdRules.mono {h h':Heap} {v:Value} {l:List Rule} (hr:RdRules h v l) (hp:h <+: h'):RdRules h' v l:=by
 obtain⟨us,hl,hs,hu⟩:=hr
 exact⟨us,hl,hs.mono hp,fun i r u h1 h2=>(hu i r u h1 h2).mono hp⟩
theorem RdGram.mono {h h':Heap} {v:Value} {g:Gram} (hr:RdGram h v g) (hp:h <+: h'):RdGram h' v g:=by
 obtain⟨u,rfl,hu⟩:=hr
 exact⟨u,rfl,hu.mono hp⟩
theorem RdSyms.at {h:Heap} {v:Value} {l:List KSym} (hr:RdSyms h v l) {i:Nat} (hi:i<l.length) :
 ∃ id ver own c cells,v = .slice (some ⟨id,0,some ver⟩) l.length c∧h[id]? = some (.arr cells ver own 65)∧rdH cells (i*5) 5=some [i64 l[i].nt,u64 l[i].set.a,u64 l[i].set.b,u64 l[i].set.c,u64 l[i].set.d]:=by
 obtain⟨id,ver,own,c,rfl,hid⟩:=SlR.at hr om
 exact⟨id,ver,own,c,_,rfl,hid,Qu0 hi⟩
theorem RdInts.at {h:Heap} {v:Value} {l:List Int} (hr:RdInts h v l) {i:Nat} (hi:i<l.length) :
 ∃ id ver own c cells,v = .slice (some ⟨id,0,some ver⟩) l.length c∧h[id]? = some (.arr cells ver own 3)∧cells[i]? = some (i64 l[i]):=by
 obtain⟨id,ver,own,c,rfl,hid⟩:=SlR.at hr om
 exact⟨id,ver,own,c,_,rfl,hid,by simp [hi]⟩
theorem RdBools.at {h:Heap} {v:Value} {l:List Bool} (hr:RdBools h v l) {i:Nat} (hi:i<l.length) :
 ∃ id ver own c cells,v = .slice (some ⟨id,0,some ver⟩) l.length c∧h[id]? = some (.arr cells ver own 4)∧cells[i]? = some (.bool l[i]):=by
 obtain⟨id,ver,own,c,rfl,hid⟩:=SlR.at hr om
 exact⟨id,ver,own,c,_,rfl,hid,by simp [hi]⟩
theorem RdSets.at {h:Heap} {v:Value} {l:List BSet} (hr:RdSets h v l) {i:Nat} (hi:i<l.length) :
 ∃ id ver own c cells,v = .slice (some ⟨id,0,some ver⟩) l.length c∧h[id]? = some (.arr cells ver own 54)∧rdH cells (i*4) 4=some [u64 l[i].a,u64 l[i].b,u64 l[i].c,u64 l[i].d]:=by
 obtain⟨id,ver,own,c,rfl,hid⟩:=SlR.at hr om
 exact⟨id,ver,own,c,_,rfl,hid,Quk hi⟩
def forK (n k:Nat) (F:Nat→Fr) (H:Nat→Heap) (I:Nat→Prop) (Q:AX→St→Prop):AX→St→Prop
 | .normal,s=>k<n∧SubL (F (k+1)) s.fr∧s.h=H (k+1)∧I (k+1)
 | e,s=>Q e s
theorem Yq {N:Env} {c:Code} {s:St} {Q:AX→St→Prop} (n:Nat) (F:Nat→Fr) (H:Nat→Heap) (I:Nat→Prop) (h0:SubL (F 0) s.fr) (hh:s.h=H 0) (hI:I 0)
 (hs:∀ k,k≤n→I k→CW N c ⟨F k,[],H k⟩ (forK n k F H I Q)):CW N (.loop c) s Q:=by
 refine Qhc (fun m s=>∃ k,m=n-k∧k≤n∧SubL (F k) s.fr∧s.h=H k∧I k) n ⟨0,rfl,Nat.zero_le _,h0,hh,hI⟩ ?_
 rintro m s ⟨k,rfl,hk,hf,hh,hI⟩
 refine Qi _ hf ?_
 rw[hh]
 refine (hs k hk hI).mono fun e s' hq=>?_
 cases e with
 | normal=>
   obtain⟨h1,h2,h3,h4⟩:=hq
   exact⟨n-(k+1),by omega,k+1,rfl,by omega,h2,h3,h4⟩
 | exit id=>exact hq
 | ret=>exact hq
theorem Qv {k n:Nat} (h:k<n):decide ((k:Int)<(n:Int))=true:=by simp [h]
theorem Qu {k n:Nat} (h:¬ k<n):decide ((k:Int)<(n:Int))=false:=by simp;omega
theorem rng {k n:Nat} (h:k<n):(0≤(k:Int)∧(k:Int)<(n:Int))=True:=by simp;omega
theorem inc {k:Nat} {n:Nat} (h:k<n) (hn:n≤140737488355328):IntKind.i64.wrap ((k:Int)+1)=(k:Int)+1:=Qg om om
end Go.Proofs.YtmdmimkbpikmoaaGreat
