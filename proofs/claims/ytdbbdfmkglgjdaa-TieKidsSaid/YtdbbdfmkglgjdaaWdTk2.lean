/- The law TieKids, a closed one that reaches slices.Insert: pieces of its run, lot 2. -/
import Derived.Test.YtdbbdfmkglgjdaaWdTkS2
namespace Go.Proofs.Ytdbbdfmkglgjdaa.Bt
open Go.Ab
set_option maxRecDepth 1000000
theorem q4r5 : aeval (env SF) 199986 (bd (bd (rt (lf (rt (rt (rt (rt c_pleachlaw19_TieKids)))))))) t10 h10 = some (.normal, t11, h11) := cut_ok (fok SF) (m := 220) (by kernel_rfl) (by kernel_rfl) (by kernel_rfl)
theorem q4r6 : aeval (env SF) 199985 (bd (bd (rt (lf (rt (rt (rt (rt c_pleachlaw19_TieKids)))))))) t11 h11 = some (.normal, t12, h12) := cut_ok (fok SF) (m := 220) (by kernel_rfl) (by kernel_rfl) (by kernel_rfl)
theorem q4x : aeval (env SF) 199985 (bd (rt (lf (rt (rt (rt (rt c_pleachlaw19_TieKids))))))) t12 h12 = some (.exit 0, t13, h13) := cut_ok (fok SF) (m := 220) (by kernel_rfl) (by kernel_rfl) (by kernel_rfl)
theorem q13 : aeval (env SF) 199993 (lf (rt (rt (rt (rt (rt c_pleachlaw19_TieKids)))))) t13 h13 = some (.normal, t14, h14) := cut_ok (fok SF) (m := 220) (by kernel_rfl) (by kernel_rfl) (by kernel_rfl)
theorem q14 : aeval (env SF) 199992 (lf (rt (rt (rt (rt (rt (rt c_pleachlaw19_TieKids))))))) t14 h14 = some (.normal, t15, h15) := cut_ok (fok SF) (m := 220) (by kernel_rfl) (by kernel_rfl) (by kernel_rfl)
end Go.Proofs.Ytdbbdfmkglgjdaa.Bt
