/- The law TieKids, a closed one that reaches slices.Insert: pieces of its run, lot 4. -/
import Derived.Test.YtdbbdfmkglgjdaaWdTkS2
namespace Go.Proofs.Ytdbbdfmkglgjdaa.Bt
open Go.Ab
set_option maxRecDepth 1000000
theorem q18r1 : aeval (env SF) 199984 (bd (bd (rt (lf (rt (rt (rt (rt (rt (rt (rt (rt (rt (rt c_pleachlaw19_TieKids)))))))))))))) t20 h20 = some (.normal, t21, h21) := cut_ok (fok SF) (m := 220) (by kernel_rfl) (by kernel_rfl) (by kernel_rfl)
theorem q18r2 : aeval (env SF) 199983 (bd (bd (rt (lf (rt (rt (rt (rt (rt (rt (rt (rt (rt (rt c_pleachlaw19_TieKids)))))))))))))) t21 h21 = some (.normal, t22, h22) := cut_ok (fok SF) (m := 220) (by kernel_rfl) (by kernel_rfl) (by kernel_rfl)
theorem q18r3 : aeval (env SF) 199982 (bd (bd (rt (lf (rt (rt (rt (rt (rt (rt (rt (rt (rt (rt c_pleachlaw19_TieKids)))))))))))))) t22 h22 = some (.normal, t23, h23) := cut_ok (fok SF) (m := 220) (by kernel_rfl) (by kernel_rfl) (by kernel_rfl)
theorem q18r4 : aeval (env SF) 199981 (bd (bd (rt (lf (rt (rt (rt (rt (rt (rt (rt (rt (rt (rt c_pleachlaw19_TieKids)))))))))))))) t23 h23 = some (.normal, t24, h24) := cut_ok (fok SF) (m := 220) (by kernel_rfl) (by kernel_rfl) (by kernel_rfl)
theorem q18r5 : aeval (env SF) 199980 (bd (bd (rt (lf (rt (rt (rt (rt (rt (rt (rt (rt (rt (rt c_pleachlaw19_TieKids)))))))))))))) t24 h24 = some (.normal, t25, h25) := cut_ok (fok SF) (m := 220) (by kernel_rfl) (by kernel_rfl) (by kernel_rfl)
end Go.Proofs.Ytdbbdfmkglgjdaa.Bt
