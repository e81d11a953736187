/- The law TieKids, a closed one that reaches slices.Insert: pieces of its run, lot 3. -/
import Derived.Test.YtdbbdfmkglgjdaaWdTkS2
namespace Go.Proofs.Ytdbbdfmkglgjdaa.Bt
open Go.Ab
set_option maxRecDepth 1000000
theorem q15 : aeval (env SF) 199991 (lf (rt (rt (rt (rt (rt (rt (rt c_pleachlaw19_TieKids)))))))) t15 h15 = some (.normal, t16, h16) := cut_ok (fok SF) (m := 220) (by kernel_rfl) (by kernel_rfl) (by kernel_rfl)
theorem q16 : aeval (env SF) 199990 (lf (rt (rt (rt (rt (rt (rt (rt (rt c_pleachlaw19_TieKids))))))))) t16 h16 = some (.normal, t17, h17) := cut_ok (fok SF) (m := 220) (by kernel_rfl) (by kernel_rfl) (by kernel_rfl)
theorem q17 : aeval (env SF) 199989 (lf (rt (rt (rt (rt (rt (rt (rt (rt (rt c_pleachlaw19_TieKids)))))))))) t17 h17 = some (.normal, t18, h18) := cut_ok (fok SF) (m := 220) (by kernel_rfl) (by kernel_rfl) (by kernel_rfl)
theorem q18a : aeval (env SF) 199987 (lf (lf (rt (rt (rt (rt (rt (rt (rt (rt (rt (rt c_pleachlaw19_TieKids)))))))))))) t18 h18 = some (.normal, t19, h19) := cut_ok (fok SF) (m := 220) (by kernel_rfl) (by kernel_rfl) (by kernel_rfl)
theorem q18r0 : aeval (env SF) 199985 (bd (bd (rt (lf (rt (rt (rt (rt (rt (rt (rt (rt (rt (rt c_pleachlaw19_TieKids)))))))))))))) t19 h19 = some (.normal, t20, h20) := cut_ok (fok SF) (m := 220) (by kernel_rfl) (by kernel_rfl) (by kernel_rfl)
end Go.Proofs.Ytdbbdfmkglgjdaa.Bt
