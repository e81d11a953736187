/- The law TieKids, a closed one that reaches slices.Insert: pieces of its run, lot 5. -/
import Derived.Test.YtdbbdfmkglgjdaaWdTkS2
namespace Go.Proofs.Ytdbbdfmkglgjdaa.Bt
open Go.Ab
set_option maxRecDepth 1000000
theorem q18x : aeval (env SF) 199980 (bd (rt (lf (rt (rt (rt (rt (rt (rt (rt (rt (rt (rt c_pleachlaw19_TieKids))))))))))))) t25 h25 = some (.exit 2, t26, h26) := cut_ok (fok SF) (m := 220) (by kernel_rfl) (by kernel_rfl) (by kernel_rfl)
theorem q26 : aeval (env SF) 199987 (lf (rt (rt (rt (rt (rt (rt (rt (rt (rt (rt (rt c_pleachlaw19_TieKids)))))))))))) t26 h26 = some (.normal, t27, h27) := cut_ok (fok SF) (m := 220) (by kernel_rfl) (by kernel_rfl) (by kernel_rfl)
theorem q27 : aeval (env SF) 199986 (lf (rt (rt (rt (rt (rt (rt (rt (rt (rt (rt (rt (rt c_pleachlaw19_TieKids))))))))))))) t27 h27 = some (.normal, t28, h28) := cut_ok (fok SF) (m := 220) (by kernel_rfl) (by kernel_rfl) (by kernel_rfl)
theorem q28 : aeval (env SF) 199985 (lf (rt (rt (rt (rt (rt (rt (rt (rt (rt (rt (rt (rt (rt c_pleachlaw19_TieKids)))))))))))))) t28 h28 = some (.normal, t29, h29) := cut_ok (fok SF) (m := 220) (by kernel_rfl) (by kernel_rfl) (by kernel_rfl)
theorem q29 : aeval (env SF) 199984 (lf (rt (rt (rt (rt (rt (rt (rt (rt (rt (rt (rt (rt (rt (rt c_pleachlaw19_TieKids))))))))))))))) t29 h29 = some (.normal, t30, h30) := cut_ok (fok SF) (m := 220) (by kernel_rfl) (by kernel_rfl) (by kernel_rfl)
end Go.Proofs.Ytdbbdfmkglgjdaa.Bt
