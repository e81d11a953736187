/- The law TieKids, a closed one that reaches slices.Insert: pieces of its run, lot 1. -/
import Derived.Test.YtdbbdfmkglgjdaaWdTkS2
namespace Go.Proofs.Ytdbbdfmkglgjdaa.Bt
open Go.Ab
set_option maxRecDepth 1000000
theorem q4r0 : aeval (env SF) 199991 (bd (bd (rt (lf (rt (rt (rt (rt c_pleachlaw19_TieKids)))))))) t5 h5 = some (.normal, t6, h6) := cut_ok (fok SF) (m := 220) (by kernel_rfl) (by kernel_rfl) (by kernel_rfl)
theorem q4r1 : aeval (env SF) 199990 (bd (bd (rt (lf (rt (rt (rt (rt c_pleachlaw19_TieKids)))))))) t6 h6 = some (.normal, t7, h7) := cut_ok (fok SF) (m := 220) (by kernel_rfl) (by kernel_rfl) (by kernel_rfl)
theorem q4r2 : aeval (env SF) 199989 (bd (bd (rt (lf (rt (rt (rt (rt c_pleachlaw19_TieKids)))))))) t7 h7 = some (.normal, t8, h8) := cut_ok (fok SF) (m := 220) (by kernel_rfl) (by kernel_rfl) (by kernel_rfl)
theorem q4r3 : aeval (env SF) 199988 (bd (bd (rt (lf (rt (rt (rt (rt c_pleachlaw19_TieKids)))))))) t8 h8 = some (.normal, t9, h9) := cut_ok (fok SF) (m := 220) (by kernel_rfl) (by kernel_rfl) (by kernel_rfl)
theorem q4r4 : aeval (env SF) 199987 (bd (bd (rt (lf (rt (rt (rt (rt c_pleachlaw19_TieKids)))))))) t9 h9 = some (.normal, t10, h10) := cut_ok (fok SF) (m := 220) (by kernel_rfl) (by kernel_rfl) (by kernel_rfl)
end Go.Proofs.Ytdbbdfmkglgjdaa.Bt
