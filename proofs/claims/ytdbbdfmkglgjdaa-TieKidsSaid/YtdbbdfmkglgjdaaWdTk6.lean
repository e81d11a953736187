/- The law TieKids, a closed one that reaches slices.Insert: pieces of its run, lot 6. -/
import Derived.Test.YtdbbdfmkglgjdaaWdTkS2
namespace Go.Proofs.Ytdbbdfmkglgjdaa.Bt
open Go.Ab
set_option maxRecDepth 1000000
theorem q30 : aeval (env SF) 199983 (lf (rt (rt (rt (rt (rt (rt (rt (rt (rt (rt (rt (rt (rt (rt (rt c_pleachlaw19_TieKids)))))))))))))))) t30 h30 = some (.normal, t31, h31) := cut_ok (fok SF) (m := 220) (by kernel_rfl) (by kernel_rfl) (by kernel_rfl)
theorem q31 : aeval (env SF) 199982 (lf (rt (rt (rt (rt (rt (rt (rt (rt (rt (rt (rt (rt (rt (rt (rt (rt c_pleachlaw19_TieKids))))))))))))))))) t31 h31 = some (.normal, t32, h32) := cut_ok (fok SF) (m := 220) (by kernel_rfl) (by kernel_rfl) (by kernel_rfl)
end Go.Proofs.Ytdbbdfmkglgjdaa.Bt
