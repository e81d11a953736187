/- The law TieKids, a closed one that reaches slices.Insert: pieces of its run, lot 0. -/
import Derived.Test.YtdbbdfmkglgjdaaWdTkS2
namespace Go.Proofs.Ytdbbdfmkglgjdaa.Bt
open Go.Ab
set_option maxRecDepth 1000000
theorem q0 : aeval (env SF) 199998 (lf c_pleachlaw19_TieKids) t0 h0 = some (.normal, t1, h1) := cut_ok (fok SF) (m := 220) (by kernel_rfl) (by kernel_rfl) (by kernel_rfl)
theorem q1 : aeval (env SF) 199997 (lf (rt c_pleachlaw19_TieKids)) t1 h1 = some (.normal, t2, h2) := cut_ok (fok SF) (m := 220) (by kernel_rfl) (by kernel_rfl) (by kernel_rfl)
theorem q2 : aeval (env SF) 199996 (lf (rt (rt c_pleachlaw19_TieKids))) t2 h2 = some (.normal, t3, h3) := cut_ok (fok SF) (m := 220) (by kernel_rfl) (by kernel_rfl) (by kernel_rfl)
theorem q3 : aeval (env SF) 199995 (lf (rt (rt (rt c_pleachlaw19_TieKids)))) t3 h3 = some (.normal, t4, h4) := cut_ok (fok SF) (m := 220) (by kernel_rfl) (by kernel_rfl) (by kernel_rfl)
theorem q4a : aeval (env SF) 199993 (lf (lf (rt (rt (rt (rt c_pleachlaw19_TieKids)))))) t4 h4 = some (.normal, t5, h5) := cut_ok (fok SF) (m := 220) (by kernel_rfl) (by kernel_rfl) (by kernel_rfl)
end Go.Proofs.Ytdbbdfmkglgjdaa.Bt
