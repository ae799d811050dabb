/- Functions of the program, each with what it returns, run by the evaluator; the conditions stand in the theorems. -/
import Derived.Test.YtngnflfjacappaaLDisk
import Derived.Test.YtngnflfjacappaaLMarkD
namespace Go.Proofs.Ytngnflfjacappaa
open Go Go.Proofs.YtngnflfjacappaaW Go.Proofs
set_option linter.unusedVariables false
set_option linter.unusedSimpArgs false
set_option maxRecDepth 100000
set_option maxHeartbeats 8000000
theorem flatR_D (d : Dsk) : FlatR ⟨.agg [.own 1 (d.secs.map rowS), .own 2 (d.cache.map Wr.row)], []⟩ := by
  refine ⟨fun a ha => ?_, fun a ha => absurd ha (by simp)⟩
  simp only [RV.cells, List.mem_cons, List.not_mem_nil, or_false] at ha
  rcases ha with rfl | rfl
  · exact fun x hx y hy => flat_rows flatS d.secs x hx y hy
  · exact fun x hx y hy => flat_rows flatWr d.cache x hx y hy
theorem flatR_DO (d : Dsk) (t : ByteArray) (c : Int) : FlatR ⟨.agg [.own 1 (d.secs.map rowS), .own 2 (d.cache.map Wr.row), .y (yS t), .y (yN c)], []⟩ := by
  refine ⟨fun a ha => ?_, fun a ha => absurd ha (by simp)⟩
  simp only [RV.cells, List.mem_cons, List.not_mem_nil, or_false] at ha
  rcases ha with rfl | rfl | rfl | rfl
  · exact fun x hx y hy => flat_rows flatS d.secs x hx y hy
  · exact fun x hx y hy => flat_rows flatWr d.cache x hx y hy
  · trivial
  · trivial
end Go.Proofs.Ytngnflfjacappaa
