/- A part of the proof of the card: lemmas that the text with the card leans on (see there for what is proved, and under which conditions). -/
import Derived.Test.YtgjdionnbbnmpaaGreatDoorVfac
import Derived.Test.YtgjdionnbbnmpaaGreatDoorShelf
import Derived.Lib.SmallJoins
set_option linter.unusedVariables false
set_option linter.unusedSimpArgs false
namespace Go.Proofs.Vt
open Go Go.RowKit Go.Proofs.Vm Go.Proofs
/-- What a world must hold: the table of powers of ten. -/
def Gp (w : World) : Prop := Lib.TabIs Tryz.prog w "internal/strconv.uint64pow10" IntKind.u64 Lib.pow10Tab
theorem gPow : (Tryz.prog.globalNamed "internal/strconv.uint64pow10").isSome = true := by kernel_rfl
theorem Gp_mono (B : World) (w : World) (h : Gp B) (hb : Below B.heap.size B w) : Gp w := by
  obtain ⟨g, hg⟩ := Option.isSome_iff_exists.1 gPow
  exact Joins.tab_stays hg h hb (Nat.le_refl _)
variable {G : Glob} (hT : ∀ w, G w → Gp w)
include hT in
theorem itoa (n : Int) (h : inI n) : Sat Tryz.prog G 62 [.val false [.v (.int .i64 n)]] (.val false [.v (.string (bs (Lib.itoa n)))]) :=
  sat_itoa Tryz.func62 (by decide) rfl hT (fun n h1 h2 w hw => Tryz.strconv_Itoa n h1 h2 w hw) n h.1 h.2
theorem join (ts : List (List UInt8)) (sep : List UInt8) (hn : ts.length ≤ 140737488355328) (hl : (joinB sep ts).length ≤ 140737488355328) :
    Sat Tryz.prog G 63 [.val false [.l none 1 (rowsS ts)], .val false [.v (.string (bs sep))]] (.val false [.v (.string (bs (joinB sep ts)))]) :=
  sat_join Tryz.func63 (by decide) rfl Tryz.strings_Join_none Tryz.strings_Join ts sep hn hl
end Go.Proofs.Vt
