/- What the types of the program are. -/
import Derived.Test.YtklnjhlidfclmaaDoorProg
import Derived.Test.YtklnjhlidfclmaaDoorDown
import Derived.Test.YtklnjhlidfclmaaDoorEx
import Derived.Test.YtklnjhlidfclmaaDoorTxu
import Derived.Test.YtklnjhlidfclmaaDoorList
import Derived.Test.YtklnjhlidfclmaaDoorAwake
import Derived.Test.YtklnjhlidfclmaaDoorRefL
import Derived.Test.YtklnjhlidfclmaaDoorRefT
import Derived.Test.YtklnjhlidfclmaaDoorRefQ
import Derived.Test.YtklnjhlidfclmaaDoorRefR
import Derived.Test.YtklnjhlidfclmaaDoorLaws
import Derived.Test.YtklnjhlidfclmaaDoorParse
import Derived.Test.YtklnjhlidfclmaaDoorMany
set_option linter.unusedVariables false
set_option linter.unusedSimpArgs false
namespace Go.Proofs.YtklnjhlidfclmaaDoor
open Go.RowKit Cps
attribute [local go_sem] Oper.semAt_some
theorem rowt24 : RowT Tryd.prog 24 2 (.int .i64 0) 8 := ⟨by kernel_rfl, by kernel_rfl, rfl⟩
theorem rowt29 : RowT Tryd.prog 29 3 (.int .i64 0) 8 := ⟨by kernel_rfl, by kernel_rfl, rfl⟩
theorem rowt44 : RowT Tryd.prog 44 9 (.string (bs [])) 16 := ⟨by kernel_rfl, by kernel_rfl, rfl⟩
theorem rowt101 : RowT Tryd.prog 101 5 (.int .u8 0) 1 := ⟨by kernel_rfl, by kernel_rfl, rfl⟩
theorem agg2 : ∀ u, (isAgg 2).run Tryd.prog u = .ok false u := fun _ => by kernel_rfl
theorem siz2 : ∀ u, (Go.sizeOf 2).run Tryd.prog u = .ok 1 u := fun _ => by kernel_rfl
theorem zer2 : ∀ u, (zeroValue 2).run Tryd.prog u = .ok (.int .i64 0) u := fun _ => by kernel_rfl
theorem agg3 : ∀ u, (isAgg 3).run Tryd.prog u = .ok false u := fun _ => by kernel_rfl
theorem siz3 : ∀ u, (Go.sizeOf 3).run Tryd.prog u = .ok 1 u := fun _ => by kernel_rfl
theorem zer3 : ∀ u, (zeroValue 3).run Tryd.prog u = .ok (.int .i64 0) u := fun _ => by kernel_rfl
theorem agg4 : ∀ u, (isAgg 4).run Tryd.prog u = .ok false u := fun _ => by kernel_rfl
theorem siz4 : ∀ u, (Go.sizeOf 4).run Tryd.prog u = .ok 1 u := fun _ => by kernel_rfl
theorem zer4 : ∀ u, (zeroValue 4).run Tryd.prog u = .ok (.bool false) u := fun _ => by kernel_rfl
theorem agg5 : ∀ u, (isAgg 5).run Tryd.prog u = .ok false u := fun _ => by kernel_rfl
theorem siz5 : ∀ u, (Go.sizeOf 5).run Tryd.prog u = .ok 1 u := fun _ => by kernel_rfl
theorem zer5 : ∀ u, (zeroValue 5).run Tryd.prog u = .ok (.int .u8 0) u := fun _ => by kernel_rfl
theorem agg9 : ∀ u, (isAgg 9).run Tryd.prog u = .ok false u := fun _ => by kernel_rfl
theorem siz9 : ∀ u, (Go.sizeOf 9).run Tryd.prog u = .ok 1 u := fun _ => by kernel_rfl
theorem zer9 : ∀ u, (zeroValue 9).run Tryd.prog u = .ok (.string (bs [])) u := fun _ => by kernel_rfl
theorem agg23 : ∀ u, (isAgg 23).run Tryd.prog u = .ok true u := fun _ => by kernel_rfl
theorem siz23 : ∀ u, (Go.sizeOf 23).run Tryd.prog u = .ok 4 u := fun _ => by kernel_rfl
theorem zer23 : ∀ u, (zeroValue 23).run Tryd.prog u = .ok (.agg #[.int .i64 0, .int .i64 0, .int .i64 0, .int .u8 0]) u := fun _ => by kernel_rfl
theorem agg24 : ∀ u, (isAgg 24).run Tryd.prog u = .ok false u := fun _ => by kernel_rfl
theorem siz24 : ∀ u, (Go.sizeOf 24).run Tryd.prog u = .ok 1 u := fun _ => by kernel_rfl
theorem zer24 : ∀ u, (zeroValue 24).run Tryd.prog u = .ok (.slice none 0 0) u := fun _ => by kernel_rfl
theorem agg26 : ∀ u, (isAgg 26).run Tryd.prog u = .ok true u := fun _ => by kernel_rfl
theorem siz26 : ∀ u, (Go.sizeOf 26).run Tryd.prog u = .ok 1 u := fun _ => by kernel_rfl
theorem zer26 : ∀ u, (zeroValue 26).run Tryd.prog u = .ok (.agg #[.slice none 0 0]) u := fun _ => by kernel_rfl
theorem agg28 : ∀ u, (isAgg 28).run Tryd.prog u = .ok true u := fun _ => by kernel_rfl
theorem siz28 : ∀ u, (Go.sizeOf 28).run Tryd.prog u = .ok 2 u := fun _ => by kernel_rfl
theorem zer28 : ∀ u, (zeroValue 28).run Tryd.prog u = .ok (.agg #[.slice none 0 0, .bool false]) u := fun _ => by kernel_rfl
theorem agg29 : ∀ u, (isAgg 29).run Tryd.prog u = .ok false u := fun _ => by kernel_rfl
theorem siz29 : ∀ u, (Go.sizeOf 29).run Tryd.prog u = .ok 1 u := fun _ => by kernel_rfl
theorem zer29 : ∀ u, (zeroValue 29).run Tryd.prog u = .ok (.slice none 0 0) u := fun _ => by kernel_rfl
theorem agg31 : ∀ u, (isAgg 31).run Tryd.prog u = .ok true u := fun _ => by kernel_rfl
theorem siz31 : ∀ u, (Go.sizeOf 31).run Tryd.prog u = .ok 2 u := fun _ => by kernel_rfl
theorem zer31 : ∀ u, (zeroValue 31).run Tryd.prog u = .ok (.agg #[.int .i64 0, .slice none 0 0]) u := fun _ => by kernel_rfl
theorem agg48 : ∀ u, (isAgg 48).run Tryd.prog u = .ok true u := fun _ => by kernel_rfl
theorem siz48 : ∀ u, (Go.sizeOf 48).run Tryd.prog u = .ok 3 u := fun _ => by kernel_rfl
theorem zer48 : ∀ u, (zeroValue 48).run Tryd.prog u = .ok (.agg #[.slice none 0 0, .bool false, .slice none 0 0]) u := fun _ => by kernel_rfl
theorem agg61 : ∀ u, (isAgg 61).run Tryd.prog u = .ok true u := fun _ => by kernel_rfl
theorem siz61 : ∀ u, (Go.sizeOf 61).run Tryd.prog u = .ok 6 u := fun _ => by kernel_rfl
theorem zer61 : ∀ u, (zeroValue 61).run Tryd.prog u = .ok (.agg #[.slice none 0 0, .bool false, .slice none 0 0, .slice none 0 0, .bool false, .slice none 0 0]) u := fun _ => by kernel_rfl
theorem agg81 : ∀ u, (isAgg 81).run Tryd.prog u = .ok false u := fun _ => by kernel_rfl
theorem siz81 : ∀ u, (Go.sizeOf 81).run Tryd.prog u = .ok 1 u := fun _ => by kernel_rfl
theorem zer81 : ∀ u, (zeroValue 81).run Tryd.prog u = .ok (.int .u64 0) u := fun _ => by kernel_rfl
theorem rowk89 : RowK Tryd.prog 89 48 3 #[.slice none 0 0, .bool false, .slice none 0 0] := ⟨by kernel_rfl, siz48, agg48, zer48, rfl⟩
end Go.Proofs.YtklnjhlidfclmaaDoor
