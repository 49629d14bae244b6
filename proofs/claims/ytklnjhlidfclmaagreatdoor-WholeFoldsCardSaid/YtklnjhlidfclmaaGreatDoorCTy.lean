/- What the types of the program are. -/
import Derived.Test.YtklnjhlidfclmaaGreatDoorProg
import Derived.Test.YtklnjhlidfclmaaGreatDoorDown
import Derived.Test.YtklnjhlidfclmaaGreatDoorEx
import Derived.Test.YtklnjhlidfclmaaGreatDoorTxu
import Derived.Test.YtklnjhlidfclmaaGreatDoorList
import Derived.Test.YtklnjhlidfclmaaGreatDoorAwake
import Derived.Test.YtklnjhlidfclmaaGreatDoorRefL
import Derived.Test.YtklnjhlidfclmaaGreatDoorRefT
import Derived.Test.YtklnjhlidfclmaaGreatDoorRefQ
import Derived.Test.YtklnjhlidfclmaaGreatDoorRefR
import Derived.Test.YtklnjhlidfclmaaGreatDoorLaws
import Derived.Test.YtklnjhlidfclmaaGreatDoorParse
import Derived.Test.YtklnjhlidfclmaaGreatDoorMany
set_option linter.unusedVariables false
set_option linter.unusedSimpArgs false
namespace Go.Proofs.YtklnjhlidfclmaaGreatDoor
open Go.RowKit Cps
attribute [local go_sem] Oper.semAt_some
theorem rowt24 : RowT Tryz.prog 24 2 (.int .i64 0) 8 := ⟨by kernel_rfl, by kernel_rfl, rfl⟩
theorem rowt29 : RowT Tryz.prog 29 3 (.int .i64 0) 8 := ⟨by kernel_rfl, by kernel_rfl, rfl⟩
theorem rowt57 : RowT Tryz.prog 57 37 (.int .i64 0) 8 := ⟨by kernel_rfl, by kernel_rfl, rfl⟩
theorem rowt153 : RowT Tryz.prog 153 9 (.string (bs [])) 16 := ⟨by kernel_rfl, by kernel_rfl, rfl⟩
theorem rowt154 : RowT Tryz.prog 154 5 (.int .u8 0) 1 := ⟨by kernel_rfl, by kernel_rfl, rfl⟩
theorem agg2 : ∀ u, (isAgg 2).run Tryz.prog u = .ok false u := fun _ => by kernel_rfl
theorem siz2 : ∀ u, (Go.sizeOf 2).run Tryz.prog u = .ok 1 u := fun _ => by kernel_rfl
theorem zer2 : ∀ u, (zeroValue 2).run Tryz.prog u = .ok (.int .i64 0) u := fun _ => by kernel_rfl
theorem agg3 : ∀ u, (isAgg 3).run Tryz.prog u = .ok false u := fun _ => by kernel_rfl
theorem siz3 : ∀ u, (Go.sizeOf 3).run Tryz.prog u = .ok 1 u := fun _ => by kernel_rfl
theorem zer3 : ∀ u, (zeroValue 3).run Tryz.prog u = .ok (.int .i64 0) u := fun _ => by kernel_rfl
theorem agg4 : ∀ u, (isAgg 4).run Tryz.prog u = .ok false u := fun _ => by kernel_rfl
theorem siz4 : ∀ u, (Go.sizeOf 4).run Tryz.prog u = .ok 1 u := fun _ => by kernel_rfl
theorem zer4 : ∀ u, (zeroValue 4).run Tryz.prog u = .ok (.bool false) u := fun _ => by kernel_rfl
theorem agg5 : ∀ u, (isAgg 5).run Tryz.prog u = .ok false u := fun _ => by kernel_rfl
theorem siz5 : ∀ u, (Go.sizeOf 5).run Tryz.prog u = .ok 1 u := fun _ => by kernel_rfl
theorem zer5 : ∀ u, (zeroValue 5).run Tryz.prog u = .ok (.int .u8 0) u := fun _ => by kernel_rfl
theorem agg23 : ∀ u, (isAgg 23).run Tryz.prog u = .ok true u := fun _ => by kernel_rfl
theorem siz23 : ∀ u, (Go.sizeOf 23).run Tryz.prog u = .ok 4 u := fun _ => by kernel_rfl
theorem zer23 : ∀ u, (zeroValue 23).run Tryz.prog u = .ok (.agg #[.int .i64 0, .int .i64 0, .int .i64 0, .int .u8 0]) u := fun _ => by kernel_rfl
theorem agg24 : ∀ u, (isAgg 24).run Tryz.prog u = .ok false u := fun _ => by kernel_rfl
theorem siz24 : ∀ u, (Go.sizeOf 24).run Tryz.prog u = .ok 1 u := fun _ => by kernel_rfl
theorem zer24 : ∀ u, (zeroValue 24).run Tryz.prog u = .ok (.slice none 0 0) u := fun _ => by kernel_rfl
theorem agg26 : ∀ u, (isAgg 26).run Tryz.prog u = .ok true u := fun _ => by kernel_rfl
theorem siz26 : ∀ u, (Go.sizeOf 26).run Tryz.prog u = .ok 1 u := fun _ => by kernel_rfl
theorem zer26 : ∀ u, (zeroValue 26).run Tryz.prog u = .ok (.agg #[.slice none 0 0]) u := fun _ => by kernel_rfl
theorem agg28 : ∀ u, (isAgg 28).run Tryz.prog u = .ok true u := fun _ => by kernel_rfl
theorem siz28 : ∀ u, (Go.sizeOf 28).run Tryz.prog u = .ok 2 u := fun _ => by kernel_rfl
theorem zer28 : ∀ u, (zeroValue 28).run Tryz.prog u = .ok (.agg #[.slice none 0 0, .bool false]) u := fun _ => by kernel_rfl
theorem agg29 : ∀ u, (isAgg 29).run Tryz.prog u = .ok false u := fun _ => by kernel_rfl
theorem siz29 : ∀ u, (Go.sizeOf 29).run Tryz.prog u = .ok 1 u := fun _ => by kernel_rfl
theorem zer29 : ∀ u, (zeroValue 29).run Tryz.prog u = .ok (.slice none 0 0) u := fun _ => by kernel_rfl
theorem agg31 : ∀ u, (isAgg 31).run Tryz.prog u = .ok true u := fun _ => by kernel_rfl
theorem siz31 : ∀ u, (Go.sizeOf 31).run Tryz.prog u = .ok 2 u := fun _ => by kernel_rfl
theorem zer31 : ∀ u, (zeroValue 31).run Tryz.prog u = .ok (.agg #[.int .i64 0, .slice none 0 0]) u := fun _ => by kernel_rfl
theorem agg37 : ∀ u, (isAgg 37).run Tryz.prog u = .ok false u := fun _ => by kernel_rfl
theorem siz37 : ∀ u, (Go.sizeOf 37).run Tryz.prog u = .ok 1 u := fun _ => by kernel_rfl
theorem zer37 : ∀ u, (zeroValue 37).run Tryz.prog u = .ok (.int .i64 0) u := fun _ => by kernel_rfl
theorem agg48 : ∀ u, (isAgg 48).run Tryz.prog u = .ok true u := fun _ => by kernel_rfl
theorem siz48 : ∀ u, (Go.sizeOf 48).run Tryz.prog u = .ok 3 u := fun _ => by kernel_rfl
theorem zer48 : ∀ u, (zeroValue 48).run Tryz.prog u = .ok (.agg #[.slice none 0 0, .bool false, .slice none 0 0]) u := fun _ => by kernel_rfl
theorem agg54 : ∀ u, (isAgg 54).run Tryz.prog u = .ok true u := fun _ => by kernel_rfl
theorem siz54 : ∀ u, (Go.sizeOf 54).run Tryz.prog u = .ok 4 u := fun _ => by kernel_rfl
theorem zer54 : ∀ u, (zeroValue 54).run Tryz.prog u = .ok (.agg #[.int .i64 0, .slice none 0 0, .int .i64 0, .slice none 0 0]) u := fun _ => by kernel_rfl
theorem agg60 : ∀ u, (isAgg 60).run Tryz.prog u = .ok true u := fun _ => by kernel_rfl
theorem siz60 : ∀ u, (Go.sizeOf 60).run Tryz.prog u = .ok 2 u := fun _ => by kernel_rfl
theorem zer60 : ∀ u, (zeroValue 60).run Tryz.prog u = .ok (.agg #[.int .i64 0, .int .i64 0]) u := fun _ => by kernel_rfl
theorem agg103 : ∀ u, (isAgg 103).run Tryz.prog u = .ok true u := fun _ => by kernel_rfl
theorem siz103 : ∀ u, (Go.sizeOf 103).run Tryz.prog u = .ok 6 u := fun _ => by kernel_rfl
theorem zer103 : ∀ u, (zeroValue 103).run Tryz.prog u = .ok (.agg #[.slice none 0 0, .bool false, .slice none 0 0, .slice none 0 0, .bool false, .slice none 0 0]) u := fun _ => by kernel_rfl
theorem agg105 : ∀ u, (isAgg 105).run Tryz.prog u = .ok true u := fun _ => by kernel_rfl
theorem siz105 : ∀ u, (Go.sizeOf 105).run Tryz.prog u = .ok 8 u := fun _ => by kernel_rfl
theorem zer105 : ∀ u, (zeroValue 105).run Tryz.prog u = .ok (.agg #[.int .i64 0, .slice none 0 0, .int .i64 0, .slice none 0 0, .int .i64 0, .slice none 0 0, .int .i64 0, .slice none 0 0]) u := fun _ => by kernel_rfl
theorem agg134 : ∀ u, (isAgg 134).run Tryz.prog u = .ok false u := fun _ => by kernel_rfl
theorem siz134 : ∀ u, (Go.sizeOf 134).run Tryz.prog u = .ok 1 u := fun _ => by kernel_rfl
theorem zer134 : ∀ u, (zeroValue 134).run Tryz.prog u = .ok (.int .u64 0) u := fun _ => by kernel_rfl
theorem rowk96 : RowK Tryz.prog 96 60 2 #[.int .i64 0, .int .i64 0] := ⟨by kernel_rfl, siz60, agg60, zer60, rfl⟩
theorem rowk97 : RowK Tryz.prog 97 48 3 #[.slice none 0 0, .bool false, .slice none 0 0] := ⟨by kernel_rfl, siz48, agg48, zer48, rfl⟩
theorem rowk98 : RowK Tryz.prog 98 54 4 #[.int .i64 0, .slice none 0 0, .int .i64 0, .slice none 0 0] := ⟨by kernel_rfl, siz54, agg54, zer54, rfl⟩
theorem rowa97 : RowA Tryz.prog 97 48 3 #[.slice none 0 0, .bool false, .slice none 0 0] 56 := ⟨by kernel_rfl, by kernel_rfl, rfl⟩
theorem rowa98 : RowA Tryz.prog 98 54 4 #[.int .i64 0, .slice none 0 0, .int .i64 0, .slice none 0 0] 64 := ⟨by kernel_rfl, by kernel_rfl, rfl⟩
end Go.Proofs.YtklnjhlidfclmaaGreatDoor
