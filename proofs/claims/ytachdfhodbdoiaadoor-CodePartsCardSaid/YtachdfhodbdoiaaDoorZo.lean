/-
  Each of the functions that the laws reach is what the program of Tryd has. Printed by wip/tools/gen2.py. Under no condition.
-/
import Derived.Test.YtachdfhodbdoiaaDoorProg
import Derived.Test.YtachdfhodbdoiaaDoorZk
namespace Go.Proofs.YtachdfhodbdoiaaDoor
open Go Go.Vs
set_option maxRecDepth 100000 in
theorem ok3 : FnOk Tryd.prog 3 c3 := FnOk.of (n := 75) rfl (by kernel_rfl) (by decide)
set_option maxRecDepth 100000 in
theorem ok4 : FnOk Tryd.prog 4 c4 := FnOk.of (n := 57) rfl (by kernel_rfl) (by decide)
set_option maxRecDepth 100000 in
theorem ok5 : FnOk Tryd.prog 5 c5 := FnOk.of (n := 71) rfl (by kernel_rfl) (by decide)
set_option maxRecDepth 100000 in
theorem ok8 : FnOk Tryd.prog 8 c8 := FnOk.of (n := 60) rfl (by kernel_rfl) (by decide)
set_option maxRecDepth 100000 in
theorem ok9 : FnOk Tryd.prog 9 c9 := FnOk.of (n := 9) rfl (by kernel_rfl) (by decide)
set_option maxRecDepth 100000 in
theorem ok10 : FnOk Tryd.prog 10 c10 := FnOk.of (n := 12) rfl (by kernel_rfl) (by decide)
set_option maxRecDepth 100000 in
theorem ok11 : FnOk Tryd.prog 11 c11 := FnOk.of (n := 106) rfl (by kernel_rfl) (by decide)
set_option maxRecDepth 100000 in
theorem ok12 : FnOk Tryd.prog 12 c12 := FnOk.of (n := 81) rfl (by kernel_rfl) (by decide)
set_option maxRecDepth 100000 in
theorem ok13 : FnOk Tryd.prog 13 c13 := FnOk.of (n := 11) rfl (by kernel_rfl) (by decide)
set_option maxRecDepth 100000 in
theorem ok14 : FnOk Tryd.prog 14 c14 := FnOk.of (n := 15) rfl (by kernel_rfl) (by decide)
set_option maxRecDepth 100000 in
theorem ok15 : FnOk Tryd.prog 15 c15 := FnOk.of (n := 63) rfl (by kernel_rfl) (by decide)
set_option maxRecDepth 100000 in
theorem ok16 : FnOk Tryd.prog 16 c16 := FnOk.of (n := 32) rfl (by kernel_rfl) (by decide)
set_option maxRecDepth 100000 in
theorem ok17 : FnOk Tryd.prog 17 c17 := FnOk.of (n := 32) rfl (by kernel_rfl) (by decide)
set_option maxRecDepth 100000 in
theorem ok18 : FnOk Tryd.prog 18 c18 := FnOk.of (n := 19) rfl (by kernel_rfl) (by decide)
set_option maxRecDepth 100000 in
theorem ok22 : FnOk Tryd.prog 22 c22 := FnOk.of (n := 38) rfl (by kernel_rfl) (by decide)
set_option maxRecDepth 100000 in
theorem ok23 : FnOk Tryd.prog 23 c23 := FnOk.of (n := 40) rfl (by kernel_rfl) (by decide)
set_option maxRecDepth 100000 in
theorem ok24 : FnOk Tryd.prog 24 c24 := FnOk.of (n := 65) rfl (by kernel_rfl) (by decide)
set_option maxRecDepth 100000 in
theorem ok25 : FnOk Tryd.prog 25 c25 := FnOk.of (n := 46) rfl (by kernel_rfl) (by decide)
set_option maxRecDepth 100000 in
theorem ok26 : FnOk Tryd.prog 26 c26 := FnOk.of (n := 12) rfl (by kernel_rfl) (by decide)
set_option maxRecDepth 100000 in
theorem ok27 : FnOk Tryd.prog 27 c27 := FnOk.of (n := 27) rfl (by kernel_rfl) (by decide)
set_option maxRecDepth 100000 in
theorem ok28 : FnOk Tryd.prog 28 c28 := FnOk.of (n := 18) rfl (by kernel_rfl) (by decide)
set_option maxRecDepth 100000 in
theorem ok29 : FnOk Tryd.prog 29 c29 := FnOk.of (n := 9) rfl (by kernel_rfl) (by decide)
set_option maxRecDepth 100000 in
theorem ok30 : FnOk Tryd.prog 30 c30 := FnOk.of (n := 11) rfl (by kernel_rfl) (by decide)
set_option maxRecDepth 100000 in
theorem ok34 : FnOk Tryd.prog 34 c34 := FnOk.of (n := 11) rfl (by kernel_rfl) (by decide)
set_option maxRecDepth 100000 in
theorem ok36 : FnOk Tryd.prog 36 c36 := FnOk.of (n := 7) rfl (by kernel_rfl) (by decide)
theorem cprog_ok : ∀ f cf, cprog f = some cf → FnOk Tryd.prog f cf := by
  intro f cf h
  unfold cprog at h
  split at h <;> (try (cases h; done))
  · obtain rfl := Option.some.inj h; exact ok3
  · obtain rfl := Option.some.inj h; exact ok4
  · obtain rfl := Option.some.inj h; exact ok5
  · obtain rfl := Option.some.inj h; exact ok8
  · obtain rfl := Option.some.inj h; exact ok9
  · obtain rfl := Option.some.inj h; exact ok10
  · obtain rfl := Option.some.inj h; exact ok11
  · obtain rfl := Option.some.inj h; exact ok12
  · obtain rfl := Option.some.inj h; exact ok13
  · obtain rfl := Option.some.inj h; exact ok14
  · obtain rfl := Option.some.inj h; exact ok15
  · obtain rfl := Option.some.inj h; exact ok16
  · obtain rfl := Option.some.inj h; exact ok17
  · obtain rfl := Option.some.inj h; exact ok18
  · obtain rfl := Option.some.inj h; exact ok22
  · obtain rfl := Option.some.inj h; exact ok23
  · obtain rfl := Option.some.inj h; exact ok24
  · obtain rfl := Option.some.inj h; exact ok25
  · obtain rfl := Option.some.inj h; exact ok26
  · obtain rfl := Option.some.inj h; exact ok27
  · obtain rfl := Option.some.inj h; exact ok28
  · obtain rfl := Option.some.inj h; exact ok29
  · obtain rfl := Option.some.inj h; exact ok30
  · obtain rfl := Option.some.inj h; exact ok34
  · obtain rfl := Option.some.inj h; exact ok36
end Go.Proofs.YtachdfhodbdoiaaDoor
