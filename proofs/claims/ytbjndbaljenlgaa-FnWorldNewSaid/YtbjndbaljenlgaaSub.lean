/- Regions that draw their order and hold calls that make new memory only: one walk of the text's order. No condition. -/
import Derived.Test.YtbjndbaljenlgaaFd
import Derived.BigQuiet
import Derived.Deep.QuietTactic
namespace Go.Proofs.Ytbjndbaljenlgaa
open Go.RowKit
/-- a later world in which all that was there stands -/
def Sub (w0 : World) : Type := { w : World // Below w0.heap.size w0 w }
instance (w0 : World) : Nonempty (Sub w0) := ⟨⟨w0, Below.refl _ _⟩⟩
def Sub.w {w0 : World} (x : Sub w0) : World := x.1
theorem Sub.b {w0 : World} (x : Sub w0) : Below w0.heap.size w0 x.w := x.2
theorem Sub.cell {w0 : World} {a : Addr} {u : Value} (h : w0.cell? a = some u) (x : Sub w0) : x.w.cell? a = some u := cell_keep x.b h
theorem wp_region_sub {P : Program} {id : Nat} {Q : Exit → Act → World → Prop} {a : Act} {w : World} {l : List Oper} (hm : P.follows .mixedOrders = true) (hB : Region.lexB .any l.toArray = true)
    (h : wpQuiet P l.toArray (fun w' => ∃ x : Sub w, w' = x.w) (fun a' => ∀ w', (∃ x : Sub w, w' = x.w) → Q .normal a' w') l a) : (Code.region id l.toArray true).wp P Q a w :=
  wp_region_quiet (C := fun w' => ∃ x : Sub w, w' = x.w) hm hB ⟨⟨_, (Below.refl w.heap.size w).drew⟩, rfl⟩ (by simpa using h)
theorem Calls.sub {P : Program} {f : FuncId} {args : Array Value} {w0 : World} {x : Sub w0} {v : Value}
    (h : ∀ w, Below w0.heap.size w0 w → Calls P f args w fun e w' => e = .returned v ∧ Below w.heap.size w w') : Calls P f args x.w fun e w'' => e = .returned v ∧ ∃ x' : Sub w0, w'' = x'.w :=
  (h x.w x.b).mono fun _ w'' ⟨he, hb⟩ => ⟨he, ⟨w'', x.b.trans (hb.mono x.b.size)⟩, rfl⟩
theorem Calls.sub_same {P : Program} {f : FuncId} {args : Array Value} {w0 : World} {x : Sub w0} {v : Value}
    (h : ∀ w, Below w0.heap.size w0 w → Calls P f args w fun e w' => e = .returned v ∧ w = w') : Calls P f args x.w fun e w'' => e = .returned v ∧ ∃ x' : Sub w0, w'' = x'.w :=
  (h x.w x.b).mono fun _ _ ⟨he, hb⟩ => ⟨he, x, hb.symm⟩
end Go.Proofs.Ytbjndbaljenlgaa
