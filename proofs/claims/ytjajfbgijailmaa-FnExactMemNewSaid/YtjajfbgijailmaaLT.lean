/- A region that draws its order, whose operations read and whose calls leave alone what there was: one walk, in the order of the text, over all worlds in which what there was stands. -/
import Derived.Test.YtjajfbgijailmaaProg
import Derived.BigQuiet
import Derived.Below
import Derived.Deep.Draws
import Derived.Test.YtjajfbgijailmaaWWords
import Derived.Test.YtjajfbgijailmaaWMore
namespace Go.Proofs.Ytjajfbgijailmaa.LT
open Go.RowKit Go.Proofs.YtjajfbgijailmaaW.PrintWords Go.Proofs.YtjajfbgijailmaaW.PrintLast Go.Proofs.YtjajfbgijailmaaW.PrintMore
/-- A world in which all that lay in w lies unturned. -/
structure Later (w : World) where
  wd : World
  h : Below w.heap.size w wd
instance {w : World} : Nonempty (Later w) := ⟨⟨w, Below.refl _ _⟩⟩
theorem wp_region_later {P : Program} {id : Nat} {Q : Exit → Act → World → Prop} {a : Act} {w : World} {l : List Oper} (hm : P.follows .mixedOrders = true) (hB : Region.lexB .any l.toArray = true)
    (h : wpQuiet P l.toArray (fun w' => ∃ s : Later w, w' = s.wd) (fun a' => ∀ w', (∃ s : Later w, w' = s.wd) → Q .normal a' w') l a) : (Code.region id l.toArray true).wp P Q a w :=
  wp_region_quiet (C := fun w' => ∃ s : Later w, w' = s.wd) hm hB ⟨⟨_, (Below.refl w.heap.size w).drew⟩, rfl⟩ (by simpa using h)
theorem Later.call {P : Program} {f : FuncId} {args : Array Value} {w : World} {s : Later w} {v : Value} (h : Calls P f args s.wd fun e w' => e = .returned v ∧ Below s.wd.heap.size s.wd w') :
    Calls P f args s.wd fun e w'' => e = .returned v ∧ ∃ s' : Later w, w'' = s'.wd :=
  h.mono fun _ w' ⟨he, hb⟩ => ⟨he, ⟨w', s.h.trans (hb.mono s.h.size)⟩, rfl⟩
theorem Later.call0 {P : Program} {f : FuncId} {args : Array Value} {w : World} {s : Later w} {v : Value} (h : Calls P f args s.wd fun e w' => e = .returned v ∧ Drawn0 s.wd w') :
    Calls P f args s.wd fun e w'' => e = .returned v ∧ ∃ s' : Later w, w'' = s'.wd := Later.call (h.mono fun _ _ ⟨he, hd⟩ => ⟨he, hd.below⟩)
theorem later_cell {w : World} {p : Addr} {v : Value} (h : w.cell? p = some v) (s : Later w) : s.wd.cell? p = some v := (s.h.cell (World.block_lt_of_cell? w _ h)).trans h
end Go.Proofs.Ytjajfbgijailmaa.LT
