/- The walks of the law FreemapParts: the free pages of a map, told; what holds in its loop. -/
import Derived.Test.YtbebjpdbnpdpfaaDoorB15
set_option maxRecDepth 100000
set_option linter.unusedVariables false
set_option linter.unusedSimpArgs false
namespace Go.Proofs.YtbebjpdbnpdpfaaDoor
open Go.RowKit Go.Shelf

theorem ftold_of {w : World} {m c f fw h hw o ow s sw : Nat} {F H O S : List Bool} (M : MapOf w m f fw h hw o ow s sw F H O S) (hT : Tab w) (hc : Blk w c 39 [at0 m]) (most : Int) :
    Calls Tryd.prog 40 #[.func (.func 80) #[] #[.pointer (some ⟨c, 0, none⟩)], .int .i64 most] w fun e w' => ∃ v, e = .returned v ∧ NewInts w w' v ((elems F).take most.toNat) := by
  have hcl := hc.lt
  have h0 := hT.pos
  refine ftold (gf := 80) (xs := elems F) (enters_of Tryd.func80 (by kernel_rfl) rfl) (by have := elems_len_le F; have := M.sf.2.2.1; omega) (fun O1 W1 hs hO hv => ?_) most
  refine fall_iter (M.same hs) (hT.same hs) (hc.same hs) (fun k hk => ?_) hv
  have := hO k hk
  exact ⟨fun h9 => by have := M.lt h9; omega, by omega, by omega⟩

/-- A map, an act, the pages taken when the last commit was done. -/
def PartsI (w : World) (n m : Nat) (cs : List Nat) (v : Value) (W : World) : Prop := ∀ W' e ec, Same W W' → Blk W' e 44 ec → KeepI w n m cs v e ec W'

/-- Taken, held, free; the free pages told: each is free. -/
structure Kinds (w : World) (n m : Nat) (W : World) (t hd av : Nat) (ts fs : List Nat) : Prop where
  sum : t + hd + av = n
  lt : ∀ p ∈ fs, p < n

end Go.Proofs.YtbebjpdbnpdpfaaDoor
