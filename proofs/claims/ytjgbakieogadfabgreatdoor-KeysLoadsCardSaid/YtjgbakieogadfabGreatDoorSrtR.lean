/-
  Rows in the order of their keys. Plain Lean.
-/
import Derived.Test.YtjgbakieogadfabGreatDoorIns
import Derived.Test.YtjgbakieogadfabGreatDoorPure
namespace Go.Proofs.YtjgbakieogadfabGreatDoor
open Go L Go.Sort
def cfR (a b:S_api_Row):Int:=cmpS a.Key b.Key
theorem ltR (a b:S_api_Row):ltOf cfR a b=ltS a.Key b.Key:=by unfold ltOf cfR; rw [cmpS_dec]
theorem swoR:SWO (ltOf cfR):=swo_str fun a:S_api_Row=>a.Key
theorem key_injR {xs:List S_api_Row} (hn:(xs.map (·.Key)).Nodup):∀ a b,a ∈ xs→b ∈ xs→ltOf cfR b a=false→ltOf cfR a b=false→a=b :=
  fun a b ha hb h1 h2=>key_inj (key:=fun x:S_api_Row=>x.Key) hn a b ha hb (cmpS_eq h1 h2)
end Go.Proofs.YtjgbakieogadfabGreatDoor
