/-
  'awake' answers true: one run of the machine in the kernel.
  Conditions: the library's variables lie in memory.
-/
import Derived.Test.YtepakfjilnpodaaGreatDoorRDAO
import Derived.Test.YtepakfjilnpodaaGreatDoorRDAP
namespace Go.Num
open Go.Eng Go.Shelf Go.RowKit Go.Proofs Go.Proofs.YtepakfjilnpodaaGreatDoor
def isTrue:Option (AV × AH)→Bool
 | some (.sc (.bool true),_)=>true
 | _=>false
theorem awake_run:isTrue ((cb Tryz.prog [] (oracle clsR TF) [133,139,143,146,219] 3000).call 19 .nil (bare rs1))=true:=by kernel_rfl
theorem isTrue_eq{r:Option (AV × AH)}(h:isTrue r=true):∃H,r=some (.sc (.bool true),H):=by
 unfold isTrue at h
 split at h
 ·exact⟨_,rfl⟩
 ·cases h
theorem still_all:∀g ∈ [133,139,143,146,219],StillFn Tryz.prog g:=by
 intro g hg
 simp at hg
 rcases hg with rfl|rfl|rfl|rfl|rfl
 ·exact still_133
 ·exact still_109
 ·exact still_143
 ·exact still_146
 ·exact still_219
theorem awake_calls{w:World}(h:Laid w):Calls Tryz.prog 19 #[] w fun e w'=>e = .returned (.bool true)∧Below w.heap.size w w':=by
 obtain⟨H',hr⟩:=isTrue_eq awake_run
 refine(calls_of_run (G:=GR) follows namesOK (oracle_ok shapedR (told_R h.pow)) still_all hr (bare_rep (G:=GR) rfl w) (by rfl)).mono ?_
 rintro e w' ⟨x,μ',rfl,_,hx,hrep⟩
 have hx':x = .bool true:=hx
 exact⟨by rw [hx'],hrep.below⟩
theorem awake_laid{w:World}(h:Laid w):Awake w:=fun _w' hb=>callsIn_wide.2 (awake_calls (h.below hb))
end Go.Num
