/-
  The law NumSolves: its row's statement, and its card's.
  Conditions: none.
-/
import Derived.Test.YtoamcgjbelhnkaaGreatDoorSAG
import Derived.Test.YtoamcgjbelhnkaaGreatDoorSAI
import Derived.ChangeMaps5
import Derived.Test.YtoamcgjbelhnkaaGreatDoorSAN
set_option maxRecDepth 100000
namespace Go.Proofs.YtoamcgjbelhnkaaGreatDoor.numSolves
open Go.ChangeShapes Go.WideShapes Go.ChangeAt Go.RowKit Go.Eng Go.Num
theorem zsB:Rows.numSolvesRow.laid=("math/bits.deBruijn32tab",Rows.laid_math_bits_deBruijn32tab) :: ("math/bits.deBruijn64tab",Rows.laid_math_bits_deBruijn64tab) :: ("internal/strconv.uint64pow10",Lib.tabData .u64 Lib.pow10Tab) :: Rows.numSolvesRow.laid.drop 3:=by kernel_rfl
theorem zts:∀t∈Tryz.f5.params.toList,Tryz.prog.readableRec t=true∧t<Tryz.prog.types.size:=by
 intro t ht;rw [Tryz.params5]at ht;have:t=52∨t=53:=by simp at ht;omega
 rcases this with rfl|rfl <;> exact⟨by kernel_rfl,of_decide_eq_true (by kernel_rfl)⟩
theorem zon(H:Type)(enc:TypeId × Value→H)(W:World)(base:Nat)(args:Array Value)(ds gs:List (DataW H))(before:List MemPlace)
  (hval:∀(j:Nat) t v,Tryz.f5.params[j]? = some t→args[j]? = some v→Value.okWide Tryz.prog W .any base t v)
  (hW:DataW.Whole enc Tryz.prog Tryz.f5.params.toList Rows.numSolvesSpec.vars false W args.toList ds gs before) (hL:laidMetH Tryz.prog Rows.numSolvesRow.laid W) (hS:W.ShapedOpen Tryz.prog) :
  Calls Tryz.prog 5 args W fun e W'=>∃v,e = .returned v∧Rows.numSolvesSpec.post enc Tryz.prog Tryz.f5 false true false false W args v W':=by
 have hW':=hW;obtain⟨p,q,hA0,hV,rfl,hfz,hnd⟩:=hW;have hA:DataW.TrodAll enc Tryz.prog W 0 (fun _=>true) true Tryz.f5.params.toList args.toList ds p:=hA0;have hA2:=hA;have hpar:=Tryz.params5;rw [Tryz.params5]at hA hval;obtain⟨v0,v1,d0,d1,p0,p1,rfl,rfl,rfl,h0,h1⟩:=trodAll_two hA;obtain⟨rfl,rfl⟩:=trodVars_none hV;obtain⟨n0,r0,m0,s0,q0⟩:=zs6 (okWide_slice (e:=53) (by kernel_rfl) (hval 0 52 v0 rfl rfl)) h0;obtain⟨b1,l1,c1,rfl⟩:=okWide_slice (e:=9) (by kernel_rfl) (hval 1 53 v1 rfl rfl);obtain⟨k1,h1⟩:=h1;obtain⟨n1,s1,q1,z1⟩:=zr5 (v:=.slice b1 l1 c1) h1;have hT:=zsA zsB (by kernel_rfl) hL hS;simp only [List.append_nil]at hW';refine((callsIn_wide (n:=0)).1 (ziu W v0 _ n0 r0 m0 s0 q0 n1 s1 q1 z1 hT)).mono fun e W' ⟨he,hb⟩ => ?_
 subst he;refine⟨_,rfl,zj3 (pv:=[]) hW' (fun _ _ _=>trodAll_mk1 (shut_bool Tryz.underlying4 _)) (fun sp hsp=>zl5 zsC zts hA2 (fun x hx=>hb.same (hW'.lt x hx)) hsp) (fun _ _=>rfl) (by simp)
  hb (ok_one (by kernel_rfl) rfl (okWide_bool_mk Tryz.underlying4 _))⟩
theorem zrB(os:Os):laidMet Tryz.prog Rows.numSolvesRow.laid ((zhI os).forCall (fun _ _=>0) ⟨#[],#[.slice Option.none 0 0,.slice Option.none 0 0],[]⟩).memory:=
 laidMet_of_run' 8 (by kernel_rfl) (by kernel_rfl)
theorem reads(os:Os){H:Type}(enc:TypeId × Value→H):∃places,DataW.whole enc Tryz.prog ((zhI os).forCall (fun _ _=>0) ⟨#[],#[.slice Option.none 0 0,.slice Option.none 0 0],[]⟩).memory Tryz.f5.params.toList Rows.numSolvesSpec.vars false #[Value.slice Option.none 0 0,Value.slice Option.none 0 0].toList 8=some ([.nil,.nil],[],places):=
 ⟨[],by kernel_rfl⟩
theorem zth(os:Os)(started:os.Started)(H:Type)(enc:TypeId × Value→H)(F:Stop.Interp) :
  ReturnsInHanded {} Tryz.checked os 5 .any ((OpenSpec.ofChange Rows.numSolvesSpec).preRow enc Tryz.prog Tryz.f5 Rows.numSolvesRow.domain false Rows.numSolvesRow.laid) (((OpenSpec.ofChange Rows.numSolvesSpec).at F).post enc Tryz.prog Tryz.f5 false true false false):=by
 obtain⟨places,hx⟩:=reads os enc;refine returnsInHanded_of_row (C:=Tryz.checked) (s:=OpenSpec.ofChange Rows.numSolvesSpec) own started (by kernel_rfl) Tryz.func5
  (witness_row_at (enc:=enc) (C:=Tryz.checked) false (zhI os) #[.slice Option.none 0 0,.slice Option.none 0 0] rfl (by kernel_rfl) (by kernel_rfl) (by kernel_rfl)
   (OpenSpec.preRow_of_cond 8 hx (by kernel_rfl) (fun k hk=>by cases hk) (by kernel_rfl) (zrB os))) ?_
 intro W base args ds gs before hval hW _ _ _ hL hS _;exact zon H enc W base args ds gs before hval hW hL hS
theorem said:Rows.NumSolvesSaid:=
 OpenClaim.holds_of_cond 5 Tryz.f5 rfl rfl rfl rfl rfl rfl rfl ⟨rfl,rfl,rfl,rfl,rfl⟩ rfl rfl rfl rfl rfl (by kernel_rfl) Tryz.func5 (by kernel_rfl)
  (of_decide_eq_true (by kernel_rfl)) (by unfold Func.isWrapper;first|(rw [if_pos (by decide +kernel)];kernel_rfl)|(rw [if_neg (by decide +kernel)];exact⟨rfl,rfl⟩))
  (fun os started H enc _ F=>by rw [OpenClaim.pre_eq_preRow];exact zth os started H enc F)
theorem zcp(f:FuncId)(fn:Func)(hf:Tryz.pinned.checked.prog.funcNamed "squeegee/squeegeelaw01.NumSolves" = some f)(hfn:Tryz.pinned.checked.prog.funcs[f]? = some fn) :
  true=Tryz.pinned.checked.prog.looks []∧∀(j:Nat) t,fn.params[j]? = some t→Tryz.pinned.checked.prog.wantsStandIn t=false:=by
 obtain rfl:f=5:=Option.some.inj ((show Tryz.prog.funcNamed "squeegee/squeegeelaw01.NumSolves" = some 5 by kernel_rfl).symm.trans hf) |>.symm
 obtain rfl:fn=Tryz.f5:=(Option.some.inj (Tryz.func5.symm.trans hfn)).symm;refine⟨by kernel_rfl,fun j t ht => ?_⟩;rw [Tryz.params5]at ht;have hm:=Array.mem_of_getElem? ht;have:t=52∨t=53:=by simp at hm;omega
 rcases this with rfl|rfl
 ·exact(show Tryz.prog.wantsStandIn 52=false by kernel_rfl)
 ·exact(show Tryz.prog.wantsStandIn 53=false by kernel_rfl)
theorem card:Rows.NumSolvesCardSaid:=
 Claim7.holds_tied_plain_at .later [] _ _ _ _ said (fun _ h=>by cases h) (by kernel_rfl) (fun _ h=>by cases h) numSolves_row_tie rfl ⟨rfl,rfl⟩ (by kernel_rfl) rfl zcp (by kernel_rfl)
end Go.Proofs.YtoamcgjbelhnkaaGreatDoor.numSolves
