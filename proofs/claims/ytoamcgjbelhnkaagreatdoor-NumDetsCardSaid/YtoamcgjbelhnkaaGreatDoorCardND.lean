/-
  The law NumDets: its row's statement, and its card's.
  Conditions: none.
-/
import Derived.Test.YtoamcgjbelhnkaaGreatDoorWAN
import Derived.Test.YtoamcgjbelhnkaaGreatDoorWAS
import Derived.ChangeMaps5
import Derived.Test.YtoamcgjbelhnkaaGreatDoorWBB
set_option maxRecDepth 100000
namespace Go.Proofs.YtoamcgjbelhnkaaGreatDoor.numDets
open Go.ChangeShapes Go.WideShapes Go.ChangeAt Go.RowKit Go.Eng Go.Num
theorem zsm:Rows.numDetsRow.laid=("math/bits.deBruijn32tab",Rows.laid_math_bits_deBruijn32tab) :: ("math/bits.deBruijn64tab",Rows.laid_math_bits_deBruijn64tab) :: ("internal/strconv.uint64pow10",Lib.tabData .u64 Lib.pow10Tab) :: Rows.numDetsRow.laid.drop 3:=by kernel_rfl
theorem ztf:∀t∈Tryz.f9.params.toList,Tryz.prog.readableRec t=true∧t<Tryz.prog.types.size:=by
 intro t ht;rw [Tryz.params9]at ht;have:t=52:=by simpa using ht
 rcases this with rfl;exact⟨by kernel_rfl,of_decide_eq_true (by kernel_rfl)⟩
theorem zn7(H:Type)(enc:TypeId × Value→H)(W:World)(base:Nat)(args:Array Value)(ds gs:List (DataW H))(before:List MemPlace)
  (hval:∀(j:Nat) t v,Tryz.f9.params[j]? = some t→args[j]? = some v→Value.okWide Tryz.prog W .any base t v)
  (hW:DataW.Whole enc Tryz.prog Tryz.f9.params.toList Rows.numDetsSpec.vars false W args.toList ds gs before) (hL:laidMetH Tryz.prog Rows.numDetsRow.laid W) (hS:W.ShapedOpen Tryz.prog) :
  Calls Tryz.prog 9 args W fun e W'=>∃v,e = .returned v∧Rows.numDetsSpec.post enc Tryz.prog Tryz.f9 false true false false W args v W':=by
 have hW':=hW;obtain⟨p,q,hA0,hV,rfl,hfz,hnd⟩:=hW;have hA:DataW.TrodAll enc Tryz.prog W 0 (fun _=>true) true Tryz.f9.params.toList args.toList ds p:=hA0;have hA2:=hA;have hpar:=Tryz.params9;rw [Tryz.params9]at hA hval;obtain⟨v0,d0,rfl,rfl,h0⟩:=trodAll_one hA;obtain⟨rfl,rfl⟩:=trodVars_none hV;obtain⟨n0,r0,m0,s0,q0⟩:=zsO (okWide_slice (e:=53) (by kernel_rfl) (hval 0 52 v0 rfl rfl)) h0;have hT:=zsl zsm (by kernel_rfl) hL hS;simp only [List.append_nil]at hW';refine((callsIn_wide (n:=0)).1 (zls W v0 n0 r0 m0 s0 q0 hT)).mono fun e W' ⟨he,hb⟩ => ?_
 subst he;refine⟨_,rfl,zj9 (pv:=[]) hW' (fun _ _ _=>trodAll_mk1 (shut_bool Tryz.underlying4 _)) (fun sp hsp=>zl1 zsn ztf hA2 (fun x hx=>hb.same (hW'.lt x hx)) hsp) (fun _ _=>rfl) (by simp)
  hb (ok_one (by kernel_rfl) rfl (okWide_bool_mk Tryz.underlying4 _))⟩
theorem zrm(os:Os):laidMet Tryz.prog Rows.numDetsRow.laid ((zhW os).forCall (fun _ _=>0) ⟨#[],#[.slice Option.none 0 0],[]⟩).memory:=
 laidMet_of_run' 8 (by kernel_rfl) (by kernel_rfl)
theorem reads(os:Os){H:Type}(enc:TypeId × Value→H):∃places,DataW.whole enc Tryz.prog ((zhW os).forCall (fun _ _=>0) ⟨#[],#[.slice Option.none 0 0],[]⟩).memory Tryz.f9.params.toList Rows.numDetsSpec.vars false #[Value.slice Option.none 0 0].toList 8=some ([.nil],[],places):=
 ⟨[],by kernel_rfl⟩
theorem zs0(os:Os)(started:os.Started)(H:Type)(enc:TypeId × Value→H)(F:Stop.Interp) :
  ReturnsInHanded {} Tryz.checked os 9 .any ((OpenSpec.ofChange Rows.numDetsSpec).preRow enc Tryz.prog Tryz.f9 Rows.numDetsRow.domain false Rows.numDetsRow.laid) (((OpenSpec.ofChange Rows.numDetsSpec).at F).post enc Tryz.prog Tryz.f9 false true false false):=by
 obtain⟨places,hx⟩:=reads os enc;refine returnsInHanded_of_row (C:=Tryz.checked) (s:=OpenSpec.ofChange Rows.numDetsSpec) own started (by kernel_rfl) Tryz.func9
  (witness_row_at (enc:=enc) (C:=Tryz.checked) false (zhW os) #[.slice Option.none 0 0] rfl (by kernel_rfl) (by kernel_rfl) (by kernel_rfl)
   (OpenSpec.preRow_of_cond 8 hx (by kernel_rfl) (fun k hk=>by cases hk) (by kernel_rfl) (zrm os))) ?_
 intro W base args ds gs before hval hW _ _ _ hL hS _;exact zn7 H enc W base args ds gs before hval hW hL hS
theorem said:Rows.NumDetsSaid:=
 OpenClaim.holds_of_cond 9 Tryz.f9 rfl rfl rfl rfl rfl rfl rfl ⟨rfl,rfl,rfl,rfl,rfl⟩ rfl rfl rfl rfl rfl (by kernel_rfl) Tryz.func9 (by kernel_rfl)
  (of_decide_eq_true (by kernel_rfl)) (by unfold Func.isWrapper;first|(rw [if_pos (by decide +kernel)];kernel_rfl)|(rw [if_neg (by decide +kernel)];exact⟨rfl,rfl⟩))
  (fun os started H enc _ F=>by rw [OpenClaim.pre_eq_preRow];exact zs0 os started H enc F)
theorem zcN(f:FuncId)(fn:Func)(hf:Tryz.pinned.checked.prog.funcNamed "squeegee/squeegeelaw01.NumDets" = some f)(hfn:Tryz.pinned.checked.prog.funcs[f]? = some fn) :
  true=Tryz.pinned.checked.prog.looks []∧∀(j:Nat) t,fn.params[j]? = some t→Tryz.pinned.checked.prog.wantsStandIn t=false:=by
 obtain rfl:f=9:=Option.some.inj ((show Tryz.prog.funcNamed "squeegee/squeegeelaw01.NumDets" = some 9 by kernel_rfl).symm.trans hf) |>.symm
 obtain rfl:fn=Tryz.f9:=(Option.some.inj (Tryz.func9.symm.trans hfn)).symm;refine⟨by kernel_rfl,fun j t ht => ?_⟩;rw [Tryz.params9]at ht;have hm:=Array.mem_of_getElem? ht;have:t=52:=by simpa using hm
 rcases this with rfl
 exact(show Tryz.prog.wantsStandIn 52=false by kernel_rfl)
theorem card:Rows.NumDetsCardSaid:=
 Claim7.holds_tied_plain_at .later [] _ _ _ _ said (fun _ h=>by cases h) (by kernel_rfl) (fun _ h=>by cases h) numDets_row_tie rfl ⟨rfl,rfl⟩ (by kernel_rfl) rfl zcN (by kernel_rfl)
end Go.Proofs.YtoamcgjbelhnkaaGreatDoor.numDets
