/-
  The law NumProducts: its row's statement, and its card's.
  Conditions: none.
-/
import Derived.Test.YtoamcgjbelhnkaaGreatDoorPAN
import Derived.Test.YtoamcgjbelhnkaaGreatDoorPAS
import Derived.ChangeMaps5
import Derived.Test.YtoamcgjbelhnkaaGreatDoorPBB
set_option maxRecDepth 100000
namespace Go.Proofs.YtoamcgjbelhnkaaGreatDoor.numProducts
open Go.ChangeShapes Go.WideShapes Go.ChangeAt Go.RowKit Go.Eng Go.Num
theorem zsM:Rows.numProductsRow.laid=("math/bits.deBruijn32tab",Rows.laid_math_bits_deBruijn32tab) :: ("math/bits.deBruijn64tab",Rows.laid_math_bits_deBruijn64tab) :: ("internal/strconv.uint64pow10",Lib.tabData .u64 Lib.pow10Tab) :: Rows.numProductsRow.laid.drop 3:=by kernel_rfl
theorem ztt:∀t∈Tryz.f10.params.toList,Tryz.prog.readableRec t=true∧t<Tryz.prog.types.size:=by
 intro t ht;rw [Tryz.params10]at ht;have:t=3∨t=52:=by simp at ht;rcases ht with h|h <;> simp [h]
 rcases this with rfl|rfl <;> exact⟨by kernel_rfl,of_decide_eq_true (by kernel_rfl)⟩
theorem zos(H:Type)(enc:TypeId × Value→H)(W:World)(base:Nat)(args:Array Value)(ds gs:List (DataW H))(before:List MemPlace)
  (hval:∀(j:Nat) t v,Tryz.f10.params[j]? = some t→args[j]? = some v→Value.okWide Tryz.prog W .any base t v)
  (hW:DataW.Whole enc Tryz.prog Tryz.f10.params.toList Rows.numProductsSpec.vars false W args.toList ds gs before) (hL:laidMetH Tryz.prog Rows.numProductsRow.laid W) (hS:W.ShapedOpen Tryz.prog) :
  Calls Tryz.prog 10 args W fun e W'=>∃v,e = .returned v∧Rows.numProductsSpec.post enc Tryz.prog Tryz.f10 false true false false W args v W':=by
 have hW':=hW;obtain⟨p,q,hA0,hV,rfl,hfz,hnd⟩:=hW;have hA:DataW.TrodAll enc Tryz.prog W 0 (fun _=>true) true Tryz.f10.params.toList args.toList ds p:=hA0;have hA2:=hA;have hpar:=Tryz.params10;rw [Tryz.params10]at hA hval;obtain⟨v0,v1,v2,d0,d1,d2,p0,p1,p2,rfl,rfl,rfl,h0,h1,h2⟩:=trodAll_three hA;obtain⟨rfl,rfl⟩:=trodVars_none hV;obtain⟨n0,r0,m0,s0,q0⟩:=zsi (okWide_slice (e:=53) (by kernel_rfl) (hval 0 52 v0 rfl rfl)) h0;obtain⟨n1,r1,m1,s1,q1⟩:=zsi (okWide_slice (e:=53) (by kernel_rfl) (hval 1 52 v1 rfl rfl)) h1;obtain⟨a2,rfl,_,_,q2⟩:=open_int Tryz.underlying3 (hval 2 3 v2 rfl rfl) h2;have hT:=zsL zsM (by kernel_rfl) hL hS;simp only [List.append_nil]at hW';refine((callsIn_wide (n:=0)).1 (zhe W v0 v1 a2 n0 r0 m0 s0 q0 n1 r1 m1 s1 q1 (bounds_i64 q2).1 (bounds_i64 q2).2 hT)).mono fun e W' ⟨he,hb⟩ => ?_
 subst he;refine⟨_,rfl,zkm (pv:=[]) hW' (fun _ _ _=>trodAll_mk1 (shut_bool Tryz.underlying4 _)) (fun sp hsp=>zl3 zsN ztt hA2 (fun x hx=>hb.same (hW'.lt x hx)) hsp) (fun _ _=>rfl) (by simp)
  hb (ok_one (by kernel_rfl) rfl (okWide_bool_mk Tryz.underlying4 _))⟩
theorem zrF(os:Os):laidMet Tryz.prog Rows.numProductsRow.laid ((zic os).forCall (fun _ _=>0) ⟨#[],#[.slice Option.none 0 0,.slice Option.none 0 0,.int .i64 1],[]⟩).memory:=
 laidMet_of_run' 8 (by kernel_rfl) (by kernel_rfl)
theorem reads(os:Os){H:Type}(enc:TypeId × Value→H):∃places,DataW.whole enc Tryz.prog ((zic os).forCall (fun _ _=>0) ⟨#[],#[.slice Option.none 0 0,.slice Option.none 0 0,.int .i64 1],[]⟩).memory Tryz.f10.params.toList Rows.numProductsSpec.vars false #[Value.slice Option.none 0 0,Value.slice Option.none 0 0,Value.int .i64 1].toList 8=some ([.nil,.nil,.lit (.int .i64 1)],[],places):=
 ⟨[],by kernel_rfl⟩
theorem ztj(os:Os)(started:os.Started)(H:Type)(enc:TypeId × Value→H)(F:Stop.Interp) :
  ReturnsInHanded {} Tryz.checked os 10 .any ((OpenSpec.ofChange Rows.numProductsSpec).preRow enc Tryz.prog Tryz.f10 Rows.numProductsRow.domain false Rows.numProductsRow.laid) (((OpenSpec.ofChange Rows.numProductsSpec).at F).post enc Tryz.prog Tryz.f10 false true false false):=by
 obtain⟨places,hx⟩:=reads os enc;refine returnsInHanded_of_row (C:=Tryz.checked) (s:=OpenSpec.ofChange Rows.numProductsSpec) own started (by kernel_rfl) Tryz.func10
  (witness_row_at (enc:=enc) (C:=Tryz.checked) false (zic os) #[.slice Option.none 0 0,.slice Option.none 0 0,.int .i64 1] rfl (by kernel_rfl) (by kernel_rfl) (by kernel_rfl)
   (OpenSpec.preRow_of_cond 8 hx (by kernel_rfl) (fun k hk=>by cases hk) (by kernel_rfl) (zrF os))) ?_
 intro W base args ds gs before hval hW _ _ _ hL hS _;exact zos H enc W base args ds gs before hval hW hL hS
theorem said:Rows.NumProductsSaid:=
 OpenClaim.holds_of_cond 10 Tryz.f10 rfl rfl rfl rfl rfl rfl rfl ⟨rfl,rfl,rfl,rfl,rfl⟩ rfl rfl rfl rfl rfl (by kernel_rfl) Tryz.func10 (by kernel_rfl)
  (of_decide_eq_true (by kernel_rfl)) (by unfold Func.isWrapper;first|(rw [if_pos (by decide +kernel)];kernel_rfl)|(rw [if_neg (by decide +kernel)];exact⟨rfl,rfl⟩))
  (fun os started H enc _ F=>by rw [OpenClaim.pre_eq_preRow];exact ztj os started H enc F)
theorem zbN(f:FuncId)(fn:Func)(hf:Tryz.pinned.checked.prog.funcNamed "squeegee/squeegeelaw01.NumProducts" = some f)(hfn:Tryz.pinned.checked.prog.funcs[f]? = some fn) :
  true=Tryz.pinned.checked.prog.looks []∧∀(j:Nat) t,fn.params[j]? = some t→Tryz.pinned.checked.prog.wantsStandIn t=false:=by
 obtain rfl:f=10:=Option.some.inj ((show Tryz.prog.funcNamed "squeegee/squeegeelaw01.NumProducts" = some 10 by kernel_rfl).symm.trans hf) |>.symm
 obtain rfl:fn=Tryz.f10:=(Option.some.inj (Tryz.func10.symm.trans hfn)).symm;refine⟨by kernel_rfl,fun j t ht => ?_⟩;rw [Tryz.params10]at ht;have hm:=Array.mem_of_getElem? ht;have:t=3∨t=52:=by simp at hm;rcases hm with h|h <;> simp [h]
 rcases this with rfl|rfl
 ·exact(show Tryz.prog.wantsStandIn 3=false by kernel_rfl)
 ·exact(show Tryz.prog.wantsStandIn 52=false by kernel_rfl)
theorem card:Rows.NumProductsCardSaid:=
 Claim7.holds_tied_plain_at .later [] _ _ _ _ said (fun _ h=>by cases h) (by kernel_rfl) (fun _ h=>by cases h) numProducts_row_tie rfl ⟨rfl,rfl⟩ (by kernel_rfl) rfl zbN (by kernel_rfl)
end Go.Proofs.YtoamcgjbelhnkaaGreatDoor.numProducts
