/-
  The law WalkRuin: its row's statement, and its card's.
  Conditions: none.
-/
import Derived.Test.YtepakfjilnpodaaGreatDoorRBAO
import Derived.Test.YtepakfjilnpodaaGreatDoorRBAP
import Derived.ChangeMaps5
import Derived.Test.YtepakfjilnpodaaGreatDoorRBBG
set_option maxRecDepth 100000
namespace Go.Proofs.YtepakfjilnpodaaGreatDoor.walkRuin
open Go.ChangeShapes Go.WideShapes Go.ChangeAt Go.RowKit Go.Eng Go.Num
theorem zrb:Rows.walkRuinRow.laid=("math/bits.deBruijn32tab",Rows.laid_math_bits_deBruijn32tab) :: ("math/bits.deBruijn64tab",Rows.laid_math_bits_deBruijn64tab) :: ("internal/strconv.uint64pow10",Lib.tabData .u64 Lib.pow10Tab) :: Rows.walkRuinRow.laid.drop 3:=by kernel_rfl
theorem zr6:∀t∈Tryz.f5.params.toList,Tryz.prog.readableRec t=true∧t<Tryz.prog.types.size:=by
 intro t ht;rw [Tryz.params5]at ht;have:t=9∨t=3:=by simp at ht;rcases ht with h|h <;> simp [h]
 rcases this with rfl|rfl <;> exact⟨by kernel_rfl,of_decide_eq_true (by kernel_rfl)⟩
theorem znl(H:Type)(enc:TypeId × Value→H)(W:World)(base:Nat)(args:Array Value)(ds gs:List (DataW H))(before:List MemPlace)
  (hval:∀(j:Nat) t v,Tryz.f5.params[j]? = some t→args[j]? = some v→Value.okWide Tryz.prog W .any base t v)
  (hW:DataW.Whole enc Tryz.prog Tryz.f5.params.toList Rows.walkRuinSpec.vars false W args.toList ds gs before) (hL:laidMetH Tryz.prog Rows.walkRuinRow.laid W) (hS:W.ShapedOpen Tryz.prog) :
  Calls Tryz.prog 5 args W fun e W'=>∃v,e = .returned v∧Rows.walkRuinSpec.post enc Tryz.prog Tryz.f5 false true false false W args v W':=by
 have hW':=hW;obtain⟨p,q,hA0,hV,rfl,hfz,hnd⟩:=hW;have hA:DataW.TrodAll enc Tryz.prog W 0 (fun _=>true) true Tryz.f5.params.toList args.toList ds p:=hA0;have hA2:=hA;have hpar:=Tryz.params5;rw [Tryz.params5]at hA hval;obtain⟨v0,v1,v2,d0,d1,d2,p0,p1,p2,rfl,rfl,rfl,h0,h1,h2⟩:=trodAll_three hA;obtain⟨rfl,rfl⟩:=trodVars_none hV;obtain⟨a0,rfl,_,_,q0⟩:=Go.ChangeMaps.open_string Tryz.underlying9 (hval 0 9 v0 rfl rfl) h0;obtain⟨a1,rfl,_,_,q1⟩:=open_int Tryz.underlying3 (hval 1 3 v1 rfl rfl) h1;obtain⟨a2,rfl,_,_,q2⟩:=open_int Tryz.underlying3 (hval 2 3 v2 rfl rfl) h2;have hT:=zra zrb (by kernel_rfl) hL hS;simp only [List.append_nil]at hW';refine((callsIn_wide (n:=0)).1 (zjL W a0 a1 a2 q0 hT)).mono fun e W' ⟨he,hb⟩ => ?_
 subst he;refine⟨_,rfl,zj1 (pv:=[]) hW' (fun _ _ _=>trodAll_mk1 (shut_bool Tryz.underlying4 _)) (fun sp hsp=>zlw zrc zr6 hA2 (fun x hx=>hb.same (hW'.lt x hx)) hsp) (fun _ _=>rfl) (by simp)
  hb (ok_one (by kernel_rfl) rfl (okWide_bool_mk Tryz.underlying4 _))⟩
theorem zqb(os:Os):laidMet Tryz.prog Rows.walkRuinRow.laid ((zh2 os).forCall (fun _ _=>0) ⟨#[],#[.string ⟨#[]⟩,.int .i64 1,.int .i64 1],[]⟩).memory:=
 laidMet_of_run' 8 (by kernel_rfl) (by kernel_rfl)
theorem reads(os:Os){H:Type}(enc:TypeId × Value→H):∃places,DataW.whole enc Tryz.prog ((zh2 os).forCall (fun _ _=>0) ⟨#[],#[.string ⟨#[]⟩,.int .i64 1,.int .i64 1],[]⟩).memory Tryz.f5.params.toList Rows.walkRuinSpec.vars false #[Value.string ⟨#[]⟩,Value.int .i64 1,Value.int .i64 1].toList 8=some ([.lit (.string []),.lit (.int .i64 1),.lit (.int .i64 1)],[],places):=
 ⟨[],by kernel_rfl⟩
theorem zrL(os:Os)(started:os.Started)(H:Type)(enc:TypeId × Value→H)(F:Stop.Interp) :
  ReturnsInHanded {} Tryz.checked os 5 .any ((OpenSpec.ofChange Rows.walkRuinSpec).preRow enc Tryz.prog Tryz.f5 Rows.walkRuinRow.domain false Rows.walkRuinRow.laid) (((OpenSpec.ofChange Rows.walkRuinSpec).at F).post enc Tryz.prog Tryz.f5 false true false false):=by
 obtain⟨places,hx⟩:=reads os enc;refine returnsInHanded_of_row (C:=Tryz.checked) (s:=OpenSpec.ofChange Rows.walkRuinSpec) own started (by kernel_rfl) Tryz.func5
  (witness_row_at (enc:=enc) (C:=Tryz.checked) false (zh2 os) #[.string ⟨#[]⟩,.int .i64 1,.int .i64 1] rfl (by kernel_rfl) (by kernel_rfl) (by kernel_rfl)
   (OpenSpec.preRow_of_cond 8 hx (by kernel_rfl) (fun k hk=>by cases hk) (by kernel_rfl) (zqb os))) ?_
 intro W base args ds gs before hval hW _ _ _ hL hS _;exact znl H enc W base args ds gs before hval hW hL hS
theorem closed:joinedFacts Tryz.pinned.checked.prog 5 Tryz.f5 (OpenSpec.ofChange Rows.walkRuinSpec).bare Rows.walkRuinRow=true:=by
 unfold joinedFacts;simp only [Bool.and_eq_true];exact⟨⟨⟨⟨⟨⟨⟨⟨⟨⟨⟨⟨⟨⟨⟨⟨⟨⟨⟨⟨⟨⟨⟨⟨⟨⟨⟨⟨⟨⟨⟨fa0,fa1⟩,fa2⟩,fa3⟩,fa4⟩,fa5⟩,fa6⟩,fa7⟩,fa8⟩,fa9⟩,fa10⟩,fa11⟩,fa12⟩,fa13⟩,fa14⟩,fa15⟩,fa16⟩,fa17⟩,fa18⟩,fa19⟩,fa20⟩,fa21⟩,fa22⟩,fa23⟩,fa24⟩,fa25⟩,fa26⟩,fa27⟩,fa28⟩,fa29⟩,fa30⟩,fa31⟩
theorem said:Rows.WalkRuinSaid:=
 OpenClaim.holds_of_cond 5 Tryz.f5 rfl rfl rfl rfl rfl rfl rfl ⟨rfl,rfl,rfl,rfl,rfl⟩ rfl rfl rfl rfl rfl (by kernel_rfl) Tryz.func5 closed
  (of_decide_eq_true (by kernel_rfl)) (by unfold Func.isWrapper;first|(rw [if_pos (by decide +kernel)];kernel_rfl)|(rw [if_neg (by decide +kernel)];exact⟨rfl,rfl⟩))
  (fun os started H enc _ F=>by rw [OpenClaim.pre_eq_preRow];exact zrL os started H enc F)
theorem plain(f:FuncId)(fn:Func)(hf:Tryz.pinned.checked.prog.funcNamed "squeegee/squeegeelaw06.WalkRuin" = some f)(hfn:Tryz.pinned.checked.prog.funcs[f]? = some fn) :
  true=Tryz.pinned.checked.prog.looks []∧∀(j:Nat) t,fn.params[j]? = some t→Tryz.pinned.checked.prog.wantsStandIn t=false:=by
 obtain rfl:f=5:=Option.some.inj ((show Tryz.prog.funcNamed "squeegee/squeegeelaw06.WalkRuin" = some 5 by kernel_rfl).symm.trans hf) |>.symm
 obtain rfl:fn=Tryz.f5:=(Option.some.inj (Tryz.func5.symm.trans hfn)).symm;refine⟨by kernel_rfl,fun j t ht => ?_⟩;rw [Tryz.params5]at ht;have hm:=Array.mem_of_getElem? ht;have:t=9∨t=3:=by simp at hm;rcases hm with h|h <;> simp [h]
 rcases this with rfl|rfl
 ·exact(show Tryz.prog.wantsStandIn 9=false by kernel_rfl)
 ·exact(show Tryz.prog.wantsStandIn 3=false by kernel_rfl)
theorem card:Rows.WalkRuinCardSaid:=
 Claim7.holds_tied_plain_at .later [] _ _ _ _ said (fun _ h=>by cases h) (by kernel_rfl) (fun _ h=>by cases h) walkRuin_row_tie rfl ⟨rfl,rfl⟩ (by kernel_rfl) rfl plain (by kernel_rfl)
end Go.Proofs.YtepakfjilnpodaaGreatDoor.walkRuin
