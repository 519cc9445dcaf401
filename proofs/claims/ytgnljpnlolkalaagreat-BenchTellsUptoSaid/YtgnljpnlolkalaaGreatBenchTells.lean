/- The statement BenchTells, second form: the law returns true for every input of the sizes that the statement names. Conditions: none beyond the statement. -/
import Derived.Test.YtgnljpnlolkalaaGreatBenchTellsK24
import Derived.Deep.CondSized
set_option linter.all false
set_option maxRecDepth 100000
set_option maxHeartbeats 8000000
namespace Go.Proofs.YtgnljpnlolkalaaGreat.benchTellsDone
open Go.ChangeShapes Go.WideShapes Go.ChangeAt Go.RowKit Go.Deep
set_option linter.unusedVariables false
def own:ownKnob Tryz.prog.godebug=none:=by kernel_rfl
def laidOut:laidOutB Tryz.prog=true:=Facts.laidOut
def lifted (os:Os)(a:os.Started)(H:Type)(enc:TypeId×Value->H)(F:Stop.Interp) :
  ReturnsInHanded {} Tryz.checked os 3 .any ((Rows.OpenSpec.upto Rows.benchTellsSpec).pre6 enc Tryz.prog Tryz.f3 Rows.benchTellsUptoRow.domain false) (((Rows.OpenSpec.upto Rows.benchTellsSpec).at F).post enc Tryz.prog Tryz.f3 false true false false):=by
 refine returnsInHanded_of_cond_sized (C:=Tryz.checked) (s:=Rows.OpenSpec.upto Rows.benchTellsSpec) (k:=Rows.uptoSmall) rfl own a (by kernel_rfl) Tryz.func3
  (OpenSpec.witness (enc:=enc) (C:=Tryz.checked) (s:=Rows.OpenSpec.upto Rows.benchTellsSpec) (k:=Rows.uptoSmall) rfl false ⟨#[],#[.string ⟨#[]⟩],[]⟩ 8 (by kernel_rfl) (by kernel_rfl) (by kernel_rfl)
   (x:=([.lit (.string [])],[],[])) (by kernel_rfl) rfl (by kernel_rfl)) ?_
 intro W base args ds I o c A B r f _;have g:∀(j:Nat) t v,Tryz.f3.params[j]?=some t->args[j]?=some v->Value.okWide Tryz.prog W .any base t v:=c;have u:=A;obtain⟨p,q,i,J,rfl,K,L⟩:=A;have D:DataW.TrodAll enc Tryz.prog W 0 (λ_=>true) true Tryz.f3.params.toList args.toList ds p:=i;have n:(DataW.weightsEach Tryz.prog (Tryz.f3.params.toList++Rows.benchTellsSpec.plain.varTypes Tryz.prog) (ds++I)).all (.<=reachBytes)=true:=f;rw[Tryz.params3]at D g n;obtain⟨v0,M,w,N,p0,X,y,rfl,rfl,E,O⟩:=trodAll_cons D;obtain⟨rfl,rfl,rfl⟩:=trodAll_nil O;obtain rfl:args=#[v0]:=by cases args;simp_all
 obtain⟨rfl,rfl⟩:=trodVars_none J;have u0:Rows.uptoBulk w<=1048576:=by have h:=gR r;simp only[j9,Rows.uptoBulkAll]at h;omega
 have G:=E;have z:∀x∈p0,x.block<W.heap.size:=by obtain⟨m,P⟩:=G;exact DataW.trod_lt m _ _ _ P
 have w0:∀x∈w.weights Tryz.prog 9,x<=reachBytes:=λx Q=>by
  have:=kY.1 n x (DataW.weights_mem_each (j:=0) (t:=9) (d:=w) rfl rfl x Q);simpa using this
 obtain⟨R,rfl,S⟩:∃l:List UInt8,v0=.string ⟨l.toArray⟩/\l.length<=1048576:=by
  obtain⟨b,T,U,Y⟩:=Go.ChangeMaps.open_string Tryz.underlying9 (g 0 9 v0 rfl rfl) E;refine⟨b.data.toList,T, ?_⟩;rw[U]at u0;simp only[Rows.uptoBulk]at u0;omega
 clear i c f;refine(AU R S).mono λe Z ⟨V,bel⟩=>?_
 subst V;exact⟨_,rfl,_,_,_,[],_,[],u,trodAll_mk1 (shut_bool Tryz.underlying4 _),(trodAll_cons_mk (Below.trod laidOut (by kernel_rfl) (gR (by kernel_rfl)) G bel z) trodAll_mk0),rfl,bel.frame _,λh=>by cases h⟩
def closed:joinedFacts Tryz.pinned.checked.prog 3 Tryz.f3 (OpenSpec.bare (Rows.OpenSpec.upto Rows.benchTellsSpec)) Rows.benchTellsUptoRow=true:=by
 unfold joinedFacts;simp only[cA]
 repeat' apply And.intro
 .as_aux_lemma=>kernel_rfl
 .exact Facts.laidOut
 .exact Facts.rowed
 .as_aux_lemma=>kernel_rfl
 .as_aux_lemma=>kernel_rfl
 .as_aux_lemma=>kernel_rfl
 .rw[show Tryz.pinned.checked.prog.stops=_ from Facts.stops];rfl
 .as_aux_lemma=>kernel_rfl
 .rw[show Tryz.pinned.checked.prog.stopKnobs=_ from Facts.stopKnobs];rfl
 .as_aux_lemma=>kernel_rfl
 .as_aux_lemma=>kernel_rfl
 .as_aux_lemma=>kernel_rfl
 .as_aux_lemma=>kernel_rfl
 .as_aux_lemma=>kernel_rfl
 .as_aux_lemma=>kernel_rfl
 .as_aux_lemma=>kernel_rfl
 .as_aux_lemma=>kernel_rfl
 .as_aux_lemma=>kernel_rfl
 .as_aux_lemma=>kernel_rfl
 .as_aux_lemma=>kernel_rfl
 .as_aux_lemma=>kernel_rfl
 .as_aux_lemma=>kernel_rfl
 .rw[show Tryz.pinned.checked.prog.plainKeys=_ from Facts.plainKeys];rfl
 .as_aux_lemma=>kernel_rfl
 .exact Facts.stopsHeard
 .exact Facts.mayEnter
 .rw[show Tryz.pinned.checked.prog.liftsFinal=_ from Facts.liftsFinal];rfl
 .rw[show Tryz.pinned.checked.prog.make=_ from Facts.make];rfl
 .as_aux_lemma=>kernel_rfl
 .as_aux_lemma=>kernel_rfl
 .as_aux_lemma=>kernel_rfl
 as_aux_lemma=>kernel_rfl
def noWrap:Tryz.f3.isWrapper Tryz.pinned.checked.prog Rows.benchTellsUptoRow.wrapper Rows.benchTellsUptoRow.mainSum:=by unfold Func.isWrapper;first|(rw[aG (by decide +kernel)];kernel_rfl)|(rw[aD (by decide +kernel)];exact⟨rfl,rfl⟩)
def named:Tryz.pinned.checked.prog.funcNamed Rows.benchTellsUptoRow.func=some 3:=by kernel_rfl
def inst:Tryz.f3.isInstance Tryz.pinned.checked.prog Rows.benchTellsUptoRow.origin Rows.benchTellsUptoRow.targs:=gR (by kernel_rfl)
def over:Rows.benchTellsUptoRow.holds Tryz.pinned (Rows.OpenSpec.upto Rows.benchTellsSpec) :=
 OpenClaim.holds_of_cond 3 Tryz.f3 rfl rfl rfl rfl rfl rfl rfl ⟨rfl,rfl,rfl,rfl,rfl⟩ rfl rfl rfl rfl rfl named Tryz.func3 closed inst noWrap
  (λos a H enc _ F=>lifted os a H enc F)
theorem proved:Rows.BenchTellsUptoSaid:=over
