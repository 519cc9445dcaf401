/- The statement TopCrash: the law returns true for every input. Conditions: none. -/
import Derived.Test.YtfmnagcglhlicaaGreatTopCrashK55
set_option maxRecDepth 100000
set_option maxHeartbeats 8000000
namespace Go.Proofs.YtfmnagcglhlicaaGreat.topCrashDone
open Go.ChangeShapes Go.WideShapes Go.ChangeAt Go.RowKit Go.Deep
set_option linter.unusedVariables false
theorem own:ownKnob Tryz.prog.godebug=none:=by kernel_rfl
theorem laidOut:laidOutB Tryz.prog=true:=Facts.laidOut
theorem lifted (os:Os)(started:os.Started)(H:Type)(enc:TypeId×Value→H) :
  ReturnsInHanded {} Tryz.checked os 4 .any (Rows.topCrashSpec.pre6 enc Tryz.prog Tryz.f4 Rows.topCrashRow.domain false) (Rows.topCrashSpec.post enc Tryz.prog Tryz.f4 false true false false):=by
 refine returnsInHanded_of_change_sized (C:=Tryz.checked) own started (by kernel_rfl) Tryz.func4
  (ChangeSpec.witness6 (enc:=enc) (C:=Tryz.checked) false ⟨#[],#[.agg #[.int .i64 0,.slice none 0 0],.int .i64 0,.int .i64 0,.slice none 0 0,.slice none 0 0],[]⟩ 8 (by kernel_rfl) (by kernel_rfl) (by kernel_rfl) (by kernel_rfl)) ?_
 intro W base args ds gs before hval0 hW hcnd hsz0 _;have hval:∀(j:Nat) t v,Tryz.f4.params[j]?=some t→args[j]?=some v→Value.okWide Tryz.prog W .any base t v:=hval0;have hW':=hW;obtain⟨p,q,hA0,hV,rfl,hfz,hnd⟩:=hW;have hA:DataW.TrodAll enc Tryz.prog W 0 (fun _=>true) true Tryz.f4.params.toList args.toList ds p:=hA0;have hsz:(DataW.weightsEach Tryz.prog (Tryz.f4.params.toList++Rows.topCrashSpec.plain.varTypes Tryz.prog) (ds++gs)).all (·≤reachBytes)=true:=hsz0;rw[Tryz.params4]at hA hval hsz;obtain⟨v0,vs0,d0,ds0,p0,q0,hargs,rfl,rfl,h0,r0⟩:=trodAll_cons hA;obtain⟨v1,vs1,d1,ds1,p1,q1,rfl,rfl,rfl,h1,r1⟩:=trodAll_cons r0;obtain⟨v2,vs2,d2,ds2,p2,q2,rfl,rfl,rfl,h2,r2⟩:=trodAll_cons r1;obtain⟨v3,vs3,d3,ds3,p3,q3,rfl,rfl,rfl,h3,r3⟩:=trodAll_cons r2;obtain⟨v4,vs4,d4,ds4,p4,q4,rfl,rfl,rfl,h4,r4⟩:=trodAll_cons r3;obtain⟨rfl,rfl,rfl⟩:=trodAll_nil r4;obtain rfl:args=#[v0,v1,v2,v3,v4]:=by cases args;simp_all
 obtain⟨rfl,rfl⟩:=trodVars_none hV;have k0:=h0;have lt0:∀x∈p0,x.block<W.heap.size:=by obtain⟨m,hm⟩:=k0;exact DataW.trod_lt m _ _ _ hm
 have w0:∀x∈d0.weights Tryz.prog 24,x≤reachBytes:=fun x hx=>by
  have:=List.all_eq_true.1 hsz x (DataW.weights_mem_each (j:=0) (t:=24) (d:=d0) rfl rfl x hx);simpa using this
 obtain⟨P0,A0,n0,c0,ts0,rfl,i0,b0⟩:∃P A n c ts,v0=.agg #[.int .i64 P,.slice A n c]∧bK W A n c ts∧n≤2513169434916:=WQ (hval 0 24 v0 rfl rfl) h0 w0;have k1:=h1;have lt1:∀x∈p1,x.block<W.heap.size:=by obtain⟨m,hm⟩:=k1;exact DataW.trod_lt m _ _ _ hm
 have w1:∀x∈d1.weights Tryz.prog 3,x≤reachBytes:=fun x hx=>by
  have:=List.all_eq_true.1 hsz x (DataW.weights_mem_each (j:=1) (t:=3) (d:=d1) rfl rfl x hx);simpa using this
 obtain⟨x1,rfl,rfl,rfl,wf1⟩:=open_int Tryz.underlying3 (hval 1 3 v1 rfl rfl) h1;have k2:=h2;have lt2:∀x∈p2,x.block<W.heap.size:=by obtain⟨m,hm⟩:=k2;exact DataW.trod_lt m _ _ _ hm
 have w2:∀x∈d2.weights Tryz.prog 3,x≤reachBytes:=fun x hx=>by
  have:=List.all_eq_true.1 hsz x (DataW.weights_mem_each (j:=2) (t:=3) (d:=d2) rfl rfl x hx);simpa using this
 obtain⟨x2,rfl,rfl,rfl,wf2⟩:=open_int Tryz.underlying3 (hval 2 3 v2 rfl rfl) h2;have k3:=h3;have lt3:∀x∈p3,x.block<W.heap.size:=by obtain⟨m,hm⟩:=k3;exact DataW.trod_lt m _ _ _ hm
 have w3:∀x∈d3.weights Tryz.prog 25,x≤reachBytes:=fun x hx=>by
  have:=List.all_eq_true.1 hsz x (DataW.weights_mem_each (j:=3) (t:=25) (d:=d3) rfl rfl x hx);simpa using this
 obtain⟨A3,n3,c3,rfl⟩:=okWide_slice Tryz.underlying25 (hval 3 25 v3 rfl rfl);obtain⟨xs3,i3,b3⟩:∃xs,bT W A3 n3 c3 xs∧n3≤5864062014634:=by
  obtain⟨fuel,hf⟩:=h3;obtain⟨A,n,c,xs,e,i,b⟩:=Sl.of_trod Tryz.underlying25 MI hf w3;injection e with e1 e2 e3;subst e1 e2 e3;exact⟨xs,i,by have:=i.le;simp only[reachBytes]at b;omega⟩
 have k4:=h4;have lt4:∀x∈p4,x.block<W.heap.size:=by obtain⟨m,hm⟩:=k4;exact DataW.trod_lt m _ _ _ hm
 have w4:∀x∈d4.weights Tryz.prog 54,x≤reachBytes:=fun x hx=>by
  have:=List.all_eq_true.1 hsz x (DataW.weights_mem_each (j:=4) (t:=54) (d:=d4) rfl rfl x hx);simpa using this
 obtain⟨A4,n4,c4,rfl⟩:=okWide_slice Tryz.underlying54 (hval 4 54 v4 rfl rfl);obtain⟨xs4,i4,b4⟩:∃xs,VE W A4 n4 c4 xs∧n4≤2513169434916:=by
  obtain⟨fuel,hf⟩:=h4;obtain⟨A,n,c,xs,e,i,b⟩:=Sl.of_trod Tryz.underlying54 TY hf w4;injection e with e1 e2 e3;subst e1 e2 e3;exact⟨xs,i,by have:=i.le;simp only[reachBytes]at b;omega⟩
 clear hA0 hval0 hsz0;refine(Aw P0 i0 b0 x1 wf1 x2 wf2 i3 b3 i4 b4).mono fun e W' ⟨he,bel⟩=>?_
 subst he;exact⟨_,rfl,_,_,_,[],_,[],hW',trodAll_mk1 (shut_bool Tryz.underlying4 _),(trodAll_cons_mk (Below.trod laidOut (by kernel_rfl) (of_decide_eq_true (by kernel_rfl)) k0 bel lt0) (trodAll_cons_mk (Below.trod laidOut (by kernel_rfl) (of_decide_eq_true (by kernel_rfl)) k1 bel lt1) (trodAll_cons_mk (Below.trod laidOut (by kernel_rfl) (of_decide_eq_true (by kernel_rfl)) k2 bel lt2) (trodAll_cons_mk (Below.trod laidOut (by kernel_rfl) (of_decide_eq_true (by kernel_rfl)) k3 bel lt3) (trodAll_cons_mk (Below.trod laidOut (by kernel_rfl) (of_decide_eq_true (by kernel_rfl)) k4 bel lt4) trodAll_mk0))))),rfl,bel.frame _,fun h=>by cases h⟩
theorem closed:joinedFacts Tryz.pinned.checked.prog 4 Tryz.f4 (Rows.topCrashSpec) Rows.topCrashRow=true:=by
 unfold joinedFacts;simp only[Bool.and_eq_true]
 repeat' apply And.intro
 ·as_aux_lemma=>kernel_rfl
 ·exact Facts.laidOut
 ·exact Facts.rowed
 ·as_aux_lemma=>kernel_rfl
 ·as_aux_lemma=>kernel_rfl
 ·as_aux_lemma=>kernel_rfl
 ·rw[show Tryz.pinned.checked.prog.stops=_ from Facts.stops];rfl
 ·as_aux_lemma=>kernel_rfl
 ·rw[show Tryz.pinned.checked.prog.stopKnobs=_ from Facts.stopKnobs];rfl
 ·as_aux_lemma=>kernel_rfl
 ·as_aux_lemma=>kernel_rfl
 ·as_aux_lemma=>kernel_rfl
 ·as_aux_lemma=>kernel_rfl
 ·as_aux_lemma=>kernel_rfl
 ·as_aux_lemma=>kernel_rfl
 ·as_aux_lemma=>kernel_rfl
 ·as_aux_lemma=>kernel_rfl
 ·as_aux_lemma=>kernel_rfl
 ·as_aux_lemma=>kernel_rfl
 ·as_aux_lemma=>kernel_rfl
 ·as_aux_lemma=>kernel_rfl
 ·as_aux_lemma=>kernel_rfl
 ·rw[show Tryz.pinned.checked.prog.plainKeys=_ from Facts.plainKeys];rfl
 ·as_aux_lemma=>kernel_rfl
 ·exact Facts.stopsHeard
 ·exact Facts.mayEnter
 ·rw[show Tryz.pinned.checked.prog.liftsFinal=_ from Facts.liftsFinal];rfl
 ·rw[show Tryz.pinned.checked.prog.make=_ from Facts.make];rfl
 ·as_aux_lemma=>kernel_rfl
 ·as_aux_lemma=>kernel_rfl
 ·as_aux_lemma=>kernel_rfl
 ·as_aux_lemma=>kernel_rfl
theorem noWrap:Tryz.f4.isWrapper Tryz.pinned.checked.prog Rows.topCrashRow.wrapper Rows.topCrashRow.mainSum:=by unfold Func.isWrapper;first|(rw[if_pos (by decide +kernel)];kernel_rfl)|(rw[if_neg (by decide +kernel)];exact⟨rfl,rfl⟩)
theorem named:Tryz.pinned.checked.prog.funcNamed Rows.topCrashRow.func=some 4:=by kernel_rfl
theorem inst:Tryz.f4.isInstance Tryz.pinned.checked.prog Rows.topCrashRow.origin Rows.topCrashRow.targs:=of_decide_eq_true (by kernel_rfl)
theorem over:Rows.topCrashRow.holds Tryz.pinned (OpenSpec.ofChange Rows.topCrashSpec) :=
 OpenClaim.holds_of_wide 4 Tryz.f4 rfl rfl rfl rfl rfl rfl rfl ⟨rfl,rfl,rfl,rfl,rfl⟩ rfl rfl rfl rfl rfl named Tryz.func4 closed inst noWrap
  (fun os started H enc _=>lifted os started H enc)
theorem proved:Rows.TopCrashSaid:=over
end Go.Proofs.YtfmnagcglhlicaaGreat.topCrashDone
