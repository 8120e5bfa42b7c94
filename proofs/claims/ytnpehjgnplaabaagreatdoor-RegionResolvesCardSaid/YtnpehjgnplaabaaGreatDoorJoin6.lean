/- Several texts of ours, joined. -/
import Derived.Test.YtnpehjgnplaabaaGreatDoorJoin1
import Derived.Test.YtnpehjgnplaabaaGreatDoorJoin3
import Derived.Test.YtnpehjgnplaabaaGreatDoorJoin5
import Derived.Test.YtnpehjgnplaabaaGreatDoorJoin4
set_option linter.unusedVariables false
set_option linter.unusedSimpArgs false
set_option maxRecDepth 100000
set_option maxHeartbeats 64000000
namespace Sw
open Go
abbrev MkE:=ByteArray×Pr
abbrev SbE:=ByteArray×Bool
def setP (X:List SbE) (ps:List ByteArray):List SbE:=ps.foldl (fun X p=>putN ordS p true X) X
theorem setP_app (X:List SbE)(a b:List ByteArray):setP X (a++b)=setP (setP X a) b:=by unfold setP;rw[List.foldl_append]
theorem setP_up:∀(ps:List ByteArray) (X:List SbE),Up ordS X→Up ordS (setP X ps)
 | [],_,h=>h
 | p::ps,X,h=>setP_up ps _ (put_up ordS_ord p true X h)
theorem setP_len:∀(ps:List ByteArray) (X:List SbE),(setP X ps).length≤X.length+ps.length
 | [],_=>zN _
 | p::ps,X=>by
  have h1:=setP_len ps (putN ordS p true X);have h2:=put_len (c:=ordS) p true X;have h3:(putN ordS p true X).length≤X.length+1:=by rw[h2];split<;>omega
  simp only[zI];exact zT h1 (by omega)
theorem put_keys (p:ByteArray)(v:Bool)(X:List SbE)(h:Up ordS X)(q:ByteArray):q∈(putN ordS p v X).map Prod.fst↔q=p∨q∈X.map Prod.fst:=by
 rw[put_filter ordS_ord p v X h];simp only[List.map_append,List.mem_append,List.map_cons,List.mem_cons,List.mem_map,List.mem_filter,decide_eq_true_eq];constructor
 ·rintro (⟨e,he,rfl⟩ | rfl | ⟨e,he,rfl⟩)
  ·exact .inr ⟨e,he.1,rfl⟩
  ·exact .inl rfl
  ·exact .inr ⟨e,he.1,rfl⟩
 ·rintro (rfl | ⟨e,he,rfl⟩)
  ·exact .inr (.inl rfl)
  ·by_cases h1:ordS e.1 p<0
   ·exact .inl ⟨e,⟨he,h1⟩,rfl⟩
   ·by_cases h2:ordS e.1 p=0
    ·exact .inr (.inl (ordS_ord.zero _ _ h2))
    ·exact .inr (.inr ⟨e,⟨he,by omega⟩,rfl⟩)
theorem setP_keys:∀(ps:List ByteArray) (X:List SbE),Up ordS X→∀q,q∈(setP X ps).map Prod.fst↔q∈ps∨q∈X.map Prod.fst
 | [],_,_,q=>by simp [setP]
 | p::ps,X,h,q=>by
  have h1:=setP_keys ps _ (put_up ordS_ord p true X h) q;have h2:=put_keys p true X h q;show q∈(setP (putN ordS p true X) ps).map Prod.fst↔_
  rw[h1,h2,List.mem_cons];constructor
  ·rintro (h | h | h)
   ·exact .inl (.inr h)
   ·exact .inl (.inl h)
   ·exact .inr h
  ·rintro ((h | h) | h)
   ·exact .inr (.inl h)
   ·exact .inl h
   ·exact .inr (.inr h)
def Rise (l:List ByteArray):Prop:=l.Pairwise fun a b=>ordS a b<0
theorem rise_keys {β:Type}{X:List (ByteArray×β)}(h:Up ordS X):Rise (X.map Prod.fst):=by
 unfold Rise;rw[List.pairwise_map];exact h
theorem rise_ext:∀{l m:List ByteArray},Rise l→Rise m→(∀q,q∈l↔q∈m)→l=m
 | [],[],_,_,_=>rfl
 | [],b::m,_,_,h=>absurd ((h b).2 (List.mem_cons_self ..)) (by simp)
 | a::l,[],_,_,h=>absurd ((h a).1 (List.mem_cons_self ..)) (by simp)
 | a::l,b::m,hl,hm,h=>by
  have irr:∀x,¬ordS x x<0:=fun x=>by have:=ordS_ord.self x;omega
  have ha:=(List.pairwise_cons.1 hl).1;have hb:=(List.pairwise_cons.1 hm).1;have hab:a=b:=by
   rcases List.mem_cons.1 ((h a).1 (List.mem_cons_self ..)) with e | e
   ·exact e
   ·rcases List.mem_cons.1 ((h b).2 (List.mem_cons_self ..)) with e2 | e2
    ·exact e2.symm
    ·exact absurd (ordS_ord.trans _ _ _ (hb a e) (ha b e2)) (irr b)
  subst hab;rw[rise_ext (List.pairwise_cons.1 hl).2 (List.pairwise_cons.1 hm).2 (fun q=>?_)];constructor
  ·intro hq;rcases List.mem_cons.1 ((h q).1 (List.mem_cons_of_mem _ hq)) with e | e
   ·subst e;exact absurd (ha _ hq) (irr _)
   ·exact e
  ·intro hq;rcases List.mem_cons.1 ((h q).2 (List.mem_cons_of_mem _ hq)) with e | e
   ·subst e;exact absurd (hb _ hq) (irr _)
   ·exact e
def pathsS (ps:List ByteArray):List ByteArray:=(setP [] ps).map Prod.fst
theorem pathsS_rise (ps:List ByteArray):Rise (pathsS ps):=rise_keys (setP_up ps [] List.Pairwise.nil)
theorem pathsS_mem (ps:List ByteArray)(q:ByteArray):q∈pathsS ps↔q∈ps:=by
 unfold pathsS;rw[setP_keys ps [] List.Pairwise.nil];simp
theorem pathsS_len (ps:List ByteArray):(pathsS ps).length≤ps.length:=by
 unfold pathsS;rw[zS]
 simpa using setP_len ps []
theorem pathsS_eq {ps l:List ByteArray}(hl:Rise l)(h:∀q,q∈l↔q∈ps):pathsS ps=l:=rise_ext (pathsS_rise ps) hl (fun q=>by rw[pathsS_mem,h])
def findM (L:List MkE) (p:ByteArray):Option Pr:=(L.find? fun m=>decide (m.1=p)).map Prod.snd
theorem findM_cons (m:MkE)(L:List MkE)(p:ByteArray):findM (m::L) p=if m.1=p then some m.2 else findM L p:=by
 unfold findM;by_cases h:m.1=p
 ·rw[if_pos h,List.find?_cons_of_pos (by simpa using h)];rfl
 ·rw[if_neg h,List.find?_cons_of_neg (by simpa using h)]
def marksT (xs:List NE):List MkE:=xs.map fun e=>(e.1,printN e.2)
theorem findM_up:∀{L:List MkE},Up ordS L→∀{m:MkE},m∈L→findM L m.1=some m.2
 | [],_,m,h=>by cases h
 | a::L,hu,m,h=>by
  rw[findM_cons];rcases List.mem_cons.1 h with e | e
  ·subst e;rw[if_pos rfl]
  ·have h1:=hu.head m e;have hne:¬a.1=m.1:=fun e'=>by rw[e'] at h1;have:=ordS_ord.self m.1;omega
   rw[if_neg hne];exact findM_up hu.tail e
theorem findM_none {L:List MkE}{p:ByteArray}(h:∀m∈L,¬m.1=p):findM L p=none:=by
 unfold findM;rw[List.find?_eq_none.2 (fun m hm=>by simpa using h m hm)];rfl
theorem marksT_up {xs:List NE}(h:Up ordS xs):Up ordS (marksT xs):=by
 unfold marksT Up;rw[List.pairwise_map];exact h
def classN (a b:Nd):Int:=if a.kind=0∨b.kind=0 then 2 else if a.kind≠b.kind then 3 else 1
def decideN (was:Pr) (had:Bool) (a b:Nd):Int×Int:=
 if printN a=printN b then(0,0) else if stateN was had a=0 then(1,0) else if stateN was had b=0 then(2,0) else(3,classN a b)
end Sw
namespace Go.Proofs.YtnpehjgnplaabaaGreatDoor
open Go.RowKit
open Sw
theorem eq_print (p q:Pr)(W:World):(binOp .eql 61 (.agg p.c) (.agg q.c)).run Tryz.prog W= .ok (.bool (decide (p=q))) W:=by
 obtain⟨k1,m1,t1,z1,u1⟩:=p;obtain⟨k2,m2,t2,z2,u2⟩:=q;unfold Pr.c;by_cases h1:k1=k2
 ·subst h1;by_cases h2:m1=m2
  ·subst h2;by_cases h3:t1=t2
   ·subst h3;by_cases h4:z1=z2
    ·subst h4;by_cases h5:u1=u2
     ·subst h5;simp [go_sem,Tryz.underlying61,Tryz.underlying3,Tryz.underlying51]
     ·have hb:=beq_eq_false_iff_ne.2 h5;simp [go_sem,hb,h5,Tryz.underlying61,Tryz.underlying3,Tryz.underlying51]
    ·have hb:=beq_eq_false_iff_ne.2 h4;simp [go_sem,hb,h4,Tryz.underlying61,Tryz.underlying3,Tryz.underlying51]
   ·have hb:=beq_eq_false_iff_ne.2 h3;simp [go_sem,hb,h3,Tryz.underlying61,Tryz.underlying3,Tryz.underlying51]
  ·have hb:=beq_eq_false_iff_ne.2 h2;simp [go_sem,hb,h2,Tryz.underlying61,Tryz.underlying3,Tryz.underlying51]
 ·have hb:=beq_eq_false_iff_ne.2 h1;simp [go_sem,hb,h1,Tryz.underlying61,Tryz.underlying3,Tryz.underlying51]
theorem class_any (w:World)(a b:Nd):
  Calls Tryz.prog 137 #[.agg a.c,.agg b.c] w fun e w'=>e= .returned (.int .i64 (classN a b))∧Below w.heap.size w w':=by
 unfold classN Nd.c;have hb2:=((zR w.heap.size w).alloc (zN _) (.cells #[.int .i64 a.kind,.int .i64 a.mode,.int .u32 a.time,.string a.data] 57)).alloc (by simp) (.cells #[.int .i64 b.kind,.int .i64 b.mode,.int .u32 b.time,.string b.data] 57);by_cases ha:a.kind=0
 ·have hab:(a.kind==0)=true:=by rw[beq_iff_eq];exact ha
  rw[if_pos (.inl ha)];clear ha;go_enter Tryz.func137,Tryz.ntmps137
  go_wp2_with fail
  go_ret;exact⟨rfl,hb2⟩
 ·have hab:(a.kind==0)=false:=by rw[zB];exact ha
  by_cases hb:b.kind=0
  ·have hbb:(b.kind==0)=true:=by rw[beq_iff_eq];exact hb
   rw[if_pos (.inr hb)];clear ha hb;(go_enter Tryz.func137,Tryz.ntmps137);(go_wp2_with fail);go_ret;exact⟨rfl,hb2⟩
  ·have hbb:(b.kind==0)=false:=by rw[zB];exact hb
   rw[if_neg (by omega)];by_cases hc:a.kind=b.kind
   ·(have hcb:(a.kind !=b.kind)=false:=by rw[bne_eq_false_iff_eq];exact hc);rw[if_neg (by omega)];clear ha hb hc;(go_enter Tryz.func137,Tryz.ntmps137);(go_wp2_with fail);go_ret;exact⟨rfl,hb2⟩
   ·(have hcb:(a.kind !=b.kind)=true:=by rw[bne_iff_ne];exact hc);rw[if_pos hc];clear ha hb hc;(go_enter Tryz.func137,Tryz.ntmps137);(go_wp2_with fail);go_ret;exact⟨rfl,hb2⟩
theorem refClass_any (w:World)(a b:Nd):
  Calls Tryz.prog 111 #[.agg a.c,.agg b.c] w fun e w'=>e= .returned (.int .i64 (classN a b))∧Below w.heap.size w w':=by
 unfold classN Nd.c;have hb2:=((zR w.heap.size w).alloc (zN _) (.cells #[.int .i64 a.kind,.int .i64 a.mode,.int .u32 a.time,.string a.data] 57)).alloc (by simp) (.cells #[.int .i64 b.kind,.int .i64 b.mode,.int .u32 b.time,.string b.data] 57);by_cases ha:a.kind=0
 ·have hab:(a.kind==0)=true:=by rw[beq_iff_eq];exact ha
  rw[if_pos (.inl ha)];clear ha;go_enter Tryz.func111,Tryz.ntmps111
  go_wp2_with fail
  go_ret;exact⟨rfl,hb2⟩
 ·have hab:(a.kind==0)=false:=by rw[zB];exact ha
  by_cases hb:b.kind=0
  ·have hbb:(b.kind==0)=true:=by rw[beq_iff_eq];exact hb
   rw[if_pos (.inr hb)];clear ha hb;(go_enter Tryz.func111,Tryz.ntmps111);(go_wp2_with fail);go_ret;exact⟨rfl,hb2⟩
  ·have hbb:(b.kind==0)=false:=by rw[zB];exact hb
   rw[if_neg (by omega)];by_cases hc:a.kind=b.kind
   ·(have hcb:(a.kind !=b.kind)=false:=by rw[bne_eq_false_iff_eq];exact hc);rw[if_neg (by omega)];clear ha hb hc;(go_enter Tryz.func111,Tryz.ntmps111);(go_wp2_with fail);go_ret;exact⟨rfl,hb2⟩
   ·(have hcb:(a.kind !=b.kind)=true:=by rw[bne_iff_ne];exact hc);rw[if_pos hc];clear ha hb hc;(go_enter Tryz.func111,Tryz.ntmps111);(go_wp2_with fail);go_ret;exact⟨rfl,hb2⟩
def Nodes2 (w:World) (a b:Nd) (W:World):Prop:=Blk W w.heap.size 57 a.c∧Blk W (w.heap.size+1) 57 b.c∧Below w.heap.size w W
theorem Nodes2.keep {w:World}{a b:Nd}(W W':World)(h:Nodes2 w a b W)(hb:Below W.heap.size W W'):Nodes2 w a b W':=⟨h.1.below hb h.1.lt,h.2.1.below hb h.2.1.lt,h.2.2.trans (hb.mono h.2.2.size)⟩
theorem nodeSame_any (w:World)(a b:Nd)(ha:a.data.size≤maxLen)(hb:b.data.size≤maxLen):
  Calls Tryz.prog 65 #[.agg a.c,.agg b.c] w fun e w'=>e= .returned (.bool (decide (printN a=printN b)))∧Below w.heap.size w w':=by
 have hA:=fun W=>print_any W a ha
 have hB:=fun W=>print_any W b hb
 have hEQ:=fun W=>eq_print (printN a) (printN b) W
 have hB0:Nodes2 w a b ((w.alloc (.cells a.c 57)).alloc (.cells b.c 57)):=⟨blk_fst _ _ _ _,blk_snd _ _ _ _,((zR _ _).alloc (zN _) _).alloc (by simp) _⟩;have HB0:=zH hB0;clear hB0;generalize printN a=p at*;generalize printN b=q at*;generalize decide (p=q)=r at*;have q0:∀x:Held (Nodes2 w a b),(HeldW x).cell? ⟨w.heap.size,0,none⟩=some (.int .i64 a.kind):=fun x=>((HeldW_spec x).1).cell 0
 have q1:∀x:Held (Nodes2 w a b),(HeldW x).cell? ⟨w.heap.size,1,none⟩=some (.int .i64 a.mode):=fun x=>((HeldW_spec x).1).cell 1
 have q2:∀x:Held (Nodes2 w a b),(HeldW x).cell? ⟨w.heap.size,2,none⟩=some (.int .u32 a.time):=fun x=>((HeldW_spec x).1).cell 2
 have q3:∀x:Held (Nodes2 w a b),(HeldW x).cell? ⟨w.heap.size,3,none⟩=some (.string a.data):=fun x=>((HeldW_spec x).1).cell 3
 have n0:∀x:Held (Nodes2 w a b),(HeldW x).cell? ⟨w.heap.size+1,0,none⟩=some (.int .i64 b.kind):=fun x=>((HeldW_spec x).2.1).cell 0
 have n1:∀x:Held (Nodes2 w a b),(HeldW x).cell? ⟨w.heap.size+1,1,none⟩=some (.int .i64 b.mode):=fun x=>((HeldW_spec x).2.1).cell 1
 have n2:∀x:Held (Nodes2 w a b),(HeldW x).cell? ⟨w.heap.size+1,2,none⟩=some (.int .u32 b.time):=fun x=>((HeldW_spec x).2.1).cell 2
 have n3:∀x:Held (Nodes2 w a b),(HeldW x).cell? ⟨w.heap.size+1,3,none⟩=some (.string b.data):=fun x=>((HeldW_spec x).2.1).cell 3
 haveI:Nonempty (Held (Nodes2 w a b)):=held_some HB0.out
 unfold Nd.c Pr.c at*;have HA:=zH hA;clear hA;have HB:=zH hB;clear hB;go_enter Tryz.func65,Tryz.ntmps65
 go_wp2_with fail
 refine wp_region_class (Nodes2 w a b) (by kernel_rfl) (by kernel_rfl) (by have h:=HB0.out;exact⟨h.1,h.2.1,h.2.2.drew⟩) ?_;repeat (go_big_quiet_step (first | with_reducible exact held_below Nodes2.keep (HA.out _) | with_reducible exact held_below Nodes2.keep (HB.out _)))
 refine wpQuiet_nil ?_;rintro _ ⟨nn,rfl⟩;go_wp2_with fail
 go_ret;exact⟨rfl,(HeldW_spec nn).2.2⟩
theorem still_any (w:World)(g h:Nat)(was:Pr)(had:Bool)(n:Nd)(hm:n.data.size≤maxLen)(hg:Blk w g 61 was.c)(hh:Blk w h 4 #[.bool had]):
  Calls Tryz.prog 135 #[.agg n.c,.pointer (some ⟨g,0,none⟩),.pointer (some ⟨h,0,none⟩)] w fun e w'=>e= .returned (.bool (decide (stateN was had n=0)))∧Below w.heap.size w w':=by
 have hst:=fun W=>state_any W was had n hm
 generalize stateN was had n=st at*;have hlg:=hg.lt;have hlh:=hh.lt;have q0:=hg.cell 0;have q1:=hg.cell 1;have q2:=hg.cell 2;have q3:=hg.cell 3;have q4:=hg.cell 4;have h0:=hh.cell 0;unfold Pr.c at q0 q1 q2 q3 q4;simp at q0 q1 q2 q3 q4 h0
 unfold Nd.c Pr.c at*;obtain⟨hng,hnh⟩:g≠w.heap.size∧h≠w.heap.size:=by omega
 clear hg hh;have HST:=zH hst;clear hst;by_cases hz:st=0
 ·have hzb:(st==0)=true:=by rw[beq_iff_eq];exact hz
  rw[zE hz];clear hz;go_enter Tryz.func135,Tryz.ntmps135
  go_wp2_with fail
  refine(HST.out _).mono ?_;rintro e w1 ⟨rfl,hb1⟩;go_wp2_with fail
  go_ret;exact⟨rfl,((zR _ _).alloc (zN _) _).trans (hb1.mono (by simp))⟩
 ·have hzb:(st==0)=false:=by rw[zB];exact hz
  rw[zD hz];clear hz;go_enter Tryz.func135,Tryz.ntmps135
  go_wp2_with fail
  refine(HST.out _).mono ?_;rintro e w1 ⟨rfl,hb1⟩;go_wp2_with fail
  go_ret;exact⟨rfl,((zR _ _).alloc (zN _) _).trans (hb1.mono (by simp))⟩
end Go.Proofs.YtnpehjgnplaabaaGreatDoor
namespace Sw
open Go
structure StR where
 path:ByteArray
 verdict:Int
 cls:Int
 left:Nd
 right:Nd
def stepR (L:List MkE) (xs ys:List NE) (p:ByteArray):StR:=
 ⟨p,(decideN ((findM L p).getD ⟨0,0,0,0,0⟩) (findM L p).isSome (getT xs p) (getT ys p)).1,(decideN ((findM L p).getD ⟨0,0,0,0,0⟩) (findM L p).isSome (getT xs p) (getT ys p)).2,getT xs p,getT ys p⟩
def allR (L:List MkE) (xs ys:List NE):List StR:=(pathsS (L.map Prod.fst++xs.map Prod.fst++ys.map Prod.fst)).map (stepR L xs ys)
theorem getT_zero {xs:List NE}(h:TI xs)(p:ByteArray)(hk:(getT xs p).kind=0):getT xs p=ndZ:=by
 rcases Classical.em (∃e∈xs,e.1=p) with ⟨e,he,rfl⟩ | hn
 ·rw[getT_in h.up he] at hk;exact absurd hk (h.nod e he).1
 ·exact getT_out h.up (fun e he h=>hn ⟨e,he,h⟩)
end Sw
namespace Sw
open Go Go.Proofs.YtnpehjgnplaabaaGreatDoor
structure NP where
 path:ByteArray
 left:Nd
 right:Nd
 cls:Int
def newN (l:List NE):Int:=l.foldl (fun t e=>max t e.2.time) 0
def sideN (policy:Int) (a b:List NE):Int:=if policy=3 then(if newN a<newN b then 2 else 1) else if policy=1∨policy=2 then policy else 0
def oneN (p:ByteArray) (n:Nd):List NE:=if n.kind=0 then [] else [(p,n)]
def chosenN (xs ys:List NE) (side:Int) (p:ByteArray) (c:Int):NP:=⟨p,if side=2 then getT ys p else getT xs p,if side=1 then getT xs p else getT ys p,c⟩
def inQ (p q:ByteArray):Bool:=decide (p=q)||inS (upsS q) p
def badN (l:List NP) (m:NP):Bool:=l.any fun n=> !decide (n.path=m.path)&&inQ m.path n.path&&(!decide (m.left.kind=2)&& !decide (n.left.kind=0)|| !decide (m.right.kind=2)&& !decide (n.right.kind=0))
def sideF (policy:Int) (s:StR):Int:=if s.verdict=1 then 2 else if s.verdict=2 then 1 else if s.verdict=3 then sideN policy (oneN s.path s.left) (oneN s.path s.right) else 0
def firstN (policy:Int) (xs ys:List NE) (s:StR):NP:=chosenN xs ys (sideF policy s) s.path (if s.verdict=3 then s.cls else 0)
def sideR (policy:Int) (xs ys:List NE) (p:ByteArray):Int:=sideN policy (undT p xs) (undT p ys)
def turnN (policy:Int) (xs ys:List NE) (l:List NP) (p:ByteArray):List NP:=
 l.map fun n=>if inQ p n.path=true then chosenN xs ys (sideR policy xs ys p) n.path (if n.path=p then 4 else 0) else n
def goN (policy:Int) (xs ys:List NE) (st:List NP×List ByteArray) (m:NP):List NP×List ByteArray:=
 if badN st.1 m=true then(turnN policy xs ys st.1 m.path,if sideR policy xs ys m.path=2 then st.2++[m.path] else st.2) else st
def runN (policy:Int) (xs ys:List NE) (l:List NP):Nat→List NP×List ByteArray
 | 0=>(l,[])
 | i+1=>match (runN policy xs ys l i).1[i]?with
  | some m=>goN policy xs ys (runN policy xs ys l i) m
  | none=>runN policy xs ys l i
def beginN (policy:Int) (L:List MkE) (xs ys:List NE):List NP:=(allR L xs ys).map (firstN policy xs ys)
def endN (policy:Int) (L:List MkE) (xs ys:List NE):List NP×List ByteArray:=runN policy xs ys (beginN policy L xs ys) (beginN policy L xs ys).length
def leftN (l:List NP):List NE:=l.flatMap fun n=>oneN n.path n.left
def rightN (l:List NP):List NE:=l.flatMap fun n=>oneN n.path n.right
def clashN (l:List NP):List (ByteArray×Int):=l.filterMap fun n=>if n.cls=0 then none else some (n.path,n.cls)
def heldN (L:List MkE) (l:List NP):List MkE:=l.filterMap fun n=>if(findM L n.path).isSome=true∧¬printN n.left=printN n.right then some (n.path,(findM L n.path).getD ⟨0,0,0,0,0⟩) else none
section
variable {policy:Int} {xs ys:List NE} {l:List NP}
theorem inQ_iff (p q:ByteArray):inQ p q=true↔p=q∨p∈upsS q:=by
 unfold inQ;rw[Bool.or_eq_true,decide_eq_true_eq,inS_iff]
theorem inQ_self (p:ByteArray):inQ p p=true:=(inQ_iff p p).2 (.inl rfl)
theorem inQ_trans {p q r:ByteArray}(h1:inQ p q=true)(h2:inQ q r=true):inQ p r=true:=by
 rw[inQ_iff] at h1 h2⊢;rcases h1 with rfl | h1
 ·exact h2
 ·rcases h2 with rfl | h2
  ·exact .inr h1
  ·exact .inr (ups_trans h1 h2)
theorem ups_chain {u v p:ByteArray}(h1:u∈upsS p)(h2:v∈upsS p):u=v∨u∈upsS v∨v∈upsS u:=by
 obtain⟨k,hk1,hk2,hk3,_⟩:=ups_mem h1;obtain⟨m,hm1,hm2,hm3,_⟩:=ups_mem h2;rcases Nat.lt_trichotomy k m with h | h | h
 ·exact .inr (.inl (ups_of (k:=k) hk1 (by rw[hm3,zL];omega) (by rw[hk3,hm3,List.take_take,Nat.min_eq_left (by omega)])))
 ·subst h;exact .inl (parts_inj (by rw[hk3,hm3]) (by rw[hk3,zL];omega))
 ·exact .inr (.inr (ups_of (k:=m) hm1 (by rw[hk3,zL];omega) (by rw[hm3,hk3,List.take_take,Nat.min_eq_left (by omega)])))
theorem bad_iff (l:List NP)(m:NP):badN l m=true↔∃n∈l,m.path∈upsS n.path∧((¬m.left.kind=2∧¬n.left.kind=0)∨(¬m.right.kind=2∧¬n.right.kind=0)):=by
 unfold badN;rw[List.any_eq_true];constructor
 ·rintro ⟨n,hn,h⟩;simp only[Bool.and_eq_true,Bool.or_eq_true,Bool.not_eq_true',decide_eq_false_iff_not] at h;obtain⟨⟨h1,h2⟩,h3⟩:=h;rcases (inQ_iff _ _).1 h2 with h2 | h2
  ·exact absurd h2.symm h1
  ·exact⟨n,hn,h2,h3⟩
 ·rintro ⟨n,hn,h2,h3⟩;refine⟨n,hn,?_⟩;simp only[Bool.and_eq_true,Bool.or_eq_true,Bool.not_eq_true',decide_eq_false_iff_not];exact⟨⟨fun e=>by rw[e] at h2;exact ups_self h2,(inQ_iff _ _).2 (.inr h2)⟩,h3⟩
theorem side_cases (policy:Int):(∀a b,sideN policy a b=0)∨(∀a b,sideN policy a b=1∨sideN policy a b=2):=by
 by_cases h3:policy=3
 ·refine .inr (fun a b=>?_);unfold sideN;rw[if_pos h3];split
  ·exact .inr rfl
  ·exact .inl rfl
 ·by_cases h1:policy=1∨policy=2
  ·refine .inr (fun a b=>?_);unfold sideN;rw[if_neg h3,if_pos h1];exact h1
  ·refine .inl (fun a b=>?_);unfold sideN;rw[if_neg h3,if_neg h1]
def ShN (policy:Int) (xs ys:List NE) (n:NP):Prop:=
 ((n.left=getT xs n.path∨n.left=getT ys n.path)∧(n.right=getT xs n.path∨n.right=getT ys n.path))∧(n.left.kind=n.right.kind∨(n.left=getT xs n.path∧n.right=getT ys n.path∧∀a b,sideN policy a b=0))
theorem chosen_sh (side:Int)(p:ByteArray)(c:Int)(h:side=1∨side=2∨(getT xs p).kind=(getT ys p).kind∨∀a b,sideN policy a b=0):ShN policy xs ys (chosenN xs ys side p c):=by
 unfold ShN chosenN;simp only;by_cases h1:side=1
 ·subst h1;simp
 ·by_cases h2:side=2
  ·subst h2;simp
  ·rw[if_neg h1,if_neg h2];refine⟨⟨.inl rfl,.inr rfl⟩,?_⟩;rcases h with h | h | h | h
   ·exact absurd h h1
   ·exact absurd h h2
   ·exact .inl h
   ·exact .inr ⟨rfl,rfl,h⟩
theorem kind_of_print {a b:Nd}(h:printN a=printN b):a.kind=b.kind:=congrArg Pr.kind h
theorem first_sh (L:List MkE)(p:ByteArray):ShN policy xs ys (firstN policy xs ys (stepR L xs ys p)):=by
 unfold firstN;refine chosen_sh _ _ _ ?_;unfold sideF stepR decideN;simp only;split
 ·rename_i h
  exact .inr (.inr (.inl (kind_of_print h)))
 ·split
  ·exact .inr (.inl rfl)
  ·split
   ·exact .inl rfl
   ·rcases side_cases policy with h | h
    ·exact .inr (.inr (.inr h))
    ·simp only[Int.reduceEq,if_false,if_true];rcases h (oneN p (getT xs p)) (oneN p (getT ys p)) with h | h
     ·exact .inl h
     ·exact .inr (.inl h)
theorem turn_sh (p:ByteArray)(h:∀n∈l,ShN policy xs ys n):∀n∈turnN policy xs ys l p,ShN policy xs ys n:=fun n hn=>by
 obtain⟨m,hm,rfl⟩:=List.mem_map.1 hn;split
 ·refine chosen_sh _ _ _ ?_;rcases side_cases policy with h | h
  ·exact .inr (.inr (.inr h))
  ·rcases h (undT p xs) (undT p ys) with h | h
   ·exact .inl h
   ·exact .inr (.inl h)
 ·exact h m hm
theorem turn_path (p:ByteArray):(turnN policy xs ys l p).map NP.path=l.map NP.path:=by
 unfold turnN;rw[List.map_map];refine List.map_congr_left fun n _=>?_
 simp only[Function.comp];split<;>rfl
theorem go_path (st:List NP×List ByteArray)(m:NP):(goN policy xs ys st m).1.map NP.path=st.1.map NP.path:=by
 unfold goN;split
 ·exact turn_path _
 ·rfl
theorem run_path (i:Nat):(runN policy xs ys l i).1.map NP.path=l.map NP.path:=by
 induction i with
 | zero=>rfl
 | succ i ih=>
  unfold runN;split
  ·rw[go_path,ih]
  ·exact ih
theorem run_len (i:Nat):(runN policy xs ys l i).1.length=l.length:=by
 have:=congrArg List.length (run_path (policy:=policy) (xs:=xs) (ys:=ys) (l:=l) i)
 simpa using this
theorem run_sh (h:∀n∈l,ShN policy xs ys n)(i:Nat):∀n∈(runN policy xs ys l i).1,ShN policy xs ys n:=by
 induction i with
 | zero=>exact h
 | succ i ih=>
  unfold runN;split
  ·unfold goN;split
   ·exact turn_sh _ ih
   ·exact ih
  ·exact ih
theorem ti_dir {zs:List NE}(h:TI zs){p u:ByteArray}(hu:u∈upsS p)(hk:¬(getT zs p).kind=0):(getT zs u).kind=2:=by
 obtain⟨d,hd,rfl,hd2⟩:=h.par _ (getT_kind h.up hk) u hu;rw[getT_in h.up hd];exact hd2
theorem turn_good (hx:TI xs)(hy:TI ys)(hs:∀n∈l,ShN policy xs ys n){p m:NP}(hp:p∈l)(hm:m∈l)(hb:badN l p=true)(hg:m=p∨badN l m=false):
  badN (turnN policy xs ys l p.path) (if inQ p.path m.path=true then chosenN xs ys (sideR policy xs ys p.path) m.path (if m.path=p.path then 4 else 0) else m)=false:=by
 cases hc:badN (turnN policy xs ys l p.path) (if inQ p.path m.path=true then chosenN xs ys (sideR policy xs ys p.path) m.path (if m.path=p.path then 4 else 0) else m) with
 | false=>rfl
 | true=>
  exfalso
  obtain⟨n',hn',h1,h2⟩:=(bad_iff _ _).1 hc;obtain⟨n,hn,rfl⟩:=List.mem_map.1 hn';have hmp:(if inQ p.path m.path=true then chosenN xs ys (sideR policy xs ys p.path) m.path (if m.path=p.path then 4 else 0) else m).path=m.path:=by split<;>rfl
  have hnp:(if inQ p.path n.path=true then chosenN xs ys (sideR policy xs ys p.path) n.path (if n.path=p.path then 4 else 0) else n).path=n.path:=by split<;>rfl
  rw[hmp,hnp] at h1;by_cases hpm:inQ p.path m.path=true
  ·have hpn:inQ p.path n.path=true:=inQ_trans hpm ((inQ_iff _ _).2 (.inr h1));rw[if_pos hpm,if_pos hpn] at h2;unfold chosenN at h2;simp only at h2;rcases h2 with ⟨a,b⟩ | ⟨a,b⟩
   ·by_cases hs2:sideR policy xs ys p.path=2
    ·rw[if_pos hs2] at a b;exact a (ti_dir hy h1 b)
    ·rw[if_neg hs2] at a b;exact a (ti_dir hx h1 b)
   ·by_cases hs2:sideR policy xs ys p.path=1
    ·rw[if_pos hs2] at a b;exact a (ti_dir hx h1 b)
    ·rw[if_neg hs2] at a b;exact a (ti_dir hy h1 b)
  ·rw[if_neg hpm] at h2;have hmg:badN l m=false:=by
    rcases hg with rfl | hg
    ·exact absurd (inQ_self _) hpm
    ·exact hg
   by_cases hpn:inQ p.path n.path=true
   ·rw[if_pos hpn] at h2;have hmup:m.path∈upsS p.path:=by
     rcases (inQ_iff _ _).1 hpn with e | e
     ·rw[e];exact h1
     ·rcases ups_chain h1 e with e | e | e
      ·exact absurd ((inQ_iff _ _).2 (.inl e.symm)) hpm
      ·exact e
      ·exact absurd ((inQ_iff _ _).2 (.inr e)) hpm
    rcases (hs m hm).2 with hk | ⟨e1,e2,e3⟩
    ·obtain⟨n0,hn0,k1,k2⟩:=(bad_iff _ _).1 hb;have hmk:¬m.left.kind=2:=by
      rcases h2 with ⟨a,_⟩ | ⟨a,_⟩
      ·exact a
      ·rw[hk];exact a
     have:badN l m=true:=(bad_iff _ _).2 ⟨n0,hn0,ups_trans hmup k1,by
      rcases k2 with ⟨_,k⟩ | ⟨_,k⟩
      ·exact .inl ⟨hmk,k⟩
      ·exact .inr ⟨by rw[←hk];exact hmk,k⟩⟩
     rw[hmg] at this;cases this
    ·have hsd:sideR policy xs ys p.path=0:=e3 _ _;unfold chosenN at h2;rw[hsd] at h2;simp only[Int.reduceEq,if_false] at h2;rcases h2 with ⟨a,b⟩ | ⟨a,b⟩
     ·exact a (by rw[e1];exact ti_dir hx h1 b)
     ·exact a (by rw[e2];exact ti_dir hy h1 b)
   ·rw[if_neg hpn] at h2;have:badN l m=true:=(bad_iff _ _).2 ⟨n,hn,h1,h2⟩;rw[hmg] at this;cases this
theorem run_good (hx:TI xs)(hy:TI ys)(hs:∀n∈l,ShN policy xs ys n)(i:Nat):∀j,j<i→∀m,(runN policy xs ys l i).1[j]? =some m→badN (runN policy xs ys l i).1 m=false:=by
 induction i with
 | zero=>intro j hj;omega
 | succ i ih=>
  intro j hj m;unfold runN;cases hi:(runN policy xs ys l i).1[i]?with
  | none=>
   intro hm;simp only at hm⊢;have hji:j<i:=by
    have:=List.getElem?_eq_none_iff.1 hi;have:=(List.getElem?_eq_some_iff.1 hm).1;omega
   exact ih j hji m hm
  | some p=>
   simp only;unfold goN;by_cases hb:badN (runN policy xs ys l i).1 p=true
   ·rw[if_pos hb];simp only;intro hm;unfold turnN at hm;rw[List.getElem?_map,Option.map_eq_some_iff] at hm;obtain⟨m0,hm0,rfl⟩:=hm;refine turn_good hx hy (run_sh hs i) (List.mem_of_getElem? hi) (List.mem_of_getElem? hm0) hb ?_;by_cases hji:j=i
    ·subst hji;rw[hi] at hm0;exact .inl (Option.some.inj hm0).symm
    ·exact .inr (ih j (by omega) m0 hm0)
   ·rw[if_neg hb];intro hm;by_cases hji:j=i
    ·subst hji;rw[hi] at hm;rw[←Option.some.inj hm]
     simpa using hb
    ·exact ih j (by omega) m hm
end
theorem begin_path (policy:Int)(L:List MkE)(xs ys:List NE):(beginN policy L xs ys).map NP.path=pathsS (L.map Prod.fst++xs.map Prod.fst++ys.map Prod.fst):=by
 unfold beginN allR;rw[List.map_map,List.map_map];exact(List.map_congr_left (fun p _=>rfl)).trans (List.map_id _)
theorem begin_sh (policy:Int)(L:List MkE)(xs ys:List NE):∀n∈beginN policy L xs ys,ShN policy xs ys n:=fun n hn=>by
 obtain⟨s,hs,rfl⟩:=List.mem_map.1 hn;obtain⟨p,_,rfl⟩:=List.mem_map.1 hs;exact first_sh L p
theorem one_mem {p:ByteArray}{n:Nd}{e:NE}:e∈oneN p n↔e=(p,n)∧¬n.kind=0:=by
 unfold oneN;split
 ·rename_i h
  simp [h]
 ·rename_i h
  simp [h]
theorem one_up (f:NP→Nd):∀l:List NP,Rise (l.map NP.path)→Up ordS (l.flatMap fun n=>oneN n.path (f n))
 | [],_=>List.Pairwise.nil
 | n::r,h=>by
  have hr:=List.pairwise_cons.1 h;have ih:=one_up f r hr.2;rw[List.flatMap_cons];unfold oneN;split
  ·exact ih
  ·rw[List.singleton_append];refine List.pairwise_cons.2 ⟨fun e he=>?_,ih⟩;obtain⟨m,hm,he⟩:=List.mem_flatMap.1 he;rw[(one_mem.1 he).1];exact hr.1 _ (List.mem_map.2 ⟨m,hm,rfl⟩)
theorem side_ti {xs ys:List NE}(hx:TI xs)(hy:TI ys){l:List NP}(f:NP→Nd)(hf:∀n∈l,f n=getT xs n.path∨f n=getT ys n.path)(hr:Rise (l.map NP.path))(ha:∀e,e∈xs∨e∈ys→e.1∈l.map NP.path)(hb:∀m∈l,∀n∈l,m.path∈upsS n.path→¬(f n).kind=0→(f m).kind=2):TI (l.flatMap fun n=>oneN n.path (f n)):=by
 have hmem:∀e,e∈(l.flatMap fun n=>oneN n.path (f n))↔∃n∈l,e=(n.path,f n)∧¬(f n).kind=0:=fun e=>by
  rw[List.mem_flatMap];exact⟨fun⟨n,hn,h⟩=>⟨n,hn,one_mem.1 h⟩,fun⟨n,hn,h⟩=>⟨n,hn,one_mem.2 h⟩⟩
 have hin:∀n∈l,¬(f n).kind=0→(n.path,f n)∈xs∨(n.path,f n)∈ys:=fun n hn hk=>by
  rcases hf n hn with e | e
  ·rw[e] at hk⊢;exact .inl (getT_kind hx.up hk)
  ·rw[e] at hk⊢;exact .inr (getT_kind hy.up hk)
 refine⟨one_up f l hr,fun e he=>?_,fun e he=>?_,fun e he u hu=>?_⟩
 ·obtain⟨n,hn,rfl,hk⟩:=(hmem e).1 he;rcases hin n hn hk with h | h
  ·exact hx.paths _ h
  ·exact hy.paths _ h
 ·obtain⟨n,hn,rfl,hk⟩:=(hmem e).1 he;rcases hin n hn hk with h | h
  ·exact hx.nod _ h
  ·exact hy.nod _ h
 ·obtain⟨n,hn,rfl,hk⟩:=(hmem e).1 he;have hup:u∈l.map NP.path:=by
   rcases hin n hn hk with h | h
   ·obtain⟨d,hd,rfl,_⟩:=hx.par _ h u hu;exact ha d (.inl hd)
   ·obtain⟨d,hd,rfl,_⟩:=hy.par _ h u hu;exact ha d (.inr hd)
  obtain⟨m,hm,rfl⟩:=List.mem_map.1 hup;have h2:=hb m hm n hn hu hk;exact⟨(m.path,f m),(hmem _).2 ⟨m,hm,rfl,by rw[h2];decide⟩,rfl,h2⟩
section
variable (policy:Int) (L:List MkE) {xs ys:List NE}
theorem end_path:(endN policy L xs ys).1.map NP.path=pathsS (L.map Prod.fst++xs.map Prod.fst++ys.map Prod.fst):=by
 unfold endN;rw[run_path,begin_path]
theorem end_good (hx:TI xs)(hy:TI ys):∀m∈(endN policy L xs ys).1,badN (endN policy L xs ys).1 m=false:=fun m hm=>by
 obtain⟨j,hj,rfl⟩:=List.getElem_of_mem hm;unfold endN at hj⊢;refine run_good hx hy (begin_sh policy L xs ys) _ j ?_ _ (zM hj);rw[run_len] at hj;exact hj
theorem end_sh:∀n∈(endN policy L xs ys).1,ShN policy xs ys n:=run_sh (begin_sh policy L xs ys) _
theorem end_all:∀e,e∈xs∨e∈ys→e.1∈(endN policy L xs ys).1.map NP.path:=fun e he=>by
 rw[end_path,pathsS_mem];rcases he with h | h
 ·exact zU _ (List.mem_append_right _ (List.mem_map.2 ⟨e,h,rfl⟩))
 ·exact List.mem_append_right _ (List.mem_map.2 ⟨e,h,rfl⟩)
theorem left_ti (hx:TI xs)(hy:TI ys):TI (leftN (endN policy L xs ys).1):=
 side_ti hx hy NP.left (fun n hn=>(end_sh policy L n hn).1.1) (by rw[end_path];exact pathsS_rise _) (end_all policy L) (fun m hm n hn hu hk=>by
  rcases Classical.em (m.left.kind=2) with h | h
  ·exact h
  ·have:=(bad_iff _ _).2 ⟨n,hn,hu,.inl ⟨h,hk⟩⟩;rw[end_good policy L hx hy m hm] at this;cases this)
theorem right_ti (hx:TI xs)(hy:TI ys):TI (rightN (endN policy L xs ys).1):=
 side_ti hx hy NP.right (fun n hn=>(end_sh policy L n hn).1.2) (by rw[end_path];exact pathsS_rise _) (end_all policy L) (fun m hm n hn hu hk=>by
  rcases Classical.em (m.right.kind=2) with h | h
  ·exact h
  ·have:=(bad_iff _ _).2 ⟨n,hn,hu,.inr ⟨h,hk⟩⟩;rw[end_good policy L hx hy m hm] at this;cases this)
end
end Sw
namespace Go.Proofs.YtnpehjgnplaabaaGreatDoor
open Go Go.RowKit
open Sw
def eNP (n:NP):List Value:=[.string n.path,.int .i64 n.left.kind,.int .i64 n.left.mode,.int .u32 n.left.time,.string n.left.data,.int .i64 n.right.kind,.int .i64 n.right.mode,.int .u32 n.right.time,.string n.right.data,.int .i64 n.cls]
theorem eNP_len (n:NP):(eNP n).length=10:=rfl
theorem blk_farG4 {w:World}{g g':Nat}{t:TypeId}{cs:Array Value}{o1 o2 o3 o4:Nat}{v1 v2 v3 v4:Value}(h:Blk w g' t cs)(hne:g'≠g):Blk ((((w.setCell ⟨g,o1,none⟩ v1).setCell ⟨g,o2,none⟩ v2).setCell ⟨g,o3,none⟩ v3).setCell ⟨g,o4,none⟩ v4) g' t cs:=
 ((zJ _ ⟨g,o4,none⟩ _ g' hne).trans ((zJ _ ⟨g,o3,none⟩ _ g' hne).trans ((zJ _ ⟨g,o2,none⟩ _ g' hne).trans (zJ _ ⟨g,o1,none⟩ _ g' hne)))).trans h
theorem chosenP_any (w:World)(p:ByteArray)(nl nr:Nd)(c:Int)(side:Int)(u v:Value)(xs ys:List NE)(hu:SlV w 5 eCSN u xs)(hv:SlV w 5 eCSN v ys)(hxu:Up ordS xs)(hyu:Up ordS ys):
  Calls Tryz.prog 34 #[.agg (eNP ⟨p,nl,nr,c⟩).toArray,.int .i64 side,u,v] w fun e w'=>e= .returned (.agg (eNP (chosenN xs ys side p c)).toArray)∧Below w.heap.size w w':=by
 obtain⟨la,lb,lc,ld⟩:=nl;obtain⟨ra,rb,rc,rd⟩:=nr;obtain⟨W,hW⟩:∃W,(w.alloc (.cells #[.string p,.int .i64 la,.int .i64 lb,.int .u32 lc,.string ld,.int .i64 ra,.int .i64 rb,.int .u32 rc,.string rd,.int .i64 c] 90)).alloc (.cells #[.string ⟨#[]⟩,.int .i64 0,.int .i64 0,.int .u32 0,.string ⟨#[]⟩,.int .i64 0,.int .i64 0,.int .u32 0,.string ⟨#[]⟩,.int .i64 0] 90)=W:=⟨_,rfl⟩;have hbW:Below w.heap.size w W:=by rw[←hW];exact((zR _ w).alloc (zN _) _).alloc (by simp) _
 have hB:Blk W w.heap.size 90 #[.string p,.int .i64 la,.int .i64 lb,.int .u32 lc,.string ld,.int .i64 ra,.int .i64 rb,.int .u32 rc,.string rd,.int .i64 c]:=by rw[←hW];exact blk_fst _ _ _ _
 have hR:Blk W (w.heap.size+1) 90 #[.string ⟨#[]⟩,.int .i64 0,.int .i64 0,.int .u32 0,.string ⟨#[]⟩,.int .i64 0,.int .i64 0,.int .u32 0,.string ⟨#[]⟩,.int .i64 0]:=by rw[←hW];exact blk_snd _ _ _ _
 have HG1:=zH (fun V (hV:Below w.heap.size w V)=>(by have:=ref16Get_any V u xs p (hu.below hV (zN _));rw[refGetT_eq xs p hxu] at this;exact this:Calls Tryz.prog 70 #[u,.string p] V fun e w'=>e= .returned (.agg (getT xs p).c)∧Below V.heap.size V w'));have HG2:=zH (fun V (hV:Below w.heap.size w V)=>(by have:=ref16Get_any V v ys p (hv.below hV (zN _));rw[refGetT_eq ys p hyu] at this;exact this:Calls Tryz.prog 70 #[v,.string p] V fun e w'=>e= .returned (.agg (getT ys p).c)∧Below V.heap.size V w'));have hCH:chosenN xs ys side p c=⟨p,if side=2 then getT ys p else getT xs p,if side=1 then getT xs p else getT ys p,c⟩:=rfl;rw[hCH];clear hu hv hxu hyu hCH;obtain⟨nx,hnx⟩:∃n,getT xs p=n:=⟨_,rfl⟩;obtain⟨ny,hny⟩:∃n,getT ys p=n:=⟨_,rfl⟩;rw[hnx] at HG1;rw[hny] at HG2;rw[hnx,hny];clear hnx hny;obtain⟨xa,xb,xc,xd⟩:=nx;obtain⟨ya,yb,yc,yd⟩:=ny;simp only[Nd.c] at HG1 HG2;have HW:=zH hW;have H0:=zH (zA hbW (zA hB hR));have b0:=hB.cell 0;simp only[qA,qB,qC] at b0;clear hW hbW hB hR;unfold eNP;simp only;go_enter Tryz.func34,Tryz.ntmps34
 go_upto_region 1 with fail
 rw[HW.out];go_wp2_with fail
 refine(HG1.out W H0.out.1).mono ?_;rintro e w1 ⟨rfl,hb1⟩;have H1:=zH (zA (H0.out.1.trans (hb1.mono H0.out.1.size)) (zA (H0.out.2.1.below hb1 H0.out.2.1.lt) (H0.out.2.2.below hb1 H0.out.2.2.lt)));clear hb1 b0 HG1;have z1:=H1.out.2.1.cell 1;have z2:=H1.out.2.1.cell 2;have z3:=H1.out.2.1.cell 3;have z4:=H1.out.2.1.cell 4;have fz1:=H1.out.2.1.frozen 1;have fz2:=H1.out.2.1.frozen 2;have fz3:=H1.out.2.1.frozen 3;have fz4:=H1.out.2.1.frozen 4;simp only[qA,qB,qC] at z1 z2 z3 z4;go_upto_region 2 with fail
 obtain⟨U1,hU1⟩:∃U,((((w1.setCell ⟨w.heap.size,1,none⟩ (.int .i64 xa)).setCell ⟨w.heap.size,2,none⟩ (.int .i64 xb)).setCell ⟨w.heap.size,3,none⟩ (.int .u32 xc)).setCell ⟨w.heap.size,4,none⟩ (.string xd))=U:=⟨_,rfl⟩;have p3:Blk ((((w1.setCell ⟨w.heap.size,1,none⟩ (.int .i64 xa)).setCell ⟨w.heap.size,2,none⟩ (.int .i64 xb)).setCell ⟨w.heap.size,3,none⟩ (.int .u32 xc)).setCell ⟨w.heap.size,4,none⟩ (.string xd)) w.heap.size 90 #[.string p,.int .i64 xa,.int .i64 xb,.int .u32 xc,.string xd,.int .i64 ra,.int .i64 rb,.int .u32 rc,.string rd,.int .i64 c]:=Blk.put4a (H1.out.2.1);have hB1:Blk U1 w.heap.size 90 #[.string p,.int .i64 xa,.int .i64 xb,.int .u32 xc,.string xd,.int .i64 ra,.int .i64 rb,.int .u32 rc,.string rd,.int .i64 c]:=by rw[←hU1];exact p3
 have hr1:Blk U1 (w.heap.size+1) 90 #[.string ⟨#[]⟩,.int .i64 0,.int .i64 0,.int .u32 0,.string ⟨#[]⟩,.int .i64 0,.int .i64 0,.int .u32 0,.string ⟨#[]⟩,.int .i64 0]:=by rw[←hU1];exact blk_farG4 H1.out.2.2 (by omega)
 have hbU1:Below w.heap.size w U1:=by rw[←hU1];exact Below.set4a (H1.out.1) (zN _)
 rw[hU1];clear hU1 p3 z1 z2 z3 z4 fz1 fz2 fz3 fz4;have H2:=zH (zA hbU1 (zA hB1 hr1));have b0:=hB1.cell 0;simp only[qA,qB,qC] at b0;clear hbU1 hB1 hr1;go_wp2_with fail
 refine(HG2.out U1 H2.out.1).mono ?_;rintro e w2 ⟨rfl,hb2⟩;have H3:=zH (zA (H2.out.1.trans (hb2.mono H2.out.1.size)) (zA (H2.out.2.1.below hb2 H2.out.2.1.lt) (H2.out.2.2.below hb2 H2.out.2.2.lt)));clear hb2 b0 HG2;have z5:=H3.out.2.1.cell 5;have z6:=H3.out.2.1.cell 6;have z7:=H3.out.2.1.cell 7;have z8:=H3.out.2.1.cell 8;have fz5:=H3.out.2.1.frozen 5;have fz6:=H3.out.2.1.frozen 6;have fz7:=H3.out.2.1.frozen 7;have fz8:=H3.out.2.1.frozen 8;simp only[qA,qB,qC] at z5 z6 z7 z8;go_upto_region 3 with fail
 obtain⟨U2,hU2⟩:∃U,((((w2.setCell ⟨w.heap.size,5,none⟩ (.int .i64 ya)).setCell ⟨w.heap.size,6,none⟩ (.int .i64 yb)).setCell ⟨w.heap.size,7,none⟩ (.int .u32 yc)).setCell ⟨w.heap.size,8,none⟩ (.string yd))=U:=⟨_,rfl⟩;have p3:Blk ((((w2.setCell ⟨w.heap.size,5,none⟩ (.int .i64 ya)).setCell ⟨w.heap.size,6,none⟩ (.int .i64 yb)).setCell ⟨w.heap.size,7,none⟩ (.int .u32 yc)).setCell ⟨w.heap.size,8,none⟩ (.string yd)) w.heap.size 90 #[.string p,.int .i64 xa,.int .i64 xb,.int .u32 xc,.string xd,.int .i64 ya,.int .i64 yb,.int .u32 yc,.string yd,.int .i64 c]:=Blk.put4b (H3.out.2.1);have hB2:Blk U2 w.heap.size 90 #[.string p,.int .i64 xa,.int .i64 xb,.int .u32 xc,.string xd,.int .i64 ya,.int .i64 yb,.int .u32 yc,.string yd,.int .i64 c]:=by rw[←hU2];exact p3
 have hr2:Blk U2 (w.heap.size+1) 90 #[.string ⟨#[]⟩,.int .i64 0,.int .i64 0,.int .u32 0,.string ⟨#[]⟩,.int .i64 0,.int .i64 0,.int .u32 0,.string ⟨#[]⟩,.int .i64 0]:=by rw[←hU2];exact blk_farG4 H3.out.2.2 (by omega)
 have hbU2:Below w.heap.size w U2:=by rw[←hU2];exact Below.set4b (H3.out.1) (zN _)
 rw[hU2];clear hU2 p3 z5 z6 z7 z8 fz5 fz6 fz7 fz8;by_cases h2:side=2
 ·subst h2;have H4:=zH (zA hbU2 (zA hB2 hr2));clear hbU2 hB2 hr2;have z1:=H4.out.2.1.cell 1;have z2:=H4.out.2.1.cell 2;have z3:=H4.out.2.1.cell 3;have z4:=H4.out.2.1.cell 4;have z5:=H4.out.2.1.cell 5;have z6:=H4.out.2.1.cell 6;have z7:=H4.out.2.1.cell 7;have z8:=H4.out.2.1.cell 8;have fz1:=H4.out.2.1.frozen 1;have fz2:=H4.out.2.1.frozen 2;have fz3:=H4.out.2.1.frozen 3;have fz4:=H4.out.2.1.frozen 4;simp only[qA,qB,qC] at z1 z2 z3 z4 z5 z6 z7 z8;go_upto_region 7 with fail
  obtain⟨U3,hU3⟩:∃U,((((U2.setCell ⟨w.heap.size,1,none⟩ (.int .i64 ya)).setCell ⟨w.heap.size,2,none⟩ (.int .i64 yb)).setCell ⟨w.heap.size,3,none⟩ (.int .u32 yc)).setCell ⟨w.heap.size,4,none⟩ (.string yd))=U:=⟨_,rfl⟩;have p3:Blk ((((U2.setCell ⟨w.heap.size,1,none⟩ (.int .i64 ya)).setCell ⟨w.heap.size,2,none⟩ (.int .i64 yb)).setCell ⟨w.heap.size,3,none⟩ (.int .u32 yc)).setCell ⟨w.heap.size,4,none⟩ (.string yd)) w.heap.size 90 #[.string p,.int .i64 ya,.int .i64 yb,.int .u32 yc,.string yd,.int .i64 ya,.int .i64 yb,.int .u32 yc,.string yd,.int .i64 c]:=Blk.put4a (H4.out.2.1);have hB3:Blk U3 w.heap.size 90 #[.string p,.int .i64 ya,.int .i64 yb,.int .u32 yc,.string yd,.int .i64 ya,.int .i64 yb,.int .u32 yc,.string yd,.int .i64 c]:=by rw[←hU3];exact p3
  have hr3:Blk U3 (w.heap.size+1) 90 #[.string ⟨#[]⟩,.int .i64 0,.int .i64 0,.int .u32 0,.string ⟨#[]⟩,.int .i64 0,.int .i64 0,.int .u32 0,.string ⟨#[]⟩,.int .i64 0]:=by rw[←hU3];exact blk_farG4 H4.out.2.2 (by omega)
  have hbU3:Below w.heap.size w U3:=by rw[←hU3];exact Below.set4a (H4.out.1) (zN _)
  rw[hU3];clear hU3 p3 z1 z2 z3 z4 z5 z6 z7 z8 fz1 fz2 fz3 fz4;have H5:=zH (zA hbU3 (zA hB3 hr3));clear hbU3 hB3 hr3;obtain⟨z0,z1,z2,z3,z4,z5,z6,z7,z8,z9⟩:=zc10 H5.out.2.1;simp only[qA,qB,qC] at z0 z1 z2 z3 z4 z5 z6 z7 z8 z9;obtain⟨y0,y1,y2,y3,y4,y5,y6,y7,y8,y9⟩:=zc10 H5.out.2.2;obtain⟨fy0,fy1,fy2,fy3,fy4,fy5,fy6,fy7,fy8,fy9⟩:=zf10 H5.out.2.2;simp only[qA,qB,qC] at y0 y1 y2 y3 y4 y5 y6 y7 y8 y9;go_wp2_with fail
  obtain⟨U4,hU4⟩:∃U,((((((((((U3.setCell ⟨w.heap.size+1,0,none⟩ (.string p)).setCell ⟨w.heap.size+1,1,none⟩ (.int .i64 ya)).setCell ⟨w.heap.size+1,2,none⟩ (.int .i64 yb)).setCell ⟨w.heap.size+1,3,none⟩ (.int .u32 yc)).setCell ⟨w.heap.size+1,4,none⟩ (.string yd)).setCell ⟨w.heap.size+1,5,none⟩ (.int .i64 ya)).setCell ⟨w.heap.size+1,6,none⟩ (.int .i64 yb)).setCell ⟨w.heap.size+1,7,none⟩ (.int .u32 yc)).setCell ⟨w.heap.size+1,8,none⟩ (.string yd)).setCell ⟨w.heap.size+1,9,none⟩ (.int .i64 c))=U:=⟨_,rfl⟩;have p9:Blk ((((((((((U3.setCell ⟨(w.heap.size+1),0,none⟩ (.string p)).setCell ⟨(w.heap.size+1),1,none⟩ (.int .i64 ya)).setCell ⟨(w.heap.size+1),2,none⟩ (.int .i64 yb)).setCell ⟨(w.heap.size+1),3,none⟩ (.int .u32 yc)).setCell ⟨(w.heap.size+1),4,none⟩ (.string yd)).setCell ⟨(w.heap.size+1),5,none⟩ (.int .i64 ya)).setCell ⟨(w.heap.size+1),6,none⟩ (.int .i64 yb)).setCell ⟨(w.heap.size+1),7,none⟩ (.int .u32 yc)).setCell ⟨(w.heap.size+1),8,none⟩ (.string yd)).setCell ⟨(w.heap.size+1),9,none⟩ (.int .i64 c)) (w.heap.size+1) 90 #[.string p,.int .i64 ya,.int .i64 yb,.int .u32 yc,.string yd,.int .i64 ya,.int .i64 yb,.int .u32 yc,.string yd,.int .i64 c]:=Blk.put10 (H5.out.2.2);have hB4:Blk U4 (w.heap.size+1) 90 #[.string p,.int .i64 ya,.int .i64 yb,.int .u32 yc,.string yd,.int .i64 ya,.int .i64 yb,.int .u32 yc,.string yd,.int .i64 c]:=by rw[←hU4];exact p9
  have hb4:Below w.heap.size w U4:=by rw[←hU4];exact Below.set10 (H5.out.1) (Nat.le_succ _)
  rw[hU4];refine bodyPost_ret (v:= .agg #[.string p,.int .i64 ya,.int .i64 yb,.int .u32 yc,.string yd,.int .i64 ya,.int .i64 yb,.int .u32 yc,.string yd,.int .i64 c]) (results_cell_row rfl _ _ (w.heap.size+1) 90 #[.string p,.int .i64 ya,.int .i64 yb,.int .u32 yc,.string yd,.int .i64 ya,.int .i64 yb,.int .u32 yc,.string yd,.int .i64 c] (0,0) _ rfl hB4 Tryz.underlying90 rfl (by kernel_rfl)) rfl ⟨?_,hb4⟩;rfl
 ·by_cases h1:side=1
  ·subst h1;have H4:=zH (zA hbU2 (zA hB2 hr2));clear hbU2 hB2 hr2;have z1:=H4.out.2.1.cell 1;have z2:=H4.out.2.1.cell 2;have z3:=H4.out.2.1.cell 3;have z4:=H4.out.2.1.cell 4;have z5:=H4.out.2.1.cell 5;have z6:=H4.out.2.1.cell 6;have z7:=H4.out.2.1.cell 7;have z8:=H4.out.2.1.cell 8;have fz5:=H4.out.2.1.frozen 5;have fz6:=H4.out.2.1.frozen 6;have fz7:=H4.out.2.1.frozen 7;have fz8:=H4.out.2.1.frozen 8;simp only[qA,qB,qC] at z1 z2 z3 z4 z5 z6 z7 z8;go_upto_region 7 with fail
   obtain⟨U3,hU3⟩:∃U,((((U2.setCell ⟨w.heap.size,5,none⟩ (.int .i64 xa)).setCell ⟨w.heap.size,6,none⟩ (.int .i64 xb)).setCell ⟨w.heap.size,7,none⟩ (.int .u32 xc)).setCell ⟨w.heap.size,8,none⟩ (.string xd))=U:=⟨_,rfl⟩;have p3:Blk ((((U2.setCell ⟨w.heap.size,5,none⟩ (.int .i64 xa)).setCell ⟨w.heap.size,6,none⟩ (.int .i64 xb)).setCell ⟨w.heap.size,7,none⟩ (.int .u32 xc)).setCell ⟨w.heap.size,8,none⟩ (.string xd)) w.heap.size 90 #[.string p,.int .i64 xa,.int .i64 xb,.int .u32 xc,.string xd,.int .i64 xa,.int .i64 xb,.int .u32 xc,.string xd,.int .i64 c]:=Blk.put4b (H4.out.2.1);(have hB3:Blk U3 w.heap.size 90 #[.string p,.int .i64 xa,.int .i64 xb,.int .u32 xc,.string xd,.int .i64 xa,.int .i64 xb,.int .u32 xc,.string xd,.int .i64 c]:=by rw[←hU3];exact p3);(have hr3:Blk U3 (w.heap.size+1) 90 #[.string ⟨#[]⟩,.int .i64 0,.int .i64 0,.int .u32 0,.string ⟨#[]⟩,.int .i64 0,.int .i64 0,.int .u32 0,.string ⟨#[]⟩,.int .i64 0]:=by rw[←hU3];exact blk_farG4 H4.out.2.2 (by omega));(have hbU3:Below w.heap.size w U3:=by rw[←hU3];exact Below.set4b (H4.out.1) (zN _));rw[hU3];clear hU3 z1 z2 z3 z4 z5 z6 z7 z8 fz5 fz6 fz7 fz8;have H5:=zH (zA hbU3 (zA hB3 hr3));clear hbU3 hB3 hr3;obtain⟨z0,z1,z2,z3,z4,z5,z6,z7,z8,z9⟩:=zc10 H5.out.2.1;simp only[qA,qB,qC] at z0 z1 z2 z3 z4 z5 z6 z7 z8 z9;obtain⟨y0,y1,y2,y3,y4,y5,y6,y7,y8,y9⟩:=zc10 H5.out.2.2;obtain⟨fy0,fy1,fy2,fy3,fy4,fy5,fy6,fy7,fy8,fy9⟩:=zf10 H5.out.2.2;simp only[qA,qB,qC] at y0 y1 y2 y3 y4 y5 y6 y7 y8 y9;(go_wp2_with fail);obtain⟨U4,hU4⟩:∃U,((((((((((U3.setCell ⟨w.heap.size+1,0,none⟩ (.string p)).setCell ⟨w.heap.size+1,1,none⟩ (.int .i64 xa)).setCell ⟨w.heap.size+1,2,none⟩ (.int .i64 xb)).setCell ⟨w.heap.size+1,3,none⟩ (.int .u32 xc)).setCell ⟨w.heap.size+1,4,none⟩ (.string xd)).setCell ⟨w.heap.size+1,5,none⟩ (.int .i64 xa)).setCell ⟨w.heap.size+1,6,none⟩ (.int .i64 xb)).setCell ⟨w.heap.size+1,7,none⟩ (.int .u32 xc)).setCell ⟨w.heap.size+1,8,none⟩ (.string xd)).setCell ⟨w.heap.size+1,9,none⟩ (.int .i64 c))=U:=⟨_,rfl⟩;have p9:Blk ((((((((((U3.setCell ⟨(w.heap.size+1),0,none⟩ (.string p)).setCell ⟨(w.heap.size+1),1,none⟩ (.int .i64 xa)).setCell ⟨(w.heap.size+1),2,none⟩ (.int .i64 xb)).setCell ⟨(w.heap.size+1),3,none⟩ (.int .u32 xc)).setCell ⟨(w.heap.size+1),4,none⟩ (.string xd)).setCell ⟨(w.heap.size+1),5,none⟩ (.int .i64 xa)).setCell ⟨(w.heap.size+1),6,none⟩ (.int .i64 xb)).setCell ⟨(w.heap.size+1),7,none⟩ (.int .u32 xc)).setCell ⟨(w.heap.size+1),8,none⟩ (.string xd)).setCell ⟨(w.heap.size+1),9,none⟩ (.int .i64 c)) (w.heap.size+1) 90 #[.string p,.int .i64 xa,.int .i64 xb,.int .u32 xc,.string xd,.int .i64 xa,.int .i64 xb,.int .u32 xc,.string xd,.int .i64 c]:=Blk.put10 (H5.out.2.2);(have hB4:Blk U4 (w.heap.size+1) 90 #[.string p,.int .i64 xa,.int .i64 xb,.int .u32 xc,.string xd,.int .i64 xa,.int .i64 xb,.int .u32 xc,.string xd,.int .i64 c]:=by rw[←hU4];exact p9);(have hb4:Below w.heap.size w U4:=by rw[←hU4];exact Below.set10 (H5.out.1) (Nat.le_succ _));rw[hU4];refine bodyPost_ret (v:= .agg #[.string p,.int .i64 xa,.int .i64 xb,.int .u32 xc,.string xd,.int .i64 xa,.int .i64 xb,.int .u32 xc,.string xd,.int .i64 c]) (results_cell_row rfl _ _ (w.heap.size+1) 90 #[.string p,.int .i64 xa,.int .i64 xb,.int .u32 xc,.string xd,.int .i64 xa,.int .i64 xb,.int .u32 xc,.string xd,.int .i64 c] (0,0) _ rfl hB4 Tryz.underlying90 rfl (by kernel_rfl)) rfl ⟨?_,hb4⟩;rfl
  ·have HSD:=zH (zA h2 h1);obtain⟨U3,hU3⟩:∃U,U2=U:=⟨_,rfl⟩;rw[hU3] at hB2 hr2 hbU2⊢;clear hU3;have H5:=zH (zA hbU2 (zA hB2 hr2));clear hbU2 hB2 hr2;obtain⟨z0,z1,z2,z3,z4,z5,z6,z7,z8,z9⟩:=zc10 H5.out.2.1;simp only[qA,qB,qC] at z0 z1 z2 z3 z4 z5 z6 z7 z8 z9;obtain⟨y0,y1,y2,y3,y4,y5,y6,y7,y8,y9⟩:=zc10 H5.out.2.2;obtain⟨fy0,fy1,fy2,fy3,fy4,fy5,fy6,fy7,fy8,fy9⟩:=zf10 H5.out.2.2;simp only[qA,qB,qC] at y0 y1 y2 y3 y4 y5 y6 y7 y8 y9;go_wp2_with fail
   obtain⟨U4,hU4⟩:∃U,((((((((((U3.setCell ⟨w.heap.size+1,0,none⟩ (.string p)).setCell ⟨w.heap.size+1,1,none⟩ (.int .i64 xa)).setCell ⟨w.heap.size+1,2,none⟩ (.int .i64 xb)).setCell ⟨w.heap.size+1,3,none⟩ (.int .u32 xc)).setCell ⟨w.heap.size+1,4,none⟩ (.string xd)).setCell ⟨w.heap.size+1,5,none⟩ (.int .i64 ya)).setCell ⟨w.heap.size+1,6,none⟩ (.int .i64 yb)).setCell ⟨w.heap.size+1,7,none⟩ (.int .u32 yc)).setCell ⟨w.heap.size+1,8,none⟩ (.string yd)).setCell ⟨w.heap.size+1,9,none⟩ (.int .i64 c))=U:=⟨_,rfl⟩;have p9:Blk ((((((((((U3.setCell ⟨(w.heap.size+1),0,none⟩ (.string p)).setCell ⟨(w.heap.size+1),1,none⟩ (.int .i64 xa)).setCell ⟨(w.heap.size+1),2,none⟩ (.int .i64 xb)).setCell ⟨(w.heap.size+1),3,none⟩ (.int .u32 xc)).setCell ⟨(w.heap.size+1),4,none⟩ (.string xd)).setCell ⟨(w.heap.size+1),5,none⟩ (.int .i64 ya)).setCell ⟨(w.heap.size+1),6,none⟩ (.int .i64 yb)).setCell ⟨(w.heap.size+1),7,none⟩ (.int .u32 yc)).setCell ⟨(w.heap.size+1),8,none⟩ (.string yd)).setCell ⟨(w.heap.size+1),9,none⟩ (.int .i64 c)) (w.heap.size+1) 90 #[.string p,.int .i64 xa,.int .i64 xb,.int .u32 xc,.string xd,.int .i64 ya,.int .i64 yb,.int .u32 yc,.string yd,.int .i64 c]:=Blk.put10 (H5.out.2.2);(have hB4:Blk U4 (w.heap.size+1) 90 #[.string p,.int .i64 xa,.int .i64 xb,.int .u32 xc,.string xd,.int .i64 ya,.int .i64 yb,.int .u32 yc,.string yd,.int .i64 c]:=by rw[←hU4];exact p9);(have hb4:Below w.heap.size w U4:=by rw[←hU4];exact Below.set10 (H5.out.1) (Nat.le_succ _));rw[hU4];refine bodyPost_ret (v:= .agg #[.string p,.int .i64 xa,.int .i64 xb,.int .u32 xc,.string xd,.int .i64 ya,.int .i64 yb,.int .u32 yc,.string yd,.int .i64 c]) (results_cell_row rfl _ _ (w.heap.size+1) 90 #[.string p,.int .i64 xa,.int .i64 xb,.int .u32 xc,.string xd,.int .i64 ya,.int .i64 yb,.int .u32 yc,.string yd,.int .i64 c] (0,0) _ rfl hB4 Tryz.underlying90 rfl (by kernel_rfl)) rfl ⟨?_,hb4⟩;rfl
theorem chosen_any (w:World)(n:NP)(side:Int)(u v:Value)(xs ys:List NE)(hu:SlV w 5 eCSN u xs)(hv:SlV w 5 eCSN v ys)(hxu:Up ordS xs)(hyu:Up ordS ys):
  Calls Tryz.prog 34 #[.agg (eNP n).toArray,.int .i64 side,u,v] w fun e w'=>e= .returned (.agg (eNP (chosenN xs ys side n.path n.cls)).toArray)∧Below w.heap.size w w':=
 chosenP_any w n.path n.left n.right n.cls side u v xs ys hu hv hxu hyu
end Go.Proofs.YtnpehjgnplaabaaGreatDoor
namespace Sw
open Go
end Sw
namespace Go.Proofs.YtnpehjgnplaabaaGreatDoor
open Go Go.RowKit
open Sw
theorem awayT_eq (p:ByteArray)(e:NE):awayT p e= !(decide (p=e.1)||inS (upsS e.1) p):=by
 unfold awayT;by_cases h:p=e.1
 ·simp [h]
 ·simp [h,Ne.symm h]
theorem in31_any (w:World)(p q:ByteArray)(hq:q.size≤90000):
  Calls Tryz.prog 37 #[.string p,.string q] w fun e w'=>e= .returned (.bool (decide (p=q)||inS (upsS q) p))∧Below w.heap.size w w':=by
 have HU:=zH (ref16Under_any w p q hq);have hse:=str_eq p q;obtain⟨R,hR⟩:∃R,inS (upsS q) p=R:=⟨_,rfl⟩;rw[hR];rw[hR] at HU;clear hR hq;by_cases h:p=q
 ·rw[zE h] at hse;have HX:=zH (show(decide (p=q)||R)=true by rw[zE h];rfl);have HSE:=zH hse;subst h;go_enter Tryz.func37,Tryz.ntmps37
  go_wp2_with fail
  go_ret;refine⟨?_,zR _ _⟩;first | rfl | simp | (rw[zE rfl];rfl)
 ·rw[zD h] at hse;have HX:=zH (show(decide (p=q)||R)=R by rw[zD h];rfl);clear h;go_enter Tryz.func37,Tryz.ntmps37
  go_wp2_with fail
  refine HU.out.mono ?_;rintro e w1 ⟨rfl,hb⟩;have HB:=zH hb;clear hb;go_wp2_with fail
  go_ret;rw[HX.out];exact⟨rfl,HB.out⟩
theorem part31_any (w:World)(v:Value)(l:List NE)(p:ByteArray)(h:SlV w 5 eCSN v l)(hl:l.length≤1000)(hz:∀e∈l,e.1.size≤90000):
  Calls Tryz.prog 36 #[v,.string p] w fun e w'=>∃r,e= .returned r∧OwnIt w' w.heap.size r (undT p l)∧Below w.heap.size w w':=by
 unfold undT;have HZ:=zH hz;clear hz;obtain⟨A,c,rfl,hc1,hc2,hsl⟩:=h;obtain⟨n,hn⟩:∃n,l.length=n:=⟨_,rfl⟩;rw[hn] at hc1 hl⊢;unfold maxLen at hc2;have HL:=zH hn;clear hn;have HS:=zH hsl;clear hsl;go_enter Tryz.func36,Tryz.ntmps36
 go_wp2_with fail
 go_loopw [5,10] (fun ov iv wr=>∃i:Nat,i≤n∧iv= .int .i64 i∧OwnIt wr w.heap.size ov ((l.take i).filter fun e=> !awayT p e)∧Below w.heap.size w wr) (fun _ iv _=>n-(intOf iv).toNat)
 case atStart=>exact⟨0,Nat.zero_le _,rfl,World.ownsRow_nil _ _ _ _,zR _ _⟩
 case round=>
  obtain⟨i,hi,rfl,ho,hb⟩:=hrel;obtain⟨A3,c3,rfl,-,-,-⟩:=SlV_of_any ho;by_cases hlt:i<n
  ·have hiL:i<l.length:=by have:=HL.out;omega
   obtain⟨b,off,rfl,hbb,hcs⟩:=(HS.out.below hb (zN _)) (by omega);obtain⟨c0,c1,c2⟩:=zs3 (hcs i hiL);have c3':=hcs i hiL 3 (by omega);have c4:=hcs i hiL 4 (by omega);simp only[eCSN,qB,qC,Nat.add_zero] at c0 c1 c2 c3' c4;clear hcs;(have hi1:(i:Int)<n:=by omega);have hIN:=zH (fun W=>in31_any W p l[i].1 (HZ.out _ (zP hiL)));have haw:awayT p l[i]= !(decide (p=l[i].1)||inS (upsS l[i].1) p):=awayT_eq p _;(have htk:(l.take (i+1)).filter (fun e=> !awayT p e)=(l.take i).filter (fun e=> !awayT p e)++[l[i]].filter (fun e=> !awayT p e):=by rw[zG hiL,List.filter_append]);have hll:((l.take i).filter fun e=> !awayT p e).length≤1000:=zT (List.length_filter_le _ _) (by rw[zL];omega);obtain⟨x,hx⟩:∃x,l[i]=x:=⟨_,rfl⟩;simp only[hx] at hIN haw;simp only[hx] at c0 c1 c2 c3' c4 htk;obtain⟨L,hLL⟩:∃L,(l.take i).filter (fun e=> !awayT p e)=L:=⟨_,rfl⟩;rw[hLL] at htk hll ho;rw[hLL];obtain⟨m,hm⟩:∃m,L.length=m:=⟨_,rfl⟩;(have hR1:wr.ownsRow w.heap.size 59 5 (.slice A3 m c3) m (L.flatMap eCSN):=by have:=ho;unfold OwnIt at this;rw[hm] at this;exact this);rw[hm] at hll;rw[hm];have HTK:=zH (zA htk (zA hLL (zA hx hm)));have HR:=zH (zA hR1 hb);clear htk hLL hx hm ho hR1;have hgW:w.heap.size≤wr.heap.size:=hb.size;clear hb;obtain⟨B,hBB⟩:∃B,(decide (p=x.1)||inS (upsS x.1) p)=B:=⟨_,rfl⟩;rw[hBB] at haw;simp only[hBB] at hIN;have hba:=(zR wr.heap.size wr).alloc (zN _) (.cells #[.string x.1,.int .i64 x.2.kind,.int .i64 x.2.mode,.int .u32 x.2.time,.string x.2.data] 59);obtain⟨V,hV⟩:∃V,wr.alloc (.cells #[.string x.1,.int .i64 x.2.kind,.int .i64 x.2.mode,.int .u32 x.2.time,.string x.2.data] 59)=V:=⟨_,rfl⟩;obtain⟨N,hN⟩:∃n,wr.heap.size=n:=⟨_,rfl⟩;(have hBN:Blk V N 59 #[.string x.1,.int .i64 x.2.kind,.int .i64 x.2.mode,.int .u32 x.2.time,.string x.2.data]:=by rw[←hV,←hN];exact Blk.new _ _ _);rw[hV] at hba;have n0:=hBN.cell 0;simp only[qA,qB,qC] at n0;have HN:=zH hBN;have HBA:=zH hba;clear hba hBN hBB;(go_wp2_with fail);refine(hIN.out V).mono ?_;rintro e V2 ⟨rfl,hbV⟩;have hb2:=HBA.out.trans (hbV.mono HBA.out.size);have hBN2:=HN.out.below hbV HN.out.lt;have HV2:=zH (zA hb2 (own_kept HR.out.1 hb2));(have hbW:w.heap.size≤V2.heap.size:=by have:=hb2.size;omega);obtain⟨n0,n1,n2,n3,n4⟩:=zc5 hBN2;simp only[qA,qB,qC] at n0 n1 n2 n3 n4;clear hbV hb2 hBN2 hIN;cases B with
   | false=>
    (have hf:[x].filter (fun e=> !awayT p e)=[]:=by simp [haw]);have HF:=zH (show OwnIt V2 w.heap.size (.slice A3 m c3) ((l.take (i+1)).filter fun e=> !awayT p e) from by
     rw[HTK.out.1,hf,List.append_nil];unfold OwnIt;rw[HTK.out.2.2.2];exact HV2.out.2)
    clear hf haw;(go_wp2_with fail);go_roundw
    case rel=>exact⟨i+1,by omega,by go_num,HF.out,HR.out.2.trans (HV2.out.1.mono HR.out.2.size)⟩
    case measure=>simp [intOf];omega
   | true=>
    (have hf:[x].filter (fun e=> !awayT p e)=[x]:=by simp [haw]);have HFX:=zH hf;clear hf haw;(go_wp2_with (at_builtin;go_loud (refine wpList_app rfl _ _ 25 rfl w.heap.size 59 _ _ _ Tryz.underlying25 infoIt rfl (by decide) (.slice A3 m c3) m _ rfl (HV2.out.2.alloc _) V2.heap.size 1 #[.string x.1,.int .i64 x.2.kind,.int .i64 x.2.mode,.int .u32 x.2.time,.string x.2.data] 59 rfl (Blk.new _ _ _) rfl (by simp [Value.oneCell']) (by omega) (by decide) (by simp;omega) _ rfl ?_;intro g cap w5 hown1 hgrow1 hat hlt1;have HA:=zH (zA hown1 hgrow1))));go_roundw
    case rel=>exact⟨i+1,by omega,by go_num,by rw[HTK.out.1,HFX.out];exact OwnIt.app HA.out.1 HTK.out.2.2.2,((HR.out.2.trans (HV2.out.1.mono HR.out.2.size)).trans (((zR _ _).alloc (zN _) _).mono hbW)).grown HA.out.2 (by simp;omega) (fun k hk=>(HV2.out.2.lt k hk).1)⟩
    case measure=>simp [intOf];omega
  ·obtain rfl:i=n:=by omega
   have htk:l.take i=l:=zO (by have:=HL.out;omega);rw[htk] at ho⊢;clear htk;have HF:=zH (zA ho hb);clear ho hb;(go_wp2_with fail);go_ret;exact⟨_,rfl,HF.out.1,HF.out.2⟩
def badF (m n:NP):Bool:= !decide (n.path=m.path)&&inQ m.path n.path&&(!decide (m.left.kind=2)&& !decide (n.left.kind=0)|| !decide (m.right.kind=2)&& !decide (n.right.kind=0))
theorem bad31_tt (w:World)(v:Value)(l:List NP)(p:ByteArray)(lb lc:Int)(ld:ByteArray)(rb rc:Int)(rd:ByteArray)(c:Int)(h:SlV w 10 eNP v l)(hz:∀n∈l,n.path.size≤90000):
  Calls Tryz.prog 35 #[v,.agg (eNP ⟨p,⟨2,lb,lc,ld⟩,⟨2,rb,rc,rd⟩,c⟩).toArray] w fun e w'=>e= .returned (.bool (badN l ⟨p,⟨2,lb,lc,ld⟩,⟨2,rb,rc,rd⟩,c⟩))∧Below w.heap.size w w':=by
 have hbn:badN l ⟨p,⟨2,lb,lc,ld⟩,⟨2,rb,rc,rd⟩,c⟩=l.any (badF ⟨p,⟨2,lb,lc,ld⟩,⟨2,rb,rc,rd⟩,c⟩):=rfl;rw[hbn];clear hbn;obtain⟨W,hW⟩:∃W,w.alloc (.cells #[.string p,.int .i64 2,.int .i64 lb,.int .u32 lc,.string ld,.int .i64 2,.int .i64 rb,.int .u32 rc,.string rd,.int .i64 c] 90)=W:=⟨_,rfl⟩;have hbW:Below w.heap.size w W:=by rw[←hW];exact(zR _ w).alloc (zN _) _
 have hB:Blk W w.heap.size 90 #[.string p,.int .i64 2,.int .i64 lb,.int .u32 lc,.string ld,.int .i64 2,.int .i64 rb,.int .u32 rc,.string rd,.int .i64 c]:=by rw[←hW];exact Blk.new _ _ _
 have hS:=h.below hbW (zN _);have H0:=zH (zA hbW (zA hB hS));have HW:=zH hW;have HZ:=zH hz;obtain⟨A,c1,rfl,-,hc2,-⟩:=h;obtain⟨n,hn⟩:∃n,l.length=n:=⟨_,rfl⟩;have HN:=zH hn;unfold maxLen at hc2;rw[hn] at H0⊢;unfold eNP;simp only;obtain⟨R,hR⟩:∃R,l.any (badF ⟨p,⟨2,lb,lc,ld⟩,⟨2,rb,rc,rd⟩,c⟩)=R:=⟨_,rfl⟩;rw[hR];have HR:=zH hR;clear hbW hB hS hW hz hn hR;go_enter Tryz.func35,Tryz.ntmps35
 go_upto_region 1 with fail
 rw[HW.out];go_wp2_with fail
 go_loopw [9] (fun iv wr=>∃i:Nat,i≤n∧iv= .int .i64 i∧(l.take i).any (badF ⟨p,⟨2,lb,lc,ld⟩,⟨2,rb,rc,rd⟩,c⟩)=false∧Below W.heap.size W wr) (fun iv _=>n-(intOf iv).toNat)
 case atStart=>exact⟨0,Nat.zero_le _,rfl,rfl,zR _ _⟩
 case round=>
  obtain⟨i,hi,rfl,hno,hb⟩:=hrel;by_cases hlt:i<n
  ·have hiL:i<l.length:=by have:=HN.out;omega
   obtain⟨A',c',hA',_,_,hso⟩:=H0.out.2.2.below hb (zN _);rw[HN.out] at hA';(obtain⟨rfl,rfl⟩:A=A'∧c1=c':=by injection hA' with e1 e2 e3;exact⟨e1,e3⟩);clear hA';obtain⟨b,off,rfl,hbb,hcs⟩:=hso (by omega);obtain⟨p0,p1,p2,p3,p4,p5,p6,p7,p8,p9⟩:=zs10 (hcs i hiL);simp only[eNP,qB,qC,Nat.add_zero] at p0 p1 p2 p3 p4 p5 p6 p7 p8 p9;clear hcs hso;(have hi1:(i:Int)<n:=by omega);(have htk:(l.take (i+1)).any (badF ⟨p,⟨2,lb,lc,ld⟩,⟨2,rb,rc,rd⟩,c⟩)=badF ⟨p,⟨2,lb,lc,ld⟩,⟨2,rb,rc,rd⟩,c⟩ l[i]:=by rw[zG hiL,List.any_append,hno];simp);have hqz:=HZ.out _ (zP hiL);(have hhit:badF ⟨p,⟨2,lb,lc,ld⟩,⟨2,rb,rc,rd⟩,c⟩ l[i]=true→R=true:=fun h=>by rw[←HR.out];exact List.any_eq_true.2 ⟨_,zP hiL,h⟩);obtain⟨x,hx⟩:∃x,l[i]=x:=⟨_,rfl⟩;simp only[hx] at p0 p1 p2 p3 p4 p5 p6 p7 p8 p9 htk hqz hhit;clear hx;obtain⟨q,⟨xa,xb,xc,xd⟩,⟨ya,yb,yc,yd⟩,xz⟩:=x;simp only at p0 p1 p2 p3 p4 p5 p6 p7 p8 p9 hqz;have hbf:badF ⟨p,⟨2,lb,lc,ld⟩,⟨2,rb,rc,rd⟩,c⟩ ⟨q,⟨xa,xb,xc,xd⟩,⟨ya,yb,yc,yd⟩,xz⟩=(!decide (q=p)&&inQ p q&&(!decide ((2:Int)=2)&& !decide (xa=0)|| !decide ((2:Int)=2)&& !decide (ya=0))):=rfl;rw[hbf] at htk hhit;(have hIN:=fun V=>in31_any V p q hqz);have hse:=str_eq q p;obtain⟨I,hI⟩:∃I,inQ p q=I:=⟨_,rfl⟩;have hI2:(decide (p=q)||inS (upsS q) p)=I:=hI;simp only[hI2] at hIN;rw[hI] at htk hhit;have HIN:=zH hIN;obtain⟨V,hV⟩:∃V,wr.alloc (.cells #[.string q,.int .i64 xa,.int .i64 xb,.int .u32 xc,.string xd,.int .i64 ya,.int .i64 yb,.int .u32 yc,.string yd,.int .i64 xz] 90)=V:=⟨_,rfl⟩;obtain⟨N,hN⟩:∃n,wr.heap.size=n:=⟨_,rfl⟩;(have hBN:Blk V N 90 #[.string q,.int .i64 xa,.int .i64 xb,.int .u32 xc,.string xd,.int .i64 ya,.int .i64 yb,.int .u32 yc,.string yd,.int .i64 xz]:=by rw[←hV,←hN];exact Blk.new _ _ _);(have hbV:Below wr.heap.size wr V:=by rw[←hV];exact(zR _ wr).alloc (zN _) _);have hWV:Below W.heap.size W V:=hb.trans (hbV.mono hb.size);have hMV:=H0.out.2.1.below hWV H0.out.2.1.lt;have n0:=hBN.cell 0;have m0:=hMV.cell 0;simp only[qA,qB,qC] at n0 m0;have HV:=zH (zA hWV (zA hBN hMV));have HTK:=zH (zA htk hhit);clear hIN hBN hbV hWV hMV htk hhit hbf hI hI2 hb hno hqz;by_cases hq:q=p
   ·rw[zE hq] at hse;have HQ:=zH hq;clear hq;(go_wp2_with fail);clear hV;go_roundw
    case rel=>exact⟨i+1,by omega,by go_num,by rw[HTK.out.1,zE HQ.out];rfl,HV.out.1⟩
    case measure=>simp [intOf];omega
   ·rw[zD hq] at hse;have HQ:=zH hq;clear hq;(go_wp2_with fail);refine(HIN.out V).mono ?_;rintro e V2 ⟨rfl,hb2⟩;have H2:=zH (HV.out.1.trans (hb2.mono HV.out.1.size));have hBN2:=HV.out.2.1.below hb2 HV.out.2.1.lt;have hM2:=HV.out.2.2.below hb2 HV.out.2.2.lt;have n1:=hBN2.cell 1;have n5:=hBN2.cell 5;have m1:=hM2.cell 1;have m5:=hM2.cell 5;simp only[qA,qB,qC] at n1 n5 m1 m5;clear hb2 hBN2 hM2 n0 m0 hV HIN p0 p1 p2 p3 p4 p5 p6 p7 p8 p9;cases I with
    | false=>
     (go_wp2_with fail);go_roundw
     case rel=>exact⟨i+1,by omega,by go_num,by rw[HTK.out.1,Bool.and_false,Bool.false_and],H2.out⟩
     case measure=>simp [intOf];omega
    | true=>
     have HF:=zH (show(!decide (q=p)&&true&&(!decide ((2:Int)=2)&& !decide (xa=0)|| !decide ((2:Int)=2)&& !decide (ya=0)))=false by simp []);(go_wp2_with fail);go_roundw
     case rel=>exact⟨i+1,by omega,by go_num,by rw[HTK.out.1];exact HF.out,H2.out⟩
     case measure=>simp [intOf];omega
  ·obtain rfl:i=n:=by omega
   rw[zO (by have:=HN.out;omega)] at hno;have HE:=zH (zA (show R=false by rw[←HR.out];exact hno) hb);clear hno hb;(go_wp2_with fail);go_ret;exact⟨by rw[HE.out.1];rfl,H0.out.1.trans (HE.out.2.mono H0.out.1.size)⟩
theorem bad31_tf (w:World)(v:Value)(l:List NP)(p:ByteArray)(lb lc:Int)(ld:ByteArray)(ra:Int)(rb rc:Int)(rd:ByteArray)(c:Int)(h3:¬ra=2)(h:SlV w 10 eNP v l)(hz:∀n∈l,n.path.size≤90000):
  Calls Tryz.prog 35 #[v,.agg (eNP ⟨p,⟨2,lb,lc,ld⟩,⟨ra,rb,rc,rd⟩,c⟩).toArray] w fun e w'=>e= .returned (.bool (badN l ⟨p,⟨2,lb,lc,ld⟩,⟨ra,rb,rc,rd⟩,c⟩))∧Below w.heap.size w w':=by
 have hbn:badN l ⟨p,⟨2,lb,lc,ld⟩,⟨ra,rb,rc,rd⟩,c⟩=l.any (badF ⟨p,⟨2,lb,lc,ld⟩,⟨ra,rb,rc,rd⟩,c⟩):=rfl;rw[hbn];clear hbn;obtain⟨W,hW⟩:∃W,w.alloc (.cells #[.string p,.int .i64 2,.int .i64 lb,.int .u32 lc,.string ld,.int .i64 ra,.int .i64 rb,.int .u32 rc,.string rd,.int .i64 c] 90)=W:=⟨_,rfl⟩;have hbW:Below w.heap.size w W:=by rw[←hW];exact(zR _ w).alloc (zN _) _
 have hB:Blk W w.heap.size 90 #[.string p,.int .i64 2,.int .i64 lb,.int .u32 lc,.string ld,.int .i64 ra,.int .i64 rb,.int .u32 rc,.string rd,.int .i64 c]:=by rw[←hW];exact Blk.new _ _ _
 have hS:=h.below hbW (zN _);have H0:=zH (zA hbW (zA hB hS));have HW:=zH hW;have HZ:=zH hz;obtain⟨A,c1,rfl,-,hc2,-⟩:=h;obtain⟨n,hn⟩:∃n,l.length=n:=⟨_,rfl⟩;have HN:=zH hn;unfold maxLen at hc2;rw[hn] at H0⊢;unfold eNP;simp only;obtain⟨R,hR⟩:∃R,l.any (badF ⟨p,⟨2,lb,lc,ld⟩,⟨ra,rb,rc,rd⟩,c⟩)=R:=⟨_,rfl⟩;rw[hR];have HR:=zH hR;clear hbW hB hS hW hz hn hR;go_enter Tryz.func35,Tryz.ntmps35
 go_upto_region 1 with fail
 rw[HW.out];go_wp2_with fail
 go_loopw [9] (fun iv wr=>∃i:Nat,i≤n∧iv= .int .i64 i∧(l.take i).any (badF ⟨p,⟨2,lb,lc,ld⟩,⟨ra,rb,rc,rd⟩,c⟩)=false∧Below W.heap.size W wr) (fun iv _=>n-(intOf iv).toNat)
 case atStart=>exact⟨0,Nat.zero_le _,rfl,rfl,zR _ _⟩
 case round=>
  obtain⟨i,hi,rfl,hno,hb⟩:=hrel;by_cases hlt:i<n
  ·have hiL:i<l.length:=by have:=HN.out;omega
   obtain⟨A',c',hA',_,_,hso⟩:=H0.out.2.2.below hb (zN _);rw[HN.out] at hA';(obtain⟨rfl,rfl⟩:A=A'∧c1=c':=by injection hA' with e1 e2 e3;exact⟨e1,e3⟩);clear hA';obtain⟨b,off,rfl,hbb,hcs⟩:=hso (by omega);obtain⟨p0,p1,p2,p3,p4,p5,p6,p7,p8,p9⟩:=zs10 (hcs i hiL);simp only[eNP,qB,qC,Nat.add_zero] at p0 p1 p2 p3 p4 p5 p6 p7 p8 p9;clear hcs hso;(have hi1:(i:Int)<n:=by omega);(have htk:(l.take (i+1)).any (badF ⟨p,⟨2,lb,lc,ld⟩,⟨ra,rb,rc,rd⟩,c⟩)=badF ⟨p,⟨2,lb,lc,ld⟩,⟨ra,rb,rc,rd⟩,c⟩ l[i]:=by rw[zG hiL,List.any_append,hno];simp);have hqz:=HZ.out _ (zP hiL);(have hhit:badF ⟨p,⟨2,lb,lc,ld⟩,⟨ra,rb,rc,rd⟩,c⟩ l[i]=true→R=true:=fun h=>by rw[←HR.out];exact List.any_eq_true.2 ⟨_,zP hiL,h⟩);obtain⟨x,hx⟩:∃x,l[i]=x:=⟨_,rfl⟩;simp only[hx] at p0 p1 p2 p3 p4 p5 p6 p7 p8 p9 htk hqz hhit;clear hx;obtain⟨q,⟨xa,xb,xc,xd⟩,⟨ya,yb,yc,yd⟩,xz⟩:=x;simp only at p0 p1 p2 p3 p4 p5 p6 p7 p8 p9 hqz;have hbf:badF ⟨p,⟨2,lb,lc,ld⟩,⟨ra,rb,rc,rd⟩,c⟩ ⟨q,⟨xa,xb,xc,xd⟩,⟨ya,yb,yc,yd⟩,xz⟩=(!decide (q=p)&&inQ p q&&(!decide ((2:Int)=2)&& !decide (xa=0)|| !decide (ra=2)&& !decide (ya=0))):=rfl;rw[hbf] at htk hhit;(have hIN:=fun V=>in31_any V p q hqz);have hse:=str_eq q p;obtain⟨I,hI⟩:∃I,inQ p q=I:=⟨_,rfl⟩;have hI2:(decide (p=q)||inS (upsS q) p)=I:=hI;simp only[hI2] at hIN;rw[hI] at htk hhit;have HIN:=zH hIN;obtain⟨V,hV⟩:∃V,wr.alloc (.cells #[.string q,.int .i64 xa,.int .i64 xb,.int .u32 xc,.string xd,.int .i64 ya,.int .i64 yb,.int .u32 yc,.string yd,.int .i64 xz] 90)=V:=⟨_,rfl⟩;obtain⟨N,hN⟩:∃n,wr.heap.size=n:=⟨_,rfl⟩;(have hBN:Blk V N 90 #[.string q,.int .i64 xa,.int .i64 xb,.int .u32 xc,.string xd,.int .i64 ya,.int .i64 yb,.int .u32 yc,.string yd,.int .i64 xz]:=by rw[←hV,←hN];exact Blk.new _ _ _);(have hbV:Below wr.heap.size wr V:=by rw[←hV];exact(zR _ wr).alloc (zN _) _);have hWV:Below W.heap.size W V:=hb.trans (hbV.mono hb.size);have hMV:=H0.out.2.1.below hWV H0.out.2.1.lt;have n0:=hBN.cell 0;have m0:=hMV.cell 0;simp only[qA,qB,qC] at n0 m0;have HV:=zH (zA hWV (zA hBN hMV));have HTK:=zH (zA htk hhit);clear hIN hBN hbV hWV hMV htk hhit hbf hI hI2 hb hno hqz;by_cases hq:q=p
   ·rw[zE hq] at hse;have HQ:=zH hq;clear hq;(go_wp2_with fail);clear hV;go_roundw
    case rel=>exact⟨i+1,by omega,by go_num,by rw[HTK.out.1,zE HQ.out];rfl,HV.out.1⟩
    case measure=>simp [intOf];omega
   ·rw[zD hq] at hse;have HQ:=zH hq;clear hq;(go_wp2_with fail);refine(HIN.out V).mono ?_;rintro e V2 ⟨rfl,hb2⟩;have H2:=zH (HV.out.1.trans (hb2.mono HV.out.1.size));have hBN2:=HV.out.2.1.below hb2 HV.out.2.1.lt;have hM2:=HV.out.2.2.below hb2 HV.out.2.2.lt;have n1:=hBN2.cell 1;have n5:=hBN2.cell 5;have m1:=hM2.cell 1;have m5:=hM2.cell 5;simp only[qA,qB,qC] at n1 n5 m1 m5;clear hb2 hBN2 hM2 n0 m0 hV HIN p0 p1 p2 p3 p4 p5 p6 p7 p8 p9;cases I with
    | false=>
     (go_wp2_with fail);go_roundw
     case rel=>exact⟨i+1,by omega,by go_num,by rw[HTK.out.1,Bool.and_false,Bool.false_and],H2.out⟩
     case measure=>simp [intOf];omega
    | true=>
     by_cases h4:ya=0
     ·have HF:=zH (show(!decide (q=p)&&true&&(!decide ((2:Int)=2)&& !decide (xa=0)|| !decide (ra=2)&& !decide (ya=0)))=false by simp [h3,h4]);(go_wp2_with fail);go_roundw
      case rel=>exact⟨i+1,by omega,by go_num,by rw[HTK.out.1];exact HF.out,H2.out⟩
      case measure=>simp [intOf];omega
     ·(have h4b:(ya !=0)=true:=by simp [h4]);(have h4c:(ya==0)=false:=by simp [h4]);have HF:=zH (HTK.out.2 (show(!decide (q=p)&&true&&(!decide ((2:Int)=2)&& !decide (xa=0)|| !decide (ra=2)&& !decide (ya=0)))=true by simp [h3,h4,HQ.out]));(go_wp2_with fail);go_ret;exact⟨by rw[HF.out];rfl,H0.out.1.trans (H2.out.mono H0.out.1.size)⟩
  ·obtain rfl:i=n:=by omega
   rw[zO (by have:=HN.out;omega)] at hno;have HE:=zH (zA (show R=false by rw[←HR.out];exact hno) hb);clear hno hb;(go_wp2_with fail);go_ret;exact⟨by rw[HE.out.1];rfl,H0.out.1.trans (HE.out.2.mono H0.out.1.size)⟩
theorem bad31_ft (w:World)(v:Value)(l:List NP)(p:ByteArray)(la:Int)(lb lc:Int)(ld:ByteArray)(rb rc:Int)(rd:ByteArray)(c:Int)(h1:¬la=2)(h:SlV w 10 eNP v l)(hz:∀n∈l,n.path.size≤90000):
  Calls Tryz.prog 35 #[v,.agg (eNP ⟨p,⟨la,lb,lc,ld⟩,⟨2,rb,rc,rd⟩,c⟩).toArray] w fun e w'=>e= .returned (.bool (badN l ⟨p,⟨la,lb,lc,ld⟩,⟨2,rb,rc,rd⟩,c⟩))∧Below w.heap.size w w':=by
 have hbn:badN l ⟨p,⟨la,lb,lc,ld⟩,⟨2,rb,rc,rd⟩,c⟩=l.any (badF ⟨p,⟨la,lb,lc,ld⟩,⟨2,rb,rc,rd⟩,c⟩):=rfl;rw[hbn];clear hbn;obtain⟨W,hW⟩:∃W,w.alloc (.cells #[.string p,.int .i64 la,.int .i64 lb,.int .u32 lc,.string ld,.int .i64 2,.int .i64 rb,.int .u32 rc,.string rd,.int .i64 c] 90)=W:=⟨_,rfl⟩;have hbW:Below w.heap.size w W:=by rw[←hW];exact(zR _ w).alloc (zN _) _
 have hB:Blk W w.heap.size 90 #[.string p,.int .i64 la,.int .i64 lb,.int .u32 lc,.string ld,.int .i64 2,.int .i64 rb,.int .u32 rc,.string rd,.int .i64 c]:=by rw[←hW];exact Blk.new _ _ _
 have hS:=h.below hbW (zN _);have H0:=zH (zA hbW (zA hB hS));have HW:=zH hW;have HZ:=zH hz;obtain⟨A,c1,rfl,-,hc2,-⟩:=h;obtain⟨n,hn⟩:∃n,l.length=n:=⟨_,rfl⟩;have HN:=zH hn;unfold maxLen at hc2;rw[hn] at H0⊢;unfold eNP;simp only;obtain⟨R,hR⟩:∃R,l.any (badF ⟨p,⟨la,lb,lc,ld⟩,⟨2,rb,rc,rd⟩,c⟩)=R:=⟨_,rfl⟩;rw[hR];have HR:=zH hR;clear hbW hB hS hW hz hn hR;go_enter Tryz.func35,Tryz.ntmps35
 go_upto_region 1 with fail
 rw[HW.out];go_wp2_with fail
 go_loopw [9] (fun iv wr=>∃i:Nat,i≤n∧iv= .int .i64 i∧(l.take i).any (badF ⟨p,⟨la,lb,lc,ld⟩,⟨2,rb,rc,rd⟩,c⟩)=false∧Below W.heap.size W wr) (fun iv _=>n-(intOf iv).toNat)
 case atStart=>exact⟨0,Nat.zero_le _,rfl,rfl,zR _ _⟩
 case round=>
  obtain⟨i,hi,rfl,hno,hb⟩:=hrel;by_cases hlt:i<n
  ·have hiL:i<l.length:=by have:=HN.out;omega
   obtain⟨A',c',hA',_,_,hso⟩:=H0.out.2.2.below hb (zN _);rw[HN.out] at hA';(obtain⟨rfl,rfl⟩:A=A'∧c1=c':=by injection hA' with e1 e2 e3;exact⟨e1,e3⟩);clear hA';obtain⟨b,off,rfl,hbb,hcs⟩:=hso (by omega);obtain⟨p0,p1,p2,p3,p4,p5,p6,p7,p8,p9⟩:=zs10 (hcs i hiL);simp only[eNP,qB,qC,Nat.add_zero] at p0 p1 p2 p3 p4 p5 p6 p7 p8 p9;clear hcs hso;(have hi1:(i:Int)<n:=by omega);(have htk:(l.take (i+1)).any (badF ⟨p,⟨la,lb,lc,ld⟩,⟨2,rb,rc,rd⟩,c⟩)=badF ⟨p,⟨la,lb,lc,ld⟩,⟨2,rb,rc,rd⟩,c⟩ l[i]:=by rw[zG hiL,List.any_append,hno];simp);have hqz:=HZ.out _ (zP hiL);(have hhit:badF ⟨p,⟨la,lb,lc,ld⟩,⟨2,rb,rc,rd⟩,c⟩ l[i]=true→R=true:=fun h=>by rw[←HR.out];exact List.any_eq_true.2 ⟨_,zP hiL,h⟩);obtain⟨x,hx⟩:∃x,l[i]=x:=⟨_,rfl⟩;simp only[hx] at p0 p1 p2 p3 p4 p5 p6 p7 p8 p9 htk hqz hhit;clear hx;obtain⟨q,⟨xa,xb,xc,xd⟩,⟨ya,yb,yc,yd⟩,xz⟩:=x;simp only at p0 p1 p2 p3 p4 p5 p6 p7 p8 p9 hqz;have hbf:badF ⟨p,⟨la,lb,lc,ld⟩,⟨2,rb,rc,rd⟩,c⟩ ⟨q,⟨xa,xb,xc,xd⟩,⟨ya,yb,yc,yd⟩,xz⟩=(!decide (q=p)&&inQ p q&&(!decide (la=2)&& !decide (xa=0)|| !decide ((2:Int)=2)&& !decide (ya=0))):=rfl;rw[hbf] at htk hhit;(have hIN:=fun V=>in31_any V p q hqz);have hse:=str_eq q p;obtain⟨I,hI⟩:∃I,inQ p q=I:=⟨_,rfl⟩;have hI2:(decide (p=q)||inS (upsS q) p)=I:=hI;simp only[hI2] at hIN;rw[hI] at htk hhit;have HIN:=zH hIN;obtain⟨V,hV⟩:∃V,wr.alloc (.cells #[.string q,.int .i64 xa,.int .i64 xb,.int .u32 xc,.string xd,.int .i64 ya,.int .i64 yb,.int .u32 yc,.string yd,.int .i64 xz] 90)=V:=⟨_,rfl⟩;obtain⟨N,hN⟩:∃n,wr.heap.size=n:=⟨_,rfl⟩;(have hBN:Blk V N 90 #[.string q,.int .i64 xa,.int .i64 xb,.int .u32 xc,.string xd,.int .i64 ya,.int .i64 yb,.int .u32 yc,.string yd,.int .i64 xz]:=by rw[←hV,←hN];exact Blk.new _ _ _);(have hbV:Below wr.heap.size wr V:=by rw[←hV];exact(zR _ wr).alloc (zN _) _);have hWV:Below W.heap.size W V:=hb.trans (hbV.mono hb.size);have hMV:=H0.out.2.1.below hWV H0.out.2.1.lt;have n0:=hBN.cell 0;have m0:=hMV.cell 0;simp only[qA,qB,qC] at n0 m0;have HV:=zH (zA hWV (zA hBN hMV));have HTK:=zH (zA htk hhit);clear hIN hBN hbV hWV hMV htk hhit hbf hI hI2 hb hno hqz;by_cases hq:q=p
   ·rw[zE hq] at hse;have HQ:=zH hq;clear hq;(go_wp2_with fail);clear hV;go_roundw
    case rel=>exact⟨i+1,by omega,by go_num,by rw[HTK.out.1,zE HQ.out];rfl,HV.out.1⟩
    case measure=>simp [intOf];omega
   ·rw[zD hq] at hse;have HQ:=zH hq;clear hq;(go_wp2_with fail);refine(HIN.out V).mono ?_;rintro e V2 ⟨rfl,hb2⟩;have H2:=zH (HV.out.1.trans (hb2.mono HV.out.1.size));have hBN2:=HV.out.2.1.below hb2 HV.out.2.1.lt;have hM2:=HV.out.2.2.below hb2 HV.out.2.2.lt;have n1:=hBN2.cell 1;have n5:=hBN2.cell 5;have m1:=hM2.cell 1;have m5:=hM2.cell 5;simp only[qA,qB,qC] at n1 n5 m1 m5;clear hb2 hBN2 hM2 n0 m0 hV HIN p0 p1 p2 p3 p4 p5 p6 p7 p8 p9;cases I with
    | false=>
     (go_wp2_with fail);go_roundw
     case rel=>exact⟨i+1,by omega,by go_num,by rw[HTK.out.1,Bool.and_false,Bool.false_and],H2.out⟩
     case measure=>simp [intOf];omega
    | true=>
     by_cases h2:xa=0
     ·have HF:=zH (show(!decide (q=p)&&true&&(!decide (la=2)&& !decide (xa=0)|| !decide ((2:Int)=2)&& !decide (ya=0)))=false by simp [h1,h2]);(go_wp2_with fail);go_roundw
      case rel=>exact⟨i+1,by omega,by go_num,by rw[HTK.out.1];exact HF.out,H2.out⟩
      case measure=>simp [intOf];omega
     ·have HF:=zH (HTK.out.2 (show(!decide (q=p)&&true&&(!decide (la=2)&& !decide (xa=0)|| !decide ((2:Int)=2)&& !decide (ya=0)))=true by simp [h1,h2,HQ.out]));(go_wp2_with fail);go_ret;exact⟨by rw[HF.out];rfl,H0.out.1.trans (H2.out.mono H0.out.1.size)⟩
  ·obtain rfl:i=n:=by omega
   rw[zO (by have:=HN.out;omega)] at hno;have HE:=zH (zA (show R=false by rw[←HR.out];exact hno) hb);clear hno hb;(go_wp2_with fail);go_ret;exact⟨by rw[HE.out.1];rfl,H0.out.1.trans (HE.out.2.mono H0.out.1.size)⟩
theorem bad31_ff (w:World)(v:Value)(l:List NP)(p:ByteArray)(la:Int)(lb lc:Int)(ld:ByteArray)(ra:Int)(rb rc:Int)(rd:ByteArray)(c:Int)(h1:¬la=2)(h3:¬ra=2)(h:SlV w 10 eNP v l)(hz:∀n∈l,n.path.size≤90000):
  Calls Tryz.prog 35 #[v,.agg (eNP ⟨p,⟨la,lb,lc,ld⟩,⟨ra,rb,rc,rd⟩,c⟩).toArray] w fun e w'=>e= .returned (.bool (badN l ⟨p,⟨la,lb,lc,ld⟩,⟨ra,rb,rc,rd⟩,c⟩))∧Below w.heap.size w w':=by
 have hbn:badN l ⟨p,⟨la,lb,lc,ld⟩,⟨ra,rb,rc,rd⟩,c⟩=l.any (badF ⟨p,⟨la,lb,lc,ld⟩,⟨ra,rb,rc,rd⟩,c⟩):=rfl;rw[hbn];clear hbn;obtain⟨W,hW⟩:∃W,w.alloc (.cells #[.string p,.int .i64 la,.int .i64 lb,.int .u32 lc,.string ld,.int .i64 ra,.int .i64 rb,.int .u32 rc,.string rd,.int .i64 c] 90)=W:=⟨_,rfl⟩;have hbW:Below w.heap.size w W:=by rw[←hW];exact(zR _ w).alloc (zN _) _
 have hB:Blk W w.heap.size 90 #[.string p,.int .i64 la,.int .i64 lb,.int .u32 lc,.string ld,.int .i64 ra,.int .i64 rb,.int .u32 rc,.string rd,.int .i64 c]:=by rw[←hW];exact Blk.new _ _ _
 have hS:=h.below hbW (zN _);have H0:=zH (zA hbW (zA hB hS));have HW:=zH hW;have HZ:=zH hz;obtain⟨A,c1,rfl,-,hc2,-⟩:=h;obtain⟨n,hn⟩:∃n,l.length=n:=⟨_,rfl⟩;have HN:=zH hn;unfold maxLen at hc2;rw[hn] at H0⊢;unfold eNP;simp only;obtain⟨R,hR⟩:∃R,l.any (badF ⟨p,⟨la,lb,lc,ld⟩,⟨ra,rb,rc,rd⟩,c⟩)=R:=⟨_,rfl⟩;rw[hR];have HR:=zH hR;clear hbW hB hS hW hz hn hR;go_enter Tryz.func35,Tryz.ntmps35
 go_upto_region 1 with fail
 rw[HW.out];go_wp2_with fail
 go_loopw [9] (fun iv wr=>∃i:Nat,i≤n∧iv= .int .i64 i∧(l.take i).any (badF ⟨p,⟨la,lb,lc,ld⟩,⟨ra,rb,rc,rd⟩,c⟩)=false∧Below W.heap.size W wr) (fun iv _=>n-(intOf iv).toNat)
 case atStart=>exact⟨0,Nat.zero_le _,rfl,rfl,zR _ _⟩
 case round=>
  obtain⟨i,hi,rfl,hno,hb⟩:=hrel;by_cases hlt:i<n
  ·have hiL:i<l.length:=by have:=HN.out;omega
   obtain⟨A',c',hA',_,_,hso⟩:=H0.out.2.2.below hb (zN _);rw[HN.out] at hA';(obtain⟨rfl,rfl⟩:A=A'∧c1=c':=by injection hA' with e1 e2 e3;exact⟨e1,e3⟩);clear hA';obtain⟨b,off,rfl,hbb,hcs⟩:=hso (by omega);obtain⟨p0,p1,p2,p3,p4,p5,p6,p7,p8,p9⟩:=zs10 (hcs i hiL);simp only[eNP,qB,qC,Nat.add_zero] at p0 p1 p2 p3 p4 p5 p6 p7 p8 p9;clear hcs hso;(have hi1:(i:Int)<n:=by omega);(have htk:(l.take (i+1)).any (badF ⟨p,⟨la,lb,lc,ld⟩,⟨ra,rb,rc,rd⟩,c⟩)=badF ⟨p,⟨la,lb,lc,ld⟩,⟨ra,rb,rc,rd⟩,c⟩ l[i]:=by rw[zG hiL,List.any_append,hno];simp);have hqz:=HZ.out _ (zP hiL);(have hhit:badF ⟨p,⟨la,lb,lc,ld⟩,⟨ra,rb,rc,rd⟩,c⟩ l[i]=true→R=true:=fun h=>by rw[←HR.out];exact List.any_eq_true.2 ⟨_,zP hiL,h⟩);obtain⟨x,hx⟩:∃x,l[i]=x:=⟨_,rfl⟩;simp only[hx] at p0 p1 p2 p3 p4 p5 p6 p7 p8 p9 htk hqz hhit;clear hx;obtain⟨q,⟨xa,xb,xc,xd⟩,⟨ya,yb,yc,yd⟩,xz⟩:=x;simp only at p0 p1 p2 p3 p4 p5 p6 p7 p8 p9 hqz;have hbf:badF ⟨p,⟨la,lb,lc,ld⟩,⟨ra,rb,rc,rd⟩,c⟩ ⟨q,⟨xa,xb,xc,xd⟩,⟨ya,yb,yc,yd⟩,xz⟩=(!decide (q=p)&&inQ p q&&(!decide (la=2)&& !decide (xa=0)|| !decide (ra=2)&& !decide (ya=0))):=rfl;rw[hbf] at htk hhit;(have hIN:=fun V=>in31_any V p q hqz);have hse:=str_eq q p;obtain⟨I,hI⟩:∃I,inQ p q=I:=⟨_,rfl⟩;have hI2:(decide (p=q)||inS (upsS q) p)=I:=hI;simp only[hI2] at hIN;rw[hI] at htk hhit;have HIN:=zH hIN;obtain⟨V,hV⟩:∃V,wr.alloc (.cells #[.string q,.int .i64 xa,.int .i64 xb,.int .u32 xc,.string xd,.int .i64 ya,.int .i64 yb,.int .u32 yc,.string yd,.int .i64 xz] 90)=V:=⟨_,rfl⟩;obtain⟨N,hN⟩:∃n,wr.heap.size=n:=⟨_,rfl⟩;(have hBN:Blk V N 90 #[.string q,.int .i64 xa,.int .i64 xb,.int .u32 xc,.string xd,.int .i64 ya,.int .i64 yb,.int .u32 yc,.string yd,.int .i64 xz]:=by rw[←hV,←hN];exact Blk.new _ _ _);(have hbV:Below wr.heap.size wr V:=by rw[←hV];exact(zR _ wr).alloc (zN _) _);have hWV:Below W.heap.size W V:=hb.trans (hbV.mono hb.size);have hMV:=H0.out.2.1.below hWV H0.out.2.1.lt;have n0:=hBN.cell 0;have m0:=hMV.cell 0;simp only[qA,qB,qC] at n0 m0;have HV:=zH (zA hWV (zA hBN hMV));have HTK:=zH (zA htk hhit);clear hIN hBN hbV hWV hMV htk hhit hbf hI hI2 hb hno hqz;by_cases hq:q=p
   ·rw[zE hq] at hse;have HQ:=zH hq;clear hq;(go_wp2_with fail);clear hV;go_roundw
    case rel=>exact⟨i+1,by omega,by go_num,by rw[HTK.out.1,zE HQ.out];rfl,HV.out.1⟩
    case measure=>simp [intOf];omega
   ·rw[zD hq] at hse;have HQ:=zH hq;clear hq;(go_wp2_with fail);refine(HIN.out V).mono ?_;rintro e V2 ⟨rfl,hb2⟩;have H2:=zH (HV.out.1.trans (hb2.mono HV.out.1.size));have hBN2:=HV.out.2.1.below hb2 HV.out.2.1.lt;have hM2:=HV.out.2.2.below hb2 HV.out.2.2.lt;have n1:=hBN2.cell 1;have n5:=hBN2.cell 5;have m1:=hM2.cell 1;have m5:=hM2.cell 5;simp only[qA,qB,qC] at n1 n5 m1 m5;clear hb2 hBN2 hM2 n0 m0 hV HIN p0 p1 p2 p3 p4 p5 p6 p7 p8 p9;cases I with
    | false=>
     (go_wp2_with fail);go_roundw
     case rel=>exact⟨i+1,by omega,by go_num,by rw[HTK.out.1,Bool.and_false,Bool.false_and],H2.out⟩
     case measure=>simp [intOf];omega
    | true=>
     by_cases h2:xa=0
     ·by_cases h4:ya=0
      ·have HF:=zH (show(!decide (q=p)&&true&&(!decide (la=2)&& !decide (xa=0)|| !decide (ra=2)&& !decide (ya=0)))=false by simp [h1,h2,h3,h4]);(go_wp2_with fail);go_roundw
       case rel=>exact⟨i+1,by omega,by go_num,by rw[HTK.out.1];exact HF.out,H2.out⟩
       case measure=>simp [intOf];omega
      ·(have h4b:(ya !=0)=true:=by simp [h4]);(have h4c:(ya==0)=false:=by simp [h4]);have HF:=zH (HTK.out.2 (show(!decide (q=p)&&true&&(!decide (la=2)&& !decide (xa=0)|| !decide (ra=2)&& !decide (ya=0)))=true by simp [h1,h2,h3,h4,HQ.out]));(go_wp2_with fail);go_ret;exact⟨by rw[HF.out];rfl,H0.out.1.trans (H2.out.mono H0.out.1.size)⟩
     ·have HF:=zH (HTK.out.2 (show(!decide (q=p)&&true&&(!decide (la=2)&& !decide (xa=0)|| !decide (ra=2)&& !decide (ya=0)))=true by simp [h1,h2,HQ.out]));(go_wp2_with fail);go_ret;exact⟨by rw[HF.out];rfl,H0.out.1.trans (H2.out.mono H0.out.1.size)⟩
  ·obtain rfl:i=n:=by omega
   rw[zO (by have:=HN.out;omega)] at hno;have HE:=zH (zA (show R=false by rw[←HR.out];exact hno) hb);clear hno hb;(go_wp2_with fail);go_ret;exact⟨by rw[HE.out.1];rfl,H0.out.1.trans (HE.out.2.mono H0.out.1.size)⟩
theorem bad31_any (w:World)(v:Value)(l:List NP)(m:NP)(h:SlV w 10 eNP v l)(hz:∀n∈l,n.path.size≤90000):
  Calls Tryz.prog 35 #[v,.agg (eNP m).toArray] w fun e w'=>e= .returned (.bool (badN l m))∧Below w.heap.size w w':=by
 obtain⟨p,⟨la,lb,lc,ld⟩,⟨ra,rb,rc,rd⟩,c⟩:=m;by_cases h1:la=2
 ·subst h1;by_cases h3:ra=2
  ·subst h3;exact bad31_tt w v l p lb lc ld rb rc rd c h hz
  ·exact bad31_tf w v l p lb lc ld ra rb rc rd c h3 h hz
 ·by_cases h3:ra=2
  ·subst h3;exact bad31_ft w v l p la lb lc ld rb rc rd c h1 h hz
  ·exact bad31_ff w v l p la lb lc ld ra rb rc rd c h1 h3 h hz
end Go.Proofs.YtnpehjgnplaabaaGreatDoor
namespace Sw
open Go
theorem toList_inj {x y:ByteArray}(h:x.toList=y.toList):x=y:=by
 rw[ByteArray.toList_eq,ByteArray.toList_eq] at h;apply ByteArray.ext;exact Array.ext' h
theorem str_beq (u v:ByteArray):(u.toList==v.toList)=decide (u=v):=by
 by_cases h:u=v
 ·subst h;simp
 ·have:¬u.toList=v.toList:=fun e=>h (toList_inj e)
  simp [h,this]
theorem findM_at:∀(L:List MkE) (p:ByteArray) (i:Nat) (h:i<L.length),(∀j (hj:j<L.length),j<i→¬L[j].1=p)→L[i].1=p→findM L p=some L[i].2
 | [],p,i,h,_,_=>absurd h (by simp)
 | m::L,p,0,h,_,he=>by rw[findM_cons,if_pos (by simpa using he)];rfl
 | m::L,p,i+1,h,hn,he=>by
  have h0:=hn 0 (by simp) (by omega);rw[findM_cons,if_neg (by simpa using h0)];have:=findM_at L p i (by simpa using h) (fun j hj hji=>by have:=hn (j+1) (by simpa using hj) (by omega);simpa using this) (by simpa using he);rw[this];simp
end Sw
namespace Go.Proofs.YtnpehjgnplaabaaGreatDoor
open Go Go.RowKit
open Sw
theorem findM_any (w:World)(u1 u2:Value)(l1 l2:List MkE)(p:ByteArray)(h1:SlV w 6 eCM u1 l1)(h2:SlV w 6 eCM u2 l2)(hl1:l1.length≤100000)(hl2:l2.length≤100000):
  Calls Tryz.prog 64 #[.agg #[u1,u2],.string p] w fun e w'=>e= .returned (.tuple #[.agg ((findM (l1++l2) p).getD ⟨0,0,0,0,0⟩).c,.bool (findM (l1++l2) p).isSome])∧Below w.heap.size w w':=by
 obtain⟨W0,hW0⟩:∃W0,((w.alloc (.cells #[u1,u2] 24)).alloc (.cells #[.int .i64 0,.int .i64 0,.int .u32 0,.int .i64 0,.int .u32 0] 61)).alloc (.cells #[u1,u2] 22)=W0:=⟨_,rfl⟩;have hb2:Below w.heap.size w W0:=by rw[←hW0];exact(((zR _ w).alloc (zN _) _).alloc (by simp) _).alloc (by simp;omega) _
 have hR0:Blk W0 (w.heap.size+1) 61 #[.int .i64 0,.int .i64 0,.int .u32 0,.int .i64 0,.int .u32 0]:=by rw[←hW0];exact(blk_snd _ _ _ _).alloc _
 have hC0:Blk W0 (w.heap.size+1+1) 22 #[u1,u2]:=by rw[←hW0];exact blk_trd _ _ _ _ _
 have HC:=zH (concatM_any W0 (w.heap.size+1+1) _ u1 u2 l1 l2 hC0 (h1.below hb2 (zN _)) (h2.below hb2 (zN _)) hl1 hl2);have HB:=zH (zA hb2 hR0);have HW0:=zH hW0;have hn:(l1++l2).length≤200000:=by rw[zF];omega
 obtain⟨A1,k1,rfl,_,_,_⟩:=h1;obtain⟨A2,k2,rfl,_,_,_⟩:=h2;clear hb2 hR0 hC0 hW0 hl1 hl2;generalize l1.length=n1 at*;generalize l2.length=n2 at*;generalize l1++l2=L at*;obtain⟨n,hn2⟩:∃n,L.length=n:=⟨_,rfl⟩;rw[hn2] at HC hn;have HL:=zH hn2;clear hn2;go_enter Tryz.func64,Tryz.ntmps64
 go_wp2_with fail
 rw[HW0.out];refine HC.out.mono ?_;rintro e w3 ⟨u,rfl,ho3,hb3⟩;obtain⟨A3,k3,rfl,_,_,_⟩:=SlV_of_any ho3;have hsl3:=SlV.of_own ho3 eCM_len (by decide);have H3:=zH (zA hsl3 (zA (HB.out.1.trans (hb3.mono HB.out.1.size)) (HB.out.2.below hb3 HB.out.2.lt)));clear hb3 ho3 hsl3 HC HB;go_wp2_with fail
 go_loopw [15] (fun iv wr=>∃i:Nat,i≤n∧iv= .int .i64 i∧(∀j (hj:j<L.length),j<i→¬L[j].1=p)∧Below w.heap.size w wr∧Below w3.heap.size w3 wr) (fun iv _=>n-(intOf iv).toNat)
 case atStart=>exact⟨0,Nat.zero_le _,rfl,fun j _ h=>absurd h (Nat.not_lt_zero _),H3.out.2.1,zR _ _⟩
 case round=>
  obtain⟨i,hi,rfl,hall,hb,hb3⟩:=hrel;have HA:=zH hall;clear hall;have hR:=H3.out.2.2.below hb3 H3.out.2.2.lt;have hslr:=H3.out.1.below hb3 (zN _);by_cases hlt:i<n
  ·have hiL:i<L.length:=by have:=HL.out;omega
   obtain⟨A',c',hA,_,_,hso⟩:=hslr;(obtain⟨rfl,rfl⟩:A3=A'∧k3=c':=by injection hA with e1 e2 e3;exact⟨e1,e3⟩);clear hA;obtain⟨b,off,rfl,hbb,hcs⟩:=hso (by omega);obtain⟨c0,c1,c2⟩:=zs3 (hcs i hiL);have c3':=hcs i hiL 3 (by omega);have c4:=hcs i hiL 4 (by omega);have c5:=hcs i hiL 5 (by omega);simp only[eCM,qB,qC,Nat.add_zero] at c0 c1 c2 c3' c4 c5;clear hcs hso;(have hi1:(i:Int)<n:=by omega);have hF:=findM_at L p i hiL HA.out;have HN:=zH (fun(hne:¬L[i].1=p)=>(fun j (hj:j<L.length) (hji:j<i+1)=>(by
    by_cases h:j<i
    ·exact HA.out j hj h
    ·(obtain rfl:j=i:=by omega);exact hne:¬L[j].1=p)))
   obtain⟨⟨q,⟨kd,md,tm,sz,sm⟩⟩,hx⟩:∃x,L[i]=x:=⟨_,rfl⟩;simp only[hx] at c0 c1 c2 c3' c4 c5 hF HN;clear hx;have hba:=(zR wr.heap.size wr).alloc (zN _) (.cells #[.string q,.int .i64 kd,.int .i64 md,.int .u32 tm,.int .i64 sz,.int .u32 sm] 63);have HBW:=zH (zA (hb.trans (hba.mono hb.size)) (zA (hb3.trans (hba.mono hb3.size)) (hR.below hba hR.lt)));clear hba hb hb3 hR;obtain⟨x0,x1,x2,x3,x4⟩:=zc5 HBW.out.2.2;(simp at x0 x1 x2 x3 x4);obtain⟨f0,f1,f2,f3,f4⟩:=zf5 HBW.out.2.2;by_cases hk:q=p
   ·have hF2:=zH (hF hk);(have te:(q.toList==p.toList)=true:=by rw[str_beq];simpa using hk);clear hk hF HN;(go_wp2_with fail);refine bodyPost_ret (res_blk_tmp rfl _ _ (w.heap.size+1) 61 #[.int .i64 kd,.int .i64 md,.int .u32 tm,.int .i64 sz,.int .u32 sm] _ rfl (((((HBW.out.2.2.put 0 (.int .i64 kd)).put 1 (.int .i64 md)).put 2 (.int .u32 tm)).put 3 (.int .i64 sz)).put 4 (.int .u32 sm)) Tryz.underlying61 rfl (by kernel_rfl)) rfl ⟨by rw[hF2.out];rfl,?_⟩;exact((((HBW.out.1.setCell (p:=⟨w.heap.size+1,0,none⟩) (Nat.le_succ _) (.int .i64 kd)).setCell (p:=⟨w.heap.size+1,1,none⟩) (Nat.le_succ _) (.int .i64 md)).setCell (p:=⟨w.heap.size+1,2,none⟩) (Nat.le_succ _) (.int .u32 tm)).setCell (p:=⟨w.heap.size+1,3,none⟩) (Nat.le_succ _) (.int .i64 sz)).setCell (p:=⟨w.heap.size+1,4,none⟩) (Nat.le_succ _) (.int .u32 sm)
   ·have HN2:=zH (HN.out hk);(have te:(q.toList==p.toList)=false:=by rw[str_beq];simpa using hk);clear hk hF HN;(go_wp2_with fail);go_roundw
    case rel=>exact⟨i+1,by omega,by go_num,HN2.out,HBW.out.1,HBW.out.2.1⟩
    case measure=>simp [intOf];omega
  ·obtain rfl:i=n:=by omega
   have hF2:=zH (findM_none (L:=L) (p:=p) (fun m hm=>by
    obtain⟨j,hj,rfl⟩:=List.getElem_of_mem hm;exact HA.out j hj (by have:=HL.out;omega)))
   have HBW:=zH (zA hb hR);clear hb hb3 hR hslr;obtain⟨x0,x1,x2,x3,x4⟩:=zc5 HBW.out.2;(simp at x0 x1 x2 x3 x4);obtain⟨f0,f1,f2,f3,f4⟩:=zf5 HBW.out.2;(go_wp2_with fail);refine bodyPost_ret (res_blk_tmp rfl _ _ (w.heap.size+1) 61 #[.int .i64 0,.int .i64 0,.int .u32 0,.int .i64 0,.int .u32 0] _ rfl (((((HBW.out.2.put 0 (.int .i64 0)).put 1 (.int .i64 0)).put 2 (.int .u32 0)).put 3 (.int .i64 0)).put 4 (.int .u32 0)) Tryz.underlying61 rfl (by kernel_rfl)) rfl ⟨by rw[hF2.out];rfl,?_⟩;exact((((HBW.out.1.setCell (p:=⟨w.heap.size+1,0,none⟩) (Nat.le_succ _) (.int .i64 0)).setCell (p:=⟨w.heap.size+1,1,none⟩) (Nat.le_succ _) (.int .i64 0)).setCell (p:=⟨w.heap.size+1,2,none⟩) (Nat.le_succ _) (.int .u32 0)).setCell (p:=⟨w.heap.size+1,3,none⟩) (Nat.le_succ _) (.int .i64 0)).setCell (p:=⟨w.heap.size+1,4,none⟩) (Nat.le_succ _) (.int .u32 0)
theorem refGet26_any (w:World)(u:Value)(L:List MkE)(p:ByteArray)(h:SlV w 6 eCM u L)(hn:L.length≤200000):
  Calls Tryz.prog 67 #[u,.string p] w fun e w'=>e= .returned (.tuple #[.agg ((findM L p).getD ⟨0,0,0,0,0⟩).c,.bool (findM L p).isSome])∧Below w.heap.size w w':=by
 have HS:=zH h;obtain⟨A,c,rfl,_,_,_⟩:=h;obtain⟨n,hn2⟩:∃n,L.length=n:=⟨_,rfl⟩;rw[hn2] at HS hn⊢;have HL:=zH hn2;clear hn2;obtain⟨W0,hW0⟩:∃W0,w.alloc (.cells #[.int .i64 0,.int .i64 0,.int .u32 0,.int .i64 0,.int .u32 0] 61)=W0:=⟨_,rfl⟩;have hb0:Below w.heap.size w W0:=by rw[←hW0];exact(zR _ w).alloc (zN _) _
 have hR0:Blk W0 w.heap.size 61 #[.int .i64 0,.int .i64 0,.int .u32 0,.int .i64 0,.int .u32 0]:=by rw[←hW0];exact Blk.new _ _ _
 have HW0:=zH (zA hW0 (zA hb0 hR0));clear hW0 hb0 hR0;go_enter Tryz.func67,Tryz.ntmps67
 go_wp2_with fail
 rw[HW0.out.1];go_loopw [10] (fun iv wr=>∃i:Nat,i≤n∧iv= .int .i64 i∧(∀j (hj:j<L.length),j<i→¬L[j].1=p)∧Below w.heap.size w wr∧Blk wr w.heap.size 61 #[.int .i64 0,.int .i64 0,.int .u32 0,.int .i64 0,.int .u32 0]) (fun iv _=>n-(intOf iv).toNat)
 case atStart=>exact⟨0,Nat.zero_le _,rfl,fun j _ h=>absurd h (Nat.not_lt_zero _),HW0.out.2.1,HW0.out.2.2⟩
 case round=>
  obtain⟨i,hi,rfl,hall,hb,hR⟩:=hrel;have HA:=zH hall;clear hall;have hslr:=HS.out.below hb (zN _);by_cases hlt:i<n
  ·have hiL:i<L.length:=by have:=HL.out;omega
   obtain⟨A',c',hA,_,_,hso⟩:=hslr;(obtain⟨rfl,rfl⟩:A=A'∧c=c':=by injection hA with e1 e2 e3;exact⟨e1,e3⟩);clear hA;obtain⟨b,off,rfl,hbb,hcs⟩:=hso (by omega);obtain⟨c0,c1,c2⟩:=zs3 (hcs i hiL);have c3':=hcs i hiL 3 (by omega);have c4:=hcs i hiL 4 (by omega);have c5:=hcs i hiL 5 (by omega);simp only[eCM,qB,qC,Nat.add_zero] at c0 c1 c2 c3' c4 c5;clear hcs hso;(have hi1:(i:Int)<n:=by omega);have hF:=findM_at L p i hiL HA.out;have HN:=zH (fun(hne:¬L[i].1=p)=>(fun j (hj:j<L.length) (hji:j<i+1)=>(by
    by_cases h:j<i
    ·exact HA.out j hj h
    ·(obtain rfl:j=i:=by omega);exact hne:¬L[j].1=p)))
   obtain⟨⟨q,⟨kd,md,tm,sz,sm⟩⟩,hx⟩:∃x,L[i]=x:=⟨_,rfl⟩;simp only[hx] at c0 c1 c2 c3' c4 c5 hF HN;clear hx;have hba:=(zR wr.heap.size wr).alloc (zN _) (.cells #[.string q,.int .i64 kd,.int .i64 md,.int .u32 tm,.int .i64 sz,.int .u32 sm] 63);have HBW:=zH (zA (hb.trans (hba.mono hb.size)) (hR.below hba hR.lt));clear hba hb hR;obtain⟨x0,x1,x2,x3,x4⟩:=zc5 HBW.out.2;(simp at x0 x1 x2 x3 x4);obtain⟨f0,f1,f2,f3,f4⟩:=zf5 HBW.out.2;by_cases hk:q=p
   ·have hF2:=zH (hF hk);(have te:(q.toList==p.toList)=true:=by rw[str_beq];simpa using hk);clear hk hF HN;(go_wp2_with fail);refine bodyPost_ret (res_blk_tmp rfl _ _ (w.heap.size) 61 #[.int .i64 kd,.int .i64 md,.int .u32 tm,.int .i64 sz,.int .u32 sm] _ rfl (((((HBW.out.2.put 0 (.int .i64 kd)).put 1 (.int .i64 md)).put 2 (.int .u32 tm)).put 3 (.int .i64 sz)).put 4 (.int .u32 sm)) Tryz.underlying61 rfl (by kernel_rfl)) rfl ⟨by rw[hF2.out];rfl,?_⟩;exact((((HBW.out.1.setCell (p:=⟨w.heap.size,0,none⟩) (zN _) (.int .i64 kd)).setCell (p:=⟨w.heap.size,1,none⟩) (zN _) (.int .i64 md)).setCell (p:=⟨w.heap.size,2,none⟩) (zN _) (.int .u32 tm)).setCell (p:=⟨w.heap.size,3,none⟩) (zN _) (.int .i64 sz)).setCell (p:=⟨w.heap.size,4,none⟩) (zN _) (.int .u32 sm)
   ·have HN2:=zH (HN.out hk);(have te:(q.toList==p.toList)=false:=by rw[str_beq];simpa using hk);clear hk hF HN;(go_wp2_with fail);go_roundw
    case rel=>exact⟨i+1,by omega,by go_num,HN2.out,HBW.out.1,HBW.out.2⟩
    case measure=>simp [intOf];omega
  ·obtain rfl:i=n:=by omega
   have hF2:=zH (findM_none (L:=L) (p:=p) (fun m hm=>by
    obtain⟨j,hj,rfl⟩:=List.getElem_of_mem hm;exact HA.out j hj (by have:=HL.out;omega)))
   have HBW:=zH (zA hb hR);clear hb hR hslr;obtain⟨x0,x1,x2,x3,x4⟩:=zc5 HBW.out.2;(simp at x0 x1 x2 x3 x4);obtain⟨f0,f1,f2,f3,f4⟩:=zf5 HBW.out.2;(go_wp2_with fail);refine bodyPost_ret (res_blk_tmp rfl _ _ (w.heap.size) 61 #[.int .i64 0,.int .i64 0,.int .u32 0,.int .i64 0,.int .u32 0] _ rfl (((((HBW.out.2.put 0 (.int .i64 0)).put 1 (.int .i64 0)).put 2 (.int .u32 0)).put 3 (.int .i64 0)).put 4 (.int .u32 0)) Tryz.underlying61 rfl (by kernel_rfl)) rfl ⟨by rw[hF2.out];rfl,?_⟩;exact((((HBW.out.1.setCell (p:=⟨w.heap.size,0,none⟩) (zN _) (.int .i64 0)).setCell (p:=⟨w.heap.size,1,none⟩) (zN _) (.int .i64 0)).setCell (p:=⟨w.heap.size,2,none⟩) (zN _) (.int .u32 0)).setCell (p:=⟨w.heap.size,3,none⟩) (zN _) (.int .i64 0)).setCell (p:=⟨w.heap.size,4,none⟩) (zN _) (.int .u32 0)
theorem infoESP:(Tryz.prog.info? 204).map (fun i=>(i.zero,i.size,i.bytes))=some (some (.agg #[.string ⟨#[]⟩,.int .i64 0,.int .i64 0,.int .u32 0,.int .i64 0,.int .u32 0]),6,56):=by kernel_rfl
theorem slCloneSP_any {α:Type}(E:α→List Value)(hE:∀x,(E x).length=6)(hE1:∀x,∀u∈E x,u.oneCell'=true)(w:World)(v:Value)(l:List α)(h:SlV w 6 E v l)(hl:l.length≤1000000):
  Calls Tryz.prog 176 #[v] w fun e w'=>∃v',e= .returned v'∧w'.ownsRow w.heap.size 204 6 v' l.length (l.flatMap E)∧Below w.heap.size w w':=by
 obtain⟨A,c,rfl,hc1,hc2,hsl⟩:=h;cases A with
 | none=>
  have h0:l=[]:=by
   cases l with
   | nil=>rfl
   | cons a l=>obtain⟨b,off,h,_⟩:=hsl (by simp);cases h
  subst h0;have hno:=World.ownsRow_nil w w.heap.size 204 6;have HN:=zH hno;clear hno hsl;have hnl:∀W n c,(binOp .eql 198 (.slice none n c) (.slice none 0 0)).run Tryz.prog W= .ok (.bool true) W:=fun W n c=>Lib.run_eql_slice_nil W 198 204 none n c 0 0 Tryz.underlying198
  go_enter Tryz.func176,Tryz.ntmps176
  go_wp2_with fail
  go_ret;exact⟨_,rfl,HN.out,zR _ _⟩
 | some a=>
  obtain⟨i0,hi,hz0,hz1,hz2⟩:=info_parts infoESP;have hlen:(l.flatMap E).length=l.length*6:=flat_len hE l;have hone:∀u∈l.flatMap E,u.oneCell'=true:=fun u hu=>by
   rw[List.mem_flatMap] at hu;obtain⟨x,_,hx⟩:=hu;exact hE1 x u hx
  have hnews:∀j u,(l.flatMap E)[j]? =some u→w.cell? (a.add j)=some u:=fun j u hj=>by
   have hjl:=(List.getElem?_eq_some_iff.1 hj).1;rw[hlen] at hjl;obtain⟨b,off,hA,_,hcs⟩:=hsl (by omega);rw[Option.some.inj hA,add_mk];(have hq:j/6<l.length:=by omega);have hr:j % 6<6:=Nat.mod_lt _ (by omega);(have hd:j/6*6+j % 6=j:=by omega);have h1:=flat_get hE l (j/6) hq (j % 6) hr;rw[hd,hj] at h1;have h2:=hcs (j/6) hq (j % 6) hr;rw[Nat.add_assoc,hd] at h2;rw[h2,←h1]
  have hnews1:∀(o:Obj) j u,(l.flatMap E)[j]? =some u→(w.alloc o).cell? (a.add j)=some u:=fun o j u hj=>by
   have h1:=hnews j u hj;have hlt:=World.block_lt_of_cell? w _ h1;rw[←h1];exact((zR w.heap.size w).alloc (zN _) o).cell hlt
  have hown:=World.ownsRow_made (e:=204) (size:=6) (base:=w.heap.size) w #[] 0 (zN _) (by decide) (by simp);have hbe:Below w.heap.size w (w.alloc (.cells #[] 204)):=(zR _ _).alloc (zN _) _;have HH:=zH (zA hown hbe);clear hown hbe;have HL:=zH hlen;clear hlen;have HO:=zH hone;clear hone;have HW:=zH hnews1;clear hnews1 hnews;have HI:=zH (zA hi (zA hz0 (zA hz1 hz2)));clear hi hz0 hz1 hz2;generalize l.flatMap E=xs at*;generalize l.length=n at*;have hnl:∀W n c,(binOp .eql 198 (.slice (some a) n c) (.slice none 0 0)).run Tryz.prog W= .ok (.bool false) W:=fun W n c=>Lib.run_eql_slice_nil W 198 204 (some a) n c 0 0 Tryz.underlying198
  go_enter Tryz.func176,Tryz.ntmps176
  go_wp2_with (at_builtin;refine wpList_append_own _ rfl _ _ 198 rfl w.heap.size 204 i0 (.agg #[.string ⟨#[]⟩,.int .i64 0,.int .i64 0,.int .u32 0,.int .i64 0,.int .u32 0]) 6 56 Tryz.underlying198 HI.out.1 HI.out.2.1 HI.out.2.2.1 HI.out.2.2.2 rfl (by decide) _ _ _ rfl HH.out.1 a n c xs rfl HL.out (HW.out _) HO.out (by unfold maxLen;omega) (by omega) (by simp) ?_;intro v' w1 hown1 hgrow1 hnil1)
  have HP:=zH (zA hown1 hgrow1);clear hown1 hgrow1 hnil1;go_wp2_with fail
  go_ret;refine⟨_,rfl,?_,HH.out.2.grown HP.out.2 (by simp) (fun k hk=>?_)⟩
  ·have:=HP.out.1
   simpa using this
  ·have:w.heap.size=k:=Option.some.inj hk;omega
def SrchPostSP {α:Type} (f:α→Int) (l:List α) (w:World) (e:Ending) (w':World):Prop:=
 ∃i:Nat,i≤l.length∧(∀m (h:m<l.length),m<i→f l[m]<0)∧(∀m (h:m<l.length),i≤m→0≤f l[m])∧
  e= .returned (.tuple #[.int .i64 i,.bool (if h:i<l.length then decide (f l[i]=0) else false)])∧Below w.heap.size w w'
theorem slSearchSP_any {α:Type}(E:α→List Value)(hE:∀x,(E x).length=6)(f:α→Int)(w:World)(A:Option Addr)(n c g:Nat)(l:List α)(kv:Value)(hl:l.length=n)(hn:n≤1000000)(hsl:SlOf w 6 E A l)
  (hmono:∀a b (ha:a<l.length) (hb:b<l.length),a≤b→f l[b]<0→f l[a]<0)
  (hcall:∀W x,x∈l→Below w.heap.size w W→Calls Tryz.prog 206 #[.agg (E x).toArray,kv,.pointer (some ⟨g,0,none⟩)] W fun e w'=>e= .returned (.int .i64 (f x))∧Below W.heap.size W w'):
  Calls Tryz.prog 205 #[.slice A n c,kv,.func (.func 206) #[] #[.pointer (some ⟨g,0,none⟩)]] w (SrchPostSP f l w):=by
 have HS:=zH hsl;clear hsl;have HL:=zH hl;clear hl;have HM:=zH hmono;clear hmono;have HC:=zH hcall;clear hcall;have HE:=zH hE;clear hE;go_enter Tryz.func205,Tryz.ntmps205
 go_wp2_with fail
 go_loopw [9,10] (fun iv jv wr=>∃i j:Nat,i≤j∧j≤n∧iv= .int .i64 i∧jv= .int .i64 j∧(∀m (h:m<l.length),m<i→f l[m]<0)∧(∀m (h:m<l.length),j≤m→0≤f l[m])∧Below w.heap.size w wr) (fun iv jv _=>(intOf jv-intOf iv).toNat)
 case atStart=>exact⟨0,n,Nat.zero_le _,zN _,rfl,rfl,fun m h h'=>by omega,fun m h h'=>by have:=HL.out;omega,zR _ _⟩
 case round=>
  obtain⟨i,j,hij,hjn,rfl,rfl,hlo,hhi,hbr⟩:=hrel;have HLO:=zH hlo;clear hlo;have HHI:=zH hhi;clear hhi;by_cases hlt:i<j
  ·have hjL:j≤l.length:=by have:=HL.out;omega
   obtain⟨h,hh⟩:∃h:Nat,((i:Int)+j)/2=h:=⟨(i+j)/2,by omega⟩;(obtain⟨hih,hhj,hhL⟩:i≤h∧h<j∧h<l.length:=by omega);obtain⟨b,off,rfl,hbb,_⟩:=(HS.out.below hbr (zN _)) (by omega);have HR:=zH ((HS.out.below hbr (zN _)).range HE.out h hhL);have HF:=zH (HC.out wr l[h] (zP hhL) hbr);have HX:=zH (HE.out l[h]);have HLO2:=zH (fun(hf:f l[h]<0) m (hm:m<l.length) (hmh:m<h+1)=>(HM.out m h hm hhL (by omega) hf:f l[m]<0));have HHI2:=zH (fun(hf:¬f l[h]<0) m (hm:m<l.length) (hmh:h≤m)=>(by
    (refine Int.not_lt.1 fun hx=>hf ?_);exact HM.out h m hhL hm hmh hx:0≤f l[m]))
   generalize f l[h]=fv at*;generalize E l[h]=ev at*;(obtain⟨q1,q2⟩:(i:Int)+j≤2000000∧(h:Int)<n:=by omega);(go_wp2_with (refine wpList_load_mid rfl 204 (.tmp 27) rfl b (off+h*6) rfl ev _ HR.out Tryz.underlying204 rfl (by rw[HX.out];kernel_rfl) ?_));refine HF.out.mono ?_;rintro e w2 ⟨rfl,hb2⟩;have hb3:=hbr.trans (hb2.mono hbr.size);clear HR HF;by_cases hf:fv<0
   ·have H1:=zH (HLO2.out hf);(go_wp2_with fail);go_roundw
    case rel=>exact⟨h+1,j,by omega,hjn,by go_num,rfl,H1.out,HHI.out,hb3⟩
    case measure=>simp [intOf];omega
   ·have H1:=zH (HHI2.out (by omega));(go_wp2_with fail);go_roundw
    case rel=>exact⟨i,h,hih,by omega,rfl,by go_num,HLO.out,H1.out,hb3⟩
    case measure=>simp [intOf];omega
  ·obtain rfl:i=j:=by omega
   clear hij hlt;by_cases hin:i<n
   ·(have hiL:i<l.length:=by have:=HL.out;omega);obtain⟨b,off,rfl,hbb,_⟩:=(HS.out.below hbr (zN _)) (by omega);have HR:=zH ((HS.out.below hbr (zN _)).range HE.out i hiL);have HF:=zH (HC.out wr l[i] (zP hiL) hbr);have HX:=zH (HE.out l[i]);have HP:=zH (fun w' (hb:Below w.heap.size w w')=>(⟨i,by omega,HLO.out,HHI.out,by rw[dif_pos hiL],hb⟩:SrchPostSP f l w (.returned (.tuple #[.int .i64 i,.bool (decide (f l[i]=0))])) w'));generalize f l[i]=fv at*;generalize E l[i]=ev at*;(have q2:(i:Int)<n:=by omega);(go_wp2_with (refine wpList_load_row_g rfl 204 (.tmp 43) rfl b (off+i*6) rfl ev _ HR.out Tryz.underlying204 rfl (by rw[HX.out];kernel_rfl) ?_));refine HF.out.mono ?_;rintro e w2 ⟨rfl,hb2⟩;have hb3:=hbr.trans (hb2.mono hbr.size);have HQ:=zH (HP.out w2 hb3);have hbq:(fv==0)=decide (fv=0):=rfl;(go_wp2_with fail);(go_ret2);exact HQ.out
   ·(obtain rfl:i=n:=by omega);have HP:=zH (fun w' (hb:Below w.heap.size w w')=>(⟨i,by have:=HL.out;omega,HLO.out,HHI.out,by rw[dif_neg (by have:=HL.out;omega)],hb⟩:SrchPostSP f l w (.returned (.tuple #[.int .i64 i,.bool false])) w'));(go_wp2_with fail);(go_ret2);exact HP.out _ hbr
end Go.Proofs.YtnpehjgnplaabaaGreatDoor
