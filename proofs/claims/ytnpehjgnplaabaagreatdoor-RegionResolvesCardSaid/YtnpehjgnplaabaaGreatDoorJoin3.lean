/- Several texts of ours, joined. -/
import Derived.Test.YtnpehjgnplaabaaGreatDoorJoin1
import Derived.Test.YtnpehjgnplaabaaGreatDoorJoin2
set_option linter.unusedVariables false
set_option linter.unusedSimpArgs false
set_option maxRecDepth 100000
set_option maxHeartbeats 64000000
namespace Sw
open Go Go.RowKit
open Go.Lib (compareBytes)
theorem toList_data (x:ByteArray):x.toList=x.data.toList:=ByteArray.toList_eq x
theorem less_str (x y:ByteArray):Op.bytesLess x.toList y.toList=decide (compareBytes x.data.toList y.data.toList= -1):=by
 rw[toList_data,toList_data,less_cb]
theorem eq_str (x y:ByteArray):(x.toList==y.toList)=decide (compareBytes x.data.toList y.data.toList=0):=by
 rw[toList_data,toList_data];by_cases h:x.data.toList=y.data.toList
 ·rw[zE ((cb_zero_iff _ _).2 h),h,beq_self_eq_true]
 ·rw[zD (fun e=>h ((cb_zero_iff _ _).1 e)),zB];exact h
end Sw
namespace Go.Proofs.YtnpehjgnplaabaaGreatDoor
open Go Go.RowKit
open Sw
open Go.Lib (compareBytes)
theorem isNaN_any (w:World)(x:ByteArray):
  Calls Tryz.prog 160 #[.string x] w fun e w'=>e= .returned (.bool false)∧w=w':=by
 have hx:(x.toList==x.toList)=true:=by simp
 go_enter Tryz.func160,Tryz.ntmps160
 go_wp2_with fail
 go_ret;exact⟨by simp,rfl⟩
theorem cmpStr_any (w:World)(x y:ByteArray):
  Calls Tryz.prog 118 #[.string x,.string y] w fun e w'=>e= .returned (.int .i64 (compareBytes x.data.toList y.data.toList))∧w=w':=by
 have h1:=less_str x y;have h2:=eq_str x y;have h3:=cb_three x.data.toList y.data.toList;generalize compareBytes x.data.toList y.data.toList=c at*;rcases h3 with rfl | rfl | rfl
 ·rw[zE rfl] at h1;rw[zD (by omega)] at h2;go_enter Tryz.func118,Tryz.ntmps118
  go_wp2_with (go_at_call 160;refine(isNaN_any _ _).mono ?_;rintro e w1 ⟨rfl,rfl⟩)
  go_ret;exact⟨rfl,rfl⟩
 ·rw[zD (by omega)] at h1;rw[zE rfl] at h2;go_enter Tryz.func118,Tryz.ntmps118
  go_wp2_with (go_at_call 160;refine(isNaN_any _ _).mono ?_;rintro e w1 ⟨rfl,rfl⟩)
  go_ret;exact⟨rfl,rfl⟩
 ·rw[zD (by omega)] at h1;rw[zD (by omega)] at h2;go_enter Tryz.func118,Tryz.ntmps118
  go_wp2_with (go_at_call 160;refine(isNaN_any _ _).mono ?_;rintro e w1 ⟨rfl,rfl⟩)
  go_ret;exact⟨rfl,rfl⟩
theorem slCmp_any (w:World)(v1 v2:Value)(l m:List ByteArray)(h1:SlV w 1 bE v1 l)(h2:SlV w 1 bE v2 m):
  Calls Tryz.prog 79 #[v1,v2] w fun e w'=>e= .returned (.int .i64 (cL l m))∧w=w':=by
 obtain⟨A1,c1,rfl,hc1,hm1,s1⟩:=h1;obtain⟨A2,c2,rfl,hc2,hm2,s2⟩:=h2;unfold maxLen at hm1 hm2;have hat:=fun k=>cL_at k l m
 have hout:=fun k=>cL_out k l m
 have hout2:=fun k=>cL_out2 k l m
 have htk:∀k,l.take k=m.take k→∀(k1:k<l.length) (k2:k<m.length),compareBytes l[k].data.toList m[k].data.toList=0→l.take (k+1)=m.take (k+1):=fun k h k1 k2 hc=>by
  rw[zG k1,zG k2,h,dat_inj (cb_zero _ _ hc)]
 obtain⟨N,hN⟩:∃N,l.length=N:=⟨_,rfl⟩;obtain⟨M,hM⟩:∃M,m.length=M:=⟨_,rfl⟩;obtain⟨R,hR⟩:∃R,cL l m=R:=⟨_,rfl⟩;rw[hN] at hc1⊢;rw[hM] at hc2⊢;rw[hR] at hat hout hout2⊢;rw[hN,hM] at hout hout2;have HA:=zH (zA hat (zA hout (zA hout2 htk)));clear hat hout hout2 htk;have HL:=zH (zA hN hM);clear hN hM;have HS:=zH (zA s1 s2);clear s1 s2 hR;go_enter Tryz.func79,Tryz.ntmps79
 go_wp2_with fail
 go_loopw [4,5,6,7,8,11] (fun r _ _ _ _ iv wr=>∃k:Nat,k≤N∧r= .int .i64 0∧iv= .int .i64 k∧l.take k=m.take k∧w=wr) (fun _ _ _ _ _ iv _=>N-(intOf iv).toNat)
 case atStart=>exact⟨0,Nat.zero_le _,rfl,rfl,by simp,rfl⟩
 case round=>
  obtain⟨k,hk,rfl,rfl,htk,rfl⟩:=hrel;have HT:=zH htk;clear htk;by_cases hlt:k<N
  ·have k1:k<l.length:=by have:=HL.out;omega
   obtain⟨b1,o1,rfl,_,q1⟩:=HS.out.1 (by omega);have g1:=q1 k k1 0 (by omega);(simp [bE] at g1);(have i1:(k:Int)<N:=by omega);by_cases hlt2:k<M
   ·(have k2:k<m.length:=by have:=HL.out;omega);obtain⟨b2,o2,rfl,_,q2⟩:=HS.out.2 (by omega);have g2:=q2 k k2 0 (by omega);(simp [bE] at g2);(obtain⟨i2,i3⟩:(k:Int)<M∧¬(M:Int)≤k:=by omega);have HX:=zH (HA.out.1 k HT.out k1 k2);have HY:=zH (HA.out.2.2.2 k HT.out k1 k2);have HC:=zH (cmpStr_any w l[k] m[k]);clear q1 q2;generalize l[k]=x at*;generalize m[k]=y at*;generalize compareBytes x.data.toList y.data.toList=cc at*;by_cases hc0:cc=0
    ·have HNX:=zH (HY.out hc0);subst hc0;(go_wp2_with fail);refine HC.out.mono ?_;rintro e w2 ⟨rfl,rfl⟩;(go_wp2_with fail);go_roundw
     case rel=>exact⟨k+1,by omega,rfl,by go_num,HNX.out,by simp⟩
     case measure=>simp [intOf];omega
    ·(have hR:R=cc:=by have:=HX.out;rw[if_neg hc0] at this;exact this);subst hR;(have hcb:(R==0)=false:=by rw[zB];exact hc0);(go_wp2_with fail);refine HC.out.mono ?_;rintro e w2 ⟨rfl,rfl⟩;(go_wp2_with fail);go_ret;exact⟨rfl,rfl⟩
   ·(obtain hMk:M≤k:=by omega);have htm:m.length=M:=HL.out.2;have hR:R=1:=by
     have hm':m.take k=m:=zO (by omega);have hlen:=congrArg List.length HT.out;rw[zL,hm',htm] at hlen;(have:M=k:=by have:=HL.out.1;omega);exact HA.out.2.2.1 k HT.out this hlt
    subst hR;(have i3:(M:Int)≤k:=by omega);clear htm;(go_wp2_with fail);go_ret;exact⟨rfl,rfl⟩
  ·obtain rfl:k=N:=by omega
   have hR:=HA.out.2.1 k HT.out rfl;by_cases hkm:k<M
   ·rw[if_pos hkm] at hR;subst hR;(have i3:(k:Int)<M:=by omega);clear hlt;(go_wp2_with fail);go_ret;exact⟨rfl,rfl⟩
   ·rw[if_neg hkm] at hR;subst hR;(have i3:¬(k:Int)<M:=by omega);clear hlt;(go_wp2_with fail);go_ret;exact⟨rfl,rfl⟩
end Go.Proofs.YtnpehjgnplaabaaGreatDoor
namespace Sw
def inS (l:List ByteArray) (x:ByteArray):Bool:=l.any fun y=>decide (y=x)
theorem inS_iff (l:List ByteArray)(x:ByteArray):inS l x=true↔x∈l:=by
 unfold inS;rw[List.any_eq_true];constructor
 ·rintro ⟨y,hy,h⟩;have:=of_decide_eq_true h;subst this;exact hy
 ·exact fun h=>⟨x,h,zE rfl⟩
end Sw
namespace Go.Proofs.YtnpehjgnplaabaaGreatDoor
open Go Go.RowKit
open Sw
open Go.Lib (compareBytes)
theorem strCmp_any (w:World)(x y:ByteArray):
  Calls Tryz.prog 78 #[.string x,.string y] w fun e w'=>e= .returned (.int .i64 (compareBytes x.data.toList y.data.toList))∧w=w':=
 (Tryz.strings_Compare x y w).mono fun e w' h=>⟨h.1,h.2.symm⟩
theorem order_any (w:World)(p q:ByteArray)(hp:p.size≤100000)(hq:q.size≤100000):
  Calls Tryz.prog 47 #[.string p,.string q] w fun e w'=>e= .returned (.int .i64 (ordS p q))∧Below w.heap.size w w':=by
 have HP:=zH (parts_any w p hp);have HQ:=zH (fun W=>parts_any W q hq);have ho:ordS p q=if(partsS p).length=0∧(partsS q).length=0 then compareBytes p.data.toList q.data.toList else cL (partsS p) (partsS q):=rfl
 obtain⟨N,hN⟩:∃N,(partsS p).length=N:=⟨_,rfl⟩;obtain⟨M,hM⟩:∃M,(partsS q).length=M:=⟨_,rfl⟩;rw[hN,hM] at ho;have hc1:=fun W=>strCmp_any W p q
 have hc2:=fun W v1 v2 h1 h2=>slCmp_any W v1 v2 (partsS p) (partsS q) h1 h2
 generalize ordS p q=R at*;generalize compareBytes p.data.toList q.data.toList=C at*;generalize cL (partsS p) (partsS q)=D at*;have HC1:=zH hc1;clear hc1;have HC2:=zH hc2;clear hc2;have HN:=zH (zA hN hM);clear hN hM;go_enter Tryz.func47,Tryz.ntmps47
 go_wp2_with fail
 refine HP.out.mono ?_;rintro e w1 ⟨v1,rfl,s1,hb1⟩;go_wp2_with fail
 refine(HQ.out _).mono ?_;rintro e w2 ⟨v2,rfl,s2,hb2⟩;have hbw:=hb1.trans (hb2.mono hb1.size);have HS:=zH (zA (s1.below hb2 (zN _)) s2);obtain⟨A1,c1,rfl,hc1,hm1,_⟩:=s1;obtain⟨A2,c2,rfl,hc2,hm2,_⟩:=s2;rw[HN.out.1] at hc1 HS⊢;rw[HN.out.2] at hc2 HS⊢;unfold maxLen at hm1 hm2;by_cases h1:N=0
 ·by_cases h2:M=0
  ·rw[if_pos ⟨h1,h2⟩] at ho;subst ho;have n1:((N:Int)==0)=true:=by rw[beq_iff_eq];omega
   (have n2:((M:Int)==0)=true:=by rw[beq_iff_eq];omega);clear h1 h2;(go_wp2_with fail);refine(HC1.out _).mono ?_;rintro e w3 ⟨rfl,rfl⟩;(go_wp2_with fail);go_ret;exact⟨rfl,hbw⟩
  ·rw[if_neg (fun e=>h2 e.2)] at ho;subst ho;have n1:((N:Int)==0)=true:=by rw[beq_iff_eq];omega
   (have n2:((M:Int)==0)=false:=by rw[zB];omega);clear h1 h2;(go_wp2_with fail);refine(HC2.out _ _ _ HS.out.1 HS.out.2).mono ?_;rintro e w3 ⟨rfl,rfl⟩;(go_wp2_with fail);go_ret;exact⟨rfl,hbw⟩
 ·rw[if_neg (fun e=>h1 e.1)] at ho;subst ho;have n1:((N:Int)==0)=false:=by rw[zB];omega
  clear h1;go_wp2_with fail
  refine(HC2.out _ _ _ HS.out.1 HS.out.2).mono ?_;rintro e w3 ⟨rfl,rfl⟩;go_wp2_with fail
  go_ret;exact⟨rfl,hbw⟩
theorem cont_any (w:World)(v:Value)(l:List ByteArray)(x:ByteArray)(h:SlV w 1 bE v l):
  Calls Tryz.prog 138 #[v,.string x] w fun e w'=>e= .returned (.bool (inS l x))∧w=w':=by
 obtain⟨A,c,rfl,hc,hm,hs⟩:=h;by_cases h0:l.length=0
 ·have hl:l=[]:=List.length_eq_zero_iff.1 h0;subst hl;have hi:Calls Tryz.prog 173 #[.slice A 0 c,.string x] w fun e w'=>e= .returned (.int .i64 (-1))∧w=w':=by
   (go_enter Tryz.func173,Tryz.ntmps173);(go_wp2_with fail);go_loopw [4,5,8] (fun r _ iv wr=>r= .int .i64 0∧iv= .int .i64 0∧w=wr) (fun _ _ _ _=>0)
   case atStart=>exact⟨rfl,rfl,rfl⟩
   case round=>
    obtain⟨rfl,rfl,rfl⟩:=hrel;(go_wp2_with fail);go_ret;exact⟨rfl,rfl⟩
  have HI:=zH hi;clear hi;go_enter Tryz.func138,Tryz.ntmps138
  go_wp2_with fail
  refine HI.out.mono ?_;rintro e w1 ⟨rfl,rfl⟩;go_wp2_with fail
  go_ret;exact⟨by simp [inS],rfl⟩
 ·obtain⟨b,o,rfl,_,hcs⟩:=hs (by omega);refine(Tryz.slices_Contains_string b o l.length c l x w (zN _) (by unfold maxLen at hm;omega) (fun j hj=>by
   have:=hcs j hj 0 (by omega);(simp [bE] at this);rw[this,List.getD_eq_getElem?_getD,zM hj];rfl)).mono ?_
  rintro e w' ⟨rfl,rfl⟩;refine⟨?_,rfl⟩;rw[zO (zN _)];have hiff:=Go.Lib.containsS_iff l x;have hiff2:=inS_iff l x;congr 2
  cases hd:Go.Lib.containsS l x with
  | true=>rw[hiff2.2 (hiff.1 hd)]
  | false=>
   cases hi:inS l x with
   | false=>rfl
   | true=>rw[hiff.2 (hiff2.1 hi)] at hd;cases hd
theorem under_any (w:World)(p q:ByteArray)(hq:q.size≤90000):
  Calls Tryz.prog 97 #[.string p,.string q] w fun e w'=>e= .returned (.bool (inS (upsS q) p))∧Below w.heap.size w w':=by
 have HU:=zH (ups_any w q hq);have hC:=fun W v h=>cont_any W v (upsS q) p h
 generalize inS (upsS q) p=R at*;have HC:=zH hC;clear hC;go_enter Tryz.func97,Tryz.ntmps97
 go_wp2_with fail
 refine HU.out.mono ?_;rintro e w1 ⟨v,rfl,s,hb1⟩;have HS:=zH s;clear s;go_wp2_with fail
 refine(HC.out _ _ HS.out).mono ?_;rintro e w2 ⟨rfl,rfl⟩;go_wp2_with fail
 go_ret;exact⟨rfl,hb1⟩
end Go.Proofs.YtnpehjgnplaabaaGreatDoor
namespace Sw
structure Ord3 {κ:Type} (c:κ→κ→Int):Prop where
 zero:∀a b,c a b=0→a=b
 neg:∀a b,c b a= -c a b
 trans:∀a b d,c a b<0→c b d<0→c a d<0
section
variable {κ ν:Type} {c:κ→κ→Int}
theorem Ord3.self (h:Ord3 c)(a:κ):c a a=0:=by have:=h.neg a a;omega
theorem Ord3.iff (h:Ord3 c)(a b:κ):c a b=0↔a=b:=⟨h.zero a b,fun e=>by subst e;exact h.self a⟩
def Up (c:κ→κ→Int) (l:List (κ×ν)):Prop:=l.Pairwise fun a b=>c a.1 b.1<0
def lbN (c:κ→κ→Int) (k:κ):List (κ×ν)→Nat
 | []=>0
 | e::l=>if c e.1 k<0 then lbN c k l+1 else 0
def inN (c:κ→κ→Int) (k:κ):List (κ×ν)→Bool
 | []=>false
 | e::l=>if c e.1 k<0 then inN c k l else decide (c e.1 k=0)
def putN (c:κ→κ→Int) (k:κ) (v:ν):List (κ×ν)→List (κ×ν)
 | []=>[(k,v)]
 | e::l=>if c e.1 k<0 then e::putN c k v l else if c e.1 k=0 then(k,v)::l else(k,v)::e::l
def getN (c:κ→κ→Int) (k:κ):List (κ×ν)→Option ν
 | []=>none
 | e::l=>if c e.1 k<0 then getN c k l else if c e.1 k=0 then some e.2 else none
theorem lbN_le (k:κ):∀l:List (κ×ν),lbN c k l≤l.length
 | []=>zN _
 | e::l=>by
  unfold lbN;split
  ·have:=lbN_le k l;simp;omega
  ·exact Nat.zero_le _
theorem Up.head {e:κ×ν}{l:List (κ×ν)}(h:Up c (e::l)):∀x∈l,c e.1 x.1<0:=(List.pairwise_cons.1 h).1
theorem Up.tail {e:κ×ν}{l:List (κ×ν)}(h:Up c (e::l)):Up c l:=(List.pairwise_cons.1 h).2
theorem lbN_eq (hO:Ord3 c)(k:κ)(l:List (κ×ν))(j:Nat)(hj:j≤l.length)(h1:∀i (h:i<l.length),i<j→c l[i].1 k<0)(h2:∀i (h:i<l.length),j≤i→0≤c l[i].1 k):lbN c k l=j:=by
 induction l generalizing j with
 | nil=>simp at hj;simp [lbN,hj]
 | cons e l ih=>
  unfold lbN;cases j with
  | zero=>
   have:=h2 0 (by simp) (zN _);rw[if_neg (by show ¬c e.1 k<0;simp at this;omega)]
  | succ j=>
   have h0:=h1 0 (by simp) (by omega);rw[if_pos (by simpa using h0),ih j (by simpa using hj) (fun i h hi=>by have:=h1 (i+1) (by simpa using h) (by omega);simpa using this) (fun i h hi=>by have:=h2 (i+1) (by simpa using h) (by omega);simpa using this)]
theorem inN_eq (hO:Ord3 c)(k:κ):∀l:List (κ×ν),inN c k l=(if h:lbN c k l<l.length then decide (c (l[lbN c k l]'h).1 k=0) else false)
 | []=>rfl
 | e::l=>by
  by_cases hc:c e.1 k<0
  ·have ih:=inN_eq hO k l;have hl:lbN c k (e::l)=lbN c k l+1:=by rw[lbN,if_pos hc]
   rw[inN,if_pos hc,ih];by_cases h:lbN c k l<l.length
   ·rw[dif_pos h,dif_pos (by rw[hl];simpa using h)];simp only[hl,List.getElem_cons_succ]
   ·rw[dif_neg h,dif_neg (by rw[hl];simpa using h)]
  ·have hl:lbN c k (e::l)=0:=by rw[lbN,if_neg hc]
   rw[inN,if_neg hc,dif_pos (by rw[hl];simp)];simp only[hl,List.getElem_cons_zero]
theorem inN_at (hO:Ord3 c){k:κ}{l:List (κ×ν)}(h:lbN c k l<l.length):inN c k l=decide (c (l[lbN c k l]'h).1 k=0):=by rw[inN_eq hO,dif_pos h]
theorem inN_out (hO:Ord3 c){k:κ}{l:List (κ×ν)}(h:¬lbN c k l<l.length):inN c k l=false:=by rw[inN_eq hO,dif_neg h]
theorem inN_lt (hO:Ord3 c){k:κ}{l:List (κ×ν)}(h:inN c k l=true):lbN c k l<l.length:=by
 by_cases hl:lbN c k l<l.length
 ·exact hl
 ·rw[inN_out hO hl] at h;cases h
theorem put_hit (k:κ)(v:ν):∀l:List (κ×ν),inN c k l=true→putN c k v l=l.set (lbN c k l) (k,v)
 | [],h=>by cases h
 | e::l,h=>by
  unfold inN at h;unfold putN lbN;by_cases hc:c e.1 k<0
  ·rw[if_pos hc] at h⊢;rw[if_pos hc,List.set_cons_succ,put_hit k v l h]
  ·rw[if_neg hc,decide_eq_true_eq] at h;rw[if_neg hc,if_neg hc,if_pos h,List.set_cons_zero]
theorem put_miss (k:κ)(v:ν):∀l:List (κ×ν),inN c k l=false→putN c k v l=l.take (lbN c k l)++(k,v)::l.drop (lbN c k l)
 | [],_=>rfl
 | e::l,h=>by
  unfold inN at h;unfold putN lbN;by_cases hc:c e.1 k<0
  ·rw[if_pos hc] at h⊢;rw[if_pos hc,List.take_succ_cons,List.drop_succ_cons,put_miss k v l h,List.cons_append]
  ·rw[if_neg hc,decide_eq_false_iff_not] at h;rw[if_neg hc,if_neg hc,if_neg h,List.take_zero,List.drop_zero,List.nil_append]
theorem get_hit (hO:Ord3 c)(k:κ):∀l:List (κ×ν),inN c k l=true→∃h:lbN c k l<l.length,getN c k l=some (l[lbN c k l]'h).2
 | [],h=>by cases h
 | e::l,h=>by
  unfold inN at h;by_cases hc:c e.1 k<0
  ·rw[if_pos hc] at h;obtain⟨hl,he⟩:=get_hit hO k l h;have h2:lbN c k (e::l)=lbN c k l+1:=by rw[lbN,if_pos hc]
   refine⟨by rw[h2];simpa using hl,?_⟩;rw[getN,if_pos hc,he];simp only[h2,List.getElem_cons_succ]
  ·rw[if_neg hc,decide_eq_true_eq] at h;have h2:lbN c k (e::l)=0:=by rw[lbN,if_neg hc]
   refine⟨by rw[h2];simp,?_⟩;rw[getN,if_neg hc,if_pos h];simp only[h2,List.getElem_cons_zero]
theorem get_miss (k:κ):∀l:List (κ×ν),inN c k l=false→getN c k l=none
 | [],_=>rfl
 | e::l,h=>by
  unfold inN at h;unfold getN;by_cases hc:c e.1 k<0
  ·rw[if_pos hc] at h⊢;rw[get_miss k l h]
  ·rw[if_neg hc,decide_eq_false_iff_not] at h;rw[if_neg hc,if_neg h]
theorem put_mem (k:κ)(v:ν):∀(l:List (κ×ν)) (x:κ×ν),x∈putN c k v l→x=(k,v)∨x∈l
 | [],x,h=>by simp [putN] at h;exact .inl h
 | e::l,x,h=>by
  unfold putN at h;by_cases hc:c e.1 k<0
  ·rw[if_pos hc,List.mem_cons] at h;rcases h with h | h
   ·right;rw[h];simp
   ·rcases put_mem k v l x h with h | h
    ·exact .inl h
    ·right;simp [h]
  ·rw[if_neg hc] at h;split at h
   ·rw[List.mem_cons] at h;rcases h with h | h
    ·exact .inl h
    ·right;simp [h]
   ·rw[List.mem_cons] at h;rcases h with h | h
    ·exact .inl h
    ·exact .inr h
theorem Ord3.not_lt (hO:Ord3 c){a b:κ}(h1:¬c a b<0)(h2:¬c a b=0):c b a<0:=by have:=hO.neg a b;omega
theorem put_up (hO:Ord3 c)(k:κ)(v:ν):∀l:List (κ×ν),Up c l→Up c (putN c k v l)
 | [],_=>by simp [putN,Up]
 | e::l,hu=>by
  unfold putN;by_cases hc:c e.1 k<0
  ·rw[if_pos hc];refine List.pairwise_cons.2 ⟨fun x hx=>?_,put_up hO k v l hu.tail⟩;rcases put_mem k v l x hx with rfl | hx
   ·exact hc
   ·exact hu.head x hx
  ·rw[if_neg hc];by_cases h0:c e.1 k=0
   ·rw[if_pos h0];have he:=hO.zero _ _ h0;subst he;exact List.pairwise_cons.2 ⟨fun x hx=>hu.head x hx,hu.tail⟩
   ·rw[if_neg h0];have hk:=hO.not_lt hc h0;refine List.pairwise_cons.2 ⟨fun x hx=>?_,hu⟩;rw[List.mem_cons] at hx;rcases hx with rfl | hx
    ·exact hk
    ·exact hO.trans _ _ _ hk (hu.head x hx)
theorem put_len (k:κ)(v:ν):∀l:List (κ×ν),(putN c k v l).length=if inN c k l=true then l.length else l.length+1
 | []=>rfl
 | e::l=>by
  unfold putN inN;by_cases hc:c e.1 k<0
  ·rw[if_pos hc,if_pos hc,zI,put_len k v l,zI];split<;>rfl
  ·rw[if_neg hc,if_neg hc];by_cases h0:c e.1 k=0
   ·rw[if_pos h0,zE h0];simp
   ·rw[if_neg h0,zD h0];simp
theorem put_filter (hO:Ord3 c)(k:κ)(v:ν):∀l:List (κ×ν),Up c l→putN c k v l=l.filter (fun e=>decide (c e.1 k<0))++(k,v)::l.filter (fun e=>decide (0<c e.1 k))
 | [],_=>rfl
 | e::l,hu=>by
  unfold putN;by_cases hc:c e.1 k<0
  ·rw[if_pos hc,put_filter hO k v l hu.tail,List.filter_cons_of_pos (by simpa using hc),List.filter_cons_of_neg (by simp;omega)];rfl
  ·rw[if_neg hc];have hge:∀x∈l,0<c x.1 k:=fun x hx=>by
    have h1:=hu.head x hx;by_cases h0:c e.1 k=0
    ·have he:=hO.zero _ _ h0;rw[←he];have:=hO.neg e.1 x.1;omega
    ·have h2:=hO.not_lt hc h0;have h3:=hO.trans _ _ _ h2 h1;have:=hO.neg k x.1;omega
   (have hA:l.filter (fun e=>decide (c e.1 k<0))=[]:=List.filter_eq_nil_iff.2 fun x hx=>by have:=hge x hx;simp;omega);(have hB:l.filter (fun e=>decide (0<c e.1 k))=l:=List.filter_eq_self.2 fun x hx=>by simpa using hge x hx);by_cases h0:c e.1 k=0
   ·rw[if_pos h0,List.filter_cons_of_neg (by simp;omega),List.filter_cons_of_neg (by simp;omega),hA,hB];rfl
   ·rw[if_neg h0,List.filter_cons_of_neg (by simp;omega),List.filter_cons_of_pos (by simp;omega),hA,hB];rfl
theorem get_find (hO:Ord3 c)(k:κ):∀l:List (κ×ν),Up c l→getN c k l=(l.find? fun e=>decide (c e.1 k=0)).map (·.2)
 | [],_=>rfl
 | e::l,hu=>by
  unfold getN;by_cases hc:c e.1 k<0
  ·rw[if_pos hc,get_find hO k l hu.tail,List.find?_cons_of_neg (by simp;omega)]
  ·rw[if_neg hc];by_cases h0:c e.1 k=0
   ·rw[if_pos h0,List.find?_cons_of_pos (by simpa using h0)];rfl
   ·rw[if_neg h0,List.find?_cons_of_neg (by simpa using h0)];have h2:=hO.not_lt hc h0;have hn:l.find? (fun e=>decide (c e.1 k=0))=none:=List.find?_eq_none.2 fun x hx=>by
     have h3:=hO.trans _ _ _ h2 (hu.head x hx);have:=hO.neg k x.1;simp;omega
    rw[hn];rfl
end
end Sw
namespace Sw
open Go Go.RowKit
open Go.Proofs.YtnpehjgnplaabaaGreatDoor (partsS)
open Go.Lib (compareBytes)
theorem cb_trans:∀a b d:List UInt8,compareBytes a b= -1→compareBytes b d= -1→compareBytes a d= -1
 | [],[],_,h,_=>by simp [compareBytes] at h
 | [],_::_,[],_,h=>by simp [compareBytes] at h
 | [],_::_,_::_,_,_=>rfl
 | _::_,[],_,h,_=>by simp [compareBytes] at h
 | _::_,_::_,[],_,h=>by simp [compareBytes] at h
 | x::a,y::b,z::d,h1,h2=>by
  rw[compareBytes] at h1 h2⊢;by_cases hxy:x<y
  ·by_cases hyz:y<z
   ·rw[if_pos (UInt8.lt_trans hxy hyz)]
   ·by_cases hzy:z<y
    ·rw[if_neg hyz,if_pos hzy] at h2;cases h2
    ·have:=u8_tri y z hyz hzy;subst this;rw[if_pos hxy]
  ·by_cases hyx:y<x
   ·rw[if_neg hxy,if_pos hyx] at h1;cases h1
   ·have:=u8_tri x y hxy hyx;subst this;rw[if_neg hxy,if_neg hyx] at h1;by_cases hyz:x<z
    ·rw[if_pos hyz]
    ·by_cases hzy:z<x
     ·rw[if_neg hyz,if_pos hzy] at h2;cases h2
     ·rw[if_neg hyz,if_neg hzy] at h2⊢;exact cb_trans a b d h1 h2
theorem cL_trans:∀a b d:List ByteArray,cL a b= -1→cL b d= -1→cL a d= -1
 | [],[],_,h,_=>by simp [cL] at h
 | [],_::_,[],_,h=>by simp [cL] at h
 | [],_::_,_::_,_,_=>rfl
 | _::_,[],_,h,_=>by simp [cL] at h
 | _::_,_::_,[],_,h=>by simp [cL] at h
 | x::a,y::b,z::d,h1,h2=>by
  rw[cL] at h1 h2⊢;by_cases hxy:compareBytes x.data.toList y.data.toList=0
  ·rw[if_pos hxy] at h1;have:=dat_inj (cb_zero _ _ hxy);subst this;by_cases hyz:compareBytes x.data.toList z.data.toList=0
   ·rw[if_pos hyz] at h2⊢;exact cL_trans a b d h1 h2
   ·rw[if_neg hyz] at h2⊢;exact h2
  ·rw[if_neg hxy] at h1;by_cases hyz:compareBytes y.data.toList z.data.toList=0
   ·have:=dat_inj (cb_zero _ _ hyz);subst this;rw[if_neg hxy];exact h1
   ·rw[if_neg hyz] at h2;have h3:=cb_trans _ _ _ h1 h2;rw[if_neg (by omega)];exact h3
theorem ordS_trans {p q s:ByteArray}(h1:ordS p q= -1)(h2:ordS q s= -1):ordS p s= -1:=by
 unfold ordS at*;by_cases hp:(partsS p).length=0
 ·by_cases hq:(partsS q).length=0
  ·rw[if_pos ⟨hp,hq⟩] at h1;by_cases hs:(partsS s).length=0
   ·rw[if_pos ⟨hq,hs⟩] at h2;rw[if_pos ⟨hp,hs⟩];exact cb_trans _ _ _ h1 h2
   ·rw[if_neg (fun e=>hs e.2)] at h2⊢;have e1:=List.length_eq_zero_iff.1 hp;have e2:=List.length_eq_zero_iff.1 hq;rw[e2] at h2;rw[e1];exact h2
  ·rw[if_neg (fun e=>hq e.2)] at h1;rw[if_neg (fun e=>hq e.1)] at h2;have h3:=cL_trans _ _ _ h1 h2;by_cases hs:(partsS s).length=0
   ·have e1:=List.length_eq_zero_iff.1 hp;have e2:=List.length_eq_zero_iff.1 hs;rw[e1,e2] at h3;cases h3
   ·rw[if_neg (fun e=>hs e.2)];exact h3
 ·rw[if_neg (fun e=>hp e.1)] at h1⊢;by_cases hq:(partsS q).length=0
  ·have e2:=List.length_eq_zero_iff.1 hq;rw[e2] at h1;cases hpp:partsS p with
   | nil=>rw[hpp] at hp;exact absurd rfl hp
   | cons x l=>rw[hpp] at h1;cases h1
  ·rw[if_neg (fun e=>hq e.1)] at h2;exact cL_trans _ _ _ h1 h2
theorem ordS_ord:Ord3 ordS:=⟨fun a b h=>ordS_zero h,ordS_neg,fun a b d h1 h2=>by
 have e1:=ordS_three a b;have e2:=ordS_three b d;have:=ordS_trans (p:=a) (q:=b) (s:=d) (by omega) (by omega);omega⟩
def okS (k:ByteArray):Prop:=k.size≤90000
end Sw
namespace Go.Proofs.YtnpehjgnplaabaaGreatDoor
open Go Go.RowKit
open Sw
theorem orderS_any (w:World)(a b:ByteArray)(ha:okS a)(hb:okS b):
  Calls Tryz.prog 47 #[.string a,.string b] w fun e w'=>e= .returned (.int .i64 (ordS a b))∧Below w.heap.size w w':=by
 unfold okS at ha hb;exact order_any w a b (by omega) (by omega)
end Go.Proofs.YtnpehjgnplaabaaGreatDoor
namespace Sw
open Go
structure Nd where
 kind:Int
 mode:Int
 time:Int
 data:ByteArray
structure Pr where
 kind:Int
 mode:Int
 time:Int
 size:Int
 sum:Int
def Nd.c (n:Nd):Array Value:= #[.int .i64 n.kind,.int .i64 n.mode,.int .u32 n.time,.string n.data]
def Pr.c (p:Pr):Array Value:= #[.int .i64 p.kind,.int .i64 p.mode,.int .u32 p.time,.int .i64 p.size,.int .u32 p.sum]
end Sw
namespace Sw
def leapI (y:Int):Bool:=decide (y % 4=0∧y≠2100)
def daysI (y m:Int):Int:=
 if y<1980∨2107<y∨m<1∨12<m then 0 else if m=2 then(if leapI y=true then 29 else 28) else if m=4∨m=6∨m=9∨m=11 then 30 else 31
structure Dt where
 y:Int
 m:Int
 d:Int
 h:Int
 mi:Int
 s:Int
def Dt.Ok (x:Dt):Prop:=1≤x.d∧x.d≤daysI x.y x.m∧0≤x.h∧x.h<24∧0≤x.mi∧x.mi<60∧0≤x.s∧x.s<60∧x.s % 2=0
instance (x:Dt):Decidable x.Ok:=by unfold Dt.Ok;exact inferInstance
def splitD (t:Int):Dt:=⟨1980+t/33554432,t/2097152 % 16,t/65536 % 32,t/2048 % 32,t/32 % 64,2*(t % 32)⟩
theorem daysI_le (y m:Int):0≤daysI y m∧daysI y m≤31:=by
 unfold daysI;split
 ·omega
 ·split
  ·split<;>omega
  ·split<;>omega
end Sw
namespace Go.Proofs.YtnpehjgnplaabaaGreatDoor
open Go.RowKit
open Sw
theorem leap_any (w:World)(y:Int)(h0: -9223372036854775808≤y)(h1:y≤9223372036854775807):
  Calls Tryz.prog 218 #[.int .i64 y] w fun e w'=>e= .returned (.bool (leapI y))∧w=w':=by
 have e4:(y.tmod 4==0)=decide (y % 4=0):=by
  rw[Bool.eq_iff_iff,beq_iff_eq,decide_eq_true_iff,←Int.dvd_iff_tmod_eq_zero,←Int.dvd_iff_emod_eq_zero]
 by_cases h4:y % 4=0
 ·have ht:(y.tmod 4==0)=true:=by rw[e4];simpa using h4
  by_cases h5:y=2100
  ·have hl:leapI y=false:=by unfold leapI;simp [h5]
   have HL:=zH hl;clear hl e4;(go_enter Tryz.func218,Tryz.ntmps218);(go_wp2_with fail);go_ret;rw[HL.out];exact⟨by simp,rfl⟩
  ·have hl:leapI y=true:=by unfold leapI;simp [h4,h5]
   (have hn:(y !=2100)=true:=by simp [h5]);have HL:=zH hl;clear hl e4;(go_enter Tryz.func218,Tryz.ntmps218);(go_wp2_with fail);go_ret;rw[HL.out];exact⟨by simp,rfl⟩
 ·have ht:(y.tmod 4==0)=false:=by rw[e4];simpa using h4
  have hl:leapI y=false:=by unfold leapI;simp [h4]
  have HL:=zH hl;clear hl e4;go_enter Tryz.func218,Tryz.ntmps218
  go_wp2_with fail
  go_ret;rw[HL.out];exact⟨by simp,rfl⟩
theorem days_any (w:World)(y m:Int)(h0: -9223372036854775808≤y)(h1:y≤9223372036854775807)(m0: -9223372036854775808≤m)(m1:m≤9223372036854775807):
  Calls Tryz.prog 195 #[.int .i64 y,.int .i64 m] w fun e w'=>e= .returned (.int .i64 (daysI y m))∧Below w.heap.size w w':=by
 by_cases hbad:y<1980∨2107<y∨m<1∨12<m
 ·have hd:daysI y m=0:=by unfold daysI;rw[if_pos hbad]
  rw[hd];rcases Classical.em (y<1980) with h | h
  ·go_enter Tryz.func195,Tryz.ntmps195
   (go_wp2_with fail);go_ret;exact⟨rfl,zR _ _⟩
  rcases Classical.em (2107<y) with h2 | h2
  ·go_enter Tryz.func195,Tryz.ntmps195
   (go_wp2_with fail);go_ret;exact⟨rfl,zR _ _⟩
  rcases Classical.em (m<1) with h3 | h3
  ·go_enter Tryz.func195,Tryz.ntmps195
   (go_wp2_with fail);go_ret;exact⟨rfl,zR _ _⟩
  have h4:12<m:=by omega
  go_enter Tryz.func195,Tryz.ntmps195
  go_wp2_with fail
  go_ret;exact⟨rfl,zR _ _⟩
 ·have hy0:¬y<1980:=by omega
  have hy1:¬2107<y:=by omega
  have HD:=zH (show daysI y m=_ by unfold daysI;rw[if_neg hbad]);have L:=zH (fun W=>leap_any W y h0 h1);have hm:m=1∨m=2∨m=3∨m=4∨m=5∨m=6∨m=7∨m=8∨m=9∨m=10∨m=11∨m=12:=by omega
  clear hbad m0 m1 h0 h1;rcases hm with rfl | rfl | rfl | rfl | rfl | rfl | rfl | rfl | rfl | rfl | rfl | rfl
  case inr.inl=>
   (rcases hl:leapI y with _ | _);all_goals
    rw[hl] at HD L;have hd:=HD.out;(simp at hd);rw[hd];clear hd HD;(go_enter Tryz.func195,Tryz.ntmps195);(go_wp2_with (go_at_call 218;refine(L.out _).mono ?_;rintro e w' ⟨rfl,rfl⟩));go_ret;exact⟨rfl,(zR _ _).alloc (zN _) _⟩
  all_goals
   have hd:=HD.out;(simp at hd);rw[hd];clear hd HD L;(go_enter Tryz.func195,Tryz.ntmps195);(go_wp2_with fail);go_ret;exact⟨rfl,(zR _ _).alloc (zN _) _⟩
def Dt.v (x:Dt):Array Value:= #[.int .i64 x.y,.int .i64 x.m,.int .i64 x.d,.int .i64 x.h,.int .i64 x.mi,.int .i64 x.s]
structure Dt.In (x:Dt):Prop where
 y0: -9223372036854775808≤x.y
 y1:x.y≤9223372036854775807
 m0: -9223372036854775808≤x.m
 m1:x.m≤9223372036854775807
 d0: -9223372036854775808≤x.d
 d1:x.d≤9223372036854775807
 h0: -9223372036854775808≤x.h
 h1:x.h≤9223372036854775807
 i0: -9223372036854775808≤x.mi
 i1:x.mi≤9223372036854775807
 s0: -9223372036854775808≤x.s
 s1:x.s≤9223372036854775807
theorem splitD_in (t:Int)(h0:0≤t)(h1:t<4294967296):Dt.In (splitD t):=by
 constructor<;>(simp only[splitD];omega)
theorem and_mask (x:Int)(k:Nat)(m:Int)(hm:m=((2^k-1:Nat):Int))(hk:2^k-1<4294967296)(h0:0≤x)(h1:x<4294967296):bits .and .u32 x m=x % ((2^k:Nat):Int):=by
 obtain⟨x,rfl⟩:=Int.eq_ofNat_of_zero_le h0;rw[hm,u32_and_nat x (2^k-1) (by omega) hk,Nat.and_two_pow_sub_one_eq_mod];exact Int.natCast_emod _ _
theorem take_25 (w:World)(g:Nat)(t:Int)(h0:0≤t)(h1:t<4294967296)(h:w.cell? ⟨g,0,none⟩=some (.int .u32 t)):
  Calls Tryz.prog 193 #[.int .i64 25,.int .i64 7,.pointer (some ⟨g,0,none⟩)] w fun e w'=>e= .returned (.int .i64 (t/33554432 % 128))∧∃m,w'=w.drewN m:=by
 have e:bits .and .u32 (t/33554432) 127=t/33554432 % 128:=and_mask _ 7 _ rfl (by decide) (by omega) (by omega);go_enter Tryz.func193,Tryz.ntmps193
 go_wp2_with fail
 go_quiet (fail)
 go_wp2_with fail
 go_ret;exact⟨rfl,nq,rfl⟩
theorem take_21 (w:World)(g:Nat)(t:Int)(h0:0≤t)(h1:t<4294967296)(h:w.cell? ⟨g,0,none⟩=some (.int .u32 t)):
  Calls Tryz.prog 193 #[.int .i64 21,.int .i64 4,.pointer (some ⟨g,0,none⟩)] w fun e w'=>e= .returned (.int .i64 (t/2097152 % 16))∧∃m,w'=w.drewN m:=by
 have e:bits .and .u32 (t/2097152) 15=t/2097152 % 16:=and_mask _ 4 _ rfl (by decide) (by omega) (by omega);go_enter Tryz.func193,Tryz.ntmps193
 go_wp2_with fail
 go_quiet (fail)
 go_wp2_with fail
 go_ret;exact⟨rfl,nq,rfl⟩
theorem take_16 (w:World)(g:Nat)(t:Int)(h0:0≤t)(h1:t<4294967296)(h:w.cell? ⟨g,0,none⟩=some (.int .u32 t)):
  Calls Tryz.prog 193 #[.int .i64 16,.int .i64 5,.pointer (some ⟨g,0,none⟩)] w fun e w'=>e= .returned (.int .i64 (t/65536 % 32))∧∃m,w'=w.drewN m:=by
 have e:bits .and .u32 (t/65536) 31=t/65536 % 32:=and_mask _ 5 _ rfl (by decide) (by omega) (by omega);go_enter Tryz.func193,Tryz.ntmps193
 go_wp2_with fail
 go_quiet (fail)
 go_wp2_with fail
 go_ret;exact⟨rfl,nq,rfl⟩
theorem take_11 (w:World)(g:Nat)(t:Int)(h0:0≤t)(h1:t<4294967296)(h:w.cell? ⟨g,0,none⟩=some (.int .u32 t)):
  Calls Tryz.prog 193 #[.int .i64 11,.int .i64 5,.pointer (some ⟨g,0,none⟩)] w fun e w'=>e= .returned (.int .i64 (t/2048 % 32))∧∃m,w'=w.drewN m:=by
 have e:bits .and .u32 (t/2048) 31=t/2048 % 32:=and_mask _ 5 _ rfl (by decide) (by omega) (by omega);go_enter Tryz.func193,Tryz.ntmps193
 go_wp2_with fail
 go_quiet (fail)
 go_wp2_with fail
 go_ret;exact⟨rfl,nq,rfl⟩
theorem take_5 (w:World)(g:Nat)(t:Int)(h0:0≤t)(h1:t<4294967296)(h:w.cell? ⟨g,0,none⟩=some (.int .u32 t)):
  Calls Tryz.prog 193 #[.int .i64 5,.int .i64 6,.pointer (some ⟨g,0,none⟩)] w fun e w'=>e= .returned (.int .i64 (t/32 % 64))∧∃m,w'=w.drewN m:=by
 have e:bits .and .u32 (t/32) 63=t/32 % 64:=and_mask _ 6 _ rfl (by decide) (by omega) (by omega);go_enter Tryz.func193,Tryz.ntmps193
 go_wp2_with fail
 go_quiet (fail)
 go_wp2_with fail
 go_ret;exact⟨rfl,nq,rfl⟩
theorem take_0 (w:World)(g:Nat)(t:Int)(h0:0≤t)(h1:t<4294967296)(h:w.cell? ⟨g,0,none⟩=some (.int .u32 t)):
  Calls Tryz.prog 193 #[.int .i64 0,.int .i64 5,.pointer (some ⟨g,0,none⟩)] w fun e w'=>e= .returned (.int .i64 (t % 32))∧∃m,w'=w.drewN m:=by
 have e:bits .and .u32 (t) 31=t % 32:=and_mask _ 5 _ rfl (by decide) (by omega) (by omega);go_enter Tryz.func193,Tryz.ntmps193
 go_wp2_with fail
 go_quiet (fail)
 go_wp2_with fail
 go_ret;exact⟨rfl,nq,rfl⟩
theorem split_any (w:World)(t:Int)(h0:0≤t)(h1:t<4294967296):
  Calls Tryz.prog 164 #[.int .u32 t] w fun e w'=>e= .returned (.agg (Dt.v (splitD t)))∧Below w.heap.size w w':=by
 have hc:((w.alloc (Obj.cells #[Value.int IntKind.u32 t] 51)).alloc (Obj.cells #[Value.int IntKind.i64 0,Value.int IntKind.i64 0,Value.int IntKind.i64 0,Value.int IntKind.i64 0,Value.int IntKind.i64 0,Value.int IntKind.i64 0] 216)).cell? ⟨w.heap.size,0,none⟩=some (.int .u32 t):=Blk.cell ((Blk.new w _ _).alloc _) 0;have hg:Blk ((w.alloc (Obj.cells #[Value.int IntKind.u32 t] 51)).alloc (Obj.cells #[Value.int IntKind.i64 0,Value.int IntKind.i64 0,Value.int IntKind.i64 0,Value.int IntKind.i64 0,Value.int IntKind.i64 0,Value.int IntKind.i64 0] 216)) (w.heap.size+1) 216 #[Value.int IntKind.i64 0,Value.int IntKind.i64 0,Value.int IntKind.i64 0,Value.int IntKind.i64 0,Value.int IntKind.i64 0,Value.int IntKind.i64 0]:=by
  have h:=Blk.new (w.alloc (Obj.cells #[Value.int IntKind.u32 t] 51)) 216 #[Value.int IntKind.i64 0,Value.int IntKind.i64 0,Value.int IntKind.i64 0,Value.int IntKind.i64 0,Value.int IntKind.i64 0,Value.int IntKind.i64 0];rw[World.size_alloc] at h;exact h
 have hb:Below w.heap.size w ((w.alloc (Obj.cells #[Value.int IntKind.u32 t] 51)).alloc (Obj.cells #[Value.int IntKind.i64 0,Value.int IntKind.i64 0,Value.int IntKind.i64 0,Value.int IntKind.i64 0,Value.int IntKind.i64 0,Value.int IntKind.i64 0] 216)):=((zR w.heap.size w).alloc (zN _) _).alloc (by simp) _;have HB:=zH hb;clear hb;go_enter Tryz.func164,Tryz.ntmps164
 go_wp2_with fail
 have HG:=zH hg;clear hg;have HC:=zH hc;clear hc;go_wp2_with (go_at_call 193;first | (((with_reducible refine(take_25 _ w.heap.size t h0 h1 ?_).mono ?_);exact HC.out;rintro e w' ⟨rfl,n25,rfl⟩)) | (((with_reducible refine(take_21 _ w.heap.size t h0 h1 ?_).mono ?_);exact HC.out;rintro e w' ⟨rfl,n21,rfl⟩)) | (((with_reducible refine(take_16 _ w.heap.size t h0 h1 ?_).mono ?_);exact HC.out;rintro e w' ⟨rfl,n16,rfl⟩)) | (((with_reducible refine(take_11 _ w.heap.size t h0 h1 ?_).mono ?_);exact HC.out;rintro e w' ⟨rfl,n11,rfl⟩)) | (((with_reducible refine(take_5 _ w.heap.size t h0 h1 ?_).mono ?_);exact HC.out;rintro e w' ⟨rfl,n5,rfl⟩)) | (((with_reducible refine(take_0 _ w.heap.size t h0 h1 ?_).mono ?_);exact HC.out;rintro e w' ⟨rfl,n0,rfl⟩)))
 have e0:t/33554432 % 128=t/33554432:=by omega
 have hrow:Dt.v (splitD t)= #[Value.int IntKind.i64 (1980+t/33554432 % 128),Value.int IntKind.i64 (t/2097152 % 16),Value.int IntKind.i64 (t/65536 % 32),Value.int IntKind.i64 (t/2048 % 32),Value.int IntKind.i64 (t/32 % 64),Value.int IntKind.i64 (2*(t % 32))]:=by
  rw[e0];rfl
 rw[hrow];refine bodyPost_ret (results_cell_row rfl _ _ (w.heap.size+1) 216 #[Value.int IntKind.i64 (1980+t/33554432 % 128),Value.int IntKind.i64 (t/2097152 % 16),Value.int IntKind.i64 (t/65536 % 32),Value.int IntKind.i64 (t/2048 % 32),Value.int IntKind.i64 (t/32 % 64),Value.int IntKind.i64 (2*(t % 32))] (0,0) _ rfl (((((((HG.out.drewN (n25+n21+n16+n11+n5+n0)).put 0 (Value.int IntKind.i64 (1980+t/33554432 % 128))).put 1 (Value.int IntKind.i64 (t/2097152 % 16))).put 2 (Value.int IntKind.i64 (t/65536 % 32))).put 3 (Value.int IntKind.i64 (t/2048 % 32))).put 4 (Value.int IntKind.i64 (t/32 % 64))).put 5 (Value.int IntKind.i64 (2*(t % 32)))) Tryz.underlying216 rfl (by kernel_rfl)) rfl ⟨rfl,((((((below_drewN HB.out (n25+n21+n16+n11+n5+n0)).setCell (by simp) _).setCell (by simp) _).setCell (by simp) _).setCell (by simp) _).setCell (by simp) _).setCell (by simp) _⟩
theorem right1_any (w:World)(n k:Int)(h0: -9223372036854775808≤n)(h1:n≤9223372036854775807):
  Calls Tryz.prog 194 #[.int .i64 n,.int .i64 k] w fun e w'=>e= .returned (.bool (decide (0≤n∧n<k)))∧w=w':=by
 by_cases h:0≤n
 ·have hd:decide (0≤n∧n<k)=decide (n<k):=by simp [h]
  rw[hd];clear hd;go_enter Tryz.func194,Tryz.ntmps194
  go_wp2_with fail
  go_ret;exact⟨rfl,rfl⟩
 ·have hd:decide (0≤n∧n<k)=false:=by simp [h]
  rw[hd];clear hd;go_enter Tryz.func194,Tryz.ntmps194
  go_wp2_with fail
  go_ret;exact⟨rfl,rfl⟩
def TimeAt (w:World) (g:Nat) (t:TypeId) (x:Dt) (W:World):Prop:=Blk W g t (Dt.v x)∧Below w.heap.size w W
theorem TimeAt.below {w W W':World}{g:Nat}{t:TypeId}{x:Dt}(h:TimeAt w g t x W)(hb:Below W.heap.size W W'):TimeAt w g t x W':=⟨h.1.below hb h.1.lt,h.2.trans (hb.mono h.2.size)⟩
theorem dosRt_any (w:World)(x:Dt)(hx:Dt.In x):
  Calls Tryz.prog 165 #[.agg (Dt.v x)] w fun e w'=>e= .returned (.bool (decide x.Ok))∧Below w.heap.size w w':=by
 have hT:TimeAt w w.heap.size 216 x (w.alloc (Obj.cells (Dt.v x) 216)):=⟨Blk.new _ _ _,(zR _ _).alloc (zN _) _⟩;have HTD:=zH (show TimeAt w w.heap.size 216 x (w.alloc (Obj.cells (Dt.v x) 216)).drew from⟨hT.1,hT.2.drew⟩);have hD:=fun W=>days_any W x.y x.m hx.y0 hx.y1 hx.m0 hx.m1
 have hdl:=daysI_le x.y x.m;have hOk:x.Ok=(1≤x.d∧x.d≤daysI x.y x.m∧0≤x.h∧x.h<24∧0≤x.mi∧x.mi<60∧0≤x.s∧x.s<60∧x.s % 2=0):=rfl;generalize hdy:daysI x.y x.m=dy at*;have HD:=zH hD;clear hD;have HOK:=zH hOk;clear hOk;have h3:=fun W=>right1_any W x.h 24 hx.h0 hx.h1
 have h4:=fun W=>right1_any W x.mi 60 hx.i0 hx.i1
 have h5:=fun W=>right1_any W x.s 60 hx.s0 hx.s1
 have hm2:(x.s.tmod 2==0)=decide (x.s % 2=0):=by rw[Bool.eq_iff_iff,beq_iff_eq,decide_eq_true_iff,←Int.dvd_iff_tmod_eq_zero,←Int.dvd_iff_emod_eq_zero]
 have HM2:=zH hm2;clear hm2;clear hT hdy;have q0:∀n:Held (TimeAt w w.heap.size 216 x),(HeldW n).cell? ⟨w.heap.size,0,none⟩=some (.int .i64 x.y):=fun n=>(HeldW_spec n).1.cell 0
 have q1:∀n:Held (TimeAt w w.heap.size 216 x),(HeldW n).cell? ⟨w.heap.size,1,none⟩=some (.int .i64 x.m):=fun n=>(HeldW_spec n).1.cell 1
 have q2:∀n:Held (TimeAt w w.heap.size 216 x),(HeldW n).cell? ⟨w.heap.size,2,none⟩=some (.int .i64 x.d):=fun n=>(HeldW_spec n).1.cell 2
 have q3:∀n:Held (TimeAt w w.heap.size 216 x),(HeldW n).cell? ⟨w.heap.size,3,none⟩=some (.int .i64 x.h):=fun n=>(HeldW_spec n).1.cell 3
 have q4:∀n:Held (TimeAt w w.heap.size 216 x),(HeldW n).cell? ⟨w.heap.size,4,none⟩=some (.int .i64 x.mi):=fun n=>(HeldW_spec n).1.cell 4
 have q5:∀n:Held (TimeAt w w.heap.size 216 x),(HeldW n).cell? ⟨w.heap.size,5,none⟩=some (.int .i64 x.s):=fun n=>(HeldW_spec n).1.cell 5
 haveI:Nonempty (Held (TimeAt w w.heap.size 216 x)):=held_some HTD.out
 obtain⟨y0,y1,m0,m1,d0,d1,hh0,hh1,i0,i1,s0,s1⟩:=hx;by_cases c0:1≤x.d
 ·skip
  by_cases c1:x.d≤dy
  ·skip
   by_cases c2:0≤x.h∧x.h<24
   ·skip
    have H3:=zH (fun W=>by have k:=h3 W;rw[zE c2] at k;exact k);by_cases c3:0≤x.mi∧x.mi<60
    ·skip
     have H4:=zH (fun W=>by have k:=h4 W;rw[zE c3] at k;exact k);by_cases c4:0≤x.s∧x.s<60
     ·skip
      have H5:=zH (fun W=>by have k:=h5 W;rw[zE c4] at k;exact k);by_cases c5:x.s % 2=0
      ·skip
       (have t2:(x.s.tmod 2==0)=true:=by rw[HM2.out];exact zE c5);have HR:=zH (show decide x.Ok=true by rw[decide_eq_true_iff,HOK.out];omega);(go_enter Tryz.func165,Tryz.ntmps165);(go_wp2_with fail);refine wp_region_class (TimeAt w w.heap.size 216 x) (by kernel_rfl) (by kernel_rfl) HTD.out ?_;(repeat (go_big_quiet_step (first | with_reducible exact held_below (fun _ _=>TimeAt.below) (HD.out _) | with_reducible exact held_same (H3.out _) | with_reducible exact held_same (H4.out _) | with_reducible exact held_same (H5.out _))));refine wpQuiet_nil ?_;rintro _ ⟨n,rfl⟩;(go_wp2_with fail);go_ret;rw[HR.out];exact⟨by first | (simp;done) | (simp;omega),(HeldW_spec n).2⟩
      ·skip
       (have t2:(x.s.tmod 2==0)=false:=by rw[HM2.out];exact zD c5);have HR:=zH (show decide x.Ok=false by rw[decide_eq_false_iff_not,HOK.out];omega);(go_enter Tryz.func165,Tryz.ntmps165);(go_wp2_with fail);refine wp_region_class (TimeAt w w.heap.size 216 x) (by kernel_rfl) (by kernel_rfl) HTD.out ?_;(repeat (go_big_quiet_step (first | with_reducible exact held_below (fun _ _=>TimeAt.below) (HD.out _) | with_reducible exact held_same (H3.out _) | with_reducible exact held_same (H4.out _) | with_reducible exact held_same (H5.out _))));refine wpQuiet_nil ?_;rintro _ ⟨n,rfl⟩;(go_wp2_with fail);go_ret;rw[HR.out];exact⟨by first | (simp;done) | (simp;omega),(HeldW_spec n).2⟩
     ·skip
      have H5:=zH (fun W=>by have k:=h5 W;rw[zD c4] at k;exact k);have HR:=zH (show decide x.Ok=false by rw[decide_eq_false_iff_not,HOK.out];omega);(go_enter Tryz.func165,Tryz.ntmps165);(go_wp2_with fail);refine wp_region_class (TimeAt w w.heap.size 216 x) (by kernel_rfl) (by kernel_rfl) HTD.out ?_;(repeat (go_big_quiet_step (first | with_reducible exact held_below (fun _ _=>TimeAt.below) (HD.out _) | with_reducible exact held_same (H3.out _) | with_reducible exact held_same (H4.out _) | with_reducible exact held_same (H5.out _))));refine wpQuiet_nil ?_;rintro _ ⟨n,rfl⟩;(go_wp2_with fail);go_ret;rw[HR.out];exact⟨by first | (simp;done) | (simp;omega),(HeldW_spec n).2⟩
    ·skip
     have H4:=zH (fun W=>by have k:=h4 W;rw[zD c3] at k;exact k);have HR:=zH (show decide x.Ok=false by rw[decide_eq_false_iff_not,HOK.out];omega);(go_enter Tryz.func165,Tryz.ntmps165);(go_wp2_with fail);refine wp_region_class (TimeAt w w.heap.size 216 x) (by kernel_rfl) (by kernel_rfl) HTD.out ?_;(repeat (go_big_quiet_step (first | with_reducible exact held_below (fun _ _=>TimeAt.below) (HD.out _) | with_reducible exact held_same (H3.out _) | with_reducible exact held_same (H4.out _) | with_reducible exact held_same (H5.out _))));refine wpQuiet_nil ?_;rintro _ ⟨n,rfl⟩;(go_wp2_with fail);go_ret;rw[HR.out];exact⟨by first | (simp;done) | (simp;omega),(HeldW_spec n).2⟩
   ·skip
    have H3:=zH (fun W=>by have k:=h3 W;rw[zD c2] at k;exact k);have HR:=zH (show decide x.Ok=false by rw[decide_eq_false_iff_not,HOK.out];omega);(go_enter Tryz.func165,Tryz.ntmps165);(go_wp2_with fail);refine wp_region_class (TimeAt w w.heap.size 216 x) (by kernel_rfl) (by kernel_rfl) HTD.out ?_;(repeat (go_big_quiet_step (first | with_reducible exact held_below (fun _ _=>TimeAt.below) (HD.out _) | with_reducible exact held_same (H3.out _) | with_reducible exact held_same (H4.out _) | with_reducible exact held_same (H5.out _))));refine wpQuiet_nil ?_;rintro _ ⟨n,rfl⟩;(go_wp2_with fail);go_ret;rw[HR.out];exact⟨by first | (simp;done) | (simp;omega),(HeldW_spec n).2⟩
  ·skip
   have t1f:decide (x.d≤dy)=false:=zD c1;have HR:=zH (show decide x.Ok=false by rw[decide_eq_false_iff_not,HOK.out];omega);(go_enter Tryz.func165,Tryz.ntmps165);(go_wp2_with fail);refine wp_region_class (TimeAt w w.heap.size 216 x) (by kernel_rfl) (by kernel_rfl) HTD.out ?_;(repeat (go_big_quiet_step (first | with_reducible exact held_below (fun _ _=>TimeAt.below) (HD.out _) | with_reducible exact held_same (H3.out _) | with_reducible exact held_same (H4.out _) | with_reducible exact held_same (H5.out _))));refine wpQuiet_nil ?_;rintro _ ⟨n,rfl⟩;(go_wp2_with fail);go_ret;rw[HR.out];exact⟨by first | (simp;done) | (simp;omega),(HeldW_spec n).2⟩
 ·skip
  have t0f:decide (1≤x.d)=false:=zD c0;have HR:=zH (show decide x.Ok=false by rw[decide_eq_false_iff_not,HOK.out];omega);go_enter Tryz.func165,Tryz.ntmps165
  go_wp2_with fail
  refine wp_region_class (TimeAt w w.heap.size 216 x) (by kernel_rfl) (by kernel_rfl) HTD.out ?_;repeat (go_big_quiet_step (first | with_reducible exact held_below (fun _ _=>TimeAt.below) (HD.out _) | with_reducible exact held_same (H3.out _) | with_reducible exact held_same (H4.out _) | with_reducible exact held_same (H5.out _)))
  refine wpQuiet_nil ?_;rintro _ ⟨n,rfl⟩;go_wp2_with fail
  go_ret;rw[HR.out];exact⟨by simp,(HeldW_spec n).2⟩
theorem dosRight_any (w:World)(t:Int)(h0:0≤t)(h1:t<4294967296):
  Calls Tryz.prog 124 #[.int .u32 t] w fun e w'=>e= .returned (.bool (decide (splitD t).Ok))∧Below w.heap.size w w':=by
 have H1:=zH (fun W=>split_any W t h0 h1);have H2:=zH (fun W=>dosRt_any W (splitD t) (splitD_in t h0 h1));generalize splitD t=x at*;go_enter Tryz.func124,Tryz.ntmps124
 go_wp2_with (first | (go_at_call 164;refine(H1.out _).mono ?_;rintro e w1 ⟨rfl,hb1⟩) | (go_at_call 165;refine(H2.out _).mono ?_;rintro e w2 ⟨rfl,hb2⟩))
 go_ret;exact⟨rfl,hb1.trans (hb2.mono hb1.size)⟩
end Go.Proofs.YtnpehjgnplaabaaGreatDoor
namespace Sw
open Go.Proofs.YtnpehjgnplaabaaGreatDoor (partsS)
abbrev NE:=ByteArray×Nd
def ndZ:Nd:=⟨0,0,0,⟨#[]⟩⟩
def nodeR (n:Nd):Int:=
 if ¬n.kind=0∧¬n.kind=1∧¬n.kind=2 then 8
 else if(n.kind=0∧¬(n.mode=0∧n.time=0∧n.data.data.toList=[]))∨(n.kind=2∧(¬n.data.data.toList=[]∨¬n.time=0)) then 1
 else if ¬(0≤n.mode∧n.mode≤511) then 12
 else if n.kind=1∧¬(splitD n.time).Ok then 13
 else if(65000:Int)<n.data.size then 4
 else 0
def getT (xs:List NE) (p:ByteArray):Nd:=(getN ordS p xs).getD ndZ
def holdsT (xs:List NE) (p:ByteArray):Bool:=match (xs.drop (lbN ordS p xs)).find? (fun e=> !decide (e.1=p)) with
 | none=>false
 | some e=>inS (upsS e.1) p
def parentT (xs:List NE) (p:ByteArray):Int:=
 if parentS p=⟨#[]⟩ then 0 else if(getT xs (parentS p)).kind=0 then 7 else if(getT xs (parentS p)).kind=2 then 0 else 8
def mayT (xs:List NE) (p:ByteArray) (n:Nd):Int:=
 if rightL p.data.toList=false then 5
 else if n.kind=0 then 1
 else if ¬nodeR n=0 then nodeR n
 else if ¬parentT xs p=0 then parentT xs p
 else if ¬n.kind=2∧holdsT xs p=true then 8
 else if(getT xs p).kind=0∧500≤xs.length then 4
 else 0
def putT (xs:List NE) (p:ByteArray) (n:Nd):List NE:=if mayT xs p n=0 then putN ordS p n xs else xs
end Sw
namespace Sw
section
variable {κ ν:Type} {c:κ→κ→Int}
theorem up_ext (hO:Ord3 c):∀(l m:List (κ×ν)),Up c l→Up c m→(∀x,x∈l↔x∈m)→l=m
 | [],m,_,_,h=>by
  cases m with
  | nil=>rfl
  | cons e m=>exact absurd ((h e).2 (List.mem_cons_self ..)) (by simp)
 | a::l,[],_,_,h=>absurd ((h a).1 (List.mem_cons_self ..)) (by simp)
 | a::l,b::m,hl,hm,h=>by
  have hab:a=b:=by
   have h1:=(h a).1 (List.mem_cons_self ..);have h2:=(h b).2 (List.mem_cons_self ..);rw[List.mem_cons] at h1 h2;rcases h1 with h1 | h1
   ·exact h1
   ·rcases h2 with h2 | h2
    ·exact h2.symm
    ·have e1:=hm.head a h1;have e2:=hl.head b h2;have:=hO.neg a.1 b.1;omega
  subst hab;congr 1
  refine up_ext hO l m hl.tail hm.tail fun x=>?_
  have hx:=h x;rw[List.mem_cons,List.mem_cons] at hx;constructor
  ·intro hm';rcases hx.1 (.inr hm') with e | e
   ·subst e;have:=hl.head _ hm';have:=hO.self x.1;omega
   ·exact e
  ·intro hm';rcases hx.2 (.inr hm') with e | e
   ·subst e;have:=hm.head _ hm';have:=hO.self x.1;omega
   ·exact e
end
end Sw
namespace Sw
open Go
open Go.Proofs.YtnpehjgnplaabaaGreatDoor (partsS)
section
variable {κ ν:Type} {c:κ→κ→Int}
def stepG (c:κ→κ→Int) (k:κ) (v:ν) (s:Bool×List (κ×ν)) (x:κ×ν):Bool×List (κ×ν):=
 let s1:=if s.1=false∧0≤c x.1 k then(true,s.2++[(k,v)]) else s
 if c x.1 k=0 then s1 else(s1.1,s1.2++[x])
def setG (c:κ→κ→Int) (k:κ) (v:ν) (l:List (κ×ν)):List (κ×ν):=let s:=l.foldl (stepG c k v) (false,[]);if s.1=true then s.2 else s.2++[(k,v)]
theorem stepG_len (k:κ)(v:ν)(s:Bool×List (κ×ν))(x:κ×ν):(stepG c k v s x).2.length≤s.2.length+2:=by
 unfold stepG;dsimp only
 split<;>split<;>simp
theorem foldG_len (k:κ)(v:ν):∀(l:List (κ×ν)) (s:Bool×List (κ×ν)),(l.foldl (stepG c k v) s).2.length≤s.2.length+2*l.length
 | [],s=>by simp
 | x::l,s=>by
  have:=foldG_len k v l (stepG c k v s x);have:=stepG_len (c:=c) k v s x;simp only[List.foldl_cons,zI];omega
theorem foldG_step (k:κ)(v:ν)(l:List (κ×ν))(i:Nat)(h:i<l.length):(l.take (i+1)).foldl (stepG c k v) (false,[])=stepG c k v ((l.take i).foldl (stepG c k v) (false,[])) l[i]:=by
 rw[zG h,List.foldl_append];rfl
theorem foldG_true (k:κ)(v:ν):∀(l:List (κ×ν)) (o:List (κ×ν)),l.foldl (stepG c k v) (true,o)=(true,o++l.filter fun e=> !decide (c e.1 k=0))
 | [],o=>by simp
 | x::l,o=>by
  rw[List.foldl_cons];have h1:stepG c k v (true,o) x=(true,if c x.1 k=0 then o else o++[x]):=by
   unfold stepG;by_cases hx:c x.1 k=0<;>simp [hx]
  rw[h1,foldG_true k v l];by_cases hx:c x.1 k=0
  ·rw[if_pos hx,List.filter_cons_of_neg (by simpa using hx)]
  ·rw[if_neg hx,List.filter_cons_of_pos (by simpa using hx),zV];rfl
theorem foldG_false (hO:Ord3 c)(k:κ)(v:ν):∀(l:List (κ×ν)) (o:List (κ×ν)),Up c l→(let s:=l.foldl (stepG c k v) (false,o);if s.1=true then s.2 else s.2++[(k,v)])=o++putN c k v l
 | [],o,_=>by simp [putN]
 | x::l,o,hu=>by
  rw[List.foldl_cons];unfold putN;by_cases h1:0≤c x.1 k
  ·have hs:stepG c k v (false,o) x=(true,if c x.1 k=0 then o++[(k,v)] else o++[(k,v)]++[x]):=by
    unfold stepG;by_cases hx:c x.1 k=0<;>simp [hx,h1]
   rw[hs,foldG_true];have hge:l.filter (fun e=> !decide (c e.1 k=0))=l:=List.filter_eq_self.2 fun y hy=>by
    have h2:=hu.head y hy;have h3:¬c y.1 k=0:=fun e=>by
     have:=hO.zero _ _ e;rw[this] at h2;omega
    simpa using h3
   (dsimp only);rw[if_pos rfl,hge];(have h2:¬c x.1 k<0:=by omega);by_cases hx:c x.1 k=0
   ·simp [hx]
   ·simp [hx,h2]
  ·have hs:stepG c k v (false,o) x=(false,o++[x]):=by
    unfold stepG;(have hx:¬c x.1 k=0:=by omega);simp [hx,h1]
   rw[hs,foldG_false hO k v l _ hu.tail,if_pos (by omega),zV];rfl
theorem setG_eq (hO:Ord3 c)(k:κ)(v:ν)(l:List (κ×ν))(h:Up c l):setG c k v l=putN c k v l:=by
 have:=foldG_false hO k v l [] h;rw[List.nil_append] at this;exact this
end
def Paths (xs:List NE):Prop:=∀e∈xs,rightL e.1.data.toList=true
theorem Paths.put {xs:List NE}(h:Paths xs){p:ByteArray}(hp:rightL p.data.toList=true)(n:Nd):Paths (putN ordS p n xs):=fun e he=>by
 rcases put_mem p n xs e he with rfl | he
 ·exact hp
 ·exact h e he
theorem Paths.ofPut {xs:List NE}(h:Paths xs)(p:ByteArray)(n:Nd):Paths (putT xs p n):=by
 unfold putT;by_cases h0:mayT xs p n=0
 ·rw[if_pos h0];cases hr:rightL p.data.toList with
  | true=>exact h.put hr n
  | false=>
   unfold mayT at h0;rw[if_pos hr] at h0;cases h0
 ·rw[if_neg h0];exact h
theorem holds_any:∀(xs:List NE) (p:ByteArray),Up ordS xs→Paths xs→holdsT xs p=xs.any fun e=>inS (upsS e.1) p
 | [],p,_,_=>rfl
 | x::xs,p,hu,hp=>by
  have hno:∀e:NE,ordS e.1 p≤0→inS (upsS e.1) p=false:=fun e he=>by
   cases hq:inS (upsS e.1) p with
   | false=>rfl
   | true=>
    have h1:=ups_order ((inS_iff _ _).1 hq);have h2:=ordS_neg p e.1;omega
  have ih:=holds_any xs p hu.tail (fun e he=>hp e (List.mem_cons_of_mem _ he));unfold holdsT lbN;by_cases h1:ordS x.1 p<0
  ·rw[if_pos h1,List.drop_succ_cons,List.any_cons,hno x (by omega),Bool.false_or,←ih];rfl
  ·rw[if_neg h1,List.drop_zero];by_cases h0:ordS x.1 p=0
   ·have hxp:x.1=p:=ordS_zero h0;rw[List.any_cons,hno x (by omega),Bool.false_or,List.find?_cons_of_neg (by simp [hxp])];cases xs with
    | nil=>rfl
    | cons y ys=>
     have h2:=hu.head y (List.mem_cons_self ..);rw[hxp] at h2;(have hyp:¬y.1=p:=fun e=>by rw[e,ordS_ord.self] at h2;omega);rw[List.find?_cons_of_pos (by simp [hyp])];have hn:=ordS_neg p y.1;unfold holdsT lbN at ih;rw[if_neg (by omega),List.drop_zero,List.find?_cons_of_pos (by simp [hyp])] at ih;exact ih
   ·(have hxp:¬x.1=p:=fun e=>h0 (by rw[e];exact ordS_ord.self p));rw[List.find?_cons_of_pos (by simp [hxp]),List.any_cons];(show inS (upsS x.1) p=(inS (upsS x.1) p||_));cases hx:inS (upsS x.1) p with
    | true=>rfl
    | false=>
     rw[Bool.false_or,eq_comm,List.any_eq_false];intro e he hq;have hq1:=(inS_iff _ _).1 hq;have h3:=hu.head e he;have e1:=ordS_three x.1 e.1;have e2:=ordS_three x.1 p;have hn:=ordS_neg x.1 p;have:=between hq1 (hp x (List.mem_cons_self ..)) (by omega) (by omega);rw[(inS_iff _ _).2 this] at hx;cases hx
theorem parent_last (p:ByteArray):(upsS p=[]∧parentS p=⟨#[]⟩)∨(∃h:upsS p≠[],(upsS p).getLast h=parentS p∧¬parentS p=⟨#[]⟩):=by
 have hlen:=upsS_len p;rcases Nat.lt_or_ge (partsS p).length 2 with h | h
 ·left
  have h1:upsS p=[]:=List.length_eq_zero_iff.1 (by omega);refine⟨h1,?_⟩;unfold parentS;have:(partsS p).dropLast=[]:=List.length_eq_zero_iff.1 (by rw[List.length_dropLast];omega);rw[this];rfl
 ·right
  have hne:upsS p≠[]:=fun e=>by rw[e] at hlen;simp at hlen;omega
  have hk:(upsS p).length-1<(upsS p).length:=by omega
  have hlast:(upsS p).getLast hne=(upsS p)[(upsS p).length-1]:=List.getLast_eq_getElem hne;have heq:(upsS p).getLast hne=parentS p:=by
   rw[hlast,upsS_at];unfold parentS;rw[List.dropLast_eq_take,show(upsS p).length-1+1=(partsS p).length-1 by omega]
  refine⟨hne,heq,fun e=>?_⟩;have hst:=(ups_step p _ hk).2.2;rw[←hlast,heq,e] at hst;exact absurd hst (by decide)
end Sw
namespace Go.Proofs.YtnpehjgnplaabaaGreatDoor
open Go Go.RowKit
open Sw
theorem nodeMode_any (w:World)(m:Int):
  Calls Tryz.prog 123 #[.int .i64 m] w fun e w'=>e= .returned (.bool (decide (0≤m∧m≤511)))∧w=w':=by
 by_cases h1:0≤m
 ·by_cases h2:m≤511
  ·have hd:decide (0≤m∧m≤511)=true:=by rw[decide_eq_true_eq];exact⟨h1,h2⟩
   rw[hd];(go_enter Tryz.func123,Tryz.ntmps123);(go_wp2_with fail);go_ret;exact⟨rfl,rfl⟩
  ·have hd:decide (0≤m∧m≤511)=false:=by rw[decide_eq_false_iff_not];omega
   rw[hd];(go_enter Tryz.func123,Tryz.ntmps123);(go_wp2_with fail);go_ret;exact⟨rfl,rfl⟩
 ·have hd:decide (0≤m∧m≤511)=false:=by rw[decide_eq_false_iff_not];omega
  rw[hd];go_enter Tryz.func123,Tryz.ntmps123
  go_wp2_with fail
  go_ret;exact⟨rfl,rfl⟩
theorem nodeRight_any (w:World)(n:Nd)(hk:¬n.kind=0)(ht0:0≤n.time)(ht1:n.time<4294967296)(hd:n.data.size≤maxLen):
  Calls Tryz.prog 81 #[.agg n.c] w fun e w'=>e= .returned (.int .i64 (nodeR n))∧Below w.heap.size w w':=by
 obtain⟨kd,md,tm,dt⟩:=n;simp only at hk ht0 ht1 hd;unfold maxLen at hd;have hb0:=(zR w.heap.size w).alloc (zN _) (.cells #[.int .i64 kd,.int .i64 md,.int .u32 tm,.string dt] 57);have hB0:=Blk.new w 57 #[.int .i64 kd,.int .i64 md,.int .u32 tm,.string dt];have H0:=zH (zA hb0 hB0);clear hb0 hB0;have HM:=zH (fun W=>nodeMode_any W md);have e0:(kd==0)=false:=by rw[zB];exact hk
 have e0':(kd !=0)=true:=by rw[bne_iff_ne];exact hk
 unfold Nd.c;have hR:nodeR ⟨kd,md,tm,dt⟩=if ¬kd=1∧¬kd=2 then 8 else if kd=2∧(¬dt.data.toList=[]∨¬tm=0) then 1 else if ¬(0≤md∧md≤511) then 12 else if kd=1∧¬(splitD tm).Ok then 13 else if(65000:Int)<dt.size then 4 else 0:=by
  unfold nodeR;simp [hk]
 rw[hR];clear hR;by_cases h1:kd=1
 ·subst h1;rw[if_neg (by omega),if_neg (by omega)];have HD:=zH (fun W=>dosRight_any W tm ht0 ht1);by_cases hm:0≤md∧md≤511
  ·rw[zE hm] at HM;rw[if_neg (fun h=>h hm)];by_cases hk2:(splitD tm).Ok
   ·rw[zE hk2] at HD;rw[if_neg (fun h=>h.2 hk2)];clear hm hk hk2;(by_cases hs:(65000:Int)<dt.size);all_goals
     (first | rw[if_pos hs] | rw[if_neg hs]);(go_enter Tryz.func81,Tryz.ntmps81);(go_wp2_with fail);refine(HM.out _).mono ?_;rintro e w1 ⟨rfl,rfl⟩;(go_wp2_with fail);refine(HD.out _).mono ?_;rintro e w2 ⟨rfl,hb2⟩;have x3:=(H0.out.2.below hb2 H0.out.2.lt).cell 3;(simp at x3);have HF:=zH (H0.out.1.trans (hb2.mono H0.out.1.size));clear hb2;(go_wp2_with fail);go_ret;exact⟨rfl,HF.out⟩
   ·rw[zD hk2] at HD;rw[if_pos ⟨rfl,hk2⟩];clear hm hk hk2;(go_enter Tryz.func81,Tryz.ntmps81);(go_wp2_with fail);refine(HM.out _).mono ?_;rintro e w1 ⟨rfl,rfl⟩;(go_wp2_with fail);refine(HD.out _).mono ?_;rintro e w2 ⟨rfl,hb2⟩;have HF:=zH (H0.out.1.trans (hb2.mono H0.out.1.size));clear hb2;(go_wp2_with fail);go_ret;exact⟨rfl,HF.out⟩
  ·rw[zD hm] at HM;rw[if_pos hm];clear hm hk;go_enter Tryz.func81,Tryz.ntmps81
   (go_wp2_with fail);refine(HM.out _).mono ?_;rintro e w1 ⟨rfl,rfl⟩;(go_wp2_with fail);go_ret;exact⟨rfl,H0.out.1⟩
 ·have e1:(kd==1)=false:=by rw[zB];exact h1
  have e1':(kd !=1)=true:=by rw[bne_iff_ne];exact h1
  by_cases h2:kd=2
  ·subst h2;rw[if_neg (by omega)];by_cases hx:dt.data.toList=[]
   ·by_cases hy:tm=0
    ·subst hy;rw[if_neg (by rintro ⟨_,h⟩;rcases h with h | h<;>simp_all)];(have hdz:dt=⟨#[]⟩:=by cases dt with | mk d=>cases d with | mk l=>simp at hx;subst hx;rfl);subst hdz;by_cases hm:0≤md∧md≤511
     ·rw[zE hm] at HM;rw[if_neg (fun h=>h hm),if_neg (by omega),if_neg (by decide)];clear hm hk h1 e1 e1' hx;(go_enter Tryz.func81,Tryz.ntmps81);(go_wp2_with fail);refine(HM.out _).mono ?_;rintro e w1 ⟨rfl,rfl⟩;(go_wp2_with fail);go_ret;exact⟨rfl,H0.out.1⟩
     ·rw[zD hm] at HM;rw[if_pos hm];clear hm hk h1 e1 e1' hx;(go_enter Tryz.func81,Tryz.ntmps81);(go_wp2_with fail);refine(HM.out _).mono ?_;rintro e w1 ⟨rfl,rfl⟩;(go_wp2_with fail);go_ret;exact⟨rfl,H0.out.1⟩
    ·rw[if_pos ⟨rfl,.inr hy⟩];(have hdz:dt=⟨#[]⟩:=by cases dt with | mk d=>cases d with | mk l=>simp at hx;subst hx;rfl);subst hdz;(have t0:(tm==0)=false:=by rw[zB];exact hy);(have t1:(tm !=0)=true:=by rw[bne_iff_ne];exact hy);clear hk h1 e1 e1' hx hy;(go_enter Tryz.func81,Tryz.ntmps81);(go_wp2_with fail);go_ret;exact⟨rfl,H0.out.1⟩
   ·rw[if_pos ⟨rfl,.inl hx⟩];(have s0:dt.data.toList.isEmpty=false:=by cases hl:dt.data.toList with | nil=>exact absurd hl hx | cons a l=>rfl);(have s1:(!dt.data.toList.isEmpty)=true:=by rw[s0];rfl);(have s2:(dt.data.toList==[])=false:=by rw[zB];exact hx);(have s3:dt.toList.isEmpty=false:=by rw[ByteArray.toList_eq];exact s0);clear hk h1 e1 e1' hx;(go_enter Tryz.func81,Tryz.ntmps81);(go_wp2_with fail);go_ret;exact⟨rfl,H0.out.1⟩
  ·rw[if_pos ⟨h1,h2⟩];have e2:(kd==2)=false:=by rw[zB];exact h2
   (have e2':(kd !=2)=true:=by rw[bne_iff_ne];exact h2);clear hk h1 h2;(go_enter Tryz.func81,Tryz.ntmps81);(go_wp2_with fail);go_ret;exact⟨rfl,H0.out.1⟩
end Go.Proofs.YtnpehjgnplaabaaGreatDoor
namespace Sw
open Go Go.RowKit
section
variable {P:Program}
theorem Blk.setRow {w:World}{g:Nat}{t:TypeId}{cur:Array Value}(h:Blk w g t cur)(cs:Array Value):Blk (w.setRow g cs) g t cs:=setRow_heap w g cur cs t (0,0) h
theorem grown_setRow (w:World)(g:Nat)(cs:Array Value):w.grownBy (w.setRow g cs) (some g):=⟨rfl,rfl,rfl,by simp,fun k _ hk=>setRow_other w g k _ (fun e=>hk (by rw[e]))⟩
theorem Blk.shape {w:World}{g:Nat}{t:TypeId}{cs:Array Value}(h:Blk w g t cs):w.shape? g=some (t,cs.size):=by unfold Blk at h;simp [World.shape?,h]
theorem Blk.at {w:World}{g:Nat}{t:TypeId}{cs:Array Value}(h:Blk w g t cs)(o:Nat):∀j v,(cs.toList.drop o)[j]? =some v→w.cell? ((⟨g,o,none⟩:Addr).add j)=some v:=fun j v hj=>by
 rw[add_mk,h.cell,←Array.getElem?_toList,←hj,List.getElem?_drop]
theorem run_copy_rows (w:World)(dT sT ty elem:TypeId)(size g o dLen dCap:Nat)(a:Addr)(sLen sCap:Nat)(cur:Array Value)(t:TypeId)(cs:List Value)(k:Nat)
  (hu:P.underlying dT=some (.slice elem)) (hs:(P.info? elem).map (·.size)=some size) (hg:Blk w g t cur) (hk:Nat.min sLen dLen=k) (hn:cs.length=k*size)
  (hsrc:∀j v,cs[j]? =some v→w.cell? (a.add j)=some v) (hfit:o+cs.length≤cur.size) (h1:∀v∈cs,v.oneCell'=true):
  (Builtin.copy_ #[dT,sT] ty #[.slice (some ⟨g,o,none⟩) dLen dCap,.slice (some a) sLen sCap]).run P w=
   .ok (goInt k) (w.setRow g (cur.toList.take o++cs++cur.toList.drop (o+cs.length)).toArray):=by
 have hl:=run_loadCells_list (P:=P) w a cs hsrc;have hst:=run_storeCells_at P g o t cs 0 cur w hg (by simpa using hfit) h1;cases hq:P.info? elem with
 | none=>simp [hq] at hs
 | some i=>
  have hi:i.size=size:=by simpa [hq] using hs
  simp [Builtin.copy_,run_underlying hu,Builtin.lenOf,Builtin.firstCells,Go.sizeOf,typeInfo,hq,hi,hk,←hn,hl,hst]
theorem run_clear_rows (w:World)(t e:TypeId)(z:Value)(size:Nat)(ht:P.underlying t=some (.slice e))(hv:∀w,(zeroValue e).run P w= .ok z w)(hz:z.cells.size=size)(h1:∀u∈z.cells.toList,u.oneCell'=true)(g o n c:Nat)(hn:0<n)
  (cur:Array Value) (te:TypeId) (hg:Blk w g te cur) (hfit:o+n*size≤cur.size):
  ∃cur',(∀ty,(Builtin.clear_ #[t] ty #[.slice (some ⟨g,o,none⟩) n c]).run P w= .ok (.tuple #[]) (w.setRow g cur'))∧cur'.size=cur.size∧cur'.toList.take o=cur.toList.take o:=by
 have hl:(Builtin.zeroCells z.cells n).toList.length=n*size:=by rw[Array.length_toList,size_zeroCells,hz]
 have ho:∀v∈(Builtin.zeroCells z.cells n).toList,v.oneCell'=true:=fun v hv=>by
  simp only[Builtin.zeroCells,Array.toList_map,List.mem_map] at hv;obtain⟨i,hi,rfl⟩:=hv;have hi':i<n*z.cells.size:=by simpa using hi
  have hz0:0<z.cells.size:=by
   rcases Nat.eq_zero_or_pos z.cells.size with h0 | h0
   ·rw[h0] at hi';omega
   ·exact h0
  rw[getElem!_pos z.cells (i % z.cells.size) (Nat.mod_lt _ hz0)];exact h1 _ (by simp)
 have hst:=run_storeCells_at P g o te (Builtin.zeroCells z.cells n).toList 0 cur w hg (by rw[hl];simpa using hfit) ho;refine⟨(cur.toList.take o++(Builtin.zeroCells z.cells n).toList++cur.toList.drop (o+(Builtin.zeroCells z.cells n).toList.length)).toArray,?_,?_,?_⟩
 ·intro ty;obtain⟨m,rfl⟩:∃m,n=m+1:=⟨n-1,by omega⟩;simp only[Nat.add_zero] at hst;simp [Builtin.clear_,run_underlying ht,hv,hst]
 ·simp only[List.size_toArray,zF,zL,List.length_drop,hl,Array.length_toList];omega
 ·rw[List.toList_toArray,zV,List.take_append_of_le_length (by rw[zL,Array.length_toList];omega),List.take_take,Nat.min_self]
theorem slice_from (t e:TypeId)(size:Nat)(ht:P.underlying t=some (.slice e))(hel:P.elem t=e)(hsz:∀w,(Go.sizeOf e).run P w= .ok size w)(b off N c n:Nat)(l:Int)(hl:l=n)(hn:n≤N):
  ∃a,(∀W,(Instr.slice t (.slice (some ⟨b,off,none⟩) N c) (some (.int .i64 l)) none none).run P W= .ok (.slice (some a) (N-n) (c-n)) W)∧(n<c→a=⟨b,off+n*size,none⟩)∧a.block=b∧a.spot=none:=by
 subst hl;refine⟨if c=n then⟨b,off,none⟩ else⟨b,off+n*size,none⟩,fun W=>?_,fun h=>if_neg (by omega),by split<;>rfl,by split<;>rfl⟩;rw[run_slice_l (P:=P) (w:=W) t (some ⟨b,off,none⟩) N c (by rw[hel];exact ht) .i64 (n:Int) (by omega) (by omega),hel,hsz];simp only[Result.andThen,sliced,Int.toNat_natCast];congr 2
 by_cases h:c=n
 ·rw[if_pos h,if_pos h]
 ·rw[if_neg h,if_neg h];simp [add_mk]
theorem wpList_load_row_g {ops:Array Oper}{rest:List Oper}{op:Oper}{a:Act}{w:World}{Q:Exit→Act→World→Prop}(hw:Region.wanted op (yielded ops a.tmps)=true)(ty:TypeId)(x:Operand)(ho:op.op= .load ty x)
  (b o:Nat) (hx:a.eval x= .pointer (some ⟨b,o,none⟩)) (cs:List Value) (d:TypeDesc) (hc:w.rangeAt b o cs)
  (hu:P.underlying ty=some d) (hd:d.isRow=true) (hi:(P.info? ty).map (·.size)=some cs.length)
  (h:wpList P ops Q rest (a.put op.dst (.agg cs.toArray)) w):wpList P ops Q (op::rest) a w:=
 wpList_step fun K hK=>by
  rw[if_pos hw];exact wp_load_mid ty x ho b o hx cs d hc hu hd hi (hK _ _ h)
end
theorem ins_cells (cur cx:List Value)(a b s:Nat)(hab:a≤b)(hb:b+s≤cur.length)(hx:cx.length=s):
  let cs:=(cur.take b).drop a
  let c1:=cur.take (a+s)++cs++cur.drop (a+s+cs.length)
  let c2:=c1.take a++cx++c1.drop (a+cx.length)
  c2.take (b+s)=cur.take a++cx++cs∧c2.length=cur.length∧c1.length=cur.length∧cs.length=b-a:=by
 intro cs c1 c2;have hcs:cs.length=b-a:=by simp only[cs,List.length_drop,zL];omega
 have h1:c1.length=cur.length:=by simp only[c1,zF,zL,List.length_drop,hcs];omega
 have h2:c1.take a=cur.take a:=by
  simp only[c1,zV];rw[List.take_append_of_le_length (by rw[zL];omega),List.take_take];congr 1;omega
 have h3:c1.drop (a+s)=cs++cur.drop (a+s+cs.length):=by
  simp only[c1,zV];rw[List.drop_append_of_le_length (by rw[zL];omega)];rw[show(cur.take (a+s)).drop (a+s)=[] from List.drop_eq_nil_of_le (by rw[zL];omega),List.nil_append]
 refine⟨?_,?_,h1,hcs⟩
 ·simp only[c2];rw[h2,hx,h3,←zV];exact List.take_left' (by simp only[zF,zL,hcs,hx];omega)
 ·simp only[c2,zF,zL,List.length_drop,h1,hx];omega
theorem ins_cells2 (R cx cs:List Value)(a s:Nat)(hb:a+s+cs.length≤R.length)(hx:cx.length=s):
  let r1:=R.take a++cx++R.drop (a+cx.length)
  let r2:=r1.take (a+s)++cs++r1.drop (a+s+cs.length)
  r2.take (a+s+cs.length)=R.take a++cx++cs∧r2.length=R.length∧r1.length=R.length:=by
 intro r1 r2;have h1:r1.length=R.length:=by simp only[r1,zF,zL,List.length_drop,hx];omega
 have h2:r1.take (a+s)=R.take a++cx:=by
  simp only[r1];exact List.take_left' (by simp only[zF,zL,hx];omega)
 refine⟨?_,?_,h1⟩
 ·simp only[r2];rw[h2];exact List.take_left' (by simp only[zF,zL,hx];omega)
 ·simp only[r2,zF,zL,List.length_drop,h1];omega
theorem flat_take {α β:Type}{E:α→List β}{size:Nat}(hE:∀x,(E x).length=size):∀(l:List α) (i:Nat),(l.take i).flatMap E=(l.flatMap E).take (i*size)
 | [],i=>by simp
 | a::l,0=>by simp
 | a::l,i+1=>by
  rw[List.take_succ_cons,List.flatMap_cons,List.flatMap_cons,flat_take hE l i,show(i+1)*size=(E a).length+i*size by rw[hE,Nat.add_mul];omega,List.take_length_add_append]
theorem flat_drop {α β:Type}{E:α→List β}{size:Nat}(hE:∀x,(E x).length=size):∀(l:List α) (i:Nat),(l.drop i).flatMap E=(l.flatMap E).drop (i*size)
 | [],i=>by simp
 | a::l,0=>by simp
 | a::l,i+1=>by
  rw[List.drop_succ_cons,List.flatMap_cons,flat_drop hE l i,show(i+1)*size=(E a).length+i*size by rw[hE,Nat.add_mul];omega,List.drop_length_add_append]
theorem own_wide {w:World}{base base':Nat}{e:TypeId}{size n:Nat}{v:Value}{xs:List Value}(h:w.ownsRow base e size v n xs)(hb:base'≤base):w.ownsRow base' e size v n xs:=by
 refine⟨h.1,?_⟩;rcases h.2 with h0 | ⟨g,cap,cur,hv,hg,h1⟩
 ·exact .inl h0
 ·exact .inr ⟨g,cap,cur,hv,zT hb hg,h1⟩
theorem SlV_of_any {w:World}{base:Nat}{e:TypeId}{size n:Nat}{v:Value}{xs:List Value}(h:w.ownsRow base e size v n xs):∃A c,v= .slice A n c∧n≤c∧c≤maxLen∧True:=by
 rcases h.2 with ⟨rfl,rfl⟩ | ⟨g,cap,cur,rfl,_,_,h1,h2,_⟩
 ·exact⟨none,0,rfl,zN _,by simp [maxLen],trivial⟩
 ·exact⟨_,cap,rfl,h1,h2,trivial⟩
theorem own_setCells {base:Nat}{e:TypeId}{size n g cap:Nat}:∀(us:List Value) (o:Nat) (w:World) (xs:List Value),w.ownsRow base e size (.slice (some ⟨g,0,none⟩) n cap) n xs→o+us.length≤n*size→
  (w.setCells g o us).ownsRow base e size (.slice (some ⟨g,0,none⟩) n cap) n (xs.take o++us++xs.drop (o+us.length))
 | [],o,w,xs,h,_=>by
  rw[World.setCells,List.append_nil,List.length_nil,Nat.add_zero,List.take_append_drop];exact h
 | u::us,o,w,xs,h,hl=>by
  rw[zI] at hl;have h1:=own_setCells us (o+1) (w.setCell ⟨g,o,none⟩ u) (xs.set o u) (h.stored o u).1 (by omega);rw[World.setCells];have e1:xs.take o++u::us++xs.drop (o+(u::us).length)=(xs.set o u).take (o+1)++us++(xs.set o u).drop (o+1+us.length):=by
   have hx:=h.1;have:=list_seg_step xs o u us (by omega);rw[this,zI]
  rw[e1];exact h1
theorem grown_setCells {a:World}{g:Nat}:∀(us:List Value) (o:Nat) (w:World),a.grownBy w (some g)→a.grownBy (w.setCells g o us) (some g)
 | [],_,_,h=>h
 | u::us,o,w,h=>by rw[World.setCells];exact grown_setCells us (o+1) _ (grown_put h o u)
theorem flat_put {α β:Type}{E:α→List β}{size:Nat}(hE:∀x,(E x).length=size)(l:List α)(i:Nat)(h:i<l.length)(x:α)(o:Nat)(us:List β)(ho:o+us.length≤size)(hx:E x=(E l[i]).take o++us++(E l[i]).drop (o+us.length)):
  (l.flatMap E).take (i*size+o)++us++(l.flatMap E).drop (i*size+o+us.length)=(l.set i x).flatMap E:=by
 have hl:l=l.take i++l[i]::l.drop (i+1):=by rw[←List.drop_eq_getElem_cons h,List.take_append_drop]
 have hP:((l.take i).flatMap E).length=i*size:=by rw[flat_len hE,zL,Nat.min_eq_left (Nat.le_of_lt h)]
 have hF:l.flatMap E=(l.take i).flatMap E++(E l[i]++(l.drop (i+1)).flatMap E):=by
  conv=>lhs;rw[hl]
  rw[List.flatMap_append,List.flatMap_cons]
 rw[hF,List.set_eq_take_append_cons_drop,if_pos h,List.flatMap_append,List.flatMap_cons,hx];rw[←hP,List.take_length_add_append,Nat.add_assoc,List.drop_length_add_append,List.take_append_of_le_length (by rw[hE];omega),List.drop_append_of_le_length (by rw[hE];omega)];simp only[zV]
theorem grown_sub {a w w':World}{row row':Option Nat}(h:a.grownBy w row)(k:w.grownBy w' row')(hr:∀g,row'=some g→a.heap.size≤g):a.grownBy w' row:=
 ⟨k.os.trans h.os,k.tape.trans h.tape,k.output.trans h.output,zT h.size k.size,fun i hi hn=>(k.block i (zQ hi h.size) (fun e=>by have:=hr i e.symm;omega)).trans (h.block i hi hn)⟩
theorem SlOf.range {w:World}{size:Nat}{α:Type}{E:α→List Value}{b off:Nat}{l:List α}(h:SlOf w size E (some ⟨b,off,none⟩) l)(hE:∀x,(E x).length=size)(i:Nat)(hi:i<l.length):w.rangeAt b (off+i*size) (E l[i]):=by
 obtain⟨b',off',hA,_,hc⟩:=h (by omega);have hA':(⟨b,off,none⟩:Addr)=⟨b',off',none⟩:=Option.some.inj hA;have hb:b=b':=congrArg Addr.block hA';have ho:off=off':=congrArg Addr.off hA';subst hb;subst ho;intro j v hj;have hjl:j<size:=by rw[←hE l[i]];exact(List.getElem?_eq_some_iff.1 hj).1
 rw[hc i hi j hjl,hj]
theorem own_form {w:World}{base:Nat}{e:TypeId}{size n:Nat}{v:Value}{xs:List Value}(h:w.ownsRow base e size v n xs)(hn:0<n):
  ∃g cap cur,v= .slice (some ⟨g,0,none⟩) n cap∧base≤g∧Blk w g e cur∧n≤cap∧cap≤maxLen∧cur.size=cap*size∧cur.toList.take (n*size)=xs:=by
 rcases h.2 with ⟨_,h0⟩ | ⟨g,cap,cur,hv,hb,hg,h1,h2,h3,h4⟩
 ·omega
 ·exact⟨g,cap,cur,hv,hb,hg,h1,h2,h3,h4⟩
theorem own_mk {w:World}{base:Nat}{e:TypeId}{size n g cap:Nat}{cur:Array Value}{xs:List Value}(hb:base≤g)(hg:Blk w g e cur)(h1:n≤cap)(h2:cap≤maxLen)(h3:cur.size=cap*size)(h4:cur.toList.take (n*size)=xs):
  w.ownsRow base e size (.slice (some ⟨g,0,none⟩) n cap) n xs:=by
 refine⟨?_,.inr ⟨g,cap,cur,rfl,hb,hg,h1,h2,h3,h4⟩⟩;rw[←h4,zL,Array.length_toList,h3];have:n*size≤cap*size:=Nat.mul_le_mul_right _ h1;omega
end Sw
namespace Go.Proofs.YtnpehjgnplaabaaGreatDoor
open Go Go.RowKit
open Sw
theorem infoESN:(Tryz.prog.info? 146).map (fun i=>(i.zero,i.size,i.bytes))=some (some (.agg #[.string ⟨#[]⟩,.int .i64 0,.int .i64 0,.int .u32 0,.string ⟨#[]⟩]),5,56):=by kernel_rfl
theorem slCloneSN_any {α:Type}(E:α→List Value)(hE:∀x,(E x).length=5)(hE1:∀x,∀u∈E x,u.oneCell'=true)(w:World)(v:Value)(l:List α)(h:SlV w 5 E v l)(hl:l.length≤1000000):
  Calls Tryz.prog 85 #[v] w fun e w'=>∃v',e= .returned v'∧w'.ownsRow w.heap.size 146 5 v' l.length (l.flatMap E)∧Below w.heap.size w w':=by
 obtain⟨A,c,rfl,hc1,hc2,hsl⟩:=h;cases A with
 | none=>
  have h0:l=[]:=by
   cases l with
   | nil=>rfl
   | cons a l=>obtain⟨b,off,h,_⟩:=hsl (by simp);cases h
  subst h0;have hno:=World.ownsRow_nil w w.heap.size 146 5;have HN:=zH hno;clear hno hsl;have hnl:∀W n c,(binOp .eql 137 (.slice none n c) (.slice none 0 0)).run Tryz.prog W= .ok (.bool true) W:=fun W n c=>Lib.run_eql_slice_nil W 137 146 none n c 0 0 Tryz.underlying137
  go_enter Tryz.func85,Tryz.ntmps85
  go_wp2_with fail
  go_ret;exact⟨_,rfl,HN.out,zR _ _⟩
 | some a=>
  obtain⟨i0,hi,hz0,hz1,hz2⟩:=info_parts infoESN;have hlen:(l.flatMap E).length=l.length*5:=flat_len hE l;have hone:∀u∈l.flatMap E,u.oneCell'=true:=fun u hu=>by
   rw[List.mem_flatMap] at hu;obtain⟨x,_,hx⟩:=hu;exact hE1 x u hx
  have hnews:∀j u,(l.flatMap E)[j]? =some u→w.cell? (a.add j)=some u:=fun j u hj=>by
   have hjl:=(List.getElem?_eq_some_iff.1 hj).1;rw[hlen] at hjl;obtain⟨b,off,hA,_,hcs⟩:=hsl (by omega);rw[Option.some.inj hA,add_mk];(have hq:j/5<l.length:=by omega);have hr:j % 5<5:=Nat.mod_lt _ (by omega);(have hd:j/5*5+j % 5=j:=by omega);have h1:=flat_get hE l (j/5) hq (j % 5) hr;rw[hd,hj] at h1;have h2:=hcs (j/5) hq (j % 5) hr;rw[Nat.add_assoc,hd] at h2;rw[h2,←h1]
  have hnews1:∀(o:Obj) j u,(l.flatMap E)[j]? =some u→(w.alloc o).cell? (a.add j)=some u:=fun o j u hj=>by
   have h1:=hnews j u hj;have hlt:=World.block_lt_of_cell? w _ h1;rw[←h1];exact((zR w.heap.size w).alloc (zN _) o).cell hlt
  have hown:=World.ownsRow_made (e:=146) (size:=5) (base:=w.heap.size) w #[] 0 (zN _) (by decide) (by simp);have hbe:Below w.heap.size w (w.alloc (.cells #[] 146)):=(zR _ _).alloc (zN _) _;have HH:=zH (zA hown hbe);clear hown hbe;have HL:=zH hlen;clear hlen;have HO:=zH hone;clear hone;have HW:=zH hnews1;clear hnews1 hnews;have HI:=zH (zA hi (zA hz0 (zA hz1 hz2)));clear hi hz0 hz1 hz2;generalize l.flatMap E=xs at*;generalize l.length=n at*;have hnl:∀W n c,(binOp .eql 137 (.slice (some a) n c) (.slice none 0 0)).run Tryz.prog W= .ok (.bool false) W:=fun W n c=>Lib.run_eql_slice_nil W 137 146 (some a) n c 0 0 Tryz.underlying137
  go_enter Tryz.func85,Tryz.ntmps85
  go_wp2_with (at_builtin;refine wpList_append_own _ rfl _ _ 137 rfl w.heap.size 146 i0 (.agg #[.string ⟨#[]⟩,.int .i64 0,.int .i64 0,.int .u32 0,.string ⟨#[]⟩]) 5 56 Tryz.underlying137 HI.out.1 HI.out.2.1 HI.out.2.2.1 HI.out.2.2.2 rfl (by decide) _ _ _ rfl HH.out.1 a n c xs rfl HL.out (HW.out _) HO.out (by unfold maxLen;omega) (by omega) (by simp) ?_;intro v' w1 hown1 hgrow1 hnil1)
  have HP:=zH (zA hown1 hgrow1);clear hown1 hgrow1 hnil1;go_wp2_with fail
  go_ret;refine⟨_,rfl,?_,HH.out.2.grown HP.out.2 (by simp) (fun k hk=>?_)⟩
  ·have:=HP.out.1
   simpa using this
  ·have:w.heap.size=k:=Option.some.inj hk;omega
def SrchPostSN {α:Type} (f:α→Int) (l:List α) (w:World) (e:Ending) (w':World):Prop:=
 ∃i:Nat,i≤l.length∧(∀m (h:m<l.length),m<i→f l[m]<0)∧(∀m (h:m<l.length),i≤m→0≤f l[m])∧
  e= .returned (.tuple #[.int .i64 i,.bool (if h:i<l.length then decide (f l[i]=0) else false)])∧Below w.heap.size w w'
theorem slSearchSN_any {α:Type}(E:α→List Value)(hE:∀x,(E x).length=5)(f:α→Int)(w:World)(A:Option Addr)(n c g:Nat)(l:List α)(kv:Value)(hl:l.length=n)(hn:n≤1000000)(hsl:SlOf w 5 E A l)
  (hmono:∀a b (ha:a<l.length) (hb:b<l.length),a≤b→f l[b]<0→f l[a]<0)
  (hcall:∀W x,x∈l→Below w.heap.size w W→Calls Tryz.prog 128 #[.agg (E x).toArray,kv,.pointer (some ⟨g,0,none⟩)] W fun e w'=>e= .returned (.int .i64 (f x))∧Below W.heap.size W w'):
  Calls Tryz.prog 127 #[.slice A n c,kv,.func (.func 128) #[] #[.pointer (some ⟨g,0,none⟩)]] w (SrchPostSN f l w):=by
 have HS:=zH hsl;clear hsl;have HL:=zH hl;clear hl;have HM:=zH hmono;clear hmono;have HC:=zH hcall;clear hcall;have HE:=zH hE;clear hE;go_enter Tryz.func127,Tryz.ntmps127
 go_wp2_with fail
 go_loopw [9,10] (fun iv jv wr=>∃i j:Nat,i≤j∧j≤n∧iv= .int .i64 i∧jv= .int .i64 j∧(∀m (h:m<l.length),m<i→f l[m]<0)∧(∀m (h:m<l.length),j≤m→0≤f l[m])∧Below w.heap.size w wr) (fun iv jv _=>(intOf jv-intOf iv).toNat)
 case atStart=>exact⟨0,n,Nat.zero_le _,zN _,rfl,rfl,fun m h h'=>by omega,fun m h h'=>by have:=HL.out;omega,zR _ _⟩
 case round=>
  obtain⟨i,j,hij,hjn,rfl,rfl,hlo,hhi,hbr⟩:=hrel;have HLO:=zH hlo;clear hlo;have HHI:=zH hhi;clear hhi;by_cases hlt:i<j
  ·have hjL:j≤l.length:=by have:=HL.out;omega
   obtain⟨h,hh⟩:∃h:Nat,((i:Int)+j)/2=h:=⟨(i+j)/2,by omega⟩;(obtain⟨hih,hhj,hhL⟩:i≤h∧h<j∧h<l.length:=by omega);obtain⟨b,off,rfl,hbb,_⟩:=(HS.out.below hbr (zN _)) (by omega);have HR:=zH ((HS.out.below hbr (zN _)).range HE.out h hhL);have HF:=zH (HC.out wr l[h] (zP hhL) hbr);have HX:=zH (HE.out l[h]);have HLO2:=zH (fun(hf:f l[h]<0) m (hm:m<l.length) (hmh:m<h+1)=>(HM.out m h hm hhL (by omega) hf:f l[m]<0));have HHI2:=zH (fun(hf:¬f l[h]<0) m (hm:m<l.length) (hmh:h≤m)=>(by
    (refine Int.not_lt.1 fun hx=>hf ?_);exact HM.out h m hhL hm hmh hx:0≤f l[m]))
   generalize f l[h]=fv at*;generalize E l[h]=ev at*;(obtain⟨q1,q2⟩:(i:Int)+j≤2000000∧(h:Int)<n:=by omega);(go_wp2_with (refine wpList_load_mid rfl 146 (.tmp 27) rfl b (off+h*5) rfl ev _ HR.out Tryz.underlying146 rfl (by rw[HX.out];kernel_rfl) ?_));refine HF.out.mono ?_;rintro e w2 ⟨rfl,hb2⟩;have hb3:=hbr.trans (hb2.mono hbr.size);clear HR HF;by_cases hf:fv<0
   ·have H1:=zH (HLO2.out hf);(go_wp2_with fail);go_roundw
    case rel=>exact⟨h+1,j,by omega,hjn,by go_num,rfl,H1.out,HHI.out,hb3⟩
    case measure=>simp [intOf];omega
   ·have H1:=zH (HHI2.out (by omega));(go_wp2_with fail);go_roundw
    case rel=>exact⟨i,h,hih,by omega,rfl,by go_num,HLO.out,H1.out,hb3⟩
    case measure=>simp [intOf];omega
  ·obtain rfl:i=j:=by omega
   clear hij hlt;by_cases hin:i<n
   ·(have hiL:i<l.length:=by have:=HL.out;omega);obtain⟨b,off,rfl,hbb,_⟩:=(HS.out.below hbr (zN _)) (by omega);have HR:=zH ((HS.out.below hbr (zN _)).range HE.out i hiL);have HF:=zH (HC.out wr l[i] (zP hiL) hbr);have HX:=zH (HE.out l[i]);have HP:=zH (fun w' (hb:Below w.heap.size w w')=>(⟨i,by omega,HLO.out,HHI.out,by rw[dif_pos hiL],hb⟩:SrchPostSN f l w (.returned (.tuple #[.int .i64 i,.bool (decide (f l[i]=0))])) w'));generalize f l[i]=fv at*;generalize E l[i]=ev at*;(have q2:(i:Int)<n:=by omega);(go_wp2_with (refine wpList_load_row_g rfl 146 (.tmp 43) rfl b (off+i*5) rfl ev _ HR.out Tryz.underlying146 rfl (by rw[HX.out];kernel_rfl) ?_));refine HF.out.mono ?_;rintro e w2 ⟨rfl,hb2⟩;have hb3:=hbr.trans (hb2.mono hbr.size);have HQ:=zH (HP.out w2 hb3);have hbq:(fv==0)=decide (fv=0):=rfl;(go_wp2_with fail);(go_ret2);exact HQ.out
   ·(obtain rfl:i=n:=by omega);have HP:=zH (fun w' (hb:Below w.heap.size w w')=>(⟨i,by have:=HL.out;omega,HLO.out,HHI.out,by rw[dif_neg (by have:=HL.out;omega)],hb⟩:SrchPostSN f l w (.returned (.tuple #[.int .i64 i,.bool false])) w'));(go_wp2_with fail);(go_ret2);exact HP.out _ hbr
def eCSN (e:ByteArray×Nd):List Value:=[.string e.1,.int .i64 e.2.kind,.int .i64 e.2.mode,.int .u32 e.2.time,.string e.2.data]
theorem eCSN_len (e:ByteArray×Nd):(eCSN e).length=5:=rfl
theorem eCSN_one (e:ByteArray×Nd):∀u∈eCSN e,u.oneCell'=true:=by
 intro u hu;simp only[eCSN,List.mem_cons,List.mem_append,List.not_mem_nil,or_false] at hu;rcases hu with rfl | rfl | rfl | rfl | rfl<;>rfl
abbrev ordFSN:Value:= .func (.func 47) #[] #[]
structure SMapSN (w:World) (bm:Nat) (xs:List (ByteArray×Nd)):Prop where
 row:∃v,Blk w bm 139 #[ordFSN,v]∧w.ownsRow 0 146 5 v xs.length (xs.flatMap eCSN)
 up:Up ordS xs
 ok:∀e∈xs,okS e.1
theorem find1SN_any (w:World)(g bm:Nat)(e:ByteArray×Nd)(k:ByteArray)(he:okS e.1)(hk:okS k)(hg:w.cell? ⟨g,0,none⟩=some (.pointer (some ⟨bm,0,none⟩)))(hm:w.cell? ⟨bm,0,none⟩=some ordFSN):
  Calls Tryz.prog 128 #[.agg (eCSN e).toArray,Value.string k,.pointer (some ⟨g,0,none⟩)] w fun r w'=>r= .returned (.int .i64 (ordS e.1 k))∧Below w.heap.size w w':=by
 have HO:=zH (fun W=>orderS_any W e.1 k he hk);have hB:=Blk.new w 146 (eCSN e).toArray;have hb1:=(zR w.heap.size w).alloc (zN _) (.cells (eCSN e).toArray 146);have hgl:=World.block_lt_of_cell? w _ hg;have hml:=World.block_lt_of_cell? w _ hm;have hg1:=(hb1.cell (p:=⟨g,0,none⟩) hgl).trans hg;have hm1:=(hb1.cell (p:=⟨bm,0,none⟩) hml).trans hm;have hlt:=hB.lt;have hk0:(w.alloc (.cells (eCSN e).toArray 146)).cell? ⟨w.heap.size,0,none⟩=some (Value.string e.1):=hB.cell 0;clear hg hm hB;generalize ordS e.1 k=r at*;have l1:∀m:Held (Aft (w.alloc (.cells (eCSN e).toArray 146))),(HeldW m).cell? ⟨g,0,none⟩=some (.pointer (some ⟨bm,0,none⟩)):=fun m=>(Aft.cell m (p:=⟨g,0,none⟩) (zQ hgl hb1.size)).trans hg1
 have l2:∀m:Held (Aft (w.alloc (.cells (eCSN e).toArray 146))),(HeldW m).cell? ⟨bm,0,none⟩=some ordFSN:=fun m=>(Aft.cell m (p:=⟨bm,0,none⟩) (zQ hml hb1.size)).trans hm1
 have l3:∀m:Held (Aft (w.alloc (.cells (eCSN e).toArray 146))),(HeldW m).cell? ⟨w.heap.size,0,none⟩=some (Value.string e.1):=fun m=>(Aft.cell m (p:=⟨w.heap.size,0,none⟩) hlt).trans hk0
 have HB1:=zH hb1;clear hb1 hg1 hm1 hk0
 haveI:=Aft.some (w.alloc (.cells (eCSN e).toArray 146))
 generalize (eCSN e).toArray=ec at*;go_enter Tryz.func128,Tryz.ntmps128
 go_wp2_with fail
 refine wp_region_class (Aft (w.alloc (.cells ec 146))) (by kernel_rfl) (by kernel_rfl) (Aft.start _) ?_;repeat (go_big_quiet_step (with_reducible exact held_below Aft.keep (HO.out _)))
 refine wpQuiet_nil ?_;rintro _ ⟨nn,rfl⟩;have HW:Hid (Below (w.alloc (.cells ec 146)).heap.size (w.alloc (.cells ec 146)) (HeldW nn)):=zH (HeldW_spec nn);go_wp2_with fail
 go_ret;exact⟨rfl,HB1.out.trans (HW.out.mono HB1.out.size)⟩
def InsPostSN (base n:Nat) (xs:List Value) (row:Option Nat) (w:World) (e:Ending) (w':World):Prop:=
 ∃g cap,e= .returned (.slice (some ⟨g,0,none⟩) (n+1) cap)∧w'.ownsRow base 146 5 (.slice (some ⟨g,0,none⟩) (n+1) cap) (n+1) xs∧w.grownBy w' row∧(row=some g∨w.heap.size≤g)
theorem slInsertSN_end (w:World)(base:Nat)(v:Value)(n vb:Nat)(xs:List Value)(te:TypeId)(cx:Array Value)(hown:w.ownsRow base 146 5 v n xs)(hvb:Blk w vb te cx)(hcx:cx.size=5)(h1x:∀u∈cx.toList,u.oneCell'=true)(hn:n+1≤1000000)(hbase:base≤w.heap.size):
  Calls Tryz.prog 86 #[v,.int .i64 n,.slice (some ⟨vb,0,none⟩) 1 1] w (InsPostSN base n (xs++cx.toList) v.ownBlock w):=by
 have hfin:∀g cap w',w'.ownsRow base 146 5 (.slice (some ⟨g,0,none⟩) (n+1) cap) (n+1) (xs++cx.toList)→w.grownBy w' v.ownBlock→(v.ownBlock=some g∨g=w.heap.size)→
   InsPostSN base n (xs++cx.toList) v.ownBlock w (.returned (.slice (some ⟨g,0,none⟩) (n+1) cap)) w':=fun g cap w' h1 h2 h3=>⟨g,cap,rfl,h1,h2,by rcases h3 with h | h;exact .inl h;exact .inr (by omega)⟩
 have HF:=zH hfin;clear hfin;have HO:=zH hown;have HB:=zH hvb;clear hvb;rcases hown.2 with ⟨rfl,rfl⟩ | ⟨g,cap,cur,rfl,hbg,hg,hnc,hcm,hcs,htk⟩
 ·clear hown;go_enter Tryz.func86,Tryz.ntmps86
  go_wp2_with (at_builtin;refine wpList_app rfl _ _ 137 rfl base 146 _ _ _ Tryz.underlying137 infoESN rfl (by decide) _ 0 xs rfl HO.out vb 1 cx te rfl HB.out hcx h1x (by omega) (by decide) hbase _ rfl ?_;intro g cap w1 hown1 hgrow1 hat hlt)
  have HP:=zH (HF.out g cap w1 hown1 hgrow1 hat);clear hown1 hgrow1 hat;go_wp2_with fail
  go_ret;exact HP.out
 ·clear hown htk hg hcs;unfold maxLen at hcm;go_enter Tryz.func86,Tryz.ntmps86
  go_wp2_with (at_builtin;refine wpList_app rfl _ _ 137 rfl base 146 _ _ _ Tryz.underlying137 infoESN rfl (by decide) _ n xs rfl HO.out vb 1 cx te rfl HB.out hcx h1x (by omega) (by decide) hbase _ rfl ?_;intro g cap w1 hown1 hgrow1 hat hlt)
  all_goals
   have HP:=zH (HF.out _ _ w1 hown1 hgrow1 hat);clear hown1 hgrow1 hat;(go_wp2_with fail);go_ret;exact HP.out
theorem slInsertSN_room (w:World)(base g cap n i vb:Nat)(cur:Array Value)(te:TypeId)(cx:Array Value)(hbg:base≤g)(hg:Blk w g 146 cur)(hcs:cur.size=cap*5)(h1c:∀u∈cur.toList.take (n*5),u.oneCell'=true)(hvb:Blk w vb te cx)(hne:vb≠g)(hcx:cx.size=5)(h1x:∀u∈cx.toList,u.oneCell'=true)(hi:i<n)(hroom:n+1≤cap)(hcm:cap≤maxLen):
  Calls Tryz.prog 86 #[.slice (some ⟨g,0,none⟩) n cap,.int .i64 i,.slice (some ⟨vb,0,none⟩) 1 1] w
   (InsPostSN base n (cur.toList.take (i*5)++cx.toList++(cur.toList.take (n*5)).drop (i*5)) (some g) w):=by
 have hov:∀lb cb W,Blk W g 146 cur→Blk W vb te cx→(callFunc 129 #[.slice (some ⟨vb,0,none⟩) 1 1,.slice (some ⟨g,(i+1)*5,none⟩) lb cb]).run Tryz.prog W= .ok (.value (.bool false)) W:=fun lb cb W h1 h2=>by
  rw[run_callFunc_extern Tryz.func129 (by kernel_rfl) (by kernel_rfl) (by kernel_rfl) (e:=Extern.SlicesOverlaps.overlaps #[137,137] #[4]) (by kernel_rfl),
   Lib.run_overlaps_apart W 137 4 146 Tryz.underlying137 5 Tryz.sizeOf146 ⟨vb,0,none⟩ ⟨g,(i+1)*5,none⟩ 1 1 lb cb hne te 146 cx.size cur.size h2.shape h1.shape (by rw[hcs];omega) (h2.frozen 0) (h2.frozen cx.size)]
  rfl
 unfold maxLen at hcm;have hc1:cur.toList.length=cap*5:=by rw[Array.length_toList];exact hcs
 obtain⟨q1,q2,q3,q4⟩:=ins_cells cur.toList cx.toList (i*5) (n*5) 5 (by omega) (by omega) (by simpa using hcx);obtain⟨cs,hcsd⟩:∃cs,(cur.toList.take (n*5)).drop (i*5)=cs:=⟨_,rfl⟩;simp only[hcsd] at q1 q2 q3 q4;rw[hcsd];obtain⟨W1,hW1⟩:∃W1,w.drew.setRow g (cur.toList.take ((i+1)*5)++cs++cur.toList.drop ((i+1)*5+cs.length)).toArray=W1:=⟨_,rfl⟩;have hcp1:∀ty dc sc,(Builtin.copy_ #[137,137] ty #[.slice (some ⟨g,(i+1)*5,none⟩) (n-i) dc,.slice (some ⟨g,i*5,none⟩) (n+1-i) sc]).run Tryz.prog w.drew= .ok (goInt (n-i:Nat)) W1:=fun ty dc sc=>by
  rw[←hW1];refine run_copy_rows w.drew _ _ ty 146 5 g _ _ dc _ _ sc cur 146 cs (n-i) Tryz.underlying137 (by kernel_rfl) hg.drew (by simp only[Nat.min_def];split<;>omega) (by rw[q4];omega) (fun j v hj=>?_) (by rw[q4];omega) (fun v hv=>h1c v ?_)
  ·refine hg.drew.at _ j v ?_;rw[←hcsd] at hj;rw[List.getElem?_drop,List.getElem?_take] at hj;split at hj
   ·rw[List.getElem?_drop];exact hj
   ·cases hj
  ·rw[←hcsd] at hv;exact List.mem_of_mem_drop hv
 have hg1:Blk W1 g 146 (cur.toList.take ((i+1)*5)++cs++cur.toList.drop ((i+1)*5+cs.length)).toArray:=by rw[←hW1];exact hg.drew.setRow _
 have hgr1:w.grownBy W1 (some g):=by rw[←hW1];exact grown_of_drew (grown_setRow _ _ _)
 have hvb1:Blk W1 vb te cx:=hvb.grown hgr1 (by simpa using hne);rw[show i*5+5=(i+1)*5 by omega] at q1 q2 q3;generalize hr1:cur.toList.take ((i+1)*5)++cs++cur.toList.drop ((i+1)*5+cs.length)=r1 at*;obtain⟨W2,hW2⟩:∃W2,W1.setRow g (r1.take (i*5)++cx.toList++r1.drop (i*5+cx.toList.length)).toArray=W2:=⟨_,rfl⟩;have hcp2:∀ty dc,(Builtin.copy_ #[137,137] ty #[.slice (some ⟨g,i*5,none⟩) (n+1-i) dc,.slice (some ⟨vb,0,none⟩) 1 1]).run Tryz.prog W1= .ok (goInt (1:Nat)) W2:=fun ty dc=>by
  rw[←hW2];have:=run_copy_rows (P:=Tryz.prog) W1 137 137 ty 146 5 g (i*5) (n+1-i) dc ⟨vb,0,none⟩ 1 1 r1.toArray 146 cx.toList 1 Tryz.underlying137 (by kernel_rfl) hg1 (by simp only[Nat.min_def];split<;>omega) (by simpa using hcx) (World.news_of_block hvb1) (by rw[List.size_toArray,q3,Array.length_toList];omega) h1x
  simpa using this
 have hg2:Blk W2 g 146 (r1.take (i*5)++cx.toList++r1.drop (i*5+cx.toList.length)).toArray:=by rw[←hW2];exact hg1.setRow _
 have hgr2:w.grownBy W2 (some g):=by rw[←hW2];exact grown_trans hgr1 (grown_setRow _ _ _)
 have hfin:InsPostSN base n (cur.toList.take (i*5)++cx.toList++cs) (some g) w (.returned (.slice (some ⟨g,0,none⟩) (n+1) cap)) W2:=
  ⟨g,cap,rfl,own_mk hbg hg2 hroom (by unfold maxLen;omega) (by rw[List.size_toArray,q2,hc1]) (by rw[List.toList_toArray,←q1];congr 1;omega),hgr2,.inl rfl⟩
 have HF:=zH hfin;clear hfin;clear hgr1 hgr2 hg2 hg1 hvb1 hW1 hW2 q1 q2 q3 q4 hcsd hc1 hr1 h1c h1x;have HV:=zH (fun lb cb=>hov lb cb w hg hvb);clear hov;have hz1:¬((i:Int)=(n:Int)):=by omega
 have hw1:IntKind.i64.wrap ((i:Int)+1)=(i:Int)+1:=by rw[IntKind.wrap_i64];omega
 obtain⟨hb1,hin,htn,hb2,hb3,hb4,hb5⟩:(0:Int)≤(i:Int)+1∧i≤n∧((i:Int)+1).toNat=i+1∧¬(cap=i+1)∧(i:Int)≤(n:Int)+1∧¬(cap=i)∧¬(cap:Int)<n+1:=by omega
 clear hcs;go_enter Tryz.func86,Tryz.ntmps86
 go_wp2_with (simp only[HV.out])
 go_region_law (refine step_copy_rows rfl _ _ 137 137 rfl _ _ (by simp [Act.eval,Act.put]) (by simp [Act.eval,Act.put]) (hcp1 _ _ _) ?_)
 go_wp2_with (at_builtin;refine wpList_copy_rows _ rfl _ _ 137 137 rfl _ _ rfl rfl (hcp2 _ _) ?_)
 go_ret;exact HF.out
theorem slInsertSN_grow (w:World)(base g cap n i vb:Nat)(cur:Array Value)(te:TypeId)(cx:Array Value)(hg:Blk w g 146 cur)(hcs:cur.size=cap*5)(h1c:∀u∈cur.toList.take (n*5),u.oneCell'=true)(hvb:Blk w vb te cx)(hcx:cx.size=5)(h1x:∀u∈cx.toList,u.oneCell'=true)(hi:i<n)(hnc:n≤cap)(hroom:cap<n+1)(hn:n+1≤1000000)(hbase:base≤w.heap.size):
  Calls Tryz.prog 86 #[.slice (some ⟨g,0,none⟩) n cap,.int .i64 i,.slice (some ⟨vb,0,none⟩) 1 1] w
   (InsPostSN base n (cur.toList.take (i*5)++cx.toList++(cur.toList.take (n*5)).drop (i*5)) (some g) w):=by
 obtain rfl:cap=n:=by omega
 obtain⟨i0,hi0,hz0,hzs,hzb⟩:=info_parts infoESN;have hc1:cur.toList.length=cap*5:=by rw[Array.length_toList];exact hcs
 have htk:cur.toList.take (cap*5)=cur.toList:=zO (by omega);rw[htk] at h1c⊢;have hold:(Builtin.firstCells i0.size i (.slice (some ⟨g,0,none⟩) i cap)).run Tryz.prog w.drew= .ok (cur.toList.take (i*5)).toArray w.drew:=by
  rw[hzs];exact run_firstCells_some w.drew 5 i ⟨g,0,none⟩ i cap (cur.toList.take (i*5)) (by rw[zL];omega) (fun j v hj=>by
   refine hg.drew.at 0 j v ?_;rw[List.getElem?_take] at hj;split at hj
   ·rw[List.drop_zero];exact hj
   ·cases hj)
 obtain⟨G,hG⟩:∃G,grownCap w (cap+1) cap 146=G:=⟨_,rfl⟩;have hGn:cap+1≤G:=by rw[←hG];exact grownCap_ge w _ _ _
 have hG63:G≤maxLen:=by rw[←hG];exact grownCap_le_maxLen w (cap+1) cap 146 (by unfold maxLen;omega)
 obtain⟨R,hR⟩:∃R:Array Value,(cur.toList.take (i*5)).toArray++Builtin.zeroCells (Value.cells (.agg #[.string ⟨#[]⟩,.int .i64 0,.int .i64 0,.int .u32 0,.string ⟨#[]⟩])) (cap+1-i)++Builtin.zeroCells (Value.cells (.agg #[.string ⟨#[]⟩,.int .i64 0,.int .i64 0,.int .u32 0,.string ⟨#[]⟩])) (G-(cap+1))=R:=⟨_,rfl⟩;have hRl:R.size=G*5:=by
  rw[←hR];simp only[Array.size_append,List.size_toArray,zL,size_zeroCells,hc1];simp [Value.cells]
  omega
 have hRL:R.toList.length=G*5:=by rw[Array.length_toList,hRl]
 have hRt:R.toList.take (i*5)=cur.toList.take (i*5):=by
  rw[←hR,Array.toList_append,Array.toList_append,List.toList_toArray,zV,List.take_append_of_le_length (by rw[zL];omega),List.take_take,Nat.min_self]
 obtain⟨W0,hW0⟩:∃W0,w.drew.alloc (.cells R 146)=W0:=⟨_,rfl⟩;have hrz:∀ty,(Builtin.append_ #[137,3] ty #[.slice (some ⟨g,0,none⟩) i cap,.int .i64 ((cap:Int)+1-(i:Int))]).run Tryz.prog w= .ok (.slice (some ⟨w.heap.size,0,none⟩) (cap+1) G) W0:=fun ty=>by
  have hik:i+(cap+1-i)=cap+1:=by omega
  have h:=Lib.run_append_grow_zeros w 137 3 ty 146 i0 _ .i64 .i64 Tryz.underlying137 Tryz.underlying3 hi0 hz0 (some ⟨g,0,none⟩) i cap (cur.toList.take (i*5)) hold (cap+1-i) (by omega) (by omega) (by omega) (by omega) (by rw[hzb];omega) (by rw[hzb,hik];exact growslice_fits (by omega) (by omega));rw[hik] at h;rw[show(cap:Int)+1-(i:Int)=((cap+1-i:Nat):Int) by omega,h,hG,hR,hW0]
 have hb0:Below w.heap.size w W0:=by rw[←hW0];exact((zR _ w).drew).alloc (zN _) _
 have hg0:Blk W0 w.heap.size 146 R:=by rw[←hW0];exact Blk.new w.drew _ _
 have hgl:=hg.lt;have hvl:=hvb.lt;have hga:Blk W0 g 146 cur:=hg.below hb0 hgl;have hva:Blk W0 vb te cx:=hvb.below hb0 hvl;have hdl:(cur.toList.drop (i*5)).length=(cap-i)*5:=by rw[List.length_drop];omega
 obtain⟨p1,p2,p3⟩:=ins_cells2 R.toList cx.toList (cur.toList.drop (i*5)) (i*5) 5 (by rw[hdl,Array.length_toList,hRl];omega) (by simpa using hcx);generalize hr1:R.toList.take (i*5)++cx.toList++R.toList.drop (i*5+cx.toList.length)=r1 at*;obtain⟨W1,hW1⟩:∃W1,W0.setRow w.heap.size r1.toArray=W1:=⟨_,rfl⟩;have hcp1:∀ty dc,(Builtin.copy_ #[137,137] ty #[.slice (some ⟨w.heap.size,i*5,none⟩) (cap+1-i) dc,.slice (some ⟨vb,0,none⟩) 1 1]).run Tryz.prog W0= .ok (goInt (1:Nat)) W1:=fun ty dc=>by
  rw[←hW1,←hr1];exact run_copy_rows (P:=Tryz.prog) W0 137 137 ty 146 5 w.heap.size (i*5) (cap+1-i) dc ⟨vb,0,none⟩ 1 1 R 146 cx.toList 1 Tryz.underlying137 (by kernel_rfl) hg0 (by simp only[Nat.min_def];split<;>omega) (by simpa using hcx) (World.news_of_block hva) (by rw[hRl,Array.length_toList,hcx];omega) h1x
 have hg1:Blk W1 w.heap.size 146 r1.toArray:=by rw[←hW1];exact hg0.setRow _
 have hb1:Below w.heap.size w W1:=by rw[←hW1];exact hb0.grown (grown_setRow _ _ _) hb0.size (fun k hk=>by cases hk;exact zN _)
 have hga1:Blk W1 g 146 cur:=hg.below hb1 hgl;obtain⟨W2,hW2⟩:∃W2,W1.drew.setRow w.heap.size (r1.take ((i+1)*5)++cur.toList.drop (i*5)++r1.drop ((i+1)*5+(cur.toList.drop (i*5)).length)).toArray=W2:=⟨_,rfl⟩;have hcp2:∀ty dc sc,(Builtin.copy_ #[137,137] ty #[.slice (some ⟨w.heap.size,(i+1)*5,none⟩) (cap-i) dc,.slice (some ⟨g,i*5,none⟩) (cap-i) sc]).run Tryz.prog W1.drew= .ok (goInt (cap-i:Nat)) W2:=fun ty dc sc=>by
  rw[←hW2];have:=run_copy_rows (P:=Tryz.prog) W1.drew 137 137 ty 146 5 w.heap.size ((i+1)*5) (cap-i) dc ⟨g,i*5,none⟩ (cap-i) sc r1.toArray 146 (cur.toList.drop (i*5)) (cap-i) Tryz.underlying137 (by kernel_rfl) hg1.drew (by simp only[Nat.min_def];split<;>omega) hdl (hga1.drew.at _) (by rw[List.size_toArray,p3,hRL];omega) (fun v hv=>h1c v (List.mem_of_mem_drop hv))
  simpa using this
 have hg2:Blk W2 w.heap.size 146 (r1.take ((i+1)*5)++cur.toList.drop (i*5)++r1.drop ((i+1)*5+(cur.toList.drop (i*5)).length)).toArray:=by rw[←hW2];exact hg1.drew.setRow _
 have hb2:Below w.heap.size w W2:=by rw[←hW2];exact(below_drewN hb1 1).grown (grown_setRow _ _ _) hb1.size (fun k hk=>by cases hk;exact zN _)
 rw[show i*5+5=(i+1)*5 by omega] at p1 p2;rw[hRt] at p1;have hfin:InsPostSN base cap (cur.toList.take (i*5)++cx.toList++cur.toList.drop (i*5)) (some g) w (.returned (.slice (some ⟨w.heap.size,0,none⟩) (cap+1) G)) W2:=
  ⟨w.heap.size,G,rfl,own_mk hbase hg2 hGn hG63 (by rw[List.size_toArray,p2,Array.length_toList,hRl]) (by rw[List.toList_toArray,←p1];congr 1;rw[hdl];omega),⟨hb2.os,hb2.tape,hb2.output,hb2.size,fun k hk _=>hb2.block k hk⟩,.inr (zN _)⟩
 have HF:=zH hfin;clear hfin;clear hb2 hg2 hb1 hg1 hga1 hb0 hg0 hga hva hW0 hW1 hW2 p1 p2 p3 hdl hr1 hRt hRl hR hG hold hi0 hz0 hzs hzb h1c h1x htk hc1 hg hvb hcs;unfold maxLen at hG63;have hz1:¬((i:Int)=(cap:Int)):=by omega
 have hw1:IntKind.i64.wrap ((i:Int)+1)=(i:Int)+1:=by rw[IntKind.wrap_i64];omega
 obtain⟨hb1,hin,htn,hb2,hb3,hb4,hb5,hG1,hG2⟩:(0:Int)≤(i:Int)+1∧i≤cap∧((i:Int)+1).toNat=i+1∧(¬(cap=i+1)∨cap=i+1)∧(i:Int)≤(cap:Int)+1∧¬(cap=i)∧(cap:Int)<cap+1∧¬(G=i)∧¬(G=i+1):=by omega
 clear hb2;go_enter Tryz.func86,Tryz.ntmps86
 go_wp2_with (first
  | (at_builtin;refine Lib.wpList_append_run _ rfl _ _ _ _ rfl _ _ rfl rfl _ _ (hrz _) ?_)
  | (at_builtin;refine wpList_copy_rows _ rfl _ _ 137 137 rfl _ _ rfl rfl (hcp1 _ _) ?_))
 go_region_law (refine step_copy_rows rfl _ _ 137 137 rfl _ _ (by simp [Act.eval,Act.put]) (by simp [Act.eval,Act.put]) (hcp2 _ _ _) ?_)
 go_wp2_with fail
 go_ret;exact HF.out
theorem slInsertSN_any (w:World)(base:Nat)(v:Value)(n i vb:Nat)(xs:List Value)(te:TypeId)(cx:Array Value)(hown:w.ownsRow base 146 5 v n xs)(h1c:∀u∈xs,u.oneCell'=true)(hvb:Blk w vb te cx)(hne:v.ownBlock≠some vb)(hcx:cx.size=5)(h1x:∀u∈cx.toList,u.oneCell'=true)(hi:i≤n)(hn:n+1≤1000000)(hbase:base≤w.heap.size):
  Calls Tryz.prog 86 #[v,.int .i64 i,.slice (some ⟨vb,0,none⟩) 1 1] w (InsPostSN base n (xs.take (i*5)++cx.toList++xs.drop (i*5)) v.ownBlock w):=by
 by_cases hin:i=n
 ·subst hin;have hl:=hown.1;rw[zO (by omega),List.drop_of_length_le (by omega),List.append_nil];exact slInsertSN_end w base v i vb xs te cx hown hvb hcx h1x hn hbase
 ·obtain⟨g,cap,cur,rfl,hbg,hg,h1,h2,h3,h4⟩:=own_form hown (by omega);subst h4;have ht:∀k,k≤n→(cur.toList.take (n*5)).take (k*5)=cur.toList.take (k*5):=fun k hk=>by rw[List.take_take];congr 1;omega
  rw[ht i (by omega)];have hneg:vb≠g:=fun e=>hne (by rw[e];rfl)
  by_cases hroom:n+1≤cap
  ·exact slInsertSN_room w base g cap n i vb cur te cx hbg hg h3 h1c hvb hneg hcx h1x (by omega) hroom h2
  ·exact slInsertSN_grow w base g cap n i vb cur te cx hg h3 h1c hvb hcx h1x (by omega) h1 (by omega) hn hbase
section
variable {w w':World} {bm:Nat} {xs:List (ByteArray×Nd)}
theorem SMapSN.ord (h:SMapSN w bm xs):w.cell? ⟨bm,0,none⟩=some ordFSN:=by obtain⟨v,hb,_⟩:=h.row;exact hb.cell 0
theorem own_grown_typ {w w':World}{base:Nat}{e:TypeId}{size n:Nat}{v:Value}{l:List Value}(h:w.ownsRow base e size v n l){g:Nat}{t:TypeId}{cs:Array Value}(hg:w.grownBy w' (some g))(hB:Blk w g t cs)(hne:e≠t):w'.ownsRow base e size v n l:=
 h.kept hg (by
  rcases h.2 with ⟨rfl,_⟩ | ⟨g',cap,cur,rfl,_,hg',_⟩
  ·exact .inl rfl
  ·right
   intro he;(have:g'=g:=by simpa [Value.ownBlock] using he);subst this;exact Blk.other (hg':Blk w g' e cur) hB hne rfl)
theorem SMapSN.grown (h:SMapSN w bm xs){g:Nat}{t:TypeId}{cs:Array Value}(hg:w.grownBy w' (some g))(hne:bm≠g)(hB:Blk w g t cs)(ht:146≠t):SMapSN w' bm xs:=by
 obtain⟨v,hb,ho⟩:=h.row;exact⟨⟨v,hb.grown hg (by simpa using hne),own_grown_typ ho hg hB ht⟩,h.up,h.ok⟩
theorem SMapSN.below (h:SMapSN w bm xs)(hb:Below w.heap.size w w'):SMapSN w' bm xs:=by
 obtain⟨v,hB,ho⟩:=h.row;exact⟨⟨v,hB.below hb hB.lt,own_kept ho hb⟩,h.up,h.ok⟩
theorem flat1SN (xs:List (ByteArray×Nd)):∀u∈xs.flatMap eCSN,u.oneCell'=true:=fun u hu=>by
 rw[List.mem_flatMap] at hu;obtain⟨x,_,hx⟩:=hu;exact eCSN_one x u hx
end
theorem srtNewSN_any (w:World):
  Calls Tryz.prog 46 #[ordFSN] w fun e w'=>∃bm,e= .returned (.pointer (some ⟨bm,0,none⟩))∧SMapSN w' bm []∧w.heap.size≤bm∧Below w.heap.size w w':=by
 have hB:=Blk.new w 139 #[ordFSN,.slice none 0 0];have hb1:=(zR w.heap.size w).alloc (zN _) (.cells #[ordFSN,.slice none 0 0] 139);have HF:=zH (⟨⟨_,hB,World.ownsRow_nil _ 0 146 5⟩,List.Pairwise.nil,fun e he=>by cases he⟩:SMapSN _ w.heap.size []);have HB:=zH hb1;clear hb1 hB;have hnf:∀W,(binOp .eql 108 ordFSN Value.nilFunc).run Tryz.prog W= .ok (.bool false) W:=fun W=>by kernel_rfl
 go_enter Tryz.func46,Tryz.ntmps46
 go_wp2_with fail
 go_ret;exact⟨_,rfl,HF.out,zN _,HB.out⟩
def FindPostSN (k:ByteArray) (xs:List (ByteArray×Nd)) (w:World) (e:Ending) (w':World):Prop:=
 e= .returned (.tuple #[.int .i64 (lbN ordS k xs),.bool (inN ordS k xs)])∧Below w.heap.size w w'
theorem srtFindSN_any (w:World)(bm:Nat)(xs:List (ByteArray×Nd))(k:ByteArray)(h:SMapSN w bm xs)(hn:xs.length≤1000000)(hk:okS k):
  Calls Tryz.prog 84 #[.pointer (some ⟨bm,0,none⟩),Value.string k] w (FindPostSN k xs w):=by
 obtain⟨v,hb,ho⟩:=h.row;have hord:=h.ord;have hB:=Blk.new w 106 #[.pointer (some ⟨bm,0,none⟩)];have hb1:=(zR w.heap.size w).alloc (zN _) (.cells #[.pointer (some ⟨bm,0,none⟩)] 106);have hg1:(w.alloc (.cells #[.pointer (some ⟨bm,0,none⟩)] 106)).cell? ⟨w.heap.size,0,none⟩=some (.pointer (some ⟨bm,0,none⟩)):=hB.cell 0;have hbl:=hb.lt;have hm0:=(hb1.cell (p:=⟨bm,0,none⟩) hbl).trans hord;have hm1:(w.alloc (.cells #[.pointer (some ⟨bm,0,none⟩)] 106)).cell? ⟨bm,1,none⟩=some v:=(hb1.cell (p:=⟨bm,1,none⟩) hbl).trans (hb.cell 1);have hsz:=hB.lt;obtain⟨A,c,rfl,hc1,hc2,hsl⟩:=SlV.of_own (own_kept ho hb1) eCSN_len (by decide);have HS:=zH (slSearchSN_any eCSN eCSN_len (fun e=>ordS e.1 k) (w.alloc (.cells #[.pointer (some ⟨bm,0,none⟩)] 106)) A xs.length c w.heap.size xs (Value.string k) rfl hn hsl
  (fun a b ha hb' hab hlt=>by
   rcases Nat.lt_or_ge a b with h1 | h1
   ·exact ordS_ord.trans _ _ _ (List.pairwise_iff_getElem.1 h.up a b ha hb' h1) hlt
   ·(obtain rfl:a=b:=by omega);exact hlt)
  (fun W x hx hbW=>find1SN_any W w.heap.size bm x k (h.ok x hx) hk ((hbW.cell (p:=⟨w.heap.size,0,none⟩) hsz).trans hg1) ((hbW.cell (p:=⟨bm,0,none⟩) (zQ hbl hb1.size)).trans hm0)))
 have hv1:w.cell? ⟨bm,1,none⟩=some (.slice A xs.length c):=hb.cell 1;have HF:=zH (fun e w' (hp:SrchPostSN (fun e:ByteArray×Nd=>ordS e.1 k) xs (w.alloc (.cells #[.pointer (some ⟨bm,0,none⟩)] 106)) e w')=>(by
  obtain⟨i,hi,h1,h2,rfl,hbw⟩:=hp;have hl:=lbN_eq ordS_ord k xs i hi h1 h2;subst hl;refine⟨?_,hb1.trans (hbw.mono hb1.size)⟩;rw[inN_eq ordS_ord]:FindPostSN k xs w e w'))
 clear hb1 hB hb ho hord h hsl hm0 hm1 hg1 hsz;generalize xs.length=n at*;go_enter Tryz.func84,Tryz.ntmps84
 go_wp2_with fail
 refine HS.out.mono ?_;rintro e w2 hp;obtain⟨rfl,hb2⟩:=HF.out _ _ hp;clear hp HF HS;go_wp2_with fail
 go_ret2
 exact⟨rfl,hb2⟩
theorem srtLenSN_any (w:World)(bm:Nat)(xs:List (ByteArray×Nd))(h:SMapSN w bm xs):
  Calls Tryz.prog 48 #[.pointer (some ⟨bm,0,none⟩)] w fun e w'=>e= .returned (.int .i64 xs.length)∧w=w':=by
 obtain⟨v,hb,ho⟩:=h.row;obtain⟨A,c,rfl,hc1,hc2,hsl⟩:=SlV.of_own ho eCSN_len (by decide);have hv1:w.cell? ⟨bm,1,none⟩=some (.slice A xs.length c):=hb.cell 1;clear hsl hb ho h;generalize xs.length=n at*;go_enter Tryz.func48,Tryz.ntmps48
 go_wp2_with fail
 go_ret;exact⟨rfl,rfl⟩
end Go.Proofs.YtnpehjgnplaabaaGreatDoor
