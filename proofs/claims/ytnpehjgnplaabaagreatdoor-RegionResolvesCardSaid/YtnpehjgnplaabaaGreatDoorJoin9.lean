/- Several texts of ours, joined. -/
import Derived.Test.YtnpehjgnplaabaaGreatDoorJoin1
import Derived.Test.YtnpehjgnplaabaaGreatDoorJoin8
import Derived.Test.YtnpehjgnplaabaaGreatDoorJoin3
import Derived.Test.YtnpehjgnplaabaaGreatDoorJoin5
import Derived.Test.YtnpehjgnplaabaaGreatDoorJoin6
import Derived.Test.YtnpehjgnplaabaaGreatDoorJoin4
set_option linter.unusedVariables false
set_option linter.unusedSimpArgs false
set_option maxRecDepth 100000
set_option maxHeartbeats 64000000
namespace Go.Proofs.YtnpehjgnplaabaaGreatDoor
open Go Go.RowKit
open Sw
theorem sE_lenP (t:ByteArray):(sE t).length=1:=rfl
theorem sE_oneP (t:ByteArray):∀u∈sE t,u.oneCell'=true:=by intro u hu;simp [sE] at hu;subst hu;rfl
def IdxPostS (p:ByteArray→Bool) (l:List ByteArray) (w:World) (e:Ending) (w':World):Prop:=
 ((∃i:Nat,∃h:i<l.length,(∀m (h:m<l.length),m<i→p l[m]=false)∧p l[i]=true∧e= .returned (.int .i64 i))∨((∀x∈l,p x=false)∧e= .returned (.int .i64 (-1))))∧Below w.heap.size w w'
theorem idxBD_any (p:ByteArray→Bool)(r0:Option Nat)(C:World→Prop)(hC:∀W W',C W→W.grownBy W' r0→C W')(w:World)(A:Option Addr)(n c g g2:Nat)(l:List ByteArray)(hl:l.length=n)(hn:n≤1000000)(hsl:SlOf w 1 sE A l)(h0:C w)
  (hcall:∀W x,x∈l→C W→Calls Tryz.prog 60 #[.string x,.pointer (some ⟨g,0,none⟩),.pointer (some ⟨g2,0,none⟩)] W fun e w'=>e= .returned (.bool (p x))∧Below W.heap.size W w'):
  Calls Tryz.prog 98 #[.slice A n c,.func (.func 60) #[] #[.pointer (some ⟨g,0,none⟩),.pointer (some ⟨g2,0,none⟩)]] w (IdxPostS p l w):=by
 have HS:=zH hsl;clear hsl;have HL:=zH hl;clear hl;have HC:=zH hC;clear hC;have HCL:=zH hcall;clear hcall;have H0:=zH h0;clear h0;go_enter Tryz.func98,Tryz.ntmps98
 go_wp2_with fail
 go_loopw [8] (fun iv wr=>∃i:Nat,i≤n∧iv= .int .i64 i∧(∀m (h:m<l.length),m<i→p l[m]=false)∧Below w.heap.size w wr) (fun iv _=>n-(intOf iv).toNat)
 case atStart=>exact⟨0,Nat.zero_le _,rfl,fun m h h'=>absurd h' (Nat.not_lt_zero _),zR _ _⟩
 case round=>
  obtain⟨i,hin,rfl,hno,hbr⟩:=hrel;have HNO:=zH hno;clear hno;by_cases hlt:i<n
  ·have hiL:i<l.length:=by have:=HL.out;omega
   obtain⟨b,off,rfl,hbb,hcs⟩:=(HS.out.below hbr (zN _)) (by omega);have hci:=hcs i hiL 0 (by omega);simp only[sE,qC,Nat.add_zero,Nat.mul_one] at hci;have HF:=zH (HCL.out wr l[i] (zP hiL) (HC.out w wr H0.out (grown_below hbr)));have HYES:=zH (fun(hp:p l[i]=true) w' (hb:Below w.heap.size w w')=>(⟨.inl ⟨i,hiL,HNO.out,hp,rfl⟩,hb⟩:IdxPostS p l w (.returned (.int .i64 i)) w'));have HNO2:=zH (fun(hp:p l[i]=false) m (hm:m<l.length) (hmi:m<i+1)=>(by
    by_cases e:m=i
    ·subst e;exact hp
    ·exact HNO.out m hm (by omega):p l[m]=false))
   generalize p l[i]=pv at*;generalize l[i]=X at*;(have q2:(i:Int)<n:=by omega);clear hcs;cases pv with
   | true=>
    have hyes:=HYES.out rfl;have HYES2:=zH hyes;clear hyes HYES HNO2;(go_wp2_with fail);refine HF.out.mono ?_;rintro e w2 ⟨rfl,hb2⟩;have HP:=zH (HYES2.out w2 (hbr.trans (hb2.mono hbr.size)));clear HF HNO;(go_wp2_with fail);go_ret;exact HP.out
   | false=>
    have hno2:=HNO2.out rfl;have HNO3:=zH hno2;clear hno2 HYES HNO2;(go_wp2_with fail);refine HF.out.mono ?_;rintro e w2 ⟨rfl,hb2⟩;have HP:=zH (zA HNO3.out (hbr.trans (hb2.mono hbr.size)));clear HF HNO;(go_wp2_with fail);go_roundw
    case rel=>exact⟨i+1,by omega,by go_num,HP.out.1,HP.out.2⟩
    case measure=>simp [intOf];omega
  ·obtain rfl:i=n:=by omega
   have hpst:IdxPostS p l w (.returned (.int .i64 (-1))) wr:=⟨.inr ⟨fun x hx=>by
    obtain⟨m,hm,rfl⟩:=List.mem_iff_getElem.1 hx;exact HNO.out m hm (by have:=HL.out;omega),rfl⟩,hbr⟩
   have HP:=zH hpst;clear hpst;(go_wp2_with fail);go_ret;exact HP.out
theorem conBD_any (p:ByteArray→Bool)(C:World→Prop)(hC:∀W W',C W→W.grownBy W' none→C W')(w:World)(v:Value)(g g2:Nat)(l:List ByteArray)(hv:SlV w 1 sE v l)(hn:l.length≤1000000)(h0:C w)
  (hcall:∀W x,x∈l→C W→Calls Tryz.prog 60 #[.string x,.pointer (some ⟨g,0,none⟩),.pointer (some ⟨g2,0,none⟩)] W fun e w'=>e= .returned (.bool (p x))∧Below W.heap.size W w'):
  Calls Tryz.prog 61 #[v,.func (.func 60) #[] #[.pointer (some ⟨g,0,none⟩),.pointer (some ⟨g2,0,none⟩)]] w fun e w'=>e= .returned (.bool (l.any p))∧Below w.heap.size w w':=by
 obtain⟨A,c,rfl,_,_,hsl⟩:=hv;have HI:=zH (idxBD_any p none C hC w A l.length c g g2 l rfl hn hsl h0 hcall);clear hsl h0 hcall hC;generalize hz:l.length=n at*;have HZ:=zH hz;clear hz;go_enter Tryz.func61,Tryz.ntmps61
 go_wp2_with fail
 refine HI.out.mono ?_;rintro e w1 ⟨⟨i,hi,_,hp,rfl⟩ | ⟨hno,rfl⟩,hb⟩
 ·have h1:l.any p=true:=List.any_eq_true.2 ⟨l[i],zP hi,hp⟩;have H1:=zH (zA h1 hb);have hi0:(0:Int)≤i:=by omega
  clear h1 hb HI hp;go_wp2_with fail
  go_ret;exact⟨by rw[H1.out.1];rfl,H1.out.2⟩
 ·have h1:l.any p=false:=by
   rw[Bool.eq_false_iff];intro h;obtain⟨m,hm,hp⟩:=List.any_eq_true.1 h;have h2:=hno m hm;rw[h2] at hp;cases hp
  have H1:=zH (zA h1 hb);clear h1 hb HI hno;go_wp2_with fail
  go_ret;exact⟨by rw[H1.out.1];rfl,H1.out.2⟩
theorem idxTP_any (p:ByteArray→Bool)(r0:Option Nat)(C:World→Prop)(hC:∀W W',C W→W.grownBy W' r0→C W')(w:World)(A:Option Addr)(n c g:Nat)(l:List ByteArray)(hl:l.length=n)(hn:n≤1000000)(hsl:SlOf w 1 sE A l)(h0:C w)
  (hcall:∀W x,x∈l→C W→Calls Tryz.prog 96 #[.string x,.pointer (some ⟨g,0,none⟩)] W fun e w'=>e= .returned (.bool (p x))∧Below W.heap.size W w'):
  Calls Tryz.prog 98 #[.slice A n c,.func (.func 96) #[] #[.pointer (some ⟨g,0,none⟩)]] w (IdxPostS p l w):=by
 have HS:=zH hsl;clear hsl;have HL:=zH hl;clear hl;have HC:=zH hC;clear hC;have HCL:=zH hcall;clear hcall;have H0:=zH h0;clear h0;go_enter Tryz.func98,Tryz.ntmps98
 go_wp2_with fail
 go_loopw [8] (fun iv wr=>∃i:Nat,i≤n∧iv= .int .i64 i∧(∀m (h:m<l.length),m<i→p l[m]=false)∧Below w.heap.size w wr) (fun iv _=>n-(intOf iv).toNat)
 case atStart=>exact⟨0,Nat.zero_le _,rfl,fun m h h'=>absurd h' (Nat.not_lt_zero _),zR _ _⟩
 case round=>
  obtain⟨i,hin,rfl,hno,hbr⟩:=hrel;have HNO:=zH hno;clear hno;by_cases hlt:i<n
  ·have hiL:i<l.length:=by have:=HL.out;omega
   obtain⟨b,off,rfl,hbb,hcs⟩:=(HS.out.below hbr (zN _)) (by omega);have hci:=hcs i hiL 0 (by omega);simp only[sE,qC,Nat.add_zero,Nat.mul_one] at hci;have HF:=zH (HCL.out wr l[i] (zP hiL) (HC.out w wr H0.out (grown_below hbr)));have HYES:=zH (fun(hp:p l[i]=true) w' (hb:Below w.heap.size w w')=>(⟨.inl ⟨i,hiL,HNO.out,hp,rfl⟩,hb⟩:IdxPostS p l w (.returned (.int .i64 i)) w'));have HNO2:=zH (fun(hp:p l[i]=false) m (hm:m<l.length) (hmi:m<i+1)=>(by
    by_cases e:m=i
    ·subst e;exact hp
    ·exact HNO.out m hm (by omega):p l[m]=false))
   generalize p l[i]=pv at*;generalize l[i]=X at*;(have q2:(i:Int)<n:=by omega);clear hcs;cases pv with
   | true=>
    have hyes:=HYES.out rfl;have HYES2:=zH hyes;clear hyes HYES HNO2;(go_wp2_with fail);refine HF.out.mono ?_;rintro e w2 ⟨rfl,hb2⟩;have HP:=zH (HYES2.out w2 (hbr.trans (hb2.mono hbr.size)));clear HF HNO;(go_wp2_with fail);go_ret;exact HP.out
   | false=>
    have hno2:=HNO2.out rfl;have HNO3:=zH hno2;clear hno2 HYES HNO2;(go_wp2_with fail);refine HF.out.mono ?_;rintro e w2 ⟨rfl,hb2⟩;have HP:=zH (zA HNO3.out (hbr.trans (hb2.mono hbr.size)));clear HF HNO;(go_wp2_with fail);go_roundw
    case rel=>exact⟨i+1,by omega,by go_num,HP.out.1,HP.out.2⟩
    case measure=>simp [intOf];omega
  ·obtain rfl:i=n:=by omega
   have hpst:IdxPostS p l w (.returned (.int .i64 (-1))) wr:=⟨.inr ⟨fun x hx=>by
    obtain⟨m,hm,rfl⟩:=List.mem_iff_getElem.1 hx;exact HNO.out m hm (by have:=HL.out;omega),rfl⟩,hbr⟩
   have HP:=zH hpst;clear hpst;(go_wp2_with fail);go_ret;exact HP.out
def DelFPostTP (base:Nat) (l:List (ByteArray)) (row:Option Nat) (w:World) (e:Ending) (w':World):Prop:=
 ∃v,e= .returned v∧w'.ownsRow base 9 1 v l.length (l.flatMap sE)∧w.grownBy w' row∧v.ownBlock=row
theorem slDelFuncTP_any (p:ByteArray→Bool)(C:World→Prop)(w:World)(base:Nat)(v:Value)(l:List (ByteArray))(hown:w.ownsRow base 9 1 v l.length (l.flatMap sE))(hC:∀W W',C W→W.grownBy W' v.ownBlock→C W')(gp:Nat)(hn:l.length≤1000000)(h0:C w)
  (hcall:∀W x,x∈l→C W→Calls Tryz.prog 96 #[.string x,.pointer (some ⟨gp,0,none⟩)] W fun e w'=>e= .returned (.bool (p x))∧Below W.heap.size W w'):
  Calls Tryz.prog 94 #[v,.func (.func 96) #[] #[.pointer (some ⟨gp,0,none⟩)]] w (DelFPostTP base (l.filter fun x=> !p x) v.ownBlock w):=by
 have hslv:SlV w 1 sE v l:=SlV.of_own hown sE_lenP (by decide);obtain⟨A,c,rfl,hc1,hc2,hsl⟩:=hslv;have HIX:=zH (idxTP_any p _ C hC w A l.length c gp l rfl hn hsl h0 hcall);have HO:=zH hown;clear hown;have HC:=zH hC;clear hC;have HCL:=zH hcall;clear hcall;have H0:=zH h0;clear h0;clear hsl;go_enter Tryz.func94,Tryz.ntmps94
 go_wp2_with fail
 refine HIX.out.mono ?_;rintro e w1 ⟨⟨i0,hi0,hno,hyes,rfl⟩ | ⟨hnone,rfl⟩,hb1⟩
 ·have hne:((i0:Int)== -1)=false:=by rw[zB];omega
  obtain⟨g,cap0,cur0,hA,hbg0,hB0,hnc0,hcm0,hcs0,htk0⟩:=own_form HO.out (by omega);obtain⟨rfl,rfl⟩:A=some ⟨g,0,none⟩∧c=cap0:=by injection hA with e1 e2 e3;exact⟨e1,e3⟩
  have HFI:=zH (show(l.take i0).filter (fun x=> !p x)=l.take i0∧(l.take (i0+1)).filter (fun x=> !p x)=l.take i0 from by
   have h1:(l.take i0).filter (fun x=> !p x)=l.take i0:=by
    rw[List.filter_eq_self];intro x hx;obtain⟨m,hm,rfl⟩:=List.mem_iff_getElem.1 hx;rw[zL] at hm;rw[List.getElem_take,hno m (by omega) (by omega)];rfl
   refine⟨h1,?_⟩;rw[zG hi0,List.filter_append,h1];simp [hyes])
  have HB1:=zH (zA hb1 (own_kept HO.out hb1));clear hb1 hno hyes hB0 htk0 hcs0;have hi30:(i0:Int)+1≤1000001:=by omega
  obtain⟨n,hnl⟩:∃n,l.length=n:=⟨_,rfl⟩;rw[hnl] at HO HB1 hi0 hn hc1 hnc0;unfold maxLen at hc2 hcm0;rw[hnl];have HNL:=zH hnl;clear hnl hA hcm0;go_wp2_with fail
  go_loopw [5,6] (fun iv jv wr=>∃i j:Nat,i<j∧j≤n∧iv= .int .i64 i∧jv= .int .i64 j∧∃cs:List (ByteArray),cs.length=n∧wr.ownsRow base 9 1 (.slice (some ⟨g,0,none⟩) n c) n (cs.flatMap sE)∧cs.take i=(l.take j).filter (fun x=> !p x)∧cs.drop j=l.drop j∧w.grownBy wr (some g)) (fun _ jv _=>n-(intOf jv).toNat)
  case atStart=>exact⟨i0,i0+1,by omega,by omega,rfl,by go_num,l,HNL.out,HB1.out.2,HFI.out.2.symm,rfl,grown_below HB1.out.1⟩
  case round=>
   obtain⟨i,j,hij,hjn,rfl,rfl,cs,hcl,ho,htk,hdr,hg⟩:=hrel;have HR:=zH (zA ho (zA htk (zA hdr (zA hg hcl))));clear ho htk hdr hg hcl;by_cases hlt:j<n
   ·obtain⟨gp',cap,cur,hA,hbg,hB,hnc,hcm,hcs,htk⟩:=own_form HR.out.1 (by omega);(obtain⟨rfl,rfl⟩:g=gp'∧c=cap:=by injection hA with e1 e2 e3;exact⟨congrArg Addr.block (Option.some.inj e1),e3⟩);(have hjl:j<cs.length:=by rw[HR.out.2.2.2.2];exact hlt);(have hjL:j<l.length:=by rw[HNL.out];exact hlt);have hxe:cs[j]=l[j]:=by
     (have h1:(cs.drop j)[0]? =(l.drop j)[0]? :=by rw[HR.out.2.2.1]);rw[List.getElem?_drop,List.getElem?_drop,Nat.add_zero,zM hjl,zM hjL] at h1;exact Option.some.inj h1
    have hcj:=fun(q:Nat) (hq:q<1)=>(by
     have h1:=flat_get sE_lenP cs j hjl q hq;(have h2:j*1+q<n*1:=by have:(j+1)*1≤n*1:=Nat.mul_le_mul_right _ hlt;omega);rw[hB.cell,←Array.getElem?_toList,←h1,←htk,List.getElem?_take,if_pos h2]:wr.cell? ⟨g,j*1+q,none⟩=(sE cs[j])[q]?)
    simp only[hxe] at hcj;have hmem:l[j]∈l:=zP hjL;obtain⟨x,hx⟩:∃x,l[j]=x:=⟨_,rfl⟩;rw[hx] at hmem;simp only[hx] at hcj;have HX:=zH hx;clear hx hxe;have hcw:C wr:=HC.out w wr H0.out HR.out.2.2.2.1;have HF:=zH (HCL.out _ x hmem hcw);clear hcw hmem;(have b0:wr.cell? ⟨g,j,none⟩=some (.string x):=by have:=hcj 0 (by omega);simpa [sE] using this);(have hq3:(j:Int)<n:=by omega);have HB:=zH hB;have HTK:=zH htk;clear hB htk hcs hcj hA hcm;have HPX:=zH (fun(hp:p x=true)=>(by rw[zG hjL,HX.out,List.filter_append,HR.out.2.1];simp [hp]:cs.take i=(l.take (j+1)).filter (fun x=> !p x)));have HPY:=zH (fun(hp:p x=false)=>(by rw[zG hjL,HX.out,List.filter_append,←HR.out.2.1];simp [hp]:(l.take (j+1)).filter (fun x=> !p x)=cs.take i++[x]));obtain⟨pv,hpv⟩:∃pv,p x=pv:=⟨_,rfl⟩;rw[hpv] at HPX HPY HF;cases pv with
    | true=>
     clear hpv;(go_wp2_with fail);refine HF.out.mono ?_;rintro e w2 ⟨rfl,hb2⟩;have hg2:w.grownBy w2 (some g):=grown_sub HR.out.2.2.2.1 (grown_below (row:=none) hb2) (fun k hk=>by cases hk);have HZ:=zH (zA hg2 (own_kept HR.out.1 hb2));clear hg2 hb2;(go_wp2_with fail);go_roundw
     case rel=>exact⟨i,j+1,by omega,by omega,rfl,by go_num,cs,HR.out.2.2.2.2,HZ.out.2,HPX.out (by trivial),by rw[←List.drop_drop,←List.drop_drop,HR.out.2.2.1],HZ.out.1⟩
     case measure=>simp [intOf];omega
    | false=>
     clear hpv;(go_wp2_with fail);refine HF.out.mono ?_;rintro e w2 ⟨rfl,hb2⟩;have hg2:w.grownBy w2 (some g):=grown_sub HR.out.2.2.2.1 (grown_below (row:=none) hb2) (fun k hk=>by cases hk);have ho2:=own_kept HR.out.1 hb2;have hB:=HB.out.below hb2 HB.out.lt;have fa0:=hB.frozen i;(have hil:i<cs.length:=by rw[HR.out.2.2.2.2];omega);have hci:=fun(q:Nat) (hq:q<1)=>(by
      have h1:=flat_get sE_lenP cs i hil q hq;(have h2:i*1+q<n*1:=by have:(i+1)*1≤n*1:=Nat.mul_le_mul_right _ (by omega);omega);rw[hB.cell,←Array.getElem?_toList,←h1,←HTK.out,List.getElem?_take,if_pos h2]:w2.cell? ⟨g,i*1+q,none⟩=(sE cs[i])[q]?)
     obtain⟨y,hy⟩:∃y,cs[i]=y:=⟨_,rfl⟩;simp only[hy] at hci;(have a0:w2.cell? ⟨g,i,none⟩=some (.string y):=by have:=hci 0 (by omega);simpa [sE] using this);clear hci hy;have HST:=zH (by
      have h1:=own_setCells (sE x) (i*1) w2 _ ho2 (by rw[sE_lenP];omega);have f1:=flat_put sE_lenP cs i hil x 0 (sE x) (by rw[sE_lenP];omega) (by simp [sE]);simp only[Nat.add_zero] at f1;rw[f1] at h1;have h2:=zA h1 (grown_setCells (sE x) (i*1) w2 hg2);rw[Nat.mul_one] at h2;exact h2)
     (obtain⟨hq4,hq5⟩:(i:Int)<n∧i<n:=by omega);clear hB hg2 ho2 hb2;(go_wp2_with fail);go_roundw
     case rel=>exact⟨i+1,j+1,by omega,by omega,by go_num,by go_num,cs.set i x,by rw[List.length_set];exact HR.out.2.2.2.2,HST.out.1,by rw[HPY.out (by trivial),zG (by rw[List.length_set];exact hil),List.getElem_set_self,List.take_set_of_le (zN _)],by rw[List.drop_set_of_lt (by omega),←List.drop_drop,←List.drop_drop,HR.out.2.2.1],HST.out.2⟩
     case measure=>simp [intOf];omega
   ·(obtain rfl:j=n:=by omega);obtain⟨gp',cap,cur,hA,hbg,hB,hnc,hcm,hcs,htk⟩:=own_form HR.out.1 (by omega);(obtain⟨rfl,rfl⟩:g=gp'∧c=cap:=by injection hA with e1 e2 e3;exact⟨congrArg Addr.block (Option.some.inj e1),e3⟩);obtain⟨r2,hcl,hr2s,hr2t⟩:=run_clear_rows (P:=Tryz.prog) wr 34 9 (.string ⟨#[]⟩) 1 Tryz.underlying34 Tryz.zeroValue9 rfl (by decide) g (i*1) (j-i) (c-i) (by omega) cur 9 hB (by rw[hcs,Nat.sub_mul];have:i*1≤j*1:=Nat.mul_le_mul_right _ (by omega);have:j*1≤c*1:=Nat.mul_le_mul_right _ (by omega);omega);rw[Nat.mul_one] at hcl;(have hfl:l.filter (fun x=> !p x)=cs.take i:=by rw[HR.out.2.1,zO (by rw[HNL.out];omega)]);(have hil:i≤cs.length:=by rw[HR.out.2.2.2.2];omega);have hx2:r2.toList.take (i*1)=(l.filter fun x=> !p x).flatMap sE:=by
     rw[hr2t,hfl,flat_take sE_lenP,←htk,List.take_take,Nat.min_eq_left (Nat.mul_le_mul_right _ (by omega))]
    (have hli:(l.filter fun x=> !p x).length=i:=by rw[hfl,zL];omega);have hfin:DelFPostTP base (l.filter fun x=> !p x) (some g) w (.returned (.slice (some ⟨g,0,none⟩) i c)) (wr.setRow g r2):=
     ⟨_,rfl,by rw[hli];exact own_mk hbg (hB.setRow _) (by omega) hc2 (by rw[hr2s,hcs]) hx2,grown_trans HR.out.2.2.2.1 (grown_setRow _ _ _),rfl⟩
    have HF:=zH hfin;clear hfin hx2 hli hfl htk hcs hB hA hr2t hr2s hil hcm;(obtain⟨h1,h2,h3,h4,h5⟩:(i:Int)≤j∧i≤j∧¬c=i∧(i:Int)≤c∧i≤c:=by omega);(go_wp2_with (at_builtin;refine wpList_clear_rows _ rfl _ 34 rfl _ rfl (hcl _) ?_));go_ret;exact HF.out
 ·have hfl:l.filter (fun x=> !p x)=l:=by
   rw[List.filter_eq_self];intro x hx;rw[hnone x hx];rfl
  have hpst:DelFPostTP base (l.filter fun x=> !p x) (Value.slice A l.length c).ownBlock w (.returned (.slice A l.length c)) w1:=⟨_,rfl,by rw[hfl];exact own_kept HO.out hb1,grown_below hb1,rfl⟩;have HF:=zH hpst;clear hpst;clear hfl hnone hb1;go_wp2_with fail
  go_ret;exact HF.out
end Go.Proofs.YtnpehjgnplaabaaGreatDoor
namespace Sw
open Go Go.Proofs.YtnpehjgnplaabaaGreatDoor
def ndAt (f:NP→Nd) (l:List NP) (q:ByteArray):Nd:=((fN l q).map f).getD ndZ
theorem lkN_getD (f:NP→Nd)(l:List NP)(q:ByteArray):(lkN f l q).getD (.agg #[.int .i64 0,.int .i64 0,.int .u32 0,.string ⟨#[]⟩])= .agg (ndAt f l q).c:=by
 unfold lkN ndAt;cases fN l q with
 | none=>rfl
 | some n=>rfl
theorem fN_mem {l:List NP}(h:Rise (l.map NP.path)){n:NP}(hn:n∈l):fN l n.path=some n:=by
 induction l with
 | nil=>cases hn
 | cons m l ih=>
  have hr:=List.pairwise_cons.1 h;unfold fN;rcases List.mem_cons.1 hn with rfl | hn
  ·rw[List.find?_cons_of_pos (by simp)]
  ·have hne:¬m.path=n.path:=fun e=>by
    have:=hr.1 n.path (List.mem_map.2 ⟨n,hn,rfl⟩);rw[e,ordS_refl] at this;omega
   rw[List.find?_cons_of_neg (by simpa using hne)];exact ih hr.2 hn
theorem ndAt_mem (f:NP→Nd){l:List NP}(h:Rise (l.map NP.path)){n:NP}(hn:n∈l):ndAt f l n.path=f n:=by
 unfold ndAt;rw[fN_mem h hn];rfl
def holdsN (f:NP→Nd) (l:List NP) (p:ByteArray):Bool:= !decide ((ndAt f l p).kind=2)&&(insN l p).any fun q=> !decide (q=p)&& !decide ((ndAt f l q).kind=0)
theorem holdsN_any (f:NP→Nd){l:List NP}(h:Rise (l.map NP.path)){m:NP}(hm:m∈l):holdsN f l m.path=l.any fun n=> !decide (n.path=m.path)&&inQ m.path n.path&&(!decide ((f m).kind=2)&& !decide ((f n).kind=0)):=by
 unfold holdsN insN;rw[ndAt_mem f h hm,Bool.eq_iff_iff];simp only[Bool.and_eq_true,List.any_eq_true,List.mem_filter,List.mem_map,Bool.not_eq_true',decide_eq_false_iff_not];constructor
 ·rintro ⟨h1,q,⟨⟨n,hn,rfl⟩,h2⟩,h3,h4⟩;rw[ndAt_mem f h hn] at h4;exact⟨n,hn,⟨h3,h2⟩,h1,h4⟩
 ·rintro ⟨n,hn,⟨h3,h2⟩,h1,h4⟩;exact⟨h1,n.path,⟨⟨n,hn,rfl⟩,h2⟩,h3,by rw[ndAt_mem f h hn];exact h4⟩
theorem bad_holds {l:List NP}(h:Rise (l.map NP.path)){m:NP}(hm:m∈l):(holdsN NP.left l m.path||holdsN NP.right l m.path)=badN l m:=by
 rw[holdsN_any NP.left h hm,holdsN_any NP.right h hm,Bool.eq_iff_iff];unfold badN;simp only[Bool.or_eq_true,List.any_eq_true,Bool.and_eq_true];constructor
 ·rintro (⟨n,hn,h1,h2⟩ | ⟨n,hn,h1,h2⟩)
  ·exact⟨n,hn,h1,.inl h2⟩
  ·exact⟨n,hn,h1,.inr h2⟩
 ·rintro ⟨n,hn,h1,h2 | h2⟩
  ·exact .inl ⟨n,hn,h1,h2⟩
  ·exact .inr ⟨n,hn,h1,h2⟩
end Sw
namespace Go.Proofs.YtnpehjgnplaabaaGreatDoor
open Go Go.RowKit
open Sw
theorem strRg (s t:ByteArray):(s.toList==t.toList)=decide (s=t):=by
 rw[ByteArray.toList_eq,ByteArray.toList_eq];by_cases h:s=t
 ·subst h;rw[zE rfl];simp
 ·rw[zD h,zB];intro e;exact h (ByteArray.ext (Array.ext' e))
theorem zeroNd (w:World):(zeroValue 57).run Tryz.prog w= .ok (.agg #[.int .i64 0,.int .i64 0,.int .u32 0,.string ⟨#[]⟩]) w:=by kernel_rfl
theorem ndField0 (w:World)(a b c d:Value):(Instr.field 57 (.agg #[a,b,c,d]) 0).run Tryz.prog w= .ok a w:=by kernel_rfl
theorem inside1R_any (w:World)(g:Nat)(p q:ByteArray)(hq:q.size≤90000)(hg:Blk w g 9 #[.string p]):
  Calls Tryz.prog 96 #[.string q,.pointer (some ⟨g,0,none⟩)] w fun e w'=>e= .returned (.bool (!inQ p q))∧Below w.heap.size w w':=by
 have HU:=zH (under_any w p q hq);have x0:=hg.cell 0;simp only[qA,qC] at x0;have hs:=strRg q p;have hi:(!inQ p q)=(!decide (q=p)&& !inS (upsS q) p):=by
  unfold inQ;rw[Bool.not_or,show decide (p=q)=decide (q=p) from by simp [eq_comm]]
 rw[hi];clear hg hi;generalize inS (upsS q) p=U at*;generalize decide (q=p)=D at*;cases D with
 | true=>
  go_enter Tryz.func96,Tryz.ntmps96
  go_wp2_with fail
  go_ret;exact⟨rfl,zR _ _⟩
 | false=>
  go_enter Tryz.func96,Tryz.ntmps96
  go_wp2_with fail
  refine HU.out.mono ?_;rintro e w1 ⟨rfl,hb1⟩;have H1:=zH hb1;clear hb1 x0 HU;go_wp2_with fail
  go_ret;exact⟨by simp,H1.out⟩
theorem regInside_any (w:World)(gs bt bt2 m0 m1 mc:Nat)(policy:Int)(pv gv:Value)(ps:List ByteArray)(p:ByteArray)
  (hbox:Blk w gs 76 #[.pointer (some ⟨bt,0,none⟩),.pointer (some ⟨bt2,0,none⟩),.int .i64 policy,pv,.map (some m0),.map (some m1),.map (some mc),gv])
  (hv:SlV w 1 sE pv ps) (hn:ps.length≤10000) (hz:∀q∈ps,q.size≤90000):
  Calls Tryz.prog 58 #[.pointer (some ⟨gs,0,none⟩),.string p] w fun e w'=>∃u,e= .returned u∧w'.ownsRow w.heap.size 9 1 u (ps.filter (inQ p)).length ((ps.filter (inQ p)).flatMap sE)∧Below w.heap.size w w':=by
 have hb:Below w.heap.size w (w.alloc (.cells #[.string p] 9)):=(zR _ w).alloc (zN _) _;have hB:=Blk.new w 9 #[Value.string p];obtain⟨W,hW⟩:∃W,w.alloc (.cells #[.string p] 9)=W:=⟨_,rfl⟩;rw[hW] at hb hB;have HCL:=zH (slCloneST_any sE sE_lenP sE_oneP W pv ps (hv.below hb (zN _)) (by omega));have hbW:=hbox.below hb hbox.lt;have x2:=hbW.cell 3;simp only[qA,qB,qC] at x2;have HB:=zH (zA hb (zA hB hv));have HW:=zH hW;have HZ:=zH hz;obtain⟨A,c,rfl,_,_,_⟩:=hv;clear hb hB hW hz hbW hbox;obtain⟨n,hnl⟩:∃n,ps.length=n:=⟨_,rfl⟩;have HN:=zH hnl;rw[hnl] at HCL HB x2 hn;clear hnl;go_enter Tryz.func58,Tryz.ntmps58
 go_upto_region 1 with fail
 rw[HW.out];go_wp2_with fail
 refine HCL.out.mono ?_;rintro e w1 ⟨u,rfl,ho,hb1⟩;have ho':w1.ownsRow W.heap.size 9 1 u ps.length (ps.flatMap sE):=by rw[HN.out];exact ho
 have hlg:∀k,u.ownBlock=some k→W.heap.size≤k:=fun k hk=>(ho'.lt k hk).1
 have HD:=zH (slDelFuncTP_any (fun q=> !inQ p q) (fun V=>Below W.heap.size W V) w1 W.heap.size u ps ho' (fun V V' h hg=>h.grown hg h.size (fun k hk=>hlg k hk)) w.heap.size (by rw[HN.out];omega) hb1 (fun V x hx h=>inside1R_any V w.heap.size p x (HZ.out x hx) (HB.out.2.1.below h HB.out.2.1.lt)));have HL:=zH (zA (HB.out.1.trans (hb1.mono HB.out.1.size)) (zA hlg HB.out.1.size));obtain⟨A2,c2,rfl,_,_,_⟩:=SlV_of_any ho;clear ho ho' hlg hb1 x2 HCL;go_wp2_with fail
 refine HD.out.mono ?_;rintro e w2 ⟨v2,rfl,ho2,hg2,hr2⟩;have hfl:(ps.filter fun x=> !(!inQ p x))=ps.filter (inQ p):=by simp
 rw[hfl] at ho2;have hb2:=HL.out.1.grown hg2 HL.out.1.size (fun k hk=>zT HL.out.2.2 (HL.out.2.1 k hk));have HF:=zH (zA (own_wide ho2 HL.out.2.2) hb2);obtain⟨A3,c3,rfl,_,_,_⟩:=SlV_of_any ho2;clear ho2 hg2 hr2 hb2 hfl HD;obtain⟨k,hk⟩:∃k,(ps.filter (inQ p)).length=k:=⟨_,rfl⟩;rw[hk] at HF⊢;have HKK:=zH hk;clear hk;go_wp2_with fail
 go_ret;exact⟨.slice A3 k c3,rfl,by rw[HKK.out];exact HF.out.1,HF.out.2⟩
theorem bad11_any (w:World)(gp gn m N:Nat)(p q:ByteArray)(f:NP→Nd)(l:List NP)(hp:Blk w gp 9 #[.string p])(hn:Blk w gn 73 #[.map (some m)])(hm:MapV w Tryz.prog 9 litT okT m N (lkN f l))(hq:q.size≤90000):
  Calls Tryz.prog 60 #[.string q,.pointer (some ⟨gp,0,none⟩),.pointer (some ⟨gn,0,none⟩)] w fun e w'=>e= .returned (.bool (!decide (q=p)&& !decide ((ndAt f l q).kind=0)))∧w'=w:=by
 have hqk:okT q:=zT hq (by unfold maxLen;omega);have x0:=hp.cell 0;have x1:=hn.cell 0;simp only[qA,qC] at x0 x1;have hs:=strRg q p;have hlk:=hm.look (keyStr Tryz.underlying9) Tryz.underlying73 (zeroNd w) hqk;rw[lkN_getD] at hlk;have hf0:=ndField0;obtain⟨⟨ka,kb,kc,kd⟩,hnd⟩:∃n,ndAt f l q=n:=⟨_,rfl⟩;rw[hnd] at hlk⊢;simp only[Nd.c] at hlk;clear hp hn hm hnd;generalize decide (q=p)=D at*;cases D with
 | true=>
  go_enter Tryz.func60,Tryz.ntmps60
  go_wp2_with fail
  go_ret;exact⟨rfl,rfl⟩
 | false=>
  by_cases hk:ka=0
  ·subst hk;go_enter Tryz.func60,Tryz.ntmps60
   (go_wp2_with fail);go_ret;exact⟨rfl,rfl⟩
  ·have t0:(ka !=0)=true:=by simpa using hk
   have HD:=zH (show(!false&& !decide (ka=0))=true by rw[zD hk];rfl);clear hk;(go_enter Tryz.func60,Tryz.ntmps60);(go_wp2_with fail);go_ret;exact⟨by rw[HD.out];rfl,rfl⟩
theorem bad1_any (w:World)(gp gu m N:Nat)(p:ByteArray)(u:Value)(U:List ByteArray)(f:NP→Nd)(l:List NP)(hp:Blk w gp 9 #[.string p])(hgu:Blk w gu 34 #[u])(hu:SlV w 1 sE u U)(hun:U.length≤1000000)(hm:MapV w Tryz.prog 9 litT okT m N (lkN f l))(hps:p.size≤90000)(hz:∀q∈U,q.size≤90000):
  Calls Tryz.prog 59 #[.map (some m),.pointer (some ⟨gp,0,none⟩),.pointer (some ⟨gu,0,none⟩)] w fun e w'=>e= .returned (.bool (!decide ((ndAt f l p).kind=2)&&U.any fun q=> !decide (q=p)&& !decide ((ndAt f l q).kind=0)))∧Below w.heap.size w w':=by
 have hpk:okT p:=zT hps (by unfold maxLen;omega);have hb:Below w.heap.size w (w.alloc (.cells #[.map (some m)] 73)):=(zR _ w).alloc (zN _) _;have hB:=Blk.new w 73 #[.map (some m)];obtain⟨W,hW⟩:∃W,w.alloc (.cells #[.map (some m)] 73)=W:=⟨_,rfl⟩;rw[hW] at hb hB;have hpW:=hp.below hb hp.lt;have hgW:=hgu.below hb hgu.lt;have hmW:=hm.below hb hm.lt;have x0:=hpW.cell 0;have x1:=hB.cell 0;have x2:=hgW.cell 0;simp only[qA,qC] at x0 x1 x2;have hlk:=hmW.look (keyStr Tryz.underlying9) Tryz.underlying73 (zeroNd W) hpk;rw[lkN_getD] at hlk;have hf0:=ndField0;have HC:=zH (conBD_any (fun q=> !decide (q=p)&& !decide ((ndAt f l q).kind=0)) (fun V=>Blk V gp 9 #[.string p]∧Blk V w.heap.size 73 #[.map (some m)]∧MapV V Tryz.prog 9 litT okT m N (lkN f l)) (fun V V' h hg=>⟨h.1.grown hg (by simp),h.2.1.grown hg (by simp),h.2.2.kept hg (by simp)⟩) W u gp w.heap.size U (hu.below hb (zN _)) hun ⟨hpW,hB,hmW⟩ (fun V x hx h=>(bad11_any V gp w.heap.size m N p x f l h.1 h.2.1 h.2.2 (hz x hx)).mono (by rintro e w2 ⟨rfl,rfl⟩;exact⟨rfl,zR _ _⟩)));have HB:=zH hb;have HW:=zH hW;obtain⟨⟨ka,kb,kc,kd⟩,hnd⟩:∃n,ndAt f l p=n:=⟨_,rfl⟩;rw[hnd] at hlk⊢;simp only[Nd.c] at hlk;obtain⟨A,c,rfl,_,_,_⟩:=hu;clear hp hgu hm hnd hb hB hW hpW hgW hmW hz;generalize (U.any fun q=> !decide (q=p)&& !decide ((ndAt f l q).kind=0))=R at*;generalize U.length=n at*;by_cases hk:ka=2
 ·subst hk;go_enter Tryz.func59,Tryz.ntmps59
  go_upto_region 1 with fail
  rw[HW.out];go_wp2_with fail
  go_ret;exact⟨rfl,HB.out⟩
 ·have t0:(ka !=2)=true:=by simpa using hk
  have HD:=zH (show(!decide (ka=2)&&R)=R by rw[zD hk];rfl);clear hk;go_enter Tryz.func59,Tryz.ntmps59
  go_upto_region 1 with fail
  rw[HW.out];go_wp2_with fail
  refine HC.out.mono ?_;rintro e w1 ⟨rfl,hb1⟩;have H1:=zH (HB.out.trans (hb1.mono HB.out.size));clear hb1 hlk x0 x1 x2 HC;go_wp2_with fail
  go_ret;exact⟨by rw[HD.out];rfl,H1.out⟩
theorem regBad_any (w:World)(gs bt bt2 m0 m1 mc N:Nat)(policy:Int)(pv gv:Value)(l:List NP)(p:ByteArray)
  (hbox:Blk w gs 76 #[.pointer (some ⟨bt,0,none⟩),.pointer (some ⟨bt2,0,none⟩),.int .i64 policy,pv,.map (some m0),.map (some m1),.map (some mc),gv])
  (hv:SlV w 1 sE pv (l.map NP.path)) (hn:l.length≤10000) (hz:∀q∈l.map NP.path,q.size≤90000) (hps:p.size≤90000) (hA:MapV w Tryz.prog 9 litT okT m0 N (lkN NP.left l)) (hB:MapV w Tryz.prog 9 litT okT m1 N (lkN NP.right l)):
  Calls Tryz.prog 27 #[.pointer (some ⟨gs,0,none⟩),.string p] w fun e w'=>e= .returned (.bool (holdsN NP.left l p||holdsN NP.right l p))∧Below w.heap.size w w':=by
 have hb:Below w.heap.size w (w.alloc (.cells #[.string p] 9)):=(zR _ w).alloc (zN _) _;have hG:=Blk.new w 9 #[Value.string p];obtain⟨W,hW⟩:∃W,w.alloc (.cells #[.string p] 9)=W:=⟨_,rfl⟩;rw[hW] at hb hG;have hbW:=hbox.below hb hbox.lt;have HI:=zH (regInside_any W gs bt bt2 m0 m1 mc policy pv gv (l.map NP.path) p hbW (hv.below hb (zN _)) (by rw[zS];exact hn) hz);have hfl:(l.map NP.path).filter (inQ p)=insN l p:=rfl;rw[hfl] at HI;have hil:(insN l p).length≤10000:=by unfold insN;exact zT (List.length_filter_le _ _) (by rw[zS];exact hn)
 have hiz:∀q∈insN l p,q.size≤90000:=fun q hq=>hz q ((List.mem_filter.1 hq).1)
 have HZ:=zH (zA hil (zA hiz hps));have x0:=hG.cell 0;simp only[qA,qC] at x0;have H0:=zH (zA hb (zA hG (zA hbW (zA (hA.below hb hA.lt) (hB.below hb hB.lt)))));have HW:=zH hW;obtain⟨R0,hR0⟩:∃r,holdsN NP.left l p=r:=⟨_,rfl⟩;obtain⟨R1,hR1⟩:∃r,holdsN NP.right l p=r:=⟨_,rfl⟩;rw[hR0,hR1];have HR:=zH (zA hR0 hR1);clear hb hG hW hbW hbox hv hA hB hz hil hiz hR0 hR1 hfl;go_enter Tryz.func27,Tryz.ntmps27
 go_upto_region 1 with fail
 rw[HW.out];go_wp2_with fail
 refine HI.out.mono ?_;rintro e w1 ⟨u,rfl,ho,hb1⟩;obtain⟨V,hV⟩:∃V,w1.alloc (.cells #[u] 34)=V:=⟨_,rfl⟩;obtain⟨gu,hgu⟩:∃g,w1.heap.size=g:=⟨_,rfl⟩;have hbV:Below w1.heap.size w1 V:=by rw[←hV];exact(zR _ w1).alloc (zN _) _
 have hBu:Blk V gu 34 #[u]:=by rw[←hV,←hgu];exact Blk.new _ _ _
 have hWV:Below W.heap.size W V:=hb1.trans (hbV.mono hb1.size);have hoV:=own_kept ho hbV;have HH:=zH (fun(f:NP→Nd) (m:Nat) V' (h:Below V.heap.size V V') (hm:MapV W Tryz.prog 9 litT okT m N (lkN f l))=>bad1_any V' w.heap.size gu m N p u (insN l p) f l ((H0.out.2.1.below hWV H0.out.2.1.lt).below h (H0.out.2.1.below hWV H0.out.2.1.lt).lt) (hBu.below h hBu.lt) ((SlV.of_own hoV sE_lenP (by decide)).below h (zN _)) (by have:=HZ.out.1;omega) ((hm.below hWV hm.lt).below h (hm.below hWV hm.lt).lt) HZ.out.2.2 HZ.out.2.1);have hbxV:=H0.out.2.2.1.below hWV H0.out.2.2.1.lt;have y4:=hbxV.cell 4;have y5:=hbxV.cell 5;simp only[qA,qB,qC] at y4 y5;have H1:=zH (zA (H0.out.1.trans (hWV.mono H0.out.1.size)) hbxV);have h0:=HH.out NP.left m0 V (zR _ _) H0.out.2.2.2.1;rw[show(!decide ((ndAt NP.left l p).kind=2)&&(insN l p).any fun q=> !decide (q=p)&& !decide ((ndAt NP.left l q).kind=0))=R0 from HR.out.1] at h0;have HL:=zH h0;obtain⟨A2,c2,rfl,_,_,_⟩:=SlV_of_any ho;clear ho hoV hb1 hbV hBu hWV hbxV x0 HI h0;generalize (insN l p).length=k at*;go_wp2_with fail
 clear hV hgu;refine HL.out.mono ?_;rintro e w2 ⟨rfl,hb2⟩;have hbx2:=H1.out.2.below hb2 H1.out.2.lt;have z4:=hbx2.cell 4;have z5:=hbx2.cell 5;simp only[qA,qB,qC] at z4 z5;have H2:=zH (zA (H1.out.1.trans (hb2.mono H1.out.1.size)) hb2);clear hb2 hbx2 y4 y5 HL;cases R0 with
 | true=>
  go_wp2_with fail
  go_ret;exact⟨rfl,H2.out.1⟩
 | false=>
  have h1:=HH.out NP.right m1 w2 H2.out.2 H0.out.2.2.2.2;rw[show(!decide ((ndAt NP.right l p).kind=2)&&(insN l p).any fun q=> !decide (q=p)&& !decide ((ndAt NP.right l q).kind=0))=R1 from HR.out.2] at h1;have HL:=zH h1;clear h1;go_wp2_with fail
  refine HL.out.mono ?_;rintro e w3 ⟨rfl,hb3⟩;have H3:=zH (H2.out.1.trans (hb3.mono H2.out.1.size));clear hb3 HL;go_wp2_with fail
  go_ret;exact⟨rfl,H3.out⟩
end Go.Proofs.YtnpehjgnplaabaaGreatDoor
namespace Sw
open Go
theorem newN_take (l:List NE)(i:Nat)(h:i<l.length):newN (l.take (i+1))=max (newN (l.take i)) l[i].2.time:=by
 unfold newN;rw[zG h,List.foldl_append];rfl
end Sw
namespace Go.Proofs.YtnpehjgnplaabaaGreatDoor
open Go Go.RowKit
open Sw
theorem regPolicy_any (w:World)(p:Int):
  Calls Tryz.prog 15 #[.int .i64 p] w fun e w'=>e= .returned (.bool (decide (0≤p∧p≤3)))∧w'=w:=by
 by_cases h1:0≤p
 ·by_cases h2:p≤3
  ·rw[zE (show 0≤p∧p≤3 from⟨h1,h2⟩)];go_enter Tryz.func15,Tryz.ntmps15
   (go_wp2_with fail);go_ret;exact⟨rfl,rfl⟩
  ·rw[zD (show ¬(0≤p∧p≤3) from fun h=>h2 h.2)];go_enter Tryz.func15,Tryz.ntmps15
   (go_wp2_with fail);go_ret;exact⟨rfl,rfl⟩
 ·rw[zD (show ¬(0≤p∧p≤3) from fun h=>h1 h.1)];go_enter Tryz.func15,Tryz.ntmps15
  go_wp2_with fail
  go_ret;exact⟨rfl,rfl⟩
theorem regNewest_any (w:World)(v:Value)(l:List NE)(h:SlV w 5 eCSN v l):
  Calls Tryz.prog 17 #[v] w fun e w'=>e= .returned (.int .u32 (newN l))∧Below w.heap.size w w':=by
 obtain⟨A,c,rfl,hc1,hc2,hsl⟩:=h;obtain⟨n,hn⟩:∃n,l.length=n:=⟨_,rfl⟩;rw[hn] at hc1⊢;unfold maxLen at hc2;have HL:=zH hn;clear hn;have HS:=zH hsl;clear hsl;go_enter Tryz.func17,Tryz.ntmps17
 go_wp2_with fail
 go_loopw [2,7] (fun tv iv wr=>∃(i:Nat) (t:Int),i≤n∧iv= .int .i64 i∧tv= .int .u32 t∧t=newN (l.take i)∧Below w.heap.size w wr) (fun _ iv=>fun _=>n-(intOf iv).toNat)
 case atStart=>exact⟨0,0,Nat.zero_le _,rfl,rfl,rfl,zR _ _⟩
 case round=>
  obtain⟨i,t,hi,rfl,rfl,ht,hb⟩:=hrel;by_cases hlt:i<n
  ·have hiL:i<l.length:=by have:=HL.out;omega
   obtain⟨b,off,rfl,hbb,hcs⟩:=(HS.out.below hb (zN _)) (by omega);obtain⟨c0,c1,c2,c3,c4⟩:=zs5 (hcs i hiL);simp only[eCSN,qB,qC,Nat.add_zero] at c0 c1 c2 c3 c4;clear hcs;(have hi1:(i:Int)<n:=by omega);have hst:=newN_take l i hiL;rw[←ht] at hst;obtain⟨x,hx⟩:∃x,l[i]=x:=⟨_,rfl⟩;simp only[hx] at c0 c1 c2 c3 c4 hst;clear hx;obtain⟨p,ka,kb,kc,kd⟩:=x;simp only at c0 c1 c2 c3 c4 hst;have HST:=zH hst;have HB:=zH (hb.alloc hb.size (.cells #[.string p,.int .i64 ka,.int .i64 kb,.int .u32 kc,.string kd] 59));clear hst hb ht;(go_wp2_with fail);go_roundw
   case rel=>exact⟨i+1,max t kc,by omega,by go_num,by first | rfl | go_num,HST.out.symm,HB.out⟩
   case measure=>simp [intOf];omega
  ·obtain rfl:i=n:=by omega
   have htk:l.take i=l:=zO (by have:=HL.out;omega);rw[htk] at ht;have HF:=zH (zA ht hb);clear ht hb htk;(go_wp2_with fail);go_ret;exact⟨by rw[←HF.out.1];rfl,HF.out.2⟩
theorem refNewest_any (w:World)(v:Value)(l:List NE)(h:SlV w 5 eCSN v l):
  Calls Tryz.prog 18 #[v] w fun e w'=>e= .returned (.int .u32 (newN l))∧Below w.heap.size w w':=by
 obtain⟨A,c,rfl,hc1,hc2,hsl⟩:=h;obtain⟨n,hn⟩:∃n,l.length=n:=⟨_,rfl⟩;rw[hn] at hc1⊢;unfold maxLen at hc2;have HL:=zH hn;clear hn;have HS:=zH hsl;clear hsl;go_enter Tryz.func18,Tryz.ntmps18
 go_wp2_with fail
 go_loopw [3,8] (fun tv iv wr=>∃(i:Nat) (t:Int),i≤n∧iv= .int .i64 i∧tv= .int .u32 t∧t=newN (l.take i)∧Below w.heap.size w wr) (fun _ iv=>fun _=>n-(intOf iv).toNat)
 case atStart=>exact⟨0,0,Nat.zero_le _,rfl,rfl,rfl,zR _ _⟩
 case round=>
  obtain⟨i,t,hi,rfl,rfl,ht,hb⟩:=hrel;by_cases hlt:i<n
  ·have hiL:i<l.length:=by have:=HL.out;omega
   obtain⟨b,off,rfl,hbb,hcs⟩:=(HS.out.below hb (zN _)) (by omega);obtain⟨c0,c1,c2,c3,c4⟩:=zs5 (hcs i hiL);simp only[eCSN,qB,qC,Nat.add_zero] at c0 c1 c2 c3 c4;clear hcs;(have hi1:(i:Int)<n:=by omega);have hst:=newN_take l i hiL;rw[←ht] at hst;obtain⟨x,hx⟩:∃x,l[i]=x:=⟨_,rfl⟩;simp only[hx] at c0 c1 c2 c3 c4 hst;clear hx;obtain⟨p,ka,kb,kc,kd⟩:=x;simp only at c0 c1 c2 c3 c4 hst;have HST:=zH hst;have HB:=zH (hb.alloc hb.size (.cells #[.string p,.int .i64 ka,.int .i64 kb,.int .u32 kc,.string kd] 59));clear hst hb ht;by_cases hg:t<kc
   ·have HG:=zH (show kc=max t kc by omega);(go_wp2_with fail);go_roundw
    case rel=>exact⟨i+1,kc,by omega,by go_num,rfl,by rw[HST.out];exact HG.out,HB.out⟩
    case measure=>simp [intOf];omega
   ·have HG:=zH (show t=max t kc by omega);(go_wp2_with fail);go_roundw
    case rel=>exact⟨i+1,t,by omega,by go_num,rfl,by rw[HST.out];exact HG.out,HB.out⟩
    case measure=>simp [intOf];omega
  ·obtain rfl:i=n:=by omega
   have htk:l.take i=l:=zO (by have:=HL.out;omega);rw[htk] at ht;have HF:=zH (zA ht hb);clear ht hb htk;(go_wp2_with fail);go_ret;exact⟨by rw[←HF.out.1];rfl,HF.out.2⟩
theorem regSide_any (w:World)(p:Int)(u v:Value)(a b:List NE)(ha:SlV w 5 eCSN u a)(hb:SlV w 5 eCSN v b):
  Calls Tryz.prog 19 #[.int .i64 p,u,v] w fun e w'=>e= .returned (.int .i64 (sideN p a b))∧Below w.heap.size w w':=by
 have HP:=zH (regPolicy_any w p);have HN1:=zH (regNewest_any w u a ha);have HN2:=zH (fun W (h:Below w.heap.size w W)=>regNewest_any W v b (hb.below h (zN _)));have hs:sideN p a b=if p=3 then(if newN a<newN b then 2 else 1) else if p=1∨p=2 then p else 0:=rfl
 rw[hs];clear hs;generalize newN a=na at*;generalize newN b=nb at*;obtain⟨A1,c1,rfl,_,_,_⟩:=ha;obtain⟨A2,c2,rfl,_,_,_⟩:=hb;generalize a.length=n1 at*;generalize b.length=n2 at*;by_cases h3:p=3
 ·subst h3;rw[if_pos rfl];by_cases hl:na<nb
  ·rw[if_pos hl];go_enter Tryz.func19,Tryz.ntmps19
   (go_wp2_with fail);refine HN1.out.mono ?_;rintro e w1 ⟨rfl,hb1⟩;have H1:=zH hb1;clear hb1 HN1;(go_wp2_with fail);refine(HN2.out w1 H1.out).mono ?_;rintro e w2 ⟨rfl,hb2⟩;have H2:=zH (H1.out.trans (hb2.mono H1.out.size));clear hb2 HN2;(go_wp2_with fail);go_ret;exact⟨rfl,H2.out⟩
  ·rw[if_neg hl];go_enter Tryz.func19,Tryz.ntmps19
   (go_wp2_with fail);refine HN1.out.mono ?_;rintro e w1 ⟨rfl,hb1⟩;have H1:=zH hb1;clear hb1 HN1;(go_wp2_with fail);refine(HN2.out w1 H1.out).mono ?_;rintro e w2 ⟨rfl,hb2⟩;have H2:=zH (H1.out.trans (hb2.mono H1.out.size));clear hb2 HN2;(go_wp2_with fail);go_ret;exact⟨rfl,H2.out⟩
 ·rw[if_neg h3];have t3:(p !=3)=true:=by simpa using h3
  by_cases hr:0≤p∧p≤3
  ·rw[zE hr] at HP;have hv:(if p=1∨p=2 then p else 0)=p:=by
    by_cases h:p=1∨p=2
    ·rw[if_pos h]
    ·rw[if_neg h];omega
   rw[hv];clear hv h3 hr HN1 HN2;(go_enter Tryz.func19,Tryz.ntmps19);(go_wp2_with fail);refine HP.out.mono ?_;rintro e w1 ⟨rfl,rfl⟩;(go_wp2_with fail);go_ret;exact⟨rfl,zR _ _⟩
  ·rw[zD hr] at HP;have hv:(if p=1∨p=2 then p else 0)=0:=by rw[if_neg (by omega)]
   rw[hv];clear hv h3 hr HN1 HN2;(go_enter Tryz.func19,Tryz.ntmps19);(go_wp2_with fail);refine HP.out.mono ?_;rintro e w1 ⟨rfl,rfl⟩;(go_wp2_with fail);go_ret;exact⟨rfl,zR _ _⟩
theorem refSide_any (w:World)(p:Int)(u v:Value)(a b:List NE)(ha:SlV w 5 eCSN u a)(hb:SlV w 5 eCSN v b):
  Calls Tryz.prog 20 #[.int .i64 p,u,v] w fun e w'=>e= .returned (.int .i64 (sideN p a b))∧Below w.heap.size w w':=by
 have HN2:=zH (refNewest_any w v b hb);have HN1:=zH (fun W (h:Below w.heap.size w W)=>refNewest_any W u a (ha.below h (zN _)));have hs:sideN p a b=if p=3 then(if newN a<newN b then 2 else 1) else if p=1∨p=2 then p else 0:=rfl
 rw[hs];clear hs;generalize newN a=na at*;generalize newN b=nb at*;obtain⟨A1,c1,rfl,_,_,_⟩:=ha;obtain⟨A2,c2,rfl,_,_,_⟩:=hb;generalize a.length=n1 at*;generalize b.length=n2 at*;by_cases h3:p=3
 ·subst h3;rw[if_pos rfl];by_cases hl:na<nb
  ·rw[if_pos hl];go_enter Tryz.func20,Tryz.ntmps20
   (go_wp2_with fail);refine HN2.out.mono ?_;rintro e w1 ⟨rfl,hb1⟩;have H1:=zH hb1;clear hb1 HN2;(go_wp2_with fail);refine(HN1.out w1 H1.out).mono ?_;rintro e w2 ⟨rfl,hb2⟩;have H2:=zH (H1.out.trans (hb2.mono H1.out.size));clear hb2 HN1;(go_wp2_with fail);go_ret;exact⟨rfl,H2.out⟩
  ·rw[if_neg hl];go_enter Tryz.func20,Tryz.ntmps20
   (go_wp2_with fail);refine HN2.out.mono ?_;rintro e w1 ⟨rfl,hb1⟩;have H1:=zH hb1;clear hb1 HN2;(go_wp2_with fail);refine(HN1.out w1 H1.out).mono ?_;rintro e w2 ⟨rfl,hb2⟩;have H2:=zH (H1.out.trans (hb2.mono H1.out.size));clear hb2 HN1;(go_wp2_with fail);go_ret;exact⟨rfl,H2.out⟩
 ·rw[if_neg h3];have t3:(p==3)=false:=by simpa using h3
  clear HN1 HN2;by_cases h1:p=1
  ·subst h1;rw[if_pos (.inl rfl)];go_enter Tryz.func20,Tryz.ntmps20
   (go_wp2_with fail);go_ret;exact⟨rfl,zR _ _⟩
  ·have t1:(p==1)=false:=by simpa using h1
   by_cases h2:p=2
   ·subst h2;rw[if_pos (.inr rfl)];(go_enter Tryz.func20,Tryz.ntmps20);(go_wp2_with fail);go_ret;exact⟨rfl,zR _ _⟩
   ·(have t2:(p==2)=false:=by simpa using h2);rw[if_neg (by omega)];clear h1 h2 h3;(go_enter Tryz.func20,Tryz.ntmps20);(go_wp2_with fail);go_ret;exact⟨rfl,zR _ _⟩
theorem one_some (p:ByteArray)(n:Nd)(h:¬n.kind=0):oneN p n=[(p,n)]:=by unfold oneN;rw[if_neg h]
theorem one_none (p:ByteArray)(n:Nd)(h:n.kind=0):oneN p n=[]:=by unfold oneN;rw[if_pos h]
theorem regItems_any (w:World)(p:ByteArray)(n:Nd):
  Calls Tryz.prog 56 #[.string p,.agg n.c] w fun e w'=>∃r,e= .returned r∧OwnIt w' w.heap.size r (oneN p n)∧Below w.heap.size w w':=by
 obtain⟨ka,kb,kc,kd⟩:=n;have hb0:=(zR w.heap.size w).alloc (zN _) (.cells #[.int .i64 ka,.int .i64 kb,.int .u32 kc,.string kd] 57);have HB:=zH hb0;clear hb0;by_cases h:ka=0
 ·rw[one_none p _ h];subst h;unfold Nd.c;go_enter Tryz.func56,Tryz.ntmps56
  go_wp2_with fail
  go_ret;exact⟨_,rfl,World.ownsRow_nil _ _ _ _,HB.out⟩
 ·rw[one_some p _ h];have t0:(ka==0)=false:=by simpa using h
  clear h;unfold Nd.c;obtain⟨W,hW⟩:∃W,w.alloc (.cells #[.int .i64 ka,.int .i64 kb,.int .u32 kc,.string kd] 57)=W:=⟨_,rfl⟩;rw[hW] at HB;have HO:=zH (show(W.alloc (.cells #[.string p,.int .i64 ka,.int .i64 kb,.int .u32 kc,.string kd] 59)).ownsRow w.heap.size 59 5 (.slice (some ⟨W.heap.size,0,none⟩) 1 1) 1 [.string p,.int .i64 ka,.int .i64 kb,.int .u32 kc,.string kd] from
   ⟨rfl,.inr ⟨W.heap.size,1,_,rfl,HB.out.size,Blk.new _ _ _,by omega,by unfold maxLen;omega,rfl,rfl⟩⟩)
  have HB2:=zH (HB.out.alloc HB.out.size (.cells #[.string p,.int .i64 ka,.int .i64 kb,.int .u32 kc,.string kd] 59));have HW:=zH hW;clear hW;go_enter Tryz.func56,Tryz.ntmps56
  go_upto_region 1 with fail
  rw[HW.out];have x0:=(HW.out▸Blk.new w 57 #[.int .i64 ka,.int .i64 kb,.int .u32 kc,.string kd]:Blk W w.heap.size 57 #[.int .i64 ka,.int .i64 kb,.int .u32 kc,.string kd]);have y0:=x0.cell 0;have y1:=x0.cell 1;have y2:=x0.cell 2;have y3:=x0.cell 3;simp only[qA,qB,qC] at y0 y1 y2 y3;clear x0;go_wp2_with fail
  go_ret;exact⟨_,rfl,HO.out,HB2.out⟩
theorem refOne_any (w:World)(p:ByteArray)(n:Nd):
  Calls Tryz.prog 33 #[.string p,.agg n.c] w fun e w'=>∃r,e= .returned r∧OwnIt w' w.heap.size r (oneN p n)∧Below w.heap.size w w':=by
 obtain⟨ka,kb,kc,kd⟩:=n;have hb0:=(zR w.heap.size w).alloc (zN _) (.cells #[.int .i64 ka,.int .i64 kb,.int .u32 kc,.string kd] 57);have HB:=zH hb0;clear hb0;by_cases h:ka=0
 ·rw[one_none p _ h];subst h;unfold Nd.c;go_enter Tryz.func33,Tryz.ntmps33
  go_wp2_with fail
  go_ret;exact⟨_,rfl,World.ownsRow_nil _ _ _ _,HB.out⟩
 ·rw[one_some p _ h];have t0:(ka==0)=false:=by simpa using h
  clear h;unfold Nd.c;obtain⟨W,hW⟩:∃W,w.alloc (.cells #[.int .i64 ka,.int .i64 kb,.int .u32 kc,.string kd] 57)=W:=⟨_,rfl⟩;rw[hW] at HB;have HO:=zH (show(W.alloc (.cells #[.string p,.int .i64 ka,.int .i64 kb,.int .u32 kc,.string kd] 59)).ownsRow w.heap.size 59 5 (.slice (some ⟨W.heap.size,0,none⟩) 1 1) 1 [.string p,.int .i64 ka,.int .i64 kb,.int .u32 kc,.string kd] from
   ⟨rfl,.inr ⟨W.heap.size,1,_,rfl,HB.out.size,Blk.new _ _ _,by omega,by unfold maxLen;omega,rfl,rfl⟩⟩)
  have HB2:=zH (HB.out.alloc HB.out.size (.cells #[.string p,.int .i64 ka,.int .i64 kb,.int .u32 kc,.string kd] 59));have HW:=zH hW;clear hW;go_enter Tryz.func33,Tryz.ntmps33
  go_upto_region 1 with fail
  rw[HW.out];have x0:=(HW.out▸Blk.new w 57 #[.int .i64 ka,.int .i64 kb,.int .u32 kc,.string kd]:Blk W w.heap.size 57 #[.int .i64 ka,.int .i64 kb,.int .u32 kc,.string kd]);have y0:=x0.cell 0;have y1:=x0.cell 1;have y2:=x0.cell 2;have y3:=x0.cell 3;simp only[qA,qB,qC] at y0 y1 y2 y3;clear x0;go_wp2_with fail
  go_ret;exact⟨_,rfl,HO.out,HB2.out⟩
section
variable {B0:Nat} {w V w8:World} {gs bt bt2 m0 m1 mc N:Nat} {policy:Int} {pv gv:Value} {ps gr:List ByteArray} {f0 f1 fc:ByteArray→Option Value}
theorem RgIn.graft (h:RgIn B0 w gs bt bt2 m0 m1 mc N policy pv gv ps gr f0 f1 fc)(hV:Below w.heap.size w V)(hg:V.grownBy w8 gv.ownBlock){g n cap:Nat}{p:ByteArray}(hn:gr.length=n)(ho:w8.ownsRow B0 9 1 (.slice (some ⟨g,0,none⟩) (n+1) cap) (n+1) (gr.map Value.string++[.string p]))(hat:gv.ownBlock=some g∨g=V.heap.size):
  RgIn B0 (w8.setCell ⟨gs,7,none⟩ (.slice (some ⟨g,0,none⟩) (n+1) cap)) gs bt bt2 m0 m1 mc N policy pv (.slice (some ⟨g,0,none⟩) (n+1) cap) ps (gr++[p]) f0 f1 fc∧Below B0 w (w8.setCell ⟨gs,7,none⟩ (.slice (some ⟨g,0,none⟩) (n+1) cap)):=by
 have same8:∀i,i<w.heap.size→gv.ownBlock≠some i→w8.heap[i]? =w.heap[i]? :=fun i hi hne=>(hg.block i (zQ hi hV.size) (fun e=>hne e.symm)).trans (hV.block i hi)
 have same:∀i,i<w.heap.size→gv.ownBlock≠some i→i≠gs→(w8.setCell ⟨gs,7,none⟩ (.slice (some ⟨g,0,none⟩) (n+1) cap)).heap[i]? =w.heap[i]? :=fun i hi hne hgs=>(zJ w8 ⟨gs,7,none⟩ _ i hgs).trans (same8 i hi hne)
 have gsne:gv.ownBlock≠some gs:=fun e=>(h.neG e).1 rfl
 have hbox8:Blk w8 gs 76 _:=(same8 gs h.box.lt gsne).trans h.box;have hggs:g≠gs:=by
  rcases hat with e | e
  ·exact(h.neG e).1
  ·have:=h.box.lt;have:=hV.size;omega
 refine⟨⟨?_,h.mA.same (same m0 h.mA.lt (fun e=>(h.neG e).2.1 rfl) h.neA.symm),h.mB.same (same m1 h.mB.lt (fun e=>(h.neG e).2.2.1 rfl) h.neB.symm),h.mC.same (same mc h.mC.lt (fun e=>(h.neG e).2.2.2 rfl) h.neC.symm),own_sameB h.rp (fun i hi=>same i (h.rp.lt i hi).2 (fun e=>h.apart i hi e) (h.neP hi).1),?_,h.n01,h.n0c,h.n1c,fun i h1 h2=>?_,h.bs,h.b0,h.b1,h.bc⟩,?_⟩
 ·have:=hbox8.put 7 (.slice (some ⟨g,0,none⟩) (n+1) cap)
  simpa using this
 ·have h2:=own_sameB (w':=w8.setCell ⟨gs,7,none⟩ (.slice (some ⟨g,0,none⟩) (n+1) cap)) ho (fun i hi=>by
   (have e:i=g:=by simpa [Value.ownBlock] using hi.symm);subst e;exact zJ w8 ⟨gs,7,none⟩ _ i hggs)
  rw[zF,List.length_singleton,hn,List.map_append];exact h2
 ·have e:i=g:=by simpa [Value.ownBlock] using h2.symm
  subst e;rcases hat with e | e
  ·exact h.apart i h1 e
  ·have:=(h.rp.lt i h1).2;have:=hV.size;omega
 ·have hB:B0≤w.heap.size:=zT h.bs (Nat.le_of_lt h.box.lt);exact((hV.mono hB).grown hg (zT hB hV.size) (fun k hk=>(h.rg.lt k hk).1)).setCell (p:=⟨gs,7,none⟩) h.bs _
theorem RgIn.path (h:RgIn B0 w gs bt bt2 m0 m1 mc N policy pv gv ps gr f0 f1 fc)(hV:Below w.heap.size w V)(hg:V.grownBy w8 pv.ownBlock){g n cap:Nat}{p:ByteArray}(hn:ps.length=n)(ho:w8.ownsRow B0 9 1 (.slice (some ⟨g,0,none⟩) (n+1) cap) (n+1) (ps.map Value.string++[.string p]))(hat:pv.ownBlock=some g∨g=V.heap.size):
  RgIn B0 (w8.setCell ⟨gs,3,none⟩ (.slice (some ⟨g,0,none⟩) (n+1) cap)) gs bt bt2 m0 m1 mc N policy (.slice (some ⟨g,0,none⟩) (n+1) cap) gv (ps++[p]) gr f0 f1 fc∧TurnB (fun i=>i=gs∨pv.ownBlock=some i) w (w8.setCell ⟨gs,3,none⟩ (.slice (some ⟨g,0,none⟩) (n+1) cap)):=by
 have same8:∀i,i<w.heap.size→pv.ownBlock≠some i→w8.heap[i]? =w.heap[i]? :=fun i hi hne=>(hg.block i (zQ hi hV.size) (fun e=>hne e.symm)).trans (hV.block i hi)
 have same:∀i,i<w.heap.size→pv.ownBlock≠some i→i≠gs→(w8.setCell ⟨gs,3,none⟩ (.slice (some ⟨g,0,none⟩) (n+1) cap)).heap[i]? =w.heap[i]? :=fun i hi hne hgs=>(zJ w8 ⟨gs,3,none⟩ _ i hgs).trans (same8 i hi hne)
 have gsne:pv.ownBlock≠some gs:=fun e=>(h.neP e).1 rfl
 have hbox8:Blk w8 gs 76 _:=(same8 gs h.box.lt gsne).trans h.box;have hggs:g≠gs:=by
  rcases hat with e | e
  ·exact(h.neP e).1
  ·have:=h.box.lt;have:=hV.size;omega
 refine⟨⟨?_,h.mA.same (same m0 h.mA.lt (fun e=>(h.neP e).2.1 rfl) h.neA.symm),h.mB.same (same m1 h.mB.lt (fun e=>(h.neP e).2.2.1 rfl) h.neB.symm),h.mC.same (same mc h.mC.lt (fun e=>(h.neP e).2.2.2 rfl) h.neC.symm),?_,own_sameB h.rg (fun i hi=>same i (h.rg.lt i hi).2 (fun e=>h.apart i e hi) (h.neG hi).1),h.n01,h.n0c,h.n1c,fun i h1 h2=>?_,h.bs,h.b0,h.b1,h.bc⟩,?_⟩
 ·have:=hbox8.put 3 (.slice (some ⟨g,0,none⟩) (n+1) cap)
  simpa using this
 ·have h2:=own_sameB (w':=w8.setCell ⟨gs,3,none⟩ (.slice (some ⟨g,0,none⟩) (n+1) cap)) ho (fun i hi=>by
   (have e:i=g:=by simpa [Value.ownBlock] using hi.symm);subst e;exact zJ w8 ⟨gs,3,none⟩ _ i hggs)
  rw[zF,List.length_singleton,hn,List.map_append];exact h2
 ·have e:i=g:=by simpa [Value.ownBlock] using h1.symm
  subst e;rcases hat with e | e
  ·exact h.apart i e h2
  ·have:=(h.rg.lt i h2).2;have:=hV.size;omega
 ·exact((TurnB.of_below hV).grown hg (fun k hk=> .inl (.inr hk))).put ⟨gs,3,none⟩ (.inl (.inl rfl)) _
end
theorem infoStrR:(Tryz.prog.info? 9).map (fun i=>(i.zero,i.size,i.bytes))=some (some (.string ⟨#[]⟩),1,16):=by kernel_rfl
theorem flat_sE:∀(l:List ByteArray),l.flatMap sE=l.map Value.string
 | []=>rfl
 | x::l=>by rw[List.flatMap_cons,flat_sE l];rfl
theorem mem_sub_of_ins {l:List NP}{p q:ByteArray}(h:q∈insN l p):q∈l.map NP.path:=(List.mem_filter.1 h).1
def RgAt (B0:Nat) (w:World) (gs bt bt2 m0 m1 mc N:Nat) (policy:Int) (pv gv:Value) (l:List NP) (gr:List ByteArray):Prop:=
 RgIn B0 w gs bt bt2 m0 m1 mc N policy pv gv (l.map NP.path) gr (lkN NP.left l) (lkN NP.right l) (lkC l)
theorem RgIn.more {B0:Nat}{w:World}{gs bt bt2 m0 m1 mc N M:Nat}{policy:Int}{pv gv:Value}{ps gr:List ByteArray}{f0 f1 fc:ByteArray→Option Value}(h:RgIn B0 w gs bt bt2 m0 m1 mc N policy pv gv ps gr f0 f1 fc)(hM:N≤M):RgIn B0 w gs bt bt2 m0 m1 mc M policy pv gv ps gr f0 f1 fc:=
 ⟨h.box,h.mA.mono hM,h.mB.mono hM,h.mC.mono hM,h.rp,h.rg,h.n01,h.n0c,h.n1c,h.apart,h.bs,h.b0,h.b1,h.bc⟩
theorem regRegion_any (B0:Nat)(w:World)(gs bt bm bt2 bm2 m0 m1 mc N:Nat)(policy:Int)(pv gv:Value)(xs ys:List NE)(l:List NP)(gr:List ByteArray)(p:ByteArray)
  (h:RgAt B0 w gs bt bt2 m0 m1 mc N policy pv gv l gr) (hT:TreeAt w bt bm xs) (hT2:TreeAt w bt2 bm2 ys) (hxl:xs.length≤1000) (hyl:ys.length≤1000) (hl:l.length≤1000) (hgl:gr.length≤1000) (hz:∀q∈l.map NP.path,q.size≤90000) (hp:p∈l.map NP.path) (hN:N≤100000000) (hB0:B0≤w.heap.size):
  Calls Tryz.prog 28 #[.pointer (some ⟨gs,0,none⟩),.string p] w fun e w'=>e= .returned (.tuple #[])∧∃gv',RgAt B0 w' gs bt bt2 m0 m1 mc (N+1001) policy pv gv' (turnN policy xs ys l p) (if sideR policy xs ys p=2 then gr++[p] else gr)∧Below B0 w w':=by
 have hps:p.size≤90000:=hz p hp;have hpk:okT p:=zT hps (by unfold maxLen;omega);have hU1:=zH (fun W (k:TreeAt W bt bm xs)=>treeUnder_any W bt bm xs p k hxl hps);have hU2:=zH (fun W (k:TreeAt W bt2 bm2 ys)=>treeUnder_any W bt2 bm2 ys p k hyl hps);obtain⟨side,hside⟩:∃s,sideR policy xs ys p=s:=⟨_,rfl⟩;have htm:=turn_mid policy xs ys l p;rw[hside] at htm⊢;have HS:=zH (zA hside htm);obtain⟨gr',hgr'⟩:∃g,(if side=2 then gr++[p] else gr)=g:=⟨_,rfl⟩;rw[hgr'];have HGR:=zH hgr';clear hgr';have H0:=zH (zA h (zA hT hT2));have HZ:=zH (zA hz (zA hp (zA hps hpk)));have hlt:=(h:RgIn _ _ _ _ _ _ _ _ _ _ _ _ _ _ _ _ _).box.lt;have z0:=(h:RgIn _ _ _ _ _ _ _ _ _ _ _ _ _ _ _ _ _).box.cell 0;have z1:=(h:RgIn _ _ _ _ _ _ _ _ _ _ _ _ _ _ _ _ _).box.cell 1;have z2:=(h:RgIn _ _ _ _ _ _ _ _ _ _ _ _ _ _ _ _ _).box.cell 2;simp only[qA,qB,qC] at z0 z1 z2;have k0:∀m:Held (Aft w),(HeldW m).cell? ⟨gs,0,none⟩=some (.pointer (some ⟨bt,0,none⟩)):=fun m=>(Aft.cell m hlt).trans z0
 have k1:∀m:Held (Aft w),(HeldW m).cell? ⟨gs,1,none⟩=some (.pointer (some ⟨bt2,0,none⟩)):=fun m=>(Aft.cell m hlt).trans z1
 have k2:∀m:Held (Aft w),(HeldW m).cell? ⟨gs,2,none⟩=some (.int .i64 policy):=fun m=>(Aft.cell m hlt).trans z2
 have HC0:=zH (Aft.start w);clear h hT hT2 hside htm hz hp hps hpk z0 z1 z2 hlt;go_enter Tryz.func28,Tryz.ntmps28
 go_upto_region 0 with fail
 refine wp_region_mix (Aft w) [(0,true),(1,true),(2,true),(3,true),(4,true),(5,true),(6,true),(7,true),(8,true),(9,true),(11,true),(12,true),(13,true),(14,true),(15,true),(16,true),(10,false),(17,false),(18,false),(19,true)] (by kernel_rfl) (by kernel_rfl) ?_;simp only[pickP,List.filterMap_cons,List.filterMap_nil,qA,qB,qC,Option.map_some];repeat (apply mix_first;apply Exists.intro;refine⟨fun m=>?_,HC0.out,?_⟩;·(go_big_quiet_step (fail);exact wpQuiet_nil rfl))
 refine mix_forced HC0.out ?_;go_wp2_with fail
 refine(hU1.out _ (H0.out.2.1.below HC0.out)).mono ?_;rintro e w1 ⟨r1,rfl,ho1,hb1⟩;have HC1:=zH (show Aft w w1 from Aft.keep _ _ HC0.out hb1);have H1:=zH (ho1.slv);obtain⟨A1,c1,rfl,-,-,-⟩:=SlV_of_any ho1;clear ho1 hb1 HC0;go_wp2_with fail
 show mixC ..
 refine mix_forced HC1.out ?_;go_wp2_with fail
 refine(hU2.out _ (H0.out.2.2.below HC1.out)).mono ?_;rintro e w2 ⟨r2,rfl,ho2,hb2⟩;have HC2:=zH (show Aft w w2 from Aft.keep _ _ HC1.out hb2);have HSD:=zH (regSide_any w2 policy _ r2 (undT p xs) (undT p ys) (H1.out.below hb2 (zN _)) ho2.slv);obtain⟨A2,c2,rfl,-,-,-⟩:=SlV_of_any ho2;clear ho2 hb2 HC1 H1;rw[show sideN policy (undT p xs) (undT p ys)=side from HS.out.1] at HSD;generalize (undT p xs).length=n1 at*;generalize (undT p ys).length=n2 at*;go_wp2_with fail
 show mixC ..
 refine mix_forced HC2.out ?_;go_wp2_with fail
 refine HSD.out.mono ?_;rintro e w3 ⟨rfl,hb3⟩;have HC3:=zH (show Aft w w3 from Aft.keep _ _ HC2.out hb3);clear hb3 HC2 HSD;go_wp2_with fail
 show mixC ..
 repeat (apply mix_first;apply Exists.intro;refine⟨fun m=>?_,HC3.out,?_⟩;·(go_big_quiet_step (fail);exact wpQuiet_nil rfl))
 refine mix_nil HC3.out ?_;clear k0 k1 k2 hU1 hU2;have hr3:=(H0.out.1:RgIn _ _ _ _ _ _ _ _ _ _ _ _ _ _ _ _ _).below HC3.out;have H3:=zH (zA hr3 (zA (H0.out.2.1.below HC3.out) (H0.out.2.2.below HC3.out)));have HI:=zH (regInside_any w3 gs bt bt2 m0 m1 mc policy pv gv (l.map NP.path) p hr3.box (SlV.of_own (by rw[flat_sE];exact hr3.rp) sE_lenP (by decide)) (by rw[zS];omega) HZ.out.1);rw[show(l.map NP.path).filter (inQ p)=insN l p from rfl] at HI;clear hr3;go_wp2_with fail
 refine HI.out.mono ?_;rintro e w4 ⟨u,rfl,hu,hb4⟩;have hr4:=H3.out.1.below hb4;have H4:=zH (zA hr4 (zA (H3.out.2.1.below hb4) (zA (H3.out.2.2.below hb4) (zA hu (zA ((HC3.out:Below w.heap.size w w3).trans (hb4.mono (HC3.out:Below w.heap.size w w3).size)) (fun i hi=>H3.out.1.lt i hi))))));have hQl:(insN l p).length≤1000:=by unfold insN;exact zT (List.length_filter_le _ _) (by rw[zS];exact hl)
 obtain⟨Q,hQ⟩:∃Q,insN l p=Q:=⟨_,rfl⟩;have hQz:∀q∈Q,q∈l.map NP.path:=fun q hq=>mem_sub_of_ins (by rw[hQ];exact hq)
 rw[hQ] at H4 hQl hu HS;obtain⟨A4,c4,rfl,-,-,-⟩:=SlV_of_any hu;have HQ:=zH (zA hQ hQz);obtain⟨k,hk⟩:∃k,Q.length=k:=⟨_,rfl⟩;have HK:=zH hk;rw[hk] at H4 hQl⊢;clear hr4 hb4 hu hQ hQz hk HI H3;go_wp2_with fail
 go_loopw [30] (fun iv wr=>∃i:Nat,i≤k∧iv= .int .i64 i∧RgIn B0 wr gs bt bt2 m0 m1 mc (N+i) policy pv gv (l.map NP.path) gr (lkN NP.left (midN xs ys side l (Q.take i))) (lkN NP.right (midN xs ys side l (Q.take i))) (lkC (midN xs ys side l (Q.take i)))∧TurnB (fun j=>j=m0∨j=m1∨j=mc) w4 wr) (fun iv _=>k-(intOf iv).toNat)
 case atStart=>exact⟨0,Nat.zero_le _,rfl,by rw[List.take_zero,midN_nil];exact H4.out.1,TurnB.refl _ _⟩
 case round=>
  obtain⟨i,hi,rfl,hR,htn⟩:=hrel;by_cases hlt:i<k
  ·have hiQ:i<Q.length:=by have:=HK.out;omega
   have hou:=own_sameB H4.out.2.2.2.1 (w':=wr) (fun g hg=>htn.block g (H4.out.2.2.2.1.lt g hg).2 (fun hf=>by
    have h1:=(H4.out.2.2.2.1.lt g hg).1;have h2:=H4.out.2.2.2.2.2 g (by rcases hf with rfl | rfl | rfl;exact .inr (.inl rfl);exact .inr (.inr (.inl rfl));exact .inr (.inr (.inr (.inl rfl))));omega))
   obtain⟨A',c',hA',_,_,hso⟩:=SlV.of_own hou sE_lenP (by decide);rw[HK.out] at hA';(obtain⟨rfl,rfl⟩:A4=A'∧c4=c':=by injection hA' with e1 e2 e3;exact⟨e1,e3⟩);clear hA';obtain⟨b,off,rfl,hbb,hcs⟩:=hso (by omega);have q0:=hcs i hiQ 0 (by omega);simp only[sE,qC,Nat.add_zero,Nat.mul_one] at q0;clear hcs hso hou;(have hi1:(i:Int)<k:=by omega);have hqm:=HQ.out.2 _ (zP hiQ);(have hms:midN xs ys side l (Q.take (i+1))=setN Q[i] (chosenN xs ys side Q[i] 0) (midN xs ys side l (Q.take i)):=by rw[zG hiQ,midN_snoc]);obtain⟨q,hq⟩:∃q,Q[i]=q:=⟨_,rfl⟩;simp only[hq] at q0 hqm hms;clear hq;have hqz:=HZ.out.1 q hqm;have hqk:okT q:=zT hqz (by unfold maxLen;omega);(have hqm2:q∈(midN xs ys side l (Q.take i)).map NP.path:=by rw[midN_path];exact hqm);(have hFF:∀V,RgIn B0 V gs bt bt2 m0 m1 mc (N+i) policy pv gv (l.map NP.path) gr (lkN NP.left (midN xs ys side l (Q.take i))) (lkN NP.right (midN xs ys side l (Q.take i))) (lkC (midN xs ys side l (Q.take i)))→True:=fun _ _=>trivial);have htx:=H4.out.2.1.turnB htn (fun i t cs hf=>by
    rcases hf with rfl | rfl | rfl
    ·exact map_noblk H4.out.1.mA
    ·exact map_noblk H4.out.1.mB
    ·exact map_noblk H4.out.1.mC)
   have hty:=H4.out.2.2.1.turnB htn (fun i t cs hf=>by
    rcases hf with rfl | rfl | rfl
    ·exact map_noblk H4.out.1.mA
    ·exact map_noblk H4.out.1.mB
    ·exact map_noblk H4.out.1.mC)
   have HTK:=zH (regTake_any wr gs bt bm bt2 bm2 m0 m1 mc (N+i) policy pv gv _ _ xs ys q side hR.box hR.mA hR.mB hR.n01 (by unfold maxLen;omega) htx hty (by omega) (by omega) hqz);have HR:=zH (zA hR (zA htn (zA hqm2 (zA hqk hms))));clear hR htn hqm hqm2 hms hFF htx hty hqz;(go_wp2_with fail);refine HTK.out.mono ?_;rintro e w5 ⟨rfl,hA5,hB5,ht5⟩;have hR5:=HR.out.1.maps ht5 (M:=N+i+1) (by omega) hA5 hB5;have z6:=hR5.box.cell 6;simp only[qA,qB,qC] at z6;have H5:=zH (zA hR5 (HR.out.2.1.trans ht5 (fun j hj=> .inl (hj.imp id .inl))));clear hA5 hB5 ht5 hR5 HTK q0;(go_wp2_with (at_delete;refine wpList_dropV rfl _ _ 72 rfl 3 (keyStr Tryz.underlying9) Tryz.underlying72 mc (N+i+1) _ rfl H5.out.1.mC q rfl HR.out.2.2.2.1 ?_;intro w6 hm6 hg6));have hR6:=H5.out.1.clash hg6 (zN _) hm6;rw[←lkN_set (f:=NP.left) (q:=q) (m:=chosenN xs ys side q 0) rfl _ HR.out.2.2.1,←lkN_set (f:=NP.right) (q:=q) (m:=chosenN xs ys side q 0) rfl _ HR.out.2.2.1,←lkC_set (q:=q) (m:=chosenN xs ys side q 0) rfl rfl _ HR.out.2.2.1,←HR.out.2.2.2.2] at hR6;have H6:=zH (zA hR6 (H5.out.2.grown hg6 (fun g hg=>by cases hg;exact .inl (.inr (.inr rfl)))));clear hm6 hg6 hR6;(go_wp2_with fail);go_roundw
   case rel=>exact⟨i+1,by omega,by go_num,by have:=H6.out.1;rw[Nat.add_assoc] at this;exact this,H6.out.2⟩
   case measure=>simp [intOf];omega
  ·obtain rfl:i=k:=by omega
   rw[zO (by have:=HK.out;omega)] at hR;(have hpm:p∈(midN xs ys side l Q).map NP.path:=by rw[midN_path];exact HZ.out.2.1);have z6:=hR.box.cell 6;have z7:=hR.box.cell 7;simp only[qA,qB,qC] at z6 z7;have HE:=zH (zA hR (zA htn hpm));clear hR htn hpm;have hfin:∀V gv' gr',RgIn B0 V gs bt bt2 m0 m1 mc (N+i+1) policy pv gv' (l.map NP.path) gr' (lkN NP.left (midN xs ys side l Q)) (lkN NP.right (midN xs ys side l Q)) (updV (lkC (midN xs ys side l Q)) p (.int .i64 4))→RgAt B0 V gs bt bt2 m0 m1 mc (N+1001) policy pv gv' (turnN policy xs ys l p) gr':=fun V gv' gr' hV=>by
    unfold RgAt;rw[turn_path,HS.out.2,lkN_cls (f:=NP.left) (fun _ _=>rfl),lkN_cls (f:=NP.right) (fun _ _=>rfl),lkC_cls (by decide) _ HE.out.2.2];exact hV.more (by omega)
   have HFIN:=zH hfin;have hlow:Below B0 w wr:=(H4.out.2.2.2.2.1.mono hB0).trans (HE.out.2.1.to_below (zT hB0 H4.out.2.2.2.2.1.size) (fun j hj=>by
    rcases hj with rfl | rfl | rfl
    ·exact HE.out.1.b0
    ·exact HE.out.1.b1
    ·exact HE.out.1.bc))
   have HLOW:=zH hlow;have hwr:B0≤wr.heap.size:=zT hB0 hlow.size;clear hfin hlow;by_cases hs2:side=2
   ·subst hs2;obtain⟨Ag,cg,egv,-,-,-⟩:=SlV_of_any HE.out.1.rg;obtain⟨ng,hng⟩:∃n,gr.length=n:=⟨_,rfl⟩;rw[hng] at egv hgl;subst egv;have HNG:=zH hng;clear hng;(go_wp2_with (first | (at_mapUpdate;refine wpList_storeV rfl _ _ _ 72 rfl 3 (keyStr Tryz.underlying9) Tryz.underlying72 mc (N+i) _ rfl HE.out.1.mC (by unfold maxLen;omega) p rfl HZ.out.2.2.2 (.int .i64 4) rfl ?_;intro w7 hm7 hg7;have hR7:=HE.out.1.clash hg7 (Nat.le_succ _) hm7;have HR7:=zH (zA hR7 (HLOW.out.grown hg7 hwr (fun k hk=>by cases hk;exact HE.out.1.bc)));have y7:=hR7.box.cell 7;simp only[qA,qB,qC] at y7;clear hR7 hm7 hg7 z6 z7) | (at_builtin;go_loud (refine wpList_app rfl _ _ 34 rfl B0 9 _ _ _ Tryz.underlying34 infoStrR rfl (by decide) _ ng (gr.map Value.string) rfl (own_kept (by have h9:=HR7.out.1.rg;rw[HNG.out] at h9;exact h9) ((zR _ _).alloc (zN _) _)) w7.heap.size 1 #[.string p] 9 rfl (Blk.new w7 _ _) rfl (by simp [Value.oneCell']) (by omega) (by decide) (zT hB0 (zT HR7.out.2.size (by simp))) _ rfl ?_;intro g cap w8 ho8 hg8 hat8 hlt8;have hG:=HR7.out.1.graft ((zR _ w7).alloc (zN _) _) hg8 HNG.out ho8 hat8;have HG:=zH hG;clear hG;have hb8:Blk w8 gs 76 _:=(HR7.out.1.box.alloc (.cells #[.string p] 9)).grown hg8 (fun e=>(HR7.out.1.neG e.symm).1 rfl);have c7:=hb8.cell 7;have f7:=hb8.frozen 7;simp only[qA,qB,qC] at c7;clear hb8 y7 ho8 hg8 hat8))));(go_end0);have hgr2:=HGR.out;simp only[if_true] at hgr2;have hfi:=HFIN.out _ _ _ HG.out.1;rw[hgr2] at hfi;first | exact⟨rfl,⟨_,hfi⟩,HR7.out.2.trans HG.out.2⟩ | exact⟨rfl,_,hfi,HR7.out.2.trans HG.out.2⟩
   ·(have t2:(side==2)=false:=by simpa using hs2);have hgr2:=HGR.out;rw[if_neg hs2] at hgr2;subst hgr2;clear hs2;(go_wp2_with (at_mapUpdate;refine wpList_storeV rfl _ _ _ 72 rfl 3 (keyStr Tryz.underlying9) Tryz.underlying72 mc (N+i) _ rfl HE.out.1.mC (by unfold maxLen;omega) p rfl HZ.out.2.2.2 (.int .i64 4) rfl ?_;intro w7 hm7 hg7;have hR7:=HE.out.1.clash hg7 (Nat.le_succ _) hm7;have HR7:=zH (zA hR7 (HLOW.out.grown hg7 hwr (fun k hk=>by cases hk;exact HE.out.1.bc)));clear hR7 hm7 hg7 z6 z7));(go_end0);exact⟨rfl,_,HFIN.out _ _ _ HR7.out.1,HR7.out.2⟩
theorem rotateMK_any (w:World)(base:Nat)(A:Option Addr)(c:Nat)(cv:Value)(n a m b:Nat)(P U V Q:List ({s:ByteArray//s.size≤90000}×Pr))(hn:n≤1000000)(hlen:(P++U++V++Q).length=n)(hP:P.length=a)(hU:a+U.length=m)(hV:m+V.length=b)(hU0:0<U.length)(hV0:0<V.length)
  (hown:w.ownsRow base 63 6 (.slice A n c) n ((P++U++V++Q).flatMap eCMK)):
  Calls Tryz.prog 227 #[.slice A n c,.int .i64 a,.int .i64 m,.int .i64 b,cv] w fun e w'=>e= .returned (.tuple #[])∧w'.ownsRow base 63 6 (.slice A n c) n ((P++V++U++Q).flatMap eCMK)∧w.grownBy w' (Value.slice A n c).ownBlock:=by
 have hlen':P.length+U.length+V.length+Q.length=n:=by rw[←hlen];simp only[zF]
 obtain⟨T,hT⟩:∃T,P++V++U++Q=T:=⟨_,rfl⟩;have HT:=zH hT;have HO:=zH (zA hown hlen);rw[hT];clear hT hown hlen;have w1:IntKind.i64.wrap ((m:Int)-a)=m-a:=IntWalk.i64_in _ (by omega);have w2:IntKind.i64.wrap ((b:Int)-m)=b-m:=IntWalk.i64_in _ (by omega);go_enter Tryz.func227,Tryz.ntmps227
 go_wp2_with fail
 go_loopw [10,11] (fun iv jv wr=>∃(i j:Nat) (P' U' V' Q':List ({s:ByteArray//s.size≤90000}×Pr)),iv= .int .i64 i∧jv= .int .i64 j∧0<i∧0<j∧U'.length=i∧V'.length=j∧P'.length+i=m∧P'++V'++U'++Q'=T∧(P'++U'++V'++Q').length=n∧wr.ownsRow base 63 6 (.slice A n c) n ((P'++U'++V'++Q').flatMap eCMK)∧w.grownBy wr (Value.slice A n c).ownBlock) (fun iv jv _=>(intOf iv+intOf jv).toNat)
 case atStart=>exact⟨U.length,V.length,P,U,V,Q,by go_num,by go_num,hU0,hV0,rfl,rfl,by omega,HT.out,HO.out.2,HO.out.1,grown_refl _ _⟩
 case round=>
  obtain⟨i,j,P',U',V',Q',rfl,rfl,hi0,hj0,hU',hV',hPi,hTT,hln,hrow,hg⟩:=hrel;have hln':P'.length+i+j+Q'.length=n:=by rw[←hln,←hU',←hV'];simp only[zF]
  have HG:=zH (zA hTT (zA hln (zA hrow hg)));clear hTT hln hrow hg HO;obtain⟨p1,p2⟩:(m:Int)-i=((m-i:Nat):Int)∧(m:Int)+j-i=((m+j-i:Nat):Int):=by omega
  rcases Nat.lt_trichotomy i j with h | h | h
  ·have hne:((i:Int) !=j)=true:=by rw[bne_iff_ne];omega
   (have hgt:¬(j:Int)<i:=by omega);(have w3:IntKind.i64.wrap ((j:Int)-i)=((j-i:Nat):Int):=by rw[IntWalk.i64_in _ (by omega)];omega);have w4:IntKind.i64.wrap (((m-i:Nat):Int))=((m-i:Nat):Int):=IntWalk.i64_in _ (by omega);have w5:IntKind.i64.wrap ((m:Int)+j)=m+j:=IntWalk.i64_in _ (by omega);have w6:IntKind.i64.wrap (((m+j-i:Nat):Int))=((m+j-i:Nat):Int):=IntWalk.i64_in _ (by omega);have hsp:V'=V'.take (j-i)++V'.drop (j-i):=(List.take_append_drop _ _).symm;have hse:=swL_end P' U' (V'.take (j-i)) (V'.drop (j-i)) Q' (by rw[List.length_drop];omega);(have hl1:(V'.take (j-i)).length=j-i:=by rw[zL];omega);have e1:P'++U'++V'.take (j-i)++V'.drop (j-i)++Q'=P'++U'++V'++Q':=by
    conv=>rhs;rw[hsp]
    simp only[zV]
   rw[e1,hU',hl1,show P'.length+i+(j-i)=m+j-i by omega,show P'.length=m-i by omega] at hse;have HS:=zH (swapRangeMK_any wr base (.slice A n c) cv n (m-i) (m+j-i) i _ HG.out.2.1 hn (by omega) (by omega) HG.out.2.2.1);rw[hse] at HS;have hT2:P'++V'.take (j-i)++V'.drop (j-i)++(U'++Q')=T:=by
    rw[←HG.out.1]
    conv=>rhs;rw[hsp]
    simp only[zV]
   (have hl2:(P'++V'.drop (j-i)++V'.take (j-i)++(U'++Q')).length=n:=by simp only[zF,List.length_drop,hl1];omega);(have e2:P'++V'.drop (j-i)++V'.take (j-i)++U'++Q'=P'++V'.drop (j-i)++V'.take (j-i)++(U'++Q'):=by simp only[zV]);rw[e2] at HS;(have hl3:(V'.drop (j-i)).length=i:=by rw[List.length_drop];omega);have HX:=zH (zA hT2 (zA hl2 (zA hl1 hl3)));clear hT2 hl2 hl1 hl3 e1 e2 hse hsp;(go_wp2_with fail);refine HS.out.mono ?_;rintro e w3' ⟨rfl,hrow2,hg2⟩;have H3:=zH (zA hrow2 (grown_trans HG.out.2.2.2 hg2));clear hrow2 hg2 HS;(go_wp2_with fail);go_roundw
   case rel=>exact⟨i,j-i,P',V'.drop (j-i),V'.take (j-i),U'++Q',rfl,by go_num,hi0,by omega,HX.out.2.2.2,HX.out.2.2.1,by omega,HX.out.1,HX.out.2.1,H3.out.1,H3.out.2⟩
   case measure=>simp [intOf];omega
  ·subst h;have hne:((i:Int) !=i)=false:=by simp
   have w4:IntKind.i64.wrap (((m-i:Nat):Int))=((m-i:Nat):Int):=IntWalk.i64_in _ (by omega);have hse:=swL_end P' U' [] V' Q' (by omega);rw[hU',List.length_nil,Nat.add_zero,show P'.length+i=m from hPi,show P'.length=m-i by omega,List.append_nil,List.append_nil] at hse;have HS:=zH (swapRangeMK_any wr base (.slice A n c) cv n (m-i) m i _ HG.out.2.1 hn (by omega) (by omega) HG.out.2.2.1);rw[hse,HG.out.1] at HS;clear hse;(go_wp2_with fail);refine HS.out.mono ?_;rintro e w3' ⟨rfl,hrow2,hg2⟩;have H3:=zH (zA hrow2 (grown_trans HG.out.2.2.2 hg2));clear hrow2 hg2 HS;(go_wp2_with fail);(go_end0);exact⟨rfl,H3.out.1,H3.out.2⟩
  ·have hne:((i:Int) !=j)=true:=by rw[bne_iff_ne];omega
   (have hgt:(j:Int)<i:=by omega);(have w3:IntKind.i64.wrap ((i:Int)-j)=((i-j:Nat):Int):=by rw[IntWalk.i64_in _ (by omega)];omega);have w4:IntKind.i64.wrap (((m-i:Nat):Int))=((m-i:Nat):Int):=IntWalk.i64_in _ (by omega);have hsp:U'=U'.take j++U'.drop j:=(List.take_append_drop _ _).symm;(have hl1:(U'.take j).length=j:=by rw[zL];omega);(have hl3:(U'.drop j).length=i-j:=by rw[List.length_drop];omega);have hse:=swL_end P' (U'.take j) (U'.drop j) V' Q' (by omega);have e1:P'++U'.take j++U'.drop j++V'++Q'=P'++U'++V'++Q':=by
    conv=>rhs;rw[hsp]
    simp only[zV]
   rw[e1,hl1,hl3,show P'.length+j+(i-j)=m by omega,show P'.length=m-i by omega] at hse;have HS:=zH (swapRangeMK_any wr base (.slice A n c) cv n (m-i) m j _ HG.out.2.1 hn (by omega) (by omega) HG.out.2.2.1);rw[hse] at HS;have hT2:P'++V'++U'.take j++U'.drop j++Q'=T:=by
    rw[←HG.out.1]
    conv=>rhs;rw[hsp]
    simp only[zV]
   (have hl2:(P'++V'++U'.drop j++U'.take j++Q').length=n:=by simp only[zF,hl1,hl3];omega);have HX:=zH (zA hT2 (zA hl2 (zA hl1 hl3)));clear hT2 hl2 hl1 hl3 e1 hse hsp;(go_wp2_with fail);refine HS.out.mono ?_;rintro e w3' ⟨rfl,hrow2,hg2⟩;have H3:=zH (zA hrow2 (grown_trans HG.out.2.2.2 hg2));clear hrow2 hg2 HS;(go_wp2_with fail);go_roundw
   case rel=>exact⟨i-j,j,P'++V',U'.drop j,U'.take j,Q',by go_num,rfl,by omega,hj0,HX.out.2.2.2,HX.out.2.2.1,by rw[zF];omega,HX.out.1,HX.out.2.1,H3.out.1,H3.out.2⟩
   case measure=>simp [intOf];omega
end Go.Proofs.YtnpehjgnplaabaaGreatDoor
namespace Sw
section
variable {α:Type}
structure Cmp (c:α→α→Int):Prop where
 irr:∀x,¬c x x<0
 asym:∀x y,c x y<0→¬c y x<0
 trans:∀x y z,¬c y x<0→¬c z y<0→¬c z x<0
def Ah (c:α→α→Int) (p q:α×Nat):Prop:=c p.1 q.1<0∨(¬c q.1 p.1<0∧p.2<q.2)
theorem Ah.trans {c:α→α→Int}(C:Cmp c){p q r:α×Nat}(h:Ah c p q)(k:Ah c q r):Ah c p r:=by
 have tr:∀x y z,c x y<0→¬c z y<0→c x z<0:=fun x y z h1 h2=>by
  by_cases h3:c x z<0
  ·exact h3
  ·exact absurd h1 (C.trans y z x h2 h3)
 have tr2:∀x y z,¬c y x<0→c y z<0→c x z<0:=fun x y z h1 h2=>by
  by_cases h3:c x z<0
  ·exact h3
  ·exact absurd h2 (C.trans z x y h3 h1)
 rcases h with h | ⟨h1,h2⟩
 ·rcases k with k | ⟨k1,k2⟩
  ·exact .inl (tr _ _ _ h (C.asym _ _ k))
  ·exact .inl (tr _ _ _ h k1)
 ·rcases k with k | ⟨k1,k2⟩
  ·exact .inl (tr2 _ _ _ h1 k)
  ·by_cases h3:c p.1 r.1<0
   ·exact .inl h3
   ·exact .inr ⟨C.trans _ _ _ h1 k1,Nat.lt_trans h2 k2⟩
theorem Ah.irr {c:α→α→Int}(C:Cmp c)(p:α×Nat):¬Ah c p p:=by
 rintro (h | ⟨_,h⟩)
 ·exact C.irr _ h
 ·exact Nat.lt_irrefl _ h
theorem Ah.of_left {c:α→α→Int}(C:Cmp c){p q:α×Nat}(h:p.2<q.2):Ah c p q↔¬c q.1 p.1<0:=by
 constructor
 ·rintro (h1 | ⟨h1,_⟩)
  ·exact C.asym _ _ h1
  ·exact h1
 ·intro h1;by_cases h2:c p.1 q.1<0
  ·exact .inl h2
  ·exact .inr ⟨h1,h⟩
def UpS (c:α→α→Int) (l:List (α×Nat)):Prop:=l.Pairwise (Ah c)
def Came (l m:List (α×Nat)):Prop:=∀p∈l,∀q∈m,p.2<q.2
theorem UpS.get {c:α→α→Int}{l:List (α×Nat)}(h:UpS c l){i j:Nat}(hij:i<j)(hj:j<l.length):Ah c (l[i]'(by omega)) l[j]:=List.pairwise_iff_getElem.1 h i j (by omega) hj hij
theorem cut_up {c:α→α→Int}(C:Cmp c){L R:List (α×Nat)}(hL:UpS c L)(hR:UpS c R)(i j:Nat)(hi:i≤L.length)(hj:j≤R.length)
  (h1:∀(h:0<i) (k:j<R.length),Ah c (L[i-1]'(by omega)) R[j]) (h2:∀(h:i<L.length) (k:0<j),Ah c (R[j-1]'(by omega)) L[i]):
  (∀p∈L.take i++R.take j,∀q∈L.drop i++R.drop j,Ah c p q):=by
 have le:∀(l:List (α×Nat)),UpS c l→∀(a b:Nat) (ha:a≤b) (hb:b<l.length),a=b∨Ah c (l[a]'(by omega)) l[b]:=fun l hl a b ha hb=>by
  rcases Nat.lt_or_eq_of_le ha with h | h
  ·exact .inr (hl.get h hb)
  ·exact .inl h
 intro p hp q hq;rcases List.mem_append.1 hp with hp | hp
 ·obtain⟨a,ha,rfl⟩:=List.getElem_of_mem hp;rw[zL] at ha;rw[List.getElem_take];rcases List.mem_append.1 hq with hq | hq
  ·obtain⟨b,hb,rfl⟩:=List.getElem_of_mem hq;rw[List.length_drop] at hb;rw[List.getElem_drop];exact hL.get (by omega) (by omega)
  ·obtain⟨b,hb,rfl⟩:=List.getElem_of_mem hq;rw[List.length_drop] at hb;rw[List.getElem_drop];have hx:=h1 (by omega) (by omega);have hy:Ah c (L[a]'(by omega)) (R[j]'(by omega)):=by
    rcases le L hL a (i-1) (by omega) (by omega) with e | e
    ·(have:L[a]'(by omega)=L[i-1]'(by omega):=by congr 1);rw[this];exact hx
    ·exact e.trans C hx
   rcases le R hR j (j+b) (by omega) (by omega) with e | e
   ·(have:R[j]'(by omega)=R[j+b]'(by omega):=by congr 1);rw[←this];exact hy
   ·exact hy.trans C e
 ·obtain⟨a,ha,rfl⟩:=List.getElem_of_mem hp;rw[zL] at ha;rw[List.getElem_take];rcases List.mem_append.1 hq with hq | hq
  ·obtain⟨b,hb,rfl⟩:=List.getElem_of_mem hq;rw[List.length_drop] at hb;rw[List.getElem_drop];have hx:=h2 (by omega) (by omega);have hy:Ah c (R[a]'(by omega)) (L[i]'(by omega)):=by
    rcases le R hR a (j-1) (by omega) (by omega) with e | e
    ·(have:R[a]'(by omega)=R[j-1]'(by omega):=by congr 1);rw[this];exact hx
    ·exact e.trans C hx
   rcases le L hL i (i+b) (by omega) (by omega) with e | e
   ·(have:L[i]'(by omega)=L[i+b]'(by omega):=by congr 1);rw[←this];exact hy
   ·exact hy.trans C e
  ·obtain⟨b,hb,rfl⟩:=List.getElem_of_mem hq;rw[List.length_drop] at hb;rw[List.getElem_drop];exact hR.get (by omega) (by omega)
theorem UpS.app {c:α→α→Int}{l m:List (α×Nat)}(hl:UpS c l)(hm:UpS c m)(h:∀p∈l,∀q∈m,Ah c p q):UpS c (l++m):=List.pairwise_append.2 ⟨hl,hm,h⟩
theorem UpS.left {c:α→α→Int}{l m:List (α×Nat)}(h:UpS c (l++m)):UpS c l:=(List.pairwise_append.1 h).1
theorem UpS.right {c:α→α→Int}{l m:List (α×Nat)}(h:UpS c (l++m)):UpS c m:=(List.pairwise_append.1 h).2.1
theorem UpS.ins {c:α→α→Int}{S1 S2:List (α×Nat)}{x:α×Nat}(h:UpS c (S1++S2))(h1:∀p∈S1,Ah c p x)(h2:∀q∈S2,Ah c x q):UpS c (S1++x::S2):=
 List.pairwise_append.2 ⟨h.left,List.pairwise_cons.2 ⟨h2,h.right⟩,fun p hp q hq=>by
  rcases List.mem_cons.1 hq with rfl | hq
  ·exact h1 p hp
  ·exact(List.pairwise_append.1 h).2.2 p hp q hq⟩
theorem UpS.lead {c:α→α→Int}(C:Cmp c){S0:List (α×Nat)}{x y:α×Nat}(h:UpS c (S0++[y]))(hy:Ah c y x):∀p∈S0++[y],Ah c p x:=fun p hp=>by
 rcases List.mem_append.1 hp with hp | hp
 ·exact((List.pairwise_append.1 h).2.2 p hp y (by simp)).trans C hy
 ·rw[List.mem_singleton.1 hp];exact hy
theorem ins_perm {β:Type}(S1 S2 T:List β)(x:β):(S1++x::S2++T).Perm ((S1++S2)++x::T):=by
 have h1:(S1++x::S2++T).Perm (x::(S1++S2++T)):=by rw[zV,List.cons_append,zV];exact List.perm_middle
 exact h1.trans List.perm_middle.symm
theorem ins_round {c:α→α→Int}{S S1 S2 T X:List (α×Nat)}{x:α×Nat}(hS:S1++S2=S)(hp:(S++x::T).Perm X)(hu:UpS c S)(hc:∀p∈S,∀q∈x::T,p.2<q.2)(hr:(x::T).Pairwise fun p q=>p.2<q.2)
  (h1:∀p∈S1,Ah c p x) (h2:∀q∈S2,Ah c x q):
  (S1++x::S2++T).Perm X∧UpS c (S1++x::S2)∧(∀p∈S1++x::S2,∀q∈T,p.2<q.2)∧(T.Pairwise fun p q=>p.2<q.2):=by
 subst hS;refine⟨(ins_perm S1 S2 T x).trans hp,hu.ins h1 h2,fun p hp' q hq=>?_,(List.pairwise_cons.1 hr).2⟩;rcases List.mem_append.1 hp' with h | h
 ·exact hc p (zU _ h) q (List.mem_cons_of_mem _ hq)
 ·rcases List.mem_cons.1 h with rfl | h
  ·exact(List.pairwise_cons.1 hr).1 q hq
  ·exact hc p (List.mem_append_right _ h) q (List.mem_cons_of_mem _ hq)
theorem UpS.put {c:α→α→Int}(C:Cmp c){R:List (α×Nat)}{x:α×Nat}(h:UpS c R)(k:Nat)(hkR:k≤R.length)(h1:∀z,0<k→R[k-1]? =some z→Ah c z x)(h2:∀z,R[k]? =some z→Ah c x z):UpS c (R.take k++x::R.drop k):=by
 refine UpS.ins (by rw[List.take_append_drop];exact h) (fun p hp=>?_) (fun q hq=>?_)
 ·obtain⟨t,ht,rfl⟩:=List.getElem_of_mem hp;rw[zL] at ht;rw[List.getElem_take];have hk:k-1<R.length∨R.length≤k-1:=by omega
  rcases Nat.lt_or_ge t (k-1) with h3 | h3
  ·exact(h.get h3 (by omega)).trans C (h1 _ (by omega) (zM (by omega)))
  ·have e:t=k-1:=by omega
   exact h1 _ (by omega) (by rw[←e];exact zM (by omega))
 ·obtain⟨t,ht,rfl⟩:=List.getElem_of_mem hq;rw[List.length_drop] at ht;rw[List.getElem_drop];have hk:=h2 _ (zM (by omega));rcases Nat.eq_zero_or_pos t with rfl | h3
  ·exact hk
  ·exact hk.trans C (h.get (by omega) (by omega))
theorem put_perm {β:Type}(R:List β)(x:β)(k:Nat):(R.take k++x::R.drop k).Perm (x::R):=by
 have:=List.perm_middle (a:=x) (l₁:=R.take k) (l₂:=R.drop k)
 rwa [List.take_append_drop] at this
end
end Sw
namespace Sw
open Go
theorem still_of_quietL {P:Program}{ops:Array Oper}{W:World}{Q:Act→Prop}:∀(l:List Oper) (a:Act),wpQuiet P ops (fun w'=>∃_:Unit,w'=W) Q l a→wpStill P ops W Q l a
 | [],a,h=>h
 | o::l,a,h=>by
  simp only[wpQuiet,wpStill] at*;split
  ·rename_i hw
   rw[if_pos hw] at h;obtain⟨v,h1,h2⟩:=h;have h3:=h1 W ⟨(),rfl⟩;have h4:=still_of_quietL l _ h2;unfold Oper.quietAt at h3;unfold Oper.still;generalize (execOp a.eval o).run P W=r at*;cases r with
   | ok n w'=>
    cases n<;>simp only[Oper.quietUpon] at h3<;>simp only[Oper.stillUpon]
    case value u=>exact⟨h3.1,by rw[h3.2];exact h4⟩
    case skip=>exact⟨h3.1,by rw[←h3.2];exact h4⟩
    case enter f args=>exact⟨h3.1,v,h3.2.mono fun e w'' he=>⟨he.1,by obtain⟨_,h⟩:=he.2;exact h⟩,h4⟩
   | halt x w'=>simp only[Oper.quietUpon] at h3
  ·rename_i hw
   rw[if_neg hw] at h;exact still_of_quietL l _ h
theorem region_tail {P:Program}{id:Nat}{Q:Exit→Act→World→Prop}{a:Act}{w:World}{l:List Oper}(n:Nat)(hm:P.follows .mixedOrders=true)(hB:Region.lexTailB .any l.toArray n=true)(W:World)(hW:w.drew=W)
  (h:wpQuiet P l.toArray (fun w'=>∃_:Unit,w'=W) (fun a'=>wpList P l.toArray Q (l.drop n) a' W) (l.take n) a):(Code.region id l.toArray true).wp P Q a w:=by
 subst hW;exact wp_region_still_tail n hm hB (still_of_quietL _ _ h)
end Sw
namespace Go.Proofs.YtnpehjgnplaabaaGreatDoor
open Go Go.RowKit
open Sw
abbrev eDMK:=({s:ByteArray//s.size≤90000}×Pr)×Nat
def RowDMK (w:World) (base:Nat) (v:Value) (n:Nat) (l:List eDMK):Prop:=l.length=n∧w.ownsRow base 63 6 v n ((l.map Prod.fst).flatMap eCMK)
theorem RowDMK.kept {w w':World}{base n:Nat}{v:Value}{l:List eDMK}(h:RowDMK w base v n l)(hb:Below w.heap.size w w'):RowDMK w' base v n l:=⟨h.1,own_kept h.2 hb⟩
theorem RowDMK.drew {w:World}{base n:Nat}{v:Value}{l:List eDMK}(h:RowDMK w base v n l):RowDMK w.drew base v n l:=⟨h.1,own_drew h.2⟩
theorem RowDMK.form {w:World}{base n c:Nat}{A:Option Addr}{l:List eDMK}(h:RowDMK w base (.slice A n c) n l)(hn:0<n):∃g,A=some ⟨g,0,none⟩∧base≤g∧∃cur,Blk w g 63 cur∧g<w.heap.size:=by
 obtain⟨g,cap,cur,hA,hbg,hB,hnc,hcm,hcs,htk⟩:=own_form h.2 hn;obtain⟨rfl,rfl⟩:A=some ⟨g,0,none⟩∧c=cap:=by injection hA with e1 e2 e3;exact⟨e1,e3⟩
 exact⟨g,rfl,hbg,cur,hB,by
  unfold Blk at hB;exact(Array.getElem?_eq_some_iff.1 hB).1⟩
theorem RowDMK.cell {w:World}{base n c g:Nat}{l:List eDMK}(h:RowDMK w base (.slice (some ⟨g,0,none⟩) n c) n l)(m:Nat)(x:eDMK)(hm:l[m]? =some x)(q:Nat)(hq:q<6):w.cell? ⟨g,m*6+q,none⟩=(eCMK x.1)[q]? :=by
 obtain⟨hml,hmx⟩:=List.getElem?_eq_some_iff.1 hm;have hmn:m<n:=by rw[←h.1];exact hml
 obtain⟨g',cap,cur,hA,hbg,hB,hnc,hcm,hcs,htk⟩:=own_form h.2 (by omega);obtain⟨rfl,rfl⟩:g=g'∧c=cap:=by
  injection hA with e1 e2 e3;exact⟨congrArg Addr.block (Option.some.inj e1),e3⟩
 have h1:=flat_get eCMK_len (l.map Prod.fst) m (by rw[zS];exact hml) q hq;have h2:m*6+q<n*6:=by have:(m+1)*6≤n*6:=Nat.mul_le_mul_right _ hmn;omega
 rw[hB.cell,←Array.getElem?_toList];rw[List.getElem_map,hmx] at h1;rw[←h1,←htk,List.getElem?_take,if_pos h2]
theorem RowDMK.swap {w a:World}{base n c g:Nat}{l:List eDMK}(h:RowDMK w base (.slice (some ⟨g,0,none⟩) n c) n l)(i j:Nat)(x y:eDMK)(hx:l[i]? =some x)(hy:l[j]? =some y)(hB:Below base a w)(hbg:base≤g)(hs:base≤w.heap.size):
  RowDMK ((w.setCells g (i*6) (eCMK y.1)).setCells g (j*6) (eCMK x.1)) base (.slice (some ⟨g,0,none⟩) n c) n ((l.set i y).set j x)∧Below base a ((w.setCells g (i*6) (eCMK y.1)).setCells g (j*6) (eCMK x.1)):=by
 obtain⟨hil,hix⟩:=List.getElem?_eq_some_iff.1 hx;obtain⟨hjl,hjy⟩:=List.getElem?_eq_some_iff.1 hy;have hin:i<n:=by rw[←h.1];exact hil
 have hjn:j<n:=by rw[←h.1];exact hjl
 have m1:(i+1)*6≤n*6:=Nat.mul_le_mul_right _ hin;have m2:(j+1)*6≤n*6:=Nat.mul_le_mul_right _ hjn;have h1:=own_setCells (eCMK y.1) (i*6) w _ h.2 (by rw[eCMK_len];omega);have f1:=flat_put eCMK_len (l.map Prod.fst) i (by rw[zS];exact hil) y.1 0 (eCMK y.1) (by rw[eCMK_len];omega) (by simp [eCMK_len]);simp only[Nat.add_zero] at f1;rw[f1] at h1;have h2:=own_setCells (eCMK x.1) (j*6) _ _ h1 (by rw[eCMK_len];omega);have f2:=flat_put eCMK_len ((l.map Prod.fst).set i y.1) j (by rw[List.length_set,zS];exact hjl) x.1 0 (eCMK x.1) (by rw[eCMK_len];omega) (by simp [eCMK_len]);simp only[Nat.add_zero] at f2;rw[f2] at h2;refine⟨⟨by rw[List.length_set,List.length_set];exact h.1,?_⟩,?_⟩
 ·rw[List.map_set,List.map_set];exact h2
 ·exact own_below h.2 hB (grown_setCells (eCMK x.1) (j*6) _ (grown_setCells (eCMK y.1) (i*6) w (grown_refl _ _))) (zN _) hs
theorem swap_next {β:Type}(P Q:List β)(x y:β):((P++y::x::Q).set (P.length+1) y).set P.length x=P++x::y::Q:=by
 simp [List.set_append]
theorem mid_get {β:Type}(P Q:List β)(x:β):(P++x::Q)[P.length]? =some x:=by simp
theorem mid_get1 {β:Type}(P Q:List β)(x y:β):(P++y::x::Q)[P.length+1]? =some x:=by
 rw[List.getElem?_append_right (by omega)];simp
theorem insertMK_any (cmp:{s:ByteArray//s.size≤90000}×Pr→{s:ByteArray//s.size≤90000}×Pr→Int)(HC:Cmp cmp)(hcall:∀W x y,Calls Tryz.prog 89 #[.agg (eCMK x).toArray,.agg (eCMK y).toArray] W fun e w'=>e= .returned (.int .i64 (cmp x y))∧Below W.heap.size W w')
  (w:World) (base:Nat) (A:Option Addr) (c:Nat) (n a b:Nat) (P X Q:List eDMK) (hn:n≤1000000) (hP:P.length=a) (hX:a+X.length=b) (hrise:X.Pairwise fun p q=>p.2<q.2) (hbs:base≤w.heap.size)
  (hrow:RowDMK w base (.slice A n c) n (P++X++Q)):
  Calls Tryz.prog 220 #[.slice A n c,.int .i64 a,.int .i64 b,.func (.func 89) #[] #[]] w fun e w'=>e= .returned (.tuple #[])∧∃Y:List eDMK,Y.Perm X∧UpS cmp Y∧RowDMK w' base (.slice A n c) n (P++Y++Q)∧Below base w w':=by
 have hlen:a+X.length+Q.length=n:=by rw[←hrow.1,←hP];simp only[zF]
 have HR0:=zH (zA hrow hrise);have HCC:=zH hcall;clear hrow hrise hcall;have w0:IntKind.i64.wrap ((a:Int)+1)=a+1:=IntWalk.i64_in _ (by omega);have hsz0:=hbs;go_enter Tryz.func220,Tryz.ntmps220
 go_wp2_with fail
 go_loopw [8] (fun iv wr=>∃(o:Nat) (S T:List eDMK),iv= .int .i64 o∧a+1≤o∧(S++T).Perm X∧UpS cmp S∧a+S.length=min o b∧(∀p∈S,∀q∈T,p.2<q.2)∧(T.Pairwise fun p q=>p.2<q.2)∧RowDMK wr base (.slice A n c) n (P++S++T++Q)∧Below base w wr∧base≤wr.heap.size) (fun iv _=>b-(intOf iv).toNat)
 case atStart=>
  refine⟨a+1,X.take 1,X.drop 1,by go_num,zN _,by rw[List.take_append_drop],?_,?_,?_,?_,?_,zR _ _,hbs⟩
  ·rcases X with _ | ⟨x,X⟩
   ·exact List.Pairwise.nil
   ·exact List.pairwise_singleton _ _
  ·rw[zL];omega
  ·exact(List.pairwise_append.1 (by rw[List.take_append_drop];exact HR0.out.2)).2.2
  ·exact HR0.out.2.sublist (List.drop_sublist _ _)
  ·have:P++X.take 1++X.drop 1++Q=P++X++Q:=by rw[zV P,List.take_append_drop]
   rw[this];exact HR0.out.1
 case round=>
  obtain⟨o,S,T,rfl,hao,hperm,hup,hSl,hcame,hTr,hrow,hbl,hbsr⟩:=hrel;have hpl:=hperm.length_eq;rw[zF] at hpl;have HG:=zH (zA hperm (zA hup (zA hcame (zA hTr (zA hrow hbl)))));clear hperm hup hcame hTr hrow hbl;by_cases hob:o<b
  ·have hob1:(o:Int)<b:=by omega
   obtain⟨x,T',rfl⟩:∃x T',T=x::T':=by
    rcases T with _ | ⟨x,T'⟩
    ·simp at hpl;omega
    ·exact⟨x,T',rfl⟩
   have w1:IntKind.i64.wrap ((o:Int)+1)=o+1:=IntWalk.i64_in _ (by omega);(go_wp2_with fail);go_loopw [9] (fun jv wr2=>∃(i:Nat) (S1 S2:List eDMK),jv= .int .i64 i∧S1++S2=S∧a+S1.length=i∧(∀q∈S2,Ah cmp x q)∧RowDMK wr2 base (.slice A n c) n (P++S1++x::(S2++T'++Q))∧Below base w wr2∧base≤wr2.heap.size) (fun jv _=>(intOf jv).toNat)
   case atStart=>
    refine⟨o,S,[],rfl,List.append_nil _,by omega,(fun q hq=>by cases hq),?_,HG.out.2.2.2.2.2,hbsr⟩;(have:P++S++x::([]++T'++Q)=P++S++(x::T')++Q:=by simp);rw[this];exact HG.out.2.2.2.2.1
   case round=>
    obtain⟨i,S1,S2,rfl,hSS,hSi,hAh,hrow,hbl,hbsr2⟩:=hrel;(have hS12:S1.length+S2.length=S.length:=by rw[←hSS,zF]);have H2:=zH (zA hSS (zA hAh (zA hrow hbl)));clear hSS hAh hrow hbl;by_cases hia:a<i
    ·(have hia1:(a:Int)<i:=by omega);obtain⟨S0,y,hS0⟩:∃S0 y,S1=S0++[y]:=⟨S1.dropLast,S1.getLast (by rintro rfl;simp at hSi;omega),(List.dropLast_concat_getLast _).symm⟩;subst hS0;rw[zF] at hSi hS12;simp only[zI,List.length_nil] at hSi hS12;obtain⟨j,hj⟩:∃j:Nat,i=j+1:=⟨i-1,by omega⟩;(have hjP:(P++S0).length=j:=by rw[zF];omega);(have hform:P++(S0++[y])++x::(S2++T'++Q)=(P++S0)++y::x::(S2++T'++Q):=by simp);obtain⟨g,rfl,hbg,cur,hB,hgs⟩:=H2.out.2.2.1.form (by omega);have hrowf:=H2.out.2.2.1;rw[hform] at hrowf;(have hgi:((P++S0)++y::x::(S2++T'++Q))[i]? =some x:=by rw[hj,←hjP];exact mid_get1 _ _ _ _);(have hgj:((P++S0)++y::x::(S2++T'++Q))[j]? =some y:=by rw[←hjP];exact mid_get _ _ _);obtain⟨w2,hw2⟩:∃w2,wr.drew=w2:=⟨_,rfl⟩;have hrow2:=hrowf.drew;rw[hw2] at hrow2;have hci:=hrow2.cell i x hgi;have hcj:=hrow2.cell j y hgj;have a0:w2.cell? ⟨g,i*6,none⟩=_:=hci 0 (by omega);have a1:w2.cell? ⟨g,i*6+1,none⟩=_:=hci 1 (by omega);have a2:w2.cell? ⟨g,i*6+2,none⟩=_:=hci 2 (by omega);have a3:w2.cell? ⟨g,i*6+3,none⟩=_:=hci 3 (by omega);have a4:w2.cell? ⟨g,i*6+4,none⟩=_:=hci 4 (by omega);have a5:w2.cell? ⟨g,i*6+5,none⟩=_:=hci 5 (by omega);simp only[eCMK,qB,qC] at a0 a1 a2 a3 a4 a5;have b0:w2.cell? ⟨g,j*6,none⟩=_:=hcj 0 (by omega);have b1:w2.cell? ⟨g,j*6+1,none⟩=_:=hcj 1 (by omega);have b2:w2.cell? ⟨g,j*6+2,none⟩=_:=hcj 2 (by omega);have b3:w2.cell? ⟨g,j*6+3,none⟩=_:=hcj 3 (by omega);have b4:w2.cell? ⟨g,j*6+4,none⟩=_:=hcj 4 (by omega);have b5:w2.cell? ⟨g,j*6+5,none⟩=_:=hcj 5 (by omega);simp only[eCMK,qB,qC] at b0 b1 b2 b3 b4 b5;clear hci hcj;have HCL:=zH (HCC.out w2 x.1 y.1);have HX:=zH (zA hrow2 (zA hgi (zA hgj hform)));clear hrow2 hrowf hgi hgj hform;(have wj:IntKind.i64.wrap ((i:Int)-1)=j:=by rw[IntWalk.i64_in _ (by omega)];omega);(obtain⟨q1,q2⟩:(i:Int)<n∧(j:Int)<n:=by omega);have HJ:=zH (zA hj hjP);clear hj hjP;have hgd:decide ((a:Int)<i)=true:=zE hia1;(go_wp2_with fail);refine region_tail 14 (by kernel_rfl) (by kernel_rfl) w2 hw2 ?_;simp only[List.take_succ_cons,List.take_zero,List.drop_succ_cons,List.drop_zero];(repeat (go_big_quiet_step (fail)));refine wpQuiet_nil ?_;(go_wp2_with fail);refine HCL.out.mono ?_;rintro e w3 ⟨rfl,hb3⟩;have hrow3:=HX.out.1.kept hb3;have hbl3:Below base w w3:=by
      (have h1:Below base w w2:=by rw[←hw2];exact H2.out.2.2.2.drew);exact h1.trans (hb3.mono (by rw[←hw2];exact hbsr2))
     have hs3:base≤w3.heap.size:=zT hbsr2 (by have:=hb3.size;rw[←hw2] at this;exact this);have H3:=zH (zA hrow3 (zA hbl3 hs3));clear hb3 hbl3 hrow3 HCL;by_cases hcx:cmp x.1 y.1<0
     ·have hcd:decide (cmp x.1 y.1<0)=true:=zE hcx;clear a0 b0 a1 b1 a2 b2 a3 b3 a4 b4 a5 b5;(go_wp2_with fail);obtain⟨g',hge,hbg3,cur3,hB,hgs3⟩:=H3.out.1.form (by omega);obtain rfl:g=g':=congrArg Addr.block (Option.some.inj hge);have hci:=H3.out.1.cell i x HX.out.2.1;have hcj:=H3.out.1.cell j y HX.out.2.2.1;have a0:w3.cell? ⟨g,i*6,none⟩=_:=hci 0 (by omega);have a1:w3.cell? ⟨g,i*6+1,none⟩=_:=hci 1 (by omega);have a2:w3.cell? ⟨g,i*6+2,none⟩=_:=hci 2 (by omega);have a3:w3.cell? ⟨g,i*6+3,none⟩=_:=hci 3 (by omega);have a4:w3.cell? ⟨g,i*6+4,none⟩=_:=hci 4 (by omega);have a5:w3.cell? ⟨g,i*6+5,none⟩=_:=hci 5 (by omega);simp only[eCMK,qB,qC] at a0 a1 a2 a3 a4 a5;have b0:w3.cell? ⟨g,j*6,none⟩=_:=hcj 0 (by omega);have b1:w3.cell? ⟨g,j*6+1,none⟩=_:=hcj 1 (by omega);have b2:w3.cell? ⟨g,j*6+2,none⟩=_:=hcj 2 (by omega);have b3:w3.cell? ⟨g,j*6+3,none⟩=_:=hcj 3 (by omega);have b4:w3.cell? ⟨g,j*6+4,none⟩=_:=hcj 4 (by omega);have b5:w3.cell? ⟨g,j*6+5,none⟩=_:=hcj 5 (by omega);simp only[eCMK,qB,qC] at b0 b1 b2 b3 b4 b5;have fa0:=hB.frozen (i*6);have fa1:=hB.frozen (i*6+1);have fa2:=hB.frozen (i*6+2);have fa3:=hB.frozen (i*6+3);have fa4:=hB.frozen (i*6+4);have fa5:=hB.frozen (i*6+5);have fb0:=hB.frozen (j*6);have fb1:=hB.frozen (j*6+1);have fb2:=hB.frozen (j*6+2);have fb3:=hB.frozen (j*6+3);have fb4:=hB.frozen (j*6+4);have fb5:=hB.frozen (j*6+5);have HSW:=zH (H3.out.1.swap i j x y HX.out.2.1 HX.out.2.2.1 H3.out.2.1 hbg H3.out.2.2);clear hci hcj hB hge;(have q3:i≠j:=by have:=HJ.out.1;omega);(have hszs:base≤((w3.setCells g (i*6) (eCMK y.1)).setCells g (j*6) (eCMK x.1)).heap.size:=by have:=(grown_setCells (eCMK x.1) (j*6) _ (grown_setCells (eCMK y.1) (i*6) w3 (grown_refl w3 (some g)))).size;exact zT H3.out.2.2 this);have HZ:=zH hszs;clear hszs;(go_region);all_goals
       (go_wp2_with fail);go_roundw
       case rel=>
        have HSV:=HSW.out;simp only[eCMK,World.setCells,Nat.add_assoc,Nat.reduceAdd] at HSV;refine⟨j,S0,y::S2,by go_num,by have:=H2.out.1;simpa using this,by have:=HJ.out.1;omega,fun q hq=>?_,?_,?_,?_⟩
        ·rcases List.mem_cons.1 hq with rfl | hq
         ·exact .inl hcx
         ·exact H2.out.2.1 q hq
        ·have h1:=HSV.1;(have hls:(((P++S0)++y::x::(S2++T'++Q)).set i y).set j x=P++S0++x::y::(S2++T'++Q):=by rw[HJ.out.1,←HJ.out.2];exact swap_next _ _ _ _);rw[hls] at h1;have e1:P++S0++x::y::(S2++T'++Q)=P++S0++x::(y::S2++T'++Q):=rfl;rw[e1] at h1;first | exact h1.drew | exact h1
        ·first | exact HSV.2.drew | exact HSV.2
        ·have hzz:=H3.out.2.2
         simpa using hzz
       case measure=>simp [intOf];have:=HJ.out.1;omega
     ·have hcd:decide (cmp x.1 y.1<0)=false:=zD hcx;have HIR:=zH (ins_round H2.out.1 HG.out.1 HG.out.2.1 HG.out.2.2.1 HG.out.2.2.2.1 (UpS.lead HC (by have:=HG.out.2.1;rw[←H2.out.1] at this;exact this.left) ((Ah.of_left HC (HG.out.2.2.1 y (by rw[←H2.out.1];simp) x (List.mem_cons_self ..))).2 hcx)) H2.out.2.1);(go_wp2_with fail);go_roundw
      case rel=>
       refine⟨o+1,(S0++[y])++x::S2,T',by go_num,by omega,HIR.out.1,HIR.out.2.1,?_,HIR.out.2.2.1,HIR.out.2.2.2,?_,H3.out.2.1,H3.out.2.2⟩
       ·simp only[zF,zI,List.length_nil];omega
       ·have h1:=H3.out.1;rw[←HX.out.2.2.2] at h1;(have e1:P++(S0++[y])++x::(S2++T'++Q)=P++((S0++[y])++x::S2)++T'++Q:=by simp);rw[e1] at h1;exact h1
      case measure=>simp [intOf];omega
    ·have hgd:decide ((a:Int)<i)=false:=zD (by omega);obtain rfl:S1=[]:=List.eq_nil_of_length_eq_zero (by omega);have HIR:=zH (ins_round H2.out.1 HG.out.1 HG.out.2.1 HG.out.2.2.1 HG.out.2.2.2.1 (fun p hp=>by cases hp) H2.out.2.1);(go_wp2_with fail);(go_quiet (fail));(go_wp2_with fail);go_roundw
     case rel=>
      refine⟨o+1,[]++x::S2,T',by go_num,by omega,HIR.out.1,HIR.out.2.1,?_,HIR.out.2.2.1,HIR.out.2.2.2,?_,below_drewN H2.out.2.2.2 _,hbsr2⟩
      ·simp only[zF,zI,List.length_nil];simp only[List.length_nil] at hS12;omega
      ·have h1:=H2.out.2.2.1;(have e1:P++[]++x::(S2++T'++Q)=P++([]++x::S2)++T'++Q:=by simp);rw[e1] at h1;exact h1.kept (below_drewN (zR _ _) _)
     case measure=>simp [intOf];omega
  ·obtain rfl:T=[]:=by
    rcases T with _ | ⟨x,T'⟩
    ·rfl
    ·simp at hpl;omega
   (go_wp2_with fail);(go_end0);exact⟨rfl,S,by have:=HG.out.1;rwa [List.append_nil] at this,HG.out.2.1,by have:=HG.out.2.2.2.2.1;rwa [List.append_nil] at this,HG.out.2.2.2.2.2⟩
def MergePostMK (cmp:{s:ByteArray//s.size≤90000}×Pr→{s:ByteArray//s.size≤90000}×Pr→Int) (w:World) (base:Nat) (A:Option Addr) (c n:Nat) (P X Q:List eDMK) (e:Ending) (w':World):Prop:=
 e= .returned (.tuple #[])∧∃M:List eDMK,M.Perm X∧UpS cmp M∧RowDMK w' base (.slice A n c) n (P++M++Q)∧Below base w w'
theorem swap_next2 {β:Type}(P Q:List β)(x y:β):((P++x::y::Q).set P.length y).set (P.length+1) x=P++y::x::Q:=by
 simp [List.set_append]
theorem get_r {β:Type}(P R Q:List β)(x y:β)(k:Nat)(h:R[k]? =some y):(P++x::(R++Q))[P.length+1+k]? =some y:=by
 rw[List.getElem?_append_right (by omega)];have e:P.length+1+k-P.length=k+1:=by omega
 rw[e,qB,List.getElem?_append_left (List.getElem?_eq_some_iff.1 h).1,h]
theorem mergeLMK_any (cmp:{s:ByteArray//s.size≤90000}×Pr→{s:ByteArray//s.size≤90000}×Pr→Int)(HC:Cmp cmp)(hcall:∀W x y,Calls Tryz.prog 89 #[.agg (eCMK x).toArray,.agg (eCMK y).toArray] W fun e w'=>e= .returned (.int .i64 (cmp x y))∧Below W.heap.size W w')
  (w:World) (base:Nat) (A:Option Addr) (c:Nat) (n a m b:Nat) (P R Q:List eDMK) (x:eDMK) (hn:n≤1000000) (hP:P.length=a) (hm:m=a+1) (hR:m+R.length=b) (hup:UpS cmp R) (hcame:∀q∈R,x.2<q.2) (hbs:base≤w.heap.size)
  (hrow:RowDMK w base (.slice A n c) n (P++x::(R++Q))):
  Calls Tryz.prog 221 #[.slice A n c,.int .i64 a,.int .i64 m,.int .i64 b,.func (.func 89) #[] #[]] w (MergePostMK cmp w base A c n P (x::R) Q):=by
 have hlen:m+R.length+Q.length=n:=by rw[←hrow.1,hm,←hP];simp only[zF,zI];omega
 obtain⟨g,rfl,hbg,cur0,hB0,hgs0⟩:=hrow.form (by omega);have HR0:=zH (zA hrow (zA hup hcame));have HCC:=zH hcall;clear hrow hup hcame hcall hB0;have w0:IntKind.i64.wrap ((m:Int)-a)=1:=by rw[IntWalk.i64_in _ (by omega)];omega
 obtain⟨hm1,hm2⟩:a<m∧m≤a+1:=by omega
 clear hm;go_enter Tryz.func221,Tryz.ntmps221
 go_wp2_with fail
 go_loopw [10,11] (fun iv jv wr=>∃(i j:Nat),iv= .int .i64 i∧jv= .int .i64 j∧m≤i∧i≤j∧j≤b∧(∀z,0<i-m→R[i-m-1]? =some z→Ah cmp z x)∧(∀z,R[j-m]? =some z→Ah cmp x z)∧RowDMK wr base (.slice (some ⟨g,0,none⟩) n c) n (P++x::(R++Q))∧Below base w wr∧base≤wr.heap.size) (fun iv jv _=>(intOf jv-intOf iv).toNat)
 case atStart=>
  refine⟨m,b,rfl,rfl,zN _,by omega,zN _,fun z h=>(by omega),fun z h=>?_,HR0.out.1,zR _ _,hbs⟩;have:=(List.getElem?_eq_some_iff.1 h).1;omega
 case round=>
  obtain⟨i,j,rfl,rfl,hmi,hij,hjb,hlo,hhi,hrow,hbl,hbsr⟩:=hrel;have HG:=zH (zA hlo (zA hhi (zA hrow hbl)));clear hlo hhi hrow hbl;by_cases hlt:i<j
  ·have hlt1:(i:Int)<j:=by omega
   obtain⟨h,hh⟩:∃h:Nat,((i:Int)+j)/2=h:=⟨(i+j)/2,by omega⟩;(obtain⟨hih,hhj⟩:i≤h∧h<j:=by omega);obtain⟨y,hy⟩:∃y,R[h-m]? =some y:=⟨_,zM (by omega)⟩;have hyR:y∈R:=List.mem_of_getElem? hy;obtain⟨w2,hw2⟩:∃w2,wr.drew=w2:=⟨_,rfl⟩;have hrow2:=HG.out.2.2.1.drew;rw[hw2] at hrow2;(have hgx:(P++x::(R++Q))[a]? =some x:=by rw[←hP];exact mid_get _ _ _);have hgy:(P++x::(R++Q))[h]? =some y:=by
    have:=get_r P R Q x y (h-m) hy
    rwa [show P.length+1+(h-m)=h by omega] at this
   have hcx:=hrow2.cell a x hgx;have hcy:=hrow2.cell h y hgy;have a0:w2.cell? ⟨g,a*6,none⟩=_:=hcx 0 (by omega);have a1:w2.cell? ⟨g,a*6+1,none⟩=_:=hcx 1 (by omega);have a2:w2.cell? ⟨g,a*6+2,none⟩=_:=hcx 2 (by omega);have a3:w2.cell? ⟨g,a*6+3,none⟩=_:=hcx 3 (by omega);have a4:w2.cell? ⟨g,a*6+4,none⟩=_:=hcx 4 (by omega);have a5:w2.cell? ⟨g,a*6+5,none⟩=_:=hcx 5 (by omega);simp only[eCMK,qB,qC] at a0 a1 a2 a3 a4 a5;have b0:w2.cell? ⟨g,h*6,none⟩=_:=hcy 0 (by omega);have b1:w2.cell? ⟨g,h*6+1,none⟩=_:=hcy 1 (by omega);have b2:w2.cell? ⟨g,h*6+2,none⟩=_:=hcy 2 (by omega);have b3:w2.cell? ⟨g,h*6+3,none⟩=_:=hcy 3 (by omega);have b4:w2.cell? ⟨g,h*6+4,none⟩=_:=hcy 4 (by omega);have b5:w2.cell? ⟨g,h*6+5,none⟩=_:=hcy 5 (by omega);simp only[eCMK,qB,qC] at b0 b1 b2 b3 b4 b5;clear hcx hcy;have HCL:=zH (HCC.out w2 y.1 x.1);have HX:=zH (zA hrow2 (zA hy hyR));clear hrow2 hy hyR hgx hgy;(obtain⟨q1,q2,q3⟩:(i:Int)+j≤2000000∧(h:Int)<n∧(a:Int)<n:=by omega);have wh:IntKind.i64.wrap ((h:Int)+1)=h+1:=IntWalk.i64_in _ (by omega);(go_wp2_with fail);refine region_tail 9 (by kernel_rfl) (by kernel_rfl) w2 hw2 ?_;simp only[List.take_succ_cons,List.take_zero,List.drop_succ_cons,List.drop_zero];(repeat (go_big_quiet_step (fail)));refine wpQuiet_nil ?_;(go_wp2_with fail);refine HCL.out.mono ?_;rintro e w3 ⟨rfl,hb3⟩;have hrow3:=HX.out.1.kept hb3;have hbl3:Below base w w3:=by
    (have h1:Below base w w2:=by rw[←hw2];exact HG.out.2.2.2.drew);exact h1.trans (hb3.mono (by rw[←hw2];exact hbsr))
   have hs3:base≤w3.heap.size:=zT hbsr (by have:=hb3.size;rw[←hw2] at this;exact this);have H3:=zH (zA hrow3 (zA hbl3 hs3));clear hb3 hbl3 hrow3 HCL;by_cases hcm:cmp y.1 x.1<0
   ·have hcd:decide (cmp y.1 x.1<0)=true:=zE hcm;(go_wp2_with fail);go_roundw
    case rel=>
     refine⟨h+1,j,by go_num,rfl,by omega,by omega,hjb,fun z _ hz=>?_,HG.out.2.1,H3.out.1,H3.out.2.1,H3.out.2.2⟩;rw[show h+1-m-1=h-m by omega,HX.out.2.1] at hz;(cases hz);exact .inl hcm
    case measure=>simp [intOf];omega
   ·have hcd:decide (cmp y.1 x.1<0)=false:=zD hcm;(go_wp2_with fail);go_roundw
    case rel=>
     refine⟨i,h,rfl,by go_num,hmi,hih,by omega,HG.out.1,fun z hz=>?_,H3.out.1,H3.out.2.1,H3.out.2.2⟩;rw[HX.out.2.1] at hz;(cases hz);exact(Ah.of_left HC (HR0.out.2.2 y HX.out.2.2)).2 (by omega)
    case measure=>simp [intOf];omega
  ·obtain rfl:i=j:=by omega
   clear hlt hij;obtain⟨R1,hR1⟩:∃R1,R.take (i-m)=R1:=⟨_,rfl⟩;obtain⟨R2,hR2⟩:∃R2,R.drop (i-m)=R2:=⟨_,rfl⟩;(have hl1:R1.length=i-m:=by rw[←hR1,zL];omega);have HM:=zH (by
    have h1:=UpS.put HC HR0.out.2.1 (i-m) (by omega) HG.out.1 HG.out.2.1;have h2:=put_perm R x (i-m);rw[hR1,hR2] at h1 h2;exact zA h1 h2)
   (have hRR:R1++R2=R:=by rw[←hR1,←hR2,List.take_append_drop]);have HRR:=zH hRR;clear hRR hR1 hR2;have wi:IntKind.i64.wrap ((i:Int)-1)=i-1:=IntWalk.i64_in _ (by omega);(go_wp2_with fail);go_loopw [13] (fun kv wr2=>∃(k:Nat) (V1 V2:List eDMK),kv= .int .i64 k∧V1++V2=R1∧a+V1.length=k∧RowDMK wr2 base (.slice (some ⟨g,0,none⟩) n c) n (P++V1++x::(V2++(R2++Q)))∧Below base w wr2∧base≤wr2.heap.size) (fun kv _=>i-(intOf kv).toNat)
   case atStart=>
    refine⟨a,[],R1,rfl,rfl,rfl,?_,HG.out.2.2.2,hbsr⟩;(have:P++[]++x::(R1++(R2++Q))=P++x::(R++Q):=by rw[←HRR.out];simp);rw[this];exact HG.out.2.2.1
   case round=>
    obtain⟨k,V1,V2,rfl,hVV,hVk,hrow,hbl,hbs2⟩:=hrel;(have hV12:V1.length+V2.length=R1.length:=by rw[←hVV,zF]);have H2:=zH (zA hVV (zA hrow hbl));clear hVV hrow hbl;by_cases hki:k+1<i
    ·(have hki1:(k:Int)<(i:Int)-1:=by omega);obtain⟨y,V3,rfl⟩:∃y V3,V2=y::V3:=by
      rcases V2 with _ | ⟨y,V3⟩
      ·simp only[List.length_nil] at hV12;omega
      ·exact⟨y,V3,rfl⟩
     simp only[zI] at hV12;obtain⟨k1,hk1⟩:∃k1:Nat,k1=k+1:=⟨_,rfl⟩;(have hPV:(P++V1).length=k:=by rw[zF];omega);(have hgx:((P++V1)++x::(y::V3++(R2++Q)))[k]? =some x:=by rw[←hPV];exact mid_get _ _ _);(have hgy:((P++V1)++x::(y::V3++(R2++Q)))[k1]? =some y:=by rw[hk1,←hPV];exact mid_get1 _ _ _ _);have hcx:=H2.out.2.1.cell k x hgx;have hcy:=H2.out.2.1.cell k1 y hgy;have a0:wr.cell? ⟨g,k*6,none⟩=_:=hcx 0 (by omega);have a1:wr.cell? ⟨g,k*6+1,none⟩=_:=hcx 1 (by omega);have a2:wr.cell? ⟨g,k*6+2,none⟩=_:=hcx 2 (by omega);have a3:wr.cell? ⟨g,k*6+3,none⟩=_:=hcx 3 (by omega);have a4:wr.cell? ⟨g,k*6+4,none⟩=_:=hcx 4 (by omega);have a5:wr.cell? ⟨g,k*6+5,none⟩=_:=hcx 5 (by omega);simp only[eCMK,qB,qC] at a0 a1 a2 a3 a4 a5;have b0:wr.cell? ⟨g,k1*6,none⟩=_:=hcy 0 (by omega);have b1:wr.cell? ⟨g,k1*6+1,none⟩=_:=hcy 1 (by omega);have b2:wr.cell? ⟨g,k1*6+2,none⟩=_:=hcy 2 (by omega);have b3:wr.cell? ⟨g,k1*6+3,none⟩=_:=hcy 3 (by omega);have b4:wr.cell? ⟨g,k1*6+4,none⟩=_:=hcy 4 (by omega);have b5:wr.cell? ⟨g,k1*6+5,none⟩=_:=hcy 5 (by omega);simp only[eCMK,qB,qC] at b0 b1 b2 b3 b4 b5;obtain⟨g',hge,hbg3,cur3,hB,hgs3⟩:=H2.out.2.1.form (by omega);obtain rfl:g=g':=congrArg Addr.block (Option.some.inj hge);have fa0:=hB.frozen (k*6);have fa1:=hB.frozen (k*6+1);have fa2:=hB.frozen (k*6+2);have fa3:=hB.frozen (k*6+3);have fa4:=hB.frozen (k*6+4);have fa5:=hB.frozen (k*6+5);have fb0:=hB.frozen (k1*6);have fb1:=hB.frozen (k1*6+1);have fb2:=hB.frozen (k1*6+2);have fb3:=hB.frozen (k1*6+3);have fb4:=hB.frozen (k1*6+4);have fb5:=hB.frozen (k1*6+5);have HSW:=zH (by
      have h1:=H2.out.2.1.swap k k1 x y hgx hgy H2.out.2.2 hbg hbs2;have hls:(((P++V1)++x::(y::V3++(R2++Q))).set k y).set k1 x=P++(V1++[y])++x::(V3++(R2++Q)):=by
       rw[hk1,←hPV];have:=swap_next2 (P++V1) (V3++(R2++Q)) x y;simp only[List.cons_append];rw[this];simp
      rw[hls] at h1;have h2:base≤((wr.setCells g (k*6) (eCMK y.1)).setCells g (k1*6) (eCMK x.1)).heap.size:=zT hbs2 (grown_setCells (eCMK x.1) (k1*6) _ (grown_setCells (eCMK y.1) (k*6) wr (grown_refl wr (some g)))).size;exact zA h1 h2)
     (have wk:IntKind.i64.wrap ((k:Int)+1)=k1:=by rw[IntWalk.i64_in _ (by omega)];omega);(obtain⟨q2,q3,q4⟩:(k:Int)<n∧(k1:Int)<n∧k≠k1:=by omega);have HK:=zH hk1;clear hcx hcy hB hge hgx hgy hPV hk1;(go_wp2_with fail);(go_region);all_goals
      (go_wp2_with fail);go_roundw
      case rel=>
       have HSV:=HSW.out;simp only[eCMK,World.setCells,Nat.add_assoc,Nat.reduceAdd] at HSV;have hsz9:=HSV.2;(simp at hsz9);refine⟨k1,V1++[y],V3,by go_num,by have:=H2.out.1;simpa using this,by rw[zF,List.length_singleton];have:=HK.out;omega,?_,?_,by simpa using hsz9⟩
       ·first | exact HSV.1.1.drew | exact HSV.1.1
       ·first | exact HSV.1.2.drew | exact HSV.1.2
      case measure=>simp [intOf];have:=HK.out;omega
    ·obtain rfl:V2=[]:=List.eq_nil_of_length_eq_zero (by omega);(go_wp2_with fail);(go_end0);refine⟨rfl,R1++x::R2,HM.out.2,HM.out.1,?_,H2.out.2.2⟩;have h1:=H2.out.2.1;have h2:=H2.out.1;rw[List.append_nil] at h2;rw[h2] at h1;(have e1:P++R1++x::([]++(R2++Q))=P++(R1++x::R2)++Q:=by simp);rw[e1] at h1;exact h1
end Go.Proofs.YtnpehjgnplaabaaGreatDoor
